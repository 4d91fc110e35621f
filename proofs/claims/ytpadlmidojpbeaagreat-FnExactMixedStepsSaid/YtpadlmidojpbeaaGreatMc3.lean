/- Joined texts 3. No condition. -/
import Derived.Deep.AppendLies
import Derived.Deep.RegionHeld3
import Derived.Deep.RegionLaw
import Derived.Deep.CutRange
import Derived.Deep.DeepCutAuto
import Derived.Test.YtpadlmidojpbeaaGreatMc0
import Derived.Test.YtpadlmidojpbeaaGreatMc1
import Derived.Test.YtpadlmidojpbeaaGreatMc2
set_option linter.unusedVariables false
set_option linter.unusedSimpArgs false
set_option maxRecDepth 100000
set_option maxHeartbeats 64000000
namespace Go.Proofs.YtpadlmidojpbeaaGreat
open Go Go.RowKit
def mC (k0:Nat) (l:LayD):LayD:=⟨⟨(k0:Nat),(k0+1:Nat),(k0+2:Nat),dP (k0+3) l.ws.length,dP (k0+3+l.ws.length) l.bs.length⟩,l.wa,l.wk,l.ba,l.bk⟩
def LayD.w (l:LayD):Nat:=3+l.ws.length+l.bs.length
def eD (us:List LayD):Nat:=(us.map LayD.w).sum
def cQ:Nat→List LayD→List LayD
 | _,[]=>[]
 | k0,l :: us=>mC k0 l :: cQ (k0+l.w) us
theorem wE (A:List LayD) (l:LayD):eD (A ++ [l])=eD A+l.w:=by simp [eD]
theorem rK (A B:List LayD):eD (A ++ B)=eD A+eD B:=by simp [eD]
theorem kP (l:LayD) (B:List LayD):eD (l :: B)=l.w+eD B:=by simp [eD]
theorem nY (k0:Nat) (A:List LayD):(cQ k0 A).length=A.length:=by
 induction A generalizing k0 with
 | nil=>rfl
 | cons o A ih=>simp [cQ,ih]
theorem zT (k0:Nat) (A:List LayD) (l:LayD):cQ k0 (A ++ [l])=cQ k0 A ++ [mC (k0+eD A) l]:=by
 induction A generalizing k0 with
 | nil=>simp [cQ,eD]
 | cons p A ih=>rw [List.cons_append,cQ,ih,kP,cQ,List.cons_append,Nat.add_assoc]
theorem Bz (k0:Nat) (A B:List LayD) (l:LayD):(cQ k0 (A ++ l :: B))[A.length]? = some (mC (k0+eD A) l):=by
 induction A generalizing k0 with
 | nil=>simp [cQ,eD]
 | cons p A ih=>rw [List.cons_append,cQ,List.length_cons,List.getElem?_cons_succ,ih,kP,Nat.add_assoc]
theorem sQ {k:Nat} (h:k≤1000000000):(Lit.int .i64 (k:Int)).wf=true:=by
 simp [Lit.wf,IntKind.min,IntKind.max,IntKind.signed,IntKind.bits]
 omega
theorem CO (k0:Nat) (l:LayD) (h:k0+10≤1000000000):(mC k0 l).ok :=
 ⟨⟨tK _ _,tK _ _⟩,sQ (by omega),sQ (by omega),sQ (by omega)⟩
theorem Own.markRow {w w2:World} {lo hi:Nat} {A B:List RowD} {ad:Option Addr} {cap k0:Nat} {xs:List Nat} (h:Own w lo hi (A ++ aK ad cap xs :: B))
  (ho:w2.ownsRow lo 28 1 (.slice ad xs.length cap) xs.length ((dP k0 xs.length).map (Value.float .f32)))
  (hg:w.grownBy w2 (Value.slice ad xs.length cap).ownBlock):Own w2 lo hi (A ++ aK ad cap (dP k0 xs.length) :: B):=by
 have hl:(dP k0 xs.length).length=xs.length:=gG _ _
 refine h.setAt (y:=aK ad cap (dP k0 xs.length)) hg ?_ (by show Value.slice ad (dP k0 xs.length).length cap=Value.slice ad xs.length cap;rw [hl])
 refine ⟨?_,?_⟩
 ·show w2.ownsRow lo 28 1 (.slice ad (dP k0 xs.length).length cap) (dP k0 xs.length).length _
  rw [hl];exact ho
 ·intro g' e
  have h3:=(h.row (aK ad cap xs) (List.mem_append_right _ (List.mem_cons_self ..))).top g'
  have e5:(Value.slice ad (dP k0 xs.length).length cap).ownBlock=some g':=e
  rw [hl] at e5
  exact h3 e5
theorem OwnR.markLAt {w w2 w3:World} {lo hi n cap g k0:Nat} {A B:List LayD} {l:LayD} (h:OwnR aX w lo hi (some ⟨g,0,none⟩) n cap (A ++ l :: B)) (hk:k0≤100000000)
  (ho:w2.ownsRow lo 28 1 (.slice l.wa l.ws.length l.wk) l.ws.length ((dP (k0+3) l.ws.length).map (Value.float .f32)))
  (hg:(setCs w g (A.length * 5) [.int .i64 (k0:Nat),.int .i64 (k0+1:Nat),.int .i64 (k0+2:Nat)]).grownBy w2 (Value.slice l.wa l.ws.length l.wk).ownBlock)
  (ho3:w3.ownsRow lo 28 1 (.slice l.ba l.bs.length l.bk) l.bs.length ((dP (k0+3+l.ws.length) l.bs.length).map (Value.float .f32)))
  (hg3:w2.grownBy w3 (Value.slice l.ba l.bs.length l.bk).ownBlock) :
  OwnR aX w3 lo hi (some ⟨g,0,none⟩) n cap (A ++ mC k0 l :: B):=by
 have h1:=jA h.own (A.length * 5) [.int .i64 (k0:Nat),.int .i64 (k0+1:Nat),.int .i64 (k0+2:Nat)]
 have e1:(A ++ l :: B).flatMap aX.inn=A.flatMap aX.inn ++ aK l.wa l.wk l.ws :: aK l.ba l.bk l.bs :: B.flatMap aX.inn:=by
  rw [List.flatMap_append,List.flatMap_cons];rfl
 have e2:(A ++ mC k0 l :: B).flatMap aX.inn=A.flatMap aX.inn ++ aK l.wa l.wk (dP (k0+3) l.ws.length) :: aK l.ba l.bk (dP (k0+3+l.ws.length) l.bs.length) :: B.flatMap aX.inn:=by
  rw [List.flatMap_append,List.flatMap_cons];rfl
 rw [e1,←List.cons_append] at h1
 have h2:=h1.markRow (k0:=k0+3) ho hg
 rw [List.append_cons] at h2
 have h3:=h2.markRow (k0:=k0+3+l.ws.length) ho3 hg3
 rw [←List.append_cons,List.cons_append,←e2] at h3
 have hl:(dP (k0+3) l.ws.length).length=l.ws.length:=gG _ _
 have hl2:(dP (k0+3+l.ws.length) l.bs.length).length=l.bs.length:=gG _ _
 have e3:(A ++ mC k0 l :: B).flatMap aX.cells=iO ((A ++ l :: B).flatMap aX.cells) (A.length * 5) [.int .i64 (k0:Nat),.int .i64 (k0+1:Nat),.int .i64 (k0+2:Nat)]:=by
  have h4:=tM aX (A ++ l :: B) (k:=A.length) (by simp) (mC k0 l)
  rw [xM] at h4
  rw [←h4]
  have e4:aX.cells (mC k0 l)=[.int .i64 (k0:Nat),.int .i64 (k0+1:Nat),.int .i64 (k0+2:Nat)] ++ [.slice l.wa l.ws.length l.wk,.slice l.ba l.bs.length l.bk]:=by
   show LayD.cells (mC k0 l) = _
   unfold LayD.cells mC
   simp [hl,hl2]
  rw [e4,zP]
  have g3:(iO ((A ++ l :: B).flatMap aX.cells) (A.length * 5) [.int .i64 (k0:Nat),.int .i64 (k0+1:Nat),.int .i64 (k0+2:Nat)])[A.length * 5+3]? = some (.slice l.wa l.ws.length l.wk):=by
   rw [tQ _ _ _ _ (.inr (by simp))]
   exact (pD aX (A ++ l :: B) (k:=A.length) (j:=3) (xN A B l) (by decide)).trans rfl
  have g4:(iO ((A ++ l :: B).flatMap aX.cells) (A.length * 5) [.int .i64 (k0:Nat),.int .i64 (k0+1:Nat),.int .i64 (k0+2:Nat)])[A.length * 5+4]? = some (.slice l.ba l.bs.length l.bk):=by
   rw [tQ _ _ _ _ (.inr (by simp))]
   exact (pD aX (A ++ l :: B) (k:=A.length) (j:=4) (xN A B l) (by decide)).trans rfl
  show ((iO ((A ++ l :: B).flatMap aX.cells) (A.length * 5) [.int .i64 (k0:Nat),.int .i64 (k0+1:Nat),.int .i64 (k0+2:Nat)]).set (A.length * 5+3) _).set (A.length * 5+3+1) _ = _
  rw [zO g3]
  exact zO g4
 refine ⟨?_,?_,fun p hp=>?_⟩
 ·rw [e3];exact h3
 ·have:=h.len;simp at this ⊢;exact this
 ·rcases List.mem_append.1 hp with hp | hp
  ·exact h.ok p (List.mem_append_left _ hp)
  ·rcases List.mem_cons.1 hp with rfl | hp
   ·exact CO _ _ (by omega)
   ·exact h.ok p (List.mem_append_right _ (List.mem_cons_of_mem _ hp))
theorem DD (w:World) {lo hi:Nat} {ad:Option Addr} {n cap:Nat} {os:List LayD} (k0:Nat) (h:OwnR aX w lo hi ad n cap os) (hhi:hi≤w.heap.size) (hn:n≤1048576) (hk:k0+eD os≤10000000) (hi2:∀o∈os,o.ws.length≤1048576∧o.bs.length≤1048576) :
  Calls Tryz.prog 40 #[.slice ad n cap,.int .i64 k0] w fun e w'=>e=.returned (.int .i64 (k0+eD os:Nat))∧Hid (OwnR aX w' lo hi ad n cap (cQ k0 os))∧Touch lo hi w w':=by
 have HN:=I h.len;have HI2:=I hi2;have HH:=I h;clear hi2 h
 go_enter Tryz.func40,Tryz.ntmps40
 go_wp2
 go_loopw [1,5] (fun q i wt => ∃k k1:Nat,i=.int .i64 k∧q=.int .i64 k1∧k≤n∧k1≤10000000∧Hid (∃A B,os=A ++ B∧A.length=k∧k1=k0+eD A∧OwnR aX wt lo hi ad n cap (cQ k0 A ++ B))∧Hid (Touch lo hi w wt)) (fun _ i _=>n - (intOf i).toNat)
 case atStart=>exact ⟨0,k0,rfl,rfl,Nat.zero_le _,by omega,I ⟨[],os,rfl,rfl,rfl,HH.out⟩,I (Touch.refl _ _ _)⟩
 case round =>
  clear HH
  obtain ⟨k,k1,rfl,rfl,hkn,hk1,HX,HT⟩:=hrel
  by_cases hlt:k < n
  ·obtain ⟨A,B0,e1,e2,e3,hown⟩:=HX.out
   cases B0 with
   | nil=>exfalso;have:=HN.out;rw [e1,List.append_nil] at this;omega
   | cons o B =>
    have HE1:=I e1;have HE3:=I e3;have HE2:=I e2;have HO:=I hown
    have hml:(cQ k0 A).length=k:=by rw [nY,e2]
    have HML:=I hml
    have hget:=xN (cQ k0 A) B o
    rw [hml] at hget
    obtain ⟨g,rfl,hgr,⟨p0,p1,p2,p3,p4⟩,hfz,hrf,hrf2⟩:=xV hown hget
    have hmb:=HI2.out o (by rw [e1];simp)
    have htot:k1+o.w≤10000000:=by
     have:=hk
     rw [e1,rK,kP] at this
     omega
    unfold LayD.w at htot
    have hm:=fun W (ho:W.ownsRow lo 28 1 (.slice o.wa o.ws.length o.wk) o.ws.length (o.ws.map (Value.float .f32)))=>gH lo o.wa o.wk o.ws.length (o.ws.map (Value.float .f32)) (k1+3) W hmb.1 (by omega) ho
    have hm2:=fun W (ho:W.ownsRow lo 28 1 (.slice o.ba o.bs.length o.bk) o.bs.length (o.bs.map (Value.float .f32)))=>gH lo o.ba o.bk o.bs.length (o.bs.map (Value.float .f32)) (k1+3+o.ws.length) W hmb.2 (by omega) ho
    have HM:=I hm;have HM2:=I hm2
    have hown1:=jA hown.own (k * 5) [.int .i64 (k1:Nat),.int .i64 (k1+1:Nat),.int .i64 (k1+2:Nat)]
    have hin1:aK o.wa o.wk o.ws∈(cQ k0 A ++ o :: B).flatMap aX.inn:=List.mem_flatMap.2 ⟨o,by simp,List.mem_cons_self ..⟩
    have HW:=I (hown1.row (aK o.wa o.wk o.ws) (List.mem_cons_of_mem _ hin1))
    have htw:=((aB wr g (k * 5) [.int .i64 (k1:Nat),.int .i64 (k1+1:Nat),.int .i64 (k1+2:Nat)]).mono hgr.1 hgr.2.1)
    have HTW:=I htw;have HOW:=I hown1;have HGR:=I hgr
    have HG0:=I hget
    clear e1 e2 e3 hown hget hrf hrf2 hm hm2 htw hml hgr hown1 hin1
    obtain ⟨m,hm0⟩:∃m,m=o.ws.length:=⟨_,rfl⟩
    obtain ⟨m2,hm1⟩:∃m,m=o.bs.length:=⟨_,rfl⟩
    rw [←hm0] at p3 hmb htot HM HM2
    rw [←hm1] at p4 hmb htot HM2
    have HM0:=I hm0;have HM1:=I hm1;clear hm0 hm1
    go_wp2_with fail
    refine (HM.out _ (by rw [HM0.out];exact HW.out.own)).mono ?_
    rintro e w2 ⟨rfl,ho2,hg2⟩
    have e1:(cQ k0 A ++ o :: B).flatMap aX.inn=(cQ k0 A).flatMap aX.inn ++ aK o.wa o.wk o.ws :: aK o.ba o.bk o.bs :: B.flatMap aX.inn:=by
     rw [List.flatMap_append,List.flatMap_cons];rfl
    have how:=HOW.out
    rw [e1,←List.cons_append] at how
    have how2:=how.markRow (k0:=k1+3) (by rw [←HM0.out];exact ho2) (by rw [←HM0.out];exact hg2)
    have HWB:=I (how2.row (aK o.ba o.bk o.bs) (List.mem_append_right _ (List.mem_cons_of_mem _ (List.mem_cons_self ..))))
    have hc2:=how2.cell (List.mem_append_left _ (List.mem_cons_self ..))
    have q4:w2.cell? ⟨g,k * 5+4,none⟩=some (.slice o.ba m2 o.bk):=by
     rw [hc2.2.2.1 (k * 5+4) (by
      have h5:(iO ((cQ k0 A ++ o :: B).flatMap aX.cells) (k * 5) [.int .i64 (k1:Nat),.int .i64 (k1+1:Nat),.int .i64 (k1+2:Nat)]).length=(cQ k0 A ++ o :: B).length * 5:=by
       have:∀(vs:List Value) i cs,(iO vs i cs).length=vs.length:=by
        intro vs i cs
        induction cs generalizing vs i with
        | nil=>rfl
        | cons c cs ih=>show (iO (vs.set i c) (i+1) cs).length = _;rw [ih,List.length_set]
       rw [this,pC];rfl
      rw [h5,List.length_append,HML.out,List.length_cons];omega),tQ _ _ _ _ (.inr (by simp)),HM1.out]
     exact (pD aX (cQ k0 A ++ o :: B) (k:=k) (j:=4) HG0.out (by decide)).trans rfl
    have HG2:=I hg2;have HO2:=I ho2
    clear how how2 hc2 e1 ho2 hg2 p0 p1 p2 p3 p4 hfz HM HOW HG0
    go_wp2_with fail
    refine (HM2.out _ (by rw [HM1.out];exact HWB.out.own)).mono ?_
    rintro e w3 ⟨rfl,ho3,hg3⟩
    have hmk:=OwnR.markLAt (A:=cQ k0 A) (B:=B) (l:=o) HO.out (k0:=k1) (by omega) (by rw [←HM0.out];exact HO2.out) (by rw [HML.out,←HM0.out];exact HG2.out) (by rw [←HM0.out,←HM1.out];exact ho3) (by rw [←HM1.out];exact hg3)
    have ht2:Touch lo hi w w3:=(HT.out.trans (HTW.out.trans (Touch.of_grown HW.out (by rw [aK,RowD.val,←HM0.out];exact HG2.out)))).trans (Touch.of_grown HWB.out (by rw [aK,RowD.val,←HM1.out];exact hg3))
    have HMK:=I hmk;have HT2:=I ht2
    clear hmk ht2 ho3 hg3 HO HTW HWB HW q4 HM2 HT HG2 HO2
    go_wp2
    refine ⟨?rel,?measure⟩
    case rel=>exact ⟨k+1,k1+3+m+m2,by go_num,by go_num,hlt,by omega,I ⟨A ++ [o],B,by rw [HE1.out];simp,by simp [HE2.out],by rw [wE,HE3.out,LayD.w,HM0.out,HM1.out];omega,by rw [zT,←HE3.out,List.append_assoc];exact HMK.out⟩,HT2⟩
    case measure=>simp [intOf];omega
  ·have hkn2:k=n:=by omega
   subst hkn2
   obtain ⟨A,B,e1,e2,e3,hown⟩:=HX.out
   have hB:B=[]:=by
    have:=HN.out;rw [e1,List.length_append,e2] at this
    exact List.eq_nil_of_length_eq_zero (by omega)
   subst hB
   rw [List.append_nil] at e1 hown
   subst e1
   have HO:=I hown;clear hown HX
   subst e3
   clear e2
   go_wp2
   go_ret
   exact ⟨rfl,HO,HT.out⟩
theorem CQ (w:World) {lo hi:Nat} {ad:Option Addr} {n cap:Nat} {os:List LayD} (k0:Nat) (h:OwnR aX w lo hi ad n cap os) (hhi:hi≤w.heap.size) (hn:n≤1048576) (hk:k0+eD os≤10000000) (hi2:∀o∈os,o.ws.length≤1048576∧o.bs.length≤1048576) :
  Calls Tryz.prog 16 #[.agg #[.slice ad n cap],.int .i64 k0] w fun e w'=>e=.returned (.int .i64 (k0+eD os:Nat))∧Hid (OwnR aX w' lo hi ad n cap (cQ k0 os))∧Touch lo hi w w':=by
 have b1:=aE w (.cells #[.slice ad n cap] 35)
 have K:=I (DD _ k0 (h.below b1) (Nat.le_trans hhi b1.size) hn hk hi2)
 have B:=I b1
 clear h b1 hhi hi2
 go_enter Tryz.func16,Tryz.ntmps16
 go_wp2_with fail
 refine K.out.mono ?_
 rintro e w1 ⟨rfl,hr,ht⟩
 go_wp2
 go_ret
 exact ⟨rfl,hr,(Touch.of_below B.out).trans ht⟩
theorem xX {os:List LayD} {L R:Int} (h:L=lJ LayD.n os R) (h0:0≤L) (h1:R≤1048576):os.length≤1048576∧L≤1048576∧(∀o∈os,o.ws.length≤1048576∧o.bs.length≤1048576)∧eD os≤8000000:=by
 unfold lJ at h
 split at h
 ·rename_i hle
  have ht:eD os=3 * os.length+jJ LayD.n os os.length:=by
   unfold eD jJ
   rw [List.take_length]
   clear h hle h0 h1
   induction os with
   | nil=>rfl
   | cons o os ih=>rw [List.map_cons,List.sum_cons,ih,List.map_cons,List.sum_cons,List.length_cons];unfold LayD.w LayD.n;omega
  refine ⟨by omega,by omega,fun o ho=>?_,by omega⟩
  have:=Bu LayD.n ho
  unfold LayD.n at *
  omega
 ·omega
theorem Bd {us os:List LayD} (h:us.map LayD.toLayP=os.map LayD.toLayP):eD us=eD os:=by
 have h1:∀l:List LayD,eD l=((l.map LayD.toLayP).map (fun p:LayP=>3+p.ws.length+p.bs.length)).sum:=by
  intro l;unfold eD;rw [List.map_map];rfl
 rw [h1,h1,h]
theorem mP {us os:List LayD} (h:us.map LayD.toLayP=os.map LayD.toLayP) (hb:∀o∈os,o.ws.length≤1048576∧o.bs.length≤1048576):∀o∈us,o.ws.length≤1048576∧o.bs.length≤1048576:=by
 intro o ho
 have h1:o.toLayP∈os.map LayD.toLayP:=by rw [←h];exact List.mem_map_of_mem ho
 obtain ⟨p,hp,e⟩:=List.mem_map.1 h1
 have:=hb p hp
 rw [←e];exact this
theorem Be {us os:List LayD} (h:us.map LayD.toLayP=os.map LayD.toLayP):us.map (fun o=>o.toLayP.can)=os.map (fun o=>o.toLayP.can):=by
 have h1:∀l:List LayD,l.map (fun o=>o.toLayP.can)=(l.map LayD.toLayP).map LayP.can:=by intro l;rw [List.map_map];rfl
 rw [h1,h1,h]
theorem EM (w:World) (ad:Option Addr) (cap:Nat) (os:List LayD) (h:SeeR aX w ad cap os) (hn:os.length≤1048576) (hi2:∀o∈os,o.ws.length≤1048576∧o.bs.length≤1048576) :
  Calls Tryz.prog 9 #[.agg #[.slice ad os.length cap]] w.drew fun e w' => ∃ad' cap',∃os':List LayD,e=.returned (.agg #[.slice ad' os.length cap'])∧os'.map LayD.toLayP=os.map LayD.toLayP∧Hid (OwnR aX w' w.heap.size w'.heap.size ad' os.length cap' os')∧Below w.heap.size w w':=by
 refine (DC w.drew ad cap os (h.below (Below.drew (O _ _))) hn hi2).mono ?_
 rintro e w' ⟨a,c,os',h1,h2,h3,h4⟩
 exact ⟨a,c,os',h1,h2,h3,aA (Below.drew (O _ _)) h4⟩
def oI (k i o:Int):Int:=if k=0 then o * i else if k=2 then i else if k=5 then i else 0
def oJ (k i o:Int):Int:=if k=0 then o else if k=5 then i else 0
def vE (k i o:Int) (n m:Nat):Bool:=jU k 0 5 && (jU i 1 8 && (jU o 1 8 && (decide (k=0∨i=o) && (decide ((n:Int)=oI k i o) && decide ((m:Int)=oJ k i o)))))
def jW (p:LayP):Bool:=vE p.k p.i p.o p.ws.length p.bs.length
theorem pJ (n:Int) (w:World):Calls Tryz.prog 87 #[.int .i64 n] w fun e w'=>e=.returned (.bool (jU n 1 8))∧w=w':=by
 have k1:=fun W=>jG n 1 8 W
 go_enter Tryz.func87,Tryz.ntmps87
 go_wp2_with fail
 refine (k1 _).mono ?_
 rintro e w1 ⟨rfl,rfl⟩
 go_wp2
 go_ret
 exact ⟨rfl,rfl⟩
theorem sE (k i o:Int) (a b:Option Addr) (n c m d:Nat) (hn:n≤maxLen) (hm:m≤maxLen) (w:World):Calls Tryz.prog 60 #[.agg #[.int .i64 k,.int .i64 i,.int .i64 o,.slice a n c,.slice b m d]] w fun e w'=>e=.returned (.bool (vE k i o n m))∧Below w.heap.size w w':=by
 unfold maxLen at hn hm
 have K1:=I (fun W=>jG k 0 5 W)
 have K2:=I (fun W=>pJ i W)
 have K3:=I (fun W=>pJ o W)
 unfold vE
 cases h1:jU k 0 5
 ·rw [h1] at K1;clear h1
  go_enter Tryz.func60,Tryz.ntmps60
  go_wp2_with fail
  refine (K1.out _).mono ?_
  rintro e w1 ⟨rfl,rfl⟩
  go_wp2
  go_ret
  exact ⟨rfl,aE _ _⟩
 rw [h1] at K1;have ⟨k1,k2⟩:=cA.1 h1;clear h1
 cases h2:jU i 1 8
 ·rw [h2] at K2;clear h2
  go_enter Tryz.func60,Tryz.ntmps60
  go_wp2_with fail
  refine (K1.out _).mono ?_
  rintro e w1 ⟨rfl,rfl⟩
  go_wp2_with fail
  refine (K2.out _).mono ?_
  rintro e w1 ⟨rfl,rfl⟩
  go_wp2
  go_ret
  exact ⟨rfl,aE _ _⟩
 rw [h2] at K2;have ⟨i1,i2⟩:=cA.1 h2;clear h2
 cases h3:jU o 1 8
 ·rw [h3] at K3;clear h3
  go_enter Tryz.func60,Tryz.ntmps60
  go_wp2_with fail
  refine (K1.out _).mono ?_
  rintro e w1 ⟨rfl,rfl⟩
  go_wp2_with fail
  refine (K2.out _).mono ?_
  rintro e w1 ⟨rfl,rfl⟩
  go_wp2_with fail
  refine (K3.out _).mono ?_
  rintro e w1 ⟨rfl,rfl⟩
  go_wp2
  go_ret
  exact ⟨rfl,aE _ _⟩
 rw [h3] at K3;have ⟨o1,o2⟩:=cA.1 h3;clear h3
 by_cases hd:k=0∨i=o
 rotate_left
 ·rw [decide_eq_false hd]
  have f1:(k != 0)=true:=by simp;omega
  have f2:(i != o)=true:=by simp;omega
  go_enter Tryz.func60,Tryz.ntmps60
  go_wp2_with fail
  refine (K1.out _).mono ?_
  rintro e w1 ⟨rfl,rfl⟩
  go_wp2_with fail
  refine (K2.out _).mono ?_
  rintro e w1 ⟨rfl,rfl⟩
  go_wp2_with fail
  refine (K3.out _).mono ?_
  rintro e w1 ⟨rfl,rfl⟩
  go_wp2
  go_ret
  exact ⟨rfl,aE _ _⟩
 rw [decide_eq_true hd]
 by_cases hk0:k=0
 ·subst hk0
  obtain ⟨p,hp⟩:∃p,p=o * i:=⟨_,rfl⟩
  have p1:0≤p:=by rw [hp];exact Int.mul_nonneg (by omega) (by omega)
  have p2:p≤64:=by
   rw [hp]
   have h3:o * i≤8 * i:=Int.mul_le_mul_of_nonneg_right o2 (by omega)
   omega
  have hpw:wrap64 (o * i)=p:=by rw [←hp];unfold wrap64;omega
  have hpw2:IntKind.i64.wrap (o * i)=p:=by rw [←hp,IntKind.wrap_i64];omega
  have eW:oI 0 i o=p:=by rw [hp];rfl
  have eB:oJ 0 i o=o:=rfl
  rw [eW,eB]
  clear hp eW eB hd
  by_cases hA:(n:Int)=p
  rotate_left
  ·rw [decide_eq_false hA]
   have g1:((n:Int) == p)=false:=by simpa using hA
   clear hA
   go_enter Tryz.func60,Tryz.ntmps60
   go_wp2_with fail
   refine (K1.out _).mono ?_
   rintro e w1 ⟨rfl,rfl⟩
   go_wp2_with fail
   refine (K2.out _).mono ?_
   rintro e w1 ⟨rfl,rfl⟩
   go_wp2_with fail
   refine (K3.out _).mono ?_
   rintro e w1 ⟨rfl,rfl⟩
   go_wp2
   refine aN (fun _ _ _=>False) (by kernel_rfl) (by kernel_rfl) ?_
   repeat (refine aV (fun K hK nq=>?_);go_simp;refine hK _ ?_;clear hK K)
   refine bD ?_
   rintro w' ⟨q,rfl⟩
   go_wp2
   go_ret
   exact ⟨rfl,below_drewN (aE _ _) _⟩
  ·rw [decide_eq_true hA]
   have g1:((n:Int) == p)=true:=by simp [hA]
   clear hA
   go_enter Tryz.func60,Tryz.ntmps60
   go_wp2_with fail
   refine (K1.out _).mono ?_
   rintro e w1 ⟨rfl,rfl⟩
   go_wp2_with fail
   refine (K2.out _).mono ?_
   rintro e w1 ⟨rfl,rfl⟩
   go_wp2_with fail
   refine (K3.out _).mono ?_
   rintro e w1 ⟨rfl,rfl⟩
   go_wp2
   refine aN (fun _ _ _=>False) (by kernel_rfl) (by kernel_rfl) ?_
   repeat (refine aV (fun K hK nq=>?_);go_simp;refine hK _ ?_;clear hK K)
   refine bD ?_
   rintro w' ⟨q,rfl⟩
   go_wp2
   go_ret
   exact ⟨by congr 2,below_drewN (aE _ _) _⟩
 have hio:i=o:=by omega
 subst hio
 have f1:(k != 0)=true:=by simp;omega
 have f3:(k == 0)=false:=by simp;omega
 clear hd
 by_cases hk2:k=2
 ·subst hk2
  have eW:oI 2 i i=i:=rfl
  have eB:oJ 2 i i=0:=rfl
  rw [eW,eB]
  clear eW eB
  by_cases hA:(n:Int)=i
  rotate_left
  ·rw [decide_eq_false hA]
   have g1:((n:Int) == i)=false:=by simpa using hA
   clear hA
   go_enter Tryz.func60,Tryz.ntmps60
   go_wp2_with fail
   refine (K1.out _).mono ?_
   rintro e w1 ⟨rfl,rfl⟩
   go_wp2_with fail
   refine (K2.out _).mono ?_
   rintro e w1 ⟨rfl,rfl⟩
   go_wp2_with fail
   refine (K3.out _).mono ?_
   rintro e w1 ⟨rfl,rfl⟩
   go_wp2
   go_ret
   exact ⟨rfl,aE _ _⟩
  ·rw [decide_eq_true hA]
   have g1:((n:Int) == i)=true:=by simp [hA]
   clear hA
   go_enter Tryz.func60,Tryz.ntmps60
   go_wp2_with fail
   refine (K1.out _).mono ?_
   rintro e w1 ⟨rfl,rfl⟩
   go_wp2_with fail
   refine (K2.out _).mono ?_
   rintro e w1 ⟨rfl,rfl⟩
   go_wp2_with fail
   refine (K3.out _).mono ?_
   rintro e w1 ⟨rfl,rfl⟩
   go_wp2
   go_ret
   exact ⟨by congr 2,aE _ _⟩
 have f4:(k == 2)=false:=by simp;omega
 by_cases hk5:k=5
 ·subst hk5
  have eW:oI 5 i i=i:=rfl
  have eB:oJ 5 i i=i:=rfl
  rw [eW,eB]
  clear eW eB
  by_cases hA:(n:Int)=i
  rotate_left
  ·rw [decide_eq_false hA]
   have g1:((n:Int) == i)=false:=by simpa using hA
   clear hA
   go_enter Tryz.func60,Tryz.ntmps60
   go_wp2_with fail
   refine (K1.out _).mono ?_
   rintro e w1 ⟨rfl,rfl⟩
   go_wp2_with fail
   refine (K2.out _).mono ?_
   rintro e w1 ⟨rfl,rfl⟩
   go_wp2_with fail
   refine (K3.out _).mono ?_
   rintro e w1 ⟨rfl,rfl⟩
   go_wp2
   refine aN (fun _ _ _=>False) (by kernel_rfl) (by kernel_rfl) ?_
   repeat (refine aV (fun K hK nq=>?_);go_simp;refine hK _ ?_;clear hK K)
   refine bD ?_
   rintro w' ⟨q,rfl⟩
   go_wp2
   go_ret
   exact ⟨rfl,below_drewN (aE _ _) _⟩
  ·rw [decide_eq_true hA]
   have g1:((n:Int) == i)=true:=by simp [hA]
   clear hA
   go_enter Tryz.func60,Tryz.ntmps60
   go_wp2_with fail
   refine (K1.out _).mono ?_
   rintro e w1 ⟨rfl,rfl⟩
   go_wp2_with fail
   refine (K2.out _).mono ?_
   rintro e w1 ⟨rfl,rfl⟩
   go_wp2_with fail
   refine (K3.out _).mono ?_
   rintro e w1 ⟨rfl,rfl⟩
   go_wp2
   refine aN (fun _ _ _=>False) (by kernel_rfl) (by kernel_rfl) ?_
   repeat (refine aV (fun K hK nq=>?_);go_simp;refine hK _ ?_;clear hK K)
   refine bD ?_
   rintro w' ⟨q,rfl⟩
   go_wp2
   go_ret
   exact ⟨by congr 2,below_drewN (aE _ _) _⟩
 have f5:(k == 5)=false:=by simp;omega
 have eW:oI k i i=0:=by unfold oI;rw [if_neg hk0,if_neg hk2,if_neg hk5]
 have eB:oJ k i i=0:=by unfold oJ;rw [if_neg hk0,if_neg hk5]
 rw [eW,eB]
 clear eW eB hk0 hk2 hk5
 by_cases hA:(n:Int)=0
 rotate_left
 ·rw [decide_eq_false hA]
  have g1:((n:Int) == 0)=false:=by simpa using hA
  clear hA
  go_enter Tryz.func60,Tryz.ntmps60
  go_wp2_with fail
  refine (K1.out _).mono ?_
  rintro e w1 ⟨rfl,rfl⟩
  go_wp2_with fail
  refine (K2.out _).mono ?_
  rintro e w1 ⟨rfl,rfl⟩
  go_wp2_with fail
  refine (K3.out _).mono ?_
  rintro e w1 ⟨rfl,rfl⟩
  go_wp2
  go_ret
  exact ⟨rfl,aE _ _⟩
 ·rw [decide_eq_true hA]
  have g1:((n:Int) == 0)=true:=by simp [hA]
  clear hA
  go_enter Tryz.func60,Tryz.ntmps60
  go_wp2_with fail
  refine (K1.out _).mono ?_
  rintro e w1 ⟨rfl,rfl⟩
  go_wp2_with fail
  refine (K2.out _).mono ?_
  rintro e w1 ⟨rfl,rfl⟩
  go_wp2_with fail
  refine (K3.out _).mono ?_
  rintro e w1 ⟨rfl,rfl⟩
  go_wp2
  go_ret
  exact ⟨by congr 2,aE _ _⟩
def dA (us:List LayP):Nat→Bool
 | 0=>true
 | k+1=>dA us k && (match us[k]? with | none=>false | some l=>jW l && (match (if k=0 then none else us[k - 1]?) with | none=>true | some p=>decide (p.o=l.i)))
def dG (us:List LayP):Bool:=dA us us.length && decide (1≤us.length∧us.length≤6)
theorem lO {us:List LayP} {k m:Nat} (h:dA us m=true) (hk:k≤m):dA us k=true:=by
 induction m with
 | zero=>have:k=0:=by omega
         subst this;exact h
 | succ m ih =>
  rcases Nat.lt_or_ge k (m+1) with h1 | h1
  ·rw [dA,Bool.and_eq_true] at h;exact ih h.1 (by omega)
  ·have:k=m+1:=by omega
   subst this;exact h
theorem lP {us:List LayP} {k m:Nat} (h:dA us k=false) (hk:k≤m):dA us m=false:=by
 cases e:dA us m
 ·rfl
 ·rw [lO e hk] at h;cases h
theorem wF {us:List LayP} {k:Nat} {l:LayP} (h:dA us k=true) (hl:us[k]? = some l) (hb:jW l=false):dA us (k+1)=false:=by
 rw [dA,hl];simp [hb]
theorem tT {us:List LayP} {l:LayP} (hl:us[0]? = some l):dA us 1=jW l:=by
 rw [dA,hl];simp [dA]
theorem oK {us:List LayP} {k:Nat} {l p:LayP} (h:dA us (k+1)=true) (hl:us[k+1]? = some l) (hp:us[k]? = some p):dA us (k+2)=(jW l && decide (p.o=l.i)):=by
 rw [dA,h,hl];simp [hp]
def eU (k a b:Int) (num:Nat):OpP:=⟨k,a,b,num,0,0,[]⟩
def cX (r c:Int) (xs:List Nat):OpP:=⟨0,0,0,0,r,c,xs⟩
structure MS where
 ops:List OpP
 ws:List Int
 p:Int
def cM (s:MS) (l:LayP) (n:Int):MS:=⟨s.ops ++ [cX l.o l.i l.ws] ++ [cX 1 l.o l.bs] ++ [eU 7 n 0 0] ++ [eU 6 s.p (n+2) 0] ++ [eU 2 (n+3) (n+1) 0],s.ws ++ [n] ++ [n+1],n+4⟩
def fP (s:MS) (n:Int):MS:=⟨s.ops ++ [eU 8 s.p 0 0],s.ws,n⟩
def cR (s:MS) (l:LayP) (n:Int):MS:=⟨s.ops ++ [cX 1 l.i l.ws] ++ [eU 4 s.p n 0],s.ws ++ [n],n+1⟩
def fQ (s:MS) (l:LayP):Option MS :=
 if l.k=0 then some (cM s l s.ops.length) else if l.k=1 then some (fP s s.ops.length) else if l.k=2 then some (cR s l s.ops.length) else none
def kZ (ls:List LayP) (X Y:TenP):Nat→Option MS
 | 0=>some ⟨[cX X.r X.c X.xs] ++ [cX Y.r Y.c Y.xs],[],0⟩
 | k+1=>(kZ ls X Y k).bind fun s=>(ls[k]?).bind fun l=>fQ s l
def sF (s:MS) (num:Nat) (n:Int):List OpP:=s.ops ++ [eU 5 1 0 3212836864] ++ [eU 1 s.p n 0] ++ [eU 9 (n+1) 0 0] ++ [eU 10 (n+2) 0 0] ++ [eU 5 (n+3) 0 num]
def vF (s:MS) (num:Nat):List OpP:=sF s num s.ops.length
def cG (ls:List LayP) (k:Nat):LayP:=ls.getD k ⟨0,0,0,[],[]⟩
def fR (ls:List LayP) (X Y:TenP):Bool:=dG ls && (dZ X.r X.c X.xs.length && (dZ Y.r Y.c Y.xs.length && (decide (X.r=Y.r) && (decide (X.c=(cG ls 0).i) && decide (Y.c=(cG ls (ls.length - 1)).o)))))
def bH (ls:List LayP) (X Y:TenP) (num:Nat):Option (List OpP × List Int):=if fR ls X Y=true then (kZ ls X Y ls.length).map fun s=>(vF s num,s.ws) else none
theorem zU {ls:List LayP} {X Y:TenP} {k:Nat} {s:MS} {l:LayP} (h:kZ ls X Y k=some s) (hl:ls[k]? = some l):kZ ls X Y (k+1)=fQ s l:=by
 rw [kZ,h,hl];rfl
theorem zV {ls:List LayP} {X Y:TenP} {k m:Nat} (h:kZ ls X Y k=none) (hk:k≤m):kZ ls X Y m=none:=by
 induction m with
 | zero =>
  have:k=0:=by omega
  subst this;exact h
 | succ m ih =>
  by_cases e:k=m+1
  ·subst e;exact h
  ·rw [kZ,ih (by omega)];rfl
theorem BD {s s':MS} {l:LayP} (h:fQ s l=some s'):s'.ops.length≤s.ops.length+5∧s'.ws.length≤s.ws.length+2:=by
 unfold fQ at h
 split at h
 ·cases h;simp [cM]
 ·split at h
  ·cases h;simp [fP]
  ·split at h
   ·cases h;simp [cR]
   ·cases h
theorem Bf {ls:List LayP} {X Y:TenP} {k:Nat} {s:MS} (h:kZ ls X Y k=some s):s.ops.length≤2+5 * k∧s.ws.length≤2 * k:=by
 induction k generalizing s with
 | zero=>rw [kZ] at h;cases h;simp
 | succ k ih =>
  rw [kZ] at h
  obtain ⟨s0,h0,h1⟩:=Option.bind_eq_some_iff.1 h
  obtain ⟨l,_,h2⟩:=Option.bind_eq_some_iff.1 h1
  have:=ih h0
  have:=BD h2
  omega
theorem dM {ls:List LayP} {k:Nat} {l:LayP} (h:ls[k]? = some l):cG ls k=l:=by
 unfold cG;rw [List.getD_eq_getElem?_getD,h];rfl
theorem kQ {ls:List LayP} (h:dG ls=true) {k:Nat} {l:LayP} (hl:ls[k]? = some l):jW l=true:=by
 unfold dG at h
 rw [Bool.and_eq_true] at h
 have hk:=(List.getElem?_eq_some_iff.1 hl).1
 have h1:=lO h.1 (show k+1≤ls.length from hk)
 rw [dA,hl,Bool.and_eq_true] at h1
 have h2:=h1.2
 simp only [Bool.and_eq_true] at h2
 exact h2.1
theorem jL {l:LayP} (h:jW l=true):(0≤l.k∧l.k≤5)∧(1≤l.i∧l.i≤8)∧(1≤l.o∧l.o≤8)∧(l.k=0∨l.i=l.o)∧(l.ws.length:Int)=oI l.k l.i l.o∧(l.bs.length:Int)=oJ l.k l.i l.o:=by
 unfold jW vE at h
 simp only [Bool.and_eq_true,cA,decide_eq_true_eq] at h
 obtain ⟨h1,h2,h3,h4,h5,h6⟩:=h
 exact ⟨h1,h2,h3,h4,h5,h6⟩
theorem xY {l:LayP} (h:jW l=true):l.ws.length≤64∧l.bs.length≤8:=by
 obtain ⟨h1,h2,h3,h4,h5,h6⟩:=jL h
 have h7:l.o * l.i≤8 * l.i:=Int.mul_le_mul_of_nonneg_right h3.2 (by omega)
 unfold oI at h5
 unfold oJ at h6
 constructor
 ·split at h5
  ·omega
  ·split at h5
   ·omega
   ·split at h5 <;> omega
 ·split at h6
  ·omega
  ·split at h6 <;> omega
theorem jM {ls:List LayP} (h:dG ls=true):1≤ls.length∧ls.length≤6:=by
 unfold dG at h
 rw [Bool.and_eq_true,decide_eq_true_eq] at h
 exact h.2
def aZ (t:TypeId) (g:Nat) (cs:List Value):RowD:=⟨t,cs.length,some ⟨g,0,none⟩,1,1,cs⟩
theorem Own.xbox {w:World} {lo hi g:Nat} {t:TypeId} {cs:List Value} {L:List RowD} (h:Own w lo hi L) (hm:aZ t g cs∈L):BoxN w g cs:=by
 obtain ⟨_,hl,hc,hf⟩:=h.cell hm
 exact ⟨hl.2.2,hc,hf⟩
structure TB (w0 W:World) (ad:Option Addr) (cap:Nat) (us:List OpD) (E:List RowD):Prop where
 own:OwnX lI W w0.heap.size W.heap.size ad us.length cap us E
 below:Below w0.heap.size w0 W
section
variable {w0 W V w2:World} {ad:Option Addr} {cap:Nat} {us:List OpD} {E:List RowD} {o:OpD}
theorem TB.move (h:TB w0 W ad cap us E) (hb:Below W.heap.size W V):TB w0 V ad cap us E :=
 ⟨(h.own.below hb).bounds (J _) hb.size,h.below.trans (hb.mono h.below.size)⟩
theorem TB.row (h:TB w0 W ad cap us E):W.ownsRow w0.heap.size 74 7 (.slice ad us.length cap) us.length (us.flatMap OpD.cells):=h.own.own.head.own
theorem TB.box (h:TB w0 W ad cap us E) {t:TypeId} {g:Nat} {cs:List Value} (hm:aZ t g cs∈E):BoxN W g cs:=h.own.own.xbox (h.own.memE hm)
theorem TB.sub (h:TB w0 W ad cap us E) {E':List RowD} (hs:List.Sublist E' E):TB w0 W ad cap us E' :=
 ⟨⟨h.own.own.sub (List.Sublist.cons_cons _ (List.Sublist.append (List.Sublist.refl _) hs)),h.own.len,h.own.ok⟩,h.below⟩
theorem TB.perm (h:TB w0 W ad cap us E) {E':List RowD} (hp:E.Perm E'):TB w0 W ad cap us E' :=
 ⟨⟨h.own.own.perm (List.Perm.cons _ (List.Perm.append_left _ hp)),h.own.len,h.own.ok⟩,h.below⟩
theorem TB.alloc (h:TB w0 W ad cap us E) (cs:Array Value) (t:TypeId):TB w0 (W.alloc (.cells cs t)) ad cap us (aZ t W.heap.size cs.toList :: E):=by
 have h1:=h.own.own.alloc h.below.size (J _) cs t
 refine ⟨⟨?_,h.own.len,h.own.ok⟩,h.below.alloc h.below.size _⟩
 have e:(W.alloc (.cells cs t)).heap.size=W.heap.size+1:=by simp
 rw [e]
 have e2:(⟨t,cs.size,some ⟨W.heap.size,0,none⟩,1,1,cs.toList⟩:RowD)=aZ t W.heap.size cs.toList:=by unfold aZ;simp
 rw [e2] at h1
 exact h1.perm ((List.Perm.swap _ _ _).trans (List.Perm.cons _ List.perm_middle.symm))
theorem TB.push {hi1:Nat} {v':Value} {x:Obj} (h:TB w0 W ad cap us E) (hb:Below W.heap.size W V) (ho:o.ok) (hn:Own V W.heap.size hi1 [aK o.ad o.cap o.xs]) (hi1s:hi1≤V.heap.size) (hi0:W.heap.size≤hi1)
  (h2:w2.ownsRow w0.heap.size 74 7 v' (us.length+1) (us.flatMap OpD.cells ++ o.cells)) (hg:(V.alloc x).grownBy w2 (Value.slice ad us.length cap).ownBlock) (hat:v'.ownBlock=(Value.slice ad us.length cap).ownBlock∨v'.ownBlock=some (V.heap.size+1)) :
  ∃ad' cap',v'=.slice ad' (us ++ [o]).length cap'∧TB w0 w2 ad' cap' (us ++ [o]) E:=by
 obtain ⟨ad',cap',e,hx⟩:=h.own.snoc h.below.size hb ho hn hi1s hi0 h2 hg hat
 have hl:(us ++ [o]).length=us.length+1:=by simp
 refine ⟨ad',cap',by rw [hl];exact e,by rw [hl];exact hx,?_⟩
 exact Below.grown ((h.below.trans (hb.mono h.below.size)).alloc (Nat.le_trans h.below.size hb.size) x) hg (by have:=h.below.size;have:=hb.size;simp;omega) (fun j e=>(h.row.lt j e).1)
theorem TB.store {t:TypeId} {g:Nat} {cs:List Value} (h:TB w0 W ad cap us (aZ t g cs :: E)) (k:Nat) (v:Value):TB w0 (W.setCell ⟨g,k,none⟩ v) ad cap us (aZ t g (cs.set k v) :: E):=by
 have h1:=h.own.storeE k v
 have h2:=(h.own.own.cell (h.own.memE (List.mem_cons_self ..))).2.1.1
 have e:aZ t g (cs.set k v)=⟨t,cs.length,some ⟨g,0,none⟩,1,1,cs.set k v⟩:=by unfold aZ;rw [List.length_set]
 exact ⟨by rw [e];exact h1.bounds (J _) (by simp [World.setCell]),h.below.setCell (p:=⟨g,k,none⟩) h2 v⟩
theorem TB.pushI {wa:Option Addr} {wk:Nat} {ws:List Int} {x:Obj} {v':Value} {i:Int} (h:TB w0 W ad cap us (bQ wa wk ws :: E))
  (h2:w2.ownsRow w0.heap.size 2 1 v' (ws.length+1) (ws.map (Value.int .i64) ++ [.int .i64 i])) (hg:(W.alloc x).grownBy w2 (Value.slice wa ws.length wk).ownBlock) (hat:v'.ownBlock=(Value.slice wa ws.length wk).ownBlock∨v'.ownBlock=some (W.heap.size+1)) :
  ∃wa' wk',v'=.slice wa' (ws ++ [i]).length wk'∧TB w0 w2 ad cap us (bQ wa' wk' (ws ++ [i]) :: E):=by
 obtain ⟨wa',wk',rfl,_⟩:=Rd.of_owns h2
 have hl:(ws ++ [i]).length=ws.length+1:=by simp
 have p:∀(y:RowD),(⟨lI.e,lI.size,ad,us.length,cap,us.flatMap lI.cells⟩ :: (us.flatMap lI.inn ++ y :: E)).Perm (y :: (⟨lI.e,lI.size,ad,us.length,cap,us.flatMap lI.cells⟩ :: (us.flatMap lI.inn ++ E))):=fun y =>
  (List.Perm.cons _ List.perm_middle).trans (List.Perm.swap _ _ _)
 have h3:=(h.own.own.perm (p _)).below (aE W x)
 have hs:=hg.size
 simp at hs
 have hrow:=h.own.own.row _ (h.own.memE (List.mem_cons_self ..))
 have h4:=h3.grown (w':=w2) (hi':=w2.heap.size) (y:=bQ wa' wk' (ws ++ [i])) hg (by
  refine Row.mk' ?_
  show w2.ownsRow w0.heap.size 2 1 (.slice wa' (ws ++ [i]).length wk') (ws ++ [i]).length ((ws ++ [i]).map (Value.int .i64))
  rw [hl,List.map_append];exact h2) (fun g e=>by
   have e0:(Value.slice wa' (ws.length+1) wk').ownBlock=some g:=by
    have e9:(Value.slice wa' (ws ++ [i]).length wk').ownBlock=some g:=e
    rw [hl] at e9;exact e9
   rcases hat with e1 | e1
   ·exact .inl (e1.symm.trans e0)
   ·right
    have e2:some g=some (W.heap.size+1):=e0.symm.trans e1
    cases e2
    omega) (by omega)
 refine ⟨wa',wk',by rw [hl],⟨h4.perm (p _).symm,h.own.len,h.own.ok⟩,?_⟩
 exact Below.grown (h.below.alloc h.below.size x) hg (by have:=h.below.size;simp;omega) (fun j e=>(hrow.own.lt j e).1)
theorem TB.ints {wa:Option Addr} {wk:Nat} {ws:List Int} (h:TB w0 W ad cap us E) (hm:bQ wa wk ws∈E):W.ownsRow w0.heap.size 2 1 (.slice wa ws.length wk) ws.length (ws.map (Value.int .i64)):=(h.own.own.row _ (h.own.memE hm)).own
end
theorem rL {w w':World} {lo hi size base n:Nat} {e:TypeId} {v:Value} {cs:List Value} (h:w.ownsRow base e size v n cs) (ht:Touch lo hi w w') (hd:hi≤base):w'.ownsRow base e size v n cs:=((Row.mk' h).touch ht (.inr hd)).own
theorem gQ {w2 w9:World} {o:Obj} {c j:Nat} {row:Option Nat} {v:Value} (hg:(w2.alloc o).grownBy w9 row) (hc:c < w2.heap.size) (hne:row≠some c) (hf:w2.cell? ⟨c,j,none⟩=some v):w9.cell? ⟨c,j,none⟩=some v:=by
 rw [hg.cell_far ⟨c,j,none⟩ (by simp;omega) (Ne.symm hne)]
 have h:(w2.alloc o).cell? ⟨c,j,none⟩=w2.cell? ⟨c,j,none⟩:=World.cell?_of_block (heap_alloc_old _ _ hc)
 rw [h];exact hf
theorem sG {P:Program} {ops:Array Oper} {o:Oper} {a:Act} {w:World} {K:Act→World→Prop} {Q:Exit→Act→World→Prop} {E:Prop} (hg:o.guard=none) (f:FuncId) (args:Array Value)
  (he:(execOp a.eval o).run P w=.ok (.enter f args) w) (hC:Calls P f args w (fun e w' => ∃v,e=.returned v∧K (a.put o.dst v) w')):if Region.wanted o (yielded ops a.tmps)=true then Oper.wp P o a w K Q else E:=by
 have hw:Region.wanted o (yielded ops a.tmps)=true:=by simp [Region.wanted,hg]
 rw [if_pos hw]
 unfold Oper.wp
 rw [he]
 refine hC.mono fun e w' ⟨v,hv,hk⟩=>?_
 subst hv
 exact hk
theorem lQ {w2 w9:World} {o:Obj} {c j:Nat} {row:Option Nat} (hg:(w2.alloc o).grownBy w9 row) (hc:c < w2.heap.size) (hne:row≠some c) (hf:w2.frozen? ⟨c,j,none⟩=false):w9.frozen? ⟨c,j,none⟩=false:=by
 rw [hg.frozen_far ⟨c,j,none⟩ (by simp;omega) (Ne.symm hne)]
 have h:(w2.alloc o).frozen? ⟨c,j,none⟩=w2.frozen? ⟨c,j,none⟩:=World.frozen?_of_block (heap_alloc_old _ _ hc)
 rw [h];exact hf
def Made (P:Nat→Nat→Nat→Prop) (xs ys:List Nat):Prop:=∀i,i < ys.length→P i (xs.getD i 0) (ys.getD i 0)∧ys.getD i 0 < 4294967296
theorem Made.snoc {P:Nat→Nat→Nat→Prop} {xs ys:List Nat} {y:Nat} (h:Made P xs ys) (hp:P ys.length (xs.getD ys.length 0) y) (hy:y < 4294967296):Made P xs (ys ++ [y]):=by
 intro i hi
 rw [List.length_append] at hi
 simp at hi
 by_cases e:i=ys.length
 ·subst e
  rw [List.getD_eq_getElem?_getD,List.getD_eq_getElem?_getD,List.getElem?_append_right (J _)]
  rw [List.getD_eq_getElem?_getD] at hp
  simpa using ⟨hp,hy⟩
 ·have h1:=h i (by omega)
  have e2:(ys ++ [y]).getD i 0=ys.getD i 0:=by
   rw [List.getD_eq_getElem?_getD,List.getD_eq_getElem?_getD,List.getElem?_append_left (by omega)]
  rw [e2];exact h1
theorem gA (w:World) (r c:Nat) (ad:Option Addr) (cap:Nat) (xs:List Nat) (h:F32s w ad cap xs) (hl:xs.length≤256) (G:Nat) (caps:Array Value) (P:Nat→Nat→Nat→Prop) (hG:∀(args:Array Value) (W:World),(callFunc G args).run Tryz.prog W=.ok (.enter G args) W)
  (hcl:∀W (i x:Nat),Below w.heap.size w W→i < xs.length→x=xs.getD i 0→Calls Tryz.prog G (#[.int .i64 i,.float .f32 x] ++ caps) W fun e w' => ∃y,e=.returned (.float .f32 y)∧Hid (P i x y∧y < 4294967296)∧Below W.heap.size W w') :
  Calls Tryz.prog 125 #[.agg #[.int .i64 r,.int .i64 c,.slice ad xs.length cap],.func (.func G) #[] caps] w fun e w' => ∃ad' cap' ys,e=.returned (.agg #[.int .i64 r,.int .i64 c,.slice ad' xs.length cap'])∧Hid (RepF w' w.heap.size w'.heap.size ad' xs.length cap' ys)∧Hid (Made P xs ys)∧Below w.heap.size w w':=by
 obtain ⟨i0,hi0,hz0,hz1,hz2⟩:=info_parts bW
 obtain ⟨n,hn⟩:∃n,n=xs.length:=⟨_,rfl⟩
 have NX:=I hn
 rw [←hn] at hl hcl ⊢
 have HC:=I hcl;have H:=I h
 have rb0:=(Box3.alloc2 w (.cells #[.int .i64 r,.int .i64 c,.slice ad n cap] 37) (.int .i64 0) (.int .i64 0) (.slice none 0 0) 37).below (aE _ (.cells #[.int .i64 r,.int .i64 c,.slice none 0 0] 37))
 have ob0:=Box3.alloc2 (w.alloc (.cells #[.int .i64 r,.int .i64 c,.slice ad n cap] 37)) (.cells #[.int .i64 0,.int .i64 0,.slice none 0 0] 37) (.int .i64 r) (.int .i64 c) (.slice none 0 0) 37
 rw [show (w.alloc (.cells #[.int .i64 r,.int .i64 c,.slice ad n cap] 37)).heap.size=w.heap.size+1 by simp] at ob0
 have b00:=dE w (.cells #[.int .i64 r,.int .i64 c,.slice ad n cap] 37) (.cells #[.int .i64 0,.int .i64 0,.slice none 0 0] 37) (.cells #[.int .i64 r,.int .i64 c,.slice none 0 0] 37)
 have hsz:(((w.alloc (.cells #[.int .i64 r,.int .i64 c,.slice ad n cap] 37)).alloc (.cells #[.int .i64 0,.int .i64 0,.slice none 0 0] 37)).alloc (.cells #[.int .i64 r,.int .i64 c,.slice none 0 0] 37)).heap.size=w.heap.size+3:=by simp
 have RB:=I rb0;have OB:=I ob0;have B0:=I b00;have SZ:=I hsz
 clear hsz rb0 ob0 b00
 clear hcl h hn
 go_enter Tryz.func125,Tryz.ntmps125
 go_wp2
 generalize (((w.alloc (.cells #[.int .i64 r,.int .i64 c,.slice ad n cap] 37)).alloc (.cells #[.int .i64 0,.int .i64 0,.slice none 0 0] 37)).alloc (.cells #[.int .i64 r,.int .i64 c,.slice none 0 0] 37))=W0 at RB OB B0 SZ ⊢
 obtain ⟨ob,hob⟩:∃ob,ob=w.heap.size+1+1:=⟨_,rfl⟩
 rw [←hob] at OB ⊢
 have hob2:ob=w.heap.size+2:=hob
 have HOB:=I hob2
 have hob3:ob < w.heap.size+3:=by omega
 clear hob hob2
 go_loopw [16,6,7] (fun i _ _ wt => ∃k:Nat,i=.int .i64 k∧k≤n∧∃(vv:Value) (ys:List Nat),Hid (Box3 wt (ob) (.int .i64 r) (.int .i64 c) vv)∧Hid (Box3 wt (w.heap.size+1) (.int .i64 0) (.int .i64 0) (.slice none 0 0))∧Hid (wt.ownsRow (w.heap.size+3) 28 1 vv k (ys.map (Value.float .f32))∧ys.length=k∧Made P xs ys)∧Hid (Below w.heap.size w wt)∧w.heap.size+3≤wt.heap.size) (fun i _ _ _=>n - (intOf i).toNat)
 case atStart=>exact ⟨0,rfl,Nat.zero_le _,.slice none 0 0,[],I OB.out,I RB.out,I ⟨⟨rfl,.inl ⟨rfl,rfl⟩⟩,rfl,fun i hi=>by simp at hi⟩,I B0.out,by rw [SZ.out];exact J _⟩
 case round =>
  clear RB OB B0 SZ
  obtain ⟨k,rfl,hk,vv,ys,OB,RB,OW,B,hsz⟩:=hrel
  by_cases hlt:k < n
  ·have kx:k < xs.length:=by rw [←NX.out];exact hlt
   have h2:=H.out.below B.out
   obtain ⟨b,off,rfl,_,c1⟩:=h2.spot (k:=k) kx
   have c1:=c1 k kx
   obtain ⟨x,hx⟩:∃x,x=xs.getD k 0:=⟨_,rfl⟩
   rw [←hx] at c1
   have KC:=I (HC.out wr.drew k x (Below.drew B.out) hlt hx);have HXS:=I hx
   obtain ⟨va,vc,rfl⟩:∃va vc,vv=.slice va k vc:=by
    obtain ⟨ad',cap',e,_⟩:=Rd.of_owns OW.out.1
    exact ⟨ad',cap',e⟩
   have hne:(Value.slice va k vc).ownBlock≠some (ob):=by
    intro e
    have:=(OW.out.1.lt _ e).1
    omega
   have HO1:=I (oG OW.out.1 (Below.drew (O _ _)))
   obtain ⟨q5,q0,q1,q2,qf⟩:=OB.out
   clear h2 hx kx
   go_wp2
   go_region_law
    (first
      | (refine sG (by rfl) G (#[.int .i64 k,.float .f32 x] ++ caps) (by go_simp) ?_;refine KC.out.mono ?_;rintro e w2 ⟨y,rfl,hy,hb2⟩;refine ⟨_,rfl,?_⟩;have hzz2:wr.heap.size≤w2.heap.size:=hb2.size;have HO2:=I (oG HO1.out hb2);obtain ⟨p5,p0,p1,p2,pf⟩:=(OB.out.below (Below.drew (O _ _))).below hb2)
      | (refine step_append_lies _ (by rfl) _ _ _ (by rfl) (w.heap.size+3) 28 i0 _ 1 4 Tryz.underlying25 hi0 hz0 hz1 hz2 rfl (by omega) (.slice va k vc) k (ys.map (Value.float .f32)) (by rfl) (HO2.out.alloc _)
          ⟨w2.heap.size,0,none⟩ 1 1 [.float .f32 y] (by rfl) (by rfl) (World.news_of_block (cs:=#[.float .f32 y]) (t:=28) (fr:=(0,0)) (heap_alloc_new w2 _)) (by simp [Value.oneCell'])
          (by omega) (by unfold maxLen;omega) (by omega) (by simp;omega) (w2.heap.size+1) (by simp) ?_;intro gg cap9 w9 hown1 hgrow hat hlt9;have cf0:=gQ hgrow p5 hne p0;have cf1:=gQ hgrow p5 hne p1;have cf9:=gQ hgrow p5 hne p2;have uf9:w9.frozen? ⟨ob,2,none⟩=false:=lQ hgrow p5 hne (pf 2)))
   all_goals
    have hs9:=hgrow.size
    simp at hs9
    have B9:Box3 w9 ob (.int .i64 r) (.int .i64 c) (.slice va k vc):=⟨by omega,cf0,cf1,cf9,fun o=>lQ hgrow p5 hne (pf o)⟩
    have hne2:(Value.slice va k vc).ownBlock≠some (w.heap.size+1):=by
     intro e
     have:=(OW.out.1.lt _ e).1
     omega
    obtain ⟨r5,r0,r1,r2,rf⟩:=(RB.out.below (Below.drew (O _ _))).below hb2
    have R9:Box3 w9 (w.heap.size+1) (.int .i64 0) (.int .i64 0) (.slice none 0 0):=⟨by omega,gQ hgrow r5 hne2 r0,gQ hgrow r5 hne2 r1,gQ hgrow r5 hne2 r2,fun o=>lQ hgrow r5 hne2 (rf o)⟩
    have hbw:Below w.heap.size w w9:=Below.grown (Below.alloc (aA (Below.drew B.out) hb2) (by omega) _) hgrow (by simp;omega) (fun g e=>by have:=(OW.out.1.lt g e).1;omega)
    have ho9:=rL (lo:=ob) (hi:=ob+1) hown1 (Touch.setCell (w:=w9) (g:=ob) (k:=2) (v:=.slice (some ⟨gg,0,none⟩) (k+1) cap9) (J _) (by omega)) (by omega)
    have hob1:w.heap.size+1≠ob:=by have:=HOB.out;omega
    have hm:=OW.out.2.2.snoc (y:=y) (by rw [OW.out.2.1,←HXS.out];exact hy.out.1) hy.out.2
    have NB:=I (B9.set 2 (.slice (some ⟨gg,0,none⟩) (k+1) cap9));have NR:=I (R9.far ob 2 (.slice (some ⟨gg,0,none⟩) (k+1) cap9) (Ne.symm hob1))
    have NO:=I ho9;have NM:=I hm;have NW:=I (Below.setCell (p:=⟨ob,2,none⟩) hbw (by show w.heap.size≤ob;have:=HOB.out;omega) (.slice (some ⟨gg,0,none⟩) (k+1) cap9))
    have hz9:w.heap.size+3≤w9.heap.size:=by omega
    clear B9 R9 hbw ho9 hm hown1 hgrow hat cf0 cf1 cf9 uf9 p0 p1 p2 pf r0 r1 r2 rf hb2 KC HO1 HO2
    go_wp2
    refine ⟨?rel,?measure⟩
    case rel=>exact ⟨k+1,by go_num,hlt,_,ys ++ [y],I NB.out,NR,I ⟨by rw [List.map_append];exact NO.out,by rw [List.length_append,OW.out.2.1];rfl,NM.out⟩,NW,by simp [World.setCell];omega⟩
    case measure=>simp [intOf];omega
  ·have hkn:k=n:=by omega
   subst hkn
   obtain ⟨va,vc,rfl⟩:∃va vc,vv=.slice va k vc:=by
    obtain ⟨ad',cap',e,_⟩:=Rd.of_owns OW.out.1
    exact ⟨ad',cap',e⟩
   obtain ⟨q5,q0,q1,q2,qf⟩:=OB.out
   obtain ⟨r5,r0,r1,r2,rf⟩:=RB.out
   have hbf:∀a b d:Value,Below w.heap.size w (((wr.setCell ⟨w.heap.size+1,0,none⟩ a).setCell ⟨w.heap.size+1,1,none⟩ b).setCell ⟨w.heap.size+1,2,none⟩ d):=fun a b d =>
    Below.setCell (p:=⟨w.heap.size+1,2,none⟩) (Below.setCell (p:=⟨w.heap.size+1,1,none⟩) (Below.setCell (p:=⟨w.heap.size+1,0,none⟩) B.out (by show w.heap.size≤w.heap.size+1;omega) a) (by show w.heap.size≤w.heap.size+1;omega) b) (by show w.heap.size≤w.heap.size+1;omega) d
   have htf:∀a b d:Value,Touch (w.heap.size+1) (w.heap.size+2) wr (((wr.setCell ⟨w.heap.size+1,0,none⟩ a).setCell ⟨w.heap.size+1,1,none⟩ b).setCell ⟨w.heap.size+1,2,none⟩ d):=fun a b d =>
    ((Touch.setCell (J _) (by omega)).trans (Touch.setCell (J _) (by omega))).trans (Touch.setCell (J _) (by omega))
   have HBF:=I hbf;have HTF:=I htf
   have hob1:w.heap.size+1≠ob:=by have:=HOB.out;omega
   have hob2:ob≠w.heap.size+1:=Ne.symm hob1
   clear hbf htf HC
   go_wp2
   try simp only [Exit.inBlock,Exit.then]
   refine bodyPost_ret (v:=.agg #[.int .i64 r,.int .i64 c,.slice va k vc]) (by simp [results,Tryz.results125,go_sem,r0,r1,r2]) rfl ⟨va,vc,ys,rfl,I ?_,I OW.out.2.2,HBF.out _ _ _⟩
   have h1:=rL OW.out.1 (HTF.out (.int .i64 r) (.int .i64 c) (.slice va k vc)) (by omega)
   obtain ⟨a',c',e,h2⟩:=RepF.of_owns h1 (fun y hy=>by
    obtain ⟨i,hi,rfl⟩:=List.getElem_of_mem hy
    have:=(OW.out.2.2 i hi).2
    rwa [List.getD_eq_getElem?_getD,List.getElem?_eq_getElem hi] at this)
   cases e
   exact h2.bounds (by omega) (J _)
def gI (x:Nat):Nat:=if (FloatKind.f32.format.order x 0 == some .gt || eR .f32 x)=true then x else 0
theorem BE (x:Nat) (w:World):Calls Tryz.prog 141 #[.float .f32 x] w fun e w'=>e=.returned (.float .f32 (gI x))∧w=w':=by
 have hs:=fY .f32 x
 unfold gI
 cases h1:(FloatKind.f32.format.order x 0 == some .gt)
 ·cases h2:eR .f32 x
  ·rw [h2,if_neg (by decide)] at hs
   rw [if_neg (by decide)]
   have hs2:(FloatKind.f32.format.order x x != some .eq)=false:=by rw [hs];rfl
   clear h2
   go_enter Tryz.func141,Tryz.ntmps141
   go_wp2
   go_ret
   exact ⟨rfl,rfl⟩
  ·rw [h2,if_pos rfl] at hs
   rw [if_pos (by decide)]
   have hs2:(FloatKind.f32.format.order x x != some .eq)=true:=by rw [hs];rfl
   clear h2
   go_enter Tryz.func141,Tryz.ntmps141
   go_wp2
   go_ret
   exact ⟨rfl,rfl⟩
 ·rw [Bool.true_or,if_pos rfl]
  clear hs
  go_enter Tryz.func141,Tryz.ntmps141
  go_wp2
  go_ret
  exact ⟨rfl,rfl⟩
theorem zW {x:Nat} (h:x < 4294967296):gI x < 4294967296:=by unfold gI;split <;> omega
theorem qH (i x:Nat) (w:World):Calls Tryz.prog 140 #[.int .i64 i,.float .f32 x] w fun e w'=>e=.returned (.float .f32 (gI x))∧w=w':=by
 have K:=I (fun W=>BE x W)
 go_enter Tryz.func140,Tryz.ntmps140
 go_wp2_with fail
 refine (K.out _).mono ?_
 rintro e w1 ⟨rfl,rfl⟩
 go_wp2
 go_ret
 exact ⟨rfl,rfl⟩
theorem sH (w:World) (r c:Nat) (ad:Option Addr) (cap:Nat) (xs:List Nat) (h:F32s w ad cap xs) (hl:xs.length≤256) :
  Calls Tryz.prog 123 #[.agg #[.int .i64 r,.int .i64 c,.slice ad xs.length cap]] w fun e w' => ∃ad' cap' ys,e=.returned (.agg #[.int .i64 r,.int .i64 c,.slice ad' xs.length cap'])∧Hid (RepF w' w.heap.size w'.heap.size ad' xs.length cap' ys)∧Hid (Made (fun _ x y=>y=gI x) xs ys)∧Below w.heap.size w w':=by
 have K:=I (fun W (hW:F32s W ad cap xs)=>gA W r c ad cap xs hW hl 140 #[] (fun _ x y=>y=gI x) (fun args W=>by kernel_rfl) (fun W' i x hb hi hx=>(qH i x W').mono fun e w' ⟨he,hw⟩=>⟨gI x,he,I ⟨rfl,zW (by rw [hx];exact h.lt _ (iB hi))⟩,by rw [←hw];exact O _ _⟩))
 have hs1:=bZ w (.cells #[.int .i64 r,.int .i64 c,.slice ad xs.length cap] 37) (.cells #[.int .i64 0,.int .i64 0,.slice none 0 0] 37)
 have RB:=I (Box3.alloc2 w (.cells #[.int .i64 r,.int .i64 c,.slice ad xs.length cap] 37) (.int .i64 0) (.int .i64 0) (.slice none 0 0) 37)
 have B:=I hs1
 have H:=I (h.below hs1)
 obtain ⟨n,hn⟩:∃n,n=xs.length:=⟨_,rfl⟩
 rw [←hn] at K RB B H ⊢
 clear hs1 h hn hl
 go_enter Tryz.func123,Tryz.ntmps123
 go_wp2_with fail
 refine (K.out _ H.out).mono ?_
 rintro e w' ⟨va,vc,ys,rfl,RO,RM,hb⟩
 obtain ⟨r5,r0,r1,r2,rf⟩:=RB.out.below hb
 have hbw:=aA B.out hb
 have hz:=hb.size
 simp at hz
 have hbf:∀a b d:Value,Below w.heap.size w (((w'.setCell ⟨w.heap.size+1,0,none⟩ a).setCell ⟨w.heap.size+1,1,none⟩ b).setCell ⟨w.heap.size+1,2,none⟩ d):=fun a b d =>
  Below.setCell (p:=⟨w.heap.size+1,2,none⟩) (Below.setCell (p:=⟨w.heap.size+1,1,none⟩) (Below.setCell (p:=⟨w.heap.size+1,0,none⟩) hbw (by show w.heap.size≤w.heap.size+1;omega) a) (by show w.heap.size≤w.heap.size+1;omega) b) (by show w.heap.size≤w.heap.size+1;omega) d
 have htf:∀a b d:Value,Touch (w.heap.size+1) (w.heap.size+2) w' (((w'.setCell ⟨w.heap.size+1,0,none⟩ a).setCell ⟨w.heap.size+1,1,none⟩ b).setCell ⟨w.heap.size+1,2,none⟩ d):=fun a b d =>
  ((Touch.setCell (J _) (by omega)).trans (Touch.setCell (J _) (by omega))).trans (Touch.setCell (J _) (by omega))
 have HBF:=I hbf;have HTF:=I htf
 clear hbf htf hbw hb
 go_wp2
 try simp only [Exit.inBlock,Exit.then]
 refine bodyPost_ret (v:=.agg #[.int .i64 r,.int .i64 c,.slice va n vc]) (by simp [results,Tryz.results123,go_sem,r0,r1,r2]) rfl ⟨va,vc,ys,rfl,I ?_,RM,HBF.out _ _ _⟩
 have h1:=RO.out.touch (HTF.out (.int .i64 r) (.int .i64 c) (.slice va n vc)) (.inr (by simp))
 exact h1.bounds (by simp;omega) (by simp [World.setCell])
theorem pK (i x z g:Nat) (w:World) (hz:w.cell? ⟨g,0,none⟩=some (.float .f32 z)):Calls Tryz.prog 136 (#[.int .i64 i,.float .f32 x] ++ #[.pointer (some ⟨g,0,none⟩)]) w fun e w' => ∃y,e=.returned (.float .f32 y)∧Hid (cn .f32 y=dQ .mul .f32 (cn .f32 x) (cn .f32 z)∧y < 4294967296)∧Dr w w':=by
 show Calls Tryz.prog 136 #[.int .i64 i,.float .f32 x,.pointer (some ⟨g,0,none⟩)] w _
 go_enter Tryz.func136,Tryz.ntmps136
 go_wp2
 go_ret
 exact ⟨_,rfl,I ⟨bE _ _ _ _ _,bL _ .f32 _ _ _⟩,(Dr.refl _).drewN _⟩
theorem qI (w:World) (r c:Nat) (ad:Option Addr) (cap:Nat) (xs:List Nat) (h:F32s w ad cap xs) (hl:xs.length≤256) (z:Nat) :
  Calls Tryz.prog 120 #[.agg #[.int .i64 r,.int .i64 c,.slice ad xs.length cap],.float .f32 z] w fun e w' => ∃ad' cap' ys,e=.returned (.agg #[.int .i64 r,.int .i64 c,.slice ad' xs.length cap'])∧Hid (RepF w' w.heap.size w'.heap.size ad' xs.length cap' ys)∧Hid (Made (fun _ x y=>cn .f32 y=dQ .mul .f32 (cn .f32 x) (cn .f32 z)) xs ys)∧Below w.heap.size w w':=by
 have K:=I (fun W (hW:F32s W ad cap xs) (hz:W.cell? ⟨w.heap.size+1,0,none⟩=some (.float .f32 z)) (hzl:w.heap.size+1 < W.heap.size)=>gA W r c ad cap xs hW hl 136 #[.pointer (some ⟨w.heap.size+1,0,none⟩)] (fun _ x y=>cn .f32 y=dQ .mul .f32 (cn .f32 x) (cn .f32 z)) (fun args W=>by kernel_rfl) (fun W' i x hb hi hx=>(pK i x z (w.heap.size+1) W' ((hb.cell (p:=⟨w.heap.size+1,0,none⟩) hzl).trans hz)).mono fun e w' ⟨y,he,hy,hd⟩=>⟨y,he,hy,hd.below⟩))
 have hs1:=dE w (.cells #[.int .i64 r,.int .i64 c,.slice ad xs.length cap] 37) (.cells #[.float .f32 z] 28) (.cells #[.int .i64 0,.int .i64 0,.slice none 0 0] 37)
 have RB:=I (Box3.alloc2 (w.alloc (.cells #[.int .i64 r,.int .i64 c,.slice ad xs.length cap] 37)) (.cells #[.float .f32 z] 28) (.int .i64 0) (.int .i64 0) (.slice none 0 0) 37)
 rw [show (w.alloc (.cells #[.int .i64 r,.int .i64 c,.slice ad xs.length cap] 37)).heap.size=w.heap.size+1 by simp] at RB
 have B:=I hs1
 have H:=I (h.below hs1)
 obtain ⟨n,hn⟩:∃n,n=xs.length:=⟨_,rfl⟩
 rw [←hn] at K RB B H ⊢
 clear hs1 h hn hl
 go_enter Tryz.func120,Tryz.ntmps120
 go_wp2_with fail
 refine (K.out _ H.out (by go_simp) (by simp)).mono ?_
 rintro e w' ⟨va,vc,ys,rfl,RO,RM,hb⟩
 obtain ⟨r5,r0,r1,r2,rf⟩:=RB.out.below hb
 have hbw:=aA B.out hb
 have hz:=hb.size
 simp at hz
 have hbf:∀a b d:Value,Below w.heap.size w (((w'.setCell ⟨w.heap.size+1+1,0,none⟩ a).setCell ⟨w.heap.size+1+1,1,none⟩ b).setCell ⟨w.heap.size+1+1,2,none⟩ d):=fun a b d =>
  Below.setCell (p:=⟨w.heap.size+1+1,2,none⟩) (Below.setCell (p:=⟨w.heap.size+1+1,1,none⟩) (Below.setCell (p:=⟨w.heap.size+1+1,0,none⟩) hbw (by show w.heap.size≤w.heap.size+1+1;omega) a) (by show w.heap.size≤w.heap.size+1+1;omega) b) (by show w.heap.size≤w.heap.size+1+1;omega) d
 have htf:∀a b d:Value,Touch (w.heap.size+1+1) (w.heap.size+3) w' (((w'.setCell ⟨w.heap.size+1+1,0,none⟩ a).setCell ⟨w.heap.size+1+1,1,none⟩ b).setCell ⟨w.heap.size+1+1,2,none⟩ d):=fun a b d =>
  ((Touch.setCell (J _) (by omega)).trans (Touch.setCell (J _) (by omega))).trans (Touch.setCell (J _) (by omega))
 have HBF:=I hbf;have HTF:=I htf
 clear hbf htf hbw hb
 go_wp2
 try simp only [Exit.inBlock,Exit.then]
 refine bodyPost_ret (v:=.agg #[.int .i64 r,.int .i64 c,.slice va n vc]) (by simp [results,Tryz.results120,go_sem,r0,r1,r2]) rfl ⟨va,vc,ys,rfl,I ?_,RM,HBF.out _ _ _⟩
 have h1:=RO.out.touch (HTF.out (.int .i64 r) (.int .i64 c) (.slice va n vc)) (.inr (by simp))
 exact h1.bounds (by simp;omega) (by simp [World.setCell])
def bN (r c:Int) (n:Nat) (P:List Nat) (w:World) (e:Ending) (w':World):Prop:=∃ad cap zs,e=.returned (.agg #[.int .i64 r,.int .i64 c,.slice ad n cap])∧Hid (RepF w' w.heap.size w'.heap.size ad n cap zs)∧Hid (zs.map (cn .f32)=P)∧Below w.heap.size w w'
def lR (va:Option Addr) (k vc:Nat) (ys:List Nat):RowD:=⟨28,1,va,k,vc,ys.map (Value.float .f32)⟩
def dX (g:Nat) (cs:List Value):RowD:=⟨37,3,some ⟨g,0,none⟩,1,1,cs⟩
structure Bld (w0:World) (wt:World) (rb ob:Nat) (r c:Int) (va:Option Addr) (k vc:Nat) (ys:List Nat):Prop where
 own:Own wt w0.heap.size wt.heap.size [lR va k vc ys,dX ob [.int .i64 r,.int .i64 c,.slice va k vc],dX rb [.int .i64 0,.int .i64 0,.slice none 0 0]]
 len:ys.length=k
 ok:okF ys
 below:Below w0.heap.size w0 wt
section
variable {w0 wt:World} {rb ob:Nat} {r c:Int} {va:Option Addr} {k vc:Nat} {ys:List Nat}
theorem Bld.move (h:Bld w0 wt rb ob r c va k vc ys) {W:World} (hb:Below wt.heap.size wt W):Bld w0 W rb ob r c va k vc ys :=
 ⟨(h.own.below hb).bounds (J _) hb.size,h.len,h.ok,h.below.trans (hb.mono h.below.size)⟩
theorem Bld.out (h:Bld w0 wt rb ob r c va k vc ys):BoxN wt ob [.int .i64 r,.int .i64 c,.slice va k vc]:=by
 obtain ⟨_,hl,hc,hf⟩:=h.own.cell (List.mem_cons_of_mem _ (List.mem_cons_self ..))
 exact ⟨hl.2.2,hc,hf⟩
theorem Bld.res (h:Bld w0 wt rb ob r c va k vc ys):BoxN wt rb [.int .i64 0,.int .i64 0,.slice none 0 0]:=by
 obtain ⟨_,hl,hc,hf⟩:=h.own.cell (List.mem_cons_of_mem _ (List.mem_cons_of_mem _ (List.mem_cons_self ..)))
 exact ⟨hl.2.2,hc,hf⟩
theorem Bld.row (h:Bld w0 wt rb ob r c va k vc ys):wt.ownsRow w0.heap.size 28 1 (.slice va k vc) k (ys.map (Value.float .f32)):=h.own.head.own
theorem Bld.apart (h:Bld w0 wt rb ob r c va k vc ys):(Value.slice va k vc).ownBlock≠some ob:=by
 intro e
 exact h.own.apart (List.mem_cons_self ..) ob e rfl
theorem Bld.push (h:Bld w0 wt rb ob r c va k vc ys) {W w9:World} {x:Nat} {v':Value} {o:Obj} (hx:x < 4294967296) (hb:Below wt.heap.size wt W) (ho:w9.ownsRow w0.heap.size 28 1 v' (k+1) (ys.map (Value.float .f32) ++ [.float .f32 x]))
  (hg:(W.alloc o).grownBy w9 (Value.slice va k vc).ownBlock) (hat:v'.ownBlock=(Value.slice va k vc).ownBlock∨v'.ownBlock=some (W.heap.size+1)) :
  ∃va' vc',v'=.slice va' (k+1) vc'∧w9.cell? ⟨ob,2,none⟩=some (.slice va k vc)∧w9.frozen? ⟨ob,2,none⟩=false∧Below w0.heap.size w0 w9∧Bld w0 (w9.setCell ⟨ob,2,none⟩ (.slice va' (k+1) vc')) rb ob r c va' (k+1) vc' (ys ++ [x]):=by
 obtain ⟨va',vc',rfl,_⟩:=Rd.of_owns ho
 have h1:=(h.own.below hb).below (aE W o)
 have hs:=hg.size
 have hbs:=hb.size
 simp at hs
 have hB:=h.below.size
 have hbel:Below w0.heap.size w0 w9:=by
  refine Below.grown ((h.below.trans (hb.mono hB)).alloc (by omega) o) hg (by simp;omega) (fun j e=>(h.row.lt j e).1)
 have h2:=h1.grown (w':=w9) (hi':=w9.heap.size) (y:=lR va' (k+1) vc' (ys ++ [x])) hg (by
  refine Row.mk' ?_
  show w9.ownsRow w0.heap.size 28 1 (.slice va' (k+1) vc') (k+1) ((ys ++ [x]).map (Value.float .f32))
  rw [List.map_append];exact ho) (fun g e=>by
   rcases hat with e1 | e1
   ·exact .inl (e1.symm.trans e)
   ·right
    have e2:some g=some (W.heap.size+1):=e.symm.trans e1
    cases e2
    omega) (by omega)
 have hbl:=h.out.lt
 have hcell:w9.cell? ⟨ob,2,none⟩=some (.slice va k vc):=by
  rw [hg.cell_far ⟨ob,2,none⟩ (by simp;omega) (Ne.symm h.apart),World.cell?_alloc_lt _ _ _ (show ob < W.heap.size by omega)]
  exact ((h.move hb).out).three.2.2.2.1
 have hfz:w9.frozen? ⟨ob,2,none⟩=false:=by
  rw [hg.frozen_far ⟨ob,2,none⟩ (by simp;omega) (Ne.symm h.apart)]
  exact ((h.move hb).out.below (aE W o)).fz 2
 refine ⟨va',vc',rfl,hcell,hfz,hbel,?_⟩
 have p1:[lR va' (k+1) vc' (ys ++ [x]),dX ob [.int .i64 r,.int .i64 c,.slice va k vc],dX rb [.int .i64 0,.int .i64 0,.slice none 0 0]].Perm [dX ob [.int .i64 r,.int .i64 c,.slice va k vc],lR va' (k+1) vc' (ys ++ [x]),dX rb [.int .i64 0,.int .i64 0,.slice none 0 0]]:=List.Perm.swap _ _ _
 have h3:=(h2.perm p1).store 2 (.slice va' (k+1) vc')
 have h4:=h3.perm (M:=[lR va' (k+1) vc' (ys ++ [x]),dX ob [.int .i64 r,.int .i64 c,.slice va' (k+1) vc'],dX rb [.int .i64 0,.int .i64 0,.slice none 0 0]]) (List.Perm.swap _ _ _)
 refine ⟨h4.bounds (J _) (by simp [World.setCell]),by simp [h.len],fun y hy=>?_,hbel.setCell (p:=⟨ob,2,none⟩) ?_ _⟩
 ·rcases List.mem_append.1 hy with hy | hy
  ·exact h.ok y hy
  ·simp at hy;subst hy;exact hx
 ·exact (h.own.cell (List.mem_cons_of_mem _ (List.mem_cons_self ..))).2.1.1
theorem Bld.fin (h:Bld w0 wt rb ob r c va k vc ys):RepF (setCs wt rb 0 [.int .i64 r,.int .i64 c,.slice va k vc]) w0.heap.size (setCs wt rb 0 [.int .i64 r,.int .i64 c,.slice va k vc]).heap.size va k vc ys∧Below w0.heap.size w0 (setCs wt rb 0 [.int .i64 r,.int .i64 c,.slice va k vc]):=by
 have hl:=h.len
 subst hl
 have p1:[lR va ys.length vc ys,dX ob [.int .i64 r,.int .i64 c,.slice va ys.length vc],dX rb [.int .i64 0,.int .i64 0,.slice none 0 0]].Perm [dX rb [.int .i64 0,.int .i64 0,.slice none 0 0],lR va ys.length vc ys,dX ob [.int .i64 r,.int .i64 c,.slice va ys.length vc]] :=
  (List.perm_append_comm (l₁:=[lR va ys.length vc ys,dX ob [.int .i64 r,.int .i64 c,.slice va ys.length vc]]) (l₂:=[dX rb [.int .i64 0,.int .i64 0,.slice none 0 0]]))
 have h1:=jA (h.own.perm p1) 0 [.int .i64 r,.int .i64 c,.slice va ys.length vc]
 have hrb:=(h.own.cell (List.mem_cons_of_mem _ (List.mem_cons_of_mem _ (List.mem_cons_self ..)))).2.1.1
 refine ⟨(h1.repF (List.mem_cons_of_mem _ (List.mem_cons_self ..)) h.ok).bounds (J _) (by rw [aU];exact J _),aG h.below hrb 0 _⟩
end
theorem Bld.start1 (w:World) (r c:Int):Bld w (((w.alloc (.cells #[.int .i64 0,.int .i64 0,.slice none 0 0] 37)).alloc (.cells #[] 28)).alloc (.cells #[.int .i64 r,.int .i64 c,.slice (some ⟨w.heap.size+1,0,none⟩) 0 0] 37)) w.heap.size (w.heap.size+1+1) r c (some ⟨w.heap.size+1,0,none⟩) 0 0 []:=by
 refine ⟨?_,rfl,fun x hx=>(nomatch hx),dE w _ _ _⟩
 have h1:=(Own.nil w w.heap.size w.heap.size).alloc (J _) (J _) #[.int .i64 0,.int .i64 0,.slice none 0 0] 37
 have h:=World.ownsRow_made (base:=w.heap.size) (e:=28) (size:=1) (w.alloc (.cells #[.int .i64 0,.int .i64 0,.slice none 0 0] 37)) #[] 0 (by simp) (Nat.zero_le _) rfl
 have e1:(w.alloc (.cells #[.int .i64 0,.int .i64 0,.slice none 0 0] 37)).heap.size=w.heap.size+1:=by simp
 rw [e1] at h
 have h2:Own ((w.alloc (.cells #[.int .i64 0,.int .i64 0,.slice none 0 0] 37)).alloc (.cells #[] 28)) w.heap.size (w.heap.size+1+1) [lR (some ⟨w.heap.size+1,0,none⟩) 0 0 [],dX w.heap.size [.int .i64 0,.int .i64 0,.slice none 0 0]]:=by
  refine Own.cons ⟨h,fun g e=>?_⟩ ((h1.below (aE _ _)).bounds (J _) (Nat.le_succ _)) fun y hy g e1 e2=>?_
  ·cases e;show w.heap.size+1 < w.heap.size+1+1;omega
  ·simp at hy;subst hy
   cases e1
   have e3:w.heap.size=w.heap.size+1:=by injection e2
   omega
 have h3:=h2.alloc (by simp;omega) (by simp) #[.int .i64 r,.int .i64 c,.slice (some ⟨w.heap.size+1,0,none⟩) 0 0] 37
 have e2:((w.alloc (.cells #[.int .i64 0,.int .i64 0,.slice none 0 0] 37)).alloc (.cells #[] 28)).heap.size=w.heap.size+1+1:=by simp
 rw [e2] at h3
 exact (h3.perm (List.Perm.swap _ _ _)).bounds (J _) (by simp)
theorem Bld.start2 (w:World) (r c:Int):Bld w (((w.alloc (.cells #[.int .i64 0,.int .i64 0,.slice none 0 0] 37)).alloc (.cells #[.int .i64 r,.int .i64 c,.slice (some ⟨w.heap.size+1+1,0,none⟩) 0 0] 37)).alloc (.cells #[] 28)) w.heap.size (w.heap.size+1) r c (some ⟨w.heap.size+1+1,0,none⟩) 0 0 []:=by
 refine ⟨?_,rfl,fun x hx=>(nomatch hx),dE w _ _ _⟩
 have h1:=(Own.nil w w.heap.size w.heap.size).alloc (J _) (J _) #[.int .i64 0,.int .i64 0,.slice none 0 0] 37
 have h2:=h1.alloc (by simp) (by simp) #[.int .i64 r,.int .i64 c,.slice (some ⟨w.heap.size+1+1,0,none⟩) 0 0] 37
 have h:=World.ownsRow_made (base:=w.heap.size) (e:=28) (size:=1) ((w.alloc (.cells #[.int .i64 0,.int .i64 0,.slice none 0 0] 37)).alloc (.cells #[.int .i64 r,.int .i64 c,.slice (some ⟨w.heap.size+1+1,0,none⟩) 0 0] 37)) #[] 0 (by simp;omega) (Nat.zero_le _) rfl
 have e1:((w.alloc (.cells #[.int .i64 0,.int .i64 0,.slice none 0 0] 37)).alloc (.cells #[.int .i64 r,.int .i64 c,.slice (some ⟨w.heap.size+1+1,0,none⟩) 0 0] 37)).heap.size=w.heap.size+1+1:=by simp
 have e0:(w.alloc (.cells #[.int .i64 0,.int .i64 0,.slice none 0 0] 37)).heap.size=w.heap.size+1:=by simp
 rw [e1] at h
 rw [e0] at h2
 refine (Own.cons (x:=lR (some ⟨w.heap.size+1+1,0,none⟩) 0 0 []) ⟨h,fun g e=>?_⟩ ((h2.below (aE _ _)).bounds (J _) (Nat.le_succ _)) fun y hy g e1 e2=>?_).bounds (J _) (by simp)
 ·cases e;show w.heap.size+1+1 < w.heap.size+1+1+1;omega
 ·simp at hy
  cases e1
  rcases hy with rfl | rfl
  ·have e3:w.heap.size+1=w.heap.size+1+1:=by injection e2
   omega
  ·have e3:w.heap.size=w.heap.size+1+1:=by injection e2
   omega
def fM (op:BinOp) (X Y:List Nat) (n:Nat):List Nat:=bA n fun i=>dQ op .f32 (X.getD i 0) (Y.getD i 0)
theorem fS {zs:List Nat} {k:Nat} {f:Nat→Nat} {z:Nat} (h:zs.map (cn .f32)=bA k f) (hz:cn .f32 z=f k):(zs ++ [z]).map (cn .f32)=bA (k+1) f:=by
 rw [List.map_append,h,zE,List.map_cons,List.map_nil,hz]
theorem iC (w:World) (g1 o1 g2 o2:Nat) (r c:Int) (a1 a2:Option Addr) (c1 c2 n:Nat) (xs ys:List Nat) (p0:w.cell? ⟨g1,o1,none⟩=some (.int .i64 r)) (p1:w.cell? ⟨g1,o1+1,none⟩=some (.int .i64 c)) (p2:w.cell? ⟨g1,o1+2,none⟩=some (.slice a1 n c1)) (q2:w.cell? ⟨g2,o2+2,none⟩=some (.slice a2 n c2))
  (hx:F32s w a1 c1 xs) (hy:F32s w a2 c2 ys) (hxl:xs.length=n) (hyl:ys.length=n) (hn:n≤256) :
  Calls Tryz.prog 104 #[.pointer (some ⟨g1,o1,none⟩),.pointer (some ⟨g2,o2,none⟩)] w (bN r c n (fM .add (xs.map (cn .f32)) (ys.map (cn .f32)) n) w):=by
 obtain ⟨i0,hi0,hz0,hzs,hz2⟩:=info_parts bW
 have HX:=I hx;have HY:=I hy;have HXL:=I hxl;have HYL:=I hyl
 clear hx hy hxl hyl
 have hg1:=World.block_lt_of_cell? w _ p0
 have hg2:=World.block_lt_of_cell? w _ q2
 simp only at hg1 hg2
 go_enter Tryz.func104,Tryz.ntmps104
 go_upto_region 1 with fail
 obtain ⟨W0,hW0⟩:∃W,W=w.alloc (.cells #[.int .i64 0,.int .i64 0,.slice none 0 0] 37):=⟨_,rfl⟩
 have k0:W0.cell? ⟨g1,o1,none⟩=some (.int .i64 r):=by rw [hW0];go_simp
 have k1:W0.cell? ⟨g1,o1+1,none⟩=some (.int .i64 c):=by rw [hW0];go_simp
 have HW0:=I hW0
 have hs0:W0.heap.size=w.heap.size+1:=by rw [hW0];simp
 rw [←hW0]
 have HP:=I (And.intro p0 (And.intro p1 (And.intro p2 q2)))
 clear hW0 p0 p1 p2 q2
 go_cut [5] (fun p5 wx => ∃ob va vc,p5=.pointer (some ⟨ob,0,none⟩)∧Hid (Bld w wx w.heap.size ob r c va 0 vc []))
 case first =>
  go_region_held3 (fun w'=>w'.cell? ⟨g1,o1,none⟩=some (.int .i64 r)∧w'.cell? ⟨g1,o1+1,none⟩=some (.int .i64 c)) (go_keep) (first | fail)
  all_goals (try go_wp2_with fail)
  all_goals go_meet
  ·exact ⟨_,_,_,rfl,I (by rw [HW0.out];exact (Bld.start1 w r c).move (Below.drew (O _ _)))⟩
  ·exact ⟨_,_,_,rfl,I (by rw [HW0.out];exact (Bld.start2 w r c).move (Below.drew (O _ _)))⟩
 case rest =>
  obtain ⟨ob,va,vc,rfl,HB⟩:=hcut
  clear k0 k1 HW0 hs0
  go_wp2
  go_loopw [6] (fun i wt => ∃k:Nat,i=.int .i64 k∧k≤n∧∃va vc zs,Hid (Bld w wt w.heap.size ob r c va k vc zs)∧Hid (zs.map (cn .f32)=fM .add (xs.map (cn .f32)) (ys.map (cn .f32)) k)) (fun i _=>n - (intOf i).toNat)
  case atStart=>exact ⟨0,rfl,Nat.zero_le _,va,vc,[],HB,I rfl⟩
  case round =>
   clear HB
   obtain ⟨k,rfl,hk,va,vc,zs,HB,HZ⟩:=hrel
   have hbb:=HB.out.below
   have hP:=HP.out
   have r2:wr.cell? ⟨g1,o1+2,none⟩=some (.slice a1 n c1):=(hbb.cell (p:=⟨g1,o1+2,none⟩) hg1).trans hP.2.2.1
   have s2:wr.cell? ⟨g2,o2+2,none⟩=some (.slice a2 n c2):=(hbb.cell (p:=⟨g2,o2+2,none⟩) hg2).trans hP.2.2.2
   by_cases hlt:k < n
   ·obtain ⟨b1,f1,rfl,hl1,hc1⟩:=HX.out.spot (k:=k) (by rw [HXL.out];exact hlt)
    obtain ⟨b2,f2,rfl,hl2,hc2⟩:=HY.out.spot (k:=k) (by rw [HYL.out];exact hlt)
    have d1:=hc1 k (by rw [HXL.out];exact hlt)
    have d2:=hc2 k (by rw [HYL.out];exact hlt)
    have hx2:=bO xs k
    have hy2:=bO ys k
    obtain ⟨x,hx⟩:∃x,x=xs.getD k 0:=⟨_,rfl⟩
    obtain ⟨y,hy⟩:∃y,y=ys.getD k 0:=⟨_,rfl⟩
    rw [←hx] at d1 hx2
    rw [←hy] at d2 hy2
    have KS:Hid (∀W,Below w.heap.size w W→W.cell? ⟨ob,2,none⟩=some (.slice va k vc)→W.cell? ⟨g1,o1+2,none⟩=some (.slice (some ⟨b1,f1,none⟩) n c1)∧W.cell? ⟨g2,o2+2,none⟩=some (.slice (some ⟨b2,f2,none⟩) n c2)∧W.cell? ⟨b1,f1+k,none⟩=some (.float .f32 x)∧W.cell? ⟨b2,f2+k,none⟩=some (.float .f32 y)∧W.cell? ⟨ob,2,none⟩=some (.slice va k vc)):=I (fun W hb ho=>⟨(hb.cell (p:=⟨g1,o1+2,none⟩) hg1).trans hP.2.2.1,(hb.cell (p:=⟨g2,o2+2,none⟩) hg2).trans hP.2.2.2,(hb.cell (p:=⟨b1,f1+k,none⟩) hl1).trans d1,(hb.cell (p:=⟨b2,f2+k,none⟩) hl2).trans d2,ho⟩)
    have HXY:=I (And.intro hx2 hy2)
    have HS:=I (KS.out wr HB.out.below HB.out.out.three.2.2.2.1)
    clear hc1 hc2 hx hy d1 d2 hx2 hy2 hbb hP
    go_upto_region 5 with fail
    clear r2 s2
    refine aL 20 [17,18] (fun W=>W.cell? ⟨g1,o1+2,none⟩=some (.slice (some ⟨b1,f1,none⟩) n c1)∧W.cell? ⟨g2,o2+2,none⟩=some (.slice (some ⟨b2,f2,none⟩) n c2)∧W.cell? ⟨b1,f1+k,none⟩=some (.float .f32 x)∧W.cell? ⟨b2,f2+k,none⟩=some (.float .f32 y)∧W.cell? ⟨ob,2,none⟩=some (.slice va k vc)) (fun _ _ _=>False) (fun _ _ _ _ _=>False) (by kernel_rfl) (by kernel_rfl) HS.out (fun W q h=>by simpa using h) ?_
    iterate 16 (refine aD (by rfl) HS.out (fun K hK W hW=>?_);obtain ⟨e1,e2,e3,e4,e5⟩:=hW;go_simp;refine hK _ ?_;clear hK K e1 e2 e3 e4 e5)
    refine aD (by rfl) HS.out (fun K hK W hW=>?_)
    go_simp
    have hz:=bE .add .f32 x y W
    have hzl:=bL .add .f32 x y W
    generalize dH .add .f32 x y W=z at hz hzl ⊢
    refine hK _ ?_
    have HZ2:=I hz;have HZL:=I hzl
    clear hK K hW hz hzl
    refine aF (by rfl) HS.out (fun K hK q=>?_)
    have hbq:=below_drewN (O wr.heap.size wr) q
    go_simp
    have hbA:Below wr.heap.size wr ((wr.drewN q).alloc (.cells #[.float .f32 z] 28)):=hbq.alloc (by simp) _
    have hs1:=KS.out _ ((HB.out.below.trans (hbA.mono HB.out.below.size))) ((HB.out.move hbA).out.three.2.2.2.1)
    have HBA:=I hbA;have HS1:=I hs1
    refine ⟨hs1,hK _ _ ?_⟩
    clear hK K hbq hbA hs1
    refine aF (by rfl) HS1.out (fun K hK q2=>?_)
    refine bP rfl _ _ 25 rfl w.heap.size 28 i0 _ 1 4 Tryz.underlying25 hi0 hz0 hzs hz2 rfl (by decide) (.slice va k vc) k (zs.map (Value.float .f32)) rfl (HB.out.move (below_drewN HBA.out q2)).row ⟨wr.heap.size,0,none⟩ 1 1 [.float .f32 z] rfl rfl (World.news_of_block (cs:=#[.float .f32 z]) (t:=28) (fr:=(0,0)) (heap_alloc_new (wr.drewN q) _)) (by simp [Value.oneCell']) (by unfold maxLen;omega) (by omega) (Nat.le_trans HB.out.below.size (Nat.le_trans HBA.out.size (J _))) ?_
    intro v' w9 ho9 hg9 hat9 hb9
    obtain ⟨va',vc',rfl,hc9,hf9,hbel9,hnew⟩:=HB.out.push (W:=(wr.drewN q).drewN q2) HZL.out (below_drewN (below_drewN (O _ _) q) q2) ho9 hg9 (by simpa using hat9)
    have hs9:=KS.out w9 hbel9 hc9
    have HS9:=I hs9;have HF9:=I (And.intro hc9 hf9);have HN9:=I hnew
    have HM9:=I (fS HZ.out (f:=fun i=>dQ .add .f32 ((xs.map (cn .f32)).getD i 0) ((ys.map (cn .f32)).getD i 0)) (by rw [HZ2.out,HXY.out.1,HXY.out.2]))
    refine ⟨hs9,hK _ _ ?_⟩
    clear hK K ho9 hg9 hat9 hb9 hc9 hf9 hbel9 hnew hs9 HS1 HBA
    refine aD (by rfl) HS9.out (fun K hK W hW=>?_)
    go_simp
    refine hK _ ?_
    clear hK K hW
    refine aP (fun q3=>?_)
    have hc9:(w9.drewN q3).cell? ⟨ob,2,none⟩=some (.slice va k vc):=by simpa using HF9.out.1
    have hf9:(w9.drewN q3).frozen? ⟨ob,2,none⟩=false:=by simpa using HF9.out.2
    have HN:=I (HN9.out.move (below_drewN (O _ _) q3))
    clear HN9 HS9 HF9 HB HZ HS KS
    go_wp2
    go_roundw
    case rel=>exact ⟨k+1,by go_num,hlt,_,_,_,HN,HM9⟩
    case measure=>simp [intOf];omega
   ·have hkn:k=n:=by omega
    subst hkn
    obtain ⟨ol,t0,t1,t2,tf⟩:=HB.out.out.three
    obtain ⟨rl,u0,u1,u2,uf⟩:=HB.out.res.three
    have HFIN:=I HB.out.fin
    clear s2 hbb hP
    go_wp2
    try simp only [Exit.inBlock,Exit.then]
    refine bodyPost_ret (v:=.agg #[.int .i64 r,.int .i64 c,.slice va k vc]) (by simp [results,Tryz.results104,go_sem,u0,u1,u2]) rfl ⟨va,vc,zs,rfl,I HFIN.out.1,HZ,HFIN.out.2⟩
def fT (op:BinOp) (X Y:List Nat) (c n:Nat):List Nat:=bA n fun i=>dQ op .f32 (X.getD i 0) (Y.getD (i % c) 0)
theorem tU (w:World) (g1 o1:Nat) (r:Int) (c:Nat) (a1 a2:Option Addr) (c1 c2 n:Nat) (xs ys:List Nat) (p0:w.cell? ⟨g1,o1,none⟩=some (.int .i64 r)) (p1:w.cell? ⟨g1,o1+1,none⟩=some (.int .i64 c)) (p2:w.cell? ⟨g1,o1+2,none⟩=some (.slice a1 n c1))
  (hx:F32s w a1 c1 xs) (hy:F32s w a2 c2 ys) (hxl:xs.length=n) (hyl:ys.length=c) (hn:n≤256) (hcp:1≤c) (hcq:c≤16) :
  Calls Tryz.prog 105 #[.pointer (some ⟨g1,o1,none⟩),.slice a2 c c2] w (bN r c n (fT .add (xs.map (cn .f32)) (ys.map (cn .f32)) c n) w):=by
 obtain ⟨i0,hi0,hz0,hzs,hz2⟩:=info_parts bW
 have HX:=I hx;have HXL:=I hxl
 have HY:=I hy;have HYL:=I hyl
 clear hy hyl
 clear hx hxl
 have hg1:=World.block_lt_of_cell? w _ p0
 simp only at hg1
 go_enter Tryz.func105,Tryz.ntmps105
 go_upto_region 1 with fail
 obtain ⟨W0,hW0⟩:∃W,W=w.alloc (.cells #[.int .i64 0,.int .i64 0,.slice none 0 0] 37):=⟨_,rfl⟩
 have k0:W0.cell? ⟨g1,o1,none⟩=some (.int .i64 r):=by rw [hW0];go_simp
 have k1:W0.cell? ⟨g1,o1+1,none⟩=some (.int .i64 c):=by rw [hW0];go_simp
 have HW0:=I hW0
 have hs0:W0.heap.size=w.heap.size+1:=by rw [hW0];simp
 rw [←hW0]
 have HP:=I (And.intro p1 (And.intro p2 trivial))
 clear hW0 p0 p1 p2
 go_cut [5] (fun p5 wx => ∃ob va vc,p5=.pointer (some ⟨ob,0,none⟩)∧Hid (Bld w wx w.heap.size ob r c va 0 vc []))
 case first =>
  go_region_held3 (fun w'=>w'.cell? ⟨g1,o1,none⟩=some (.int .i64 r)∧w'.cell? ⟨g1,o1+1,none⟩=some (.int .i64 c)) (go_keep) (first | fail)
  all_goals (try go_wp2_with fail)
  all_goals go_meet
  ·exact ⟨_,_,_,rfl,I (by rw [HW0.out];exact (Bld.start1 w r c).move (Below.drew (O _ _)))⟩
  ·exact ⟨_,_,_,rfl,I (by rw [HW0.out];exact (Bld.start2 w r c).move (Below.drew (O _ _)))⟩
 case rest =>
  obtain ⟨ob,va,vc,rfl,HB⟩:=hcut
  clear k0 k1 HW0 hs0
  go_wp2
  go_loopw [6] (fun i wt => ∃k:Nat,i=.int .i64 k∧k≤n∧∃va vc zs,Hid (Bld w wt w.heap.size ob r c va k vc zs)∧Hid (zs.map (cn .f32)=fT .add (xs.map (cn .f32)) (ys.map (cn .f32)) c k)) (fun i _=>n - (intOf i).toNat)
  case atStart=>exact ⟨0,rfl,Nat.zero_le _,va,vc,[],HB,I rfl⟩
  case round =>
   clear HB
   obtain ⟨k,rfl,hk,va,vc,zs,HB,HZ⟩:=hrel
   have hbb:=HB.out.below
   have hP:=HP.out
   have r1:wr.cell? ⟨g1,o1+1,none⟩=some (.int .i64 c):=(hbb.cell (p:=⟨g1,o1+1,none⟩) hg1).trans hP.1
   have r2:wr.cell? ⟨g1,o1+2,none⟩=some (.slice a1 n c1):=(hbb.cell (p:=⟨g1,o1+2,none⟩) hg1).trans hP.2.1
   by_cases hlt:k < n
   ·obtain ⟨b1,f1,rfl,hl1,hc1⟩:=HX.out.spot (k:=k) (by rw [HXL.out];exact hlt)
    have d1:=hc1 k (by rw [HXL.out];exact hlt)
    have hx2:=bO xs k
    obtain ⟨x,hx⟩:∃x,x=xs.getD k 0:=⟨_,rfl⟩
    rw [←hx] at d1 hx2
    have hjc:k % c < c:=Nat.mod_lt _ hcp
    obtain ⟨b2,f2,rfl,hl2,hc2⟩:=HY.out.spot (k:=k % c) (by rw [HYL.out];exact hjc)
    have d2:=hc2 (k % c) (by rw [HYL.out];exact hjc)
    have hy2:=bO ys (k % c)
    obtain ⟨y,hy⟩:∃y,y=ys.getD (k % c) 0:=⟨_,rfl⟩
    rw [←hy] at d2 hy2
    have hm0:(k:Int).tmod (c:Int)=((k % c:Nat):Int):=(Int.ofNat_tmod k c).symm
    have hc0:¬ c=0:=by omega
    obtain ⟨j,hj⟩:∃j,j=k % c:=⟨_,rfl⟩
    rw [←hj] at hjc d2 hm0
    have HJ:=I hj
    clear hj
    have KS:Hid (∀W,Below w.heap.size w W→W.cell? ⟨ob,2,none⟩=some (.slice va k vc)→W.cell? ⟨g1,o1+1,none⟩=some (.int .i64 c)∧W.cell? ⟨g1,o1+2,none⟩=some (.slice (some ⟨b1,f1,none⟩) n c1)∧W.cell? ⟨b1,f1+k,none⟩=some (.float .f32 x)∧W.cell? ⟨b2,f2+j,none⟩=some (.float .f32 y)∧W.cell? ⟨ob,2,none⟩=some (.slice va k vc)):=I (fun W hb ho=>⟨(hb.cell (p:=⟨g1,o1+1,none⟩) hg1).trans hP.1,(hb.cell (p:=⟨g1,o1+2,none⟩) hg1).trans hP.2.1,(hb.cell (p:=⟨b1,f1+k,none⟩) hl1).trans d1,(hb.cell (p:=⟨b2,f2+j,none⟩) hl2).trans d2,ho⟩)
    have HXY:=I (And.intro hx2 hy2)
    have HS:=I (KS.out wr HB.out.below HB.out.out.three.2.2.2.1)
    clear hc1 hx d1 hx2 hbb hP hc2 hy d2 hy2
    go_upto_region 5 with fail
    clear r1 r2
    refine aL 22 [19,20] (fun W=>W.cell? ⟨g1,o1+1,none⟩=some (.int .i64 c)∧W.cell? ⟨g1,o1+2,none⟩=some (.slice (some ⟨b1,f1,none⟩) n c1)∧W.cell? ⟨b1,f1+k,none⟩=some (.float .f32 x)∧W.cell? ⟨b2,f2+j,none⟩=some (.float .f32 y)∧W.cell? ⟨ob,2,none⟩=some (.slice va k vc)) (fun _ _ _=>False) (fun _ _ _ _ _=>False) (by kernel_rfl) (by kernel_rfl) HS.out (fun W q h=>by simpa using h) ?_
    iterate 18 (refine aD (by rfl) HS.out (fun K hK W hW=>?_);obtain ⟨e0,e1,e2,e3,e4⟩:=hW;go_simp;refine hK _ ?_;clear hK K e0 e1 e2 e3 e4)
    refine aD (by rfl) HS.out (fun K hK W hW=>?_)
    go_simp
    have hz:=bE .add .f32 x y W
    have hzl:=bL .add .f32 x y W
    generalize dH .add .f32 x y W=z at hz hzl ⊢
    refine hK _ ?_
    have HZ2:=I hz;have HZL:=I hzl
    clear hK K hW hz hzl
    refine aF (by rfl) HS.out (fun K hK q=>?_)
    have hbq:=below_drewN (O wr.heap.size wr) q
    go_simp
    have hbA:Below wr.heap.size wr ((wr.drewN q).alloc (.cells #[.float .f32 z] 28)):=hbq.alloc (by simp) _
    have hs1:=KS.out _ ((HB.out.below.trans (hbA.mono HB.out.below.size))) ((HB.out.move hbA).out.three.2.2.2.1)
    have HBA:=I hbA;have HS1:=I hs1
    refine ⟨hs1,hK _ _ ?_⟩
    clear hK K hbq hbA hs1
    refine aF (by rfl) HS1.out (fun K hK q2=>?_)
    refine bP rfl _ _ 25 rfl w.heap.size 28 i0 _ 1 4 Tryz.underlying25 hi0 hz0 hzs hz2 rfl (by decide) (.slice va k vc) k (zs.map (Value.float .f32)) rfl (HB.out.move (below_drewN HBA.out q2)).row ⟨wr.heap.size,0,none⟩ 1 1 [.float .f32 z] rfl rfl (World.news_of_block (cs:=#[.float .f32 z]) (t:=28) (fr:=(0,0)) (heap_alloc_new (wr.drewN q) _)) (by simp [Value.oneCell']) (by unfold maxLen;omega) (by omega) (Nat.le_trans HB.out.below.size (Nat.le_trans HBA.out.size (J _))) ?_
    intro v' w9 ho9 hg9 hat9 hb9
    obtain ⟨va',vc',rfl,hc9,hf9,hbel9,hnew⟩:=HB.out.push (W:=(wr.drewN q).drewN q2) HZL.out (below_drewN (below_drewN (O _ _) q) q2) ho9 hg9 (by simpa using hat9)
    have hs9:=KS.out w9 hbel9 hc9
    have HS9:=I hs9;have HF9:=I (And.intro hc9 hf9);have HN9:=I hnew
    have HM9:=I (fS HZ.out (f:=fun i=>dQ .add .f32 ((xs.map (cn .f32)).getD i 0) ((ys.map (cn .f32)).getD (i % c) 0)) (by rw [HZ2.out];exact (by show _ = dQ .add .f32 ((xs.map (cn .f32)).getD k 0) ((ys.map (cn .f32)).getD (k % c) 0);rw [HXY.out.1,HXY.out.2])))
    refine ⟨hs9,hK _ _ ?_⟩
    clear hK K ho9 hg9 hat9 hb9 hc9 hf9 hbel9 hnew hs9 HS1 HBA
    refine aD (by rfl) HS9.out (fun K hK W hW=>?_)
    go_simp
    refine hK _ ?_
    clear hK K hW
    refine aP (fun q3=>?_)
    have hc9:(w9.drewN q3).cell? ⟨ob,2,none⟩=some (.slice va k vc):=by simpa using HF9.out.1
    have hf9:(w9.drewN q3).frozen? ⟨ob,2,none⟩=false:=by simpa using HF9.out.2
    have HN:=I (HN9.out.move (below_drewN (O _ _) q3))
    clear HN9 HS9 HF9 HB HZ HS KS
    go_wp2
    go_roundw
    case rel=>exact ⟨k+1,by go_num,hlt,_,_,_,HN,HM9⟩
    case measure=>simp [intOf];omega
   ·have hkn:k=n:=by omega
    subst hkn
    obtain ⟨ol,t0,t1,t2,tf⟩:=HB.out.out.three
    obtain ⟨rl,u0,u1,u2,uf⟩:=HB.out.res.three
    have HFIN:=I HB.out.fin
    clear hbb hP r1
    go_wp2
    try simp only [Exit.inBlock,Exit.then]
    refine bodyPost_ret (v:=.agg #[.int .i64 r,.int .i64 c,.slice va k vc]) (by simp [results,Tryz.results105,go_sem,u0,u1,u2]) rfl ⟨va,vc,zs,rfl,I HFIN.out.1,HZ,HFIN.out.2⟩
theorem mQ (w:World) (g1 o1:Nat) (r:Int) (c:Nat) (a1 a2:Option Addr) (c1 c2 n:Nat) (xs ys:List Nat) (p0:w.cell? ⟨g1,o1,none⟩=some (.int .i64 r)) (p1:w.cell? ⟨g1,o1+1,none⟩=some (.int .i64 c)) (p2:w.cell? ⟨g1,o1+2,none⟩=some (.slice a1 n c1))
  (hx:F32s w a1 c1 xs) (hy:F32s w a2 c2 ys) (hxl:xs.length=n) (hyl:ys.length=c) (hn:n≤256) (hcp:1≤c) (hcq:c≤16) :
  Calls Tryz.prog 107 #[.pointer (some ⟨g1,o1,none⟩),.slice a2 c c2] w (bN r c n (fT .mul (xs.map (cn .f32)) (ys.map (cn .f32)) c n) w):=by
 obtain ⟨i0,hi0,hz0,hzs,hz2⟩:=info_parts bW
 have HX:=I hx;have HXL:=I hxl
 have HY:=I hy;have HYL:=I hyl
 clear hy hyl
 clear hx hxl
 have hg1:=World.block_lt_of_cell? w _ p0
 simp only at hg1
 go_enter Tryz.func107,Tryz.ntmps107
 go_upto_region 1 with fail
 obtain ⟨W0,hW0⟩:∃W,W=w.alloc (.cells #[.int .i64 0,.int .i64 0,.slice none 0 0] 37):=⟨_,rfl⟩
 have k0:W0.cell? ⟨g1,o1,none⟩=some (.int .i64 r):=by rw [hW0];go_simp
 have k1:W0.cell? ⟨g1,o1+1,none⟩=some (.int .i64 c):=by rw [hW0];go_simp
 have HW0:=I hW0
 have hs0:W0.heap.size=w.heap.size+1:=by rw [hW0];simp
 rw [←hW0]
 have HP:=I (And.intro p1 (And.intro p2 trivial))
 clear hW0 p0 p1 p2
 go_cut [5] (fun p5 wx => ∃ob va vc,p5=.pointer (some ⟨ob,0,none⟩)∧Hid (Bld w wx w.heap.size ob r c va 0 vc []))
 case first =>
  go_region_held3 (fun w'=>w'.cell? ⟨g1,o1,none⟩=some (.int .i64 r)∧w'.cell? ⟨g1,o1+1,none⟩=some (.int .i64 c)) (go_keep) (first | fail)
  all_goals (try go_wp2_with fail)
  all_goals go_meet
  ·exact ⟨_,_,_,rfl,I (by rw [HW0.out];exact (Bld.start1 w r c).move (Below.drew (O _ _)))⟩
  ·exact ⟨_,_,_,rfl,I (by rw [HW0.out];exact (Bld.start2 w r c).move (Below.drew (O _ _)))⟩
 case rest =>
  obtain ⟨ob,va,vc,rfl,HB⟩:=hcut
  clear k0 k1 HW0 hs0
  go_wp2
  go_loopw [6] (fun i wt => ∃k:Nat,i=.int .i64 k∧k≤n∧∃va vc zs,Hid (Bld w wt w.heap.size ob r c va k vc zs)∧Hid (zs.map (cn .f32)=fT .mul (xs.map (cn .f32)) (ys.map (cn .f32)) c k)) (fun i _=>n - (intOf i).toNat)
  case atStart=>exact ⟨0,rfl,Nat.zero_le _,va,vc,[],HB,I rfl⟩
  case round =>
   clear HB
   obtain ⟨k,rfl,hk,va,vc,zs,HB,HZ⟩:=hrel
   have hbb:=HB.out.below
   have hP:=HP.out
   have r1:wr.cell? ⟨g1,o1+1,none⟩=some (.int .i64 c):=(hbb.cell (p:=⟨g1,o1+1,none⟩) hg1).trans hP.1
   have r2:wr.cell? ⟨g1,o1+2,none⟩=some (.slice a1 n c1):=(hbb.cell (p:=⟨g1,o1+2,none⟩) hg1).trans hP.2.1
   by_cases hlt:k < n
   ·obtain ⟨b1,f1,rfl,hl1,hc1⟩:=HX.out.spot (k:=k) (by rw [HXL.out];exact hlt)
    have d1:=hc1 k (by rw [HXL.out];exact hlt)
    have hx2:=bO xs k
    obtain ⟨x,hx⟩:∃x,x=xs.getD k 0:=⟨_,rfl⟩
    rw [←hx] at d1 hx2
    have hjc:k % c < c:=Nat.mod_lt _ hcp
    obtain ⟨b2,f2,rfl,hl2,hc2⟩:=HY.out.spot (k:=k % c) (by rw [HYL.out];exact hjc)
    have d2:=hc2 (k % c) (by rw [HYL.out];exact hjc)
    have hy2:=bO ys (k % c)
    obtain ⟨y,hy⟩:∃y,y=ys.getD (k % c) 0:=⟨_,rfl⟩
    rw [←hy] at d2 hy2
    have hm0:(k:Int).tmod (c:Int)=((k % c:Nat):Int):=(Int.ofNat_tmod k c).symm
    have hc0:¬ c=0:=by omega
    obtain ⟨j,hj⟩:∃j,j=k % c:=⟨_,rfl⟩
    rw [←hj] at hjc d2 hm0
    have HJ:=I hj
    clear hj
    have KS:Hid (∀W,Below w.heap.size w W→W.cell? ⟨ob,2,none⟩=some (.slice va k vc)→W.cell? ⟨g1,o1+1,none⟩=some (.int .i64 c)∧W.cell? ⟨g1,o1+2,none⟩=some (.slice (some ⟨b1,f1,none⟩) n c1)∧W.cell? ⟨b1,f1+k,none⟩=some (.float .f32 x)∧W.cell? ⟨b2,f2+j,none⟩=some (.float .f32 y)∧W.cell? ⟨ob,2,none⟩=some (.slice va k vc)):=I (fun W hb ho=>⟨(hb.cell (p:=⟨g1,o1+1,none⟩) hg1).trans hP.1,(hb.cell (p:=⟨g1,o1+2,none⟩) hg1).trans hP.2.1,(hb.cell (p:=⟨b1,f1+k,none⟩) hl1).trans d1,(hb.cell (p:=⟨b2,f2+j,none⟩) hl2).trans d2,ho⟩)
    have HXY:=I (And.intro hx2 hy2)
    have HS:=I (KS.out wr HB.out.below HB.out.out.three.2.2.2.1)
    clear hc1 hx d1 hx2 hbb hP hc2 hy d2 hy2
    go_upto_region 5 with fail
    clear r1 r2
    refine aL 22 [19,20] (fun W=>W.cell? ⟨g1,o1+1,none⟩=some (.int .i64 c)∧W.cell? ⟨g1,o1+2,none⟩=some (.slice (some ⟨b1,f1,none⟩) n c1)∧W.cell? ⟨b1,f1+k,none⟩=some (.float .f32 x)∧W.cell? ⟨b2,f2+j,none⟩=some (.float .f32 y)∧W.cell? ⟨ob,2,none⟩=some (.slice va k vc)) (fun _ _ _=>False) (fun _ _ _ _ _=>False) (by kernel_rfl) (by kernel_rfl) HS.out (fun W q h=>by simpa using h) ?_
    iterate 18 (refine aD (by rfl) HS.out (fun K hK W hW=>?_);obtain ⟨e0,e1,e2,e3,e4⟩:=hW;go_simp;refine hK _ ?_;clear hK K e0 e1 e2 e3 e4)
    refine aD (by rfl) HS.out (fun K hK W hW=>?_)
    go_simp
    have hz:=bE .mul .f32 x y W
    have hzl:=bL .mul .f32 x y W
    generalize dH .mul .f32 x y W=z at hz hzl ⊢
    refine hK _ ?_
    have HZ2:=I hz;have HZL:=I hzl
    clear hK K hW hz hzl
    refine aF (by rfl) HS.out (fun K hK q=>?_)
    have hbq:=below_drewN (O wr.heap.size wr) q
    go_simp
    have hbA:Below wr.heap.size wr ((wr.drewN q).alloc (.cells #[.float .f32 z] 28)):=hbq.alloc (by simp) _
    have hs1:=KS.out _ ((HB.out.below.trans (hbA.mono HB.out.below.size))) ((HB.out.move hbA).out.three.2.2.2.1)
    have HBA:=I hbA;have HS1:=I hs1
    refine ⟨hs1,hK _ _ ?_⟩
    clear hK K hbq hbA hs1
    refine aF (by rfl) HS1.out (fun K hK q2=>?_)
    refine bP rfl _ _ 25 rfl w.heap.size 28 i0 _ 1 4 Tryz.underlying25 hi0 hz0 hzs hz2 rfl (by decide) (.slice va k vc) k (zs.map (Value.float .f32)) rfl (HB.out.move (below_drewN HBA.out q2)).row ⟨wr.heap.size,0,none⟩ 1 1 [.float .f32 z] rfl rfl (World.news_of_block (cs:=#[.float .f32 z]) (t:=28) (fr:=(0,0)) (heap_alloc_new (wr.drewN q) _)) (by simp [Value.oneCell']) (by unfold maxLen;omega) (by omega) (Nat.le_trans HB.out.below.size (Nat.le_trans HBA.out.size (J _))) ?_
    intro v' w9 ho9 hg9 hat9 hb9
    obtain ⟨va',vc',rfl,hc9,hf9,hbel9,hnew⟩:=HB.out.push (W:=(wr.drewN q).drewN q2) HZL.out (below_drewN (below_drewN (O _ _) q) q2) ho9 hg9 (by simpa using hat9)
    have hs9:=KS.out w9 hbel9 hc9
    have HS9:=I hs9;have HF9:=I (And.intro hc9 hf9);have HN9:=I hnew
    have HM9:=I (fS HZ.out (f:=fun i=>dQ .mul .f32 ((xs.map (cn .f32)).getD i 0) ((ys.map (cn .f32)).getD (i % c) 0)) (by rw [HZ2.out];exact (by show _ = dQ .mul .f32 ((xs.map (cn .f32)).getD k 0) ((ys.map (cn .f32)).getD (k % c) 0);rw [HXY.out.1,HXY.out.2])))
    refine ⟨hs9,hK _ _ ?_⟩
    clear hK K ho9 hg9 hat9 hb9 hc9 hf9 hbel9 hnew hs9 HS1 HBA
    refine aD (by rfl) HS9.out (fun K hK W hW=>?_)
    go_simp
    refine hK _ ?_
    clear hK K hW
    refine aP (fun q3=>?_)
    have hc9:(w9.drewN q3).cell? ⟨ob,2,none⟩=some (.slice va k vc):=by simpa using HF9.out.1
    have hf9:(w9.drewN q3).frozen? ⟨ob,2,none⟩=false:=by simpa using HF9.out.2
    have HN:=I (HN9.out.move (below_drewN (O _ _) q3))
    clear HN9 HS9 HF9 HB HZ HS KS
    go_wp2
    go_roundw
    case rel=>exact ⟨k+1,by go_num,hlt,_,_,_,HN,HM9⟩
    case measure=>simp [intOf];omega
   ·have hkn:k=n:=by omega
    subst hkn
    obtain ⟨ol,t0,t1,t2,tf⟩:=HB.out.out.three
    obtain ⟨rl,u0,u1,u2,uf⟩:=HB.out.res.three
    have HFIN:=I HB.out.fin
    clear hbb hP r1
    go_wp2
    try simp only [Exit.inBlock,Exit.then]
    refine bodyPost_ret (v:=.agg #[.int .i64 r,.int .i64 c,.slice va k vc]) (by simp [results,Tryz.results107,go_sem,u0,u1,u2]) rfl ⟨va,vc,zs,rfl,I HFIN.out.1,HZ,HFIN.out.2⟩
end Go.Proofs.YtpadlmidojpbeaaGreat
