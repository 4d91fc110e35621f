/- Joined texts 7. No condition. -/
import Derived.Deep.RegionHeld3
import Derived.Deep.CutRange
import Derived.Deep.DeepCutAuto
import Derived.Test.YtpadlmidojpbeaaGreatMc0
import Derived.Test.YtpadlmidojpbeaaGreatMc1
import Derived.Test.YtpadlmidojpbeaaGreatMc2
import Derived.Test.YtpadlmidojpbeaaGreatMc3
import Derived.Test.YtpadlmidojpbeaaGreatMc4
import Derived.Test.YtpadlmidojpbeaaGreatMc5
set_option linter.unusedVariables false
set_option linter.unusedSimpArgs false
set_option maxRecDepth 100000
set_option maxHeartbeats 64000000
namespace Go.Proofs.YtpadlmidojpbeaaGreat
section
open Go Go.RowKit
def bK (k:Int) (v w:TenP) (num:Nat):TenP :=
 if k=1 then ⟨v.r,v.c,fM .add v.xs w.xs v.xs.length⟩ else
 if k=2 then ⟨v.r,v.c,fT .add v.xs w.xs v.c.toNat v.xs.length⟩ else
 if k=3 then ⟨v.r,v.c,fM .mul v.xs w.xs v.xs.length⟩ else
 if k=4 then ⟨v.r,v.c,fT .mul v.xs w.xs v.c.toNat v.xs.length⟩ else
 if k=5 then ⟨v.r,v.c,oL v.xs num v.xs.length⟩ else
 if k=6 then ⟨v.r,w.c,mR v.xs w.xs v.c.toNat w.c.toNat (v.r.toNat * w.c.toNat)⟩ else
 if k=7 then ⟨v.c,v.r,iE v.xs v.r.toNat v.c.toNat v.xs.length⟩ else
 if k=8 then ⟨v.r,v.c,vG v.xs v.xs.length⟩ else
 if k=9 then ⟨v.r,v.c,fM .mul v.xs v.xs v.xs.length⟩ else
 ⟨1,1,nP (sD v.xs v.xs.length) 1⟩
def EO:TenP:=⟨0,0,[]⟩
def aH (V:List TenP) (i:Int):TenP:=V.getD i.toNat EO
def dN (V:List TenP) (o:OpP):TenP:=if o.k=0 then ⟨o.r,o.c,o.xs.map (cn .f32)⟩ else bK o.k (aH V o.a) (aH V o.b) (cn .f32 o.num)
def bM (os:List OpP) (k:Nat):List TenP:=(os.take k).foldl (fun V o=>V ++ [dN V o]) []
def bJ (os:List OpP):List TenP:=bM os os.length
theorem jP {os:List OpP} {k:Nat} {o:OpP} (h:os[k]? = some o):bM os (k+1)=bM os k ++ [dN (bM os k) o]:=by
 unfold bM
 rw [List.take_add_one,h,List.foldl_append]
 rfl
def TenP.sh (t:TenP):Sh:=(t.r,t.c)
structure okT (t:TenP):Prop where
 r1:1≤t.r
 r2:t.r≤16
 c1:1≤t.c
 c2:t.c≤16
 len:t.xs.length=t.r.toNat * t.c.toNat
theorem okT.pos {t:TenP} (h:okT t):1≤t.xs.length:=by
 rw [h.len]
 have:=h.r1;have:=h.c1
 exact Nat.mul_le_mul (by omega:1≤t.r.toNat) (by omega:1≤t.c.toNat)
theorem okT.le {t:TenP} (h:okT t):t.xs.length≤256:=by
 rw [h.len]
 have:=h.r2;have:=h.c2
 exact Nat.mul_le_mul (by omega:t.r.toNat≤16) (by omega:t.c.toNat≤16)
theorem mV (op:BinOp) (X Y:List Nat) (n:Nat):(fM op X Y n).length=n:=aJ _ _
theorem mW (op:BinOp) (X Y:List Nat) (c n:Nat):(fT op X Y c n).length=n:=aJ _ _
theorem rP (X:List Nat) (y n:Nat):(oL X y n).length=n:=aJ _ _
theorem rQ (X Y:List Nat) (m c n:Nat):(mR X Y m c n).length=n:=aJ _ _
theorem pQ (X:List Nat) (r c n:Nat):(iE X r c n).length=n:=aJ _ _
theorem Ad (X:List Nat) (n:Nat):(vG X n).length=n:=aJ _ _
theorem mX (y n:Nat):(nP y n).length=n:=aJ _ _
theorem Bi {k:Int} {v w:TenP} {num:Nat} {s:Sh} (hk:1≤k∧k≤10) (hv:okT v) (hw:okT w) (h:aQ k v.sh w.sh=some s):(bK k v w num).sh=s∧okT (bK k v w num):=by
 have hk2:k=1∨k=2∨k=3∨k=4∨k=5∨k=6∨k=7∨k=8∨k=9∨k=10:=by omega
 obtain ⟨v1,v2,v3,v4,v5⟩:=hv
 obtain ⟨w1,w2,w3,w4,w5⟩:=hw
 refine ⟨?_,?_⟩
 ·rcases hk2 with rfl | rfl | rfl | rfl | rfl | rfl | rfl | rfl | rfl | rfl
  all_goals
   simp only [aQ,TenP.sh] at h
   simp only [bK,TenP.sh]
   simp at h ⊢
   first
    | exact h
    | exact h.2
    | (by_cases h6:v.c=w.r <;> simp [h6] at h <;> (try rw [h6]) <;> exact h)
 ·rcases hk2 with rfl | rfl | rfl | rfl | rfl | rfl | rfl | rfl | rfl | rfl
  all_goals
   simp only [bK]
   simp
   constructor <;> simp [mV,mW,rP,rQ,pQ,Ad,mX] <;> first | omega | (rw [v5,Nat.mul_comm])
theorem mY {os:List OpP} {k:Nat} {S:List Sh} (hk:k≤os.length) (h:cD os k=some S):(bM os k).map TenP.sh=S∧∀t∈bM os k,okT t:=by
 induction k generalizing S with
 | zero =>
  have e:S=[]:=by
   unfold cD at h
   simpa using h.symm
  subst e
  exact ⟨rfl,fun t ht=>(nomatch ht)⟩
 | succ k ih =>
  obtain ⟨o,ho⟩:=getElem?_lt (show k < os.length by omega)
  rw [dS ho] at h
  obtain ⟨S0,hS0,hst⟩:=Option.bind_eq_some_iff.1 h
  obtain ⟨h1,h2⟩:=ih (by omega) hS0
  have hl:=eC (by omega) hS0
  have hVl:(bM os k).length=k:=by have:=congrArg List.length h1;rw [List.length_map,hl] at this;exact this
  have hg:∀i:Int,0≤i→i≤k - 1→(aH (bM os k) i).sh=dL S0 i∧okT (aH (bM os k) i):=by
   intro i h0 h3
   have hi:i.toNat < (bM os k).length:=by omega
   have e1:aH (bM os k) i=(bM os k)[i.toNat]:=by unfold aH;rw [List.getD_eq_getElem?_getD,List.getElem?_eq_getElem hi];rfl
   refine ⟨?_,by rw [e1];exact h2 _ (List.getElem_mem hi)⟩
   rw [e1]
   unfold dL
   rw [←h1,List.getD_eq_getElem?_getD,List.getElem?_map,List.getElem?_eq_getElem hi];rfl
  rw [jP ho]
  unfold dF at hst
  rw [hl] at hst
  split at hst
  ·rename_i hf
   split at hst
   ·rename_i h0
    cases hst
    have hin:=(kA hf h0).2.2
    have ht:=eA.1 hin
    have e1:dN (bM os k) o=⟨o.r,o.c,o.xs.map (cn .f32)⟩:=by unfold dN;rw [if_pos h0]
    refine ⟨by rw [List.map_append,h1,e1];rfl,fun t ht2=>?_⟩
    rcases List.mem_append.1 ht2 with ht2 | ht2
    ·exact h2 t ht2
    ·simp at ht2
     rw [ht2,e1]
     refine ⟨ht.1.1,ht.1.2,ht.2.1.1,ht.2.1.2,?_⟩
     show (o.xs.map (cn .f32)).length=o.r.toNat * o.c.toNat
     rw [List.length_map]
     have h4:=ht.2.2
     have h5:((o.r.toNat * o.c.toNat:Nat):Int)=o.r * o.c:=by
      rw [Int.natCast_mul,Int.toNat_of_nonneg (by omega),Int.toNat_of_nonneg (by omega)]
     omega
   ·rename_i h0
    obtain ⟨s,hs,e2⟩:=Option.map_eq_some_iff.1 hst
    subst e2
    have hk10:=jK hf
    have ha:=dV hf h0
    have ga:=hg o.a ha.1.1 ha.1.2
    have gb:=hg o.b ha.2.1.1 ha.2.1.2
    have e1:dN (bM os k) o=bK o.k (aH (bM os k) o.a) (aH (bM os k) o.b) (cn .f32 o.num):=by unfold dN;rw [if_neg h0]
    have hv:=Bi (k:=o.k) (s:=s) (num:=cn .f32 o.num) (by omega) ga.2 gb.2 (by rw [ga.1,gb.1];exact hs)
    refine ⟨by rw [List.map_append,h1,e1];show _ ++ [TenP.sh _] = _;rw [hv.1],fun t ht2=>?_⟩
    rcases List.mem_append.1 ht2 with ht2 | ht2
    ·exact h2 t ht2
    ·simp at ht2
     rw [ht2,e1];exact hv.2
  ·cases hst
theorem mZ {w:World} {ad:Option Addr} {cap:Nat} {us:List Ten} (h:SeeR bV w ad cap us) {k:Nat} {t:Ten} (hk:us[k]? = some t):∃b off,ad=some ⟨b,off,none⟩∧b < w.heap.size ∧
  (w.cell? ⟨b,off+k * 3,none⟩=some (.int .i64 t.r)∧w.cell? ⟨b,off+k * 3+1,none⟩=some (.int .i64 t.c)∧w.cell? ⟨b,off+k * 3+2,none⟩=some (.slice t.ad t.xs.length t.cap))∧F32s w t.ad t.cap t.xs:=by
 obtain ⟨b,off,e,hb,hc⟩:=h.spot hk (by decide)
 have hm:=List.mem_of_getElem? hk
 exact ⟨b,off,e,hb,⟨hc 0 (by decide),hc 1 (by decide),hc 2 (by decide)⟩,(h.inn t hm _ (List.mem_singleton.2 rfl)).f32s (h.ok t hm)⟩
theorem nA {us:List Ten} {V:List TenP} (hV:us.map (fun t=>t.toTenP.can)=V) {k:Nat} {t:Ten} (hk:us[k]? = some t):aH V (k:Nat)=t.toTenP.can:=by
 unfold aH
 rw [←hV,show ((k:Nat):Int).toNat=k by simp,List.getD_eq_getElem?_getD,List.getElem?_map,hk];rfl
theorem okT.nat {t:TenP} (h:okT t):∃r c:Nat,t.r=r∧t.c=c∧(1≤r∧r≤16)∧(1≤c∧c≤16)∧t.xs.length=r * c:=by
 obtain ⟨h1,h2,h3,h4,h5⟩:=h
 exact ⟨t.r.toNat,t.c.toNat,by omega,by omega,by omega,by omega,h5⟩
theorem AI (w:World) (o:OpD) (ad:Option Addr) (cap:Nat) (us:List Ten) (hu:SeeR bV w ad cap us) (V:List TenP) (hV:us.map (fun t=>t.toTenP.can)=V) (hok:∀t∈V,okT t) (i:Nat) (hi:us.length=i) (hi2:i≤48) (hf:fJ i o.toOpP=true) (hs:o.k≠0→∃s,aQ o.k (aH V o.a).sh (aH V o.b).sh=some s) (hx:F32s w o.ad o.cap o.xs) (hnil:o.ad=none→o.cap=0) (hxl:o.xs.length≤1048576) :
  Calls Tryz.prog 92 #[o.val,.slice ad i cap] w (bN (dN V o.toOpP).r (dN V o.toOpP).c (dN V o.toOpP).xs.length (dN V o.toOpP).xs w):=by
 by_cases h0:o.k=0
 ·have hst:dN V o.toOpP=⟨o.r,o.c,o.xs.map (cn .f32)⟩:=by unfold dN;rw [if_pos h0]
  rw [hst]
  show Calls Tryz.prog 92 _ w (bN o.r o.c (o.xs.map (cn .f32)).length (o.xs.map (cn .f32)) w)
  rw [List.length_map]
  obtain ⟨⟨kk,a,b',q,r,c,xs⟩,adx,capx⟩:=o
  have h0:kk=0:=h0
  subst h0
  show Calls Tryz.prog 92 #[.agg #[.int .i64 0,.int .i64 a,.int .i64 b',.float .f32 q,.int .i64 r,.int .i64 c,.slice adx xs.length capx],.slice ad i cap] w (bN r c xs.length (xs.map (cn .f32)) w)
  have hx:F32s w adx capx xs:=hx
  have hnil:adx=none→capx=0:=hnil
  have hxl:xs.length≤1048576:=hxl
  obtain ⟨n,hN⟩:∃n,n=xs.length:=⟨_,rfl⟩
  rw [←hN] at hxl ⊢
  have K:=I (fun W (hb:Below w.heap.size w W)=>gS W r c adx capx xs (hx.below hb) hnil n hN.symm hxl)
  have RB:=I (BoxN.alloc2 w (.cells #[.int .i64 0,.int .i64 a,.int .i64 b',.float .f32 q,.int .i64 r,.int .i64 c,.slice adx n capx] 74) #[.int .i64 0,.int .i64 0,.slice none 0 0] 37)
  have B:=I (bZ w (.cells #[.int .i64 0,.int .i64 a,.int .i64 b',.float .f32 q,.int .i64 r,.int .i64 c,.slice adx n capx] 74) (.cells #[.int .i64 0,.int .i64 0,.slice none 0 0] 37))
  clear hx hnil hu hV hok hs hf hN hst
  go_enter Tryz.func92,Tryz.ntmps92
  go_wp2_with fail
  refine (K.out _ B.out).mono ?_
  rintro e w' ⟨va,vc,zs,rfl,RO,RM,hb⟩
  obtain ⟨rl,r0,r1,r2,rf⟩:=(RB.out.below hb).three
  have hbw:=aA B.out hb
  have hz:=hb.size
  simp at hz
  have hfin:=bF (g:=w.heap.size+1) (lo':=w.heap.size) (i:=0) RO.out (by simp) (by simp;omega) (J _) [.int .i64 r,.int .i64 c,.slice va n vc]
  have hbf:=aG hbw (g:=w.heap.size+1) (by omega) 0 [.int .i64 r,.int .i64 c,.slice va n vc]
  have HF:=I hfin;have HBF:=I hbf
  clear hfin hbf hbw hb
  go_wp2
  try simp only [Exit.inBlock,Exit.then]
  refine bodyPost_ret (v:=.agg #[.int .i64 r,.int .i64 c,.slice va n vc]) (by simp [results,Tryz.results92,go_sem,r0,r1,r2]) rfl (dW rfl HF RM.out HBF.out)
 ·have hst:dN V o.toOpP=bK o.k (aH V o.a) (aH V o.b) (cn .f32 o.num):=by unfold dN;rw [if_neg h0]
  obtain ⟨s,hs⟩:=hs h0
  have hk10:=jK hf
  have ha:=dV hf h0
  obtain ⟨A,hA⟩:∃A:Nat,o.a=A:=⟨o.a.toNat,by have:=ha.1.1;omega⟩
  obtain ⟨B,hB⟩:∃B:Nat,o.b=B:=⟨o.b.toNat,by have:=ha.2.1.1;omega⟩
  have hAi:A < i:=by have:=ha.1.2;rw [show o.toOpP.a=o.a from rfl,hA] at this;omega
  have hBi:B < i:=by have:=ha.2.1.2;rw [show o.toOpP.b=o.b from rfl,hB] at this;omega
  obtain ⟨tv,htv⟩:=getElem?_lt (show A < us.length by omega)
  obtain ⟨tw,htw⟩:=getElem?_lt (show B < us.length by omega)
  rw [hA,hB,nA hV htv,nA hV htw] at hs hst
  have okv:okT tv.toTenP.can:=hok _ (by rw [←hV];exact List.mem_map_of_mem (List.mem_of_getElem? htv))
  have okw:okT tw.toTenP.can:=hok _ (by rw [←hV];exact List.mem_map_of_mem (List.mem_of_getElem? htw))
  rw [hst]
  obtain ⟨b,off,rfl,hbl,⟨p0,p1,p2⟩,hxv⟩:=mZ hu htv
  obtain ⟨b2,off2,eq2,_,⟨q0,q1,q2⟩,hxw⟩:=mZ hu htw
  cases eq2
  obtain ⟨⟨kk,a,b',q,r,c,xs⟩,adx,capx⟩:=o
  have hA:a=A:=hA
  have hB:b'=B:=hB
  subst hA hB
  obtain ⟨⟨rv0,cv0,xv⟩,av,kv⟩:=tv
  obtain ⟨⟨rw0,cw0,xw⟩,aw,kw⟩:=tw
  obtain ⟨rv,cv,e1,e2,hrv,hcv,hlv⟩:=okv.nat
  obtain ⟨rw',cw,e3,e4,hrw,hcw,hlw⟩:=okw.nat
  have e1:rv0=rv:=e1
  have e2:cv0=cv:=e2
  have e3:rw0=rw':=e3
  have e4:cw0=cw:=e4
  subst e1 e2 e3 e4
  have hlv:(xv.map (cn .f32)).length=rv * cv:=hlv
  have hlw:(xw.map (cn .f32)).length=rw' * cw:=hlw
  have hk10:0≤kk∧kk≤10:=hk10
  have h0:¬ kk=0:=h0
  have hs:aQ kk (((rv:Nat):Int),((cv:Nat):Int)) (((rw':Nat):Int),((cw:Nat):Int))=some s:=hs
  show Calls Tryz.prog 92 #[.agg #[.int .i64 kk,.int .i64 A,.int .i64 B,.float .f32 q,.int .i64 r,.int .i64 c,.slice adx xs.length capx],.slice (some ⟨b,off,none⟩) i cap] w (bN (bK kk ⟨rv,cv,xv.map (cn .f32)⟩ ⟨rw',cw,xw.map (cn .f32)⟩ (cn .f32 q)).r (bK kk ⟨rv,cv,xv.map (cn .f32)⟩ ⟨rw',cw,xw.map (cn .f32)⟩ (cn .f32 q)).c (bK kk ⟨rv,cv,xv.map (cn .f32)⟩ ⟨rw',cw,xw.map (cn .f32)⟩ (cn .f32 q)).xs.length (bK kk ⟨rv,cv,xv.map (cn .f32)⟩ ⟨rw',cw,xw.map (cn .f32)⟩ (cn .f32 q)).xs w)
  rw [List.length_map] at hlv hlw
  simp only at p0 p1 p2 q0 q1 q2 hxv hxw
  obtain ⟨n1,hn1⟩:∃n,n=xv.length:=⟨_,rfl⟩
  obtain ⟨n2,hn2⟩:∃n,n=xw.length:=⟨_,rfl⟩
  rw [←hn1] at hlv p2
  rw [←hn2] at hlw q2
  obtain ⟨nx,hnx⟩:∃n,n=xs.length:=⟨_,rfl⟩
  rw [←hnx]
  have hn256:n1≤256:=by rw [hlv];exact Nat.mul_le_mul hrv.2 hcv.2
  have HXV:=I hxv;have HXW:=I hxw;have HN1:=I hn1;have HN2:=I hn2;have HLV:=I hlv;have HLW:=I hlw;have HSH:=I hs
  have HRV:=I hrv;have HCV:=I hcv;have HRW:=I hrw;have HCW:=I hcw
  clear hxv hxw hn1 hn2 hlv hlw hnx hst htv htw okv okw hV hok hu hi hf hs hx hnil hxl ha hrv hcv hrw hcw
  have RB:=I (BoxN.alloc2 w (.cells #[.int .i64 kk,.int .i64 A,.int .i64 B,.float .f32 q,.int .i64 r,.int .i64 c,.slice adx nx capx] 74) #[.int .i64 0,.int .i64 0,.slice none 0 0] 37)
  have OB:=I ((BoxN.alloc w #[.int .i64 kk,.int .i64 A,.int .i64 B,.float .f32 q,.int .i64 r,.int .i64 c,.slice adx nx capx] 74).below (aE _ (.cells #[.int .i64 0,.int .i64 0,.slice none 0 0] 37)))
  have B0:=I (bZ w (.cells #[.int .i64 kk,.int .i64 A,.int .i64 B,.float .f32 q,.int .i64 r,.int .i64 c,.slice adx nx capx] 74) (.cells #[.int .i64 0,.int .i64 0,.slice none 0 0] 37))
  have HP:=I (And.intro p0 (And.intro p1 (And.intro p2 (And.intro q0 (And.intro q1 q2)))))
  clear p0 p1 p2 q0 q1 q2
  have hk0':(kk == 0)=false:=by simpa using h0
  go_enter Tryz.func92,Tryz.ntmps92
  go_upto_region 3 with fail
  obtain ⟨W1,hW1⟩:∃W,W=((w.alloc (.cells #[.int .i64 kk,.int .i64 A,.int .i64 B,.float .f32 q,.int .i64 r,.int .i64 c,.slice adx nx capx] 74)).alloc (.cells #[.int .i64 0,.int .i64 0,.slice none 0 0] 37)):=⟨_,rfl⟩
  have hz1:W1.heap.size=w.heap.size+1+1:=by rw [hW1];simp
  rw [←hW1] at RB OB B0 ⊢
  obtain ⟨-,x0,x1,x2,x3,x4,x5,x6,xf⟩:=OB.out.seven
  have c0:W1.cell? ⟨b,off+A * 3,none⟩=some (.int .i64 rv):=(B0.out.cell (p:=⟨b,off+A * 3,none⟩) hbl).trans HP.out.1
  have c1:W1.cell? ⟨b,off+A * 3+1,none⟩=some (.int .i64 cv):=(B0.out.cell (p:=⟨b,off+A * 3+1,none⟩) hbl).trans HP.out.2.1
  have c2:W1.cell? ⟨b,off+A * 3+2,none⟩=some (.slice av n1 kv):=(B0.out.cell (p:=⟨b,off+A * 3+2,none⟩) hbl).trans HP.out.2.2.1
  have d0:W1.cell? ⟨b,off+B * 3,none⟩=some (.int .i64 rw'):=(B0.out.cell (p:=⟨b,off+B * 3,none⟩) hbl).trans HP.out.2.2.2.1
  have d1:W1.cell? ⟨b,off+B * 3+1,none⟩=some (.int .i64 cw):=(B0.out.cell (p:=⟨b,off+B * 3+1,none⟩) hbl).trans HP.out.2.2.2.2.1
  have d2:W1.cell? ⟨b,off+B * 3+2,none⟩=some (.slice aw n2 kw):=(B0.out.cell (p:=⟨b,off+B * 3+2,none⟩) hbl).trans HP.out.2.2.2.2.2
  have hbl1:b < W1.heap.size:=by omega
  have HZ1:=I hz1
  clear HP hW1 x0 x3 x4 x5 x6 xf hz1
  go_cut [5,6] (fun p7 p8 wx => ∃g7 g8:Nat,p7=.pointer (some ⟨g7,0,none⟩)∧p8=.pointer (some ⟨g8,0,none⟩)∧Hid (BoxN wx g7 [.int .i64 rv,.int .i64 cv,.slice av n1 kv]∧BoxN wx g8 [.int .i64 rw',.int .i64 cw,.slice aw n2 kw]∧Below W1.heap.size W1 wx))
  case first =>
   go_region_held3 (fun w'=>(w'.cell? ⟨w.heap.size,1,none⟩=some (.int .i64 A)∧w'.cell? ⟨w.heap.size,2,none⟩=some (.int .i64 B))∧(w'.cell? ⟨b,off+A * 3,none⟩=some (.int .i64 rv)∧w'.cell? ⟨b,off+A * 3+1,none⟩=some (.int .i64 cv)∧w'.cell? ⟨b,off+A * 3+2,none⟩=some (.slice av n1 kv))∧(w'.cell? ⟨b,off+B * 3,none⟩=some (.int .i64 rw')∧w'.cell? ⟨b,off+B * 3+1,none⟩=some (.int .i64 cw)∧w'.cell? ⟨b,off+B * 3+2,none⟩=some (.slice aw n2 kw))) (go_keep) (first | fail)
   all_goals (try go_wp2_with fail)
   all_goals go_meet
   ·exact ⟨_,_,rfl,rfl,I ⟨((BoxN.alloc W1 #[.int .i64 rv,.int .i64 cv,.slice av n1 kv] 37).below (aE _ _)).below (Below.drew (O _ _)),(BoxN.alloc2 W1 _ #[.int .i64 rw',.int .i64 cw,.slice aw n2 kw] 37).below (Below.drew (O _ _)),Below.drew (bZ _ _ _)⟩⟩
   ·exact ⟨_,_,rfl,rfl,I ⟨(BoxN.alloc2 W1 _ #[.int .i64 rv,.int .i64 cv,.slice av n1 kv] 37).below (Below.drew (O _ _)),((BoxN.alloc W1 #[.int .i64 rw',.int .i64 cw,.slice aw n2 kw] 37).below (aE _ _)).below (Below.drew (O _ _)),Below.drew (bZ _ _ _)⟩⟩
  case rest =>
   obtain ⟨g7,g8,rfl,rfl,HC⟩:=hcut
   obtain ⟨-,x0,x1,x2,x3,x4,x5,x6,xf⟩:=(OB.out.below HC.out.2.2).seven
   obtain ⟨-,y0,y1,y2,yf⟩:=HC.out.1.three
   obtain ⟨-,z0,z1,z2,zf⟩:=HC.out.2.1.three
   have RB2:=I (RB.out.below HC.out.2.2)
   have BC:=I (aA B0.out HC.out.2.2)
   have hzc:w.heap.size+1+1≤wc.heap.size:=by have:=HC.out.2.2.size;have:=HZ1.out;omega
   have FV:=I (fun W (hb:Below wc.heap.size wc W)=>HXV.out.below (aA BC.out hb));have FW:=I (fun W (hb:Below wc.heap.size wc W)=>HXW.out.below (aA BC.out hb))
   clear c0 c1 c2 d0 d1 d2 HXV HXW HC OB RB B0 x1 x2 x4 x5 x6 xf yf zf hbl hbl1
   have h1k:1≤kk:=by omega
   rcases (by omega:kk=1∨kk=2∨kk=3∨kk=4∨kk=5∨kk=6∨kk=7∨kk=8∨kk=9∨kk=10) with rfl | rfl | rfl | rfl | rfl | rfl | rfl | rfl | rfl | rfl
   ·as_aux_lemma =>
     have HVV:Hid (bK 1 ⟨rv,cv,(xv.map (cn .f32))⟩ ⟨rw',cw,(xw.map (cn .f32))⟩ (cn .f32 q)=⟨rv,cv,fM .add (xv.map (cn .f32)) (xw.map (cn .f32)) n1⟩):=I (by simp [bK,←HN1.out])
     have HVL:Hid ((bK 1 ⟨rv,cv,(xv.map (cn .f32))⟩ ⟨rw',cw,(xw.map (cn .f32))⟩ (cn .f32 q)).xs.length=n1):=I (by rw [HVV.out];exact aJ _ _)
     have HVX:Hid ((bK 1 ⟨rv,cv,(xv.map (cn .f32))⟩ ⟨rw',cw,(xw.map (cn .f32))⟩ (cn .f32 q)).xs=fM .add (xv.map (cn .f32)) (xw.map (cn .f32)) n1):=I (by rw [HVV.out])
     have HVR:Hid ((bK 1 ⟨rv,cv,(xv.map (cn .f32))⟩ ⟨rw',cw,(xw.map (cn .f32))⟩ (cn .f32 q)).r=rv∧(bK 1 ⟨rv,cv,(xv.map (cn .f32))⟩ ⟨rw',cw,(xw.map (cn .f32))⟩ (cn .f32 q)).c=cv):=I (by rw [HVV.out];exact ⟨rfl,rfl⟩)
     have hsh:rv=rw'∧cv=cw:=by have:=HSH.out;simp [aQ] at this;omega
     obtain ⟨rfl,rfl⟩:=hsh
     have hnn:n1=n2:=by rw [HLV.out,HLW.out]
     subst hnn
     go_wp2_with fail
     refine (mD _ rv cv rv cv av aw kv kw n1 xv xw (FV.out _ (O _ _)) (FW.out _ (O _ _)) HN1.out.symm HN2.out.symm hn256).mono ?_
     rintro e w' ⟨va,vc,zs,rfl,RO,RM,hb⟩
     obtain ⟨rl,r0,r1,r2,rf⟩:=(RB2.out.below hb).three
     have hbw:=aA BC.out hb
     have hz:=hb.size
     have hfin:=bF (g:=w.heap.size+1) (lo':=w.heap.size) (i:=0) RO.out (by omega) (by omega) (J _) [.int .i64 rv,.int .i64 cv,.slice va n1 vc]
     have hbf:=aG hbw (g:=w.heap.size+1) (by omega) 0 [.int .i64 rv,.int .i64 cv,.slice va n1 vc]
     have HF:=I hfin;have HBF:=I hbf
     clear hfin hbf hbw hb x0 x3 y0 y1 y2 z0 z1 z2 FV FW RB2 BC
     have hl9:=RO.out.len
     have hP:zs.map (cn .f32)=fM .add (xv.map (cn .f32)) (xw.map (cn .f32)) n1:=RM.out
     go_wp2
     try simp only [Exit.inBlock,Exit.then]
     refine bodyPost_ret (v:=.agg #[.int .i64 rv,.int .i64 cv,.slice va n1 vc]) (by simp [results,Tryz.results92,go_sem,r0,r1,r2]) rfl (dW (by rw [HVR.out.1,HVR.out.2,HVL.out];try rfl) (by rw [HVL.out];exact HF) (by rw [HVX.out];exact hP) HBF.out)
   ·as_aux_lemma =>
     have HVV:Hid (bK 2 ⟨rv,cv,(xv.map (cn .f32))⟩ ⟨rw',cw,(xw.map (cn .f32))⟩ (cn .f32 q)=⟨rv,cv,fT .add (xv.map (cn .f32)) (xw.map (cn .f32)) cv n1⟩):=I (by simp [bK,←HN1.out])
     have HVL:Hid ((bK 2 ⟨rv,cv,(xv.map (cn .f32))⟩ ⟨rw',cw,(xw.map (cn .f32))⟩ (cn .f32 q)).xs.length=n1):=I (by rw [HVV.out];exact aJ _ _)
     have HVX:Hid ((bK 2 ⟨rv,cv,(xv.map (cn .f32))⟩ ⟨rw',cw,(xw.map (cn .f32))⟩ (cn .f32 q)).xs=fT .add (xv.map (cn .f32)) (xw.map (cn .f32)) cv n1):=I (by rw [HVV.out])
     have HVR:Hid ((bK 2 ⟨rv,cv,(xv.map (cn .f32))⟩ ⟨rw',cw,(xw.map (cn .f32))⟩ (cn .f32 q)).r=rv∧(bK 2 ⟨rv,cv,(xv.map (cn .f32))⟩ ⟨rw',cw,(xw.map (cn .f32))⟩ (cn .f32 q)).c=cv):=I (by rw [HVV.out];exact ⟨rfl,rfl⟩)
     have hsh:rw'=1∧cv=cw:=by have:=HSH.out;simp [aQ] at this;omega
     obtain ⟨rfl,rfl⟩:=hsh
     have hnn:cv=n2:=by rw [HLW.out,Nat.one_mul]
     subst hnn
     go_wp2_with fail
     refine (zX _ rv cv av aw kv kw n1 xv xw (FV.out _ (O _ _)) (FW.out _ (O _ _)) HN1.out.symm HN2.out.symm hn256 HCV.out.1 HCV.out.2).mono ?_
     rintro e w' ⟨va,vc,zs,rfl,RO,RM,hb⟩
     obtain ⟨rl,r0,r1,r2,rf⟩:=(RB2.out.below hb).three
     have hbw:=aA BC.out hb
     have hz:=hb.size
     have hfin:=bF (g:=w.heap.size+1) (lo':=w.heap.size) (i:=0) RO.out (by omega) (by omega) (J _) [.int .i64 rv,.int .i64 cv,.slice va n1 vc]
     have hbf:=aG hbw (g:=w.heap.size+1) (by omega) 0 [.int .i64 rv,.int .i64 cv,.slice va n1 vc]
     have HF:=I hfin;have HBF:=I hbf
     clear hfin hbf hbw hb x0 x3 y0 y1 y2 z0 z1 z2 FV FW RB2 BC
     have hl9:=RO.out.len
     have hP:zs.map (cn .f32)=fT .add (xv.map (cn .f32)) (xw.map (cn .f32)) cv n1:=RM.out
     go_wp2
     try simp only [Exit.inBlock,Exit.then]
     refine bodyPost_ret (v:=.agg #[.int .i64 rv,.int .i64 cv,.slice va n1 vc]) (by simp [results,Tryz.results92,go_sem,r0,r1,r2]) rfl (dW (by rw [HVR.out.1,HVR.out.2,HVL.out];try rfl) (by rw [HVL.out];exact HF) (by rw [HVX.out];exact hP) HBF.out)
   ·as_aux_lemma =>
     have HVV:Hid (bK 3 ⟨rv,cv,(xv.map (cn .f32))⟩ ⟨rw',cw,(xw.map (cn .f32))⟩ (cn .f32 q)=⟨rv,cv,fM .mul (xv.map (cn .f32)) (xw.map (cn .f32)) n1⟩):=I (by simp [bK,←HN1.out])
     have HVL:Hid ((bK 3 ⟨rv,cv,(xv.map (cn .f32))⟩ ⟨rw',cw,(xw.map (cn .f32))⟩ (cn .f32 q)).xs.length=n1):=I (by rw [HVV.out];exact aJ _ _)
     have HVX:Hid ((bK 3 ⟨rv,cv,(xv.map (cn .f32))⟩ ⟨rw',cw,(xw.map (cn .f32))⟩ (cn .f32 q)).xs=fM .mul (xv.map (cn .f32)) (xw.map (cn .f32)) n1):=I (by rw [HVV.out])
     have HVR:Hid ((bK 3 ⟨rv,cv,(xv.map (cn .f32))⟩ ⟨rw',cw,(xw.map (cn .f32))⟩ (cn .f32 q)).r=rv∧(bK 3 ⟨rv,cv,(xv.map (cn .f32))⟩ ⟨rw',cw,(xw.map (cn .f32))⟩ (cn .f32 q)).c=cv):=I (by rw [HVV.out];exact ⟨rfl,rfl⟩)
     have hsh:rv=rw'∧cv=cw:=by have:=HSH.out;simp [aQ] at this;omega
     obtain ⟨rfl,rfl⟩:=hsh
     have hnn:n1=n2:=by rw [HLV.out,HLW.out]
     subst hnn
     go_wp2_with fail
     refine (iP _ rv cv rv cv av aw kv kw n1 xv xw (FV.out _ (O _ _)) (FW.out _ (O _ _)) HN1.out.symm HN2.out.symm hn256).mono ?_
     rintro e w' ⟨va,vc,zs,rfl,RO,RM,hb⟩
     obtain ⟨rl,r0,r1,r2,rf⟩:=(RB2.out.below hb).three
     have hbw:=aA BC.out hb
     have hz:=hb.size
     have hfin:=bF (g:=w.heap.size+1) (lo':=w.heap.size) (i:=0) RO.out (by omega) (by omega) (J _) [.int .i64 rv,.int .i64 cv,.slice va n1 vc]
     have hbf:=aG hbw (g:=w.heap.size+1) (by omega) 0 [.int .i64 rv,.int .i64 cv,.slice va n1 vc]
     have HF:=I hfin;have HBF:=I hbf
     clear hfin hbf hbw hb x0 x3 y0 y1 y2 z0 z1 z2 FV FW RB2 BC
     have hl9:=RO.out.len
     have hP:zs.map (cn .f32)=fM .mul (xv.map (cn .f32)) (xw.map (cn .f32)) n1:=RM.out
     go_wp2
     try simp only [Exit.inBlock,Exit.then]
     refine bodyPost_ret (v:=.agg #[.int .i64 rv,.int .i64 cv,.slice va n1 vc]) (by simp [results,Tryz.results92,go_sem,r0,r1,r2]) rfl (dW (by rw [HVR.out.1,HVR.out.2,HVL.out];try rfl) (by rw [HVL.out];exact HF) (by rw [HVX.out];exact hP) HBF.out)
   ·as_aux_lemma =>
     have HVV:Hid (bK 4 ⟨rv,cv,(xv.map (cn .f32))⟩ ⟨rw',cw,(xw.map (cn .f32))⟩ (cn .f32 q)=⟨rv,cv,fT .mul (xv.map (cn .f32)) (xw.map (cn .f32)) cv n1⟩):=I (by simp [bK,←HN1.out])
     have HVL:Hid ((bK 4 ⟨rv,cv,(xv.map (cn .f32))⟩ ⟨rw',cw,(xw.map (cn .f32))⟩ (cn .f32 q)).xs.length=n1):=I (by rw [HVV.out];exact aJ _ _)
     have HVX:Hid ((bK 4 ⟨rv,cv,(xv.map (cn .f32))⟩ ⟨rw',cw,(xw.map (cn .f32))⟩ (cn .f32 q)).xs=fT .mul (xv.map (cn .f32)) (xw.map (cn .f32)) cv n1):=I (by rw [HVV.out])
     have HVR:Hid ((bK 4 ⟨rv,cv,(xv.map (cn .f32))⟩ ⟨rw',cw,(xw.map (cn .f32))⟩ (cn .f32 q)).r=rv∧(bK 4 ⟨rv,cv,(xv.map (cn .f32))⟩ ⟨rw',cw,(xw.map (cn .f32))⟩ (cn .f32 q)).c=cv):=I (by rw [HVV.out];exact ⟨rfl,rfl⟩)
     have hsh:rw'=1∧cv=cw:=by have:=HSH.out;simp [aQ] at this;omega
     obtain ⟨rfl,rfl⟩:=hsh
     have hnn:cv=n2:=by rw [HLW.out,Nat.one_mul]
     subst hnn
     go_wp2_with fail
     refine (rM _ rv cv av aw kv kw n1 xv xw (FV.out _ (O _ _)) (FW.out _ (O _ _)) HN1.out.symm HN2.out.symm hn256 HCV.out.1 HCV.out.2).mono ?_
     rintro e w' ⟨va,vc,zs,rfl,RO,RM,hb⟩
     obtain ⟨rl,r0,r1,r2,rf⟩:=(RB2.out.below hb).three
     have hbw:=aA BC.out hb
     have hz:=hb.size
     have hfin:=bF (g:=w.heap.size+1) (lo':=w.heap.size) (i:=0) RO.out (by omega) (by omega) (J _) [.int .i64 rv,.int .i64 cv,.slice va n1 vc]
     have hbf:=aG hbw (g:=w.heap.size+1) (by omega) 0 [.int .i64 rv,.int .i64 cv,.slice va n1 vc]
     have HF:=I hfin;have HBF:=I hbf
     clear hfin hbf hbw hb x0 x3 y0 y1 y2 z0 z1 z2 FV FW RB2 BC
     have hl9:=RO.out.len
     have hP:zs.map (cn .f32)=fT .mul (xv.map (cn .f32)) (xw.map (cn .f32)) cv n1:=RM.out
     go_wp2
     try simp only [Exit.inBlock,Exit.then]
     refine bodyPost_ret (v:=.agg #[.int .i64 rv,.int .i64 cv,.slice va n1 vc]) (by simp [results,Tryz.results92,go_sem,r0,r1,r2]) rfl (dW (by rw [HVR.out.1,HVR.out.2,HVL.out];try rfl) (by rw [HVL.out];exact HF) (by rw [HVX.out];exact hP) HBF.out)
   ·as_aux_lemma =>
     have HVV:Hid (bK 5 ⟨rv,cv,(xv.map (cn .f32))⟩ ⟨rw',cw,(xw.map (cn .f32))⟩ (cn .f32 q)=⟨rv,cv,oL (xv.map (cn .f32)) (cn .f32 q) n1⟩):=I (by simp [bK,←HN1.out])
     have HVL:Hid ((bK 5 ⟨rv,cv,(xv.map (cn .f32))⟩ ⟨rw',cw,(xw.map (cn .f32))⟩ (cn .f32 q)).xs.length=n1):=I (by rw [HVV.out];exact aJ _ _)
     have HVX:Hid ((bK 5 ⟨rv,cv,(xv.map (cn .f32))⟩ ⟨rw',cw,(xw.map (cn .f32))⟩ (cn .f32 q)).xs=oL (xv.map (cn .f32)) (cn .f32 q) n1):=I (by rw [HVV.out])
     have HVR:Hid ((bK 5 ⟨rv,cv,(xv.map (cn .f32))⟩ ⟨rw',cw,(xw.map (cn .f32))⟩ (cn .f32 q)).r=rv∧(bK 5 ⟨rv,cv,(xv.map (cn .f32))⟩ ⟨rw',cw,(xw.map (cn .f32))⟩ (cn .f32 q)).c=cv):=I (by rw [HVV.out];exact ⟨rfl,rfl⟩)
     go_wp2_with fail
     refine (kD _ rv cv av kv xv (FV.out _ (O _ _)) n1 HN1.out.symm hn256 q).mono ?_
     rintro e w' ⟨va,vc,zs,rfl,RO,RM,hb⟩
     obtain ⟨rl,r0,r1,r2,rf⟩:=(RB2.out.below hb).three
     have hbw:=aA BC.out hb
     have hz:=hb.size
     have hfin:=bF (g:=w.heap.size+1) (lo':=w.heap.size) (i:=0) RO.out (by omega) (by omega) (J _) [.int .i64 rv,.int .i64 cv,.slice va n1 vc]
     have hbf:=aG hbw (g:=w.heap.size+1) (by omega) 0 [.int .i64 rv,.int .i64 cv,.slice va n1 vc]
     have HF:=I hfin;have HBF:=I hbf
     clear hfin hbf hbw hb x0 x3 y0 y1 y2 z0 z1 z2 FV FW RB2 BC
     have hl9:=RO.out.len
     have hP:zs.map (cn .f32)=oL (xv.map (cn .f32)) (cn .f32 q) n1:=RM.out
     go_wp2
     try simp only [Exit.inBlock,Exit.then]
     refine bodyPost_ret (v:=.agg #[.int .i64 rv,.int .i64 cv,.slice va n1 vc]) (by simp [results,Tryz.results92,go_sem,r0,r1,r2]) rfl (dW (by rw [HVR.out.1,HVR.out.2,HVL.out];try rfl) (by rw [HVL.out];exact HF) (by rw [HVX.out];exact hP) HBF.out)
   ·as_aux_lemma =>
     have HVV:Hid (bK 6 ⟨rv,cv,(xv.map (cn .f32))⟩ ⟨rw',cw,(xw.map (cn .f32))⟩ (cn .f32 q)=⟨rv,cw,mR (xv.map (cn .f32)) (xw.map (cn .f32)) cv cw (rv * cw)⟩):=I (by simp [bK,←HN1.out])
     have HVL:Hid ((bK 6 ⟨rv,cv,(xv.map (cn .f32))⟩ ⟨rw',cw,(xw.map (cn .f32))⟩ (cn .f32 q)).xs.length=(rv * cw)):=I (by rw [HVV.out];exact aJ _ _)
     have HVX:Hid ((bK 6 ⟨rv,cv,(xv.map (cn .f32))⟩ ⟨rw',cw,(xw.map (cn .f32))⟩ (cn .f32 q)).xs=mR (xv.map (cn .f32)) (xw.map (cn .f32)) cv cw (rv * cw)):=I (by rw [HVV.out])
     have HVR:Hid ((bK 6 ⟨rv,cv,(xv.map (cn .f32))⟩ ⟨rw',cw,(xw.map (cn .f32))⟩ (cn .f32 q)).r=rv∧(bK 6 ⟨rv,cv,(xv.map (cn .f32))⟩ ⟨rw',cw,(xw.map (cn .f32))⟩ (cn .f32 q)).c=cw):=I (by rw [HVV.out];exact ⟨rfl,rfl⟩)
     have hsh:cv=rw':=by have:=HSH.out;simp [aQ] at this;omega
     subst hsh
     go_wp2_with fail
     refine (rN _ rv cv cw av aw kv kw n1 n2 xv xw (FV.out _ (O _ _)) (FW.out _ (O _ _)) HN1.out.symm HN2.out.symm HRV.out.1 HRV.out.2 HCV.out.1 HCV.out.2 HCW.out.1 HCW.out.2 HLV.out HLW.out).mono ?_
     rintro e w' ⟨va,vc,zs,rfl,RO,RM,hb⟩
     obtain ⟨rl,r0,r1,r2,rf⟩:=(RB2.out.below hb).three
     have hbw:=aA BC.out hb
     have hz:=hb.size
     have hfin:=bF (g:=w.heap.size+1) (lo':=w.heap.size) (i:=0) RO.out (by omega) (by omega) (J _) [.int .i64 rv,.int .i64 cw,.slice va (rv * cw) vc]
     have hbf:=aG hbw (g:=w.heap.size+1) (by omega) 0 [.int .i64 rv,.int .i64 cw,.slice va (rv * cw) vc]
     have HF:=I hfin;have HBF:=I hbf
     clear hfin hbf hbw hb x0 x3 y0 y1 y2 z0 z1 z2 FV FW RB2 BC
     have hl9:=RO.out.len
     have hP:zs.map (cn .f32)=mR (xv.map (cn .f32)) (xw.map (cn .f32)) cv cw (rv * cw):=RM.out
     go_wp2
     try simp only [Exit.inBlock,Exit.then]
     refine bodyPost_ret (v:=.agg #[.int .i64 rv,.int .i64 cw,.slice va (rv * cw) vc]) (by simp [results,Tryz.results92,go_sem,r0,r1,r2]) rfl (dW (by rw [HVR.out.1,HVR.out.2,HVL.out];try rfl) (by rw [HVL.out];exact HF) (by rw [HVX.out];exact hP) HBF.out)
   ·as_aux_lemma =>
     have HVV:Hid (bK 7 ⟨rv,cv,(xv.map (cn .f32))⟩ ⟨rw',cw,(xw.map (cn .f32))⟩ (cn .f32 q)=⟨cv,rv,iE (xv.map (cn .f32)) rv cv n1⟩):=I (by simp [bK,←HN1.out])
     have HVL:Hid ((bK 7 ⟨rv,cv,(xv.map (cn .f32))⟩ ⟨rw',cw,(xw.map (cn .f32))⟩ (cn .f32 q)).xs.length=n1):=I (by rw [HVV.out];exact aJ _ _)
     have HVX:Hid ((bK 7 ⟨rv,cv,(xv.map (cn .f32))⟩ ⟨rw',cw,(xw.map (cn .f32))⟩ (cn .f32 q)).xs=iE (xv.map (cn .f32)) rv cv n1):=I (by rw [HVV.out])
     have HVR:Hid ((bK 7 ⟨rv,cv,(xv.map (cn .f32))⟩ ⟨rw',cw,(xw.map (cn .f32))⟩ (cn .f32 q)).r=cv∧(bK 7 ⟨rv,cv,(xv.map (cn .f32))⟩ ⟨rw',cw,(xw.map (cn .f32))⟩ (cn .f32 q)).c=rv):=I (by rw [HVV.out];exact ⟨rfl,rfl⟩)
     go_wp2_with fail
     refine (iQ _ rv cv av kv n1 xv (FV.out _ (O _ _)) HN1.out.symm HRV.out.1 HRV.out.2 HCV.out.1 HCV.out.2 HLV.out).mono ?_
     rintro e w' ⟨va,vc,zs,rfl,RO,RM,hb⟩
     obtain ⟨rl,r0,r1,r2,rf⟩:=(RB2.out.below hb).three
     have hbw:=aA BC.out hb
     have hz:=hb.size
     have hfin:=bF (g:=w.heap.size+1) (lo':=w.heap.size) (i:=0) RO.out (by omega) (by omega) (J _) [.int .i64 cv,.int .i64 rv,.slice va n1 vc]
     have hbf:=aG hbw (g:=w.heap.size+1) (by omega) 0 [.int .i64 cv,.int .i64 rv,.slice va n1 vc]
     have HF:=I hfin;have HBF:=I hbf
     clear hfin hbf hbw hb x0 x3 y0 y1 y2 z0 z1 z2 FV FW RB2 BC
     have hl9:=RO.out.len
     have hP:zs.map (cn .f32)=iE (xv.map (cn .f32)) rv cv n1:=RM.out
     go_wp2
     try simp only [Exit.inBlock,Exit.then]
     refine bodyPost_ret (v:=.agg #[.int .i64 cv,.int .i64 rv,.slice va n1 vc]) (by simp [results,Tryz.results92,go_sem,r0,r1,r2]) rfl (dW (by rw [HVR.out.1,HVR.out.2,HVL.out];try rfl) (by rw [HVL.out];exact HF) (by rw [HVX.out];exact hP) HBF.out)
   ·as_aux_lemma =>
     have HVV:Hid (bK 8 ⟨rv,cv,(xv.map (cn .f32))⟩ ⟨rw',cw,(xw.map (cn .f32))⟩ (cn .f32 q)=⟨rv,cv,vG (xv.map (cn .f32)) n1⟩):=I (by simp [bK,←HN1.out])
     have HVL:Hid ((bK 8 ⟨rv,cv,(xv.map (cn .f32))⟩ ⟨rw',cw,(xw.map (cn .f32))⟩ (cn .f32 q)).xs.length=n1):=I (by rw [HVV.out];exact aJ _ _)
     have HVX:Hid ((bK 8 ⟨rv,cv,(xv.map (cn .f32))⟩ ⟨rw',cw,(xw.map (cn .f32))⟩ (cn .f32 q)).xs=vG (xv.map (cn .f32)) n1):=I (by rw [HVV.out])
     have HVR:Hid ((bK 8 ⟨rv,cv,(xv.map (cn .f32))⟩ ⟨rw',cw,(xw.map (cn .f32))⟩ (cn .f32 q)).r=rv∧(bK 8 ⟨rv,cv,(xv.map (cn .f32))⟩ ⟨rw',cw,(xw.map (cn .f32))⟩ (cn .f32 q)).c=cv):=I (by rw [HVV.out];exact ⟨rfl,rfl⟩)
     go_wp2_with fail
     refine (qJ _ rv cv av kv xv (FV.out _ (O _ _)) n1 HN1.out.symm hn256).mono ?_
     rintro e w' ⟨va,vc,zs,rfl,RO,RM,hb⟩
     obtain ⟨rl,r0,r1,r2,rf⟩:=(RB2.out.below hb).three
     have hbw:=aA BC.out hb
     have hz:=hb.size
     have hfin:=bF (g:=w.heap.size+1) (lo':=w.heap.size) (i:=0) RO.out (by omega) (by omega) (J _) [.int .i64 rv,.int .i64 cv,.slice va n1 vc]
     have hbf:=aG hbw (g:=w.heap.size+1) (by omega) 0 [.int .i64 rv,.int .i64 cv,.slice va n1 vc]
     have HF:=I hfin;have HBF:=I hbf
     clear hfin hbf hbw hb x0 x3 y0 y1 y2 z0 z1 z2 FV FW RB2 BC
     have hl9:=RO.out.len
     have hP:zs.map (cn .f32)=vG (xv.map (cn .f32)) n1:=RM.out
     go_wp2
     try simp only [Exit.inBlock,Exit.then]
     refine bodyPost_ret (v:=.agg #[.int .i64 rv,.int .i64 cv,.slice va n1 vc]) (by simp [results,Tryz.results92,go_sem,r0,r1,r2]) rfl (dW (by rw [HVR.out.1,HVR.out.2,HVL.out];try rfl) (by rw [HVL.out];exact HF) (by rw [HVX.out];exact hP) HBF.out)
   ·as_aux_lemma =>
     have HVV:Hid (bK 9 ⟨rv,cv,(xv.map (cn .f32))⟩ ⟨rw',cw,(xw.map (cn .f32))⟩ (cn .f32 q)=⟨rv,cv,fM .mul (xv.map (cn .f32)) (xv.map (cn .f32)) n1⟩):=I (by simp [bK,←HN1.out])
     have HVL:Hid ((bK 9 ⟨rv,cv,(xv.map (cn .f32))⟩ ⟨rw',cw,(xw.map (cn .f32))⟩ (cn .f32 q)).xs.length=n1):=I (by rw [HVV.out];exact aJ _ _)
     have HVX:Hid ((bK 9 ⟨rv,cv,(xv.map (cn .f32))⟩ ⟨rw',cw,(xw.map (cn .f32))⟩ (cn .f32 q)).xs=fM .mul (xv.map (cn .f32)) (xv.map (cn .f32)) n1):=I (by rw [HVV.out])
     have HVR:Hid ((bK 9 ⟨rv,cv,(xv.map (cn .f32))⟩ ⟨rw',cw,(xw.map (cn .f32))⟩ (cn .f32 q)).r=rv∧(bK 9 ⟨rv,cv,(xv.map (cn .f32))⟩ ⟨rw',cw,(xw.map (cn .f32))⟩ (cn .f32 q)).c=cv):=I (by rw [HVV.out];exact ⟨rfl,rfl⟩)
     go_wp2_with fail
     refine (iP _ rv cv rv cv av av kv kv n1 xv xv (FV.out _ (O _ _)) (FV.out _ (O _ _)) HN1.out.symm HN1.out.symm hn256).mono ?_
     rintro e w' ⟨va,vc,zs,rfl,RO,RM,hb⟩
     obtain ⟨rl,r0,r1,r2,rf⟩:=(RB2.out.below hb).three
     have hbw:=aA BC.out hb
     have hz:=hb.size
     have hfin:=bF (g:=w.heap.size+1) (lo':=w.heap.size) (i:=0) RO.out (by omega) (by omega) (J _) [.int .i64 rv,.int .i64 cv,.slice va n1 vc]
     have hbf:=aG hbw (g:=w.heap.size+1) (by omega) 0 [.int .i64 rv,.int .i64 cv,.slice va n1 vc]
     have HF:=I hfin;have HBF:=I hbf
     clear hfin hbf hbw hb x0 x3 y0 y1 y2 z0 z1 z2 FV FW RB2 BC
     have hl9:=RO.out.len
     have hP:zs.map (cn .f32)=fM .mul (xv.map (cn .f32)) (xv.map (cn .f32)) n1:=RM.out
     go_wp2
     try simp only [Exit.inBlock,Exit.then]
     refine bodyPost_ret (v:=.agg #[.int .i64 rv,.int .i64 cv,.slice va n1 vc]) (by simp [results,Tryz.results92,go_sem,r0,r1,r2]) rfl (dW (by rw [HVR.out.1,HVR.out.2,HVL.out];try rfl) (by rw [HVL.out];exact HF) (by rw [HVX.out];exact hP) HBF.out)
   ·as_aux_lemma =>
     have HVV:Hid (bK 10 ⟨rv,cv,(xv.map (cn .f32))⟩ ⟨rw',cw,(xw.map (cn .f32))⟩ (cn .f32 q)=⟨1,1,nP (sD (xv.map (cn .f32)) n1) 1⟩):=I (by simp [bK,←HN1.out])
     have HVL:Hid ((bK 10 ⟨rv,cv,(xv.map (cn .f32))⟩ ⟨rw',cw,(xw.map (cn .f32))⟩ (cn .f32 q)).xs.length=1):=I (by rw [HVV.out];exact aJ _ _)
     have HVX:Hid ((bK 10 ⟨rv,cv,(xv.map (cn .f32))⟩ ⟨rw',cw,(xw.map (cn .f32))⟩ (cn .f32 q)).xs=nP (sD (xv.map (cn .f32)) n1) 1):=I (by rw [HVV.out])
     have HVR:Hid ((bK 10 ⟨rv,cv,(xv.map (cn .f32))⟩ ⟨rw',cw,(xw.map (cn .f32))⟩ (cn .f32 q)).r=1∧(bK 10 ⟨rv,cv,(xv.map (cn .f32))⟩ ⟨rw',cw,(xw.map (cn .f32))⟩ (cn .f32 q)).c=1):=I (by rw [HVV.out];exact ⟨rfl,rfl⟩)
     have KSU:=I (Au wc av kv xv (FV.out _ (O _ _)))
     rw [←HN1.out] at KSU
     go_wp2_with fail
     refine KSU.out.mono ?_
     rintro e w2 ⟨su,rfl,HSU,hd⟩
     have HDB:=I hd.below
     have HZ2:wc.heap.size≤w2.heap.size:=hd.below.size
     clear hd
     go_wp2_with fail
     refine (kE _ 1 1 su HSU.out.2 (by decide) (by decide) (by decide) (by decide)).mono ?_
     rintro e w' ⟨va,vc,zs,rfl,RO,RM,hb⟩
     have RB2:=I (RB2.out.below HDB.out)
     have BC:=I (aA BC.out HDB.out)
     have RM:Hid (zs.map (cn .f32)=nP (sD (xv.map (cn .f32)) n1) 1):=I (by rw [RM.out,HSU.out.1])
     obtain ⟨rl,r0,r1,r2,rf⟩:=(RB2.out.below hb).three
     have hbw:=aA BC.out hb
     have hz:=hb.size
     have hfin:=bF (g:=w.heap.size+1) (lo':=w.heap.size) (i:=0) RO.out (by omega) (by omega) (J _) [.int .i64 1,.int .i64 1,.slice va 1 vc]
     have hbf:=aG hbw (g:=w.heap.size+1) (by omega) 0 [.int .i64 1,.int .i64 1,.slice va 1 vc]
     have HF:=I hfin;have HBF:=I hbf
     clear hfin hbf hbw hb x0 x3 y0 y1 y2 z0 z1 z2 FV FW RB2 BC
     have hl9:=RO.out.len
     have hP:zs.map (cn .f32)=nP (sD (xv.map (cn .f32)) n1) 1:=RM.out
     go_wp2
     try simp only [Exit.inBlock,Exit.then]
     refine bodyPost_ret (v:=.agg #[.int .i64 1,.int .i64 1,.slice va 1 vc]) (by simp [results,Tryz.results92,go_sem,r0,r1,r2]) rfl (dW (by rw [HVR.out.1,HVR.out.2,HVL.out];try rfl) (by rw [HVL.out];exact HF) (by rw [HVX.out];exact hP) HBF.out)
theorem sW {V:List TenP} {S:List Sh} (h:V.map TenP.sh=S) {i:Int} (h0:0≤i) (h1:i≤V.length - 1):(aH V i).sh=dL S i:=by
 have hi:i.toNat < V.length:=by omega
 have e1:aH V i=V[i.toNat]:=by unfold aH;rw [List.getD_eq_getElem?_getD,List.getElem?_eq_getElem hi];rfl
 rw [e1]
 unfold dL
 rw [←h,List.getD_eq_getElem?_getD,List.getElem?_map,List.getElem?_eq_getElem hi];rfl
theorem rR {P:List OpP} {S:List Sh} (h:cH P=some S) {k:Nat} {o:OpP} (ho:P[k]? = some o) :
  (bM P k).length=k∧(∀t∈bM P k,okT t)∧fJ k o=true∧(o.k≠0→∃s,aQ o.k (aH (bM P k) o.a).sh (aH (bM P k) o.b).sh=some s):=by
 have hk:=(List.getElem?_eq_some_iff.1 ho).1
 have hp:=cE h
 have hf:=kN h ho
 cases hSk:cD P k with
 | none =>
  have:=iX hSk (Nat.le_of_lt hk) (J _)
  rw [hp.2.1] at this;cases this
 | some Sk =>
  have h1:=mY (Nat.le_of_lt hk) hSk
  have hl:=eC (Nat.le_of_lt hk) hSk
  have hVl:(bM P k).length=k:=by have:=congrArg List.length h1.1;rw [List.length_map,hl] at this;exact this
  refine ⟨hVl,h1.2,hf,fun h0=>?_⟩
  cases hS1:cD P (k+1) with
  | none =>
   have:=iX hS1 hk (J _)
   rw [hp.2.1] at this;cases this
  | some S1 =>
   rw [dS ho,hSk] at hS1
   have hst:dF Sk o=some S1:=hS1
   unfold dF at hst
   rw [hl,if_pos hf,if_neg h0] at hst
   obtain ⟨s,hs,_⟩:=Option.map_eq_some_iff.1 hst
   have ha:=dV hf h0
   refine ⟨s,?_⟩
   rw [sW h1.1 ha.1.1 (by rw [hVl];exact ha.1.2),sW h1.1 ha.2.1.1 (by rw [hVl];exact ha.2.1.2)]
   exact hs
theorem Bj {w W w9:World} {B k cap:Nat} {ad:Option Addr} {S:List Ten} {s:Ten} {v':Value} {o:Obj} (h:OwnR bV w B w.heap.size ad k cap S) (hB:B≤w.heap.size) (hb:Below w.heap.size w W) {hi1:Nat} (hr:RepF W w.heap.size hi1 s.ad s.xs.length s.cap s.xs) (hh:hi1≤W.heap.size) (hh0:w.heap.size≤hi1)
  (ho:w9.ownsRow B 37 3 v' (k+1) (S.flatMap bV.cells ++ s.cells)) (hg:(W.alloc o).grownBy w9 (Value.slice ad k cap).ownBlock) (hat:v'.ownBlock=(Value.slice ad k cap).ownBlock∨v'.ownBlock=some (W.heap.size+1)) :
  ∃ad' cap',v'=.slice ad' (k+1) cap'∧OwnR bV w9 B w9.heap.size ad' (k+1) cap' (S ++ [s]) :=
 h.snoc hB hb hr.okF hr.ownRow hh hh0 ho hg hat
theorem CY {w W:World} {B k cap:Nat} {ad:Option Addr} {S:List Ten} (h:OwnR bV w B w.heap.size ad k cap S) (hb:Below w.heap.size w W):W.ownsRow B 37 3 (.slice ad k cap) k (S.flatMap bV.cells):=(h.below hb).own.head.own
theorem yI (w:World) (ad:Option Addr) (cap:Nat) (os:List OpD) (h:SeeR lI w ad cap os) (hno:nilOK os) (S:List Sh) (hS:cH (os.map OpD.toOpP)=some S) (hi2:∀o∈os,o.xs.length≤1048576) :
  Calls Tryz.prog 69 #[.slice ad os.length cap] w fun e w' => ∃ad' cap' us,e=.returned (.slice ad' os.length cap')∧Hid (OwnR bV w' w.heap.size w'.heap.size ad' os.length cap' us∧us.map (fun t=>t.toTenP.can)=bJ (os.map OpD.toOpP))∧Below w.heap.size w w':=by
 obtain ⟨i0,hi0,hz0,hzs,hz2⟩:=info_parts pF
 have hp:=cE hS
 rw [List.length_map] at hp
 obtain ⟨n,hN⟩:∃n,n=os.length:=⟨_,rfl⟩
 rw [←hN] at hp ⊢
 have hn1:=hp.1.1;have hn2:=hp.1.2
 have HN:=I hN;have HI2:=I hi2;have H:=I h;have HNO:=I hno;have HS:=I hS
 clear hN hi2 h hno hS hp
 go_enter Tryz.func69,Tryz.ntmps69
 go_wp2
 go_loopw [3,9] (fun v i wt => ∃k:Nat,i=.int .i64 k∧k≤n∧∃(ad':Option Addr) (cap':Nat) (us:List Ten),v=.slice ad' k cap'∧Hid (OwnR bV wt w.heap.size wt.heap.size ad' k cap' us)∧Hid (us.map (fun t=>t.toTenP.can)=bM (os.map OpD.toOpP) k)∧Hid (Below w.heap.size w wt)) (fun _ i _=>n - (intOf i).toNat)
 case atStart=>exact ⟨0,rfl,Nat.zero_le _,_,_,[],rfl,I (OwnR.nil1 bV w),I rfl,I (aE _ _)⟩
 case round =>
  obtain ⟨k,rfl,hk,ad',cap',us,rfl,HR,HE,HB⟩:=hrel
  by_cases hlt:k < n
  ·obtain ⟨o,ho⟩:=getElem?_lt (show k < os.length by rw [←HN.out];exact hlt)
   have hop:(os.map OpD.toOpP)[k]? = some o.toOpP:=by rw [List.getElem?_map,ho];rfl
   obtain ⟨vl,vok,vf,vs⟩:=rR HS.out hop
   obtain ⟨b,off,rfl,hbl,⟨p0,p1,p2,p3,p4,p5,p6⟩,hf,hok⟩:=sO (H.out.below HB.out) ho
   have hm:=List.mem_of_getElem? ho
   have hul:us.length=k:=HR.out.len
   have K:=I (fun W (hb:Below wr.heap.size wr W)=>AI W o ad' cap' us (HR.out.see.below hb) _ HE.out vok k hul (by omega) vf vs (hf.below hb) (HNO.out o hm) (HI2.out o hm))
   have HST:Hid (bM (os.map OpD.toOpP) (k+1)=bM (os.map OpD.toOpP) k ++ [dN (bM (os.map OpD.toOpP) k) o.toOpP]):=I (jP hop)
   obtain ⟨T,hT⟩:∃T,T=dN (bM (os.map OpD.toOpP) k) o.toOpP:=⟨_,rfl⟩
   rw [←hT] at K HST
   unfold OpD.val at K
   obtain ⟨m,hM⟩:∃m,m=o.xs.length:=⟨_,rfl⟩
   rw [←hM] at K p6
   have HRW:=I (fun W hb=>CY HR.out (W:=W) hb)
   have hb1:=aE wr (.cells #[.int .i64 o.k,.int .i64 o.a,.int .i64 o.b,.float .f32 o.num,.int .i64 o.r,.int .i64 o.c,.slice o.ad m o.cap] 74)
   have B1:=I hb1
   clear hM ho hop vl vok vf vs hf hok hm hul hT hb1
   go_wp2_with fail
   refine (K.out _ B1.out).mono ?_
   rintro e w2 ⟨va,vc,zs,rfl,RO,RM,hb2⟩
   have HB2:=I (aA B1.out hb2)
   have hz2':=hb2.size
   simp at hz2'
   clear hb2 p0 p1 p2 p3 p4 p5 p6
   obtain ⟨tl,htl⟩:∃tl,tl=T.xs.length:=⟨_,rfl⟩
   rw [←htl] at RO ⊢
   have HTL:=I htl
   clear htl
   go_wp2_with (at_builtin;refine cI rfl _ _ 109 rfl w.heap.size i0 (.agg #[.int .i64 0,.int .i64 0,.slice none 0 0]) 3 40 Tryz.underlying109 hi0 hz0 hzs hz2 rfl (by decide) rfl (by intro u hu;simp at hu;rcases hu with rfl | rfl | rfl <;> rfl) _ _ _ rfl (HRW.out _ HB2.out) (by go_simp) ?c3 ?c4 ?c5 ?_)
   case c3=>unfold maxLen;omega
   case c4=>omega
   case c5=>exact Nat.le_trans HB.out.size HB2.out.size
   intro v' w9 ho9 hg9 hat9 hb9 hs9
   have hzl:=RO.out.len
   obtain ⟨ad9,cap9,rfl,hown9⟩:=Bj (s:=⟨⟨T.r,T.c,zs⟩,va,vc⟩) HR.out HB.out.size HB2.out (hi1:=w2.heap.size) (by show RepF w2 wr.heap.size w2.heap.size va zs.length vc zs;rw [hzl];exact RO.out.bounds (by simp) (J _)) (J _) HB2.out.size (by show w9.ownsRow _ _ _ _ _ (_ ++ [Value.int .i64 T.r,.int .i64 T.c,.slice va zs.length vc]);rw [hzl];exact ho9) hg9 (by simpa using hat9)
   have HO9:=I hown9;have HB9:=I ((HB.out.trans (HB2.out.mono HB.out.size)).trans hb9)
   have HE9:Hid ((us ++ [(⟨⟨T.r,T.c,zs⟩,va,vc⟩:Ten)]).map (fun t=>t.toTenP.can)=bM (os.map OpD.toOpP) (k+1)):=I (by
    rw [List.map_append,HE.out,HST.out]
    congr 1
    show [TenP.can ⟨T.r,T.c,zs⟩]=[T]
    unfold TenP.can
    rw [RM.out])
   clear ho9 hg9 hat9 hb9 hown9 HR HE HB HB2 HRW hzl
   go_wp2
   go_roundw
   case rel=>exact ⟨k+1,by go_num,hlt,_,_,_,rfl,HO9,HE9,HB9⟩
   case measure=>simp [intOf];omega
  ·have hkn:k=n:=by omega
   subst hkn
   have HA:=I (And.intro HR.out (show us.map (fun t=>t.toTenP.can)=bJ (os.map OpD.toOpP) by rw [HE.out];unfold bJ;rw [List.length_map,←HN.out]))
   go_wp2
   go_ret
   exact ⟨_,_,us,rfl,HA,HB.out⟩
def sI (X:List Nat) (c:Nat):Nat→Nat→Nat
 | 0,_=>0
 | k+1,j=>if j=k % c then dQ .add .f32 (sI X c k j) (X.getD k 0) else sI X c k j
def fI (v w:TenP):TenP:=⟨v.r,v.c,fM .add v.xs w.xs v.xs.length⟩
def eN (v w:TenP):TenP:=⟨v.r,v.c,fM .mul v.xs w.xs v.xs.length⟩
def nB (g:TenP):TenP:=⟨1,g.c,bA g.c.toNat (sI g.xs g.c.toNat g.xs.length)⟩
def cO (v:TenP) (y:Nat):TenP:=⟨v.r,v.c,nP y v.xs.length⟩
def iH (x y:Nat):Nat:=if (FloatKind.f32.format.order x 0 == some .gt)=true then y else 0
def tY (X G:List Nat) (n:Nat):List Nat:=bA n fun i=>iH (X.getD i 0) (G.getD i 0)
def cU (v:TenP):TenP:=⟨v.c,v.r,iE v.xs v.r.toNat v.c.toNat v.xs.length⟩
def gU (v w:TenP):TenP:=⟨v.r,w.c,mR v.xs w.xs v.c.toNat w.c.toNat (v.r.toNat * w.c.toNat)⟩
def bC (k:Int) (g v w:TenP) (num:Nat):TenP :=
 if k=1 then g else
 if k=2 then g else
 if k=3 then eN g w else
 if k=4 then ⟨g.r,g.c,fT .mul g.xs w.xs g.c.toNat g.xs.length⟩ else
 if k=5 then ⟨g.r,g.c,oL g.xs num g.xs.length⟩ else
 if k=6 then gU g (cU w) else
 if k=7 then cU g else
 if k=8 then ⟨v.r,v.c,tY v.xs g.xs v.xs.length⟩ else
 if k=9 then eN g (fI v v) else
 cO v (g.xs.getD 0 0)
def bU (k:Int) (g v:TenP):TenP :=
 if k=1 then g else
 if k=2 then nB g else
 if k=3 then eN g v else
 if k=4 then nB (eN g v) else
 gU (cU v) g
def bX (h:Bool) (old part:TenP):TenP:=if h=true then fI old part else part
def jQ (V:List TenP) (U:List Bool) (G:List TenP) (i:Nat) (o:OpP):List TenP :=
 if U.getD i false=true∧o.k≠0 then
  (if fL o.k=true then
    ((G.set o.a.toNat (bX (U.getD o.a.toNat false) (aH G o.a) (bC o.k (aH G i) (aH V o.a) (aH V o.b) (cn .f32 o.num)))).set o.b.toNat
      (bX ((U.set o.a.toNat true).getD o.b.toNat false) (aH (G.set o.a.toNat (bX (U.getD o.a.toNat false) (aH G o.a) (bC o.k (aH G i) (aH V o.a) (aH V o.b) (cn .f32 o.num)))) o.b) (bU o.k (aH G i) (aH V o.a))))
  else G.set o.a.toNat (bX (U.getD o.a.toNat false) (aH G o.a) (bC o.k (aH G i) (aH V o.a) (aH V o.b) (cn .f32 o.num))))
 else G
def cV (os:List OpP) (V:List TenP):Nat→List TenP
 | 0=>(V.map fun v=>cO v 0).set (os.length - 1) (cO (aH V ((os.length - 1:Nat):Int)) 1065353216)
 | m+1=>jQ V (cP os m) (cV os V m) (os.length - 1 - m) (eP os (os.length - 1 - m))
def cW (os:List OpP):List TenP:=cV os (bJ os) os.length
theorem yJ (X G:List Nat) (n:Nat):(tY X G n).length=n:=aJ _ _
theorem lU {v:TenP} (h:okT v) (y:Nat):okT (cO v y)∧(cO v y).sh=v.sh:=by
 obtain ⟨h1,h2,h3,h4,h5⟩:=h
 exact ⟨⟨h1,h2,h3,h4,by show (nP y v.xs.length).length = _;rw [mX];exact h5⟩,rfl⟩
theorem kG {v w:TenP} (h:okT v):okT (fI v w)∧(fI v w).sh=v.sh:=by
 obtain ⟨h1,h2,h3,h4,h5⟩:=h
 exact ⟨⟨h1,h2,h3,h4,by show (fM .add v.xs w.xs v.xs.length).length = _;rw [mV];exact h5⟩,rfl⟩
theorem hH {v w:TenP} (h:okT v):okT (eN v w)∧(eN v w).sh=v.sh:=by
 obtain ⟨h1,h2,h3,h4,h5⟩:=h
 exact ⟨⟨h1,h2,h3,h4,by show (fM .mul v.xs w.xs v.xs.length).length = _;rw [mV];exact h5⟩,rfl⟩
theorem jR {v:TenP} (h:okT v):okT (cU v):=by
 obtain ⟨h1,h2,h3,h4,h5⟩:=h
 exact ⟨h3,h4,h1,h2,by show (iE v.xs v.r.toNat v.c.toNat v.xs.length).length=v.c.toNat * v.r.toNat;rw [pQ,h5,Nat.mul_comm]⟩
theorem sX {v:TenP} (h:okT v):okT (nB v):=by
 obtain ⟨h1,h2,h3,h4,h5⟩:=h
 exact ⟨by show (1:Int)≤1;decide,by show (1:Int)≤16;decide,h3,h4,by show (bA v.c.toNat _).length=(1:Int).toNat * v.c.toNat;rw [aJ];show _ = 1 * _;rw [Nat.one_mul]⟩
theorem sY {v w:TenP} (h:okT v) (h2:okT w):okT (gU v w):=by
 exact ⟨h.r1,h.r2,h2.c1,h2.c2,by show (mR _ _ _ _ _).length=v.r.toNat * w.c.toNat;rw [rQ]⟩
theorem tZ {k:Int} {g v w:TenP} {num:Nat} {s:Sh} (hk:1≤k∧k≤10) (hg:okT g) (hv:okT v) (hw:okT w) (h:aQ k v.sh w.sh=some s) (hs:g.sh=s):okT (bC k g v w num)∧(bC k g v w num).sh=v.sh:=by
 have hk2:k=1∨k=2∨k=3∨k=4∨k=5∨k=6∨k=7∨k=8∨k=9∨k=10:=by omega
 subst hs
 rcases hk2 with rfl | rfl | rfl | rfl | rfl | rfl | rfl | rfl | rfl | rfl
 ·refine ⟨by simpa [bC] using hg,?_⟩
  simp [aQ,TenP.sh] at h
  simp [bC,TenP.sh];omega
 ·refine ⟨by simpa [bC] using hg,?_⟩
  simp [aQ,TenP.sh] at h
  simp [bC,TenP.sh];omega
 ·refine ⟨by simpa [bC] using (hH hg).1,?_⟩
  simp [aQ,TenP.sh] at h
  simp [bC,TenP.sh,eN];omega
 ·refine ⟨?_,?_⟩
  ·have e:bC 4 g v w num=⟨g.r,g.c,fT .mul g.xs w.xs g.c.toNat g.xs.length⟩:=by simp [bC]
   rw [e]
   exact ⟨hg.r1,hg.r2,hg.c1,hg.c2,by show (fT _ _ _ _ _).length = _;rw [mW];exact hg.len⟩
  ·simp [aQ,TenP.sh] at h
   simp [bC,TenP.sh];omega
 ·refine ⟨?_,?_⟩
  ·have e:bC 5 g v w num=⟨g.r,g.c,oL g.xs num g.xs.length⟩:=by simp [bC]
   rw [e]
   exact ⟨hg.r1,hg.r2,hg.c1,hg.c2,by show (oL _ _ _).length = _;rw [rP];exact hg.len⟩
  ·simp [aQ,TenP.sh] at h
   simp [bC,TenP.sh];omega
 ·refine ⟨by simpa [bC] using sY hg (jR hw),?_⟩
  simp only [aQ,TenP.sh] at h
  by_cases h6:v.c=w.r <;> simp [h6] at h
  simp [bC,TenP.sh,gU,cU];omega
 ·refine ⟨by simpa [bC] using jR hg,?_⟩
  simp [aQ,TenP.sh] at h
  simp [bC,TenP.sh,cU];omega
 ·have e:bC 8 g v w num=⟨v.r,v.c,tY v.xs g.xs v.xs.length⟩:=by simp [bC]
  rw [e]
  exact ⟨⟨hv.r1,hv.r2,hv.c1,hv.c2,by show (tY _ _ _).length = _;rw [yJ];exact hv.len⟩,rfl⟩
 ·refine ⟨by simpa [bC] using (hH hg).1,?_⟩
  simp [aQ,TenP.sh] at h
  simp [bC,TenP.sh,eN];omega
 ·have e:bC 10 g v w num=cO v (g.xs.getD 0 0):=by simp [bC]
  rw [e]
  exact lU hv _
theorem uA {k:Int} {g v w:TenP} {s:Sh} (hk:fL k=true) (hg:okT g) (hv:okT v) (hw:okT w) (h:aQ k v.sh w.sh=some s) (hs:g.sh=s):okT (bU k g v)∧(bU k g v).sh=w.sh:=by
 have hk2:k=1∨k=2∨k=3∨k=4∨k=6:=by
  unfold fL at hk;simp at hk;omega
 subst hs
 rcases hk2 with rfl | rfl | rfl | rfl | rfl
 ·refine ⟨by simpa [bU] using hg,?_⟩
  simp [aQ,TenP.sh] at h
  simp [bU,TenP.sh];omega
 ·refine ⟨by simpa [bU] using sX hg,?_⟩
  simp [aQ,TenP.sh] at h
  simp [bU,TenP.sh,nB];omega
 ·refine ⟨by simpa [bU] using (hH hg).1,?_⟩
  simp [aQ,TenP.sh] at h
  simp [bU,TenP.sh,eN];omega
 ·refine ⟨by simpa [bU] using sX (hH hg).1,?_⟩
  simp [aQ,TenP.sh] at h
  simp [bU,TenP.sh,eN,nB];omega
 ·refine ⟨by simpa [bU] using sY (jR hv) hg,?_⟩
  simp only [aQ,TenP.sh] at h
  by_cases h6:v.c=w.r <;> simp [h6] at h
  simp [bU,TenP.sh,gU,cU];omega
theorem CZ {h:Bool} {old part:TenP} {s:Sh} (ho:okT old) (hos:old.sh=s) (hp:okT part) (hps:part.sh=s):okT (bX h old part)∧(bX h old part).sh=s:=by
 unfold bX
 split
 ·exact ⟨(kG ho).1,(kG ho).2.trans hos⟩
 ·exact ⟨hp,hps⟩
theorem fF {V:List TenP} {i:Nat} (h:i < V.length):aH V (i:Int)=V[i]:=by
 unfold aH
 rw [show ((i:Nat):Int).toNat=i by simp,List.getD_eq_getElem?_getD,List.getElem?_eq_getElem h];rfl
theorem yK (V:List TenP) (U:List Bool) (G:List TenP) (i:Nat) (o:OpP):(jQ V U G i o).length=G.length:=by
 unfold jQ;split
 ·split <;> simp
 ·rfl
theorem iZ (os:List OpP) (V:List TenP) (hV:V.length=os.length) (m:Nat):(cV os V m).length=os.length:=by
 induction m with
 | zero=>simp [cV,hV]
 | succ m ih=>rw [cV,yK,ih]
def OkG (V:List TenP) (U:List Bool) (G:List TenP):Prop:=G.length=V.length∧∀j,j < V.length→(okT (aH G (j:Int))∧(aH G (j:Int)).sh=(aH V (j:Int)).sh)∧(U.getD j false=false→aH G (j:Int)=cO (aH V (j:Int)) 0)
theorem Ae {G:List TenP} {i j:Nat} {t:TenP} (hi:i < G.length):aH (G.set i t) (j:Int)=if i=j then t else aH G (j:Int):=by
 unfold aH
 rw [show ((j:Nat):Int).toNat=j by simp,List.getD_eq_getElem?_getD,List.getElem?_set]
 by_cases e:i=j
 ·rw [if_pos e,if_pos hi,if_pos e];rfl
 ·rw [if_neg e,if_neg e,←List.getD_eq_getElem?_getD]
theorem OkG.set {V:List TenP} {U:List Bool} {G:List TenP} (h:OkG V U G) {i:Nat} (hi:i < V.length) {t:TenP} (ht:okT t) (hs:t.sh=(aH V (i:Int)).sh) (hU:U.length=V.length):OkG V (U.set i true) (G.set i t):=by
 refine ⟨by rw [List.length_set];exact h.1,fun j hj=>?_⟩
 rw [Ae (by rw [h.1];exact hi)]
 by_cases e:i=j
 ·subst e
  rw [if_pos rfl]
  refine ⟨⟨ht,hs⟩,fun h2=>?_⟩
  rw [List.getD_eq_getElem?_getD,List.getElem?_set,if_pos rfl,if_pos (by rw [hU];exact hi)] at h2
  cases h2
 ·rw [if_neg e]
  refine ⟨(h.2 j hj).1,fun h2=>(h.2 j hj).2 ?_⟩
  rw [List.getD_eq_getElem?_getD,List.getElem?_set,if_neg e,←List.getD_eq_getElem?_getD] at h2
  exact h2
theorem OkG.give {V:List TenP} {U:List Bool} {G:List TenP} (h:OkG V U G) {i:Nat} (hi:i < V.length) {p:TenP} (hp:okT p) (hs:p.sh=(aH V (i:Int)).sh) (hU:U.length=V.length):OkG V (U.set i true) (G.set i (bX (U.getD i false) (aH G (i:Int)) p)):=by
 have:=CZ (h:=U.getD i false) (h.2 i hi).1.1 (h.2 i hi).1.2 hp hs
 exact h.set hi this.1 this.2 hU
theorem OkG.init {os:List OpP} {V:List TenP} (hV:V.length=os.length) (hok:∀t∈V,okT t) (h1:1≤os.length):OkG V (cP os 0) (cV os V 0):=by
 have h0:OkG V (List.replicate os.length false) (V.map fun v=>cO v 0):=by
  refine ⟨by simp,fun j hj=>?_⟩
  rw [fF (V:=V.map _) (by simpa using hj),fF hj,List.getElem_map]
  exact ⟨lU (hok _ (List.getElem_mem hj)) 0,fun _=>rfl⟩
 have hl:os.length - 1 < V.length:=by omega
 have hv:okT (aH V ((os.length - 1:Nat):Int)):=by rw [fF hl];exact hok _ (List.getElem_mem hl)
 exact h0.set hl (lU hv 1065353216).1 (lU hv 1065353216).2 (by simp [hV])
theorem oO {os:List OpP} {S:List Sh} (hS:cH os=some S) {i:Nat} {o:OpP} (ho:os[i]? = some o) (h0:o.k≠0):∃s,aQ o.k (aH (bJ os) o.a).sh (aH (bJ os) o.b).sh=some s∧(aH (bJ os) (i:Int)).sh=s:=by
 have hp:=cE hS
 have hi:=(List.getElem?_eq_some_iff.1 ho).1
 have hv:=mY (J _) hp.2.1
 have hf:=kN hS ho
 have ha:=dV hf h0
 have hVl:(bJ os).length=os.length:=by have:=congrArg List.length hv.1;rw [List.length_map,hp.2.2.1] at this;exact this
 cases hSk:cD os i with
 | none =>
  have:=iX hSk (Nat.le_of_lt hi) (J _)
  rw [hp.2.1] at this;cases this
 | some Sk =>
  have hl:=eC (Nat.le_of_lt hi) hSk
  cases hS1:cD os (i+1) with
  | none =>
   have:=iX hS1 hi (J _)
   rw [hp.2.1] at this;cases this
  | some S1 =>
   have hS1':=hS1
   rw [dS ho,hSk] at hS1
   have hst:dF Sk o=some S1:=hS1
   unfold dF at hst
   rw [hl,if_pos hf,if_neg h0] at hst
   obtain ⟨s,hs,hs1⟩:=Option.map_eq_some_iff.1 hst
   have pre:∀m k Sm Sk,cD os k=some Sk→cD os m=some Sm→k≤m→m≤os.length→∀j:Nat,j < k→dL Sm (j:Int)=dL Sk (j:Int):=by
    intro m
    induction m with
    | zero =>
     intro k Sm Sk h1 h2 h3 h4 j hj
     omega
    | succ m ih =>
     intro k Sm Sk h1 h2 h3 h4 j hj
     by_cases e:k=m+1
     ·subst e;rw [h1] at h2;cases h2;rfl
     ·obtain ⟨om,hom⟩:=getElem?_lt (show m < os.length by omega)
      rw [dS hom] at h2
      obtain ⟨S0,hS0,hst0⟩:=Option.bind_eq_some_iff.1 h2
      rw [←ih k S0 Sk h1 hS0 (by omega) (by omega) j hj]
      have hl0:=eC (by omega) hS0
      have:∃s,Sm=S0 ++ [s]:=by
       unfold dF at hst0
       split at hst0
       ·split at hst0
        ·cases hst0;exact ⟨_,rfl⟩
        ·obtain ⟨s,_,e2⟩:=Option.map_eq_some_iff.1 hst0
         exact ⟨s,e2.symm⟩
       ·cases hst0
      obtain ⟨s,rfl⟩:=this
      unfold dL
      rw [List.getD_eq_getElem?_getD,List.getD_eq_getElem?_getD,List.getElem?_append_left (by simp;omega)]
   have g1:∀x:Int,0≤x→x≤(i:Int) - 1→(aH (bJ os) x).sh=dL Sk x:=by
    intro x hx0 hx1
    show (aH (bM os os.length) x).sh = _
    have hVl2:(bM os os.length).length=os.length:=hVl
    rw [sW hv.1 hx0 (by rw [hVl2];omega)]
    obtain ⟨n,rfl⟩:∃n:Nat,x=n:=⟨x.toNat,by omega⟩
    exact pre os.length i S Sk hSk hp.2.1 (by omega) (J _) n (by omega)
   refine ⟨s,?_,?_⟩
   ·rw [g1 _ ha.1.1 ha.1.2,g1 _ ha.2.1.1 ha.2.1.2];exact hs
   ·show (aH (bM os os.length) (i:Int)).sh = _
    have hVl2:(bM os os.length).length=os.length:=hVl
    rw [sW hv.1 (by omega) (by rw [hVl2];omega),pre os.length (i+1) S S1 hS1' hp.2.1 (by omega) (J _) i (by omega),←hs1]
    unfold dL
    rw [show ((i:Nat):Int).toNat=i by simp,List.getD_eq_getElem?_getD,List.getElem?_append_right (by omega),hl,Nat.sub_self];rfl
theorem jS {os:List OpP} {S:List Sh} (hS:cH os=some S):(bJ os).length=os.length∧∀t∈bJ os,okT t:=by
 have hp:=cE hS
 have hv:=mY (J _) hp.2.1
 exact ⟨by have:=congrArg List.length hv.1;rw [List.length_map,hp.2.2.1] at this;exact this,hv.2⟩
theorem pR {V:List TenP} (h:∀t∈V,okT t) {i:Int} (h0:0≤i) (h1:i < V.length):okT (aH V i):=by
 obtain ⟨n,rfl⟩:∃n:Nat,i=n:=⟨i.toNat,by omega⟩
 rw [fF (by omega)];exact h _ (List.getElem_mem _)
theorem OkG.step {os:List OpP} {S:List Sh} (hS:cH os=some S) {U:List Bool} {G:List TenP} (h:OkG (bJ os) U G) (hU:U.length=os.length) {i:Nat} {o:OpP} (ho:os[i]? = some o):OkG (bJ os) (kB U i o) (jQ (bJ os) U G i o):=by
 have hi:=(List.getElem?_eq_some_iff.1 ho).1
 obtain ⟨hVl,hok⟩:=jS hS
 unfold kB jQ
 by_cases hc:U.getD i false=true∧o.k≠0
 ·rw [if_pos hc,if_pos hc]
  have hf:=kN hS ho
  have hk10:=jK hf
  have ha:=dV hf hc.2
  obtain ⟨s,hs,hgs⟩:=oO hS ho hc.2
  have hkk:1≤o.k∧o.k≤10:=⟨by have:=hc.2;omega,hk10.2⟩
  have okv:=pR hok ha.1.1 (by omega)
  have okw:=pR hok ha.2.1.1 (by omega)
  have hg:=h.2 i (by omega)
  have hA:=tZ (num:=cn .f32 o.num) hkk hg.1.1 okv okw hs (hg.1.2.trans hgs)
  obtain ⟨a,haa⟩:∃a:Nat,o.a=a:=⟨o.a.toNat,by omega⟩
  obtain ⟨b,hbb⟩:∃b:Nat,o.b=b:=⟨o.b.toNat,by omega⟩
  have hai:a < (bJ os).length:=by omega
  have hbi:b < (bJ os).length:=by omega
  rw [haa] at hA
  have h1:=h.give hai hA.1 hA.2 (by omega)
  rw [haa,hbb,show ((a:Nat):Int).toNat=a by simp,show ((b:Nat):Int).toNat=b by simp]
  rw [hbb] at h1
  by_cases ht:fL o.k=true
  ·rw [if_pos ht,if_pos ht]
   have hB:=uA ht hg.1.1 okv okw hs (hg.1.2.trans hgs)
   rw [haa,hbb] at hB
   exact h1.give hbi hB.1 hB.2 (by simp;omega)
  ·rw [if_neg ht,if_neg ht];exact h1
 ·rw [if_neg hc,if_neg hc];exact h
theorem OkG.at {os:List OpP} {S:List Sh} (hS:cH os=some S):∀m,m≤os.length→OkG (bJ os) (cP os m) (cV os (bJ os) m)
 | 0,_=>OkG.init (jS hS).1 (jS hS).2 (cE hS).1.1
 | m+1,hm=>by
  obtain ⟨o,ho⟩:=getElem?_lt (show os.length - 1 - m < os.length by omega)
  have h:=OkG.step hS (OkG.at hS m (by omega)) (lL os m) ho
  rw [←lM ho] at h
  exact h
theorem uB {os:List OpP} {V:List TenP} {n i:Nat} {o:OpP} (hn:n=os.length) (hi:i < n) (ho:os[i]? = some o):cV os V (n - i)=jQ V (cP os (n - (i+1))) (cV os V (n - (i+1))) i o:=by
 rw [show n - i=(n - (i+1))+1 by omega,cV,show os.length - 1 - (n - (i+1))=i by omega,lM ho]
theorem uC {V:List TenP} {U:List Bool} {G:List TenP} {i:Nat} {o:OpP} (h:U.getD i false=false∨o.k=0):jQ V U G i o=G:=by
 unfold jQ;rw [if_neg];rintro ⟨h1,h2⟩;rcases h with h | h
 ·rw [h] at h1;cases h1
 ·exact h2 h
theorem qM {U:List Bool} {i:Nat} {o:OpP} (h:U.getD i false=false∨o.k=0):kB U i o=U:=by
 unfold kB;rw [if_neg];rintro ⟨h1,h2⟩;rcases h with h | h
 ·rw [h] at h1;cases h1
 ·exact h2 h
theorem oP {U:List Bool} {i:Nat} {o:OpP} (h:U.getD i false=true) (hk:o.k≠0) (ht:fL o.k=false):kB U i o=U.set o.a.toNat true:=by
 unfold kB;rw [if_pos ⟨h,hk⟩,if_neg (by rw [ht];decide)]
theorem jT {U:List Bool} {i:Nat} {o:OpP} (h:U.getD i false=true) (hk:o.k≠0) (ht:fL o.k=true):kB U i o=(U.set o.a.toNat true).set o.b.toNat true:=by
 unfold kB;rw [if_pos ⟨h,hk⟩,if_pos ht]
theorem rS {os:List OpP} {n i:Nat} {o:OpP} (hn:n=os.length) (hi:i < n) (ho:os[i]? = some o):cP os (n - i)=kB (cP os (n - (i+1))) i o:=by
 rw [show n - i=(n - (i+1))+1 by omega,cP,show os.length - 1 - (n - (i+1))=i by omega,lM ho]
theorem qN {V:List TenP} {U:List Bool} {G:List TenP} {i:Nat} {o:OpP} (h:U.getD i false=true) (hk:o.k≠0) (ht:fL o.k=false):jQ V U G i o=G.set o.a.toNat (bX (U.getD o.a.toNat false) (aH G o.a) (bC o.k (aH G i) (aH V o.a) (aH V o.b) (cn .f32 o.num))):=by
 unfold jQ;rw [if_pos ⟨h,hk⟩,if_neg (by rw [ht];decide)]
theorem kT {V:List TenP} {U:List Bool} {G G1:List TenP} {i:Nat} {o:OpP} (h:U.getD i false=true) (hk:o.k≠0) (ht:fL o.k=true) (h1:G1=G.set o.a.toNat (bX (U.getD o.a.toNat false) (aH G o.a) (bC o.k (aH G i) (aH V o.a) (aH V o.b) (cn .f32 o.num)))):jQ V U G i o=G1.set o.b.toNat (bX ((U.set o.a.toNat true).getD o.b.toNat false) (aH G1 o.b) (bU o.k (aH G i) (aH V o.a))):=by
 subst h1
 unfold jQ;rw [if_pos ⟨h,hk⟩,if_pos ht]
theorem BK (xs:List Nat):(xs.map (cn .f32)).map (cn .f32)=xs.map (cn .f32):=by
 rw [List.map_map];exact List.map_congr_left fun x _=>yY .f32 x
theorem BL (i:Int) (o:OpP):fJ i o.can=fJ i o:=by
 unfold fJ OpP.can Bb;simp only [yY,List.length_map]
theorem AJ (S:List Sh) (o:OpP):dF S o.can=dF S o:=by
 unfold dF;rw [BL];rfl
theorem Af (os:List OpP):cH (os.map OpP.can)=cH os:=by
 unfold cH cD
 rw [List.length_map,←List.map_take,List.foldlM_map]
 simp only [AJ]
theorem BN (V:List TenP) (o:OpP):dN V o.can=dN V o:=by
 unfold dN OpP.can;simp only [yY,BK]
theorem wI (os:List OpP):bJ (os.map OpP.can)=bJ os:=by
 unfold bJ bM
 rw [List.length_map,←List.map_take,List.foldl_map]
 simp only [BN]
theorem wJ (os:List OpP) (i:Nat):eP (os.map OpP.can) i=(eP os i).can:=by
 unfold eP
 rw [List.getD_eq_getElem?_getD,List.getD_eq_getElem?_getD,List.getElem?_map]
 cases os[i]? with
 | none=>show (⟨0,0,0,0,0,0,[]⟩:OpP)=OpP.can ⟨0,0,0,0,0,0,[]⟩
         unfold OpP.can;rw [show cn .f32 0=0 by decide +kernel];rfl
 | some o=>rfl
theorem BO (U:List Bool) (i:Nat) (o:OpP):kB U i o.can=kB U i o:=rfl
theorem BP (os:List OpP) (m:Nat):cP (os.map OpP.can) m=cP os m:=by
 induction m with
 | zero=>rw [cP,cP,List.length_map]
 | succ m ih=>rw [cP,cP,ih,List.length_map,wJ,BO]
theorem BU (V:List TenP) (U:List Bool) (G:List TenP) (i:Nat) (o:OpP):jQ V U G i o.can=jQ V U G i o:=by
 unfold jQ OpP.can;simp only [yY]
theorem BW (os:List OpP) (V:List TenP) (m:Nat):cV (os.map OpP.can) V m=cV os V m:=by
 induction m with
 | zero=>rw [cV,cV,List.length_map]
 | succ m ih=>rw [cV,cV,ih,BP,List.length_map,wJ,BU]
theorem Ca (os:List OpP):cW (os.map OpP.can)=cW os:=by
 unfold cW;rw [wI,List.length_map,BW]
theorem Cb (us:List OpD):us.map (fun o=>o.toOpP.can)=(us.map OpD.toOpP).map OpP.can:=by rw [List.map_map];rfl
/-! the shapes of a model's tape -/
def Fold (ops:List OpP) (S:List Sh):Prop:=ops.foldlM dF []=some S
theorem Fold.snoc {ops:List OpP} {S S':List Sh} {o:OpP} (h:Fold ops S) (hs:dF S o=some S'):Fold (ops ++ [o]) S':=by
 unfold Fold at *
 rw [List.foldlM_append,h]
 simp [List.foldlM,hs]
theorem Fold.len {ops:List OpP}:∀ {S:List Sh},Fold ops S→S.length=ops.length:=by
 intro S h
 have:∀(l:List OpP) (T S:List Sh),l.foldlM dF T=some S→S.length=T.length+l.length:=by
  intro l
  induction l with
  | nil=>intro T S h;rw [List.foldlM_nil] at h;cases h;rfl
  | cons o l ih =>
   intro T S h
   rw [List.foldlM_cons] at h
   obtain ⟨T2,h1,h2⟩:=Option.bind_eq_some_iff.1 h
   have:=ih T2 S h2
   have:=nX h1
   rw [List.length_cons];omega
 have:=this ops [] S h
 simpa using this
theorem cK {S:List Sh} {i:Int} (s:Sh) (h0:0≤i) (h:i < S.length):dL (S ++ [s]) i=dL S i:=by
 unfold dL
 rw [List.getD_eq_getElem?_getD,List.getD_eq_getElem?_getD,List.getElem?_append_left (by omega)]
theorem dK {S:List Sh} {i:Int} (s:Sh) (h:i=S.length):dL (S ++ [s]) i=s:=by
 subst h
 unfold dL
 rw [List.getD_eq_getElem?_getD,show ((S.length:Nat):Int).toNat=S.length by simp]
 simp
theorem kU {S:List Sh} {r c:Int} {xs:List Nat} (h:dZ r c xs.length=true):dF S (cX r c xs)=some (S ++ [(r,c)]):=by
 have hf:fJ S.length (cX r c xs)=true:=by
  unfold fJ cX Bb;simp [h,jU]
 unfold dF
 rw [if_pos hf]
 rfl
theorem fU {S:List Sh} {k a b:Int} {num:Nat} {s:Sh} (hk:1≤k∧k≤10) (hn:k=5∨num=0) (ha:0≤a∧a < S.length) (hb:if fL k=true then 0≤b∧b < S.length else b=0) (hs:aQ k (dL S a) (dL S b)=some s) :
  dF S (eU k a b num)=some (S ++ [s]):=by
 have hf:fJ S.length (eU k a b num)=true:=by
  unfold fJ eU Bb
  have h1:jU k 0 10=true:=cA.2 (by omega)
  have h2:jU a 0 (S.length - 1)=true:=cA.2 (by omega)
  have h3:(k == 5 || decide (cn .f32 num=cn .f32 0))=true:=by
   rcases hn with rfl | rfl <;> simp
  have h4:(if fL k=true then jU b 0 (S.length - 1) else b == 0)=true:=by
   split at hb
   ·rename_i e;rw [if_pos e];exact cA.2 (by omega)
   ·rename_i e;rw [if_neg e];simpa using hb
  simp only [h1,h2,h3,h4,if_neg (show ¬ k=0 by omega)]
  simp
 unfold dF
 rw [if_pos hf,if_neg (show ¬ (eU k a b num).k=0 from fun e=>by have:k=0:=e;omega)]
 show (aQ k (dL S a) (dL S b)).map _ = _
 rw [hs];rfl
structure MOk (s:MS) (r c yr yc:Int) (S:List Sh):Prop where
 fold:Fold s.ops S
 two:2≤S.length
 p:0≤s.p∧s.p < S.length
 at_p:dL S s.p=(r,c)
 at_1:dL S 1=(yr,yc)
 ws:∀i∈s.ws,0≤i∧i < S.length
theorem eG (S:List Sh) (s:Sh):(S ++ [s]).length=S.length+1:=by simp
theorem MOk.dense {s:MS} {r c yr yc:Int} {S:List Sh} (h:MOk s r c yr yc S) {l:LayP} (hl:jW l=true) (hk:l.k=0) (hc:c=l.i):∃S',MOk (cM s l s.ops.length) r l.o yr yc S':=by
 obtain ⟨h1,h2,h3,h4,h5,h6⟩:=jL hl
 rw [hk] at h5 h6
 have e5:(l.ws.length:Int)=l.o * l.i:=h5
 have e6:(l.bs.length:Int)=l.o:=h6
 have hL:=h.fold.len
 have f1:=h.fold.snoc (kU (r:=l.o) (c:=l.i) (xs:=l.ws) (eA.2 ⟨by omega,by omega,e5⟩))
 have f2:=f1.snoc (kU (r:=1) (c:=l.o) (xs:=l.bs) (eA.2 ⟨by omega,by omega,by omega⟩))
 have f3:=f2.snoc (fU (k:=7) (a:=(s.ops.length:Int)) (b:=0) (num:=0) (s:=(l.i,l.o)) (by omega) (.inr rfl) (by simp only [eG];omega) rfl (by
  rw [cK _ (by omega) (by simp only [eG];omega),dK (l.o,l.i) (by omega)];rfl))
 have f4:=f3.snoc (fU (k:=6) (a:=s.p) (b:=(s.ops.length:Int)+2) (num:=0) (s:=(r,l.o)) (by omega) (.inr rfl) (by simp only [eG];have:=h.p;omega) (show 0≤(s.ops.length:Int)+2∧_ by simp only [eG];omega) (by
  have hp:=h.p
  rw [dK (i:=(s.ops.length:Int)+2) (l.i,l.o) (by simp only [eG];omega),cK (i:=s.p) _ hp.1 (by simp only [eG];omega),cK (i:=s.p) _ hp.1 (by simp only [eG];omega),cK (i:=s.p) _ hp.1 (by omega),h.at_p,hc]
  simp [aQ]))
 have f5:=f4.snoc (fU (k:=2) (a:=(s.ops.length:Int)+3) (b:=(s.ops.length:Int)+1) (num:=0) (s:=(r,l.o)) (by omega) (.inr rfl) (by simp only [eG];omega) (show 0≤(s.ops.length:Int)+1∧_ by simp only [eG];omega) (by
  rw [dK (r,l.o) (by simp only [eG];omega),cK _ (by omega) (by simp only [eG];omega),cK _ (by omega) (by simp only [eG];omega),dK (1,l.o) (by simp only [eG];omega)]
  simp [aQ]))
 refine ⟨_,f5,by simp only [eG];omega,by show 0≤(s.ops.length:Int)+4∧(s.ops.length:Int)+4 < _;simp only [eG];omega,dK _ (by show (s.ops.length:Int)+4 = _;simp only [eG];omega),?_,?_⟩
 ·have h2:=h.two
  rw [cK _ (by omega) (by simp only [eG];omega),cK _ (by omega) (by simp only [eG];omega),cK _ (by omega) (by simp only [eG];omega),cK _ (by omega) (by simp only [eG];omega),cK _ (by omega) (by omega)]
  exact h.at_1
 ·intro i hi
  simp only [cM,List.mem_append,List.mem_singleton] at hi
  simp only [eG]
  rcases hi with (hi | hi) | hi
  ·have:=h.ws i hi;omega
  ·omega
  ·omega
theorem MOk.relu {s:MS} {r c yr yc:Int} {S:List Sh} (h:MOk s r c yr yc S) {l:LayP} (hl:jW l=true) (hk:l.k=1) (hc:c=l.i):∃S',MOk (fP s s.ops.length) r l.o yr yc S':=by
 obtain ⟨h1,h2,h3,h4,h5,h6⟩:=jL hl
 have e4:l.i=l.o:=by omega
 have hL:=h.fold.len
 have hp:=h.p;have h2:=h.two
 have f1:=h.fold.snoc (fU (k:=8) (a:=s.p) (b:=0) (num:=0) (s:=(r,l.o)) (by omega) (.inr rfl) hp rfl (by rw [h.at_p,hc,e4];rfl))
 refine ⟨_,f1,by simp only [eG];omega,by show 0≤(s.ops.length:Int)∧(s.ops.length:Int) < _;simp only [eG];omega,dK _ (by show (s.ops.length:Int) = _;omega),?_,?_⟩
 ·rw [cK _ (by omega) (by omega)];exact h.at_1
 ·intro i hi
  have:=h.ws i hi
  simp only [eG];omega
theorem MOk.scale {s:MS} {r c yr yc:Int} {S:List Sh} (h:MOk s r c yr yc S) {l:LayP} (hl:jW l=true) (hk:l.k=2) (hc:c=l.i):∃S',MOk (cR s l s.ops.length) r l.o yr yc S':=by
 obtain ⟨h1,h2,h3,h4,h5,h6⟩:=jL hl
 rw [hk] at h5
 have e5:(l.ws.length:Int)=l.i:=h5
 have e4:l.i=l.o:=by omega
 have hL:=h.fold.len
 have hp:=h.p;have h2:=h.two
 have f1:=h.fold.snoc (kU (r:=1) (c:=l.i) (xs:=l.ws) (eA.2 ⟨by omega,by omega,by omega⟩))
 have f2:=f1.snoc (fU (k:=4) (a:=s.p) (b:=(s.ops.length:Int)) (num:=0) (s:=(r,l.o)) (by omega) (.inr rfl) (by simp only [eG];omega) (show 0≤(s.ops.length:Int)∧_ by simp only [eG];omega) (by
  rw [dK (i:=(s.ops.length:Int)) (1,l.i) (by omega),cK (i:=s.p) _ hp.1 hp.2,h.at_p,hc,e4]
  simp [aQ]))
 refine ⟨_,f2,by simp only [eG];omega,by show 0≤(s.ops.length:Int)+1∧(s.ops.length:Int)+1 < _;simp only [eG];omega,dK _ (by show (s.ops.length:Int)+1 = _;simp only [eG];omega),?_,?_⟩
 ·rw [cK _ (by omega) (by simp only [eG];omega),cK _ (by omega) (by omega)];exact h.at_1
 ·intro i hi
  simp only [cR,List.mem_append,List.mem_singleton] at hi
  simp only [eG]
  rcases hi with hi | hi
  ·have:=h.ws i hi;omega
  ·omega
def rT (ls:List LayP) (c:Int) (k:Nat):Int:=if k=0 then c else (cG ls (k - 1)).o
theorem Cc {ls:List LayP} (hg:dG ls=true) {c:Int} (hc:c=(cG ls 0).i) {k:Nat} {l:LayP} (hl:ls[k]? = some l):rT ls c k=l.i:=by
 unfold dG at hg
 rw [Bool.and_eq_true] at hg
 have hk:=(List.getElem?_eq_some_iff.1 hl).1
 have h1:=lO hg.1 (show k+1≤ls.length from hk)
 cases k with
 | zero=>unfold rT;rw [if_pos rfl,hc,dM hl]
 | succ k =>
  obtain ⟨p,hp⟩:∃p,ls[k]? = some p:=⟨_,List.getElem?_eq_getElem (by omega)⟩
  have h0:=lO hg.1 (show k+1≤ls.length by omega)
  rw [oK h0 hl hp,Bool.and_eq_true,decide_eq_true_eq] at h1
  unfold rT
  rw [if_neg (by omega),show k+1 - 1=k by omega,dM hp,h1.2]
theorem Et {ls:List LayP} {X Y:TenP} (hg:fR ls X Y=true) {k:Nat} (hk:k≤ls.length) {s:MS} (h:kZ ls X Y k=some s):∃S,MOk s X.r (rT ls X.c k) Y.r Y.c S:=by
 have hg0:=hg
 unfold fR at hg
 simp only [Bool.and_eq_true,decide_eq_true_eq] at hg
 obtain ⟨g1,g2,g3,g4,g5,g6⟩:=hg
 induction k generalizing s with
 | zero =>
  rw [kZ] at h;cases h
  have f1:Fold [cX X.r X.c X.xs] [(X.r,X.c)]:=by unfold Fold;rw [List.foldlM_cons,kU g2];rfl
  have f2:=f1.snoc (kU (r:=Y.r) (c:=Y.c) (xs:=Y.xs) g3)
  exact ⟨_,f2,by simp,by simp,rfl,rfl,fun i hi=>(nomatch hi)⟩
 | succ k ih =>
  rw [kZ] at h
  obtain ⟨s0,h0,h1⟩:=Option.bind_eq_some_iff.1 h
  obtain ⟨l,hl,h2⟩:=Option.bind_eq_some_iff.1 h1
  obtain ⟨S,hS⟩:=ih (by omega) h0
  have hw:=Cc g1 g5 hl
  have hb:=kQ g1 hl
  have e:rT ls X.c (k+1)=l.o:=by unfold rT;rw [if_neg (by omega),show k+1 - 1=k by omega,dM hl]
  rw [e]
  unfold fQ at h2
  split at h2
  ·cases h2;exact hS.dense hb ‹_› hw
  ·split at h2
   ·cases h2;exact hS.relu hb ‹_› hw
   ·split at h2
    ·cases h2;exact hS.scale hb ‹_› hw
    ·cases h2
theorem qO {ls:List LayP} {X Y:TenP} {num:Nat} {C:List OpP} {ws:List Int} (h:bH ls X Y num=some (C,ws)) :
  ∃S,cH C=some S∧dL S ((C.length - 1:Nat):Int)=(1,1)∧∀i∈ws,0≤i∧i < C.length:=by
 unfold bH at h
 split at h
 ·rename_i hg
  obtain ⟨s,hs,e⟩:=Option.map_eq_some_iff.1 h
  cases e
  obtain ⟨S,hS⟩:=Et hg (J _) hs
  have hg0:=hg
  unfold fR at hg
  simp only [Bool.and_eq_true,decide_eq_true_eq] at hg
  obtain ⟨g1,g2,g3,g4,g5,g6⟩:=hg
  have hl:=jM g1
  have hw:rT ls X.c ls.length=Y.c:=by unfold rT;rw [if_neg (by omega),g6]
  rw [hw,g4] at hS
  have hL:=hS.fold.len
  have hp:=hS.p;have h2:=hS.two
  have hn:=(Bf hs).1
  have f1:=hS.fold.snoc (fU (k:=5) (a:=1) (b:=0) (num:=3212836864) (s:=(Y.r,Y.c)) (by omega) (.inl rfl) (by omega) rfl (by rw [hS.at_1];rfl))
  have f2:=f1.snoc (fU (k:=1) (a:=s.p) (b:=(s.ops.length:Int)) (num:=0) (s:=(Y.r,Y.c)) (by omega) (.inr rfl) (by simp only [eG];omega) (show 0≤(s.ops.length:Int)∧_ by simp only [eG];omega) (by
   rw [dK (i:=(s.ops.length:Int)) (Y.r,Y.c) (by omega),cK (i:=s.p) _ hp.1 hp.2,hS.at_p];simp [aQ]))
  have f3:=f2.snoc (fU (k:=9) (a:=(s.ops.length:Int)+1) (b:=0) (num:=0) (s:=(Y.r,Y.c)) (by omega) (.inr rfl) (by simp only [eG];omega) rfl (by
   rw [dK (Y.r,Y.c) (by simp only [eG];omega)];rfl))
  have f4:=f3.snoc (fU (k:=10) (a:=(s.ops.length:Int)+2) (b:=0) (num:=0) (s:=(1,1)) (by omega) (.inr rfl) (by simp only [eG];omega) rfl (by
   rw [dK (Y.r,Y.c) (by simp only [eG];omega)];rfl))
  have f5:=f4.snoc (fU (k:=5) (a:=(s.ops.length:Int)+3) (b:=0) (num:=num) (s:=(1,1)) (by omega) (.inl rfl) (by simp only [eG];omega) rfl (by
   rw [dK (1,1) (by simp only [eG];omega)];rfl))
  have hlen:(vF s num).length=s.ops.length+5:=by unfold vF sF;simp
  have hsh:cH (vF s num)=some (S ++ [(Y.r,Y.c)] ++ [(Y.r,Y.c)] ++ [(Y.r,Y.c)] ++ [(1,1)] ++ [(1,1)]):=by
   unfold cH
   rw [if_pos (by rw [hlen];omega)]
   unfold cD
   rw [List.take_length]
   exact f5
  refine ⟨_,hsh,dK (1,1) ?_,fun i hi=>?_⟩
  ·rw [hlen];simp only [eG];omega
  ·have:=hS.ws i hi
   rw [hlen];omega
 ·cases h
def iU (G:List TenP) (ws:List Int):List Nat:=ws.flatMap fun i=>(aH G i).xs
def wK (C:List OpP):Nat:=(aH (bJ C) ((C.length - 1:Nat):Int)).xs.getD 0 0
def nC (R:Option (List OpP × List Int)):Option (List Nat × Nat):=R.map fun p=>(iU (cW p.1) p.2,wK p.1)
theorem Da {C:List OpP} {S:List Sh} (hS:cH C=some S) (h1:dL S ((C.length - 1:Nat):Int)=(1,1)):(aH (bJ C) ((C.length - 1:Nat):Int)).xs.length=1:=by
 have hp:=cE hS
 have hv:=mY (J _) hp.2.1
 have hl:(bJ C).length=C.length:=(jS hS).1
 have hlt:C.length - 1 < (bJ C).length:=by omega
 have hok:=hv.2 _ (List.getElem_mem hlt)
 rw [fF hlt]
 have hs:((bJ C)[C.length - 1]).sh=(1,1):=by
  have e:=hv.1
  rw [←h1,←e]
  unfold dL
  rw [List.getD_eq_getElem?_getD,show (((C.length - 1:Nat):Int)).toNat=C.length - 1 by omega,List.getElem?_map,show (bM C C.length)[C.length - 1]? = some ((bJ C)[C.length - 1]) from List.getElem?_eq_getElem hlt]
  rfl
 have h5:=hok.len
 have h6:((bJ C)[C.length - 1]).r=1:=congrArg Prod.fst hs
 have h7:((bJ C)[C.length - 1]).c=1:=congrArg Prod.snd hs
 rw [h6,h7] at h5
 simpa using h5

theorem rU {n:Nat} {L R:Int} (h:L=if (n:Int)≤R then R - n else -1) (h0:0≤L) (h1:R≤1048576):n≤1048576∧L≤1048576:=by
 split at h <;> omega
end
section
open Go
section
variable {P:Program} {ops:Array Oper} {C:World→Prop} {VC:FuncId→Array Value→Value→Prop}
@[go_sem] def EnterS (P:Program) (w:World) (K:FuncId→Array Value→Prop):Result Next→Prop
 | .ok (.enter f args) w'=>w'=w∧K f args
 | _=>False
end
end
section
open Go Go.RowKit





theorem cL {w w':World} (hb:Below w.drew.heap.size w.drew w'):Below w.heap.size w w':=aA (Below.drew (O _ _)) hb
theorem DY (w:World) (r c:Int) (ad:Option Addr) (cap:Nat) (xs:List Nat) (h:F32s w ad cap xs) (hn:xs.length≤1048576) :
  Calls Tryz.prog 10 #[.agg #[.int .i64 r,.int .i64 c,.slice ad xs.length cap]] w.drew fun e w' => ∃ad' cap',e=.returned (.agg #[.int .i64 r,.int .i64 c,.slice ad' xs.length cap'])∧Hid (RepF w' w.heap.size w'.heap.size ad' xs.length cap' xs)∧Below w.heap.size w w':=by
 refine (Ay w.drew r c ad cap xs (h.below (Below.drew (O _ _))) hn).mono ?_
 rintro e w' ⟨a,c,h1,h3,h4⟩
 exact ⟨a,c,h1,h3,cL h4⟩
theorem pS {w:World} {lo hi n cap:Nat} {ad:Option Addr} {us:List Ten} (h:OwnR bV w lo hi ad n cap us) {k:Nat} {t:Ten} (hk:us[k]? = some t):∃g,ad=some ⟨g,0,none⟩∧(lo≤g∧g < hi∧g < w.heap.size) ∧
  (w.cell? ⟨g,k * 3,none⟩=some (.int .i64 t.r)∧w.cell? ⟨g,k * 3+1,none⟩=some (.int .i64 t.c)∧w.cell? ⟨g,k * 3+2,none⟩=some (.slice t.ad t.xs.length t.cap)) ∧
  (∀j,w.frozen? ⟨g,j,none⟩=false)∧RepF w lo hi t.ad t.xs.length t.cap t.xs:=by
 obtain ⟨g,e,hr,hc,hf⟩:=h.spot hk (by decide)
 have hm:=List.mem_of_getElem? hk
 refine ⟨g,e,hr,⟨hc 0 (by decide),hc 1 (by decide),hc 2 (by decide)⟩,hf,h.own.repF (List.mem_cons_of_mem _ (List.mem_flatMap.2 ⟨t,hm,List.mem_singleton.2 rfl⟩)) (h.ok t hm)⟩
def qP (us:List Ten) (i:Int):Ten:=us.getD i.toNat ⟨⟨0,0,[]⟩,none,0⟩
def fK (us:List Ten) (ws:List Int):List Nat:=ws.flatMap fun i=>(qP us i).xs
theorem uD (us:List Ten) (ws:List Int) (i:Int):fK us (ws ++ [i])=fK us ws ++ (qP us i).xs:=by unfold fK;rw [List.flatMap_append];simp
theorem wL {us:List Ten} {G:List TenP} (h:us.map (fun t=>t.toTenP.can)=G) (ws:List Int):(fK us ws).map (cn .f32)=iU G ws:=by
 subst h
 unfold fK iU
 rw [List.map_flatMap]
 congr 1
 funext i
 unfold aH qP
 rw [List.getD_eq_getElem?_getD,List.getD_eq_getElem?_getD,List.getElem?_map]
 cases us[i.toNat]? <;> rfl
theorem wM {us:List Ten} (hx:∀t∈us,okF t.xs) (ws:List Int):okF (fK us ws):=by
 intro x hm
 obtain ⟨i,_,h⟩:=List.mem_flatMap.1 hm
 unfold qP at h
 rw [List.getD_eq_getElem?_getD] at h
 cases e:us[i.toNat]? with
 | none=>rw [e] at h;exact (nomatch h)
 | some t=>rw [e] at h;exact hx t (List.mem_of_getElem? e) x h
theorem Bk {w:World} {ad:Option Addr} {cap:Nat} {xs:List Int} (h:Ints .i64 w ad cap xs) {k:Nat} {i:Int} (hk:xs[k]? = some i):∃b off,ad=some ⟨b,off,none⟩∧b < w.heap.size∧w.cell? ⟨b,off+k,none⟩=some (.int .i64 i):=by
 have hlt:=(List.getElem?_eq_some_iff.1 hk).1
 rcases h.rd with h1 | ⟨b,off,e,hb,hc⟩
 ·have:xs=[]:=by simpa using h1
  subst this;exact absurd hlt (Nat.not_lt_zero _)
 ·refine ⟨b,off,e,hb,?_⟩
  rw [hc k (by simpa using hlt),List.getElem?_map,hk];rfl
theorem yL (w:World) (al wa:Option Addr) (cl wk:Nat) (us:List Ten) (ws:List Int) {lo hi n:Nat} (hl:OwnR bV w lo hi al n cl us) (hw:Ints .i64 w wa wk ws) (hix:∀i∈ws,0≤i∧i < n) (hn:n≤48) (hx:∀t∈us,t.xs.length≤256) (hm:ws.length≤12) :
  Calls Tryz.prog 85 #[.slice al n cl,.slice wa ws.length wk] w fun e w' => ∃ad cap,e=.returned (.slice ad (fK us ws).length cap)∧Hid (RepF w' w.heap.size w'.heap.size ad (fK us ws).length cap (fK us ws))∧Below w.heap.size w w':=by
 obtain ⟨i0,hi0,hz0,hz1,hz2⟩:=info_parts bW
 have HL:=I hl;have HW:=I hw;have HIX:=I hix;have HXL:=I hx
 obtain ⟨m,hM⟩:∃m,m=ws.length:=⟨_,rfl⟩
 rw [←hM] at hm ⊢
 have HM:=I hM
 clear hl hw hix hx hM
 go_enter Tryz.func85,Tryz.ntmps85
 go_wp2
 go_loopw [5,6] (fun v i wt => ∃k nk:Nat,i=.int .i64 k∧k≤m∧nk≤256 * k∧Hid (wt.ownsRow w.heap.size 28 1 v nk ((fK us (ws.take k)).map (Value.float .f32))∧nk=(fK us (ws.take k)).length)∧Hid (Below w.heap.size w wt)) (fun v i wt=>m - (intOf i).toNat)
 case atStart=>exact ⟨0,0,rfl,Nat.zero_le _,by omega,I ⟨World.ownsRow_made _ _ _ (J _) (Nat.zero_le _) rfl,rfl⟩,I (aE _ _)⟩
 case round =>
  obtain ⟨k,nk,rfl,hk,hnk,HO,HB⟩:=hrel
  by_cases hlt:k < m
  ·obtain ⟨i,hi⟩:=getElem?_lt (show k < ws.length by rw [←HM.out];exact hlt)
   have hix:=HIX.out i (List.mem_of_getElem? hi)
   obtain ⟨j,rfl⟩:∃j:Nat,i=j:=⟨i.toNat,by omega⟩
   have hjn:j < n:=by omega
   obtain ⟨t,ht⟩:=getElem?_lt (show j < us.length by rw [HL.out.len];exact hjn)
   obtain ⟨wb,wo,hwa,hwb,hwc⟩:=Bk (HW.out.below HB.out) hi
   obtain ⟨g,hal,hg,⟨-,-,hc2⟩,-,hrt⟩:=pS (HL.out.below HB.out) ht
   have hr:=hrt.arg
   have HRD:=I hr.rd;have HNC:=I hrt.nilcap
   have hlen:=HXL.out t (List.mem_of_getElem? ht)
   have HT:=I (show fK us (ws.take (k+1))=fK us (ws.take k) ++ t.xs by
    rw [List.take_add_one,hi]
    show fK us (ws.take k ++ [(j:Int)]) = _
    rw [uD]
    congr 1
    unfold qP
    rw [List.getD_eq_getElem?_getD,show ((j:Nat):Int).toNat=j by simp,ht];rfl)
   obtain ⟨q,hq⟩:∃q,q=t.xs.length:=⟨_,rfl⟩
   rw [←hq] at hc2 hlen
   have HQ:=I hq
   have h1:∀u∈t.xs.map (Value.float .f32),u.oneCell'=true:=by intro u hu;obtain ⟨x,_,rfl⟩:=List.mem_map.1 hu;rfl
   have H1:=I h1
   have HOW:=I HO.out.1;have HNK:=I HO.out.2
   have hbs:=HB.out.size
   subst hwa hal
   clear hix hg hrt hr hi ht hq h1 HO
   go_wp2_with (at_builtin;refine xO rfl _ _ 25 rfl w.heap.size i0 (.float .f32 0) 4 Tryz.underlying25 hi0 hz0 hz1 hz2 rfl _ nk _ rfl HOW.out t.ad q t.cap (t.xs.map (Value.float .f32)) rfl HNC.out (by rw [List.length_map,HQ.out]) HRD.out H1.out ?c3 ?c4 ?c5 ?_)
   case c3=>unfold maxLen;omega
   case c4=>omega
   case c5=>exact hbs
   intro v' w9 hown1 hb1 hbs1
   have HOW2:=I hown1;have HB2:=I (HB.out.trans hb1)
   clear hown1 hb1 hwc hc2 HRD HNC
   go_wp2
   refine ⟨?rel,?measure⟩
   case rel=>exact ⟨k+1,nk+q,by go_num,hlt,by omega,I ⟨by rw [HT.out,List.map_append];exact HOW2.out,by rw [HT.out,List.length_append,HNK.out,HQ.out]⟩,HB2⟩
   case measure=>simp [intOf];omega
  ·have e:k=m:=by omega
   subst e
   have e2:ws.take k=ws:=by rw [HM.out];exact List.take_length
   rw [e2] at HO
   go_wp2
   go_ret
   obtain ⟨ad,cap,rfl,hr⟩:=RepF.of_owns HO.out.1 (wM (fun t ht=>HL.out.ok t ht) ws)
   have e3:=HO.out.2
   subst e3
   exact ⟨ad,cap,rfl,I hr,HB.out⟩

end
end Go.Proofs.YtpadlmidojpbeaaGreat
