/- Joined texts 14. No condition. -/
import Derived.Test.YtpadlmidojpbeaaGreatMc0
import Derived.Test.YtpadlmidojpbeaaGreatMc1
import Derived.Test.YtpadlmidojpbeaaGreatMc2
import Derived.Test.YtpadlmidojpbeaaGreatMc5
import Derived.Test.YtpadlmidojpbeaaGreatMc6
import Derived.Test.YtpadlmidojpbeaaGreatMc7
import Derived.Test.YtpadlmidojpbeaaGreatMc8
import Derived.Test.YtpadlmidojpbeaaGreatMc9
import Derived.Test.YtpadlmidojpbeaaGreatMc13
set_option linter.unusedVariables false
set_option linter.unusedSimpArgs false
set_option maxRecDepth 100000
set_option maxHeartbeats 64000000
namespace Go.Proofs.YtpadlmidojpbeaaGreat
section
open Go Go.RowKit
theorem uH {os:List OpP} {S:List Sh} (hS:cH os=some S):(cW os).length≤48∧∀t∈cW os,t.xs.length≤256:=by
 have hp:=cE hS
 have hv:=mY (J _) hp.2.1
 have hVl:(bJ os).length=os.length:=by have:=congrArg List.length hv.1;rw [List.length_map,hp.2.2.1] at this;exact this
 have hok:∀m,m≤os.length→OkG (bJ os) (cP os m) (cV os (bJ os) m):=OkG.at hS
 have h1:=hok os.length (J _)
 refine ⟨?_,fun t ht=>?_⟩
 ·show (cV os (bJ os) os.length).length≤48
  rw [h1.1,hVl];exact hp.1.2
 ·obtain ⟨j,hj,rfl⟩:=List.mem_iff_getElem.1 ht
  have hj2:j < (bJ os).length:=by rw [←h1.1];exact hj
  have h2:okT (aH (cW os) (j:Int)):=(h1.2 j hj2).1.1
  rw [fF hj] at h2
  exact h2.le
theorem yM (w:World) (ad:Option Addr) (n cap:Nat) (wa:Option Addr) (wk:Nat) (ws:List Int) (C:List OpP) (us:List OpD) (S:List Sh) (hF:TapeF w ad n cap wa wk ws C us S) :
  Calls Tryz.prog 37 #[.slice ad n cap,.slice wa ws.length wk] w fun e w' => ∃a m c z xs,e=.returned (.tuple #[.slice a m c,.float .f32 z]) ∧
   Hid (RepF w' w.heap.size w'.heap.size a m c xs∧z < 4294967296∧xs.map (cn .f32)=iU (cW C) ws∧cn .f32 z=wK C)∧Below w.heap.size w w':=by
 obtain ⟨i0,hi0,hz0,hz1,hz2⟩:=info_parts bW
 have HF:=I hF
 have hn1:=hF.n1;have hn2:=hF.n2;have hm:=hF.m
 have K2:=I (yI w ad cap us hF.see hF.nil S hF.sh hF.lens)
 rw [hF.len,hF.v] at K2
 clear hF
 obtain ⟨m,hM⟩:∃m,m=ws.length:=⟨_,rfl⟩
 rw [←hM] at hm ⊢
 have HM:=I hM
 clear hM
 go_enter Tryz.func37,Tryz.ntmps37
 go_wp2_with fail
 refine K2.out.mono ?_
 rintro e w2 ⟨a2,c2,vs,rfl,HV,hb2⟩
 have HB2:=I hb2
 obtain ⟨g,tb,tq,tc,z,rfl,hcells,hz⟩:=wN (HF.out.below HB2.out) HV.out.1 HV.out.2
 have HZ:=I hz
 have hni:(n:Int) - 1=((n - 1:Nat):Int):=by omega
 obtain ⟨l,hl⟩:∃l,l=n - 1:=⟨_,rfl⟩
 rw [←hl] at hni
 have HC:=I (show ∀V,Below w2.heap.size w2 V→V.cell? ⟨g,l * 3+2,none⟩=some (.slice (some ⟨tb,tq,none⟩) 1 tc)∧V.cell? ⟨tb,tq,none⟩=some (.float .f32 z) by rw [hl];exact hcells)
 have hln:l < n:=by omega
 have HNI:=I hni
 clear hl hb2 K2 hcells hz hni
 have K3:=I (uG w2 ad (some ⟨g,0,none⟩) cap c2 us vs (HF.out.see.below HB2.out) HV.out.1.see S HF.out.sh (by rw [HV.out.2,HF.out.v]))
 rw [HF.out.len,HF.out.g] at K3
 go_wp2_with fail
 refine K3.out.mono ?_
 rintro e w3 ⟨a3,c3,gs,rfl,HG,hb3⟩
 have HB3:=I hb3
 have HXL:=I (show ∀t∈gs,t.xs.length≤256 from fun t ht=>by
  have h3:=uH (os:=us.map OpD.toOpP) HF.out.sh
  rw [HF.out.g] at h3
  have h4:=h3.2 t.toTenP.can (by rw [←HG.out.2];exact List.mem_map_of_mem ht)
  simpa [TenP.can] using h4)
 have HIN:=I ((HF.out.ints.below HB2.out).below hb3)
 clear hb3 K3
 go_wp2
 go_loopw [8,10,19] (fun v x i wt => ∃k nk:Nat,i=.int .i64 k∧k≤m∧nk≤256 * k∧Hid (wt.ownsRow w3.heap.size 28 1 v nk ((fK gs (ws.take k)).map (Value.float .f32))∧nk=(fK gs (ws.take k)).length)∧Hid (Below w3.heap.size w3 wt)) (fun v x i wt=>m - (intOf i).toNat)
 case atStart=>exact ⟨0,0,rfl,Nat.zero_le _,by omega,I ⟨World.ownsRow_made _ _ _ (J _) (Nat.zero_le _) rfl,rfl⟩,I (aE _ _)⟩
 case round =>
  obtain ⟨k,nk,rfl,hk,hnk,HO,HB⟩:=hrel
  by_cases hlt:k < m
  ·obtain ⟨i,hi⟩:=getElem?_lt (show k < ws.length by rw [←HM.out];exact hlt)
   have hix:=HF.out.ix i (List.mem_of_getElem? hi)
   obtain ⟨j,rfl⟩:∃j:Nat,i=j:=⟨i.toNat,by omega⟩
   have hjn:j < n:=by omega
   obtain ⟨t,ht⟩:=getElem?_lt (show j < gs.length by rw [HG.out.1.len];exact hjn)
   obtain ⟨wb,wo,hwa,hwb,hwc⟩:=Bk (HIN.out.below HB.out) hi
   obtain ⟨g3,hal,hg,⟨-,-,hc2⟩,-,hrt⟩:=pS (HG.out.1.below HB.out) ht
   have hr:=hrt.arg
   have HRD:=I hr.rd;have HNC:=I hrt.nilcap
   have hlen:=HXL.out t (List.mem_of_getElem? ht)
   have HT:=I (show fK gs (ws.take (k+1))=fK gs (ws.take k) ++ t.xs by
    rw [List.take_add_one,hi]
    show fK gs (ws.take k ++ [(j:Int)]) = _
    rw [uD]
    congr 1
    unfold qP
    rw [List.getD_eq_getElem?_getD,show ((j:Nat):Int).toNat=j by simp,ht];rfl)
   obtain ⟨q,hq⟩:∃q,q=t.xs.length:=⟨_,rfl⟩
   rw [←hq] at hc2 hlen
   have HQ:=I hq
   have h1:∀u∈t.xs.map (Value.float .f32),u.oneCell'=true:=by intro u hu;obtain ⟨x,_,rfl⟩:=List.mem_map.1 hu;rfl
   have H1:=I h1
   have HOW:=I HO.out.1;have HNK:=I HO.out.2
   have hbs:=HB.out.size
   subst hwa hal
   clear hix hg hrt hr hi ht hq h1 HO
   go_wp2_with (at_builtin;refine xO rfl _ _ 25 rfl w3.heap.size i0 (.float .f32 0) 4 Tryz.underlying25 hi0 hz0 hz1 hz2 rfl _ nk _ rfl HOW.out t.ad q t.cap (t.xs.map (Value.float .f32)) rfl HNC.out (by rw [List.length_map,HQ.out]) HRD.out H1.out ?c3 ?c4 ?c5 ?_)
   case c3=>unfold maxLen;omega
   case c4=>omega
   case c5=>exact hbs
   intro v' w9 hown1 hb1 hbs1
   have HOW2:=I hown1;have HB5:=I (HB.out.trans hb1)
   clear hown1 hb1 hwc hc2 HRD HNC
   go_wp2
   refine ⟨?rel,?measure⟩
   case rel=>exact ⟨k+1,nk+q,by go_num,hlt,by omega,I ⟨by rw [HT.out,List.map_append];exact HOW2.out,by rw [HT.out,List.length_append,HNK.out,HQ.out]⟩,HB5⟩
   case measure=>simp [intOf];omega
  ·have e:k=m:=by omega
   subst e
   have e2:ws.take k=ws:=by rw [HM.out];exact List.take_length
   rw [e2] at HO
   obtain ⟨ad4,c4,rfl,hr⟩:=RepF.of_owns HO.out.1 (wM (fun t ht=>HG.out.1.ok t ht) ws)
   have HX:=I (show RepF wr w3.heap.size wr.heap.size ad4 nk c4 (fK gs ws)∧(fK gs ws).map (cn .f32)=iU (cW C) ws from ⟨hr,wL HG.out.2 ws⟩)
   have hni:=HNI.out
   have hwl:IntKind.i64.wrap (l:Int)=(l:Int):=qQ (by omega) (by omega)
   have S4:=I (HC.out wr (aA HB3.out HB.out))
   clear hr e2 HO HIN HXL
   go_wp2
   refine eZ [] (fun W=>W.cell? ⟨g,l * 3+2,none⟩=some (.slice (some ⟨tb,tq,none⟩) 1 tc)∧W.cell? ⟨tb,tq,none⟩=some (.float .f32 z)) (fun _ _ _=>False) (fun _ _ _ _ _=>False) (by kernel_rfl) (by kernel_rfl) S4.out (fun W q h=>by simpa using h) ?_
   iterate 12 (refine aD (by rfl) S4.out (fun K hK W hW=>?_);obtain ⟨e0,e1⟩:=hW;go_simp;refine hK _ ?_;clear hK K e0 e1)
   refine aP (fun q9=>?_)
   have HB5:=I (below_drewN (aA HB2.out (aA HB3.out HB.out)) q9)
   have hzz:w.heap.size≤w3.heap.size:=by
    have h1:=HB2.out.size;have h2:=HB3.out.size
    omega
   have HX5:=I ((HX.out.1.bounds hzz (J _)).below (below_drewN (O _ _) q9))
   go_wp2
   go_ret2
   exact ⟨_,_,_,_,_,rfl,I ⟨HX5.out,HZ.out.1,HX.out.2,HZ.out.2⟩,HB5.out⟩
def EY (fg ff:FuncId) (n:Nat) (C:List OpP) (ws:List Int) (f:FuncId) (args:Array Value) (W:World) (v:Value) (W':World):Prop :=
 (f=fg→∃a3 c3 gs,v=.slice a3 n c3∧Hid (OwnR bV W' W.heap.size W'.heap.size a3 n c3 gs∧gs.map (fun t=>t.toTenP.can)=cW C)∧Below W.heap.size W W') ∧
 (f=ff→∃ad m cap xs,v=.slice ad m cap∧Hid (RepF W' W.heap.size W'.heap.size ad m cap xs∧xs.map (cn .f32)=iU (cW C) ws)∧Below W.heap.size W W')
theorem yN (w:World) (R:Option (List OpP × List Int)) (x1 x2 x3:Value) (num:Nat) (ls:List LayP) (X Y:TenP) (q:Nat) (hR:R=bH ls X Y q)
  (K:Calls Tryz.prog 83 #[x1,x2,x3,.float .f32 num] w (yF R w)) :
  Calls Tryz.prog 56 #[x1,x2,x3,.float .f32 num] w fun e w' => ∃ad n cap z b,e=.returned (.tuple #[.slice ad n cap,.float .f32 z,.bool b]) ∧
   Hid ((b=R.isSome∧(b=true→∃xs,RepF w' w.heap.size w'.heap.size ad n cap xs∧z < 4294967296∧nC R=some (xs.map (cn .f32),cn .f32 z)))∧(b=false→n=0))∧Below w.heap.size w w':=by
 have HK:=I K;have HR:=I hR
 clear K hR
 go_enter Tryz.func56,Tryz.ntmps56
 go_wp2_with fail
 refine HK.out.mono ?_
 rintro e w1 ⟨ad,n,cap,wa,m,wk,b,rfl,HO,hb⟩
 have HB1:=I hb
 clear hb HK
 cases b
 ·have HRN:=I HO.out.1
  clear HO
  go_wp2
  go_ret3
  exact ⟨_,_,_,_,false,rfl,I ⟨⟨HRN.out,fun h=>(by cases h)⟩,fun _=>rfl⟩,HB1.out.alloc HB1.out.size _⟩
 obtain ⟨C,ws,hRC,hm,hwf,hT⟩:=HO.out.2 rfl
 obtain ⟨us,S,hF⟩:=TapeF.of hT (HR.out.symm.trans hRC) hwf
 have HF:=I hF
 have HRC:=I hRC
 clear hT hwf HO HR hRC
 subst hm
 have hn1:=hF.n1;have hn2:=hF.n2
 have K2:=I (Al w1 ad cap us hF.see hF.nil S hF.sh hF.lens)
 rw [hF.len,hF.v] at K2
 clear hF
 go_wp2_with fail
 refine K2.out.mono ?_
 rintro e w2 ⟨a2,c2,vs,rfl,HV,hb2⟩
 have HB2:=I hb2
 obtain ⟨g,tb,tq,tc,z,rfl,hcells,hz⟩:=wN (HF.out.below HB2.out) HV.out.1 HV.out.2
 have HC:=I hcells;have HZ:=I hz
 clear hb2 K2 hcells hz
 have K3:=I (fun W (hb:Below w2.heap.size w2 W)=>pW W ad (some ⟨g,0,none⟩) cap c2 us vs ((HF.out.see.below HB2.out).below hb) (HV.out.1.below hb).see S HF.out.sh (by rw [HV.out.2,HF.out.v]))
 rw [HF.out.len,HF.out.g] at K3
 have K4:=I (fun W (hb:Below w2.heap.size w2 W) a3 c3 gs lo hi (h1:OwnR bV W lo hi a3 n c3 gs) (h2:gs.map (fun t=>t.toTenP.can)=cW C)=>yL W a3 wa c3 wk gs ws h1 ((HF.out.ints.below HB2.out).below hb) HF.out.ix hn2 (fun t ht=>by
  have h3:=uH (os:=us.map OpD.toOpP) HF.out.sh
  rw [HF.out.g] at h3
  have h4:=h3.2 t.toTenP.can (by rw [←h2];exact List.mem_map_of_mem ht)
  simpa [TenP.can] using h4) HF.out.m)
 go_wp2_with fail
 have hni:(n:Int) - 1=((n - 1:Nat):Int):=by omega
 obtain ⟨l,hl⟩:∃l,l=n - 1:=⟨_,rfl⟩
 rw [←hl] at hni
 replace HC:=I (show ∀V,Below w2.heap.size w2 V→V.cell? ⟨g,l * 3+2,none⟩=some (.slice (some ⟨tb,tq,none⟩) 1 tc)∧V.cell? ⟨tb,tq,none⟩=some (.float .f32 z) by rw [hl];exact HC.out)
 have hln:l < n:=by omega
 have hwl:IntKind.i64.wrap (l:Int)=(l:Int):=qQ (by omega) (by omega)
 clear hl hn1 hn2
 have S0:=I (HC.out w2 (O _ _))
 refine eZ [2,4] (fun W=>W.cell? ⟨g,l * 3+2,none⟩=some (.slice (some ⟨tb,tq,none⟩) 1 tc)∧W.cell? ⟨tb,tq,none⟩=some (.float .f32 z)) (fun _ _ _=>False) (EY 86 85 n C ws) (by kernel_rfl) (by kernel_rfl) S0.out (fun W q h=>by simpa using h) ?_
 iterate 2 (refine aD (by rfl) S0.out (fun K hK W hW=>?_);obtain ⟨e0,e1⟩:=hW;go_simp;refine hK _ ?_;clear hK K e0 e1)
 refine aF (by rfl) S0.out (fun K hK q0=>?_)
 go_simp
 have D0:=I (below_drewN (O w2.heap.size w2) q0)
 refine ⟨(K3.out _ D0.out).mono (fun e w5 h=>by
  obtain ⟨a3,c3,gs,he,hh,hb⟩:=h
  exact ⟨_,he,fun _=>⟨a3,c3,gs,rfl,hh,hb⟩,fun h=>absurd h (by decide)⟩),?_⟩
 rintro v w3 hd
 obtain ⟨a3,c3,gs,rfl,HG,hb3⟩:=hd.1 rfl
 have HB3:=I (aA D0.out hb3)
 have S3:=I (HC.out w3 HB3.out)
 refine ⟨S3.out,hK _ _ ?_⟩
 clear hK K hd hb3 D0 K3 S0
 refine aD (by rfl) S3.out (fun K hK W hW=>?_);obtain ⟨e0,e1⟩:=hW;go_simp;refine hK _ ?_;clear hK K e0 e1
 refine aF (by rfl) S3.out (fun K hK q0=>?_)
 go_simp
 have D0:=I (aA HB3.out (below_drewN (O w3.heap.size w3) q0))
 refine ⟨(K4.out _ D0.out a3 c3 gs _ _ (HG.out.1.below (below_drewN (O w3.heap.size w3) q0)) HG.out.2).mono (fun e w5 h=>by
  obtain ⟨a4,c4,he,hh,hb⟩:=h
  exact ⟨_,he,fun h=>absurd h (by decide),fun _=>⟨a4,_,c4,fK gs ws,rfl,I ⟨hh.out,wL HG.out.2 ws⟩,hb⟩⟩),?_⟩
 rintro v w4 hd
 obtain ⟨a4,n4,c4,xs,rfl,HX,hb4⟩:=hd.2 rfl
 have hz3:=D0.out.size
 have HB4:=I (aA D0.out hb4)
 have S4:=I (HC.out w4 HB4.out)
 refine ⟨S4.out,hK _ _ ?_⟩
 clear hK K hd hb4 D0 K4 S3 HG
 iterate 3 (refine aD (by rfl) S4.out (fun K hK W hW=>?_);obtain ⟨e0,e1⟩:=hW;go_simp;refine hK _ ?_;clear hK K e0 e1)
 refine aD (by rfl) S4.out (fun K hK W hW=>?_);obtain ⟨e0,e1⟩:=hW;go_simp;refine hK _ ?_;clear hK K e0 e1
 iterate 8 (refine aD (by rfl) S4.out (fun K hK W hW=>?_);obtain ⟨e0,e1⟩:=hW;go_simp;refine hK _ ?_;clear hK K e0 e1)
 refine aP (fun q9=>?_)
 have HB5:=I (below_drewN (aA HB1.out (aA HB2.out HB4.out)) q9)
 have hzz:w.heap.size≤(w3.drewN 0).heap.size:=by
  have h1:=HB1.out.size;have h2:=HB2.out.size;have h3:=HB3.out.size
  simp;omega
 have HX5:=I ((HX.out.1.bounds (Nat.le_trans hzz (by simp)) (J _)).below (below_drewN (O _ _) q9))
 go_wp2
 go_ret3
 exact ⟨_,_,_,_,true,rfl,I ⟨⟨by rw [HRC.out];rfl,fun _=>⟨xs,HX5.out,HZ.out.1,by rw [HRC.out,HX.out.2,HZ.out.2];rfl⟩⟩,fun h=>(by cases h)⟩,HB5.out⟩


theorem Ce {G:List TenP} (hx:∀t∈G,t.xs.length≤256) (ws:List Int):(iU G ws).length≤256 * ws.length:=by
 have hd:∀i,(aH G i).xs.length≤256:=by
  intro i
  unfold aH
  rw [List.getD_eq_getElem?_getD]
  cases e:G[i.toNat]? with
  | none=>exact Nat.zero_le _
  | some t=>exact hx t (List.mem_of_getElem? e)
 induction ws with
 | nil=>exact Nat.zero_le _
 | cons i ws ih =>
  have e:iU G (i :: ws)=(aH G i).xs ++ iU G ws:=rfl
  rw [e,List.length_append,List.length_cons]
  have:=hd i
  omega
theorem wP (ls:List LayP) (X Y:TenP) (num:Nat):((nC (bH ls X Y num)).getD ([],0)).1.length≤3072:=by
 cases e:bH ls X Y num with
 | none=>exact Nat.zero_le _
 | some p =>
  obtain ⟨C,ws⟩:=p
  obtain ⟨S,hS,-,-⟩:=qO e
  have h1:=(oT e).2.2
  have h2:=Ce (uH hS).2 ws
  show (iU (cW C) ws).length≤3072
  omega
end
section
open Go Go.RowKit Ieee
theorem kV (x:Nat) (w:World):Calls Tryz.prog 72 #[.float .f32 x] w fun e w'=>e=.returned (.bool !(eT x))∧Dr w w':=by
 go_enter Tryz.func72,Tryz.ntmps72
 go_wp2_with (go_at_call 73;refine (uZ _ _).mono ?_;rintro e w' ⟨rfl,⟨q,rfl⟩⟩)
 go_ret
 exact ⟨rfl,_,rfl⟩
def Dd (p:Nat→Bool) (xs:List Nat) (w:World) (e:Ending) (w':World):Prop:=∃i:Int,e=.returned (.int .i64 i)∧decide (0≤i)=xs.any p∧Dr w w'
theorem DI (w:World) (ad:Option Addr) (cap:Nat) (xs:List Nat) (h:F32s w ad cap xs) (hn:xs.length≤1048576) :
  Calls Tryz.prog 98 #[.slice ad xs.length cap,.func (.func 72) #[] #[]] w (Dd (fun n => !(eT n)) xs w):=by
 obtain ⟨n,hN⟩:∃n,n=xs.length:=⟨_,rfl⟩
 rw [←hN] at hn ⊢
 have HN:=I hN;clear hN
 go_enter Tryz.func98,Tryz.ntmps98
 go_wp2
 go_loopw [8] (fun i wr => ∃k:Nat,i=.int .i64 k∧k≤n∧(xs.take k).any (fun n => !(eT n))=false∧Dr w wr) (fun i _=>n - (intOf i).toNat)
 case atStart=>exact ⟨0,rfl,Nat.zero_le _,rfl,Dr.refl _⟩
 case round =>
  obtain ⟨k,rfl,hk,hno,hdr⟩:=hrel
  have h:=h.below hdr.below
  have HO:=I hno;have HD:=I hdr;clear hno hdr
  by_cases hlt:k < n
  ·have hkx:k < xs.length:=by rw [←HN.out];exact hlt
   obtain ⟨b,off,rfl,_,hc⟩:=h.spot (k:=k) hkx
   have hc1:=hc k hkx
   obtain ⟨x,hx⟩:∃x,x=xs.getD k 0:=⟨_,rfl⟩
   rw [←hx] at hc1
   have HX:=I hx;clear hx hc h
   cases hb:eT x
   ·go_wp2_with (go_at_call 72;refine (kV _ _).mono ?_;rintro e w' ⟨rfl,⟨q,rfl⟩⟩)
    go_ret
    refine ⟨k,rfl,?_,HD.out.drewN _⟩
    have:(xs.any fun n => !(eT n))=true:=by
     rw [List.any_eq_true]
     exact ⟨xs.getD k 0,by rw [List.getD_eq_getElem?_getD,List.getElem?_eq_getElem hkx];exact List.getElem_mem hkx,by rw [←HX.out,hb];rfl⟩
    rw [this];simp
   ·go_wp2_with (go_at_call 72;refine (kV _ _).mono ?_;rintro e w' ⟨rfl,⟨q,rfl⟩⟩)
    go_roundw
    case rel =>
     refine ⟨k+1,by go_num,hlt,?_,HD.out.drewN _⟩
     rw [List.take_succ_eq_append_getElem hkx,List.any_append,HO.out]
     have:xs[k]=x:=by rw [HX.out,List.getD_eq_getElem?_getD,List.getElem?_eq_getElem hkx];rfl
     simp [this,hb]
    case measure=>simp [intOf];omega
  ·have hkn:k=n:=by omega
   subst hkn
   go_wp2
   go_ret
   refine ⟨-1,rfl,?_,HD.out⟩
   have:=HO.out
   rw [HN.out,List.take_length] at this
   rw [this];rfl
theorem yO (w:World) (ad:Option Addr) (cap:Nat) (xs:List Nat) (h:F32s w ad cap xs) (hn:xs.length≤1048576) :
  Calls Tryz.prog 71 #[.slice ad xs.length cap,.func (.func 72) #[] #[]] w fun e w'=>e=.returned (.bool (xs.any (fun n => !(eT n))))∧Dr w w':=by
 have hc:=DI w ad cap xs h hn
 have HC:=I hc;clear hc
 go_enter Tryz.func71,Tryz.ntmps71
 go_wp2_with fail
 refine HC.out.mono ?_
 rintro e w' ⟨i,rfl,hi,q,rfl⟩
 have HI:=I hi;clear hi
 go_wp2
 go_ret
 exact ⟨by rw [←HI.out];rfl,_,rfl⟩
theorem uI (w:World) (ad:Option Addr) (cap:Nat) (xs:List Nat) (h:F32s w ad cap xs) (hn:xs.length≤1048576) :
  Calls Tryz.prog 38 #[.slice ad xs.length cap] w fun e w'=>e=.returned (.bool (xs.all eT))∧Dr w w':=by
 have hc:=yO w ad cap xs h hn
 have HC:=I hc;clear hc
 go_enter Tryz.func38,Tryz.ntmps38
 go_wp2_with fail
 refine HC.out.mono ?_
 rintro e w' ⟨rfl,q,rfl⟩
 go_wp2
 go_ret
 exact ⟨by simp [List.all_eq_not_any_not],_,rfl⟩
end
section
open Go Go.RowKit
theorem iI {ls:List LayD} (h:dG (ls.map LayD.toLayP)=true):ls.length≤6∧∀l∈ls,l.ws.length≤64∧l.bs.length≤8:=by
 refine ⟨by have:=(jM h).2;simpa using this,fun l hl=>?_⟩
 obtain ⟨k,hk,rfl⟩:=List.mem_iff_getElem.1 hl
 exact xY (kQ h (k:=k) (l:=(ls[k]).toLayP) (by rw [List.getElem?_map,List.getElem?_eq_getElem hk];rfl))
theorem rZ (ls:List LayD):dG ((ls.map fun l=>l.toLayP.can).map (cZ mH))=dG (ls.map LayD.toLayP):=by
 rw [Ab,show (ls.map fun l=>l.toLayP.can)=(ls.map LayD.toLayP).map LayP.can by rw [List.map_map];rfl,mS]
theorem wQ {ls:List LayD} {X Y:TenP} {m s:Nat} (h:dG (ls.map LayD.toLayP)=false):eI (ls.map fun l=>l.toLayP.can) X Y m s=none:=by
 unfold eI
 split
 ·refine cS ?_
  unfold fR
  rw [rZ,h];rfl
 ·rfl
theorem AP {L:List LayP} {X Y:TenP} {m s:Nat} (h:bR s=false):eI L X Y m s=none:=by unfold eI;rw [h];rfl
theorem kW {L:List LayP} {X Y:TenP} {m s:Nat} (h:bR s=true):eI L X Y m s=bH (L.map (cZ mH)) X Y (dQ .mul .f32 (cJ m) (cn .f32 s)):=by unfold eI;rw [h];rfl
theorem nH (w:World) (ma:Option Addr) (mk:Nat) (ls:List LayD) (xr xc yr yc:Int) (xa ya:Option Addr) (xk yk:Nat) (xs ys:List Nat) (s:Nat) (hls:SeeR aX w ma mk ls) (hnil:nilL ls) (hx:F32s w xa xk xs) (hy:F32s w ya yk ys) (hs:s < 4294967296) :
  Calls Tryz.prog 11 #[.agg #[.slice ma ls.length mk],.agg #[.int .i64 xr,.int .i64 xc,.slice xa xs.length xk],.agg #[.int .i64 yr,.int .i64 yc,.slice ya ys.length yk],.float .f32 s] w (SPost (eI (ls.map fun l=>l.toLayP.can) ⟨xr,xc,xs.map (cn .f32)⟩ ⟨yr,yc,ys.map (cn .f32)⟩ ys.length s) (cn .f32 s) w):=by
 have b3:=dE w (.cells #[.slice ma ls.length mk] 35) (.cells #[.int .i64 xr,.int .i64 xc,.slice xa xs.length xk] 37) (.cells #[.int .i64 yr,.int .i64 yc,.slice ya ys.length yk] 37)
 have BM:=I ((BoxN.alloc w #[.slice ma ls.length mk] 35).below (bZ _ (.cells #[.int .i64 xr,.int .i64 xc,.slice xa xs.length xk] 37) (.cells #[.int .i64 yr,.int .i64 yc,.slice ya ys.length yk] 37)))
 have BX:=I ((BoxN.alloc2 w (.cells #[.slice ma ls.length mk] 35) #[.int .i64 xr,.int .i64 xc,.slice xa xs.length xk] 37).below (aE _ (.cells #[.int .i64 yr,.int .i64 yc,.slice ya ys.length yk] 37)))
 have BY:=I (BoxN.alloc3 w (.cells #[.slice ma ls.length mk] 35) (.cells #[.int .i64 xr,.int .i64 xc,.slice xa xs.length xk] 37) #[.int .i64 yr,.int .i64 yc,.slice ya ys.length yk] 37)
 have B3:=I b3
 have HLS:=I (hls.below b3);have HX:=I (hx.below b3);have HY:=I (hy.below b3)
 have K1:=I (fV _ ma mk ls (hls.below b3))
 obtain ⟨w3,hw3⟩:∃W,W=((w.alloc (.cells #[.slice ma ls.length mk] 35)).alloc (.cells #[.int .i64 xr,.int .i64 xc,.slice xa xs.length xk] 37)).alloc (.cells #[.int .i64 yr,.int .i64 yc,.slice ya ys.length yk] 37):=⟨_,rfl⟩
 rw [←hw3] at BM BX BY B3 HLS HX HY K1
 have HW3:=I hw3
 obtain ⟨R,hR⟩:∃R,R=eI (ls.map fun l=>l.toLayP.can) ⟨xr,xc,xs.map (cn .f32)⟩ ⟨yr,yc,ys.map (cn .f32)⟩ ys.length s:=⟨_,rfl⟩
 rw [←hR]
 have HR:=I hR
 have HNIL:=I hnil
 clear hls hx hy b3 hw3 hR hnil
 cases eM:dG (ls.map LayD.toLayP)
 ·rw [eM] at K1
  have HRN:Hid (R=none):=I (by rw [HR.out];exact wQ eM)
  clear eM HR
  go_enter Tryz.func11,Tryz.ntmps11
  go_upto_region 1 with fail
  rw [←HW3.out]
  obtain ⟨-,p0,-⟩:=BM.out.one1
  go_wp2_with fail
  refine K1.out.mono ?_
  rintro e w4 ⟨rfl,hb⟩
  have HB:=I (aA B3.out hb)
  clear hb p0
  go_wp2
  try simp only [Exit.inBlock,Exit.then]
  refine bodyPost_ret (v:=.tuple #[.slice none 0 0,.float .f32 0,.bool false,.bool false]) (by simp [results,Tryz.results11,go_sem]) rfl ?_
  exact SPost.none HRN.out rfl HB.out
 rw [eM] at K1
 have hlens:=iI eM
 have HLN:=I hlens
 have KI:=I (fun W=>pU s W)
 cases eS:bR s
 ·rw [eS] at KI
  have HRN:Hid (R=none):=I (by rw [HR.out];exact AP eS)
  clear eM eS HR hlens
  go_enter Tryz.func11,Tryz.ntmps11
  go_upto_region 1 with fail
  rw [←HW3.out]
  obtain ⟨-,p0,-⟩:=BM.out.one1
  go_wp2_with fail
  refine K1.out.mono ?_
  rintro e w4 ⟨rfl,hb⟩
  have HB:=I (aA B3.out hb)
  clear hb p0
  go_wp2_with fail
  refine (KI.out _).mono ?_
  rintro e w5 ⟨rfl,rfl⟩
  go_wp2
  try simp only [Exit.inBlock,Exit.then]
  refine bodyPost_ret (v:=.tuple #[.slice none 0 0,.float .f32 0,.bool false,.bool false]) (by simp [results,Tryz.results11,go_sem]) rfl ?_
  exact SPost.none HRN.out rfl HB.out
 rw [eS] at KI
 rw [kW eS] at HR
 clear eM eS
 have KR:=I (fun W (hb:Below w3.heap.size w3 W)=>yH W ma mk ls (HLS.out.below hb) HNIL.out hlens.1 hlens.2)
 have KT:=I (fun W (hb:Below w3.heap.size w3 W) ad m cap (us:List LayD) {lo hi} (h:OwnR aX W lo hi ad m cap us)=>uF W ad cap us xr xc yr yc xa ya xk yk xs ys h.see (HX.out.below hb) (HY.out.below hb))
 clear hlens
 go_enter Tryz.func11,Tryz.ntmps11
 go_upto_region 1 with fail
 rw [←HW3.out]
 obtain ⟨-,p0,-⟩:=BM.out.one1
 go_wp2_with fail
 refine K1.out.mono ?_
 rintro e w4 ⟨rfl,hb⟩
 have HB4:=I hb
 clear hb p0
 go_wp2_with fail
 refine (KI.out _).mono ?_
 rintro e w5 ⟨rfl,rfl⟩
 clear KI K1
 obtain ⟨-,p0,-⟩:=(BM.out.below HB4.out).one1
 obtain ⟨-,x0,x1,x2,-⟩:=(BX.out.below HB4.out).three
 obtain ⟨-,y0,y1,y2,-⟩:=(BY.out.below HB4.out).three
 go_wp2
 go_region_held3 (fun w'=>w'.cell? ⟨w.heap.size,0,none⟩=some (.slice ma ls.length mk)∧w'.cell? ⟨w.heap.size+1,0,none⟩=some (.int .i64 xr)∧w'.cell? ⟨w.heap.size+1,1,none⟩=some (.int .i64 xc)∧w'.cell? ⟨w.heap.size+1,2,none⟩=some (.slice xa xs.length xk)∧w'.cell? ⟨w.heap.size+1+1,0,none⟩=some (.int .i64 yr)∧w'.cell? ⟨w.heap.size+1+1,1,none⟩=some (.int .i64 yc)∧w'.cell? ⟨w.heap.size+1+1,2,none⟩=some (.slice ya ys.length yk)) (go_keep)
  (first
    | (go_at_call 36;refine (KR.out _ (aA HB4.out (Below.drew (O _ _)))).mono ?_;rintro e w6 ⟨ad,m,cap,us,rfl,HU,hb6⟩;have HB6:=I (aA HB4.out (cL hb6));clear hb6 p0 x0 x1 x2 y0 y1 y2;obtain ⟨-,p0,-⟩:=(BM.out.below HB6.out).one1;obtain ⟨-,x0,x1,x2,-⟩:=(BX.out.below HB6.out).three;obtain ⟨-,y0,y1,y2,-⟩:=(BY.out.below HB6.out).three)
    | (go_at_call 35;have hKT:=KT.out w6 HB6.out ad m cap us HU.out.2;rw [HU.out.2.len] at hKT;have HKT:=I hKT;clear hKT;refine HKT.out.mono ?_;rintro e w7 ⟨ta,n,tk,wa,q,wk,b,rfl,HO,hb7⟩;have HB7:=I (aA HB6.out hb7);clear hb7 HKT p0 x0 x1 x2 y0 y1 y2;obtain ⟨-,p0,-⟩:=(BM.out.below HB7.out).one1;obtain ⟨-,x0,x1,x2,-⟩:=(BX.out.below HB7.out).three;obtain ⟨-,y0,y1,y2,-⟩:=(BY.out.below HB7.out).three))
 clear p0 x0 x1 x2 y0 y1 y2 KR KT BM BX BY
 cases b
 ·have HRN:Hid (R=none):=I (by
   have h:=HO.out.1
   rw [HU.out.1] at h
   rw [HR.out]
   refine AN (num:=cJ ys.length) ?_ _
   revert h
   cases bH ((ls.map fun l=>l.toLayP.can).map (cZ mH)) ⟨xr,xc,xs.map (cn .f32)⟩ ⟨yr,yc,ys.map (cn .f32)⟩ (cJ ys.length) with
   | none=>intro _;rfl
   | some p=>intro h;cases h)
  have HB:=I (aA B3.out HB7.out)
  clear HO HR HU HLS HX HY HNIL HLN
  go_wp2
  try simp only [Exit.inBlock,Exit.then]
  refine bodyPost_ret (v:=.tuple #[.slice none 0 0,.float .f32 0,.bool false,.bool false]) (by simp [results,Tryz.results11,go_sem]) rfl ?_
  exact SPost.none HRN.out rfl HB.out
 obtain ⟨C,ws,h1,h2,h3,h4⟩:=HO.out.2.1 rfl
 rw [HU.out.1] at h1
 obtain ⟨P,a,rfl,hq⟩:=AM h1
 have h5:=h4.base (aA B3.out HB6.out)
 have HRQ:=I (HR.out.trans (hq _))
 have HMQ:=I (hq (dQ .mul .f32 (cJ ys.length) (cn .f32 s)))
 have HWF:=I h3
 have HLW:=I h2
 have hpl:=oT (hq 0)
 have hcn:n=P.length+1:=by obtain ⟨us',e1,e2,-⟩:=h5;rw [←e1,←List.length_map (f:=fun o:OpD=>o.toOpP.can),e2];simp
 obtain ⟨g,q0,rfl,hg,hn1,hc,hf,hqn,hset⟩:=h5.setNum
 have hn48:n≤48:=by have:=hpl.1;simp at this;omega
 have hm12:q≤12:=by rw [←h2];exact hpl.2.2
 have hni:(n:Int) - 1=((n - 1:Nat):Int):=by omega
 obtain ⟨l,hl⟩:∃l,l=n - 1:=⟨_,rfl⟩
 rw [←hl] at hni hc hf hset
 have hln:l < n:=by omega
 have hwl:IntKind.i64.wrap (l:Int)=(l:Int):=qQ (by omega) (by omega)
 have HSET:=I hset;have HQN:=I hqn
 have HB8:=I (aA B3.out HB7.out)
 have hgl:=hg.2
 clear h1 h2 h3 h4 h5 hq hpl hcn hl hset hqn hg HO HU HLS HX HY HNIL HLN HR HB6 HB7 HB4
 go_upto_region 8 with fail
 obtain ⟨y,hy⟩:∃y,y=dH BinOp.mul FloatKind.f32 q0 s w7:=⟨_,rfl⟩
 rw [←hy]
 have hyl:y < 4294967296:=by rw [hy];exact bL _ .f32 _ _ _
 have hyc:cn .f32 y=dQ .mul .f32 (cJ ys.length) (cn .f32 s):=by rw [hy,bE,HQN.out]
 have hT:=(HSET.out y hyl).move (below_drewN (O _ _) (sZ BinOp.mul FloatKind.f32 q0 s))
 have HT:Hid (TN w ((w7.drewN (sZ BinOp.mul FloatKind.f32 q0 s)).setCell ⟨g,l * 7+3,none⟩ (.float .f32 y)) (some ⟨g,0,none⟩) n tk (P ++ [eU 5 a 0 (cn .f32 y)]) [bQ wa wk ws]):=I hT
 rw [hyc] at HT
 clear hy hyl hyc hT HSET HQN hc hf hni hwl hln hn1
 generalize (w7.drewN (sZ BinOp.mul FloatKind.f32 q0 s)).setCell ⟨g,l * 7+3,none⟩ (.float .f32 y)=W9 at HT ⊢
 obtain ⟨us2,S,hF⟩:=TapeF.of HT.out HMQ.out HWF.out
 have KL:=I (yM W9 _ n tk wa wk ws _ us2 S hF)
 rw [HLW.out] at KL
 have HB9:=I HT.out.below
 have HRL:=I (show nC R=some (iU (cW (P ++ [eU 5 a 0 (dQ .mul .f32 (cJ ys.length) (cn .f32 s))])) ws,wK (P ++ [eU 5 a 0 (dQ .mul .f32 (cJ ys.length) (cn .f32 s))])) by rw [HRQ.out];rfl)
 have HRI:=I (show R.isSome=true by rw [HRQ.out];rfl)
 have HML:=I (show (iU (cW (P ++ [eU 5 a 0 (dQ .mul .f32 (cJ ys.length) (cn .f32 s))])) ws).length≤3072 by
  have h:=wP ((ls.map fun l=>l.toLayP.can).map (cZ mH)) ⟨xr,xc,xs.map (cn .f32)⟩ ⟨yr,yc,ys.map (cn .f32)⟩ (dQ .mul .f32 (cJ ys.length) (cn .f32 s))
  rw [HMQ.out] at h
  exact h)
 clear hF HT HMQ HWF HRQ HB8
 generalize P ++ [eU 5 a 0 (dQ .mul .f32 (cJ ys.length) (cn .f32 s))]=C at KL HRL HML
 go_wp2_with fail
 refine KL.out.mono ?_
 rintro e w10 ⟨la,m2,c2,z,zs,rfl,HX,hb10⟩
 have hlen:=HX.out.1.len
 have hm2:m2≤3072:=by
  have h:=congrArg List.length HX.out.2.2.1
  rw [List.length_map,hlen] at h
  rw [h];exact HML.out
 have KF:=I (uI w10 la c2 zs HX.out.1.arg (by rw [hlen];omega))
 rw [hlen] at KF
 have HZL:=I hlen
 have HB10:=I (HB9.out.trans (hb10.mono HB9.out.size))
 have HXR:=I HX.out.1;have HXZ:=I HX.out.2
 have hsz:w.heap.size≤W9.heap.size:=HB9.out.size
 clear KL hb10 HX hlen HML HB9 HLW
 go_wp2_with fail
 refine KF.out.mono ?_
 rintro e w11 ⟨rfl,hd⟩
 have HB11:=I (aA HB10.out hd.below)
 have HX11:=I (HXR.out.below hd.below)
 have HS11:=I (And.intro HB11.out hd.below.size)
 clear hd KF HB10 HXR
 go_wp2
 go_loopw [19,63] (fun i q wt => ∃k:Nat,q=.int .i64 k∧k≤m2∧Hid (∃us,RepF wt W9.heap.size w10.heap.size la m2 c2 us∧InPl (fun g=>dQ .quo .f32 g (cn .f32 s)) zs k us)∧Hid (Below w.heap.size w wt∧w10.heap.size≤wt.heap.size)) (fun i q wt=>m2 - (intOf q).toNat)
 case atStart=>exact ⟨0,rfl,Nat.zero_le _,I ⟨_,HX11.out,InPl.zero _ _⟩,HS11⟩
 case round =>
  obtain ⟨k,rfl,hk,HY,HB⟩:=hrel
  by_cases hlt:k < m2
  ·obtain ⟨us,hr,hip⟩:=HY.out
   obtain ⟨x,hx⟩:=getElem?_lt (show k < zs.length by rw [HZL.out];exact hlt)
   have HXX:=I hx
   obtain ⟨g',rfl,hge,hcc,hf,-⟩:=hr.open (by omega)
   have hck:=hcc k hlt
   rw [hip.at' hx] at hck
   have hfk:=hf k
   have hgl:g' < wr.heap.size:=(hr.row.own.lt g' rfl).2
   have HRR:=I hr;have HIP:=I hip
   clear hx hcc hr hip hf HY
   go_wp2
   refine ⟨?rel,?measure⟩
   case rel =>
    have hb1:=below_drewN (O wr.heap.size wr) (sZ BinOp.quo FloatKind.f32 x s)
    exact ⟨k+1,by go_num,hlt,I ⟨_,(HRR.out.below hb1).setAt k _ (bL _ .f32 _ _ _) (by omega),HIP.out.set HXX.out (by rw [bE])⟩,I ⟨(aA HB.out.1 hb1).setCell (p:=⟨g',k,none⟩) (Nat.le_trans hsz hge) _,by simpa [World.setCell] using HB.out.2⟩⟩
   case measure=>simp [intOf];omega
  ·have e:k=m2:=by omega
   subst e
   obtain ⟨us,hr,hip⟩:=HY.out
   have HE:=I (hip.all HZL.out.symm)
   have HRR:=I hr
   clear hr hip HY
   go_wp2
   try simp only [Exit.inBlock,Exit.then]
   refine bodyPost_ret (v:=.tuple #[.slice la k c2,.float .f32 (dH BinOp.quo FloatKind.f32 z s wr),.bool (zs.all eT),.bool true]) (by simp [results,Tryz.results11,go_sem]) rfl ?_
   have hb1:=below_drewN (O wr.heap.size wr) (sZ BinOp.quo FloatKind.f32 z s)
   refine ⟨_,_,_,_,_,_,us,rfl,I ⟨⟨⟨HRI.out.symm,?_⟩,?_,bL _ .f32 _ _ _⟩,?_⟩,aA HB.out.1 hb1⟩
   ·rw [lV HRL.out,←HXZ.out.2.1,rV]
   ·rw [lV HRL.out,HE.out,HXZ.out.2.1,bE,HXZ.out.2.2]
   ·exact (HRR.out.below hb1).bounds hsz (by simpa using HB.out.2)
theorem kH (w:World) (ma:Option Addr) (mk:Nat) (ls:List LayD) (hls:SeeR aX w ma mk ls) (hnil:nilL ls) (hM:dG (ls.map LayD.toLayP)=true) :
  Calls Tryz.prog 49 #[.agg #[.slice ma ls.length mk]] w fun e w' => ∃g n cap,e=.returned (.tuple #[.slice (some ⟨g,0,none⟩) n cap,.bool true])∧Hid (RepF w' w.heap.size w'.heap.size (some ⟨g,0,none⟩) n cap (aM (ls.map LayD.toLayP)))∧Below w.heap.size w w':=by
 obtain ⟨hl6,hlens⟩:=iI hM
 have hb1:=aE w (.cells #[.slice ma ls.length mk] 35)
 have BM:=I (BoxN.alloc w #[.slice ma ls.length mk] 35)
 obtain ⟨W1,hW1⟩:∃W,W=w.alloc (.cells #[.slice ma ls.length mk] 35):=⟨_,rfl⟩
 rw [←hW1] at hb1 BM
 have HB1:=I hb1;have HW1:=I hW1
 have K1:=I (gT W1 w.heap.size 0 ma mk ls (hls.below hb1) BM.out.one1.2.1)
 rw [hM] at K1
 have K2:=I (fun W (hb:Below W1.heap.size W1 W)=>mU W w.heap.size 0 ma mk ls (BM.out.below hb).one1.1 (BM.out.below hb).one1.2.1 ((hls.below hb1).below hb) hnil hl6 hlens)
 clear hls hnil hM hl6 hlens hb1 hW1
 go_enter Tryz.func49,Tryz.ntmps49
 go_upto_region 1 with fail
 rw [←HW1.out]
 go_wp2_with fail
 refine K1.out.mono ?_
 rintro e w2 ⟨rfl,hd⟩
 have HB2:=I hd.below
 clear hd K1
 go_wp2_with fail
 refine (K2.out _ HB2.out).mono ?_
 rintro e w3 ⟨g,n,cap,rfl,HR,hb3⟩
 have HB3:=I (aA (aA HB1.out HB2.out) hb3)
 have hs2:=(aA HB1.out HB2.out).size
 clear hb3 K2
 go_wp2
 go_ret2
 exact ⟨g,n,cap,rfl,I (HR.out.bounds hs2 (J _)),HB3.out⟩
theorem iV (w:World) (ma:Option Addr) (mk:Nat) (ls:List LayD) (b off ck:Nat) (xs:List Nat) (hls:SeeR aX w ma mk ls) (hnil:nilL ls) (hM:dG (ls.map LayD.toLayP)=true) (hx:F32s w (some ⟨b,off,none⟩) ck xs) (hbw:b < w.heap.size) (hcnt:xs.length=dC (ls.map LayD.toLayP)) :
  Calls Tryz.prog 50 #[.agg #[.slice ma ls.length mk],.slice (some ⟨b,off,none⟩) xs.length ck] w fun e w' => ∃ad n cap us,e=.returned (.tuple #[.agg #[.slice ad n cap],.bool true])∧Hid (us.map (fun l=>l.toLayP.can)=(cT (ls.map LayD.toLayP) xs).map LayP.can∧OwnR aX w' w.heap.size w'.heap.size ad n cap us)∧Below w.heap.size w w':=by
 obtain ⟨hl6,hlens⟩:=iI hM
 have hb2:=bZ w (.cells #[.slice ma ls.length mk] 35) (.cells #[.slice none 0 0] 35)
 have BM:=I ((BoxN.alloc w #[.slice ma ls.length mk] 35).below (aE _ (.cells #[.slice none 0 0] 35)))
 have BR:=I (BoxN.alloc2 w (.cells #[.slice ma ls.length mk] 35) #[.slice none 0 0] 35)
 obtain ⟨W2,hW2⟩:∃W,W=(w.alloc (.cells #[.slice ma ls.length mk] 35)).alloc (.cells #[.slice none 0 0] 35):=⟨_,rfl⟩
 have hs2:W2.heap.size=w.heap.size+1+1:=by rw [hW2];simp
 rw [←hW2] at hb2 BM BR
 have HB2:=I hb2;have HW2:=I hW2
 have K1:=I (gT W2 w.heap.size 0 ma mk ls (hls.below hb2) BM.out.one1.2.1)
 rw [hM] at K1
 have K2:=I (fun W (hb:Below W2.heap.size W2 W)=>mU W w.heap.size 0 ma mk ls (BM.out.below hb).one1.1 (BM.out.below hb).one1.2.1 ((hls.below hb2).below hb) hnil hl6 hlens)
 have K3:=I (fun W (hb:Below W2.heap.size W2 W)=>yG W w.heap.size 0 ma mk ls (BM.out.below hb).one1.1 (BM.out.below hb).one1.2.1 b off ck xs ((hls.below hb2).below hb) ((hx.below hb2).below hb) (Nat.lt_of_lt_of_le hbw (aA hb2 hb).size) hl6 hlens hcnt)
 obtain ⟨m,hM2⟩:∃m,m=xs.length:=⟨_,rfl⟩
 have hcl:=pP ls hlens
 have hPL:(aM (ls.map LayD.toLayP)).length=m:=by rw [hM2,hcnt];rfl
 rw [←hM2] at K3 ⊢
 have HPL:=I hPL
 have hm:m≤432:=by rw [hM2,hcnt];omega
 clear hls hnil hM hl6 hlens hb2 hW2 hx hbw hcnt hM2 hcl hPL
 go_enter Tryz.func50,Tryz.ntmps50
 go_upto_region 1 with fail
 rw [←HW2.out]
 go_wp2_with fail
 refine K1.out.mono ?_
 rintro e w3 ⟨rfl,hd⟩
 have HB3:=I hd.below
 clear hd K1
 go_wp2_with fail
 refine (K2.out _ HB3.out).mono ?_
 rintro e w4 ⟨g,n,cap,rfl,HR,hb4⟩
 have hnm:n=m:=by rw [←HR.out.len,HPL.out]
 subst hnm
 have HB4:=I (aA HB3.out hb4)
 clear hb4 K2 HR
 go_wp2_with fail
 refine (K3.out _ HB4.out).mono ?_
 rintro e w5 ⟨ad,q,c5,us,rfl,HU,hb5⟩
 have HB5:=I (aA HB4.out hb5)
 have hs4:=HB4.out.size
 clear hb5 K3
 obtain ⟨hlr,r0,rf⟩:=(BR.out.below HB5.out).one1
 have hrf:=rf 0
 clear rf
 go_wp2
 try simp only [Exit.inBlock,Exit.then]
 refine bodyPost_ret (v:=.tuple #[.agg #[.slice ad q c5],.bool true]) (by simp [results,Tryz.results50,go_sem,r0,hlr]) rfl ?_
 have ht:Touch (w.heap.size+1) (w.heap.size+2) w5 (w5.setCell ⟨w.heap.size+1,0,none⟩ (.slice ad q c5)):=Touch.setCell (J _) (Nat.lt_succ_self _)
 exact ⟨ad,q,c5,us,rfl,I ⟨HU.out.1,((HU.out.2.touch ht (.inr (by omega))).bounds (by omega) (by simp [World.setCell]))⟩,((aA HB2.out HB5.out).setCell (p:=⟨w.heap.size+1,0,none⟩) (by show w.heap.size≤w.heap.size+1;omega) _)⟩
def vO (ops:List OpP) (ws:List Int):Nat:=(ws.map fun i=>(eP ops i.toNat).xs.length).sum
def wR (ops:List OpP) (ws:List Int):Prop:=∀i∈ws,(0≤i∧i.toNat < ops.length)∧(eP ops i.toNat).k=0
theorem wS {ops B:List OpP} {i:Nat} (h:i < ops.length):eP (ops ++ B) i=eP ops i:=by
 unfold eP
 rw [List.getD_eq_getElem?_getD,List.getD_eq_getElem?_getD,List.getElem?_append_left h]
theorem pX {ops B:List OpP} {ws:List Int} (h:wR ops ws):vO (ops ++ B) ws=vO ops ws∧wR (ops ++ B) ws:=by
 refine ⟨?_,fun i hi=>?_⟩
 ·unfold vO
  congr 1
  refine List.map_congr_left fun i hi=>?_
  rw [wS (h i hi).1.2]
 ·have h1:=h i hi
  rw [wS h1.1.2,List.length_append]
  exact ⟨⟨h1.1.1,by omega⟩,h1.2⟩
theorem qS (ops:List OpP) (ws:List Int) (i:Int):vO ops (ws ++ [i])=vO ops ws+(eP ops i.toNat).xs.length:=by unfold vO;simp
theorem oU {ops:List OpP} {ws:List Int} {i:Int} (h:wR ops ws) (h1:0≤i∧i.toNat < ops.length) (h2:(eP ops i.toNat).k=0):wR ops (ws ++ [i]):=fun j hj=>by
 rcases List.mem_append.1 hj with hj | hj
 ·exact h j hj
 ·rcases List.mem_singleton.1 hj with rfl;exact ⟨h1,h2⟩
theorem qT (ops B:List OpP) (o:OpP):eP (ops ++ o :: B) ops.length=o:=by
 unfold eP;rw [List.getD_eq_getElem?_getD];simp
theorem DJ {ls:List LayP} {X Y:TenP} (hg:dG ls=true) {k:Nat} {s:MS} (h:kZ ls X Y k=some s):vO s.ops s.ws=dC (ls.take k)∧wR s.ops s.ws:=by
 induction k generalizing s with
 | zero =>
  rw [kZ] at h;cases h
  exact ⟨rfl,fun i hi=>(nomatch hi)⟩
 | succ k ih =>
  rw [kZ] at h
  obtain ⟨s0,h0,h1⟩:=Option.bind_eq_some_iff.1 h
  obtain ⟨l,hl,h2⟩:=Option.bind_eq_some_iff.1 h1
  obtain ⟨ih1,ih2⟩:=ih h0
  have ht:dC (ls.take (k+1))=dC (ls.take k)+(l.ws.length+l.bs.length):=(oM hl []).2.1
  obtain ⟨-,-,-,-,c1,c2⟩:=jL (kQ hg hl)
  unfold fQ at h2
  split at h2
  ·cases h2
   obtain ⟨e1,e2⟩:=pX (B:=[cX l.o l.i l.ws,cX 1 l.o l.bs,eU 7 s0.ops.length 0 0,eU 6 s0.p (s0.ops.length+2) 0,eU 2 (s0.ops.length+3) (s0.ops.length+1) 0]) ih2
   have eo:(cM s0 l s0.ops.length).ops=s0.ops ++ [cX l.o l.i l.ws,cX 1 l.o l.bs,eU 7 s0.ops.length 0 0,eU 6 s0.p (s0.ops.length+2) 0,eU 2 (s0.ops.length+3) (s0.ops.length+1) 0]:=by unfold cM;simp
   have a1:eP (cM s0 l s0.ops.length).ops (s0.ops.length:Int).toNat=cX l.o l.i l.ws:=by rw [eo,show ((s0.ops.length:Nat):Int).toNat=s0.ops.length by simp];exact qT _ _ _
   have a2:eP (cM s0 l s0.ops.length).ops ((s0.ops.length:Int)+1).toNat=cX 1 l.o l.bs:=by
    rw [eo,show ((s0.ops.length:Int)+1).toNat=(s0.ops ++ [cX l.o l.i l.ws]).length by (simp <;> omega)]
    have:=qT (s0.ops ++ [cX l.o l.i l.ws]) [eU 7 s0.ops.length 0 0,eU 6 s0.p (s0.ops.length+2) 0,eU 2 (s0.ops.length+3) (s0.ops.length+1) 0] (cX 1 l.o l.bs)
    rw [List.append_assoc] at this
    exact this
   have ew:(cM s0 l s0.ops.length).ws=s0.ws ++ [(s0.ops.length:Int)] ++ [(s0.ops.length:Int)+1]:=rfl
   have hlen:(cM s0 l s0.ops.length).ops.length=s0.ops.length+5:=by rw [eo];simp
   rw [←eo] at e1 e2
   refine ⟨?_,?_⟩
   ·rw [ew,qS,qS,e1,a1,a2,ih1,ht]
    show dC (ls.take k)+l.ws.length+l.bs.length = _
    omega
   ·rw [ew]
    exact oU (oU e2 ⟨by omega,by rw [hlen];omega⟩ (by rw [a1];rfl)) ⟨by omega,by rw [hlen];omega⟩ (by rw [a2];rfl)
  ·rename_i hk0
   split at h2
   ·rename_i hk
    cases h2
    obtain ⟨e1,e2⟩:=pX (B:=[eU 8 s0.p 0 0]) ih2
    rw [hk] at c1 c2
    have d1:(l.ws.length:Int)=0:=c1
    have d2:(l.bs.length:Int)=0:=c2
    refine ⟨?_,e2⟩
    show vO (s0.ops ++ [eU 8 s0.p 0 0]) s0.ws = _
    rw [e1,ih1,ht];omega
   ·split at h2
    ·rename_i hk1 hk
     cases h2
     obtain ⟨e1,e2⟩:=pX (B:=[cX 1 l.i l.ws,eU 4 s0.p s0.ops.length 0]) ih2
     rw [hk] at c2
     have d2:(l.bs.length:Int)=0:=c2
     have eo:(cR s0 l s0.ops.length).ops=s0.ops ++ [cX 1 l.i l.ws,eU 4 s0.p s0.ops.length 0]:=by unfold cR;simp
     have a1:eP (cR s0 l s0.ops.length).ops (s0.ops.length:Int).toNat=cX 1 l.i l.ws:=by rw [eo,show ((s0.ops.length:Nat):Int).toNat=s0.ops.length by simp];exact qT _ _ _
     have ew:(cR s0 l s0.ops.length).ws=s0.ws ++ [(s0.ops.length:Int)]:=rfl
     have hlen:(cR s0 l s0.ops.length).ops.length=s0.ops.length+2:=by rw [eo];simp
     rw [←eo] at e1 e2
     refine ⟨?_,?_⟩
     ·rw [ew,qS,e1,a1,ih1,ht]
      show dC (ls.take k)+l.ws.length = _
      omega
     ·rw [ew]
      exact oU e2 ⟨by omega,by rw [hlen];omega⟩ (by rw [a1];rfl)
    ·cases h2
theorem Cf {C:List OpP} {n:Nat} (hn:n≤C.length):(bM C n).length=n:=by
 induction n with
 | zero=>rfl
 | succ n ih =>
  obtain ⟨o,ho⟩:=getElem?_lt (show n < C.length by omega)
  rw [jP ho,List.length_append,ih (by omega)];rfl
theorem DK {C:List OpP} {n i:Nat} (hi:i < n) (hn:n≤C.length):aH (bM C n) (i:Int)=dN (bM C i) (eP C i):=by
 induction n with
 | zero=>omega
 | succ n ih =>
  obtain ⟨o,ho⟩:=getElem?_lt (show n < C.length by omega)
  have hl:=Cf (show n≤C.length by omega)
  rw [jP ho]
  by_cases e:i=n
  ·subst e
   unfold aH
   rw [List.getD_eq_getElem?_getD,show ((i:Nat):Int).toNat=i by simp,List.getElem?_append_right (by omega),hl,Nat.sub_self,lM ho];rfl
  ·rw [←ih (by omega) (by omega)]
   unfold aH
   rw [List.getD_eq_getElem?_getD,List.getD_eq_getElem?_getD,show ((i:Nat):Int).toNat=i by simp,List.getElem?_append_left (by omega)]
theorem De {C:List OpP} {S:List Sh} (hS:cH C=some S) {i:Nat} (hi:i < C.length) (hk:(eP C i).k=0):(aH (cW C) (i:Int)).xs.length=(eP C i).xs.length:=by
 have hv:=jS hS
 have hg:=OkG.at hS C.length (J _)
 have h1:=(hg.2 i (by rw [hv.1];exact hi)).1
 have h2:okT (aH (bJ C) (i:Int)):=hv.2 _ (by rw [fF (by rw [hv.1];exact hi)];exact List.getElem_mem _)
 have h3:aH (bJ C) (i:Int)=dN (bM C i) (eP C i):=DK hi (J _)
 have h4:(aH (bJ C) (i:Int)).xs.length=(eP C i).xs.length:=by
  rw [h3];unfold dN;rw [if_pos hk];simp
 have h5:(aH (cW C) (i:Int)).xs.length=(aH (bJ C) (i:Int)).xs.length:=by
  have e1:=h1.1.len
  have e2:=h2.len
  have e3:(aH (cW C) (i:Int)).sh=(aH (bJ C) (i:Int)).sh:=h1.2
  have e4:=congrArg Prod.fst e3;have e5:=congrArg Prod.snd e3
  have e6:(aH (cW C) (i:Int)).r=(aH (bJ C) (i:Int)).r:=e4
  have e7:(aH (cW C) (i:Int)).c=(aH (bJ C) (i:Int)).c:=e5
  have e8:(aH (cW C) (i:Int)).xs.length=(aH (cW C) (i:Int)).r.toNat * (aH (cW C) (i:Int)).c.toNat:=e1
  rw [e8,e2,e6,e7]
 rw [h5,h4]
theorem Cg {C:List OpP} {S:List Sh} (hS:cH C=some S) {ws:List Int} (h:wR C ws):(iU (cW C) ws).length=vO C ws:=by
 unfold iU vO
 induction ws with
 | nil=>rfl
 | cons i ws ih =>
  rw [List.flatMap_cons,List.length_append,List.map_cons,List.sum_cons,ih (fun j hj=>h j (List.mem_cons_of_mem _ hj))]
  obtain ⟨⟨h0,h1⟩,h2⟩:=h i (List.mem_cons_self ..)
  obtain ⟨k,rfl⟩:∃k:Nat,i=k:=⟨i.toNat,by omega⟩
  rw [show ((k:Nat):Int).toNat=k by simp] at h1 h2 ⊢
  rw [De hS h1 h2]
theorem Ch {ls:List LayP} {X Y:TenP} {num:Nat} {G:List Nat} {z:Nat} (h:nC (bH ls X Y num)=some (G,z)):G.length=dC ls:=by
 cases e:bH ls X Y num with
 | none=>rw [e] at h;cases h
 | some p =>
  obtain ⟨C,ws⟩:=p
  rw [e] at h
  obtain ⟨S,hS,-,-⟩:=qO e
  have hG:G=iU (cW C) ws:=by
   have h0:some (iU (cW C) ws,wK C)=some (G,z):=h
   have:=Option.some.inj h0
   exact (congrArg Prod.fst this).symm
  unfold bH at e
  split at e
  ·rename_i hg
   obtain ⟨s,hs,e2⟩:=Option.map_eq_some_iff.1 e
   cases e2
   have hg1:dG ls=true:=by unfold fR at hg;simp only [Bool.and_eq_true] at hg;exact hg.1
   obtain ⟨h1,h2⟩:=DJ hg1 hs
   have hf:vF s num=s.ops ++ [eU 5 1 0 3212836864,eU 1 s.p s.ops.length 0,eU 9 (s.ops.length+1) 0 0,eU 10 (s.ops.length+2) 0 0,eU 5 (s.ops.length+3) 0 num]:=by unfold vF sF;simp
   have h3:=pX (B:=[eU 5 1 0 3212836864,eU 1 s.p s.ops.length 0,eU 9 (s.ops.length+1) 0 0,eU 10 (s.ops.length+2) 0 0,eU 5 (s.ops.length+3) 0 num]) h2
   rw [←hf] at h3
   rw [hG,Cg hS h3.2,h3.1,h1,List.take_length]
  ·cases e
end
section
open Go Go.RowKit Ieee
theorem uJ {x y:Nat} (hx:eR .f32 x=false) (hy:eR .f32 y=false):∃c,single.order x y=some c:=by
 unfold eR at hx hy
 show ∃c,(single.read x).order (single.read y)=some c
 have hx':(single.read x).isNaN=false:=hx
 have hy':(single.read y).isNaN=false:=hy
 cases h1:single.read x with
 | nan s t=>rw [h1] at hx';cases hx'
 | infinity s =>
  cases h2:single.read y with
  | nan s t=>rw [h2] at hy';cases hy'
  | infinity t=>exact ⟨_,rfl⟩
  | number t m p=>exact ⟨_,rfl⟩
 | number s m p =>
  cases h2:single.read y with
  | nan s t=>rw [h2] at hy';cases hy'
  | infinity t=>exact ⟨_,rfl⟩
  | number t m p=>exact ⟨_,rfl⟩
def sA (a:Nat):Nat:=if FloatKind.f32.format.order a 947912704 == some .lt then 947912704 else a
def DZ (t:Nat):Nat:=if FloatKind.f32.format.order t 1266679808 == some .gt then 1266679808 else t
def nS (s:Nat) (g q:Int) (fin:Bool):Nat:=if aW s g q=false then 0 else if fin=false then sA (dQ .quo .f32 s 1073741824) else if q≤g+1 then DZ (dQ .mul .f32 s 1073741824) else s
def nG (s:Nat) (g q:Int) (fin:Bool):Int:=if aW s g q=false then 0 else if fin=false then 0 else if q≤g+1 then 0 else g+1
def nQ (s:Nat) (g q:Int):Int:=if aW s g q=false then 0 else q
structure Stp (s a d t b:Nat):Prop where
 half:∀w,dH .quo .f32 s 1073741824 w=a
 half0:sZ .quo .f32 s 1073741824=0
 halfE:dQ .quo .f32 s 1073741824=a
 more:Du .f32 a 947912704=some d
 down:sA a=d
 twice:∀w,dH .mul .f32 1073741824 s w=t
 twice0:sZ .mul .f32 1073741824 s=0
 two:∀w,dH .mul .f32 s 1073741824 w=t
 two0:sZ .mul .f32 s 1073741824=0
 twoE:dQ .mul .f32 s 1073741824=t
 less:Dv .f32 t 1266679808=some b
 up:DZ t=b
theorem fG {s:Nat} {g q:Int} (h:aW s g q=true):bR s=true∧0≤g∧g≤1000∧1≤q∧q≤1000:=by
 simp only [aW,Bool.and_eq_true] at h
 have h1:=cA.1 h.1.2
 have h2:=cA.1 h.2
 exact ⟨h.1.1,h1.1,h1.2,h2.1,h2.2⟩
theorem Df {s:Nat} (hs:s < 4294967296) (h:bR s=true):∃a d t b,Stp s a d t b:=by
 have hi:single.infRung=2139095040:=by decide +kernel
 unfold bR at h
 simp only [Bool.and_eq_true,Bool.or_eq_true,beq_iff_eq] at h
 obtain ⟨h1,h2⟩:=xF (a:=947912704) (b:=1266679808) hs (by omega) (by omega) (by omega) h.1 h.2
 obtain ⟨a,ha,ha2,ha3⟩:=CB (s:=s) (by omega) (by omega)
 obtain ⟨t,ht,ht2,ht3⟩:=Bq (s:=s) (by omega) (by omega)
 have hl:eR .f32 947912704=false:=by decide +kernel
 have hm:eR .f32 1266679808=false:=by decide +kernel
 have htn:eR .f32 t=false:=iW single false ht3
 obtain ⟨c,hc⟩:=uJ ha3 hl
 obtain ⟨c2,hc2⟩:=uJ htn hm
 refine ⟨a,sA a,t,DZ t,fun w=>jF ha w,oY ha,by unfold dQ;rw [ha];rfl,?_,rfl,fun w=>jF ht w,oY ht,fun w=>jF ht2 w,oY ht2,by unfold dQ;rw [ht2];rfl,?_,rfl⟩
 ·unfold Du sA
  rw [show FloatKind.f32.format.order a 947912704=some c from hc]
  cases c
  ·rfl
  ·simp only [show (FloatKind.f32.decode a).neg=false from ha2];rfl
  ·rfl
 ·unfold Dv DZ
  rw [show FloatKind.f32.format.order t 1266679808=some c2 from hc2]
  cases c2
  ·rfl
  ·have:=zK ht3 (by omega) hc2
   subst this
   simp
  ·rfl
theorem yP (s:Nat) (g q:Int) (a d t b:Nat) (h:Stp s a d t b) (w:World) :
  Calls Tryz.prog 46 #[.agg #[.float .f32 s,.int .i64 g,.int .i64 q],.bool false] w fun e w'=>e=.returned (.agg #[.float .f32 d,.int .i64 0,.int .i64 q])∧Below w.heap.size w w':=by
 have h1:=h.half
 have h2:=h.half0
 have hz:=World.drewN_none
 have h3:=fun w A T=>Bo (P:=Tryz.prog) w A T .f32 a 947912704 d h.more
 go_enter Tryz.func46,Tryz.ntmps46
 go_wp2
 exact bodyPost_ret (v:=.agg #[.float .f32 d,.int .i64 0,.int .i64 q]) (by simp [results,Tryz.results46,go_sem]) rfl ⟨rfl,by repeat (first | exact O _ _ | refine Below.setCell ?_ (by simp) _ | refine below_drewN ?_ _ | refine Below.alloc ?_ (by simp) _)⟩
theorem uK (s:Nat) (g q:Int) (a d t b:Nat) (h:Stp s a d t b) (hg0:0≤g) (hg:g≤1000) (hq:q≤g+1) (w:World) :
  Calls Tryz.prog 46 #[.agg #[.float .f32 s,.int .i64 g,.int .i64 q],.bool true] w fun e w'=>e=.returned (.agg #[.float .f32 b,.int .i64 0,.int .i64 q])∧Below w.heap.size w w':=by
 have h1:=h.twice
 have h2:=h.twice0
 have hz:=World.drewN_none
 have h3:=fun w A T=>Bp (P:=Tryz.prog) w A T .f32 t 1266679808 b h.less
 go_enter Tryz.func46,Tryz.ntmps46
 go_wp2
 exact bodyPost_ret (v:=.agg #[.float .f32 b,.int .i64 0,.int .i64 q]) (by simp [results,Tryz.results46,go_sem]) rfl ⟨rfl,by repeat (first | exact O _ _ | refine Below.setCell ?_ (by simp) _ | refine below_drewN ?_ _ | refine Below.alloc ?_ (by simp) _)⟩
theorem uL (s:Nat) (g q:Int) (hg0:0≤g) (hg:g≤1000) (hq:g+1 < q) (hq2:q≤1000) (w:World) :
  Calls Tryz.prog 46 #[.agg #[.float .f32 s,.int .i64 g,.int .i64 q],.bool true] w fun e w'=>e=.returned (.agg #[.float .f32 s,.int .i64 (g+1),.int .i64 q])∧Below w.heap.size w w':=by
 go_enter Tryz.func46,Tryz.ntmps46
 go_wp2
 exact bodyPost_ret (v:=.agg #[.float .f32 s,.int .i64 (g+1),.int .i64 q]) (by simp [results,Tryz.results46,go_sem]) rfl ⟨rfl,by repeat (first | exact O _ _ | refine Below.setCell ?_ (by simp) _ | refine below_drewN ?_ _ | refine Below.alloc ?_ (by simp) _)⟩
theorem oV (a b:Int) (w:World):Calls Tryz.prog 99 #[.int .i64 a,.int .i64 b] w fun e w'=>e=.returned (.int .i64 (if a < b then a else b))∧w=w':=by
 by_cases h:a < b
 ·rw [if_pos h]
  go_enter Tryz.func99,Tryz.ntmps99
  go_wp2
  go_ret
  exact ⟨rfl,rfl⟩
 ·rw [if_neg h]
  go_enter Tryz.func99,Tryz.ntmps99
  go_wp2
  go_ret
  exact ⟨rfl,rfl⟩
theorem yQ (s:Nat) (g q:Int) (a d t b:Nat) (h:Stp s a d t b) (w:World) :
  Calls Tryz.prog 75 #[.agg #[.float .f32 s,.int .i64 g,.int .i64 q],.bool false] w fun e w'=>e=.returned (.agg #[.float .f32 d,.int .i64 0,.int .i64 q])∧Below w.heap.size w w':=by
 have h1:=h.half
 have h2:=h.half0
 have hz:=World.drewN_none
 have h3:=h.down
 unfold sA at h3
 cases ho:(FloatKind.f32.format.order a 947912704 == some .lt)
 ·rw [if_neg (by rw [ho];decide)] at h3
  subst h3
  go_enter Tryz.func75,Tryz.ntmps75
  go_wp2
  exact bodyPost_ret (v:=.agg #[.float .f32 a,.int .i64 0,.int .i64 q]) (by simp [results,Tryz.results75,go_sem]) rfl ⟨rfl,by repeat (first | exact O _ _ | refine Below.setCell ?_ (by simp) _ | refine below_drewN ?_ _ | refine Below.alloc ?_ (by simp) _)⟩
 ·rw [if_pos ho] at h3
  subst h3
  go_enter Tryz.func75,Tryz.ntmps75
  go_wp2
  exact bodyPost_ret (v:=.agg #[.float .f32 947912704,.int .i64 0,.int .i64 q]) (by simp [results,Tryz.results75,go_sem]) rfl ⟨rfl,by repeat (first | exact O _ _ | refine Below.setCell ?_ (by simp) _ | refine below_drewN ?_ _ | refine Below.alloc ?_ (by simp) _)⟩
theorem uM (s:Nat) (g q:Int) (a d t b:Nat) (h:Stp s a d t b) (hg0:0≤g) (hg:g≤1000) (hq:q≤g+1) (w:World) :
  Calls Tryz.prog 75 #[.agg #[.float .f32 s,.int .i64 g,.int .i64 q],.bool true] w fun e w'=>e=.returned (.agg #[.float .f32 b,.int .i64 0,.int .i64 q])∧Below w.heap.size w w':=by
 have h1:=h.two
 have h2:=h.two0
 have hz:=World.drewN_none
 have h3:=h.up
 unfold DZ at h3
 cases ho:(FloatKind.f32.format.order t 1266679808 == some .gt)
 ·rw [if_neg (by rw [ho];decide)] at h3
  subst h3
  go_enter Tryz.func75,Tryz.ntmps75
  go_wp2_with (go_at_call 99;refine (oV _ _ _).mono ?_;rintro e w' ⟨rfl,rfl⟩)
  exact bodyPost_ret (v:=.agg #[.float .f32 t,.int .i64 0,.int .i64 q]) (by simp [results,Tryz.results75,go_sem]) rfl ⟨rfl,by repeat (first | exact O _ _ | refine Below.setCell ?_ (by simp) _ | refine below_drewN ?_ _ | refine Below.alloc ?_ (by simp) _)⟩
 ·rw [if_pos ho] at h3
  subst h3
  go_enter Tryz.func75,Tryz.ntmps75
  go_wp2_with (go_at_call 99;refine (oV _ _ _).mono ?_;rintro e w' ⟨rfl,rfl⟩)
  exact bodyPost_ret (v:=.agg #[.float .f32 1266679808,.int .i64 0,.int .i64 q]) (by simp [results,Tryz.results75,go_sem]) rfl ⟨rfl,by repeat (first | exact O _ _ | refine Below.setCell ?_ (by simp) _ | refine below_drewN ?_ _ | refine Below.alloc ?_ (by simp) _)⟩
theorem uN (s:Nat) (g q:Int) (hg0:0≤g) (hg:g≤1000) (hq:g+1 < q) (hq2:q≤1000) (w:World) :
  Calls Tryz.prog 75 #[.agg #[.float .f32 s,.int .i64 g,.int .i64 q],.bool true] w fun e w'=>e=.returned (.agg #[.float .f32 s,.int .i64 (g+1),.int .i64 q])∧Below w.heap.size w w':=by
 have hc:=fun w=>oV (g+1) 1000 w
 rw [if_pos (by omega)] at hc
 have HC:=I hc;clear hc
 go_enter Tryz.func75,Tryz.ntmps75
 go_wp2_with (go_at_call 99;refine (HC.out _).mono ?_;rintro e w' ⟨rfl,rfl⟩)
 exact bodyPost_ret (v:=.agg #[.float .f32 s,.int .i64 (g+1),.int .i64 q]) (by simp [results,Tryz.results75,go_sem]) rfl ⟨rfl,by repeat (first | exact O _ _ | refine Below.setCell ?_ (by simp) _ | refine below_drewN ?_ _ | refine Below.alloc ?_ (by simp) _)⟩
theorem gX (s:Nat) (g q:Int) (w:World):Calls Tryz.prog 23 #[.agg #[.float .f32 s,.int .i64 g,.int .i64 q],.agg #[.float .f32 s,.int .i64 g,.int .i64 q]] w fun e w'=>e=.returned (.bool true)∧Below w.heap.size w w':=by
 go_enter Tryz.func23,Tryz.ntmps23
 go_wp2_with fail
 refine (nU _ _ (by rw [sN,sN]) _).mono ?_
 rintro e w1 ⟨rfl,hd⟩
 have hb1:=hd.below
 obtain ⟨hc1,hf1,hl1⟩:=DS w.heap.size hb1 (by first | assumption | (simp;done) | (simp;omega))
 obtain ⟨hc2,hf2,hl2⟩:=DS (w.heap.size+1) hb1 (by first | assumption | (simp;done) | (simp;omega))
 go_wp2
 go_ret
 exact ⟨rfl,aA (by repeat (first | exact bZ _ _ _ | refine below_drewN ?_ _)) hb1⟩
end
section
open Go Go.RowKit
def InPlT (Z:List Nat) (xs:List Nat) (k:Nat) (ys:List Nat):Prop:=∃zs,ys=zs ++ xs.drop k∧zs.length=k∧zs.map (cn .f32)=Z.take k
theorem InPlT.zero (Z:List Nat) (xs:List Nat):InPlT Z xs 0 xs:=⟨[],rfl,rfl,rfl⟩
theorem InPlT.at' {Z:List Nat} {xs ys:List Nat} {k x:Nat} (h:InPlT Z xs k ys) (hx:xs[k]? = some x):ys.getD k 0=x:=by
 obtain ⟨zs,rfl,h2,h3⟩:=h
 rw [nM hx,List.getD_eq_getElem?_getD,List.getElem?_append_right (by omega),h2,Nat.sub_self];rfl
theorem InPlT.set {Z:List Nat} {xs ys:List Nat} {k x y:Nat} (h:InPlT Z xs k ys) (hx:xs[k]? = some x) (hy:Z[k]? = some (cn .f32 y)):InPlT Z xs (k+1) (ys.set k y):=by
 obtain ⟨zs,rfl,h2,h3⟩:=h
 refine ⟨zs ++ [y],?_,by simp [h2],?_⟩
 ·rw [nM hx]
  subst h2
  rw [xM,List.append_assoc];rfl
 ·rw [List.map_append,h3,List.take_add_one,hy];rfl
theorem InPlT.all {Z:List Nat} {xs ys:List Nat} {k:Nat} (h:InPlT Z xs k ys) (hk:k=xs.length) (hZ:Z.length≤k):ys.map (cn .f32)=Z:=by
 obtain ⟨zs,rfl,h2,h3⟩:=h
 subst hk
 rw [List.drop_length,List.append_nil,h3,List.take_of_length_le hZ]
def nI (f:Bool) (P D:List Nat) (r:Nat):List Nat:=if f=true then List.zipWith (fun p d=>dQ .sub .f32 p (dQ .mul .f32 r d)) P D else P
theorem Bl {P D:List Nat} {r k p d:Nat} (hp:P[k]? = some p) (hd:D[k]? = some d):(nI true P D r)[k]? = some (dQ .sub .f32 p (dQ .mul .f32 r d)):=by
 unfold nI;rw [if_pos rfl,List.getElem?_zipWith,hp,hd]
theorem uO {P D:List Nat} {r:Nat} {f:Bool} (h:P.length=D.length):(nI f P D r).length=P.length:=by
 unfold nI;split
 ·rw [List.length_zipWith];omega
 ·rfl
def lX (Lc:List LayP) (R:Option (List OpP × List Int)) (s r:Nat):List LayP:=if R.isSome=true then cT Lc (nI (dD R s).2 (aM Lc) (dD R s).1.1 r) else []
def sK (R:Option (List OpP × List Int)) (c s:Nat) (g q:Int):Nat × Int × Int:=if R.isSome=true then (nS s g q (dD R c).2,nG s g q (dD R c).2,nQ s g q) else (0,0,0)
def kX (Lc:List LayP) (X Y:TenP) (m s:Nat) (g q:Int):Option (List OpP × List Int):=if aW s g q=true then eI Lc X Y m s else none
def MPost (Lc:List LayP) (R:Option (List OpP × List Int)) (c s:Nat) (g q:Int) (r:Nat) (w:World) (e:Ending) (w':World):Prop:=∃ad n cap s' g' q' f b us,e=.returned (.tuple #[.agg #[.slice ad n cap],.agg #[.float .f32 s',.int .i64 g',.int .i64 q'],.bool f,.bool b]) ∧
 Hid ((((b=R.isSome∧f=(dD R c).2)∧(s',g',q')=sK R c s g q)∧us.map (fun l=>l.toLayP.can)=lX Lc R c r)∧OwnR aX w' w.heap.size w'.heap.size ad n cap us)∧Below w.heap.size w w'
theorem MPost.none {Lc:List LayP} {R:Option (List OpP × List Int)} {c s r:Nat} {g q:Int} {w w':World} {e:Ending} (h:R=none) (he:e=.returned (.tuple #[.agg #[.slice none 0 0],.agg #[.float .f32 0,.int .i64 0,.int .i64 0],.bool false,.bool false])) (hb:Below w.heap.size w w'):MPost Lc R c s g q r w e w':=by
 subst h
 exact ⟨_,_,_,_,_,_,_,_,[],he,I ⟨⟨⟨⟨rfl,rfl⟩,rfl⟩,rfl⟩,OwnR.nil _ _ _ _⟩,hb⟩
theorem uP {L:List LayP} {X Y:TenP} {m s c:Nat} {R:Option (List OpP × List Int)} (hR:R=eI L X Y m s) (h:R.isSome=true):(dD R c).1.1.length=dC L:=by
 subst hR
 unfold eI at h ⊢
 split at h
 ·rename_i hs
  rw [if_pos hs]
  unfold dD
  cases e:nC (bH (L.map (cZ mH)) X Y (dQ .mul .f32 (cJ m) (cn .f32 s))) with
  | none =>
   exfalso
   cases e2:bH (L.map (cZ mH)) X Y (dQ .mul .f32 (cJ m) (cn .f32 s)) with
   | none=>rw [e2] at h;cases h
   | some p=>rw [e2] at e;cases e
  | some p =>
   obtain ⟨G,z⟩:=p
   have h1:=Ch e
   show (G.map _).length = _
   rw [List.length_map,h1]
   clear h1 e h
   unfold dC aM
   induction L with
   | nil=>rfl
   | cons l L ih =>
    have e:((cZ mH l).ws ++ (cZ mH l).bs).length=(l.ws ++ l.bs).length:=by unfold cZ;simp
    rw [List.map_cons,List.flatMap_cons,List.flatMap_cons,List.length_append (bs:=List.flatMap _ (L.map _)),List.length_append (bs:=List.flatMap _ L),ih,e]
 ·cases h
theorem iJ {ls:List LayD} {X Y:TenP} {m s:Nat} (h:(eI (ls.map fun l=>l.toLayP.can) X Y m s).isSome=true):dG (ls.map LayD.toLayP)=true:=by
 cases e:dG (ls.map LayD.toLayP) with
 | true=>rfl
 | false=>rw [wQ e] at h;cases h
theorem Ci (s:Nat) (hs:s < 4294967296) (g q:Int) (fin:Bool) (hv:aW s g q=true) (w:World) :
  Calls Tryz.prog 46 #[.agg #[.float .f32 s,.int .i64 g,.int .i64 q],.bool fin] w fun e w'=>e=.returned (.agg #[.float .f32 (nS s g q fin),.int .i64 (nG s g q fin),.int .i64 (nQ s g q)])∧Below w.heap.size w w':=by
 obtain ⟨hsc,hg0,hg1,hq0,hq1⟩:=fG hv
 obtain ⟨a,d,t,b,H⟩:=Df hs hsc
 have hnv:¬ (aW s g q=false):=by rw [hv];decide
 rw [show nQ s g q=q by unfold nQ;rw [if_neg hnv]]
 cases fin
 ·rw [show nS s g q false=d by unfold nS;rw [if_neg hnv,if_pos rfl,H.halfE,H.down],show nG s g q false=0 by unfold nG;rw [if_neg hnv,if_pos rfl]]
  exact yP s g q a d t b H w
 by_cases hq:q≤g+1
 ·rw [show nS s g q true=b by unfold nS;rw [if_neg hnv,if_neg (by decide),if_pos hq,H.twoE,H.up],show nG s g q true=0 by unfold nG;rw [if_neg hnv,if_neg (by decide),if_pos hq]]
  exact uK s g q a d t b H hg0 hg1 hq w
 ·rw [show nS s g q true=s by unfold nS;rw [if_neg hnv,if_neg (by decide),if_neg hq],show nG s g q true=g+1 by unfold nG;rw [if_neg hnv,if_neg (by decide),if_neg hq]]
  exact uL s g q hg0 hg1 (by omega) hq1 w
theorem Cj (s:Nat) (hs:s < 4294967296) (g q:Int) (fin:Bool) (hv:aW s g q=true) (w:World) :
  Calls Tryz.prog 75 #[.agg #[.float .f32 s,.int .i64 g,.int .i64 q],.bool fin] w fun e w'=>e=.returned (.agg #[.float .f32 (nS s g q fin),.int .i64 (nG s g q fin),.int .i64 (nQ s g q)])∧Below w.heap.size w w':=by
 obtain ⟨hsc,hg0,hg1,hq0,hq1⟩:=fG hv
 obtain ⟨a,d,t,b,H⟩:=Df hs hsc
 have hnv:¬ (aW s g q=false):=by rw [hv];decide
 rw [show nQ s g q=q by unfold nQ;rw [if_neg hnv]]
 cases fin
 ·rw [show nS s g q false=d by unfold nS;rw [if_neg hnv,if_pos rfl,H.halfE,H.down],show nG s g q false=0 by unfold nG;rw [if_neg hnv,if_pos rfl]]
  exact yQ s g q a d t b H w
 by_cases hq:q≤g+1
 ·rw [show nS s g q true=b by unfold nS;rw [if_neg hnv,if_neg (by decide),if_pos hq,H.twoE,H.up],show nG s g q true=0 by unfold nG;rw [if_neg hnv,if_neg (by decide),if_pos hq]]
  exact uM s g q a d t b H hg0 hg1 hq w
 ·rw [show nS s g q true=s by unfold nS;rw [if_neg hnv,if_neg (by decide),if_neg hq],show nG s g q true=g+1 by unfold nG;rw [if_neg hnv,if_neg (by decide),if_neg hq]]
  exact uN s g q hg0 hg1 (by omega) hq1 w
theorem qU (w:World) (c1 c2 c3 c4 c5 c6:Array Value) (t1 t2 t3 t4 t5 t6:TypeId) :
  ∃W,W=(((((w.alloc (.cells c1 t1)).alloc (.cells c2 t2)).alloc (.cells c3 t3)).alloc (.cells c4 t4)).alloc (.cells c5 t5)).alloc (.cells c6 t6) ∧
   W.heap.size=w.heap.size+1+1+1+1+1+1∧Below w.heap.size w W ∧
   ((BoxN W w.heap.size c1.toList∧BoxN W (w.heap.size+1) c2.toList∧BoxN W (w.heap.size+1+1) c3.toList)∧(BoxN W (w.heap.size+1+1+1) c4.toList∧BoxN W (w.heap.size+1+1+1+1) c5.toList∧BoxN W (w.heap.size+1+1+1+1+1) c6.toList)):=by
 refine ⟨_,rfl,by simp,?_,?_⟩
 ·repeat (first | exact O _ _ | refine Below.alloc ?_ (by simp;try omega) _)
 ·have a1:=BoxN.alloc w c1 t1
  have a2:=BoxN.alloc (w.alloc (.cells c1 t1)) c2 t2
  have a3:=BoxN.alloc ((w.alloc (.cells c1 t1)).alloc (.cells c2 t2)) c3 t3
  have a4:=BoxN.alloc (((w.alloc (.cells c1 t1)).alloc (.cells c2 t2)).alloc (.cells c3 t3)) c4 t4
  have a5:=BoxN.alloc ((((w.alloc (.cells c1 t1)).alloc (.cells c2 t2)).alloc (.cells c3 t3)).alloc (.cells c4 t4)) c5 t5
  have a6:=BoxN.alloc (((((w.alloc (.cells c1 t1)).alloc (.cells c2 t2)).alloc (.cells c3 t3)).alloc (.cells c4 t4)).alloc (.cells c5 t5)) c6 t6
  have e1:(w.alloc (.cells c1 t1)).heap.size=w.heap.size+1:=by simp
  have e2:((w.alloc (.cells c1 t1)).alloc (.cells c2 t2)).heap.size=w.heap.size+1+1:=by simp
  have e3:(((w.alloc (.cells c1 t1)).alloc (.cells c2 t2)).alloc (.cells c3 t3)).heap.size=w.heap.size+1+1+1:=by simp
  have e4:((((w.alloc (.cells c1 t1)).alloc (.cells c2 t2)).alloc (.cells c3 t3)).alloc (.cells c4 t4)).heap.size=w.heap.size+1+1+1+1:=by simp
  have e5:(((((w.alloc (.cells c1 t1)).alloc (.cells c2 t2)).alloc (.cells c3 t3)).alloc (.cells c4 t4)).alloc (.cells c5 t5)).heap.size=w.heap.size+1+1+1+1+1:=by simp
  rw [e1] at a2;rw [e2] at a3;rw [e3] at a4;rw [e4] at a5;rw [e5] at a6
  exact ⟨⟨((((a1.below (aE _ _)).below (aE _ _)).below (aE _ _)).below (aE _ _)).below (aE _ _),(((a2.below (aE _ _)).below (aE _ _)).below (aE _ _)).below (aE _ _),((a3.below (aE _ _)).below (aE _ _)).below (aE _ _)⟩,(a4.below (aE _ _)).below (aE _ _),a5.below (aE _ _),a6⟩
theorem uQ (w:World) (ma:Option Addr) (mk:Nat) (ls:List LayD) (s:Nat) (gg qq:Int) (xr xc yr yc:Int) (xa ya:Option Addr) (xk yk:Nat) (xs ys:List Nat) (r:Nat) (hls:SeeR aX w ma mk ls) (hnil:nilL ls) (hs:s < 4294967296) (hx:F32s w xa xk xs) (hy:F32s w ya yk ys) :
  Calls Tryz.prog 22 #[.agg #[.slice ma ls.length mk],.agg #[.float .f32 s,.int .i64 gg,.int .i64 qq],.agg #[.int .i64 xr,.int .i64 xc,.slice xa xs.length xk],.agg #[.int .i64 yr,.int .i64 yc,.slice ya ys.length yk],.float .f32 r] w (MPost (ls.map fun l=>l.toLayP.can) (kX (ls.map fun l=>l.toLayP.can) ⟨xr,xc,xs.map (cn .f32)⟩ ⟨yr,yc,ys.map (cn .f32)⟩ ys.length s gg qq) (cn .f32 s) s gg qq (cn .f32 r) w):=by
 obtain ⟨W6,hW6,hsz,hb6,⟨bm,bs,bx⟩,by6,br,bt⟩:=qU w #[.slice ma ls.length mk] #[.float .f32 s,.int .i64 gg,.int .i64 qq] #[.int .i64 xr,.int .i64 xc,.slice xa xs.length xk] #[.int .i64 yr,.int .i64 yc,.slice ya ys.length yk] #[.slice none 0 0] #[.float .f32 0,.int .i64 0,.int .i64 0] 35 50 37 37 35 50
 have BM:=I bm;have BS:=I bs;have BX:=I bx;have BY:=I by6;have BR:=I br;have BT:=I bt
 have HW6:=I hW6;have HB6:=I hb6
 have HLS:=I (hls.below hb6);have HX:=I (hx.below hb6);have HY:=I (hy.below hb6);have HNIL:=I hnil
 have KG0:=fun W (hb:Below W6.heap.size W6 W)=>nH W ma mk ls xr xc yr yc xa ya xk yk xs ys s (HLS.out.below hb) hnil (HX.out.below hb) (HY.out.below hb) hs
 obtain ⟨Lc,hLc⟩:∃Lc,Lc=ls.map fun l=>l.toLayP.can:=⟨_,rfl⟩
 rw [←hLc] at KG0 ⊢
 have HLc:=I hLc
 obtain ⟨R,hR⟩:∃R,R=kX Lc ⟨xr,xc,xs.map (cn .f32)⟩ ⟨yr,yc,ys.map (cn .f32)⟩ ys.length s gg qq:=⟨_,rfl⟩
 rw [←hR]
 have HR:=I hR
 have KV:=I (fun W=>sJ s gg qq W)
 have KG:=I KG0
 clear KG0 hLc hls hx hy hnil hb6 hW6 hR bm bs bx by6 br bt
 cases eV:aW s gg qq
 ·rw [eV] at KV
  have HRN:Hid (R=none):=I (by rw [HR.out];unfold kX;rw [eV];rfl)
  clear eV HR KG
  go_enter Tryz.func22,Tryz.ntmps22
  go_upto_region 1 with fail
  rw [←HW6.out]
  obtain ⟨-,s0,s1,s2,-⟩:=BS.out.three
  go_wp2_with fail
  refine (KV.out _).mono ?_
  rintro e w7 ⟨rfl,hb⟩
  have HB7:=I hb
  clear hb s0 s1 s2 KV
  obtain ⟨hlr,r0,rf⟩:=(BR.out.below HB7.out).one1
  obtain ⟨hlt,t0,t1,t2,tf⟩:=(BT.out.below HB7.out).three
  have f0:=rf 0;have g0:=tf 0;have g1:=tf 1;have g2:=tf 2
  clear rf tf
  go_wp2
  try simp only [Exit.inBlock,Exit.then]
  refine bodyPost_ret (v:=.tuple #[.agg #[.slice none 0 0],.agg #[.float .f32 0,.int .i64 0,.int .i64 0],.bool false,.bool false]) (by simp [results,Tryz.results22,go_sem,r0,t0,t1,t2]) rfl ?_
  exact MPost.none HRN.out rfl (by repeat (first | exact aA HB6.out HB7.out | refine Below.setCell ?_ (by dsimp only;omega) _))
 rw [eV] at KV
 have HV:=I eV
 rw [show kX Lc ⟨xr,xc,xs.map (cn .f32)⟩ ⟨yr,yc,ys.map (cn .f32)⟩ ys.length s gg qq=eI Lc ⟨xr,xc,xs.map (cn .f32)⟩ ⟨yr,yc,ys.map (cn .f32)⟩ ys.length s by unfold kX;rw [eV];rfl] at HR
 rw [←HR.out] at KG
 clear eV
 go_enter Tryz.func22,Tryz.ntmps22
 go_upto_region 1 with fail
 rw [←HW6.out]
 obtain ⟨-,s0,s1,s2,-⟩:=BS.out.three
 go_wp2_with fail
 refine (KV.out _).mono ?_
 rintro e w7 ⟨rfl,hb⟩
 have HB7:=I hb
 clear hb s0 s1 s2 KV
 obtain ⟨-,p0,-⟩:=(BM.out.below HB7.out).one1
 obtain ⟨-,s0,s1,s2,-⟩:=(BS.out.below HB7.out).three
 obtain ⟨-,x0,x1,x2,-⟩:=(BX.out.below HB7.out).three
 obtain ⟨-,y0,y1,y2,-⟩:=(BY.out.below HB7.out).three
 go_wp2_with fail
 refine (KG.out _ HB7.out).mono ?_
 rintro e w8 ⟨la,n,c2,z,f,b,ds,rfl,HO,hb⟩
 have HB8:=I (aA HB7.out hb)
 clear hb KG p0 s0 s1 s2 x0 x1 x2 y0 y1 y2 BX BY HX HY
 cases b
 ·have HRN:Hid (R=none):=I (by have:=HO.out.1.1.1;cases R <;> first | rfl | cases this)
  clear HO HR
  obtain ⟨hlr,r0,rf⟩:=(BR.out.below HB8.out).one1
  obtain ⟨hlt,t0,t1,t2,tf⟩:=(BT.out.below HB8.out).three
  have f0:=rf 0;have g0:=tf 0;have g1:=tf 1;have g2:=tf 2
  clear rf tf
  go_wp2
  try simp only [Exit.inBlock,Exit.then]
  refine bodyPost_ret (v:=.tuple #[.agg #[.slice none 0 0],.agg #[.float .f32 0,.int .i64 0,.int .i64 0],.bool false,.bool false]) (by simp [results,Tryz.results22,go_sem,r0,t0,t1,t2]) rfl ?_
  exact MPost.none HRN.out rfl (by repeat (first | exact aA HB6.out HB8.out | refine Below.setCell ?_ (by dsimp only;omega) _))
 have hRs:R.isSome=true:=HO.out.1.1.1.symm
 have hM:dG (ls.map LayD.toLayP)=true:=iJ (by rw [←HLc.out,←HR.out];exact hRs)
 obtain ⟨hl6,hlens⟩:=iI hM
 obtain ⟨L,hL⟩:∃L,L=ls.map LayD.toLayP:=⟨_,rfl⟩
 have HLC:=I (show Lc=L.map LayP.can by rw [HLc.out,hL,List.map_map];rfl)
 have hcnt:dC L≤432:=by have:=pP ls hlens;rw [←hL] at this;omega
 have hdl:ds.length=dC L:=by
  have h1:=uP (c:=cn .f32 s) HR.out hRs
  rw [←congrArg Prod.fst HO.out.1.2.1,List.length_map,HLC.out,Aa] at h1
  exact h1
 have HRS:=I hRs
 have HF:=I HO.out.1.1.2
 have HD:=I (congrArg Prod.fst HO.out.1.2.1)
 have HDR:=I HO.out.2
 have hnl:n=dC L:=by rw [←HO.out.2.len,hdl]
 have K1:=I (mT w8 ma mk ls (HLS.out.below HB8.out) HNIL.out hl6 hlens)
 have K2:=I (fun W (hb:Below W6.heap.size W6 W) b off ck xs h1 h2 h3=>iR W ma mk ls b off ck xs (HLS.out.below hb) h1 h2 hl6 hlens h3)
 have K3:=I (fun W f=>Ci s hs gg qq f HV.out W)
 rw [←hL] at K1 K2
 have HNL:=I hnl
 have HDL:=I hdl
 have hn4:n≤432:=by omega
 clear HO hRs hM hl6 hlens hL hs HV HR hnl hdl hcnt
 obtain ⟨-,p0,-⟩:=(BM.out.below HB8.out).one1
 go_wp2_with fail
 refine K1.out.mono ?_
 rintro e w9 ⟨g3,n3,c3,rfl,HP,hb9⟩
 have HB9:=I (aA HB8.out hb9)
 obtain rfl:n3=n:=by rw [←HP.out.len,HNL.out];rfl
 have hge3:w8.heap.size≤g3:=(HP.out.row.own.lt g3 rfl).1
 have HBB:=I hb9
 have hs8:=HB8.out.size
 have hs9:=hb9.size
 clear hb9 K1 p0
 cases f
 ·have HYY:Hid (RepF w9 w8.heap.size w9.heap.size (some ⟨g3,0,none⟩) n3 c3 (aM L)∧(aM L).map (cn .f32)=nI false (aM Lc) (dD R (cn .f32 s)).1.1 (cn .f32 r)):=I ⟨HP.out,by rw [fE,←HLC.out];rfl⟩
  have hgl:g3 < w9.heap.size:=(HYY.out.1.row.own.lt g3 rfl).2
  have hyl:(aM L).length=n3:=HYY.out.1.len
  have KW:=I (fun W (hb:Below w9.heap.size w9 W)=>K2.out W (aA HB9.out hb) g3 0 c3 (aM L) (HYY.out.1.below hb).arg (Nat.lt_of_lt_of_le hgl hb.size) (by rw [hyl,HNL.out]))
  rw [hyl] at KW
  have HML:=I (show (cT L (aM L)).map LayP.can=lX Lc R (cn .f32 s) (cn .f32 r) by
   rw [jC,HYY.out.2,←HLC.out]
   unfold lX
   rw [if_pos HRS.out,←HF.out])
  obtain ⟨-,p0,-⟩:=(BM.out.below HB9.out).one1
  obtain ⟨-,s0,s1,s2,-⟩:=(BS.out.below HB9.out).three
  clear K2 hyl hgl
  have hq1:w.heap.size≤w.heap.size+1+1+1+1:=by omega
  have hq2:w.heap.size≤w.heap.size+1+1+1+1+1:=by omega
  have hq3:w.heap.size+1+1+1+1 < W6.heap.size:=by omega
  have hq4:w.heap.size+1+1+1+1+1 < W6.heap.size:=by omega
  have hq5:W6.heap.size≤w9.heap.size:=HB9.out.size
  have hq6:w.heap.size≤W6.heap.size:=HB6.out.size
  clear hsz
  have n1:¬ w.heap.size=w.heap.size+1+1+1+1:=by omega
  have n2:¬ w.heap.size+1=w.heap.size+1+1+1+1:=by omega
  have n5:¬ w.heap.size=w.heap.size+1+1+1+1+1:=by omega
  have n6:¬ w.heap.size+1=w.heap.size+1+1+1+1+1:=by omega
  have n11:¬ w.heap.size+1+1+1+1=w.heap.size+1+1+1+1+1:=by omega
  go_wp2
  generalize w.heap.size+1+1+1+1+1=tB at BT n5 n6 n11 hq2 hq4 ⊢
  generalize w.heap.size+1+1+1+1=rB at BR n1 n2 n11 hq1 hq3 ⊢
  have n12:=Ne.symm n11
  generalize w.heap.size+1=sB at BS n2 n6 s0 s1 s2 ⊢
  have n7:=Ne.symm n1;have n8:=Ne.symm n2;have n9:=Ne.symm n5;have n10:=Ne.symm n6
  go_region_held3 (fun w'=>w'.cell? ⟨w.heap.size,0,none⟩=some (.slice ma ls.length mk)∧w'.cell? ⟨sB,0,none⟩=some (.float .f32 s)∧w'.cell? ⟨sB,1,none⟩=some (.int .i64 gg)∧w'.cell? ⟨sB,2,none⟩=some (.int .i64 qq)) (go_keep)
   (first
     | (go_at_call 45;refine (KW.out _ (Below.drew (O _ _))).mono ?_;rintro e w11 ⟨ad,m,cap,us,rfl,HU,hb11⟩;have HB11:=I (aA HB9.out (cL hb11));have HU11:=I (HU.out.2.bounds (show w9.heap.size≤_ from by simp) (J _));have HUC:=I HU.out.1;clear hb11 HU p0 s0 s1 s2;obtain ⟨-,p0,-⟩:=(BM.out.below HB11.out).one1;obtain ⟨-,s0,s1,s2,-⟩:=(BS.out.below HB11.out).three)
     | (go_at_call 46;refine (K3.out _ false).mono ?_;rintro e w12 ⟨rfl,hb12⟩;have HB12:=I (aA HB11.out hb12);have HU12:=I ((HU11.out.below hb12));have hs12:=hb12.size;clear hb12 p0 s0 s1 s2;obtain ⟨-,p0,-⟩:=(BM.out.below HB12.out).one1;obtain ⟨-,s0,s1,s2,-⟩:=(BS.out.below HB12.out).three;obtain ⟨hlr,r0,rf⟩:=(BR.out.below HB12.out).one1;obtain ⟨hlt,t0,t1,t2,tf⟩:=(BT.out.below HB12.out).three;have f0:=rf 0;have g0:=tf 0;have g1:=tf 1;have g2:=tf 2;clear rf tf))
  go_wp2
  try simp only [Exit.inBlock,Exit.then]
  refine bodyPost_ret (v:=.tuple #[.agg #[.slice ad m cap],.agg #[.float .f32 (nS s gg qq false),.int .i64 (nG s gg qq false),.int .i64 (nQ s gg qq)],.bool false,.bool true]) (by simp [results,Tryz.results22,go_sem,r0,t0,t1,t2,hlr,hlt,n11,n12]) rfl ?_
  have u1:Touch rB (rB+1) w12 (w12.setCell ⟨rB,0,none⟩ (.slice ad m cap)):=Touch.setCell (J _) (Nat.lt_succ_self _)
  have u2:∀(V:World) k v,Touch tB (tB+1) V (V.setCell ⟨tB,k,none⟩ v):=fun V k v=>Touch.setCell (J _) (Nat.lt_succ_self _)
  refine ⟨ad,m,cap,_,_,_,_,_,us,rfl,I ⟨⟨⟨⟨HRS.out.symm,HF.out⟩,?_⟩,HUC.out.trans HML.out⟩,?_⟩,?_⟩
  ·unfold sK;rw [if_pos HRS.out,←HF.out]
  ·exact (((((HU12.out.touch u1 (.inr (by omega))).touch (u2 _ _ _) (.inr (by omega))).touch (u2 _ _ _) (.inr (by omega))).touch (u2 _ _ _) (.inr (by omega))).bounds (by omega) (by simpa [World.setCell] using hs12))
  ·exact Below.setCell (p:=⟨tB,2,none⟩) (Below.setCell (p:=⟨tB,1,none⟩) (Below.setCell (p:=⟨tB,0,none⟩) (Below.setCell (p:=⟨rB,0,none⟩) (aA HB6.out HB12.out) hq1 _) hq2 _) hq2 _) hq2 _
 ·-- the parameters are changed in place
  have HDC:=I (show (dD R (cn .f32 s)).1.1=ds.map (cn .f32) from HD.out.symm)
  have HPC:=I (show (aM L).map (cn .f32)=aM Lc by rw [fE,←HLC.out])
  have hdl:ds.length=n3:=by rw [HDL.out,HNL.out]
  have hpl:(aM L).length=n3:=by rw [HNL.out];rfl
  have HDLN:=I hdl;have HPLN:=I hpl
  have HTL:=I (show (nI true (aM Lc) (dD R (cn .f32 s)).1.1 (cn .f32 r)).length≤n3 by
   rw [uO (by rw [HDC.out,List.length_map,←HPC.out,List.length_map,hdl,hpl]),←HPC.out,List.length_map,hpl];exact J _)
  clear hdl hpl
  go_wp2
  go_loopw [19,45] (fun i q wt => ∃k:Nat,q=.int .i64 k∧k≤n3∧Hid (∃us,RepF wt w8.heap.size w9.heap.size (some ⟨g3,0,none⟩) n3 c3 us∧InPlT (nI true (aM Lc) (dD R (cn .f32 s)).1.1 (cn .f32 r)) (aM L) k us)∧Hid (Below w8.heap.size w8 wt∧w9.heap.size≤wt.heap.size)) (fun i q wt=>n3 - (intOf q).toNat)
  case atStart=>exact ⟨0,rfl,Nat.zero_le _,I ⟨_,HP.out,InPlT.zero _ _⟩,I ⟨HBB.out,J _⟩⟩
  case round =>
   obtain ⟨k,rfl,hk,HYS,HBW⟩:=hrel
   by_cases hlt:k < n3
   ·obtain ⟨us,hr,hip⟩:=HYS.out
    obtain ⟨x,hx⟩:=getElem?_lt (show k < (aM L).length by rw [HPLN.out];exact hlt)
    obtain ⟨d,hd⟩:=getElem?_lt (show k < ds.length by rw [HDLN.out];exact hlt)
    have HTK:=I (show (nI true (aM Lc) (dD R (cn .f32 s)).1.1 (cn .f32 r))[k]? = some (dQ .sub .f32 (cn .f32 x) (dQ .mul .f32 (cn .f32 r) (cn .f32 d))) from
     Bl (by rw [←HPC.out,List.getElem?_map,hx];rfl) (by rw [HDC.out,List.getElem?_map,hd];rfl))
    have HXX:=I hx
    obtain ⟨g',e1,-,hcc,hf,-⟩:=hr.open (by omega)
    cases e1
    have hck:=hcc k hlt
    rw [hip.at' hx] at hck
    have hdr:=HDR.out.below HBW.out.1
    obtain ⟨g4,e4,-,hcd,-,-⟩:=hdr.open (by omega)
    have hdk:=hcd k hlt
    rw [List.getD_eq_getElem?_getD,hd] at hdk
    simp only [Option.getD_some] at hdk
    subst e4
    have hfk:=hf k
    have hgl:g3 < wr.heap.size:=(hr.row.own.lt g3 rfl).2
    have HRR:=I hr;have HIP:=I hip
    clear hx hd hcc hr hip hf HYS hdr hcd
    go_wp2
    refine mA 14 _ (fun _ _ _=>False) (by kernel_rfl) (by kernel_rfl) rfl rfl (fun _ _ _ h=>h) ?_
    go_simp
    repeat (refine aV (fun K hK nq=>?_);go_simp;refine hK _ ?_;clear hK K)
    generalize hy:dH BinOp.sub FloatKind.f32 x _ _ = y
    have hyc:cn .f32 y=dQ .sub .f32 (cn .f32 x) (dQ .mul .f32 (cn .f32 r) (cn .f32 d)):=by rw [←hy,bE,bE]
    have hyl:y < 4294967296:=by rw [←hy];exact bL _ .f32 _ _ _
    have HYC:=I hyc;clear hyc hy
    refine bD ?_
    rintro w' hw'
    obtain ⟨q9,rfl⟩:=hw'
    go_wp2
    refine ⟨?rel,?measure⟩
    case rel =>
     have hb1:=below_drewN (O wr.heap.size wr) q9
     exact ⟨k+1,by go_num,hlt,I ⟨_,(HRR.out.below hb1).setAt k y hyl (by omega),HIP.out.set HXX.out (by rw [HTK.out,HYC.out])⟩,I ⟨(aA HBW.out.1 hb1).setCell (p:=⟨g3,k,none⟩) hge3 _,by simpa [World.setCell] using HBW.out.2⟩⟩
    case measure=>simp [intOf];omega
   ·have e:k=n3:=by omega
    subst e
    obtain ⟨us0,hr,hip⟩:=HYS.out
    have hE:=hip.all HPLN.out.symm HTL.out
    have HBWW:=I (aA HB8.out HBW.out.1)
    have HYY:Hid (RepF wr w8.heap.size w9.heap.size (some ⟨g3,0,none⟩) k c3 us0∧us0.map (cn .f32)=nI true (aM Lc) (dD R (cn .f32 s)).1.1 (cn .f32 r)):=I ⟨hr,hE⟩
    have hgl:g3 < wr.heap.size:=(HYY.out.1.row.own.lt g3 rfl).2
    have hyl:us0.length=k:=HYY.out.1.len
    have KW:=I (fun W (hb:Below wr.heap.size wr W)=>K2.out W (aA HBWW.out hb) g3 0 c3 us0 (HYY.out.1.below hb).arg (Nat.lt_of_lt_of_le hgl hb.size) (by rw [hyl,HNL.out]))
    rw [hyl] at KW
    have HML:=I (show (cT L us0).map LayP.can=lX Lc R (cn .f32 s) (cn .f32 r) by
     rw [jC,HYY.out.2,←HLC.out]
     unfold lX
     rw [if_pos HRS.out,←HF.out])
    obtain ⟨-,p0,-⟩:=(BM.out.below HBWW.out).one1
    obtain ⟨-,s0,s1,s2,-⟩:=(BS.out.below HBWW.out).three
    clear K2 hyl hgl
    have hq1:w.heap.size≤w.heap.size+1+1+1+1:=by omega
    have hq2:w.heap.size≤w.heap.size+1+1+1+1+1:=by omega
    have hq3:w.heap.size+1+1+1+1 < W6.heap.size:=by omega
    have hq4:w.heap.size+1+1+1+1+1 < W6.heap.size:=by omega
    have hq5:W6.heap.size≤wr.heap.size:=HBWW.out.size
    have hq6:w.heap.size≤W6.heap.size:=HB6.out.size
    clear hsz
    have n1:¬ w.heap.size=w.heap.size+1+1+1+1:=by omega
    have n2:¬ w.heap.size+1=w.heap.size+1+1+1+1:=by omega
    have n5:¬ w.heap.size=w.heap.size+1+1+1+1+1:=by omega
    have n6:¬ w.heap.size+1=w.heap.size+1+1+1+1+1:=by omega
    have n11:¬ w.heap.size+1+1+1+1=w.heap.size+1+1+1+1+1:=by omega
    go_wp2
    generalize w.heap.size+1+1+1+1+1=tB at BT n5 n6 n11 hq2 hq4 ⊢
    generalize w.heap.size+1+1+1+1=rB at BR n1 n2 n11 hq1 hq3 ⊢
    have n12:=Ne.symm n11
    generalize w.heap.size+1=sB at BS n2 n6 s0 s1 s2 ⊢
    have n7:=Ne.symm n1;have n8:=Ne.symm n2;have n9:=Ne.symm n5;have n10:=Ne.symm n6
    go_region_held3 (fun w'=>w'.cell? ⟨w.heap.size,0,none⟩=some (.slice ma ls.length mk)∧w'.cell? ⟨sB,0,none⟩=some (.float .f32 s)∧w'.cell? ⟨sB,1,none⟩=some (.int .i64 gg)∧w'.cell? ⟨sB,2,none⟩=some (.int .i64 qq)) (go_keep)
     (first
       | (go_at_call 45;refine (KW.out _ (Below.drew (O _ _))).mono ?_;rintro e w11 ⟨ad,m,cap,us,rfl,HU,hb11⟩;have HB11:=I (aA HBWW.out (cL hb11));have HU11:=I (HU.out.2.bounds (show wr.heap.size≤_ from by simp) (J _));have HUC:=I HU.out.1;clear hb11 HU p0 s0 s1 s2;obtain ⟨-,p0,-⟩:=(BM.out.below HB11.out).one1;obtain ⟨-,s0,s1,s2,-⟩:=(BS.out.below HB11.out).three)
       | (go_at_call 46;refine (K3.out _ true).mono ?_;rintro e w12 ⟨rfl,hb12⟩;have HB12:=I (aA HB11.out hb12);have HU12:=I ((HU11.out.below hb12));have hs12:=hb12.size;clear hb12 p0 s0 s1 s2;obtain ⟨-,p0,-⟩:=(BM.out.below HB12.out).one1;obtain ⟨-,s0,s1,s2,-⟩:=(BS.out.below HB12.out).three;obtain ⟨hlr,r0,rf⟩:=(BR.out.below HB12.out).one1;obtain ⟨hlt,t0,t1,t2,tf⟩:=(BT.out.below HB12.out).three;have f0:=rf 0;have g0:=tf 0;have g1:=tf 1;have g2:=tf 2;clear rf tf))
    go_wp2
    try simp only [Exit.inBlock,Exit.then]
    refine bodyPost_ret (v:=.tuple #[.agg #[.slice ad m cap],.agg #[.float .f32 (nS s gg qq true),.int .i64 (nG s gg qq true),.int .i64 (nQ s gg qq)],.bool true,.bool true]) (by simp [results,Tryz.results22,go_sem,r0,t0,t1,t2,hlr,hlt,n11,n12]) rfl ?_
    have u1:Touch rB (rB+1) w12 (w12.setCell ⟨rB,0,none⟩ (.slice ad m cap)):=Touch.setCell (J _) (Nat.lt_succ_self _)
    have u2:∀(V:World) k v,Touch tB (tB+1) V (V.setCell ⟨tB,k,none⟩ v):=fun V k v=>Touch.setCell (J _) (Nat.lt_succ_self _)
    refine ⟨ad,m,cap,_,_,_,_,_,us,rfl,I ⟨⟨⟨⟨HRS.out.symm,HF.out⟩,?_⟩,HUC.out.trans HML.out⟩,?_⟩,?_⟩
    ·unfold sK;rw [if_pos HRS.out,←HF.out]
    ·exact (((((HU12.out.touch u1 (.inr (by omega))).touch (u2 _ _ _) (.inr (by omega))).touch (u2 _ _ _) (.inr (by omega))).touch (u2 _ _ _) (.inr (by omega))).bounds (by omega) (by simpa [World.setCell] using hs12))
    ·exact Below.setCell (p:=⟨tB,2,none⟩) (Below.setCell (p:=⟨tB,1,none⟩) (Below.setCell (p:=⟨tB,0,none⟩) (Below.setCell (p:=⟨rB,0,none⟩) (aA HB6.out HB12.out) hq1 _) hq2 _) hq2 _) hq2 _
theorem mG (w:World) (ad:Option Addr) (cap:Nat) (xs:List Nat) (h:F32s w ad cap xs) (hn:xs.length≤1048576) :
  Calls Tryz.prog 82 #[.slice ad xs.length cap] w fun e w' => ∃ad' n' cap' ys,e=.returned (.slice ad' n' cap')∧n'=xs.length∧Hid (RepF w' w.heap.size w'.heap.size ad' n' cap' ys∧ys.map (cn .f32)=(xs.map (cn .f32)).map mH)∧Below w.heap.size w w':=by
 obtain ⟨i0,hi,hz0,hz1,hz2⟩:=info_parts bW
 have H:=I h
 obtain ⟨n,hN⟩:∃n,n=xs.length:=⟨_,rfl⟩
 rw [←hN] at hn ⊢
 have HN:=I hN
 clear h hN
 go_enter Tryz.func82,Tryz.ntmps82
 go_wp2
 go_loopw [3,4] (fun v i wr => ∃k:Nat,i=.int .i64 k∧k≤n∧Hid (∃ys:List Nat,wr.ownsRow w.heap.size 28 1 v k (ys.map (Value.float .f32))∧ys.length=k∧ys.map (cn .f32)=((xs.take k).map (cn .f32)).map mH∧(∀y∈ys,y < 4294967296))∧Hid (Below w.heap.size w wr)∧w.heap.size≤wr.heap.size) (fun _ i _=>n - (intOf i).toNat)
 case atStart=>exact ⟨0,rfl,Nat.zero_le _,I ⟨[],World.ownsRow_made _ _ _ (J _) (Nat.zero_le _) rfl,rfl,rfl,(fun y hy=>nomatch hy)⟩,I (aE _ _),by simp⟩
 case round =>
  obtain ⟨k,rfl,hk,HO,HB,hbs⟩:=hrel
  by_cases hlt:k < n
  ·have hk1:k < xs.length:=by rw [←HN.out];exact hlt
   obtain ⟨ys,hown,hyl,hye,hylt⟩:=HO.out
   obtain ⟨x,hx⟩:=getElem?_lt hk1
   have h1:=H.out.below HB.out
   obtain ⟨b,off,rfl,_,hq⟩:=F32s.spot h1 (k:=k) hk1
   have hc:=hq k hk1
   have ex:xs.getD k 0=x:=by rw [List.getD_eq_getElem?_getD,hx];rfl
   rw [ex] at hc
   have hxl:=H.out.lt x (List.mem_of_getElem? hx)
   have K:=I (fun W=>tP x hxl W)
   have HOW:=I hown;have HYL:=I hyl;have HYE:=I hye;have HYT:=I hylt
   have HX:=I hx
   clear hown hyl hye hylt hx h1 hq ex HO
   go_wp2_with fail
   refine (K.out _).mono ?_
   rintro e w5 ⟨r,rfl,hr,hd⟩
   have HR:=I hr.out
   have HB5:=I (HB.out.trans (hd.below.mono hbs))
   have HOW5:=I ((Row.mk' HOW.out).below hd.below).own
   have hbs5:w.heap.size≤w5.heap.size:=Nat.le_trans hbs hd.below.size
   clear hr hd K HOW HB
   go_wp2_with (at_builtin;refine Eg rfl _ _ 25 rfl w.heap.size i0 (.float .f32 0) 1 4 Tryz.underlying25 hi hz0 hz1 hz2 rfl (by decide) rfl (Cy _ rfl) _ _ _ rfl HOW5.out rfl ?c3 ?c4 ?c5 ?_)
   case c3=>unfold maxLen;omega
   case c4=>omega
   case c5=>exact hbs5
   intro v' w9 hown1 hb1 hbs1
   have HOW2:=I hown1;have HB2:=I (HB5.out.trans hb1)
   clear hown1 hb1
   go_wp2
   refine ⟨?rel,?measure⟩
   case rel =>
    refine ⟨k+1,by go_num,hlt,I ⟨ys ++ [r],by simpa using HOW2.out,by simp [HYL.out],?_,?_⟩,HB2,hbs1⟩
    ·rw [List.take_add_one,HX.out,List.map_append,HYE.out,Option.toList_some,List.map_append,List.map_append]
     simp [HR.out.1]
    ·intro z hz
     rcases List.mem_append.1 hz with hz | hz
     ·exact HYT.out z hz
     ·simp at hz;subst hz;exact HR.out.2
   case measure=>simp [intOf];omega
  ·have e:k=n:=by omega
   subst e
   obtain ⟨ys,hown,hyl,hye,hylt⟩:=HO.out
   obtain ⟨ad',cap',rfl,hr⟩:=RepF.of_owns hown hylt
   rw [HN.out,List.take_length] at hye
   have HX:=I (And.intro hr hye)
   clear HO hown hyl hye hylt hr
   go_wp2
   go_ret
   exact ⟨ad',_,cap',ys,rfl,rfl,HX,HB.out⟩
theorem uR (w:World) (mb mo:Nat) (ma:Option Addr) (mk:Nat) (ls:List LayD) (hmb:mb < w.heap.size) (hm:w.cell? ⟨mb,mo,none⟩=some (.slice ma ls.length mk)) (hls:SeeR aX w ma mk ls) (hn:ls.length≤100) (hi2:∀l∈ls,l.ws.length≤1048576∧l.bs.length≤1048576) :
  Calls Tryz.prog 55 #[.pointer (some ⟨mb,mo,none⟩)] w (sS ((ls.map fun l=>l.toLayP.can).map (cZ mH)) w):=by
 obtain ⟨i0,hi0,hz0,hzs,hz2⟩:=info_parts pI
 have HLS:=I hls;have HI2:=I hi2
 have HM:=I (fun W (hb:Below w.heap.size w W)=>(hb.cell (p:=⟨mb,mo,none⟩) hmb).trans hm)
 obtain ⟨n,hN⟩:∃n,n=ls.length:=⟨_,rfl⟩
 rw [←hN] at hn HM
 have HN:=I hN
 clear hls hi2 hm hN hmb
 have HL0:=I ((((LN.nil w).alloc #[.slice none 0 0] 35).nil1).alloc #[.slice (some ⟨w.heap.size+1,0,none⟩) 0 0] 35)
 go_enter Tryz.func55,Tryz.ntmps55
 go_upto_region 2 with fail
 obtain ⟨ob,hob⟩:∃g,g=w.heap.size+1+1:=⟨_,rfl⟩
 obtain ⟨W3,hW3⟩:∃W,W=((w.alloc (.cells #[.slice none 0 0] 35)).alloc (.cells #[] 99)).alloc (.cells #[.slice (some ⟨w.heap.size+1,0,none⟩) 0 0] 35):=⟨_,rfl⟩
 rw [←hob,←hW3]
 have HL:Hid (LN w W3 (some ⟨w.heap.size+1,0,none⟩) 0 0 [] [aZ 35 ob [.slice (some ⟨w.heap.size+1,0,none⟩) 0 0],aZ 35 w.heap.size [.slice none 0 0]]):=I (by
  have h:=HL0.out
  have e1:(w.alloc (.cells #[.slice none 0 0] 35)).heap.size=w.heap.size+1:=by simp
  have e2:((w.alloc (.cells #[.slice none 0 0] 35)).alloc (.cells #[] 99)).heap.size=w.heap.size+1+1:=by simp
  rw [e1,e2,←hob,←hW3] at h
  exact h)
 clear hob hW3 HL0
 go_wp2
 go_loopw [4,5] (fun i p wt => ∃k:Nat,i=.int .i64 k∧k≤n∧∃ad cap,Hid (LN w wt ad k cap ((ls.take k).map fun l=>cZ mH l.toLayP.can) [aZ 35 ob [.slice ad k cap],aZ 35 w.heap.size [.slice none 0 0]])) (fun i p wt=>n - (intOf i).toNat)
 case atStart=>exact ⟨0,rfl,Nat.zero_le _,_,0,HL⟩
 case round =>
  obtain ⟨k,rfl,hk,ad,cap,HL1⟩:=hrel
  have hm:=HM.out wr HL1.out.below
  by_cases hlt:k < n
  ·obtain ⟨l,hl⟩:=getElem?_lt (show k < ls.length by rw [←HN.out];exact hlt)
   have HLL:=I hl
   have hb0:=HL1.out.below
   have hii:=HI2.out l (List.mem_of_getElem? hl)
   have hsee:=HLS.out.below hb0
   clear hl
   obtain ⟨-,-,-,-,-,⟨hfw,hfb⟩,hok⟩:=bG HLS.out HLL.out
   obtain ⟨b,off,rfl,hb,⟨c0,c1,c2,c3,c4⟩,-,-⟩:=bG hsee HLL.out
   have HTK:=I (show (ls.take (k+1)).map (fun l=>cZ mH l.toLayP.can)=(ls.take k).map (fun l=>cZ mH l.toLayP.can) ++ [cZ mH l.toLayP.can] by
    rw [List.take_add_one,HLL.out,List.map_append];rfl)
   have HFW:=I (fun W (hb:Below w.heap.size w W)=>hfw.below hb);have HFB:=I (fun W (hb:Below w.heap.size w W)=>hfb.below hb);have HOK:=I hok
   clear HLL hsee hfw hfb hok hb0
   obtain ⟨⟨kk,li,lo,lws,lbs⟩,wa,wk,ba,bk⟩:=l
   simp only at c0 c1 c2 c3 c4 hii HFW HFB
   obtain ⟨m1,hm1⟩:∃m,m=lws.length:=⟨_,rfl⟩
   obtain ⟨m2,hm2⟩:∃m,m=lbs.length:=⟨_,rfl⟩
   rw [←hm1] at c3 hii;rw [←hm2] at c4 hii
   have HM1:=I hm1;have HM2:=I hm2
   clear hm1 hm2
   have HL2:=I (HL1.out.alloc #[.int .i64 kk,.int .i64 li,.int .i64 lo,.slice wa m1 wk,.slice ba m2 bk] 99)
   go_upto_region 6 with fail
   clear c0 c1 c2 c3 c4 HL1 hm hb
   generalize wr.alloc (.cells #[.int .i64 kk,.int .i64 li,.int .i64 lo,.slice wa m1 wk,.slice ba m2 bk] 99)=W4 at HL2 ⊢
   generalize wr.heap.size=lb at HL2 ⊢
   have BX:=(HL2.out.box (List.mem_cons_self ..)).five
   obtain ⟨-,d0,d1,d2,d3,d4,-⟩:=BX
   have K:=I (mG W4 wa wk lws (HFW.out _ HL2.out.below) (by rw [←HM1.out];exact hii.1))
   rw [←HM1.out] at K
   go_wp2_with fail
   refine K.out.mono ?_
   rintro e w5 ⟨a5,n5,k5,y5,rfl,rfl,HY5,hb5⟩
   have HL3:=I ((HL2.out.addF hb5 HY5.out.1).swap)
   have HE5:=I HY5.out.2
   have HO5:=I HY5.out.1.lt
   have HN5:=I HY5.out.1.len
   clear K hb5 d0 d1 d2 d3 d4 HL2 HFW HY5
   obtain ⟨hl5,d0,d1,d2,d3,d4,hf⟩:=(HL3.out.box (List.mem_cons_self ..)).five
   have hf3:=hf 3
   clear hf
   go_upto_region 7 with fail
   have HL4:=I (HL3.out.store 3 (.slice a5 n5 k5))
   clear HL3 d0 d1 d2 d3 d4 hf3 hl5
   generalize w5.setCell ⟨lb,3,none⟩ (.slice a5 n5 k5)=W6 at HL4 ⊢
   have HL4:Hid (LN w W6 ad k cap ((ls.take k).map fun l=>cZ mH l.toLayP.can) (aZ 99 lb [.int .i64 kk,.int .i64 li,.int .i64 lo,.slice a5 n5 k5,.slice ba m2 bk] :: aK a5 k5 y5 :: [aZ 35 ob [.slice ad k cap],aZ 35 w.heap.size [.slice none 0 0]])):=HL4
   obtain ⟨-,d0,d1,d2,d3,d4,-⟩:=(HL4.out.box (List.mem_cons_self ..)).five
   have K:=I (mG W6 ba bk lbs (HFB.out _ HL4.out.below) (by rw [←HM2.out];exact hii.2))
   rw [←HM2.out] at K
   go_wp2_with fail
   refine K.out.mono ?_
   rintro e w7 ⟨a7,n7,k7,y7,rfl,rfl,HY7,hb7⟩
   have HL5:=I ((HL4.out.addF hb7 HY7.out.1).swap)
   have HE7:=I HY7.out.2
   have HO7:=I HY7.out.1.lt
   have HN7:=I HY7.out.1.len
   clear K hb7 d0 d1 d2 d3 d4 HL4 HFB HY7
   obtain ⟨hl7,d0,d1,d2,d3,d4,hf⟩:=(HL5.out.box (List.mem_cons_self ..)).five
   have hf4:=hf 4
   clear hf
   go_upto_region 8 with fail
   have HL6:=I (HL5.out.store 4 (.slice a7 n7 k7))
   clear HL5 d0 d1 d2 d3 d4 hf4 hl7
   generalize w7.setCell ⟨lb,4,none⟩ (.slice a7 n7 k7)=W8 at HL6 ⊢
   have HL6:Hid (LN w W8 ad k cap ((ls.take k).map fun l=>cZ mH l.toLayP.can) (aZ 99 lb [.int .i64 kk,.int .i64 li,.int .i64 lo,.slice a5 n5 k5,.slice a7 n7 k7] :: aK a7 k7 y7 :: aK a5 k5 y5 :: [aZ 35 ob [.slice ad k cap],aZ 35 w.heap.size [.slice none 0 0]])):=HL6
   obtain ⟨-,d0,d1,d2,d3,d4,-⟩:=(HL6.out.box (List.mem_cons_self ..)).five
   obtain ⟨ho8,o0,of⟩:=(HL6.out.box (t:=35) (g:=ob) (cs:=[.slice ad k cap]) (by simp)).one1
   have hlP:=(HL6.out.sub (E':=aK a7 k7 y7 :: aK a5 k5 y5 :: [aZ 35 ob [.slice ad k cap],aZ 35 w.heap.size [.slice none 0 0]]) (List.sublist_cons_self _ _)).swap.push
   obtain ⟨vs,hrow,hpush⟩:=hlP
   have HROW:=I hrow;have HPU:=I hpush
   have hbs:=HL6.out.below.size
   clear hrow hpush HL6
   go_wp2_with (at_builtin;refine sV rfl _ _ 33 rfl w.heap.size i0 (.agg #[.int .i64 0,.int .i64 0,.int .i64 0,.slice none 0 0,.slice none 0 0]) 5 72 1 Tryz.underlying33 hi0 hz0 hzs hz2 rfl (by decide) rfl (by intro u hu;simp at hu;rcases hu with rfl | rfl | rfl | rfl | rfl <;> rfl) _ _ _ rfl HROW.out (by go_simp) ?c3 ?c4 ?c5 ?_)
   case c3=>unfold maxLen;omega
   case c4=>omega
   case c5=>exact hbs
   intro v' w9 hown9 hg9 hat9
   obtain ⟨ad9,cap9,rfl,HL9⟩:=HPU.out ⟨⟨kk,li,lo,y5,y7⟩,a5,k5,a7,k7⟩ _ v' w9 ⟨⟨HO5.out,HO7.out⟩,HOK.out.2⟩ (by rfl) (by have h:=hown9;rw [←HN5.out,←HN7.out] at h;exact h) hg9 hat9
   have HLA:=I HL9
   have HEQ:=I (show LayP.can ⟨kk,li,lo,y5,y7⟩=cZ mH (LayP.can ⟨kk,li,lo,lws,lbs⟩) by
    unfold cZ LayP.can
    simp only
    rw [HE5.out,HE7.out])
   clear hown9 hg9 hat9 HPU HL9 HROW d0 d1 d2 d3 d4 o0 of ho8
   obtain ⟨ho9,o0,of⟩:=(HLA.out.box (List.mem_cons_self ..)).one1
   have hof:=of 0
   clear of
   go_wp2
   refine ⟨?rel,?measure⟩
   case rel =>
    refine ⟨k+1,by go_num,hlt,ad9,cap9,I ?_⟩
    rw [HTK.out]
    have h:=HLA.out.store 0 (.slice ad9 (k+1) cap9)
    rw [HEQ.out] at h
    exact h
   case measure=>simp [intOf];omega
  ·have e:k=n:=by omega
   subst e
   have HT:=I (show (ls.take k).map (fun l=>cZ mH l.toLayP.can)=(ls.map fun l=>l.toLayP.can).map (cZ mH) by rw [HN.out,List.take_length,List.map_map];rfl)
   rw [HT.out] at HL1
   obtain ⟨-,o0,-⟩:=(HL1.out.box (List.mem_cons_self ..)).one1
   obtain ⟨hr1,r0,rf⟩:=(HL1.out.box (t:=35) (g:=w.heap.size) (cs:=[.slice none 0 0]) (by simp)).one1
   have hrf:=rf 0
   clear rf
   have HFIN:=I (HL1.out.swap.store 0 (.slice ad k cap))
   go_wp2
   try simp only [Exit.inBlock,Exit.then]
   refine bodyPost_ret (v:=.agg #[.slice ad k cap]) (by simp [results,Tryz.results55,go_sem,r0,hr1]) rfl ?_
   obtain ⟨us,h0,h2,h3,h4⟩:=HFIN.out
   exact ⟨ad,k,cap,us,rfl,I ⟨h2,h3.r⟩,h4⟩
end
end Go.Proofs.YtpadlmidojpbeaaGreat
