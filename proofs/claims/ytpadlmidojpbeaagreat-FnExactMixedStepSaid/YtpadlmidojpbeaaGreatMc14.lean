/- Joined texts 14. No condition. -/
import Derived.Test.YtpadlmidojpbeaaGreatMc0
import Derived.Test.YtpadlmidojpbeaaGreatMc1
import Derived.Test.YtpadlmidojpbeaaGreatMc2
import Derived.Test.YtpadlmidojpbeaaGreatMc5
import Derived.Test.YtpadlmidojpbeaaGreatMc6
import Derived.Test.YtpadlmidojpbeaaGreatMc7
import Derived.Test.YtpadlmidojpbeaaGreatMc8
import Derived.Test.YtpadlmidojpbeaaGreatMc9
import Derived.Test.YtpadlmidojpbeaaGreatMc13
set_option linter.unusedVariables false
set_option linter.unusedSimpArgs false
namespace Go.Proofs.YtpadlmidojpbeaaGreat
section
open Go Go.RowKit
theorem gradP_ok {os:List OpP} {S:List Sh} (hS:shapesP os=some S):(gradP os).length≤48∧∀t∈gradP os,t.xs.length≤256:=by
 have hp:=shapesP_some hS
 have hv:=valsN_ok (Nat.le_refl _) hp.2.1
 have hVl:(valsP os).length=os.length:=by have:=congrArg List.length hv.1;rw [List.length_map,hp.2.2.1] at this;exact this
 have hok:∀m,m≤os.length→OkG (valsP os) (usedM os m) (gradM os (valsP os) m):=OkG.at hS
 have h1:=hok os.length (Nat.le_refl _)
 refine ⟨?_,fun t ht=>?_⟩
 ·show (gradM os (valsP os) os.length).length≤48
  rw [h1.1,hVl];exact hp.1.2
 ·obtain ⟨j,hj,rfl⟩:=List.mem_iff_getElem.1 ht
  have hj2:j < (valsP os).length:=by rw [←h1.1];exact hj
  have h2:okT (vGet (gradP os) (j:Int)):=(h1.2 j hj2).1.1
  rw [vGet_nat hj] at h2
  exact h2.le
set_option maxHeartbeats 8000000 in
set_option maxRecDepth 100000 in
theorem impl_learned (w:World) (ad:Option Addr) (n cap:Nat) (wa:Option Addr) (wk:Nat) (ws:List Int) (C:List OpP) (us:List OpD) (S:List Sh) (hF:TapeF w ad n cap wa wk ws C us S) :
  Calls Tryz.prog 37 #[.slice ad n cap,.slice wa ws.length wk] w fun e w' => ∃a m c z xs,e=.returned (.tuple #[.slice a m c,.float .f32 z]) ∧
   Hid (RepF w' w.heap.size w'.heap.size a m c xs∧z < 4294967296∧xs.map (cn .f32)=flatG (gradP C) ws∧cn .f32 z=lossP C)∧Below w.heap.size w w':=by
 obtain ⟨i0,hi0,hz0,hz1,hz2⟩:=info_parts info_f32
 have HF:=I hF
 have hn1:=hF.n1;have hn2:=hF.n2;have hm:=hF.m
 have K2:=I (impl_runTape w ad cap us hF.see hF.nil S hF.sh hF.lens)
 rw [hF.len,hF.v] at K2
 clear hF
 obtain ⟨m,hM⟩:∃m,m=ws.length:=⟨_,rfl⟩
 rw [←hM] at hm ⊢
 have HM:=I hM
 clear hM
 go_enter Tryz.func37,Tryz.ntmps37
 go_wp2_with fail
 refine K2.out.mono ?_
 rintro e w2 ⟨a2,c2,vs,rfl,HV,hb2⟩
 have HB2:=I hb2
 obtain ⟨g,tb,tq,tc,z,rfl,hcells,hz⟩:=last_cell (HF.out.below HB2.out) HV.out.1 HV.out.2
 have HZ:=I hz
 have hni:(n:Int) - 1=((n - 1:Nat):Int):=by omega
 obtain ⟨l,hl⟩:∃l,l=n - 1:=⟨_,rfl⟩
 rw [←hl] at hni
 have HC:=I (show ∀V,Below w2.heap.size w2 V→V.cell? ⟨g,l * 3+2,none⟩=some (.slice (some ⟨tb,tq,none⟩) 1 tc)∧V.cell? ⟨tb,tq,none⟩=some (.float .f32 z) by rw [hl];exact hcells)
 have hln:l < n:=by omega
 have HNI:=I hni
 clear hl hb2 K2 hcells hz hni
 have K3:=I (impl_gradients w2 ad (some ⟨g,0,none⟩) cap c2 us vs (HF.out.see.below HB2.out) HV.out.1.see S HF.out.sh (by rw [HV.out.2,HF.out.v]))
 rw [HF.out.len,HF.out.g] at K3
 go_wp2_with fail
 refine K3.out.mono ?_
 rintro e w3 ⟨a3,c3,gs,rfl,HG,hb3⟩
 have HB3:=I hb3
 have HXL:=I (show ∀t∈gs,t.xs.length≤256 from fun t ht=>by
  have h3:=gradP_ok (os:=us.map OpD.toOpP) HF.out.sh
  rw [HF.out.g] at h3
  have h4:=h3.2 t.toTenP.can (by rw [←HG.out.2];exact List.mem_map_of_mem ht)
  simpa [TenP.can] using h4)
 have HIN:=I ((HF.out.ints.below HB2.out).below hb3)
 clear hb3 K3
 go_wp2
 go_loopw [8,10,19] (fun v x i wt => ∃k nk:Nat,i=.int .i64 k∧k≤m∧nk≤256 * k∧Hid (wt.ownsRow w3.heap.size 28 1 v nk ((flatT gs (ws.take k)).map (Value.float .f32))∧nk=(flatT gs (ws.take k)).length)∧Hid (Below w3.heap.size w3 wt)) (fun v x i wt=>m - (intOf i).toNat)
 case atStart=>exact ⟨0,0,rfl,Nat.zero_le _,by omega,I ⟨World.ownsRow_made _ _ _ (Nat.le_refl _) (Nat.zero_le _) rfl,rfl⟩,I (below1 _ _)⟩
 case round =>
  obtain ⟨k,nk,rfl,hk,hnk,HO,HB⟩:=hrel
  by_cases hlt:k < m
  ·obtain ⟨i,hi⟩:=getElem?_lt (show k < ws.length by rw [←HM.out];exact hlt)
   have hix:=HF.out.ix i (List.mem_of_getElem? hi)
   obtain ⟨j,rfl⟩:∃j:Nat,i=j:=⟨i.toNat,by omega⟩
   have hjn:j < n:=by omega
   obtain ⟨t,ht⟩:=getElem?_lt (show j < gs.length by rw [HG.out.1.len];exact hjn)
   obtain ⟨wb,wo,hwa,hwb,hwc⟩:=ints_at (HIN.out.below HB.out) hi
   obtain ⟨g3,hal,hg,⟨-,-,hc2⟩,-,hrt⟩:=ten_own (HG.out.1.below HB.out) ht
   have hr:=hrt.arg
   have HRD:=I hr.rd;have HNC:=I hrt.nilcap
   have hlen:=HXL.out t (List.mem_of_getElem? ht)
   have HT:=I (show flatT gs (ws.take (k+1))=flatT gs (ws.take k) ++ t.xs by
    rw [List.take_add_one,hi]
    show flatT gs (ws.take k ++ [(j:Int)]) = _
    rw [flatT_snoc]
    congr 1
    unfold tenAtD
    rw [List.getD_eq_getElem?_getD,show ((j:Nat):Int).toNat=j by simp,ht];rfl)
   obtain ⟨q,hq⟩:∃q,q=t.xs.length:=⟨_,rfl⟩
   rw [←hq] at hc2 hlen
   have HQ:=I hq
   have h1:∀u∈t.xs.map (Value.float .f32),u.oneCell'=true:=by intro u hu;obtain ⟨x,_,rfl⟩:=List.mem_map.1 hu;rfl
   have H1:=I h1
   have HOW:=I HO.out.1;have HNK:=I HO.out.2
   have hbs:=HB.out.size
   subst hwa hal
   clear hix hg hrt hr hi ht hq h1 HO
   go_wp2_with (at_builtin;refine wp_cat rfl _ _ 25 rfl w3.heap.size i0 (.float .f32 0) 4 Tryz.underlying25 hi0 hz0 hz1 hz2 rfl _ nk _ rfl HOW.out t.ad q t.cap (t.xs.map (Value.float .f32)) rfl HNC.out (by rw [List.length_map,HQ.out]) HRD.out H1.out ?c3 ?c4 ?c5 ?_)
   case c3=>unfold maxLen;omega
   case c4=>omega
   case c5=>exact hbs
   intro v' w9 hown1 hb1 hbs1
   have HOW2:=I hown1;have HB5:=I (HB.out.trans hb1)
   clear hown1 hb1 hwc hc2 HRD HNC
   go_wp2
   refine ⟨?rel,?measure⟩
   case rel=>exact ⟨k+1,nk+q,by go_num,hlt,by omega,I ⟨by rw [HT.out,List.map_append];exact HOW2.out,by rw [HT.out,List.length_append,HNK.out,HQ.out]⟩,HB5⟩
   case measure=>simp [intOf];omega
  ·have e:k=m:=by omega
   subst e
   have e2:ws.take k=ws:=by rw [HM.out];exact List.take_length
   rw [e2] at HO
   obtain ⟨ad4,c4,rfl,hr⟩:=RepF.of_owns HO.out.1 (flatT_okF (fun t ht=>HG.out.1.ok t ht) ws)
   have HX:=I (show RepF wr w3.heap.size wr.heap.size ad4 nk c4 (flatT gs ws)∧(flatT gs ws).map (cn .f32)=flatG (gradP C) ws from ⟨hr,flatT_can HG.out.2 ws⟩)
   have hni:=HNI.out
   have hwl:IntKind.i64.wrap (l:Int)=(l:Int):=wrap_fitL (by omega) (by omega)
   have S4:=I (HC.out wr (bthen HB3.out HB.out))
   clear hr e2 HO HIN HXL
   go_wp2
   refine wp_region_mix0 [] (fun W=>W.cell? ⟨g,l * 3+2,none⟩=some (.slice (some ⟨tb,tq,none⟩) 1 tc)∧W.cell? ⟨tb,tq,none⟩=some (.float .f32 z)) (fun _ _ _=>False) (fun _ _ _ _ _=>False) (by kernel_rfl) (by kernel_rfl) S4.out (fun W q h=>by simpa using h) ?_
   iterate 12 (refine mwalk_plain (by rfl) S4.out (fun K hK W hW=>?_);obtain ⟨e0,e1⟩:=hW;go_simp;refine hK _ ?_;clear hK K e0 e1)
   refine mwalk_nil (fun q9=>?_)
   have HB5:=I (below_drewN (bthen HB2.out (bthen HB3.out HB.out)) q9)
   have hzz:w.heap.size≤w3.heap.size:=by
    have h1:=HB2.out.size;have h2:=HB3.out.size
    omega
   have HX5:=I ((HX.out.1.bounds hzz (Nat.le_refl _)).below (below_drewN (Below.refl _ _) q9))
   go_wp2
   go_ret2
   exact ⟨_,_,_,_,_,rfl,I ⟨HX5.out,HZ.out.1,HX.out.2,HZ.out.2⟩,HB5.out⟩
def DLoss (fg ff:FuncId) (n:Nat) (C:List OpP) (ws:List Int) (f:FuncId) (args:Array Value) (W:World) (v:Value) (W':World):Prop :=
 (f=fg→∃a3 c3 gs,v=.slice a3 n c3∧Hid (OwnR tenR W' W.heap.size W'.heap.size a3 n c3 gs∧gs.map (fun t=>t.toTenP.can)=gradP C)∧Below W.heap.size W W') ∧
 (f=ff→∃ad m cap xs,v=.slice ad m cap∧Hid (RepF W' W.heap.size W'.heap.size ad m cap xs∧xs.map (cn .f32)=flatG (gradP C) ws)∧Below W.heap.size W W')
set_option maxHeartbeats 8000000 in
set_option maxRecDepth 100000 in
theorem spec_l04Loss (w:World) (R:Option (List OpP × List Int)) (x1 x2 x3:Value) (num:Nat) (ls:List LayP) (X Y:TenP) (q:Nat) (hR:R=modelP ls X Y q)
  (K:Calls Tryz.prog 83 #[x1,x2,x3,.float .f32 num] w (ModOut R w)) :
  Calls Tryz.prog 56 #[x1,x2,x3,.float .f32 num] w fun e w' => ∃ad n cap z b,e=.returned (.tuple #[.slice ad n cap,.float .f32 z,.bool b]) ∧
   Hid ((b=R.isSome∧(b=true→∃xs,RepF w' w.heap.size w'.heap.size ad n cap xs∧z < 4294967296∧learnM R=some (xs.map (cn .f32),cn .f32 z)))∧(b=false→n=0))∧Below w.heap.size w w':=by
 have HK:=I K;have HR:=I hR
 clear K hR
 go_enter Tryz.func56,Tryz.ntmps56
 go_wp2_with fail
 refine HK.out.mono ?_
 rintro e w1 ⟨ad,n,cap,wa,m,wk,b,rfl,HO,hb⟩
 have HB1:=I hb
 clear hb HK
 cases b
 ·have HRN:=I HO.out.1
  clear HO
  go_wp2
  go_ret3
  exact ⟨_,_,_,_,false,rfl,I ⟨⟨HRN.out,fun h=>(by cases h)⟩,fun _=>rfl⟩,HB1.out.alloc HB1.out.size _⟩
 obtain ⟨C,ws,hRC,hm,hwf,hT⟩:=HO.out.2 rfl
 obtain ⟨us,S,hF⟩:=TapeF.of hT (HR.out.symm.trans hRC) hwf
 have HF:=I hF
 have HRC:=I hRC
 clear hT hwf HO HR hRC
 subst hm
 have hn1:=hF.n1;have hn2:=hF.n2
 have K2:=I (spec_l04Run w1 ad cap us hF.see hF.nil S hF.sh hF.lens)
 rw [hF.len,hF.v] at K2
 clear hF
 go_wp2_with fail
 refine K2.out.mono ?_
 rintro e w2 ⟨a2,c2,vs,rfl,HV,hb2⟩
 have HB2:=I hb2
 obtain ⟨g,tb,tq,tc,z,rfl,hcells,hz⟩:=last_cell (HF.out.below HB2.out) HV.out.1 HV.out.2
 have HC:=I hcells;have HZ:=I hz
 clear hb2 K2 hcells hz
 have K3:=I (fun W (hb:Below w2.heap.size w2 W)=>spec_l04Gradients W ad (some ⟨g,0,none⟩) cap c2 us vs ((HF.out.see.below HB2.out).below hb) (HV.out.1.below hb).see S HF.out.sh (by rw [HV.out.2,HF.out.v]))
 rw [HF.out.len,HF.out.g] at K3
 have K4:=I (fun W (hb:Below w2.heap.size w2 W) a3 c3 gs lo hi (h1:OwnR tenR W lo hi a3 n c3 gs) (h2:gs.map (fun t=>t.toTenP.can)=gradP C)=>spec_l04Flat W a3 wa c3 wk gs ws h1 ((HF.out.ints.below HB2.out).below hb) HF.out.ix hn2 (fun t ht=>by
  have h3:=gradP_ok (os:=us.map OpD.toOpP) HF.out.sh
  rw [HF.out.g] at h3
  have h4:=h3.2 t.toTenP.can (by rw [←h2];exact List.mem_map_of_mem ht)
  simpa [TenP.can] using h4) HF.out.m)
 go_wp2_with fail
 have hni:(n:Int) - 1=((n - 1:Nat):Int):=by omega
 obtain ⟨l,hl⟩:∃l,l=n - 1:=⟨_,rfl⟩
 rw [←hl] at hni
 replace HC:=I (show ∀V,Below w2.heap.size w2 V→V.cell? ⟨g,l * 3+2,none⟩=some (.slice (some ⟨tb,tq,none⟩) 1 tc)∧V.cell? ⟨tb,tq,none⟩=some (.float .f32 z) by rw [hl];exact HC.out)
 have hln:l < n:=by omega
 have hwl:IntKind.i64.wrap (l:Int)=(l:Int):=wrap_fitL (by omega) (by omega)
 clear hl hn1 hn2
 have S0:=I (HC.out w2 (Below.refl _ _))
 refine wp_region_mix0 [2,4] (fun W=>W.cell? ⟨g,l * 3+2,none⟩=some (.slice (some ⟨tb,tq,none⟩) 1 tc)∧W.cell? ⟨tb,tq,none⟩=some (.float .f32 z)) (fun _ _ _=>False) (DLoss 86 85 n C ws) (by kernel_rfl) (by kernel_rfl) S0.out (fun W q h=>by simpa using h) ?_
 iterate 2 (refine mwalk_plain (by rfl) S0.out (fun K hK W hW=>?_);obtain ⟨e0,e1⟩:=hW;go_simp;refine hK _ ?_;clear hK K e0 e1)
 refine mwalk_spec (by rfl) S0.out (fun K hK q0=>?_)
 go_simp
 have D0:=I (below_drewN (Below.refl w2.heap.size w2) q0)
 refine ⟨(K3.out _ D0.out).mono (fun e w5 h=>by
  obtain ⟨a3,c3,gs,he,hh,hb⟩:=h
  exact ⟨_,he,fun _=>⟨a3,c3,gs,rfl,hh,hb⟩,fun h=>absurd h (by decide)⟩),?_⟩
 rintro v w3 hd
 obtain ⟨a3,c3,gs,rfl,HG,hb3⟩:=hd.1 rfl
 have HB3:=I (bthen D0.out hb3)
 have S3:=I (HC.out w3 HB3.out)
 refine ⟨S3.out,hK _ _ ?_⟩
 clear hK K hd hb3 D0 K3 S0
 refine mwalk_plain (by rfl) S3.out (fun K hK W hW=>?_);obtain ⟨e0,e1⟩:=hW;go_simp;refine hK _ ?_;clear hK K e0 e1
 refine mwalk_spec (by rfl) S3.out (fun K hK q0=>?_)
 go_simp
 have D0:=I (bthen HB3.out (below_drewN (Below.refl w3.heap.size w3) q0))
 refine ⟨(K4.out _ D0.out a3 c3 gs _ _ (HG.out.1.below (below_drewN (Below.refl w3.heap.size w3) q0)) HG.out.2).mono (fun e w5 h=>by
  obtain ⟨a4,c4,he,hh,hb⟩:=h
  exact ⟨_,he,fun h=>absurd h (by decide),fun _=>⟨a4,_,c4,flatT gs ws,rfl,I ⟨hh.out,flatT_can HG.out.2 ws⟩,hb⟩⟩),?_⟩
 rintro v w4 hd
 obtain ⟨a4,n4,c4,xs,rfl,HX,hb4⟩:=hd.2 rfl
 have hz3:=D0.out.size
 have HB4:=I (bthen D0.out hb4)
 have S4:=I (HC.out w4 HB4.out)
 refine ⟨S4.out,hK _ _ ?_⟩
 clear hK K hd hb4 D0 K4 S3 HG
 iterate 3 (refine mwalk_plain (by rfl) S4.out (fun K hK W hW=>?_);obtain ⟨e0,e1⟩:=hW;go_simp;refine hK _ ?_;clear hK K e0 e1)
 refine mwalk_plain (by rfl) S4.out (fun K hK W hW=>?_);obtain ⟨e0,e1⟩:=hW;go_simp;refine hK _ ?_;clear hK K e0 e1
 iterate 8 (refine mwalk_plain (by rfl) S4.out (fun K hK W hW=>?_);obtain ⟨e0,e1⟩:=hW;go_simp;refine hK _ ?_;clear hK K e0 e1)
 refine mwalk_nil (fun q9=>?_)
 have HB5:=I (below_drewN (bthen HB1.out (bthen HB2.out HB4.out)) q9)
 have hzz:w.heap.size≤(w3.drewN 0).heap.size:=by
  have h1:=HB1.out.size;have h2:=HB2.out.size;have h3:=HB3.out.size
  simp;omega
 have HX5:=I ((HX.out.1.bounds (Nat.le_trans hzz (by simp)) (Nat.le_refl _)).below (below_drewN (Below.refl _ _) q9))
 go_wp2
 go_ret3
 exact ⟨_,_,_,_,true,rfl,I ⟨⟨by rw [HRC.out];rfl,fun _=>⟨xs,HX5.out,HZ.out.1,by rw [HRC.out,HX.out.2,HZ.out.2];rfl⟩⟩,fun h=>(by cases h)⟩,HB5.out⟩


theorem flatG_len {G:List TenP} (hx:∀t∈G,t.xs.length≤256) (ws:List Int):(flatG G ws).length≤256 * ws.length:=by
 have hd:∀i,(vGet G i).xs.length≤256:=by
  intro i
  unfold vGet
  rw [List.getD_eq_getElem?_getD]
  cases e:G[i.toNat]? with
  | none=>exact Nat.zero_le _
  | some t=>exact hx t (List.mem_of_getElem? e)
 induction ws with
 | nil=>exact Nat.zero_le _
 | cons i ws ih =>
  have e:flatG G (i :: ws)=(vGet G i).xs ++ flatG G ws:=rfl
  rw [e,List.length_append,List.length_cons]
  have:=hd i
  omega
theorem learn_len (ls:List LayP) (X Y:TenP) (num:Nat):((learnM (modelP ls X Y num)).getD ([],0)).1.length≤3072:=by
 cases e:modelP ls X Y num with
 | none=>exact Nat.zero_le _
 | some p =>
  obtain ⟨C,ws⟩:=p
  obtain ⟨S,hS,-,-⟩:=modelP_ok e
  have h1:=(modelP_len e).2.2
  have h2:=flatG_len (gradP_ok hS).2 ws
  show (flatG (gradP C) ws).length≤3072
  omega
end
section
open Go Go.RowKit Ieee
theorem impl_areFinite_1 (x:Nat) (w:World):Calls Tryz.prog 72 #[.float .f32 x] w fun e w'=>e=.returned (.bool !(finB x))∧Dr w w':=by
 go_enter Tryz.func72,Tryz.ntmps72
 go_wp2_with (go_at_call 73;refine (impl_IsFinite _ _).mono ?_;rintro e w' ⟨rfl,⟨q,rfl⟩⟩)
 go_ret
 exact ⟨rfl,_,rfl⟩
def IdxPostF (p:Nat→Bool) (xs:List Nat) (w:World) (e:Ending) (w':World):Prop:=∃i:Int,e=.returned (.int .i64 i)∧decide (0≤i)=xs.any p∧Dr w w'
theorem idx_fin (w:World) (ad:Option Addr) (cap:Nat) (xs:List Nat) (h:F32s w ad cap xs) (hn:xs.length≤1048576) :
  Calls Tryz.prog 98 #[.slice ad xs.length cap,.func (.func 72) #[] #[]] w (IdxPostF (fun n => !(finB n)) xs w):=by
 obtain ⟨n,hN⟩:∃n,n=xs.length:=⟨_,rfl⟩
 rw [←hN] at hn ⊢
 have HN:=I hN;clear hN
 go_enter Tryz.func98,Tryz.ntmps98
 go_wp2
 go_loopw [8] (fun i wr => ∃k:Nat,i=.int .i64 k∧k≤n∧(xs.take k).any (fun n => !(finB n))=false∧Dr w wr) (fun i _=>n - (intOf i).toNat)
 case atStart=>exact ⟨0,rfl,Nat.zero_le _,rfl,Dr.refl _⟩
 case round =>
  obtain ⟨k,rfl,hk,hno,hdr⟩:=hrel
  have h:=h.below hdr.below
  have HO:=I hno;have HD:=I hdr;clear hno hdr
  by_cases hlt:k < n
  ·have hkx:k < xs.length:=by rw [←HN.out];exact hlt
   obtain ⟨b,off,rfl,_,hc⟩:=h.spot (k:=k) hkx
   have hc1:=hc k hkx
   obtain ⟨x,hx⟩:∃x,x=xs.getD k 0:=⟨_,rfl⟩
   rw [←hx] at hc1
   have HX:=I hx;clear hx hc h
   cases hb:finB x
   ·go_wp2_with (go_at_call 72;refine (impl_areFinite_1 _ _).mono ?_;rintro e w' ⟨rfl,⟨q,rfl⟩⟩)
    go_ret
    refine ⟨k,rfl,?_,HD.out.drewN _⟩
    have:(xs.any fun n => !(finB n))=true:=by
     rw [List.any_eq_true]
     exact ⟨xs.getD k 0,by rw [List.getD_eq_getElem?_getD,List.getElem?_eq_getElem hkx];exact List.getElem_mem hkx,by rw [←HX.out,hb];rfl⟩
    rw [this];simp
   ·go_wp2_with (go_at_call 72;refine (impl_areFinite_1 _ _).mono ?_;rintro e w' ⟨rfl,⟨q,rfl⟩⟩)
    go_roundw
    case rel =>
     refine ⟨k+1,by go_num,hlt,?_,HD.out.drewN _⟩
     rw [List.take_succ_eq_append_getElem hkx,List.any_append,HO.out]
     have:xs[k]=x:=by rw [HX.out,List.getD_eq_getElem?_getD,List.getElem?_eq_getElem hkx];rfl
     simp [this,hb]
    case measure=>simp [intOf];omega
  ·have hkn:k=n:=by omega
   subst hkn
   go_wp2
   go_ret
   refine ⟨-1,rfl,?_,HD.out⟩
   have:=HO.out
   rw [HN.out,List.take_length] at this
   rw [this];rfl
theorem contains_fin (w:World) (ad:Option Addr) (cap:Nat) (xs:List Nat) (h:F32s w ad cap xs) (hn:xs.length≤1048576) :
  Calls Tryz.prog 71 #[.slice ad xs.length cap,.func (.func 72) #[] #[]] w fun e w'=>e=.returned (.bool (xs.any (fun n => !(finB n))))∧Dr w w':=by
 have hc:=idx_fin w ad cap xs h hn
 have HC:=I hc;clear hc
 go_enter Tryz.func71,Tryz.ntmps71
 go_wp2_with fail
 refine HC.out.mono ?_
 rintro e w' ⟨i,rfl,hi,q,rfl⟩
 have HI:=I hi;clear hi
 go_wp2
 go_ret
 exact ⟨by rw [←HI.out];rfl,_,rfl⟩
theorem impl_areFinite (w:World) (ad:Option Addr) (cap:Nat) (xs:List Nat) (h:F32s w ad cap xs) (hn:xs.length≤1048576) :
  Calls Tryz.prog 38 #[.slice ad xs.length cap] w fun e w'=>e=.returned (.bool (xs.all finB))∧Dr w w':=by
 have hc:=contains_fin w ad cap xs h hn
 have HC:=I hc;clear hc
 go_enter Tryz.func38,Tryz.ntmps38
 go_wp2_with fail
 refine HC.out.mono ?_
 rintro e w' ⟨rfl,q,rfl⟩
 go_wp2
 go_ret
 exact ⟨by simp [List.all_eq_not_any_not],_,rfl⟩
end
section
open Go Go.RowKit
theorem lens_mod {ls:List LayD} (h:modB (ls.map LayD.toLayP)=true):ls.length≤6∧∀l∈ls,l.ws.length≤64∧l.bs.length≤8:=by
 refine ⟨by have:=(modB_len h).2;simpa using this,fun l hl=>?_⟩
 obtain ⟨k,hk,rfl⟩:=List.mem_iff_getElem.1 hl
 exact cnt_le (modB_lay h (k:=k) (l:=(ls[k]).toLayP) (by rw [List.getElem?_map,List.getElem?_eq_getElem hk];rfl))
theorem modB_of_can (ls:List LayD):modB ((ls.map fun l=>l.toLayP.can).map (mapL bfE))=modB (ls.map LayD.toLayP):=by
 rw [modB_map,show (ls.map fun l=>l.toLayP.can)=(ls.map LayD.toLayP).map LayP.can by rw [List.map_map];rfl,modB_can]
theorem scaleR_no {ls:List LayD} {X Y:TenP} {m s:Nat} (h:modB (ls.map LayD.toLayP)=false):scaleR (ls.map fun l=>l.toLayP.can) X Y m s=none:=by
 unfold scaleR
 split
 ·refine modelP_no ?_
  unfold goodM
  rw [modB_of_can,h];rfl
 ·rfl
theorem scaleR_off {L:List LayP} {X Y:TenP} {m s:Nat} (h:isScaleB s=false):scaleR L X Y m s=none:=by unfold scaleR;rw [h];rfl
theorem scaleR_on {L:List LayP} {X Y:TenP} {m s:Nat} (h:isScaleB s=true):scaleR L X Y m s=modelP (L.map (mapL bfE)) X Y (fop .mul .f32 (shareE m) (cn .f32 s)):=by unfold scaleR;rw [h];rfl
set_option maxRecDepth 100000 in
set_option maxHeartbeats 16000000 in
theorem impl_ScaledGradients (w:World) (ma:Option Addr) (mk:Nat) (ls:List LayD) (xr xc yr yc:Int) (xa ya:Option Addr) (xk yk:Nat) (xs ys:List Nat) (s:Nat) (hls:SeeR layR w ma mk ls) (hnil:nilL ls) (hx:F32s w xa xk xs) (hy:F32s w ya yk ys) (hs:s < 4294967296) :
  Calls Tryz.prog 11 #[.agg #[.slice ma ls.length mk],.agg #[.int .i64 xr,.int .i64 xc,.slice xa xs.length xk],.agg #[.int .i64 yr,.int .i64 yc,.slice ya ys.length yk],.float .f32 s] w (SPost (scaleR (ls.map fun l=>l.toLayP.can) ⟨xr,xc,xs.map (cn .f32)⟩ ⟨yr,yc,ys.map (cn .f32)⟩ ys.length s) (cn .f32 s) w):=by
 have b3:=below3 w (.cells #[.slice ma ls.length mk] 35) (.cells #[.int .i64 xr,.int .i64 xc,.slice xa xs.length xk] 37) (.cells #[.int .i64 yr,.int .i64 yc,.slice ya ys.length yk] 37)
 have BM:=I ((BoxN.alloc w #[.slice ma ls.length mk] 35).below (below2 _ (.cells #[.int .i64 xr,.int .i64 xc,.slice xa xs.length xk] 37) (.cells #[.int .i64 yr,.int .i64 yc,.slice ya ys.length yk] 37)))
 have BX:=I ((BoxN.alloc2 w (.cells #[.slice ma ls.length mk] 35) #[.int .i64 xr,.int .i64 xc,.slice xa xs.length xk] 37).below (below1 _ (.cells #[.int .i64 yr,.int .i64 yc,.slice ya ys.length yk] 37)))
 have BY:=I (BoxN.alloc3 w (.cells #[.slice ma ls.length mk] 35) (.cells #[.int .i64 xr,.int .i64 xc,.slice xa xs.length xk] 37) #[.int .i64 yr,.int .i64 yc,.slice ya ys.length yk] 37)
 have B3:=I b3
 have HLS:=I (hls.below b3);have HX:=I (hx.below b3);have HY:=I (hy.below b3)
 have K1:=I (impl_ValidModel _ ma mk ls (hls.below b3))
 obtain ⟨w3,hw3⟩:∃W,W=((w.alloc (.cells #[.slice ma ls.length mk] 35)).alloc (.cells #[.int .i64 xr,.int .i64 xc,.slice xa xs.length xk] 37)).alloc (.cells #[.int .i64 yr,.int .i64 yc,.slice ya ys.length yk] 37):=⟨_,rfl⟩
 rw [←hw3] at BM BX BY B3 HLS HX HY K1
 have HW3:=I hw3
 obtain ⟨R,hR⟩:∃R,R=scaleR (ls.map fun l=>l.toLayP.can) ⟨xr,xc,xs.map (cn .f32)⟩ ⟨yr,yc,ys.map (cn .f32)⟩ ys.length s:=⟨_,rfl⟩
 rw [←hR]
 have HR:=I hR
 have HNIL:=I hnil
 clear hls hx hy b3 hw3 hR hnil
 cases eM:modB (ls.map LayD.toLayP)
 ·rw [eM] at K1
  have HRN:Hid (R=none):=I (by rw [HR.out];exact scaleR_no eM)
  clear eM HR
  go_enter Tryz.func11,Tryz.ntmps11
  go_upto_region 1 with fail
  rw [←HW3.out]
  obtain ⟨-,p0,-⟩:=BM.out.one1
  go_wp2_with fail
  refine K1.out.mono ?_
  rintro e w4 ⟨rfl,hb⟩
  have HB:=I (bthen B3.out hb)
  clear hb p0
  go_wp2
  try simp only [Exit.inBlock,Exit.then]
  refine bodyPost_ret (v:=.tuple #[.slice none 0 0,.float .f32 0,.bool false,.bool false]) (by simp [results,Tryz.results11,go_sem]) rfl ?_
  exact SPost.none HRN.out rfl HB.out
 rw [eM] at K1
 have hlens:=lens_mod eM
 have HLN:=I hlens
 have KI:=I (fun W=>impl_isScale s W)
 cases eS:isScaleB s
 ·rw [eS] at KI
  have HRN:Hid (R=none):=I (by rw [HR.out];exact scaleR_off eS)
  clear eM eS HR hlens
  go_enter Tryz.func11,Tryz.ntmps11
  go_upto_region 1 with fail
  rw [←HW3.out]
  obtain ⟨-,p0,-⟩:=BM.out.one1
  go_wp2_with fail
  refine K1.out.mono ?_
  rintro e w4 ⟨rfl,hb⟩
  have HB:=I (bthen B3.out hb)
  clear hb p0
  go_wp2_with fail
  refine (KI.out _).mono ?_
  rintro e w5 ⟨rfl,rfl⟩
  go_wp2
  try simp only [Exit.inBlock,Exit.then]
  refine bodyPost_ret (v:=.tuple #[.slice none 0 0,.float .f32 0,.bool false,.bool false]) (by simp [results,Tryz.results11,go_sem]) rfl ?_
  exact SPost.none HRN.out rfl HB.out
 rw [eS] at KI
 rw [scaleR_on eS] at HR
 clear eM eS
 have KR:=I (fun W (hb:Below w3.heap.size w3 W)=>impl_rounded W ma mk ls (HLS.out.below hb) HNIL.out hlens.1 hlens.2)
 have KT:=I (fun W (hb:Below w3.heap.size w3 W) ad m cap (us:List LayD) {lo hi} (h:OwnR layR W lo hi ad m cap us)=>impl_modelTape W ad cap us xr xc yr yc xa ya xk yk xs ys h.see (HX.out.below hb) (HY.out.below hb))
 clear hlens
 go_enter Tryz.func11,Tryz.ntmps11
 go_upto_region 1 with fail
 rw [←HW3.out]
 obtain ⟨-,p0,-⟩:=BM.out.one1
 go_wp2_with fail
 refine K1.out.mono ?_
 rintro e w4 ⟨rfl,hb⟩
 have HB4:=I hb
 clear hb p0
 go_wp2_with fail
 refine (KI.out _).mono ?_
 rintro e w5 ⟨rfl,rfl⟩
 clear KI K1
 obtain ⟨-,p0,-⟩:=(BM.out.below HB4.out).one1
 obtain ⟨-,x0,x1,x2,-⟩:=(BX.out.below HB4.out).three
 obtain ⟨-,y0,y1,y2,-⟩:=(BY.out.below HB4.out).three
 go_wp2
 go_region_held3 (fun w'=>w'.cell? ⟨w.heap.size,0,none⟩=some (.slice ma ls.length mk)∧w'.cell? ⟨w.heap.size+1,0,none⟩=some (.int .i64 xr)∧w'.cell? ⟨w.heap.size+1,1,none⟩=some (.int .i64 xc)∧w'.cell? ⟨w.heap.size+1,2,none⟩=some (.slice xa xs.length xk)∧w'.cell? ⟨w.heap.size+1+1,0,none⟩=some (.int .i64 yr)∧w'.cell? ⟨w.heap.size+1+1,1,none⟩=some (.int .i64 yc)∧w'.cell? ⟨w.heap.size+1+1,2,none⟩=some (.slice ya ys.length yk)) (go_keep)
  (first
    | (go_at_call 36;refine (KR.out _ (bthen HB4.out (Below.drew (Below.refl _ _)))).mono ?_;rintro e w6 ⟨ad,m,cap,us,rfl,HU,hb6⟩;have HB6:=I (bthen HB4.out (below_dr1 hb6));clear hb6 p0 x0 x1 x2 y0 y1 y2;obtain ⟨-,p0,-⟩:=(BM.out.below HB6.out).one1;obtain ⟨-,x0,x1,x2,-⟩:=(BX.out.below HB6.out).three;obtain ⟨-,y0,y1,y2,-⟩:=(BY.out.below HB6.out).three)
    | (go_at_call 35;have hKT:=KT.out w6 HB6.out ad m cap us HU.out.2;rw [HU.out.2.len] at hKT;have HKT:=I hKT;clear hKT;refine HKT.out.mono ?_;rintro e w7 ⟨ta,n,tk,wa,q,wk,b,rfl,HO,hb7⟩;have HB7:=I (bthen HB6.out hb7);clear hb7 HKT p0 x0 x1 x2 y0 y1 y2;obtain ⟨-,p0,-⟩:=(BM.out.below HB7.out).one1;obtain ⟨-,x0,x1,x2,-⟩:=(BX.out.below HB7.out).three;obtain ⟨-,y0,y1,y2,-⟩:=(BY.out.below HB7.out).three))
 clear p0 x0 x1 x2 y0 y1 y2 KR KT BM BX BY
 cases b
 ·have HRN:Hid (R=none):=I (by
   have h:=HO.out.1
   rw [HU.out.1] at h
   rw [HR.out]
   refine modelP_any (num:=shareE ys.length) ?_ _
   revert h
   cases modelP ((ls.map fun l=>l.toLayP.can).map (mapL bfE)) ⟨xr,xc,xs.map (cn .f32)⟩ ⟨yr,yc,ys.map (cn .f32)⟩ (shareE ys.length) with
   | none=>intro _;rfl
   | some p=>intro h;cases h)
  have HB:=I (bthen B3.out HB7.out)
  clear HO HR HU HLS HX HY HNIL HLN
  go_wp2
  try simp only [Exit.inBlock,Exit.then]
  refine bodyPost_ret (v:=.tuple #[.slice none 0 0,.float .f32 0,.bool false,.bool false]) (by simp [results,Tryz.results11,go_sem]) rfl ?_
  exact SPost.none HRN.out rfl HB.out
 obtain ⟨C,ws,h1,h2,h3,h4⟩:=HO.out.2.1 rfl
 rw [HU.out.1] at h1
 obtain ⟨P,a,rfl,hq⟩:=modelP_num h1
 have h5:=h4.base (bthen B3.out HB6.out)
 have HRQ:=I (HR.out.trans (hq _))
 have HMQ:=I (hq (fop .mul .f32 (shareE ys.length) (cn .f32 s)))
 have HWF:=I h3
 have HLW:=I h2
 have hpl:=modelP_len (hq 0)
 have hcn:n=P.length+1:=by obtain ⟨us',e1,e2,-⟩:=h5;rw [←e1,←List.length_map (f:=fun o:OpD=>o.toOpP.can),e2];simp
 obtain ⟨g,q0,rfl,hg,hn1,hc,hf,hqn,hset⟩:=h5.setNum
 have hn48:n≤48:=by have:=hpl.1;simp at this;omega
 have hm12:q≤12:=by rw [←h2];exact hpl.2.2
 have hni:(n:Int) - 1=((n - 1:Nat):Int):=by omega
 obtain ⟨l,hl⟩:∃l,l=n - 1:=⟨_,rfl⟩
 rw [←hl] at hni hc hf hset
 have hln:l < n:=by omega
 have hwl:IntKind.i64.wrap (l:Int)=(l:Int):=wrap_fitL (by omega) (by omega)
 have HSET:=I hset;have HQN:=I hqn
 have HB8:=I (bthen B3.out HB7.out)
 have hgl:=hg.2
 clear h1 h2 h3 h4 h5 hq hpl hcn hl hset hqn hg HO HU HLS HX HY HNIL HLN HR HB6 HB7 HB4
 go_upto_region 8 with fail
 obtain ⟨y,hy⟩:∃y,y=fbits BinOp.mul FloatKind.f32 q0 s w7:=⟨_,rfl⟩
 rw [←hy]
 have hyl:y < 4294967296:=by rw [hy];exact fbits_lt _ .f32 _ _ _
 have hyc:cn .f32 y=fop .mul .f32 (shareE ys.length) (cn .f32 s):=by rw [hy,cn_fbits,HQN.out]
 have hT:=(HSET.out y hyl).move (below_drewN (Below.refl _ _) (fdr BinOp.mul FloatKind.f32 q0 s))
 have HT:Hid (TN w ((w7.drewN (fdr BinOp.mul FloatKind.f32 q0 s)).setCell ⟨g,l * 7+3,none⟩ (.float .f32 y)) (some ⟨g,0,none⟩) n tk (P ++ [opW 5 a 0 (cn .f32 y)]) [intRow wa wk ws]):=I hT
 rw [hyc] at HT
 clear hy hyl hyc hT HSET HQN hc hf hni hwl hln hn1
 generalize (w7.drewN (fdr BinOp.mul FloatKind.f32 q0 s)).setCell ⟨g,l * 7+3,none⟩ (.float .f32 y)=W9 at HT ⊢
 obtain ⟨us2,S,hF⟩:=TapeF.of HT.out HMQ.out HWF.out
 have KL:=I (impl_learned W9 _ n tk wa wk ws _ us2 S hF)
 rw [HLW.out] at KL
 have HB9:=I HT.out.below
 have HRL:=I (show learnM R=some (flatG (gradP (P ++ [opW 5 a 0 (fop .mul .f32 (shareE ys.length) (cn .f32 s))])) ws,lossP (P ++ [opW 5 a 0 (fop .mul .f32 (shareE ys.length) (cn .f32 s))])) by rw [HRQ.out];rfl)
 have HRI:=I (show R.isSome=true by rw [HRQ.out];rfl)
 have HML:=I (show (flatG (gradP (P ++ [opW 5 a 0 (fop .mul .f32 (shareE ys.length) (cn .f32 s))])) ws).length≤3072 by
  have h:=learn_len ((ls.map fun l=>l.toLayP.can).map (mapL bfE)) ⟨xr,xc,xs.map (cn .f32)⟩ ⟨yr,yc,ys.map (cn .f32)⟩ (fop .mul .f32 (shareE ys.length) (cn .f32 s))
  rw [HMQ.out] at h
  exact h)
 clear hF HT HMQ HWF HRQ HB8
 generalize P ++ [opW 5 a 0 (fop .mul .f32 (shareE ys.length) (cn .f32 s))]=C at KL HRL HML
 go_wp2_with fail
 refine KL.out.mono ?_
 rintro e w10 ⟨la,m2,c2,z,zs,rfl,HX,hb10⟩
 have hlen:=HX.out.1.len
 have hm2:m2≤3072:=by
  have h:=congrArg List.length HX.out.2.2.1
  rw [List.length_map,hlen] at h
  rw [h];exact HML.out
 have KF:=I (impl_areFinite w10 la c2 zs HX.out.1.arg (by rw [hlen];omega))
 rw [hlen] at KF
 have HZL:=I hlen
 have HB10:=I (HB9.out.trans (hb10.mono HB9.out.size))
 have HXR:=I HX.out.1;have HXZ:=I HX.out.2
 have hsz:w.heap.size≤W9.heap.size:=HB9.out.size
 clear KL hb10 HX hlen HML HB9 HLW
 go_wp2_with fail
 refine KF.out.mono ?_
 rintro e w11 ⟨rfl,hd⟩
 have HB11:=I (bthen HB10.out hd.below)
 have HX11:=I (HXR.out.below hd.below)
 have HS11:=I (And.intro HB11.out hd.below.size)
 clear hd KF HB10 HXR
 go_wp2
 go_loopw [19,63] (fun i q wt => ∃k:Nat,q=.int .i64 k∧k≤m2∧Hid (∃us,RepF wt W9.heap.size w10.heap.size la m2 c2 us∧InPl (fun g=>fop .quo .f32 g (cn .f32 s)) zs k us)∧Hid (Below w.heap.size w wt∧w10.heap.size≤wt.heap.size)) (fun i q wt=>m2 - (intOf q).toNat)
 case atStart=>exact ⟨0,rfl,Nat.zero_le _,I ⟨_,HX11.out,InPl.zero _ _⟩,HS11⟩
 case round =>
  obtain ⟨k,rfl,hk,HY,HB⟩:=hrel
  by_cases hlt:k < m2
  ·obtain ⟨us,hr,hip⟩:=HY.out
   obtain ⟨x,hx⟩:=getElem?_lt (show k < zs.length by rw [HZL.out];exact hlt)
   have HXX:=I hx
   obtain ⟨g',rfl,hge,hcc,hf,-⟩:=hr.open (by omega)
   have hck:=hcc k hlt
   rw [hip.at' hx] at hck
   have hfk:=hf k
   have hgl:g' < wr.heap.size:=(hr.row.own.lt g' rfl).2
   have HRR:=I hr;have HIP:=I hip
   clear hx hcc hr hip hf HY
   go_wp2
   refine ⟨?rel,?measure⟩
   case rel =>
    have hb1:=below_drewN (Below.refl wr.heap.size wr) (fdr BinOp.quo FloatKind.f32 x s)
    exact ⟨k+1,by go_num,hlt,I ⟨_,(HRR.out.below hb1).setAt k _ (fbits_lt _ .f32 _ _ _) (by omega),HIP.out.set HXX.out (by rw [cn_fbits])⟩,I ⟨(bthen HB.out.1 hb1).setCell (p:=⟨g',k,none⟩) (Nat.le_trans hsz hge) _,by simpa [World.setCell] using HB.out.2⟩⟩
   case measure=>simp [intOf];omega
  ·have e:k=m2:=by omega
   subst e
   obtain ⟨us,hr,hip⟩:=HY.out
   have HE:=I (hip.all HZL.out.symm)
   have HRR:=I hr
   clear hr hip HY
   go_wp2
   try simp only [Exit.inBlock,Exit.then]
   refine bodyPost_ret (v:=.tuple #[.slice la k c2,.float .f32 (fbits BinOp.quo FloatKind.f32 z s wr),.bool (zs.all finB),.bool true]) (by simp [results,Tryz.results11,go_sem]) rfl ?_
   have hb1:=below_drewN (Below.refl wr.heap.size wr) (fdr BinOp.quo FloatKind.f32 z s)
   refine ⟨_,_,_,_,_,_,us,rfl,I ⟨⟨⟨HRI.out.symm,?_⟩,?_,fbits_lt _ .f32 _ _ _⟩,?_⟩,bthen HB.out.1 hb1⟩
   ·rw [scalM_some HRL.out,←HXZ.out.2.1,all_finB_cn]
   ·rw [scalM_some HRL.out,HE.out,HXZ.out.2.1,cn_fbits,HXZ.out.2.2]
   ·exact (HRR.out.below hb1).bounds hsz (by simpa using HB.out.2)
set_option maxRecDepth 100000 in
set_option maxHeartbeats 8000000 in
theorem spec_ParamsOf_yes (w:World) (ma:Option Addr) (mk:Nat) (ls:List LayD) (hls:SeeR layR w ma mk ls) (hnil:nilL ls) (hM:modB (ls.map LayD.toLayP)=true) :
  Calls Tryz.prog 49 #[.agg #[.slice ma ls.length mk]] w fun e w' => ∃g n cap,e=.returned (.tuple #[.slice (some ⟨g,0,none⟩) n cap,.bool true])∧Hid (RepF w' w.heap.size w'.heap.size (some ⟨g,0,none⟩) n cap (paramsP (ls.map LayD.toLayP)))∧Below w.heap.size w w':=by
 obtain ⟨hl6,hlens⟩:=lens_mod hM
 have hb1:=below1 w (.cells #[.slice ma ls.length mk] 35)
 have BM:=I (BoxN.alloc w #[.slice ma ls.length mk] 35)
 obtain ⟨W1,hW1⟩:∃W,W=w.alloc (.cells #[.slice ma ls.length mk] 35):=⟨_,rfl⟩
 rw [←hW1] at hb1 BM
 have HB1:=I hb1;have HW1:=I hW1
 have K1:=I (spec_l03Is W1 w.heap.size 0 ma mk ls (hls.below hb1) BM.out.one1.2.1)
 rw [hM] at K1
 have K2:=I (fun W (hb:Below W1.heap.size W1 W)=>spec_l03Params W w.heap.size 0 ma mk ls (BM.out.below hb).one1.1 (BM.out.below hb).one1.2.1 ((hls.below hb1).below hb) hnil hl6 hlens)
 clear hls hnil hM hl6 hlens hb1 hW1
 go_enter Tryz.func49,Tryz.ntmps49
 go_upto_region 1 with fail
 rw [←HW1.out]
 go_wp2_with fail
 refine K1.out.mono ?_
 rintro e w2 ⟨rfl,hd⟩
 have HB2:=I hd.below
 clear hd K1
 go_wp2_with fail
 refine (K2.out _ HB2.out).mono ?_
 rintro e w3 ⟨g,n,cap,rfl,HR,hb3⟩
 have HB3:=I (bthen (bthen HB1.out HB2.out) hb3)
 have hs2:=(bthen HB1.out HB2.out).size
 clear hb3 K2
 go_wp2
 go_ret2
 exact ⟨g,n,cap,rfl,I (HR.out.bounds hs2 (Nat.le_refl _)),HB3.out⟩
set_option maxRecDepth 100000 in
set_option maxHeartbeats 8000000 in
theorem spec_WithParams_yes (w:World) (ma:Option Addr) (mk:Nat) (ls:List LayD) (b off ck:Nat) (xs:List Nat) (hls:SeeR layR w ma mk ls) (hnil:nilL ls) (hM:modB (ls.map LayD.toLayP)=true) (hx:F32s w (some ⟨b,off,none⟩) ck xs) (hbw:b < w.heap.size) (hcnt:xs.length=cntP (ls.map LayD.toLayP)) :
  Calls Tryz.prog 50 #[.agg #[.slice ma ls.length mk],.slice (some ⟨b,off,none⟩) xs.length ck] w fun e w' => ∃ad n cap us,e=.returned (.tuple #[.agg #[.slice ad n cap],.bool true])∧Hid (us.map (fun l=>l.toLayP.can)=(withP (ls.map LayD.toLayP) xs).map LayP.can∧OwnR layR w' w.heap.size w'.heap.size ad n cap us)∧Below w.heap.size w w':=by
 obtain ⟨hl6,hlens⟩:=lens_mod hM
 have hb2:=below2 w (.cells #[.slice ma ls.length mk] 35) (.cells #[.slice none 0 0] 35)
 have BM:=I ((BoxN.alloc w #[.slice ma ls.length mk] 35).below (below1 _ (.cells #[.slice none 0 0] 35)))
 have BR:=I (BoxN.alloc2 w (.cells #[.slice ma ls.length mk] 35) #[.slice none 0 0] 35)
 obtain ⟨W2,hW2⟩:∃W,W=(w.alloc (.cells #[.slice ma ls.length mk] 35)).alloc (.cells #[.slice none 0 0] 35):=⟨_,rfl⟩
 have hs2:W2.heap.size=w.heap.size+1+1:=by rw [hW2];simp
 rw [←hW2] at hb2 BM BR
 have HB2:=I hb2;have HW2:=I hW2
 have K1:=I (spec_l03Is W2 w.heap.size 0 ma mk ls (hls.below hb2) BM.out.one1.2.1)
 rw [hM] at K1
 have K2:=I (fun W (hb:Below W2.heap.size W2 W)=>spec_l03Params W w.heap.size 0 ma mk ls (BM.out.below hb).one1.1 (BM.out.below hb).one1.2.1 ((hls.below hb2).below hb) hnil hl6 hlens)
 have K3:=I (fun W (hb:Below W2.heap.size W2 W)=>spec_l03With W w.heap.size 0 ma mk ls (BM.out.below hb).one1.1 (BM.out.below hb).one1.2.1 b off ck xs ((hls.below hb2).below hb) ((hx.below hb2).below hb) (Nat.lt_of_lt_of_le hbw (bthen hb2 hb).size) hl6 hlens hcnt)
 obtain ⟨m,hM2⟩:∃m,m=xs.length:=⟨_,rfl⟩
 have hcl:=cnt_lens ls hlens
 have hPL:(paramsP (ls.map LayD.toLayP)).length=m:=by rw [hM2,hcnt];rfl
 rw [←hM2] at K3 ⊢
 have HPL:=I hPL
 have hm:m≤432:=by rw [hM2,hcnt];omega
 clear hls hnil hM hl6 hlens hb2 hW2 hx hbw hcnt hM2 hcl hPL
 go_enter Tryz.func50,Tryz.ntmps50
 go_upto_region 1 with fail
 rw [←HW2.out]
 go_wp2_with fail
 refine K1.out.mono ?_
 rintro e w3 ⟨rfl,hd⟩
 have HB3:=I hd.below
 clear hd K1
 go_wp2_with fail
 refine (K2.out _ HB3.out).mono ?_
 rintro e w4 ⟨g,n,cap,rfl,HR,hb4⟩
 have hnm:n=m:=by rw [←HR.out.len,HPL.out]
 subst hnm
 have HB4:=I (bthen HB3.out hb4)
 clear hb4 K2 HR
 go_wp2_with fail
 refine (K3.out _ HB4.out).mono ?_
 rintro e w5 ⟨ad,q,c5,us,rfl,HU,hb5⟩
 have HB5:=I (bthen HB4.out hb5)
 have hs4:=HB4.out.size
 clear hb5 K3
 obtain ⟨hlr,r0,rf⟩:=(BR.out.below HB5.out).one1
 have hrf:=rf 0
 clear rf
 go_wp2
 try simp only [Exit.inBlock,Exit.then]
 refine bodyPost_ret (v:=.tuple #[.agg #[.slice ad q c5],.bool true]) (by simp [results,Tryz.results50,go_sem,r0,hlr]) rfl ?_
 have ht:Touch (w.heap.size+1) (w.heap.size+2) w5 (w5.setCell ⟨w.heap.size+1,0,none⟩ (.slice ad q c5)):=Touch.setCell (Nat.le_refl _) (Nat.lt_succ_self _)
 exact ⟨ad,q,c5,us,rfl,I ⟨HU.out.1,((HU.out.2.touch ht (.inr (by omega))).bounds (by omega) (by simp [World.setCell]))⟩,((bthen HB2.out HB5.out).setCell (p:=⟨w.heap.size+1,0,none⟩) (by show w.heap.size≤w.heap.size+1;omega) _)⟩
def wsum (ops:List OpP) (ws:List Int):Nat:=(ws.map fun i=>(opAtP ops i.toNat).xs.length).sum
def insAt (ops:List OpP) (ws:List Int):Prop:=∀i∈ws,(0≤i∧i.toNat < ops.length)∧(opAtP ops i.toNat).k=0
theorem opAtP_app {ops B:List OpP} {i:Nat} (h:i < ops.length):opAtP (ops ++ B) i=opAtP ops i:=by
 unfold opAtP
 rw [List.getD_eq_getElem?_getD,List.getD_eq_getElem?_getD,List.getElem?_append_left h]
theorem wsum_app {ops B:List OpP} {ws:List Int} (h:insAt ops ws):wsum (ops ++ B) ws=wsum ops ws∧insAt (ops ++ B) ws:=by
 refine ⟨?_,fun i hi=>?_⟩
 ·unfold wsum
  congr 1
  refine List.map_congr_left fun i hi=>?_
  rw [opAtP_app (h i hi).1.2]
 ·have h1:=h i hi
  rw [opAtP_app h1.1.2,List.length_append]
  exact ⟨⟨h1.1.1,by omega⟩,h1.2⟩
theorem wsum_snoc (ops:List OpP) (ws:List Int) (i:Int):wsum ops (ws ++ [i])=wsum ops ws+(opAtP ops i.toNat).xs.length:=by unfold wsum;simp
theorem insAt_snoc {ops:List OpP} {ws:List Int} {i:Int} (h:insAt ops ws) (h1:0≤i∧i.toNat < ops.length) (h2:(opAtP ops i.toNat).k=0):insAt ops (ws ++ [i]):=fun j hj=>by
 rcases List.mem_append.1 hj with hj | hj
 ·exact h j hj
 ·rcases List.mem_singleton.1 hj with rfl;exact ⟨h1,h2⟩
theorem opAtP_mid (ops B:List OpP) (o:OpP):opAtP (ops ++ o :: B) ops.length=o:=by
 unfold opAtP;rw [List.getD_eq_getElem?_getD];simp
theorem stM_sum {ls:List LayP} {X Y:TenP} (hg:modB ls=true) {k:Nat} {s:MS} (h:stM ls X Y k=some s):wsum s.ops s.ws=cntP (ls.take k)∧insAt s.ops s.ws:=by
 induction k generalizing s with
 | zero =>
  rw [stM] at h;cases h
  exact ⟨rfl,fun i hi=>(nomatch hi)⟩
 | succ k ih =>
  rw [stM] at h
  obtain ⟨s0,h0,h1⟩:=Option.bind_eq_some_iff.1 h
  obtain ⟨l,hl,h2⟩:=Option.bind_eq_some_iff.1 h1
  obtain ⟨ih1,ih2⟩:=ih h0
  have ht:cntP (ls.take (k+1))=cntP (ls.take k)+(l.ws.length+l.bs.length):=(withP_take hl []).2.1
  obtain ⟨-,-,-,-,c1,c2⟩:=layB_iff (modB_lay hg hl)
  unfold stepL at h2
  split at h2
  ·cases h2
   obtain ⟨e1,e2⟩:=wsum_app (B:=[opIn l.o l.i l.ws,opIn 1 l.o l.bs,opW 7 s0.ops.length 0 0,opW 6 s0.p (s0.ops.length+2) 0,opW 2 (s0.ops.length+3) (s0.ops.length+1) 0]) ih2
   have eo:(denseM s0 l s0.ops.length).ops=s0.ops ++ [opIn l.o l.i l.ws,opIn 1 l.o l.bs,opW 7 s0.ops.length 0 0,opW 6 s0.p (s0.ops.length+2) 0,opW 2 (s0.ops.length+3) (s0.ops.length+1) 0]:=by unfold denseM;simp
   have a1:opAtP (denseM s0 l s0.ops.length).ops (s0.ops.length:Int).toNat=opIn l.o l.i l.ws:=by rw [eo,show ((s0.ops.length:Nat):Int).toNat=s0.ops.length by simp];exact opAtP_mid _ _ _
   have a2:opAtP (denseM s0 l s0.ops.length).ops ((s0.ops.length:Int)+1).toNat=opIn 1 l.o l.bs:=by
    rw [eo,show ((s0.ops.length:Int)+1).toNat=(s0.ops ++ [opIn l.o l.i l.ws]).length by (simp <;> omega)]
    have:=opAtP_mid (s0.ops ++ [opIn l.o l.i l.ws]) [opW 7 s0.ops.length 0 0,opW 6 s0.p (s0.ops.length+2) 0,opW 2 (s0.ops.length+3) (s0.ops.length+1) 0] (opIn 1 l.o l.bs)
    rw [List.append_assoc] at this
    exact this
   have ew:(denseM s0 l s0.ops.length).ws=s0.ws ++ [(s0.ops.length:Int)] ++ [(s0.ops.length:Int)+1]:=rfl
   have hlen:(denseM s0 l s0.ops.length).ops.length=s0.ops.length+5:=by rw [eo];simp
   rw [←eo] at e1 e2
   refine ⟨?_,?_⟩
   ·rw [ew,wsum_snoc,wsum_snoc,e1,a1,a2,ih1,ht]
    show cntP (ls.take k)+l.ws.length+l.bs.length = _
    omega
   ·rw [ew]
    exact insAt_snoc (insAt_snoc e2 ⟨by omega,by rw [hlen];omega⟩ (by rw [a1];rfl)) ⟨by omega,by rw [hlen];omega⟩ (by rw [a2];rfl)
  ·rename_i hk0
   split at h2
   ·rename_i hk
    cases h2
    obtain ⟨e1,e2⟩:=wsum_app (B:=[opW 8 s0.p 0 0]) ih2
    rw [hk] at c1 c2
    have d1:(l.ws.length:Int)=0:=c1
    have d2:(l.bs.length:Int)=0:=c2
    refine ⟨?_,e2⟩
    show wsum (s0.ops ++ [opW 8 s0.p 0 0]) s0.ws = _
    rw [e1,ih1,ht];omega
   ·split at h2
    ·rename_i hk1 hk
     cases h2
     obtain ⟨e1,e2⟩:=wsum_app (B:=[opIn 1 l.i l.ws,opW 4 s0.p s0.ops.length 0]) ih2
     rw [hk] at c2
     have d2:(l.bs.length:Int)=0:=c2
     have eo:(scaleM s0 l s0.ops.length).ops=s0.ops ++ [opIn 1 l.i l.ws,opW 4 s0.p s0.ops.length 0]:=by unfold scaleM;simp
     have a1:opAtP (scaleM s0 l s0.ops.length).ops (s0.ops.length:Int).toNat=opIn 1 l.i l.ws:=by rw [eo,show ((s0.ops.length:Nat):Int).toNat=s0.ops.length by simp];exact opAtP_mid _ _ _
     have ew:(scaleM s0 l s0.ops.length).ws=s0.ws ++ [(s0.ops.length:Int)]:=rfl
     have hlen:(scaleM s0 l s0.ops.length).ops.length=s0.ops.length+2:=by rw [eo];simp
     rw [←eo] at e1 e2
     refine ⟨?_,?_⟩
     ·rw [ew,wsum_snoc,e1,a1,ih1,ht]
      show cntP (ls.take k)+l.ws.length = _
      omega
     ·rw [ew]
      exact insAt_snoc e2 ⟨by omega,by rw [hlen];omega⟩ (by rw [a1];rfl)
    ·cases h2
theorem valsN_len {C:List OpP} {n:Nat} (hn:n≤C.length):(valsN C n).length=n:=by
 induction n with
 | zero=>rfl
 | succ n ih =>
  obtain ⟨o,ho⟩:=getElem?_lt (show n < C.length by omega)
  rw [valsN_succ ho,List.length_append,ih (by omega)];rfl
theorem vals_at {C:List OpP} {n i:Nat} (hi:i < n) (hn:n≤C.length):vGet (valsN C n) (i:Int)=stepV (valsN C i) (opAtP C i):=by
 induction n with
 | zero=>omega
 | succ n ih =>
  obtain ⟨o,ho⟩:=getElem?_lt (show n < C.length by omega)
  have hl:=valsN_len (show n≤C.length by omega)
  rw [valsN_succ ho]
  by_cases e:i=n
  ·subst e
   unfold vGet
   rw [List.getD_eq_getElem?_getD,show ((i:Nat):Int).toNat=i by simp,List.getElem?_append_right (by omega),hl,Nat.sub_self,opAtP_some ho];rfl
  ·rw [←ih (by omega) (by omega)]
   unfold vGet
   rw [List.getD_eq_getElem?_getD,List.getD_eq_getElem?_getD,show ((i:Nat):Int).toNat=i by simp,List.getElem?_append_left (by omega)]
theorem grad_len {C:List OpP} {S:List Sh} (hS:shapesP C=some S) {i:Nat} (hi:i < C.length) (hk:(opAtP C i).k=0):(vGet (gradP C) (i:Int)).xs.length=(opAtP C i).xs.length:=by
 have hv:=valsP_ok hS
 have hg:=OkG.at hS C.length (Nat.le_refl _)
 have h1:=(hg.2 i (by rw [hv.1];exact hi)).1
 have h2:okT (vGet (valsP C) (i:Int)):=hv.2 _ (by rw [vGet_nat (by rw [hv.1];exact hi)];exact List.getElem_mem _)
 have h3:vGet (valsP C) (i:Int)=stepV (valsN C i) (opAtP C i):=vals_at hi (Nat.le_refl _)
 have h4:(vGet (valsP C) (i:Int)).xs.length=(opAtP C i).xs.length:=by
  rw [h3];unfold stepV;rw [if_pos hk];simp
 have h5:(vGet (gradP C) (i:Int)).xs.length=(vGet (valsP C) (i:Int)).xs.length:=by
  have e1:=h1.1.len
  have e2:=h2.len
  have e3:(vGet (gradP C) (i:Int)).sh=(vGet (valsP C) (i:Int)).sh:=h1.2
  have e4:=congrArg Prod.fst e3;have e5:=congrArg Prod.snd e3
  have e6:(vGet (gradP C) (i:Int)).r=(vGet (valsP C) (i:Int)).r:=e4
  have e7:(vGet (gradP C) (i:Int)).c=(vGet (valsP C) (i:Int)).c:=e5
  have e8:(vGet (gradP C) (i:Int)).xs.length=(vGet (gradP C) (i:Int)).r.toNat * (vGet (gradP C) (i:Int)).c.toNat:=e1
  rw [e8,e2,e6,e7]
 rw [h5,h4]
theorem flat_wsum {C:List OpP} {S:List Sh} (hS:shapesP C=some S) {ws:List Int} (h:insAt C ws):(flatG (gradP C) ws).length=wsum C ws:=by
 unfold flatG wsum
 induction ws with
 | nil=>rfl
 | cons i ws ih =>
  rw [List.flatMap_cons,List.length_append,List.map_cons,List.sum_cons,ih (fun j hj=>h j (List.mem_cons_of_mem _ hj))]
  obtain ⟨⟨h0,h1⟩,h2⟩:=h i (List.mem_cons_self ..)
  obtain ⟨k,rfl⟩:∃k:Nat,i=k:=⟨i.toNat,by omega⟩
  rw [show ((k:Nat):Int).toNat=k by simp] at h1 h2 ⊢
  rw [grad_len hS h1 h2]
theorem learn_cnt {ls:List LayP} {X Y:TenP} {num:Nat} {G:List Nat} {z:Nat} (h:learnM (modelP ls X Y num)=some (G,z)):G.length=cntP ls:=by
 cases e:modelP ls X Y num with
 | none=>rw [e] at h;cases h
 | some p =>
  obtain ⟨C,ws⟩:=p
  rw [e] at h
  obtain ⟨S,hS,-,-⟩:=modelP_ok e
  have hG:G=flatG (gradP C) ws:=by
   have h0:some (flatG (gradP C) ws,lossP C)=some (G,z):=h
   have:=Option.some.inj h0
   exact (congrArg Prod.fst this).symm
  unfold modelP at e
  split at e
  ·rename_i hg
   obtain ⟨s,hs,e2⟩:=Option.map_eq_some_iff.1 e
   cases e2
   have hg1:modB ls=true:=by unfold goodM at hg;simp only [Bool.and_eq_true] at hg;exact hg.1
   obtain ⟨h1,h2⟩:=stM_sum hg1 hs
   have hf:finM s num=s.ops ++ [opW 5 1 0 3212836864,opW 1 s.p s.ops.length 0,opW 9 (s.ops.length+1) 0 0,opW 10 (s.ops.length+2) 0 0,opW 5 (s.ops.length+3) 0 num]:=by unfold finM finN;simp
   have h3:=wsum_app (B:=[opW 5 1 0 3212836864,opW 1 s.p s.ops.length 0,opW 9 (s.ops.length+1) 0 0,opW 10 (s.ops.length+2) 0 0,opW 5 (s.ops.length+3) 0 num]) h2
   rw [←hf] at h3
   rw [hG,flat_wsum hS h3.2,h3.1,h1,List.take_length]
  ·cases e
end
section
open Go Go.RowKit Ieee
theorem order_some {x y:Nat} (hx:isN .f32 x=false) (hy:isN .f32 y=false):∃c,single.order x y=some c:=by
 unfold isN at hx hy
 show ∃c,(single.read x).order (single.read y)=some c
 have hx':(single.read x).isNaN=false:=hx
 have hy':(single.read y).isNaN=false:=hy
 cases h1:single.read x with
 | nan s t=>rw [h1] at hx';cases hx'
 | infinity s =>
  cases h2:single.read y with
  | nan s t=>rw [h2] at hy';cases hy'
  | infinity t=>exact ⟨_,rfl⟩
  | number t m p=>exact ⟨_,rfl⟩
 | number s m p =>
  cases h2:single.read y with
  | nan s t=>rw [h2] at hy';cases hy'
  | infinity t=>exact ⟨_,rfl⟩
  | number t m p=>exact ⟨_,rfl⟩
def downF (a:Nat):Nat:=if FloatKind.f32.format.order a 947912704 == some .lt then 947912704 else a
def upF (t:Nat):Nat:=if FloatKind.f32.format.order t 1266679808 == some .gt then 1266679808 else t
def nS (s:Nat) (g q:Int) (fin:Bool):Nat:=if validScaleB s g q=false then 0 else if fin=false then downF (fop .quo .f32 s 1073741824) else if q≤g+1 then upF (fop .mul .f32 s 1073741824) else s
def nG (s:Nat) (g q:Int) (fin:Bool):Int:=if validScaleB s g q=false then 0 else if fin=false then 0 else if q≤g+1 then 0 else g+1
def nQ (s:Nat) (g q:Int):Int:=if validScaleB s g q=false then 0 else q
structure Stp (s a d t b:Nat):Prop where
 half:∀w,fbits .quo .f32 s 1073741824 w=a
 half0:fdr .quo .f32 s 1073741824=0
 halfE:fop .quo .f32 s 1073741824=a
 more:maxF .f32 a 947912704=some d
 down:downF a=d
 twice:∀w,fbits .mul .f32 1073741824 s w=t
 twice0:fdr .mul .f32 1073741824 s=0
 two:∀w,fbits .mul .f32 s 1073741824 w=t
 two0:fdr .mul .f32 s 1073741824=0
 twoE:fop .mul .f32 s 1073741824=t
 less:minF .f32 t 1266679808=some b
 up:upF t=b
theorem valid_parts {s:Nat} {g q:Int} (h:validScaleB s g q=true):isScaleB s=true∧0≤g∧g≤1000∧1≤q∧q≤1000:=by
 simp only [validScaleB,Bool.and_eq_true] at h
 have h1:=inB_iff.1 h.1.2
 have h2:=inB_iff.1 h.2
 exact ⟨h.1.1,h1.1,h1.2,h2.1,h2.2⟩
theorem stp_of {s:Nat} (hs:s < 4294967296) (h:isScaleB s=true):∃a d t b,Stp s a d t b:=by
 have hi:single.infRung=2139095040:=by decide +kernel
 unfold isScaleB at h
 simp only [Bool.and_eq_true,Bool.or_eq_true,beq_iff_eq] at h
 obtain ⟨h1,h2⟩:=between (a:=947912704) (b:=1266679808) hs (by omega) (by omega) (by omega) h.1 h.2
 obtain ⟨a,ha,ha2,ha3⟩:=half_pos (s:=s) (by omega) (by omega)
 obtain ⟨t,ht,ht2,ht3⟩:=twice_pos (s:=s) (by omega) (by omega)
 have hl:isN .f32 947912704=false:=by decide +kernel
 have hm:isN .f32 1266679808=false:=by decide +kernel
 have htn:isN .f32 t=false:=read_word_le single false ht3
 obtain ⟨c,hc⟩:=order_some ha3 hl
 obtain ⟨c2,hc2⟩:=order_some htn hm
 refine ⟨a,downF a,t,upF t,fun w=>fbits_some ha w,fdr_some ha,by unfold fop;rw [ha];rfl,?_,rfl,fun w=>fbits_some ht w,fdr_some ht,fun w=>fbits_some ht2 w,fdr_some ht2,by unfold fop;rw [ht2];rfl,?_,rfl⟩
 ·unfold maxF downF
  rw [show FloatKind.f32.format.order a 947912704=some c from hc]
  cases c
  ·rfl
  ·simp only [show (FloatKind.f32.decode a).neg=false from ha2];rfl
  ·rfl
 ·unfold minF upF
  rw [show FloatKind.f32.format.order t 1266679808=some c2 from hc2]
  cases c2
  ·rfl
  ·have:=eq_of_order ht3 (by omega) hc2
   subst this
   simp
  ·rfl
theorem impl_next_no (s:Nat) (g q:Int) (a d t b:Nat) (h:Stp s a d t b) (w:World) :
  Calls Tryz.prog 46 #[.agg #[.float .f32 s,.int .i64 g,.int .i64 q],.bool false] w fun e w'=>e=.returned (.agg #[.float .f32 d,.int .i64 0,.int .i64 q])∧Below w.heap.size w w':=by
 have h1:=h.half
 have h2:=h.half0
 have hz:=World.drewN_none
 have h3:=fun w A T=>run_max_f (P:=Tryz.prog) w A T .f32 a 947912704 d h.more
 go_enter Tryz.func46,Tryz.ntmps46
 go_wp2
 exact bodyPost_ret (v:=.agg #[.float .f32 d,.int .i64 0,.int .i64 q]) (by simp [results,Tryz.results46,go_sem]) rfl ⟨rfl,by repeat (first | exact Below.refl _ _ | refine Below.setCell ?_ (by simp) _ | refine below_drewN ?_ _ | refine Below.alloc ?_ (by simp) _)⟩
theorem impl_next_full (s:Nat) (g q:Int) (a d t b:Nat) (h:Stp s a d t b) (hg0:0≤g) (hg:g≤1000) (hq:q≤g+1) (w:World) :
  Calls Tryz.prog 46 #[.agg #[.float .f32 s,.int .i64 g,.int .i64 q],.bool true] w fun e w'=>e=.returned (.agg #[.float .f32 b,.int .i64 0,.int .i64 q])∧Below w.heap.size w w':=by
 have h1:=h.twice
 have h2:=h.twice0
 have hz:=World.drewN_none
 have h3:=fun w A T=>run_min_f (P:=Tryz.prog) w A T .f32 t 1266679808 b h.less
 go_enter Tryz.func46,Tryz.ntmps46
 go_wp2
 exact bodyPost_ret (v:=.agg #[.float .f32 b,.int .i64 0,.int .i64 q]) (by simp [results,Tryz.results46,go_sem]) rfl ⟨rfl,by repeat (first | exact Below.refl _ _ | refine Below.setCell ?_ (by simp) _ | refine below_drewN ?_ _ | refine Below.alloc ?_ (by simp) _)⟩
theorem impl_next_more (s:Nat) (g q:Int) (hg0:0≤g) (hg:g≤1000) (hq:g+1 < q) (hq2:q≤1000) (w:World) :
  Calls Tryz.prog 46 #[.agg #[.float .f32 s,.int .i64 g,.int .i64 q],.bool true] w fun e w'=>e=.returned (.agg #[.float .f32 s,.int .i64 (g+1),.int .i64 q])∧Below w.heap.size w w':=by
 go_enter Tryz.func46,Tryz.ntmps46
 go_wp2
 exact bodyPost_ret (v:=.agg #[.float .f32 s,.int .i64 (g+1),.int .i64 q]) (by simp [results,Tryz.results46,go_sem]) rfl ⟨rfl,by repeat (first | exact Below.refl _ _ | refine Below.setCell ?_ (by simp) _ | refine below_drewN ?_ _ | refine Below.alloc ?_ (by simp) _)⟩
theorem l00Min_any (a b:Int) (w:World):Calls Tryz.prog 99 #[.int .i64 a,.int .i64 b] w fun e w'=>e=.returned (.int .i64 (if a < b then a else b))∧w=w':=by
 by_cases h:a < b
 ·rw [if_pos h]
  go_enter Tryz.func99,Tryz.ntmps99
  go_wp2
  go_ret
  exact ⟨rfl,rfl⟩
 ·rw [if_neg h]
  go_enter Tryz.func99,Tryz.ntmps99
  go_wp2
  go_ret
  exact ⟨rfl,rfl⟩
theorem spec_next_no (s:Nat) (g q:Int) (a d t b:Nat) (h:Stp s a d t b) (w:World) :
  Calls Tryz.prog 75 #[.agg #[.float .f32 s,.int .i64 g,.int .i64 q],.bool false] w fun e w'=>e=.returned (.agg #[.float .f32 d,.int .i64 0,.int .i64 q])∧Below w.heap.size w w':=by
 have h1:=h.half
 have h2:=h.half0
 have hz:=World.drewN_none
 have h3:=h.down
 unfold downF at h3
 cases ho:(FloatKind.f32.format.order a 947912704 == some .lt)
 ·rw [if_neg (by rw [ho];decide)] at h3
  subst h3
  go_enter Tryz.func75,Tryz.ntmps75
  go_wp2
  exact bodyPost_ret (v:=.agg #[.float .f32 a,.int .i64 0,.int .i64 q]) (by simp [results,Tryz.results75,go_sem]) rfl ⟨rfl,by repeat (first | exact Below.refl _ _ | refine Below.setCell ?_ (by simp) _ | refine below_drewN ?_ _ | refine Below.alloc ?_ (by simp) _)⟩
 ·rw [if_pos ho] at h3
  subst h3
  go_enter Tryz.func75,Tryz.ntmps75
  go_wp2
  exact bodyPost_ret (v:=.agg #[.float .f32 947912704,.int .i64 0,.int .i64 q]) (by simp [results,Tryz.results75,go_sem]) rfl ⟨rfl,by repeat (first | exact Below.refl _ _ | refine Below.setCell ?_ (by simp) _ | refine below_drewN ?_ _ | refine Below.alloc ?_ (by simp) _)⟩
theorem spec_next_full (s:Nat) (g q:Int) (a d t b:Nat) (h:Stp s a d t b) (hg0:0≤g) (hg:g≤1000) (hq:q≤g+1) (w:World) :
  Calls Tryz.prog 75 #[.agg #[.float .f32 s,.int .i64 g,.int .i64 q],.bool true] w fun e w'=>e=.returned (.agg #[.float .f32 b,.int .i64 0,.int .i64 q])∧Below w.heap.size w w':=by
 have h1:=h.two
 have h2:=h.two0
 have hz:=World.drewN_none
 have h3:=h.up
 unfold upF at h3
 cases ho:(FloatKind.f32.format.order t 1266679808 == some .gt)
 ·rw [if_neg (by rw [ho];decide)] at h3
  subst h3
  go_enter Tryz.func75,Tryz.ntmps75
  go_wp2_with (go_at_call 99;refine (l00Min_any _ _ _).mono ?_;rintro e w' ⟨rfl,rfl⟩)
  exact bodyPost_ret (v:=.agg #[.float .f32 t,.int .i64 0,.int .i64 q]) (by simp [results,Tryz.results75,go_sem]) rfl ⟨rfl,by repeat (first | exact Below.refl _ _ | refine Below.setCell ?_ (by simp) _ | refine below_drewN ?_ _ | refine Below.alloc ?_ (by simp) _)⟩
 ·rw [if_pos ho] at h3
  subst h3
  go_enter Tryz.func75,Tryz.ntmps75
  go_wp2_with (go_at_call 99;refine (l00Min_any _ _ _).mono ?_;rintro e w' ⟨rfl,rfl⟩)
  exact bodyPost_ret (v:=.agg #[.float .f32 1266679808,.int .i64 0,.int .i64 q]) (by simp [results,Tryz.results75,go_sem]) rfl ⟨rfl,by repeat (first | exact Below.refl _ _ | refine Below.setCell ?_ (by simp) _ | refine below_drewN ?_ _ | refine Below.alloc ?_ (by simp) _)⟩
theorem spec_next_more (s:Nat) (g q:Int) (hg0:0≤g) (hg:g≤1000) (hq:g+1 < q) (hq2:q≤1000) (w:World) :
  Calls Tryz.prog 75 #[.agg #[.float .f32 s,.int .i64 g,.int .i64 q],.bool true] w fun e w'=>e=.returned (.agg #[.float .f32 s,.int .i64 (g+1),.int .i64 q])∧Below w.heap.size w w':=by
 have hc:=fun w=>l00Min_any (g+1) 1000 w
 rw [if_pos (by omega)] at hc
 have HC:=I hc;clear hc
 go_enter Tryz.func75,Tryz.ntmps75
 go_wp2_with (go_at_call 99;refine (HC.out _).mono ?_;rintro e w' ⟨rfl,rfl⟩)
 exact bodyPost_ret (v:=.agg #[.float .f32 s,.int .i64 (g+1),.int .i64 q]) (by simp [results,Tryz.results75,go_sem]) rfl ⟨rfl,by repeat (first | exact Below.refl _ _ | refine Below.setCell ?_ (by simp) _ | refine below_drewN ?_ _ | refine Below.alloc ?_ (by simp) _)⟩
theorem laws_eqLossScale (s:Nat) (g q:Int) (w:World):Calls Tryz.prog 23 #[.agg #[.float .f32 s,.int .i64 g,.int .i64 q],.agg #[.float .f32 s,.int .i64 g,.int .i64 q]] w fun e w'=>e=.returned (.bool true)∧Below w.heap.size w w':=by
 go_enter Tryz.func23,Tryz.ntmps23
 go_wp2_with fail
 refine (sameFloat_any _ _ (by rw [cn_wide,cn_wide]) _).mono ?_
 rintro e w1 ⟨rfl,hd⟩
 have hb1:=hd.below
 obtain ⟨hc1,hf1,hl1⟩:=bkeep w.heap.size hb1 (by first | assumption | (simp;done) | (simp;omega))
 obtain ⟨hc2,hf2,hl2⟩:=bkeep (w.heap.size+1) hb1 (by first | assumption | (simp;done) | (simp;omega))
 go_wp2
 go_ret
 exact ⟨rfl,bthen (by repeat (first | exact below2 _ _ _ | refine below_drewN ?_ _)) hb1⟩
end
section
open Go Go.RowKit
def InPlT (Z:List Nat) (xs:List Nat) (k:Nat) (ys:List Nat):Prop:=∃zs,ys=zs ++ xs.drop k∧zs.length=k∧zs.map (cn .f32)=Z.take k
theorem InPlT.zero (Z:List Nat) (xs:List Nat):InPlT Z xs 0 xs:=⟨[],rfl,rfl,rfl⟩
theorem InPlT.at' {Z:List Nat} {xs ys:List Nat} {k x:Nat} (h:InPlT Z xs k ys) (hx:xs[k]? = some x):ys.getD k 0=x:=by
 obtain ⟨zs,rfl,h2,h3⟩:=h
 rw [drop_cons hx,List.getD_eq_getElem?_getD,List.getElem?_append_right (by omega),h2,Nat.sub_self];rfl
theorem InPlT.set {Z:List Nat} {xs ys:List Nat} {k x y:Nat} (h:InPlT Z xs k ys) (hx:xs[k]? = some x) (hy:Z[k]? = some (cn .f32 y)):InPlT Z xs (k+1) (ys.set k y):=by
 obtain ⟨zs,rfl,h2,h3⟩:=h
 refine ⟨zs ++ [y],?_,by simp [h2],?_⟩
 ·rw [drop_cons hx]
  subst h2
  rw [set_mid,List.append_assoc];rfl
 ·rw [List.map_append,h3,List.take_add_one,hy];rfl
theorem InPlT.all {Z:List Nat} {xs ys:List Nat} {k:Nat} (h:InPlT Z xs k ys) (hk:k=xs.length) (hZ:Z.length≤k):ys.map (cn .f32)=Z:=by
 obtain ⟨zs,rfl,h2,h3⟩:=h
 subst hk
 rw [List.drop_length,List.append_nil,h3,List.take_of_length_le hZ]
def newP (f:Bool) (P D:List Nat) (r:Nat):List Nat:=if f=true then List.zipWith (fun p d=>fop .sub .f32 p (fop .mul .f32 r d)) P D else P
theorem newP_at {P D:List Nat} {r k p d:Nat} (hp:P[k]? = some p) (hd:D[k]? = some d):(newP true P D r)[k]? = some (fop .sub .f32 p (fop .mul .f32 r d)):=by
 unfold newP;rw [if_pos rfl,List.getElem?_zipWith,hp,hd]
theorem newP_len {P D:List Nat} {r:Nat} {f:Bool} (h:P.length=D.length):(newP f P D r).length=P.length:=by
 unfold newP;split
 ·rw [List.length_zipWith];omega
 ·rfl
def mixL (Lc:List LayP) (R:Option (List OpP × List Int)) (s r:Nat):List LayP:=if R.isSome=true then withP Lc (newP (scalM R s).2 (paramsP Lc) (scalM R s).1.1 r) else []
def mixS (R:Option (List OpP × List Int)) (c s:Nat) (g q:Int):Nat × Int × Int:=if R.isSome=true then (nS s g q (scalM R c).2,nG s g q (scalM R c).2,nQ s g q) else (0,0,0)
def mixR (Lc:List LayP) (X Y:TenP) (m s:Nat) (g q:Int):Option (List OpP × List Int):=if validScaleB s g q=true then scaleR Lc X Y m s else none
def MPost (Lc:List LayP) (R:Option (List OpP × List Int)) (c s:Nat) (g q:Int) (r:Nat) (w:World) (e:Ending) (w':World):Prop:=∃ad n cap s' g' q' f b us,e=.returned (.tuple #[.agg #[.slice ad n cap],.agg #[.float .f32 s',.int .i64 g',.int .i64 q'],.bool f,.bool b]) ∧
 Hid ((((b=R.isSome∧f=(scalM R c).2)∧(s',g',q')=mixS R c s g q)∧us.map (fun l=>l.toLayP.can)=mixL Lc R c r)∧OwnR layR w' w.heap.size w'.heap.size ad n cap us)∧Below w.heap.size w w'
theorem MPost.none {Lc:List LayP} {R:Option (List OpP × List Int)} {c s r:Nat} {g q:Int} {w w':World} {e:Ending} (h:R=none) (he:e=.returned (.tuple #[.agg #[.slice none 0 0],.agg #[.float .f32 0,.int .i64 0,.int .i64 0],.bool false,.bool false])) (hb:Below w.heap.size w w'):MPost Lc R c s g q r w e w':=by
 subst h
 exact ⟨_,_,_,_,_,_,_,_,[],he,I ⟨⟨⟨⟨rfl,rfl⟩,rfl⟩,rfl⟩,OwnR.nil _ _ _ _⟩,hb⟩
theorem scal_cnt {L:List LayP} {X Y:TenP} {m s c:Nat} {R:Option (List OpP × List Int)} (hR:R=scaleR L X Y m s) (h:R.isSome=true):(scalM R c).1.1.length=cntP L:=by
 subst hR
 unfold scaleR at h ⊢
 split at h
 ·rename_i hs
  rw [if_pos hs]
  unfold scalM
  cases e:learnM (modelP (L.map (mapL bfE)) X Y (fop .mul .f32 (shareE m) (cn .f32 s))) with
  | none =>
   exfalso
   cases e2:modelP (L.map (mapL bfE)) X Y (fop .mul .f32 (shareE m) (cn .f32 s)) with
   | none=>rw [e2] at h;cases h
   | some p=>rw [e2] at e;cases e
  | some p =>
   obtain ⟨G,z⟩:=p
   have h1:=learn_cnt e
   show (G.map _).length = _
   rw [List.length_map,h1]
   clear h1 e h
   unfold cntP paramsP
   induction L with
   | nil=>rfl
   | cons l L ih =>
    have e:((mapL bfE l).ws ++ (mapL bfE l).bs).length=(l.ws ++ l.bs).length:=by unfold mapL;simp
    rw [List.map_cons,List.flatMap_cons,List.flatMap_cons,List.length_append (bs:=List.flatMap _ (L.map _)),List.length_append (bs:=List.flatMap _ L),ih,e]
 ·cases h
theorem scale_valid {ls:List LayD} {X Y:TenP} {m s:Nat} (h:(scaleR (ls.map fun l=>l.toLayP.can) X Y m s).isSome=true):modB (ls.map LayD.toLayP)=true:=by
 cases e:modB (ls.map LayD.toLayP) with
 | true=>rfl
 | false=>rw [scaleR_no e] at h;cases h
theorem impl_next (s:Nat) (hs:s < 4294967296) (g q:Int) (fin:Bool) (hv:validScaleB s g q=true) (w:World) :
  Calls Tryz.prog 46 #[.agg #[.float .f32 s,.int .i64 g,.int .i64 q],.bool fin] w fun e w'=>e=.returned (.agg #[.float .f32 (nS s g q fin),.int .i64 (nG s g q fin),.int .i64 (nQ s g q)])∧Below w.heap.size w w':=by
 obtain ⟨hsc,hg0,hg1,hq0,hq1⟩:=valid_parts hv
 obtain ⟨a,d,t,b,H⟩:=stp_of hs hsc
 have hnv:¬ (validScaleB s g q=false):=by rw [hv];decide
 rw [show nQ s g q=q by unfold nQ;rw [if_neg hnv]]
 cases fin
 ·rw [show nS s g q false=d by unfold nS;rw [if_neg hnv,if_pos rfl,H.halfE,H.down],show nG s g q false=0 by unfold nG;rw [if_neg hnv,if_pos rfl]]
  exact impl_next_no s g q a d t b H w
 by_cases hq:q≤g+1
 ·rw [show nS s g q true=b by unfold nS;rw [if_neg hnv,if_neg (by decide),if_pos hq,H.twoE,H.up],show nG s g q true=0 by unfold nG;rw [if_neg hnv,if_neg (by decide),if_pos hq]]
  exact impl_next_full s g q a d t b H hg0 hg1 hq w
 ·rw [show nS s g q true=s by unfold nS;rw [if_neg hnv,if_neg (by decide),if_neg hq],show nG s g q true=g+1 by unfold nG;rw [if_neg hnv,if_neg (by decide),if_neg hq]]
  exact impl_next_more s g q hg0 hg1 (by omega) hq1 w
theorem spec_next (s:Nat) (hs:s < 4294967296) (g q:Int) (fin:Bool) (hv:validScaleB s g q=true) (w:World) :
  Calls Tryz.prog 75 #[.agg #[.float .f32 s,.int .i64 g,.int .i64 q],.bool fin] w fun e w'=>e=.returned (.agg #[.float .f32 (nS s g q fin),.int .i64 (nG s g q fin),.int .i64 (nQ s g q)])∧Below w.heap.size w w':=by
 obtain ⟨hsc,hg0,hg1,hq0,hq1⟩:=valid_parts hv
 obtain ⟨a,d,t,b,H⟩:=stp_of hs hsc
 have hnv:¬ (validScaleB s g q=false):=by rw [hv];decide
 rw [show nQ s g q=q by unfold nQ;rw [if_neg hnv]]
 cases fin
 ·rw [show nS s g q false=d by unfold nS;rw [if_neg hnv,if_pos rfl,H.halfE,H.down],show nG s g q false=0 by unfold nG;rw [if_neg hnv,if_pos rfl]]
  exact spec_next_no s g q a d t b H w
 by_cases hq:q≤g+1
 ·rw [show nS s g q true=b by unfold nS;rw [if_neg hnv,if_neg (by decide),if_pos hq,H.twoE,H.up],show nG s g q true=0 by unfold nG;rw [if_neg hnv,if_neg (by decide),if_pos hq]]
  exact spec_next_full s g q a d t b H hg0 hg1 hq w
 ·rw [show nS s g q true=s by unfold nS;rw [if_neg hnv,if_neg (by decide),if_neg hq],show nG s g q true=g+1 by unfold nG;rw [if_neg hnv,if_neg (by decide),if_neg hq]]
  exact spec_next_more s g q hg0 hg1 (by omega) hq1 w
theorem six_boxes (w:World) (c1 c2 c3 c4 c5 c6:Array Value) (t1 t2 t3 t4 t5 t6:TypeId) :
  ∃W,W=(((((w.alloc (.cells c1 t1)).alloc (.cells c2 t2)).alloc (.cells c3 t3)).alloc (.cells c4 t4)).alloc (.cells c5 t5)).alloc (.cells c6 t6) ∧
   W.heap.size=w.heap.size+1+1+1+1+1+1∧Below w.heap.size w W ∧
   ((BoxN W w.heap.size c1.toList∧BoxN W (w.heap.size+1) c2.toList∧BoxN W (w.heap.size+1+1) c3.toList)∧(BoxN W (w.heap.size+1+1+1) c4.toList∧BoxN W (w.heap.size+1+1+1+1) c5.toList∧BoxN W (w.heap.size+1+1+1+1+1) c6.toList)):=by
 refine ⟨_,rfl,by simp,?_,?_⟩
 ·repeat (first | exact Below.refl _ _ | refine Below.alloc ?_ (by simp;try omega) _)
 ·have a1:=BoxN.alloc w c1 t1
  have a2:=BoxN.alloc (w.alloc (.cells c1 t1)) c2 t2
  have a3:=BoxN.alloc ((w.alloc (.cells c1 t1)).alloc (.cells c2 t2)) c3 t3
  have a4:=BoxN.alloc (((w.alloc (.cells c1 t1)).alloc (.cells c2 t2)).alloc (.cells c3 t3)) c4 t4
  have a5:=BoxN.alloc ((((w.alloc (.cells c1 t1)).alloc (.cells c2 t2)).alloc (.cells c3 t3)).alloc (.cells c4 t4)) c5 t5
  have a6:=BoxN.alloc (((((w.alloc (.cells c1 t1)).alloc (.cells c2 t2)).alloc (.cells c3 t3)).alloc (.cells c4 t4)).alloc (.cells c5 t5)) c6 t6
  have e1:(w.alloc (.cells c1 t1)).heap.size=w.heap.size+1:=by simp
  have e2:((w.alloc (.cells c1 t1)).alloc (.cells c2 t2)).heap.size=w.heap.size+1+1:=by simp
  have e3:(((w.alloc (.cells c1 t1)).alloc (.cells c2 t2)).alloc (.cells c3 t3)).heap.size=w.heap.size+1+1+1:=by simp
  have e4:((((w.alloc (.cells c1 t1)).alloc (.cells c2 t2)).alloc (.cells c3 t3)).alloc (.cells c4 t4)).heap.size=w.heap.size+1+1+1+1:=by simp
  have e5:(((((w.alloc (.cells c1 t1)).alloc (.cells c2 t2)).alloc (.cells c3 t3)).alloc (.cells c4 t4)).alloc (.cells c5 t5)).heap.size=w.heap.size+1+1+1+1+1:=by simp
  rw [e1] at a2;rw [e2] at a3;rw [e3] at a4;rw [e4] at a5;rw [e5] at a6
  exact ⟨⟨((((a1.below (below1 _ _)).below (below1 _ _)).below (below1 _ _)).below (below1 _ _)).below (below1 _ _),(((a2.below (below1 _ _)).below (below1 _ _)).below (below1 _ _)).below (below1 _ _),((a3.below (below1 _ _)).below (below1 _ _)).below (below1 _ _)⟩,(a4.below (below1 _ _)).below (below1 _ _),a5.below (below1 _ _),a6⟩
set_option maxRecDepth 100000 in
set_option maxHeartbeats 16000000 in
theorem impl_MixedStep (w:World) (ma:Option Addr) (mk:Nat) (ls:List LayD) (s:Nat) (gg qq:Int) (xr xc yr yc:Int) (xa ya:Option Addr) (xk yk:Nat) (xs ys:List Nat) (r:Nat) (hls:SeeR layR w ma mk ls) (hnil:nilL ls) (hs:s < 4294967296) (hx:F32s w xa xk xs) (hy:F32s w ya yk ys) :
  Calls Tryz.prog 22 #[.agg #[.slice ma ls.length mk],.agg #[.float .f32 s,.int .i64 gg,.int .i64 qq],.agg #[.int .i64 xr,.int .i64 xc,.slice xa xs.length xk],.agg #[.int .i64 yr,.int .i64 yc,.slice ya ys.length yk],.float .f32 r] w (MPost (ls.map fun l=>l.toLayP.can) (mixR (ls.map fun l=>l.toLayP.can) ⟨xr,xc,xs.map (cn .f32)⟩ ⟨yr,yc,ys.map (cn .f32)⟩ ys.length s gg qq) (cn .f32 s) s gg qq (cn .f32 r) w):=by
 obtain ⟨W6,hW6,hsz,hb6,⟨bm,bs,bx⟩,by6,br,bt⟩:=six_boxes w #[.slice ma ls.length mk] #[.float .f32 s,.int .i64 gg,.int .i64 qq] #[.int .i64 xr,.int .i64 xc,.slice xa xs.length xk] #[.int .i64 yr,.int .i64 yc,.slice ya ys.length yk] #[.slice none 0 0] #[.float .f32 0,.int .i64 0,.int .i64 0] 35 50 37 37 35 50
 have BM:=I bm;have BS:=I bs;have BX:=I bx;have BY:=I by6;have BR:=I br;have BT:=I bt
 have HW6:=I hW6;have HB6:=I hb6
 have HLS:=I (hls.below hb6);have HX:=I (hx.below hb6);have HY:=I (hy.below hb6);have HNIL:=I hnil
 have KG0:=fun W (hb:Below W6.heap.size W6 W)=>impl_ScaledGradients W ma mk ls xr xc yr yc xa ya xk yk xs ys s (HLS.out.below hb) hnil (HX.out.below hb) (HY.out.below hb) hs
 obtain ⟨Lc,hLc⟩:∃Lc,Lc=ls.map fun l=>l.toLayP.can:=⟨_,rfl⟩
 rw [←hLc] at KG0 ⊢
 have HLc:=I hLc
 obtain ⟨R,hR⟩:∃R,R=mixR Lc ⟨xr,xc,xs.map (cn .f32)⟩ ⟨yr,yc,ys.map (cn .f32)⟩ ys.length s gg qq:=⟨_,rfl⟩
 rw [←hR]
 have HR:=I hR
 have KV:=I (fun W=>impl_ValidScale s gg qq W)
 have KG:=I KG0
 clear KG0 hLc hls hx hy hnil hb6 hW6 hR bm bs bx by6 br bt
 cases eV:validScaleB s gg qq
 ·rw [eV] at KV
  have HRN:Hid (R=none):=I (by rw [HR.out];unfold mixR;rw [eV];rfl)
  clear eV HR KG
  go_enter Tryz.func22,Tryz.ntmps22
  go_upto_region 1 with fail
  rw [←HW6.out]
  obtain ⟨-,s0,s1,s2,-⟩:=BS.out.three
  go_wp2_with fail
  refine (KV.out _).mono ?_
  rintro e w7 ⟨rfl,hb⟩
  have HB7:=I hb
  clear hb s0 s1 s2 KV
  obtain ⟨hlr,r0,rf⟩:=(BR.out.below HB7.out).one1
  obtain ⟨hlt,t0,t1,t2,tf⟩:=(BT.out.below HB7.out).three
  have f0:=rf 0;have g0:=tf 0;have g1:=tf 1;have g2:=tf 2
  clear rf tf
  go_wp2
  try simp only [Exit.inBlock,Exit.then]
  refine bodyPost_ret (v:=.tuple #[.agg #[.slice none 0 0],.agg #[.float .f32 0,.int .i64 0,.int .i64 0],.bool false,.bool false]) (by simp [results,Tryz.results22,go_sem,r0,t0,t1,t2]) rfl ?_
  exact MPost.none HRN.out rfl (by repeat (first | exact bthen HB6.out HB7.out | refine Below.setCell ?_ (by dsimp only;omega) _))
 rw [eV] at KV
 have HV:=I eV
 rw [show mixR Lc ⟨xr,xc,xs.map (cn .f32)⟩ ⟨yr,yc,ys.map (cn .f32)⟩ ys.length s gg qq=scaleR Lc ⟨xr,xc,xs.map (cn .f32)⟩ ⟨yr,yc,ys.map (cn .f32)⟩ ys.length s by unfold mixR;rw [eV];rfl] at HR
 rw [←HR.out] at KG
 clear eV
 go_enter Tryz.func22,Tryz.ntmps22
 go_upto_region 1 with fail
 rw [←HW6.out]
 obtain ⟨-,s0,s1,s2,-⟩:=BS.out.three
 go_wp2_with fail
 refine (KV.out _).mono ?_
 rintro e w7 ⟨rfl,hb⟩
 have HB7:=I hb
 clear hb s0 s1 s2 KV
 obtain ⟨-,p0,-⟩:=(BM.out.below HB7.out).one1
 obtain ⟨-,s0,s1,s2,-⟩:=(BS.out.below HB7.out).three
 obtain ⟨-,x0,x1,x2,-⟩:=(BX.out.below HB7.out).three
 obtain ⟨-,y0,y1,y2,-⟩:=(BY.out.below HB7.out).three
 go_wp2_with fail
 refine (KG.out _ HB7.out).mono ?_
 rintro e w8 ⟨la,n,c2,z,f,b,ds,rfl,HO,hb⟩
 have HB8:=I (bthen HB7.out hb)
 clear hb KG p0 s0 s1 s2 x0 x1 x2 y0 y1 y2 BX BY HX HY
 cases b
 ·have HRN:Hid (R=none):=I (by have:=HO.out.1.1.1;cases R <;> first | rfl | cases this)
  clear HO HR
  obtain ⟨hlr,r0,rf⟩:=(BR.out.below HB8.out).one1
  obtain ⟨hlt,t0,t1,t2,tf⟩:=(BT.out.below HB8.out).three
  have f0:=rf 0;have g0:=tf 0;have g1:=tf 1;have g2:=tf 2
  clear rf tf
  go_wp2
  try simp only [Exit.inBlock,Exit.then]
  refine bodyPost_ret (v:=.tuple #[.agg #[.slice none 0 0],.agg #[.float .f32 0,.int .i64 0,.int .i64 0],.bool false,.bool false]) (by simp [results,Tryz.results22,go_sem,r0,t0,t1,t2]) rfl ?_
  exact MPost.none HRN.out rfl (by repeat (first | exact bthen HB6.out HB8.out | refine Below.setCell ?_ (by dsimp only;omega) _))
 have hRs:R.isSome=true:=HO.out.1.1.1.symm
 have hM:modB (ls.map LayD.toLayP)=true:=scale_valid (by rw [←HLc.out,←HR.out];exact hRs)
 obtain ⟨hl6,hlens⟩:=lens_mod hM
 obtain ⟨L,hL⟩:∃L,L=ls.map LayD.toLayP:=⟨_,rfl⟩
 have HLC:=I (show Lc=L.map LayP.can by rw [HLc.out,hL,List.map_map];rfl)
 have hcnt:cntP L≤432:=by have:=cnt_lens ls hlens;rw [←hL] at this;omega
 have hdl:ds.length=cntP L:=by
  have h1:=scal_cnt (c:=cn .f32 s) HR.out hRs
  rw [←congrArg Prod.fst HO.out.1.2.1,List.length_map,HLC.out,cntP_can] at h1
  exact h1
 have HRS:=I hRs
 have HF:=I HO.out.1.1.2
 have HD:=I (congrArg Prod.fst HO.out.1.2.1)
 have HDR:=I HO.out.2
 have hnl:n=cntP L:=by rw [←HO.out.2.len,hdl]
 have K1:=I (impl_params w8 ma mk ls (HLS.out.below HB8.out) HNIL.out hl6 hlens)
 have K2:=I (fun W (hb:Below W6.heap.size W6 W) b off ck xs h1 h2 h3=>impl_withParams W ma mk ls b off ck xs (HLS.out.below hb) h1 h2 hl6 hlens h3)
 have K3:=I (fun W f=>impl_next s hs gg qq f HV.out W)
 rw [←hL] at K1 K2
 have HNL:=I hnl
 have HDL:=I hdl
 have hn4:n≤432:=by omega
 clear HO hRs hM hl6 hlens hL hs HV HR hnl hdl hcnt
 obtain ⟨-,p0,-⟩:=(BM.out.below HB8.out).one1
 go_wp2_with fail
 refine K1.out.mono ?_
 rintro e w9 ⟨g3,n3,c3,rfl,HP,hb9⟩
 have HB9:=I (bthen HB8.out hb9)
 obtain rfl:n3=n:=by rw [←HP.out.len,HNL.out];rfl
 have hge3:w8.heap.size≤g3:=(HP.out.row.own.lt g3 rfl).1
 have HBB:=I hb9
 have hs8:=HB8.out.size
 have hs9:=hb9.size
 clear hb9 K1 p0
 cases f
 ·have HYY:Hid (RepF w9 w8.heap.size w9.heap.size (some ⟨g3,0,none⟩) n3 c3 (paramsP L)∧(paramsP L).map (cn .f32)=newP false (paramsP Lc) (scalM R (cn .f32 s)).1.1 (cn .f32 r)):=I ⟨HP.out,by rw [paramsP_can,←HLC.out];rfl⟩
  have hgl:g3 < w9.heap.size:=(HYY.out.1.row.own.lt g3 rfl).2
  have hyl:(paramsP L).length=n3:=HYY.out.1.len
  have KW:=I (fun W (hb:Below w9.heap.size w9 W)=>K2.out W (bthen HB9.out hb) g3 0 c3 (paramsP L) (HYY.out.1.below hb).arg (Nat.lt_of_lt_of_le hgl hb.size) (by rw [hyl,HNL.out]))
  rw [hyl] at KW
  have HML:=I (show (withP L (paramsP L)).map LayP.can=mixL Lc R (cn .f32 s) (cn .f32 r) by
   rw [withP_can,HYY.out.2,←HLC.out]
   unfold mixL
   rw [if_pos HRS.out,←HF.out])
  obtain ⟨-,p0,-⟩:=(BM.out.below HB9.out).one1
  obtain ⟨-,s0,s1,s2,-⟩:=(BS.out.below HB9.out).three
  clear K2 hyl hgl
  have hq1:w.heap.size≤w.heap.size+1+1+1+1:=by omega
  have hq2:w.heap.size≤w.heap.size+1+1+1+1+1:=by omega
  have hq3:w.heap.size+1+1+1+1 < W6.heap.size:=by omega
  have hq4:w.heap.size+1+1+1+1+1 < W6.heap.size:=by omega
  have hq5:W6.heap.size≤w9.heap.size:=HB9.out.size
  have hq6:w.heap.size≤W6.heap.size:=HB6.out.size
  clear hsz
  have n1:¬ w.heap.size=w.heap.size+1+1+1+1:=by omega
  have n2:¬ w.heap.size+1=w.heap.size+1+1+1+1:=by omega
  have n5:¬ w.heap.size=w.heap.size+1+1+1+1+1:=by omega
  have n6:¬ w.heap.size+1=w.heap.size+1+1+1+1+1:=by omega
  have n11:¬ w.heap.size+1+1+1+1=w.heap.size+1+1+1+1+1:=by omega
  go_wp2
  generalize w.heap.size+1+1+1+1+1=tB at BT n5 n6 n11 hq2 hq4 ⊢
  generalize w.heap.size+1+1+1+1=rB at BR n1 n2 n11 hq1 hq3 ⊢
  have n12:=Ne.symm n11
  generalize w.heap.size+1=sB at BS n2 n6 s0 s1 s2 ⊢
  have n7:=Ne.symm n1;have n8:=Ne.symm n2;have n9:=Ne.symm n5;have n10:=Ne.symm n6
  go_region_held3 (fun w'=>w'.cell? ⟨w.heap.size,0,none⟩=some (.slice ma ls.length mk)∧w'.cell? ⟨sB,0,none⟩=some (.float .f32 s)∧w'.cell? ⟨sB,1,none⟩=some (.int .i64 gg)∧w'.cell? ⟨sB,2,none⟩=some (.int .i64 qq)) (go_keep)
   (first
     | (go_at_call 45;refine (KW.out _ (Below.drew (Below.refl _ _))).mono ?_;rintro e w11 ⟨ad,m,cap,us,rfl,HU,hb11⟩;have HB11:=I (bthen HB9.out (below_dr1 hb11));have HU11:=I (HU.out.2.bounds (show w9.heap.size≤_ from by simp) (Nat.le_refl _));have HUC:=I HU.out.1;clear hb11 HU p0 s0 s1 s2;obtain ⟨-,p0,-⟩:=(BM.out.below HB11.out).one1;obtain ⟨-,s0,s1,s2,-⟩:=(BS.out.below HB11.out).three)
     | (go_at_call 46;refine (K3.out _ false).mono ?_;rintro e w12 ⟨rfl,hb12⟩;have HB12:=I (bthen HB11.out hb12);have HU12:=I ((HU11.out.below hb12));have hs12:=hb12.size;clear hb12 p0 s0 s1 s2;obtain ⟨-,p0,-⟩:=(BM.out.below HB12.out).one1;obtain ⟨-,s0,s1,s2,-⟩:=(BS.out.below HB12.out).three;obtain ⟨hlr,r0,rf⟩:=(BR.out.below HB12.out).one1;obtain ⟨hlt,t0,t1,t2,tf⟩:=(BT.out.below HB12.out).three;have f0:=rf 0;have g0:=tf 0;have g1:=tf 1;have g2:=tf 2;clear rf tf))
  go_wp2
  try simp only [Exit.inBlock,Exit.then]
  refine bodyPost_ret (v:=.tuple #[.agg #[.slice ad m cap],.agg #[.float .f32 (nS s gg qq false),.int .i64 (nG s gg qq false),.int .i64 (nQ s gg qq)],.bool false,.bool true]) (by simp [results,Tryz.results22,go_sem,r0,t0,t1,t2,hlr,hlt,n11,n12]) rfl ?_
  have u1:Touch rB (rB+1) w12 (w12.setCell ⟨rB,0,none⟩ (.slice ad m cap)):=Touch.setCell (Nat.le_refl _) (Nat.lt_succ_self _)
  have u2:∀(V:World) k v,Touch tB (tB+1) V (V.setCell ⟨tB,k,none⟩ v):=fun V k v=>Touch.setCell (Nat.le_refl _) (Nat.lt_succ_self _)
  refine ⟨ad,m,cap,_,_,_,_,_,us,rfl,I ⟨⟨⟨⟨HRS.out.symm,HF.out⟩,?_⟩,HUC.out.trans HML.out⟩,?_⟩,?_⟩
  ·unfold mixS;rw [if_pos HRS.out,←HF.out]
  ·exact (((((HU12.out.touch u1 (.inr (by omega))).touch (u2 _ _ _) (.inr (by omega))).touch (u2 _ _ _) (.inr (by omega))).touch (u2 _ _ _) (.inr (by omega))).bounds (by omega) (by simpa [World.setCell] using hs12))
  ·exact Below.setCell (p:=⟨tB,2,none⟩) (Below.setCell (p:=⟨tB,1,none⟩) (Below.setCell (p:=⟨tB,0,none⟩) (Below.setCell (p:=⟨rB,0,none⟩) (bthen HB6.out HB12.out) hq1 _) hq2 _) hq2 _) hq2 _
 ·-- the parameters are changed in place
  have HDC:=I (show (scalM R (cn .f32 s)).1.1=ds.map (cn .f32) from HD.out.symm)
  have HPC:=I (show (paramsP L).map (cn .f32)=paramsP Lc by rw [paramsP_can,←HLC.out])
  have hdl:ds.length=n3:=by rw [HDL.out,HNL.out]
  have hpl:(paramsP L).length=n3:=by rw [HNL.out];rfl
  have HDLN:=I hdl;have HPLN:=I hpl
  have HTL:=I (show (newP true (paramsP Lc) (scalM R (cn .f32 s)).1.1 (cn .f32 r)).length≤n3 by
   rw [newP_len (by rw [HDC.out,List.length_map,←HPC.out,List.length_map,hdl,hpl]),←HPC.out,List.length_map,hpl];exact Nat.le_refl _)
  clear hdl hpl
  go_wp2
  go_loopw [19,45] (fun i q wt => ∃k:Nat,q=.int .i64 k∧k≤n3∧Hid (∃us,RepF wt w8.heap.size w9.heap.size (some ⟨g3,0,none⟩) n3 c3 us∧InPlT (newP true (paramsP Lc) (scalM R (cn .f32 s)).1.1 (cn .f32 r)) (paramsP L) k us)∧Hid (Below w8.heap.size w8 wt∧w9.heap.size≤wt.heap.size)) (fun i q wt=>n3 - (intOf q).toNat)
  case atStart=>exact ⟨0,rfl,Nat.zero_le _,I ⟨_,HP.out,InPlT.zero _ _⟩,I ⟨HBB.out,Nat.le_refl _⟩⟩
  case round =>
   obtain ⟨k,rfl,hk,HYS,HBW⟩:=hrel
   by_cases hlt:k < n3
   ·obtain ⟨us,hr,hip⟩:=HYS.out
    obtain ⟨x,hx⟩:=getElem?_lt (show k < (paramsP L).length by rw [HPLN.out];exact hlt)
    obtain ⟨d,hd⟩:=getElem?_lt (show k < ds.length by rw [HDLN.out];exact hlt)
    have HTK:=I (show (newP true (paramsP Lc) (scalM R (cn .f32 s)).1.1 (cn .f32 r))[k]? = some (fop .sub .f32 (cn .f32 x) (fop .mul .f32 (cn .f32 r) (cn .f32 d))) from
     newP_at (by rw [←HPC.out,List.getElem?_map,hx];rfl) (by rw [HDC.out,List.getElem?_map,hd];rfl))
    have HXX:=I hx
    obtain ⟨g',e1,-,hcc,hf,-⟩:=hr.open (by omega)
    cases e1
    have hck:=hcc k hlt
    rw [hip.at' hx] at hck
    have hdr:=HDR.out.below HBW.out.1
    obtain ⟨g4,e4,-,hcd,-,-⟩:=hdr.open (by omega)
    have hdk:=hcd k hlt
    rw [List.getD_eq_getElem?_getD,hd] at hdk
    simp only [Option.getD_some] at hdk
    subst e4
    have hfk:=hf k
    have hgl:g3 < wr.heap.size:=(hr.row.own.lt g3 rfl).2
    have HRR:=I hr;have HIP:=I hip
    clear hx hd hcc hr hip hf HYS hdr hcd
    go_wp2
    refine wp_region_tail1 14 _ (fun _ _ _=>False) (by kernel_rfl) (by kernel_rfl) rfl rfl (fun _ _ _ h=>h) ?_
    go_simp
    repeat (refine wset_step (fun K hK nq=>?_);go_simp;refine hK _ ?_;clear hK K)
    generalize hy:fbits BinOp.sub FloatKind.f32 x _ _ = y
    have hyc:cn .f32 y=fop .sub .f32 (cn .f32 x) (fop .mul .f32 (cn .f32 r) (cn .f32 d)):=by rw [←hy,cn_fbits,cn_fbits]
    have hyl:y < 4294967296:=by rw [←hy];exact fbits_lt _ .f32 _ _ _
    have HYC:=I hyc;clear hyc hy
    refine wset_nil ?_
    rintro w' hw'
    obtain ⟨q9,rfl⟩:=hw'
    go_wp2
    refine ⟨?rel,?measure⟩
    case rel =>
     have hb1:=below_drewN (Below.refl wr.heap.size wr) q9
     exact ⟨k+1,by go_num,hlt,I ⟨_,(HRR.out.below hb1).setAt k y hyl (by omega),HIP.out.set HXX.out (by rw [HTK.out,HYC.out])⟩,I ⟨(bthen HBW.out.1 hb1).setCell (p:=⟨g3,k,none⟩) hge3 _,by simpa [World.setCell] using HBW.out.2⟩⟩
    case measure=>simp [intOf];omega
   ·have e:k=n3:=by omega
    subst e
    obtain ⟨us0,hr,hip⟩:=HYS.out
    have hE:=hip.all HPLN.out.symm HTL.out
    have HBWW:=I (bthen HB8.out HBW.out.1)
    have HYY:Hid (RepF wr w8.heap.size w9.heap.size (some ⟨g3,0,none⟩) k c3 us0∧us0.map (cn .f32)=newP true (paramsP Lc) (scalM R (cn .f32 s)).1.1 (cn .f32 r)):=I ⟨hr,hE⟩
    have hgl:g3 < wr.heap.size:=(HYY.out.1.row.own.lt g3 rfl).2
    have hyl:us0.length=k:=HYY.out.1.len
    have KW:=I (fun W (hb:Below wr.heap.size wr W)=>K2.out W (bthen HBWW.out hb) g3 0 c3 us0 (HYY.out.1.below hb).arg (Nat.lt_of_lt_of_le hgl hb.size) (by rw [hyl,HNL.out]))
    rw [hyl] at KW
    have HML:=I (show (withP L us0).map LayP.can=mixL Lc R (cn .f32 s) (cn .f32 r) by
     rw [withP_can,HYY.out.2,←HLC.out]
     unfold mixL
     rw [if_pos HRS.out,←HF.out])
    obtain ⟨-,p0,-⟩:=(BM.out.below HBWW.out).one1
    obtain ⟨-,s0,s1,s2,-⟩:=(BS.out.below HBWW.out).three
    clear K2 hyl hgl
    have hq1:w.heap.size≤w.heap.size+1+1+1+1:=by omega
    have hq2:w.heap.size≤w.heap.size+1+1+1+1+1:=by omega
    have hq3:w.heap.size+1+1+1+1 < W6.heap.size:=by omega
    have hq4:w.heap.size+1+1+1+1+1 < W6.heap.size:=by omega
    have hq5:W6.heap.size≤wr.heap.size:=HBWW.out.size
    have hq6:w.heap.size≤W6.heap.size:=HB6.out.size
    clear hsz
    have n1:¬ w.heap.size=w.heap.size+1+1+1+1:=by omega
    have n2:¬ w.heap.size+1=w.heap.size+1+1+1+1:=by omega
    have n5:¬ w.heap.size=w.heap.size+1+1+1+1+1:=by omega
    have n6:¬ w.heap.size+1=w.heap.size+1+1+1+1+1:=by omega
    have n11:¬ w.heap.size+1+1+1+1=w.heap.size+1+1+1+1+1:=by omega
    go_wp2
    generalize w.heap.size+1+1+1+1+1=tB at BT n5 n6 n11 hq2 hq4 ⊢
    generalize w.heap.size+1+1+1+1=rB at BR n1 n2 n11 hq1 hq3 ⊢
    have n12:=Ne.symm n11
    generalize w.heap.size+1=sB at BS n2 n6 s0 s1 s2 ⊢
    have n7:=Ne.symm n1;have n8:=Ne.symm n2;have n9:=Ne.symm n5;have n10:=Ne.symm n6
    go_region_held3 (fun w'=>w'.cell? ⟨w.heap.size,0,none⟩=some (.slice ma ls.length mk)∧w'.cell? ⟨sB,0,none⟩=some (.float .f32 s)∧w'.cell? ⟨sB,1,none⟩=some (.int .i64 gg)∧w'.cell? ⟨sB,2,none⟩=some (.int .i64 qq)) (go_keep)
     (first
       | (go_at_call 45;refine (KW.out _ (Below.drew (Below.refl _ _))).mono ?_;rintro e w11 ⟨ad,m,cap,us,rfl,HU,hb11⟩;have HB11:=I (bthen HBWW.out (below_dr1 hb11));have HU11:=I (HU.out.2.bounds (show wr.heap.size≤_ from by simp) (Nat.le_refl _));have HUC:=I HU.out.1;clear hb11 HU p0 s0 s1 s2;obtain ⟨-,p0,-⟩:=(BM.out.below HB11.out).one1;obtain ⟨-,s0,s1,s2,-⟩:=(BS.out.below HB11.out).three)
       | (go_at_call 46;refine (K3.out _ true).mono ?_;rintro e w12 ⟨rfl,hb12⟩;have HB12:=I (bthen HB11.out hb12);have HU12:=I ((HU11.out.below hb12));have hs12:=hb12.size;clear hb12 p0 s0 s1 s2;obtain ⟨-,p0,-⟩:=(BM.out.below HB12.out).one1;obtain ⟨-,s0,s1,s2,-⟩:=(BS.out.below HB12.out).three;obtain ⟨hlr,r0,rf⟩:=(BR.out.below HB12.out).one1;obtain ⟨hlt,t0,t1,t2,tf⟩:=(BT.out.below HB12.out).three;have f0:=rf 0;have g0:=tf 0;have g1:=tf 1;have g2:=tf 2;clear rf tf))
    go_wp2
    try simp only [Exit.inBlock,Exit.then]
    refine bodyPost_ret (v:=.tuple #[.agg #[.slice ad m cap],.agg #[.float .f32 (nS s gg qq true),.int .i64 (nG s gg qq true),.int .i64 (nQ s gg qq)],.bool true,.bool true]) (by simp [results,Tryz.results22,go_sem,r0,t0,t1,t2,hlr,hlt,n11,n12]) rfl ?_
    have u1:Touch rB (rB+1) w12 (w12.setCell ⟨rB,0,none⟩ (.slice ad m cap)):=Touch.setCell (Nat.le_refl _) (Nat.lt_succ_self _)
    have u2:∀(V:World) k v,Touch tB (tB+1) V (V.setCell ⟨tB,k,none⟩ v):=fun V k v=>Touch.setCell (Nat.le_refl _) (Nat.lt_succ_self _)
    refine ⟨ad,m,cap,_,_,_,_,_,us,rfl,I ⟨⟨⟨⟨HRS.out.symm,HF.out⟩,?_⟩,HUC.out.trans HML.out⟩,?_⟩,?_⟩
    ·unfold mixS;rw [if_pos HRS.out,←HF.out]
    ·exact (((((HU12.out.touch u1 (.inr (by omega))).touch (u2 _ _ _) (.inr (by omega))).touch (u2 _ _ _) (.inr (by omega))).touch (u2 _ _ _) (.inr (by omega))).bounds (by omega) (by simpa [World.setCell] using hs12))
    ·exact Below.setCell (p:=⟨tB,2,none⟩) (Below.setCell (p:=⟨tB,1,none⟩) (Below.setCell (p:=⟨tB,0,none⟩) (Below.setCell (p:=⟨rB,0,none⟩) (bthen HB6.out HB12.out) hq1 _) hq2 _) hq2 _) hq2 _
set_option maxRecDepth 100000 in
set_option maxHeartbeats 4000000 in
theorem spec_l06Rounded (w:World) (ad:Option Addr) (cap:Nat) (xs:List Nat) (h:F32s w ad cap xs) (hn:xs.length≤1048576) :
  Calls Tryz.prog 82 #[.slice ad xs.length cap] w fun e w' => ∃ad' n' cap' ys,e=.returned (.slice ad' n' cap')∧n'=xs.length∧Hid (RepF w' w.heap.size w'.heap.size ad' n' cap' ys∧ys.map (cn .f32)=(xs.map (cn .f32)).map bfE)∧Below w.heap.size w w':=by
 obtain ⟨i0,hi,hz0,hz1,hz2⟩:=info_parts info_f32
 have H:=I h
 obtain ⟨n,hN⟩:∃n,n=xs.length:=⟨_,rfl⟩
 rw [←hN] at hn ⊢
 have HN:=I hN
 clear h hN
 go_enter Tryz.func82,Tryz.ntmps82
 go_wp2
 go_loopw [3,4] (fun v i wr => ∃k:Nat,i=.int .i64 k∧k≤n∧Hid (∃ys:List Nat,wr.ownsRow w.heap.size 28 1 v k (ys.map (Value.float .f32))∧ys.length=k∧ys.map (cn .f32)=((xs.take k).map (cn .f32)).map bfE∧(∀y∈ys,y < 4294967296))∧Hid (Below w.heap.size w wr)∧w.heap.size≤wr.heap.size) (fun _ i _=>n - (intOf i).toNat)
 case atStart=>exact ⟨0,rfl,Nat.zero_le _,I ⟨[],World.ownsRow_made _ _ _ (Nat.le_refl _) (Nat.zero_le _) rfl,rfl,rfl,(fun y hy=>nomatch hy)⟩,I (below1 _ _),by simp⟩
 case round =>
  obtain ⟨k,rfl,hk,HO,HB,hbs⟩:=hrel
  by_cases hlt:k < n
  ·have hk1:k < xs.length:=by rw [←HN.out];exact hlt
   obtain ⟨ys,hown,hyl,hye,hylt⟩:=HO.out
   obtain ⟨x,hx⟩:=getElem?_lt hk1
   have h1:=H.out.below HB.out
   obtain ⟨b,off,rfl,_,hq⟩:=F32s.spot h1 (k:=k) hk1
   have hc:=hq k hk1
   have ex:xs.getD k 0=x:=by rw [List.getD_eq_getElem?_getD,hx];rfl
   rw [ex] at hc
   have hxl:=H.out.lt x (List.mem_of_getElem? hx)
   have K:=I (fun W=>spec_l01Bfloat x hxl W)
   have HOW:=I hown;have HYL:=I hyl;have HYE:=I hye;have HYT:=I hylt
   have HX:=I hx
   clear hown hyl hye hylt hx h1 hq ex HO
   go_wp2_with fail
   refine (K.out _).mono ?_
   rintro e w5 ⟨r,rfl,hr,hd⟩
   have HR:=I hr.out
   have HB5:=I (HB.out.trans (hd.below.mono hbs))
   have HOW5:=I ((Row.mk' HOW.out).below hd.below).own
   have hbs5:w.heap.size≤w5.heap.size:=Nat.le_trans hbs hd.below.size
   clear hr hd K HOW HB
   go_wp2_with (at_builtin;refine wp_app rfl _ _ 25 rfl w.heap.size i0 (.float .f32 0) 1 4 Tryz.underlying25 hi hz0 hz1 hz2 rfl (by decide) rfl (one_cell _ rfl) _ _ _ rfl HOW5.out rfl ?c3 ?c4 ?c5 ?_)
   case c3=>unfold maxLen;omega
   case c4=>omega
   case c5=>exact hbs5
   intro v' w9 hown1 hb1 hbs1
   have HOW2:=I hown1;have HB2:=I (HB5.out.trans hb1)
   clear hown1 hb1
   go_wp2
   refine ⟨?rel,?measure⟩
   case rel =>
    refine ⟨k+1,by go_num,hlt,I ⟨ys ++ [r],by simpa using HOW2.out,by simp [HYL.out],?_,?_⟩,HB2,hbs1⟩
    ·rw [List.take_add_one,HX.out,List.map_append,HYE.out,Option.toList_some,List.map_append,List.map_append]
     simp [HR.out.1]
    ·intro z hz
     rcases List.mem_append.1 hz with hz | hz
     ·exact HYT.out z hz
     ·simp at hz;subst hz;exact HR.out.2
   case measure=>simp [intOf];omega
  ·have e:k=n:=by omega
   subst e
   obtain ⟨ys,hown,hyl,hye,hylt⟩:=HO.out
   obtain ⟨ad',cap',rfl,hr⟩:=RepF.of_owns hown hylt
   rw [HN.out,List.take_length] at hye
   have HX:=I (And.intro hr hye)
   clear HO hown hyl hye hylt hr
   go_wp2
   go_ret
   exact ⟨ad',_,cap',ys,rfl,rfl,HX,HB.out⟩
set_option maxRecDepth 100000 in
set_option maxHeartbeats 8000000 in
theorem spec_l06Bfloat (w:World) (mb mo:Nat) (ma:Option Addr) (mk:Nat) (ls:List LayD) (hmb:mb < w.heap.size) (hm:w.cell? ⟨mb,mo,none⟩=some (.slice ma ls.length mk)) (hls:SeeR layR w ma mk ls) (hn:ls.length≤100) (hi2:∀l∈ls,l.ws.length≤1048576∧l.bs.length≤1048576) :
  Calls Tryz.prog 55 #[.pointer (some ⟨mb,mo,none⟩)] w (LayPost ((ls.map fun l=>l.toLayP.can).map (mapL bfE)) w):=by
 obtain ⟨i0,hi0,hz0,hzs,hz2⟩:=info_parts info_lay
 have HLS:=I hls;have HI2:=I hi2
 have HM:=I (fun W (hb:Below w.heap.size w W)=>(hb.cell (p:=⟨mb,mo,none⟩) hmb).trans hm)
 obtain ⟨n,hN⟩:∃n,n=ls.length:=⟨_,rfl⟩
 rw [←hN] at hn HM
 have HN:=I hN
 clear hls hi2 hm hN hmb
 have HL0:=I ((((LN.nil w).alloc #[.slice none 0 0] 35).nil1).alloc #[.slice (some ⟨w.heap.size+1,0,none⟩) 0 0] 35)
 go_enter Tryz.func55,Tryz.ntmps55
 go_upto_region 2 with fail
 obtain ⟨ob,hob⟩:∃g,g=w.heap.size+1+1:=⟨_,rfl⟩
 obtain ⟨W3,hW3⟩:∃W,W=((w.alloc (.cells #[.slice none 0 0] 35)).alloc (.cells #[] 99)).alloc (.cells #[.slice (some ⟨w.heap.size+1,0,none⟩) 0 0] 35):=⟨_,rfl⟩
 rw [←hob,←hW3]
 have HL:Hid (LN w W3 (some ⟨w.heap.size+1,0,none⟩) 0 0 [] [xRow 35 ob [.slice (some ⟨w.heap.size+1,0,none⟩) 0 0],xRow 35 w.heap.size [.slice none 0 0]]):=I (by
  have h:=HL0.out
  have e1:(w.alloc (.cells #[.slice none 0 0] 35)).heap.size=w.heap.size+1:=by simp
  have e2:((w.alloc (.cells #[.slice none 0 0] 35)).alloc (.cells #[] 99)).heap.size=w.heap.size+1+1:=by simp
  rw [e1,e2,←hob,←hW3] at h
  exact h)
 clear hob hW3 HL0
 go_wp2
 go_loopw [4,5] (fun i p wt => ∃k:Nat,i=.int .i64 k∧k≤n∧∃ad cap,Hid (LN w wt ad k cap ((ls.take k).map fun l=>mapL bfE l.toLayP.can) [xRow 35 ob [.slice ad k cap],xRow 35 w.heap.size [.slice none 0 0]])) (fun i p wt=>n - (intOf i).toNat)
 case atStart=>exact ⟨0,rfl,Nat.zero_le _,_,0,HL⟩
 case round =>
  obtain ⟨k,rfl,hk,ad,cap,HL1⟩:=hrel
  have hm:=HM.out wr HL1.out.below
  by_cases hlt:k < n
  ·obtain ⟨l,hl⟩:=getElem?_lt (show k < ls.length by rw [←HN.out];exact hlt)
   have HLL:=I hl
   have hb0:=HL1.out.below
   have hii:=HI2.out l (List.mem_of_getElem? hl)
   have hsee:=HLS.out.below hb0
   clear hl
   obtain ⟨-,-,-,-,-,⟨hfw,hfb⟩,hok⟩:=lay_spot HLS.out HLL.out
   obtain ⟨b,off,rfl,hb,⟨c0,c1,c2,c3,c4⟩,-,-⟩:=lay_spot hsee HLL.out
   have HTK:=I (show (ls.take (k+1)).map (fun l=>mapL bfE l.toLayP.can)=(ls.take k).map (fun l=>mapL bfE l.toLayP.can) ++ [mapL bfE l.toLayP.can] by
    rw [List.take_add_one,HLL.out,List.map_append];rfl)
   have HFW:=I (fun W (hb:Below w.heap.size w W)=>hfw.below hb);have HFB:=I (fun W (hb:Below w.heap.size w W)=>hfb.below hb);have HOK:=I hok
   clear HLL hsee hfw hfb hok hb0
   obtain ⟨⟨kk,li,lo,lws,lbs⟩,wa,wk,ba,bk⟩:=l
   simp only at c0 c1 c2 c3 c4 hii HFW HFB
   obtain ⟨m1,hm1⟩:∃m,m=lws.length:=⟨_,rfl⟩
   obtain ⟨m2,hm2⟩:∃m,m=lbs.length:=⟨_,rfl⟩
   rw [←hm1] at c3 hii;rw [←hm2] at c4 hii
   have HM1:=I hm1;have HM2:=I hm2
   clear hm1 hm2
   have HL2:=I (HL1.out.alloc #[.int .i64 kk,.int .i64 li,.int .i64 lo,.slice wa m1 wk,.slice ba m2 bk] 99)
   go_upto_region 6 with fail
   clear c0 c1 c2 c3 c4 HL1 hm hb
   generalize wr.alloc (.cells #[.int .i64 kk,.int .i64 li,.int .i64 lo,.slice wa m1 wk,.slice ba m2 bk] 99)=W4 at HL2 ⊢
   generalize wr.heap.size=lb at HL2 ⊢
   have BX:=(HL2.out.box (List.mem_cons_self ..)).five
   obtain ⟨-,d0,d1,d2,d3,d4,-⟩:=BX
   have K:=I (spec_l06Rounded W4 wa wk lws (HFW.out _ HL2.out.below) (by rw [←HM1.out];exact hii.1))
   rw [←HM1.out] at K
   go_wp2_with fail
   refine K.out.mono ?_
   rintro e w5 ⟨a5,n5,k5,y5,rfl,rfl,HY5,hb5⟩
   have HL3:=I ((HL2.out.addF hb5 HY5.out.1).swap)
   have HE5:=I HY5.out.2
   have HO5:=I HY5.out.1.lt
   have HN5:=I HY5.out.1.len
   clear K hb5 d0 d1 d2 d3 d4 HL2 HFW HY5
   obtain ⟨hl5,d0,d1,d2,d3,d4,hf⟩:=(HL3.out.box (List.mem_cons_self ..)).five
   have hf3:=hf 3
   clear hf
   go_upto_region 7 with fail
   have HL4:=I (HL3.out.store 3 (.slice a5 n5 k5))
   clear HL3 d0 d1 d2 d3 d4 hf3 hl5
   generalize w5.setCell ⟨lb,3,none⟩ (.slice a5 n5 k5)=W6 at HL4 ⊢
   have HL4:Hid (LN w W6 ad k cap ((ls.take k).map fun l=>mapL bfE l.toLayP.can) (xRow 99 lb [.int .i64 kk,.int .i64 li,.int .i64 lo,.slice a5 n5 k5,.slice ba m2 bk] :: floatRow a5 k5 y5 :: [xRow 35 ob [.slice ad k cap],xRow 35 w.heap.size [.slice none 0 0]])):=HL4
   obtain ⟨-,d0,d1,d2,d3,d4,-⟩:=(HL4.out.box (List.mem_cons_self ..)).five
   have K:=I (spec_l06Rounded W6 ba bk lbs (HFB.out _ HL4.out.below) (by rw [←HM2.out];exact hii.2))
   rw [←HM2.out] at K
   go_wp2_with fail
   refine K.out.mono ?_
   rintro e w7 ⟨a7,n7,k7,y7,rfl,rfl,HY7,hb7⟩
   have HL5:=I ((HL4.out.addF hb7 HY7.out.1).swap)
   have HE7:=I HY7.out.2
   have HO7:=I HY7.out.1.lt
   have HN7:=I HY7.out.1.len
   clear K hb7 d0 d1 d2 d3 d4 HL4 HFB HY7
   obtain ⟨hl7,d0,d1,d2,d3,d4,hf⟩:=(HL5.out.box (List.mem_cons_self ..)).five
   have hf4:=hf 4
   clear hf
   go_upto_region 8 with fail
   have HL6:=I (HL5.out.store 4 (.slice a7 n7 k7))
   clear HL5 d0 d1 d2 d3 d4 hf4 hl7
   generalize w7.setCell ⟨lb,4,none⟩ (.slice a7 n7 k7)=W8 at HL6 ⊢
   have HL6:Hid (LN w W8 ad k cap ((ls.take k).map fun l=>mapL bfE l.toLayP.can) (xRow 99 lb [.int .i64 kk,.int .i64 li,.int .i64 lo,.slice a5 n5 k5,.slice a7 n7 k7] :: floatRow a7 k7 y7 :: floatRow a5 k5 y5 :: [xRow 35 ob [.slice ad k cap],xRow 35 w.heap.size [.slice none 0 0]])):=HL6
   obtain ⟨-,d0,d1,d2,d3,d4,-⟩:=(HL6.out.box (List.mem_cons_self ..)).five
   obtain ⟨ho8,o0,of⟩:=(HL6.out.box (t:=35) (g:=ob) (cs:=[.slice ad k cap]) (by simp)).one1
   have hlP:=(HL6.out.sub (E':=floatRow a7 k7 y7 :: floatRow a5 k5 y5 :: [xRow 35 ob [.slice ad k cap],xRow 35 w.heap.size [.slice none 0 0]]) (List.sublist_cons_self _ _)).swap.push
   obtain ⟨vs,hrow,hpush⟩:=hlP
   have HROW:=I hrow;have HPU:=I hpush
   have hbs:=HL6.out.below.size
   clear hrow hpush HL6
   go_wp2_with (at_builtin;refine wp_appM rfl _ _ 33 rfl w.heap.size i0 (.agg #[.int .i64 0,.int .i64 0,.int .i64 0,.slice none 0 0,.slice none 0 0]) 5 72 1 Tryz.underlying33 hi0 hz0 hzs hz2 rfl (by decide) rfl (by intro u hu;simp at hu;rcases hu with rfl | rfl | rfl | rfl | rfl <;> rfl) _ _ _ rfl HROW.out (by go_simp) ?c3 ?c4 ?c5 ?_)
   case c3=>unfold maxLen;omega
   case c4=>omega
   case c5=>exact hbs
   intro v' w9 hown9 hg9 hat9
   obtain ⟨ad9,cap9,rfl,HL9⟩:=HPU.out ⟨⟨kk,li,lo,y5,y7⟩,a5,k5,a7,k7⟩ _ v' w9 ⟨⟨HO5.out,HO7.out⟩,HOK.out.2⟩ (by rfl) (by have h:=hown9;rw [←HN5.out,←HN7.out] at h;exact h) hg9 hat9
   have HLA:=I HL9
   have HEQ:=I (show LayP.can ⟨kk,li,lo,y5,y7⟩=mapL bfE (LayP.can ⟨kk,li,lo,lws,lbs⟩) by
    unfold mapL LayP.can
    simp only
    rw [HE5.out,HE7.out])
   clear hown9 hg9 hat9 HPU HL9 HROW d0 d1 d2 d3 d4 o0 of ho8
   obtain ⟨ho9,o0,of⟩:=(HLA.out.box (List.mem_cons_self ..)).one1
   have hof:=of 0
   clear of
   go_wp2
   refine ⟨?rel,?measure⟩
   case rel =>
    refine ⟨k+1,by go_num,hlt,ad9,cap9,I ?_⟩
    rw [HTK.out]
    have h:=HLA.out.store 0 (.slice ad9 (k+1) cap9)
    rw [HEQ.out] at h
    exact h
   case measure=>simp [intOf];omega
  ·have e:k=n:=by omega
   subst e
   have HT:=I (show (ls.take k).map (fun l=>mapL bfE l.toLayP.can)=(ls.map fun l=>l.toLayP.can).map (mapL bfE) by rw [HN.out,List.take_length,List.map_map];rfl)
   rw [HT.out] at HL1
   obtain ⟨-,o0,-⟩:=(HL1.out.box (List.mem_cons_self ..)).one1
   obtain ⟨hr1,r0,rf⟩:=(HL1.out.box (t:=35) (g:=w.heap.size) (cs:=[.slice none 0 0]) (by simp)).one1
   have hrf:=rf 0
   clear rf
   have HFIN:=I (HL1.out.swap.store 0 (.slice ad k cap))
   go_wp2
   try simp only [Exit.inBlock,Exit.then]
   refine bodyPost_ret (v:=.agg #[.slice ad k cap]) (by simp [results,Tryz.results55,go_sem,r0,hr1]) rfl ?_
   obtain ⟨us,h0,h2,h3,h4⟩:=HFIN.out
   exact ⟨ad,k,cap,us,rfl,I ⟨h2,h3.r⟩,h4⟩
end
end Go.Proofs.YtpadlmidojpbeaaGreat
