/- Joined texts 15. No condition. -/
import Derived.Deep.CutRange
import Derived.Deep.CutBlock
import Derived.Deep.DeepCutAuto
import Derived.Great.Frames
import Derived.Test.YtpadlmidojpbeaaGreatMc0
import Derived.Test.YtpadlmidojpbeaaGreatMc6
import Derived.Test.YtpadlmidojpbeaaGreatMc14
set_option linter.unusedVariables false
set_option linter.unusedSimpArgs false
namespace Go.Proofs.YtpadlmidojpbeaaGreat
open Go Go.RowKit
def ScOut (R:Option (List OpP × List Int)) (s:Nat) (w:World) (e:Ending) (w':World):Prop:=∃ad n cap z f b,e=.returned (.tuple #[.slice ad n cap,.float .f32 z,.bool f,.bool b]) ∧
 Hid (b=R.isSome∧(b=true→∃xs,RepF w' w.heap.size w'.heap.size ad n cap xs∧z < 4294967296∧(xs.map (cn .f32),cn .f32 z)=(scalM R s).1∧f=(scalM R s).2))∧Below w.heap.size w w'
theorem ScOut.none {R:Option (List OpP × List Int)} {s:Nat} {w w':World} {e:Ending} {ad:Option Addr} {n cap z:Nat} {f:Bool} (h:R=none) (he:e=.returned (.tuple #[.slice ad n cap,.float .f32 z,.bool f,.bool false])) (hb:Below w.heap.size w w'):ScOut R s w e w':=by
 subst h
 exact ⟨_,_,_,_,_,_,he,I ⟨rfl,fun h=>(by cases h)⟩,hb⟩
theorem modelP_noM {ls:List LayD} {X Y:TenP} {q:Nat} (h:modB (ls.map LayD.toLayP)=false):modelP ((ls.map fun l=>l.toLayP.can).map (mapL bfE)) X Y q=none:=by
 refine modelP_no ?_
 unfold goodM
 rw [modB_of_can,h];rfl
theorem modelP_noY {L:List LayP} {X:TenP} {yr yc:Int} {ys:List Nat} {q:Nat} (h:tenB yr yc ys.length=false):modelP L X ⟨yr,yc,ys⟩ q=none:=by
 refine modelP_no ?_
 unfold goodM
 simp [h]
set_option maxRecDepth 100000 in
set_option maxHeartbeats 16000000 in
theorem spec_l06Scaled (w:World) (mb mo xb xo yb yo:Nat) (ma:Option Addr) (mk:Nat) (ls:List LayD) (xr xc yr yc:Int) (xa ya:Option Addr) (xk yk:Nat) (xs ys:List Nat) (s:Nat) (hs:s < 4294967296)
  (hbm:mb < w.heap.size) (hbx:xb < w.heap.size) (hby:yb < w.heap.size)
  (hm:w.cell? ⟨mb,mo,none⟩=some (.slice ma ls.length mk)) (hls:SeeR layR w ma mk ls)
  (hx0:w.cell? ⟨xb,xo,none⟩=some (.int .i64 xr)) (hx1:w.cell? ⟨xb,xo+1,none⟩=some (.int .i64 xc)) (hx2:w.cell? ⟨xb,xo+2,none⟩=some (.slice xa xs.length xk)) (hx:F32s w xa xk xs)
  (hy0:w.cell? ⟨yb,yo,none⟩=some (.int .i64 yr)) (hy1:w.cell? ⟨yb,yo+1,none⟩=some (.int .i64 yc)) (hy2:w.cell? ⟨yb,yo+2,none⟩=some (.slice ya ys.length yk)) (hy:F32s w ya yk ys) (hxy:xb≠yb) :
  Calls Tryz.prog 30 #[.pointer (some ⟨mb,mo,none⟩),.pointer (some ⟨xb,xo,none⟩),.pointer (some ⟨yb,yo,none⟩),.float .f32 s] w (ScOut (modelP ((ls.map fun l=>l.toLayP.can).map (mapL bfE)) ⟨xr,xc,xs.map (cn .f32)⟩ ⟨yr,yc,ys.map (cn .f32)⟩ (fop .mul .f32 (shareE ys.length) (cn .f32 s))) (cn .f32 s) w):=by
 obtain ⟨R,hR⟩:∃R,R=modelP ((ls.map fun l=>l.toLayP.can).map (mapL bfE)) ⟨xr,xc,xs.map (cn .f32)⟩ ⟨yr,yc,ys.map (cn .f32)⟩ (fop .mul .f32 (shareE ys.length) (cn .f32 s)):=⟨_,rfl⟩
 rw [←hR]
 have HR:=I hR
 have hym:ys.length≤maxLen:=Nat.le_trans hy.len hy.cap
 have K1:=I (spec_l03Is w mb mo ma mk ls hls hm)
 have K2:=I (fun W (hb:Below w.heap.size w W)=>spec_l02Is W yb yo yr yc ya ys.length yk hym ((hb.cell (p:=⟨yb,yo,none⟩) hby).trans hy0) ((hb.cell (p:=⟨yb,yo+1,none⟩) hby).trans hy1) ((hb.cell (p:=⟨yb,yo+2,none⟩) hby).trans hy2))
 cases eM:modB (ls.map LayD.toLayP)
 ·rw [eM] at K1
  have HRN:Hid (R=none):=I (by rw [HR.out];exact modelP_noM eM)
  clear eM HR K2 hm hls hx0 hx1 hx2 hx hy0 hy1 hy2 hy hbm hbx hby hxy hym hR
  go_enter Tryz.func30,Tryz.ntmps30
  go_wp2_with fail
  refine K1.out.mono ?_
  rintro e w1 ⟨rfl,hd⟩
  have HB:=I hd.below
  clear hd
  go_wp2
  try simp only [Exit.inBlock,Exit.then]
  refine bodyPost_ret (v:=.tuple #[.slice (some ⟨w1.heap.size,0,none⟩) 0 0,.float .f32 0,.bool false,.bool false]) (by simp [results,Tryz.results30,go_sem]) rfl ?_
  exact ScOut.none HRN.out rfl (bthen HB.out (below1 _ _))
 rw [eM] at K1
 have hlens:=lens_mod eM
 cases eY:tenB yr yc ys.length
 ·rw [eY] at K2
  have HRN:Hid (R=none):=I (by rw [HR.out];exact modelP_noY (by rw [List.length_map];exact eY))
  clear eM eY HR hlens hm hls hx0 hx1 hx2 hx hy0 hy1 hy2 hy hbm hbx hby hxy hym hR
  go_enter Tryz.func30,Tryz.ntmps30
  go_wp2_with fail
  refine K1.out.mono ?_
  rintro e w1 ⟨rfl,hd⟩
  have HB:=I hd.below
  clear hd
  go_wp2_with fail
  refine (K2.out _ HB.out).mono ?_
  rintro e w2 ⟨rfl,hd⟩
  have HB2:=I (bthen HB.out hd.below)
  clear hd
  go_wp2
  try simp only [Exit.inBlock,Exit.then]
  refine bodyPost_ret (v:=.tuple #[.slice (some ⟨w2.heap.size,0,none⟩) 0 0,.float .f32 0,.bool false,.bool false]) (by simp [results,Tryz.results30,go_sem]) rfl ?_
  exact ScOut.none HRN.out rfl (bthen HB2.out (below1 _ _))
 rw [eY] at K2
 obtain ⟨⟨yr1,yr2⟩,⟨yc1,yc2⟩,hyl⟩:=tenB_iff.1 eY
 obtain ⟨r,rfl⟩:∃r:Nat,yr=r:=⟨yr.toNat,by omega⟩
 obtain ⟨d,rfl⟩:∃d:Nat,yc=d:=⟨yc.toNat,by omega⟩
 have hyd:ys.length=r * d:=by exact_mod_cast hyl
 have KS:=I (fun W (hb:Below w.heap.size w W)=>spec_l04Share W yb yo r d (by omega) (by omega) ((hb.cell (p:=⟨yb,yo,none⟩) hby).trans hy0) ((hb.cell (p:=⟨yb,yo+1,none⟩) hby).trans hy1))
 rw [←hyd] at KS
 have KB:=I (fun W (hb:Below w.heap.size w W)=>spec_l06Bfloat W mb mo ma mk ls (Nat.lt_of_lt_of_le hbm hb.size) ((hb.cell (p:=⟨mb,mo,none⟩) hbm).trans hm) (hls.below hb) (by have:=hlens.1;omega) (fun l hl=>by have:=hlens.2 l hl;omega))
 have KM:=I (fun W (hb:Below w.heap.size w W) bb ad cap (us:List LayD) (h0:W.cell? ⟨bb,0,none⟩=some (.slice ad us.length cap)) (h1:SeeR layR W ad cap us) z (hz:z < 4294967296) =>
  spec_l04Model W bb 0 xb xo yb yo ad cap us xr xc r d xa ya xk yk xs ys z hz h0 h1 ((hb.cell (p:=⟨xb,xo,none⟩) hbx).trans hx0) ((hb.cell (p:=⟨xb,xo+1,none⟩) hbx).trans hx1) ((hb.cell (p:=⟨xb,xo+2,none⟩) hbx).trans hx2) (hx.below hb) ((hb.cell (p:=⟨yb,yo,none⟩) hby).trans hy0) ((hb.cell (p:=⟨yb,yo+1,none⟩) hby).trans hy1) ((hb.cell (p:=⟨yb,yo+2,none⟩) hby).trans hy2) (hy.below hb) hxy)
 clear eM eY hlens hyl hyd yr1 yr2 yc1 yc2 hm hls hx0 hx1 hx2 hx hy0 hy1 hy2 hy hbm hbx hby hxy hym hR
 go_enter Tryz.func30,Tryz.ntmps30
 go_wp2_with fail
 refine K1.out.mono ?_
 rintro e w1 ⟨rfl,hd⟩
 have HB1:=I hd.below
 clear hd K1
 go_wp2_with fail
 refine (K2.out _ HB1.out).mono ?_
 rintro e w2 ⟨rfl,hd⟩
 have HB2:=I (bthen HB1.out hd.below)
 clear hd K2 HB1
 go_wp2_with fail
 refine (KB.out _ HB2.out).mono ?_
 rintro e w3 ⟨ad,m,cap,us,rfl,HU,hb⟩
 have HB3:=I (bthen HB2.out hb)
 clear hb KB HB2
 go_upto_region 4 with fail
 have BB:=I (BoxN.alloc w3 #[.slice ad m cap] 35)
 have HB4:=I (bthen HB3.out (below1 w3 (.cells #[.slice ad m cap] 35)))
 have HU4:=I (HU.out.2.below (below1 w3 (.cells #[.slice ad m cap] 35)))
 have HUC:=I HU.out.1
 clear HU HB3
 generalize w3.alloc (.cells #[.slice ad m cap] 35)=W4 at BB HB4 HU4 ⊢
 generalize w3.heap.size=bb at BB ⊢
 go_wp2_with fail
 refine (KS.out _ HB4.out).mono ?_
 rintro e w5 ⟨z,rfl,hz,hd⟩
 have HZ:=I hz.out
 have HD5:=I hd.below
 clear hz hd KS
 have HLB:=I (show ((learnM R).getD ([],0)).1.length≤3072 by rw [HR.out];exact learn_len _ _ _ _)
 have hlu:=HU4.out.len
 have KL:=I (fun W (hb:Below W4.heap.size W4 W) y (hy:y < 4294967296) (hyc:cn .f32 y=fop .mul .f32 (shareE ys.length) (cn .f32 s))=>by
  have h:=KM.out W (bthen HB4.out hb) bb ad cap us (by rw [hlu];exact (BB.out.below hb).one1.2.1) (HU4.out.below hb).see y hy
  rw [HUC.out,hyc,←HR.out] at h
  exact spec_l04Loss W R _ _ _ y _ _ _ _ HR.out h)
 clear KM hlu HU4 HUC
 go_wp2_with fail
 obtain ⟨y,hy⟩:∃y,y=fbits BinOp.mul FloatKind.f32 z s w5:=⟨_,rfl⟩
 rw [←hy]
 have hyl:y < 4294967296:=by rw [hy];exact fbits_lt _ .f32 _ _ _
 have hyc:cn .f32 y=fop .mul .f32 (shareE ys.length) (cn .f32 s):=by rw [hy,cn_fbits,HZ.out.1]
 have KL2:=I (KL.out (w5.drewN (fdr BinOp.mul FloatKind.f32 z s)) (below_drewN HD5.out _) y hyl hyc)
 have HB6:=I (bthen HB4.out (below_drewN HD5.out (fdr BinOp.mul FloatKind.f32 z s)))
 clear KL hy hyl hyc HZ HD5 HB4 BB HR
 generalize w5.drewN (fdr BinOp.mul FloatKind.f32 z s)=w6 at KL2 HB6 ⊢
 refine KL2.out.mono ?_
 rintro e w7 ⟨la,n,c2,z2,b,rfl,HO,hb7⟩
 have HB7:=I (bthen HB6.out hb7)
 have hs7:=hb7.size
 have hs6:=HB6.out.size
 clear KL2 hb7
 cases b
 ·have HRN:Hid (R=none):=I (by have:=HO.out.1.1;cases R <;> first | rfl | cases this)
  have hn0:=HO.out.2 rfl
  subst hn0
  clear HO
  go_wp2
  go_loopw [16,17] (fun f i wt=>i=.int .i64 0∧∃b,f=.bool b∧Hid (Below w.heap.size w wt)) (fun f i wt=>0)
  case atStart=>exact ⟨rfl,true,rfl,HB7⟩
  case round =>
   obtain ⟨rfl,f,rfl,HB⟩:=hrel
   go_wp2
   try simp only [Exit.inBlock,Exit.then]
   refine bodyPost_ret (v:=.tuple #[.slice la 0 c2,.float .f32 (fbits BinOp.quo FloatKind.f32 z2 s wr),.bool f,.bool false]) (by simp [results,Tryz.results30,go_sem]) rfl ?_
   exact ScOut.none HRN.out rfl (below_drewN HB.out _)
 ·obtain ⟨zs,hr,hzl,hL⟩:=HO.out.1.2 rfl
  have HRL:=I hL;have HZ2:=I hzl;have HX7:=I hr
  have hlen:=hr.len
  have HZL:=I hlen
  have hn3:n≤3072:=by
   have h:=HLB.out
   rw [hL] at h
   have h2:(zs.map (cn .f32)).length≤3072:=h
   rw [List.length_map,hlen] at h2
   exact h2
  have HRI:=I HO.out.1.1
  clear HO hr hzl hL hlen
  go_wp2
  go_loopw [16,17] (fun f i wt => ∃k:Nat,i=.int .i64 k∧k≤n∧f=.bool ((zs.take k).all finB)∧Hid (∃us,RepF wt w6.heap.size w7.heap.size la n c2 us∧InPl (fun g=>fop .quo .f32 g (cn .f32 s)) zs k us)∧Hid (Below w.heap.size w wt∧w7.heap.size≤wt.heap.size)) (fun f i wt=>n - (intOf i).toNat)
  case atStart=>exact ⟨0,rfl,Nat.zero_le _,rfl,I ⟨_,HX7.out,InPl.zero _ _⟩,I ⟨HB7.out,Nat.le_refl _⟩⟩
  case round =>
   obtain ⟨k,rfl,hk,rfl,HY,HB⟩:=hrel
   by_cases hlt:k < n
   ·obtain ⟨us,hr,hip⟩:=HY.out
    obtain ⟨x,hx⟩:=getElem?_lt (show k < zs.length by rw [HZL.out];exact hlt)
    have HXX:=I hx
    have HTK:=I (show (zs.take (k+1)).all finB=((zs.take k).all finB && finB x) by
     rw [List.take_add_one,hx,List.all_append];simp)
    obtain ⟨g',rfl,hge,hcc,hf,-⟩:=hr.open (by omega)
    have hck:=hcc k hlt
    rw [hip.at' hx] at hck
    have hgl:g' < wr.heap.size:=(hr.row.own.lt g' rfl).2
    have HRR:=I hr;have HIP:=I hip
    clear hx hcc hr hip hf HY
    cases eF:(zs.take k).all finB
    ·rw [eF] at HTK
     have hf:=(HRR.out.row.own.frozenAt k)
     go_wp2
     refine ⟨?rel,?measure⟩
     case rel =>
      have hb1:=below_drewN (Below.refl wr.heap.size wr) (fdr BinOp.quo FloatKind.f32 x s)
      exact ⟨k+1,by go_num,hlt,by rw [HTK.out];rfl,I ⟨_,(HRR.out.below hb1).setAt k _ (fbits_lt _ .f32 _ _ _) (by omega),HIP.out.set HXX.out (by rw [cn_fbits])⟩,I ⟨(bthen HB.out.1 hb1).setCell (p:=⟨g',k,none⟩) (Nat.le_trans hs6 hge) _,by simpa [World.setCell] using HB.out.2⟩⟩
     case measure=>simp [intOf];omega
    ·rw [eF] at HTK
     have KF:=I (fun W=>spec_l01Finite x W)
     go_wp2_with fail
     refine (KF.out _).mono ?_
     rintro e w8 ⟨rfl,hd⟩
     have HR8:=I (HRR.out.below hd.below)
     have HB8:=I (And.intro (bthen HB.out.1 hd.below) (Nat.le_trans HB.out.2 hd.below.size))
     clear hd HRR hck KF
     obtain ⟨g2,e2,-,hcc,hf,-⟩:=HR8.out.open (by omega)
     cases e2
     have hck:=hcc k hlt
     rw [HIP.out.at' HXX.out] at hck
     have hfk:=hf k
     have hgl8:g' < w8.heap.size:=(HR8.out.row.own.lt g' rfl).2
     clear hcc hf
     go_wp2
     refine ⟨?rel,?measure⟩
     case rel =>
      have hb1:=below_drewN (Below.refl w8.heap.size w8) (fdr BinOp.quo FloatKind.f32 x s)
      exact ⟨k+1,by go_num,hlt,by rw [HTK.out];rfl,I ⟨_,(HR8.out.below hb1).setAt k _ (fbits_lt _ .f32 _ _ _) (by omega),HIP.out.set HXX.out (by rw [cn_fbits])⟩,I ⟨(bthen HB8.out.1 hb1).setCell (p:=⟨g',k,none⟩) (Nat.le_trans hs6 hge) _,by simpa [World.setCell] using HB8.out.2⟩⟩
     case measure=>simp [intOf];omega
   ·have e:k=n:=by omega
    subst e
    obtain ⟨us,hr,hip⟩:=HY.out
    have HE:=I (hip.all HZL.out.symm)
    have HT:=I (show zs.take k=zs by rw [←HZL.out];exact List.take_length)
    have HRR:=I hr
    clear hr hip HY
    rw [HT.out]
    go_wp2
    try simp only [Exit.inBlock,Exit.then]
    refine bodyPost_ret (v:=.tuple #[.slice la k c2,.float .f32 (fbits BinOp.quo FloatKind.f32 z2 s wr),.bool (zs.all finB),.bool true]) (by simp [results,Tryz.results30,go_sem]) rfl ?_
    have hb1:=below_drewN (Below.refl wr.heap.size wr) (fdr BinOp.quo FloatKind.f32 z2 s)
    refine ⟨_,_,_,_,_,_,rfl,I ⟨HRI.out,fun _=>⟨us,(HRR.out.below hb1).bounds hs6 (by simpa using HB.out.2),fbits_lt _ .f32 _ _ _,?_,?_⟩⟩,bthen HB.out.1 hb1⟩
    ·rw [scalM_some HRL.out,HE.out,cn_fbits]
    ·rw [scalM_some HRL.out,all_finB_cn]
def StOut (Lc:List LayP) (R:Option (List OpP × List Int)) (c s:Nat) (g q:Int) (r:Nat) (w:World) (e:Ending) (w':World):Prop:=∃ad n cap s' g' q' f b us,e=.returned (.tuple #[.agg #[.slice ad n cap],.agg #[.float .f32 s',.int .i64 g',.int .i64 q'],.bool f,.bool b]) ∧
 Hid (b=R.isSome∧OwnR layR w' w.heap.size w'.heap.size ad n cap us∧(b=true→(f=(scalM R c).2∧(s',g',q')=mixS R c s g q)∧us.map (fun l=>l.toLayP.can)=mixL Lc R c r))∧Below w.heap.size w w'
theorem below_dr2 {B:Nat} {w V:World} (h:Below B w V):Below B w V.drew:=Below.drew h
theorem three_boxes (w:World) (c1 c2 c3:Array Value) (t1 t2 t3:TypeId) :
  ∃W,W=((w.alloc (.cells c1 t1)).alloc (.cells c2 t2)).alloc (.cells c3 t3) ∧
   W.heap.size=w.heap.size+1+1+1∧Below w.heap.size w W ∧
   (BoxN W w.heap.size c1.toList∧BoxN W (w.heap.size+1) c2.toList∧BoxN W (w.heap.size+1+1) c3.toList):=by
 refine ⟨_,rfl,by simp,below3 _ _ _ _,?_⟩
 have a1:=BoxN.alloc w c1 t1
 have a2:=BoxN.alloc (w.alloc (.cells c1 t1)) c2 t2
 have a3:=BoxN.alloc ((w.alloc (.cells c1 t1)).alloc (.cells c2 t2)) c3 t3
 have e1:(w.alloc (.cells c1 t1)).heap.size=w.heap.size+1:=by simp
 have e2:((w.alloc (.cells c1 t1)).alloc (.cells c2 t2)).heap.size=w.heap.size+1+1:=by simp
 rw [e1] at a2;rw [e2] at a3
 exact ⟨(a1.below (below1 _ _)).below (below1 _ _),a2.below (below1 _ _),a3⟩
set_option maxRecDepth 100000 in
set_option maxHeartbeats 16000000 in
theorem spec_l06Step (w:World) (mb mo xb xo yb yo:Nat) (ma:Option Addr) (mk:Nat) (ls:List LayD) (s:Nat) (gg qq:Int) (xr xc yr yc:Int) (xa ya:Option Addr) (xk yk:Nat) (xs ys:List Nat) (r:Nat) (hs:s < 4294967296) (hv:validScaleB s gg qq=true)
  (hbm:mb < w.heap.size) (hbx:xb < w.heap.size) (hby:yb < w.heap.size)
  (hm:w.cell? ⟨mb,mo,none⟩=some (.slice ma ls.length mk)) (hls:SeeR layR w ma mk ls) (hnil:nilL ls)
  (hx0:w.cell? ⟨xb,xo,none⟩=some (.int .i64 xr)) (hx1:w.cell? ⟨xb,xo+1,none⟩=some (.int .i64 xc)) (hx2:w.cell? ⟨xb,xo+2,none⟩=some (.slice xa xs.length xk)) (hx:F32s w xa xk xs)
  (hy0:w.cell? ⟨yb,yo,none⟩=some (.int .i64 yr)) (hy1:w.cell? ⟨yb,yo+1,none⟩=some (.int .i64 yc)) (hy2:w.cell? ⟨yb,yo+2,none⟩=some (.slice ya ys.length yk)) (hy:F32s w ya yk ys) (hxy:xb≠yb) :
  Calls Tryz.prog 42 #[.pointer (some ⟨mb,mo,none⟩),.agg #[.float .f32 s,.int .i64 gg,.int .i64 qq],.pointer (some ⟨xb,xo,none⟩),.pointer (some ⟨yb,yo,none⟩),.float .f32 r] w (StOut (ls.map fun l=>l.toLayP.can) (scaleR (ls.map fun l=>l.toLayP.can) ⟨xr,xc,xs.map (cn .f32)⟩ ⟨yr,yc,ys.map (cn .f32)⟩ ys.length s) (cn .f32 s) s gg qq (cn .f32 r) w):=by
 obtain ⟨W3,hW3,hsz,hb3,bs,br,bt⟩:=three_boxes w #[.float .f32 s,.int .i64 gg,.int .i64 qq] #[.slice none 0 0] #[.float .f32 0,.int .i64 0,.int .i64 0] 50 35 50
 have BS:=I bs;have BR:=I br;have BT:=I bt
 have HW3:=I hW3;have HB3:=I hb3
 have HLS:=I (hls.below hb3);have HNIL:=I hnil
 have HM:=I (fun W (hb:Below w.heap.size w W)=>(hb.cell (p:=⟨mb,mo,none⟩) hbm).trans hm)
 have hsc:isScaleB s=true:=(valid_parts hv).1
 have KG0:=spec_l06Scaled W3 mb mo xb xo yb yo ma mk ls xr xc yr yc xa ya xk yk xs ys s hs (Nat.lt_of_lt_of_le hbm hb3.size) (Nat.lt_of_lt_of_le hbx hb3.size) (Nat.lt_of_lt_of_le hby hb3.size) ((hb3.cell (p:=⟨mb,mo,none⟩) hbm).trans hm) (hls.below hb3) ((hb3.cell (p:=⟨xb,xo,none⟩) hbx).trans hx0) ((hb3.cell (p:=⟨xb,xo+1,none⟩) hbx).trans hx1) ((hb3.cell (p:=⟨xb,xo+2,none⟩) hbx).trans hx2) (hx.below hb3) ((hb3.cell (p:=⟨yb,yo,none⟩) hby).trans hy0) ((hb3.cell (p:=⟨yb,yo+1,none⟩) hby).trans hy1) ((hb3.cell (p:=⟨yb,yo+2,none⟩) hby).trans hy2) (hy.below hb3) hxy
 rw [←scaleR_on hsc] at KG0
 obtain ⟨Lc,hLc⟩:∃Lc,Lc=ls.map fun l=>l.toLayP.can:=⟨_,rfl⟩
 rw [←hLc] at KG0 ⊢
 have HLc:=I hLc
 obtain ⟨R,hR⟩:∃R,R=scaleR Lc ⟨xr,xc,xs.map (cn .f32)⟩ ⟨yr,yc,ys.map (cn .f32)⟩ ys.length s:=⟨_,rfl⟩
 rw [←hR] at KG0 ⊢
 have HR:=I hR
 have KG:=I KG0
 have HV:=I hv
 clear KG0 hLc hls hx hy hnil hb3 hW3 hR bs br bt hv hsc hx0 hx1 hx2 hy0 hy1 hy2 hxy hbx hby hm
 go_enter Tryz.func42,Tryz.ntmps42
 go_upto_region 1 with fail
 rw [←HW3.out]
 obtain ⟨-,s0,s1,s2,-⟩:=BS.out.three
 go_wp2_with fail
 refine KG.out.mono ?_
 rintro e w8 ⟨la,n,c2,z,f,b,rfl,HO,hb⟩
 have HB8:=I hb
 clear hb KG s0 s1 s2
 obtain ⟨-,s0,s1,s2,-⟩:=(BS.out.below HB8.out).three
 cases b
 ·have HRN:Hid (R=none):=I (by have:=HO.out.1;cases R <;> first | rfl | cases this)
  clear HO HR
  have hq1:w.heap.size≤w.heap.size+1:=by omega
  have hq2:w.heap.size≤w.heap.size+1+1:=by omega
  have hq3:w.heap.size+1 < W3.heap.size:=by omega
  have hq4:w.heap.size+1+1 < W3.heap.size:=by omega
  have hq6:w.heap.size≤W3.heap.size:=HB3.out.size
  clear hsz
  have n1:¬ w.heap.size=w.heap.size+1:=by omega
  have n2:¬ w.heap.size=w.heap.size+1+1:=by omega
  have n11:¬ w.heap.size+1=w.heap.size+1+1:=by omega
  generalize w.heap.size+1+1=tB at BT n2 n11 hq2 hq4 ⊢
  generalize w.heap.size+1=rB at BR n1 n11 hq1 hq3 ⊢
  have n7:=Ne.symm n1;have n8:=Ne.symm n2;have n12:=Ne.symm n11
  obtain ⟨hlr,r0,rf⟩:=(BR.out.below HB8.out).one1
  obtain ⟨hlt,t0,t1,t2,tf⟩:=(BT.out.below HB8.out).three
  have f0:=rf 0;have g0:=tf 0;have g1:=tf 1;have g2:=tf 2
  clear rf tf
  go_wp2
  go_region_held3 (fun w'=>(w'.cell? ⟨w.heap.size,0,none⟩=some (.float .f32 s)∧w'.cell? ⟨w.heap.size,1,none⟩=some (.int .i64 gg)∧w'.cell? ⟨w.heap.size,2,none⟩=some (.int .i64 qq))) (go_keep) (first | fail)
  go_wp2
  try simp only [Exit.inBlock,Exit.then]
  refine bodyPost_ret (v:=.tuple #[.agg #[.slice none 0 0],.agg #[.float .f32 s,.int .i64 gg,.int .i64 qq],.bool false,.bool false]) (by simp [results,Tryz.results42,go_sem,r0,t0,t1,t2,hlr,hlt,n11,n12]) rfl ?_
  refine ⟨none,0,0,_,_,_,_,_,[],rfl,I ⟨by rw [HRN.out];rfl,OwnR.nil _ _ _ _,fun h=>(by cases h)⟩,?_⟩
  exact below_dr2 (Below.setCell (p:=⟨tB,2,none⟩) (Below.setCell (p:=⟨tB,1,none⟩) (Below.setCell (p:=⟨tB,0,none⟩) (Below.setCell (p:=⟨rB,0,none⟩) (bthen HB3.out HB8.out) hq1 _) hq2 _) hq2 _) hq2 _)
 have hRs:R.isSome=true:=HO.out.1.symm
 have hM:modB (ls.map LayD.toLayP)=true:=scale_valid (by rw [←HLc.out,←HR.out];exact hRs)
 obtain ⟨hl6,hlens⟩:=lens_mod hM
 obtain ⟨ds,hdr,hzl,hD,hF⟩:=HO.out.2 rfl
 obtain ⟨L,hL⟩:∃L,L=ls.map LayD.toLayP:=⟨_,rfl⟩
 have HLC:=I (show Lc=L.map LayP.can by rw [HLc.out,hL,List.map_map];rfl)
 have hcnt:cntP L≤432:=by have:=cnt_lens ls hlens;rw [←hL] at this;omega
 have hdl:ds.length=cntP L:=by
  have h1:=scal_cnt (c:=cn .f32 s) HR.out hRs
  rw [←congrArg Prod.fst hD,List.length_map,HLC.out,cntP_can] at h1
  exact h1
 have HRS:=I hRs
 have HF:=I hF
 have HD:=I (congrArg Prod.fst hD)
 have HDR:=I hdr
 have hnl:n=cntP L:=by rw [←hdr.len,hdl]
 have K1:=I (spec_ParamsOf_yes w8 ma mk ls (HLS.out.below HB8.out) HNIL.out hM)
 have K2:=I (fun W (hb:Below W3.heap.size W3 W) b off ck xs h1 h2 h3=>spec_WithParams_yes W ma mk ls b off ck xs (HLS.out.below hb) HNIL.out hM h1 h2 h3)
 have K3:=I (fun W f=>spec_next s hs gg qq f HV.out W)
 rw [←hL] at K1 K2
 have HNL:=I hnl
 have HDL:=I hdl
 have hn4:n≤432:=by omega
 have hmm:=HM.out w8 (bthen HB3.out HB8.out)
 clear HO hRs hM hl6 hlens hL hs HV HR hnl hdl hcnt hdr hzl hD hF
 go_wp2_with fail
 refine K1.out.mono ?_
 rintro e w9 ⟨g3,n3,c3,rfl,HP,hb9⟩
 have HB9:=I (bthen HB8.out hb9)
 obtain rfl:n3=n:=by rw [←HP.out.len,HNL.out];rfl
 have hge3:w8.heap.size≤g3:=(HP.out.row.own.lt g3 rfl).1
 have HBB:=I hb9
 have hs8:=HB8.out.size
 have hs9:=hb9.size
 clear hb9 K1 hmm s0 s1 s2
 cases f
 ·go_wp2
  go_loopw [20] (fun i wt=>i=.int .i64 0∧wt=w9) (fun i wt=>0)
  case atStart=>exact ⟨rfl,rfl⟩
  case round =>
   obtain ⟨rfl,rfl⟩:=hrel
   by_cases hz:(0:Int) < (n3:Int)
   ·have HYY:Hid (RepF wr w8.heap.size wr.heap.size (some ⟨g3,0,none⟩) n3 c3 (paramsP L)∧(paramsP L).map (cn .f32)=newP false (paramsP Lc) (scalM R (cn .f32 s)).1.1 (cn .f32 r)):=I ⟨HP.out,by rw [paramsP_can,←HLC.out];rfl⟩
    have hgl:g3 < wr.heap.size:=(HYY.out.1.row.own.lt g3 rfl).2
    have hyl:(paramsP L).length=n3:=HYY.out.1.len
    have KW:=I (K2.out wr HB9.out g3 0 c3 (paramsP L) HYY.out.1.arg hgl (by rw [hyl,HNL.out]))
    rw [hyl] at KW
    have HML:=I (show (withP L (paramsP L)).map LayP.can=mixL Lc R (cn .f32 s) (cn .f32 r) by
     rw [withP_can,HYY.out.2,←HLC.out]
     unfold mixL
     rw [if_pos HRS.out,←HF.out])
    have hmm:=HM.out wr (bthen HB3.out HB9.out)
    have hsW:=HB9.out.size
    clear K2 hyl hgl
    go_wp2_with fail
    refine KW.out.mono ?_
    rintro e w11 ⟨ad,m,cap,us,rfl,HU,hb11⟩
    have HB11:=I (bthen HB9.out hb11)
    have HU11:=I (HU.out.2.below (below1 w11 (.cells #[.slice ad m cap] 35)))
    have HUC:=I HU.out.1
    have B21:=I (BoxN.alloc w11 #[.slice ad m cap] 35)
    have HB12:=I (bthen HB11.out (below1 w11 (.cells #[.slice ad m cap] 35)))
    have hs11:=HB11.out.size
    have hh11:=hb11.size
    have hh12:w11.heap.size≤(w11.alloc (.cells #[.slice ad m cap] 35)).heap.size:=by simp
    clear hb11 HU KW hmm
    have hq1:w.heap.size≤w.heap.size+1:=by omega
    have hq2:w.heap.size≤w.heap.size+1+1:=by omega
    have hq3:w.heap.size+1 < W3.heap.size:=by omega
    have hq4:w.heap.size+1+1 < W3.heap.size:=by omega
    have hq6:w.heap.size≤W3.heap.size:=HB3.out.size
    clear hsz
    have n1:¬ w.heap.size=w.heap.size+1:=by omega
    have n2:¬ w.heap.size=w.heap.size+1+1:=by omega
    have n11:¬ w.heap.size+1=w.heap.size+1+1:=by omega
    have nb1:¬ w11.heap.size=w.heap.size+1:=by omega
    have nb2:¬ w11.heap.size=w.heap.size+1+1:=by omega
    go_upto_region 10 with fail
    generalize w11.alloc (.cells #[.slice ad m cap] 35)=w12 at HU11 B21 HB12 hh12 ⊢
    have HK12:=I hh12;have HK11:=I hh11
    obtain ⟨-,m0,-⟩:=B21.out.one1
    obtain ⟨-,s0,s1,s2,-⟩:=(BS.out.below HB12.out).three
    generalize w11.heap.size=bB at B21 nb1 nb2 m0 hs11 hh11 hh12 ⊢
    generalize w.heap.size+1+1=tB at BT n2 n11 hq2 hq4 nb2 ⊢
    generalize w.heap.size+1=rB at BR n1 n11 hq1 hq3 nb1 ⊢
    have n7:=Ne.symm n1;have n8:=Ne.symm n2;have n12:=Ne.symm n11
    have nb3:=Ne.symm nb1;have nb4:=Ne.symm nb2
    go_region_held3 (fun w'=>w'.cell? ⟨bB,0,none⟩=some (.slice ad m cap)∧w'.cell? ⟨w.heap.size,0,none⟩=some (.float .f32 s)∧w'.cell? ⟨w.heap.size,1,none⟩=some (.int .i64 gg)∧w'.cell? ⟨w.heap.size,2,none⟩=some (.int .i64 qq)) (go_keep)
     (first
       | (go_at_call 75;refine (K3.out _ false).mono ?_;rintro e w13 ⟨rfl,hb13⟩;have HB13:=I (bthen HB12.out (below_dr1 hb13));have hs13:=(below_dr1 hb13).size;have HU13:=I (HU11.out.below (below_dr1 hb13));have m9:=(B21.out.below (below_dr1 hb13)).one1.2.1;clear hb13 s0 s1 s2 m0;have m0:=m9;clear m9;obtain ⟨-,s0,s1,s2,-⟩:=(BS.out.below HB13.out).three;obtain ⟨hlr,r0,rf⟩:=(BR.out.below HB13.out).one1;obtain ⟨hlt,t0,t1,t2,tf⟩:=(BT.out.below HB13.out).three;have f0:=rf 0;have g0:=tf 0;have g1:=tf 1;have g2:=tf 2;clear rf tf))
    go_wp2
    try simp only [Exit.inBlock,Exit.then]
    refine bodyPost_ret (v:=.tuple #[.agg #[.slice ad m cap],.agg #[.float .f32 (nS s gg qq false),.int .i64 (nG s gg qq false),.int .i64 (nQ s gg qq)],.bool false,.bool true]) (by simp [results,Tryz.results42,go_sem,r0,t0,t1,t2,hlr,hlt,n11,n12]) rfl ?_
    have hk12:=HK12.out;have hk11:=HK11.out
    have u1:Touch rB (rB+1) w13 (w13.setCell ⟨rB,0,none⟩ (.slice ad m cap)):=Touch.setCell (Nat.le_refl _) (Nat.lt_succ_self _)
    have u2:∀(V:World) k v,Touch tB (tB+1) V (V.setCell ⟨tB,k,none⟩ v):=fun V k v=>Touch.setCell (Nat.le_refl _) (Nat.lt_succ_self _)
    refine ⟨ad,m,cap,_,_,_,_,_,us,rfl,I ⟨HRS.out.symm,?_,fun _=>⟨⟨HF.out,?_⟩,HUC.out.trans HML.out⟩⟩,?_⟩
    ·exact (((((HU13.out.touch u1 (.inr (by omega))).touch (u2 _ _ _) (.inr (by omega))).touch (u2 _ _ _) (.inr (by omega))).touch (u2 _ _ _) (.inr (by omega))).bounds (by omega) (by simp [World.setCell];omega))
    ·unfold mixS;rw [if_pos HRS.out,←HF.out]
    ·exact Below.setCell (p:=⟨tB,2,none⟩) (Below.setCell (p:=⟨tB,1,none⟩) (Below.setCell (p:=⟨tB,0,none⟩) (Below.setCell (p:=⟨rB,0,none⟩) (bthen HB3.out HB13.out) hq1 _) hq2 _) hq2 _) hq2 _
   ·have HYY:Hid (RepF wr w8.heap.size wr.heap.size (some ⟨g3,0,none⟩) n3 c3 (paramsP L)∧(paramsP L).map (cn .f32)=newP false (paramsP Lc) (scalM R (cn .f32 s)).1.1 (cn .f32 r)):=I ⟨HP.out,by rw [paramsP_can,←HLC.out];rfl⟩
    have hgl:g3 < wr.heap.size:=(HYY.out.1.row.own.lt g3 rfl).2
    have hyl:(paramsP L).length=n3:=HYY.out.1.len
    have KW:=I (K2.out wr HB9.out g3 0 c3 (paramsP L) HYY.out.1.arg hgl (by rw [hyl,HNL.out]))
    rw [hyl] at KW
    have HML:=I (show (withP L (paramsP L)).map LayP.can=mixL Lc R (cn .f32 s) (cn .f32 r) by
     rw [withP_can,HYY.out.2,←HLC.out]
     unfold mixL
     rw [if_pos HRS.out,←HF.out])
    have hmm:=HM.out wr (bthen HB3.out HB9.out)
    have hsW:=HB9.out.size
    clear K2 hyl hgl
    go_wp2_with fail
    refine KW.out.mono ?_
    rintro e w11 ⟨ad,m,cap,us,rfl,HU,hb11⟩
    have HB11:=I (bthen HB9.out hb11)
    have HU11:=I (HU.out.2.below (below1 w11 (.cells #[.slice ad m cap] 35)))
    have HUC:=I HU.out.1
    have B21:=I (BoxN.alloc w11 #[.slice ad m cap] 35)
    have HB12:=I (bthen HB11.out (below1 w11 (.cells #[.slice ad m cap] 35)))
    have hs11:=HB11.out.size
    have hh11:=hb11.size
    have hh12:w11.heap.size≤(w11.alloc (.cells #[.slice ad m cap] 35)).heap.size:=by simp
    clear hb11 HU KW hmm
    have hq1:w.heap.size≤w.heap.size+1:=by omega
    have hq2:w.heap.size≤w.heap.size+1+1:=by omega
    have hq3:w.heap.size+1 < W3.heap.size:=by omega
    have hq4:w.heap.size+1+1 < W3.heap.size:=by omega
    have hq6:w.heap.size≤W3.heap.size:=HB3.out.size
    clear hsz
    have n1:¬ w.heap.size=w.heap.size+1:=by omega
    have n2:¬ w.heap.size=w.heap.size+1+1:=by omega
    have n11:¬ w.heap.size+1=w.heap.size+1+1:=by omega
    have nb1:¬ w11.heap.size=w.heap.size+1:=by omega
    have nb2:¬ w11.heap.size=w.heap.size+1+1:=by omega
    go_upto_region 10 with fail
    generalize w11.alloc (.cells #[.slice ad m cap] 35)=w12 at HU11 B21 HB12 hh12 ⊢
    have HK12:=I hh12;have HK11:=I hh11
    obtain ⟨-,m0,-⟩:=B21.out.one1
    obtain ⟨-,s0,s1,s2,-⟩:=(BS.out.below HB12.out).three
    generalize w11.heap.size=bB at B21 nb1 nb2 m0 hs11 hh11 hh12 ⊢
    generalize w.heap.size+1+1=tB at BT n2 n11 hq2 hq4 nb2 ⊢
    generalize w.heap.size+1=rB at BR n1 n11 hq1 hq3 nb1 ⊢
    have n7:=Ne.symm n1;have n8:=Ne.symm n2;have n12:=Ne.symm n11
    have nb3:=Ne.symm nb1;have nb4:=Ne.symm nb2
    go_region_held3 (fun w'=>w'.cell? ⟨bB,0,none⟩=some (.slice ad m cap)∧w'.cell? ⟨w.heap.size,0,none⟩=some (.float .f32 s)∧w'.cell? ⟨w.heap.size,1,none⟩=some (.int .i64 gg)∧w'.cell? ⟨w.heap.size,2,none⟩=some (.int .i64 qq)) (go_keep)
     (first
       | (go_at_call 75;refine (K3.out _ false).mono ?_;rintro e w13 ⟨rfl,hb13⟩;have HB13:=I (bthen HB12.out (below_dr1 hb13));have hs13:=(below_dr1 hb13).size;have HU13:=I (HU11.out.below (below_dr1 hb13));have m9:=(B21.out.below (below_dr1 hb13)).one1.2.1;clear hb13 s0 s1 s2 m0;have m0:=m9;clear m9;obtain ⟨-,s0,s1,s2,-⟩:=(BS.out.below HB13.out).three;obtain ⟨hlr,r0,rf⟩:=(BR.out.below HB13.out).one1;obtain ⟨hlt,t0,t1,t2,tf⟩:=(BT.out.below HB13.out).three;have f0:=rf 0;have g0:=tf 0;have g1:=tf 1;have g2:=tf 2;clear rf tf))
    go_wp2
    try simp only [Exit.inBlock,Exit.then]
    refine bodyPost_ret (v:=.tuple #[.agg #[.slice ad m cap],.agg #[.float .f32 (nS s gg qq false),.int .i64 (nG s gg qq false),.int .i64 (nQ s gg qq)],.bool false,.bool true]) (by simp [results,Tryz.results42,go_sem,r0,t0,t1,t2,hlr,hlt,n11,n12]) rfl ?_
    have hk12:=HK12.out;have hk11:=HK11.out
    have u1:Touch rB (rB+1) w13 (w13.setCell ⟨rB,0,none⟩ (.slice ad m cap)):=Touch.setCell (Nat.le_refl _) (Nat.lt_succ_self _)
    have u2:∀(V:World) k v,Touch tB (tB+1) V (V.setCell ⟨tB,k,none⟩ v):=fun V k v=>Touch.setCell (Nat.le_refl _) (Nat.lt_succ_self _)
    refine ⟨ad,m,cap,_,_,_,_,_,us,rfl,I ⟨HRS.out.symm,?_,fun _=>⟨⟨HF.out,?_⟩,HUC.out.trans HML.out⟩⟩,?_⟩
    ·exact (((((HU13.out.touch u1 (.inr (by omega))).touch (u2 _ _ _) (.inr (by omega))).touch (u2 _ _ _) (.inr (by omega))).touch (u2 _ _ _) (.inr (by omega))).bounds (by omega) (by simp [World.setCell];omega))
    ·unfold mixS;rw [if_pos HRS.out,←HF.out]
    ·exact Below.setCell (p:=⟨tB,2,none⟩) (Below.setCell (p:=⟨tB,1,none⟩) (Below.setCell (p:=⟨tB,0,none⟩) (Below.setCell (p:=⟨rB,0,none⟩) (bthen HB3.out HB13.out) hq1 _) hq2 _) hq2 _) hq2 _
 ·-- the parameters are changed in place
  have HDC:=I (show (scalM R (cn .f32 s)).1.1=ds.map (cn .f32) from HD.out.symm)
  have HPC:=I (show (paramsP L).map (cn .f32)=paramsP Lc by rw [paramsP_can,←HLC.out])
  have hdl:ds.length=n3:=by rw [HDL.out,HNL.out]
  have hpl:(paramsP L).length=n3:=by rw [HNL.out];rfl
  have HDLN:=I hdl;have HPLN:=I hpl
  have HTL:=I (show (newP true (paramsP Lc) (scalM R (cn .f32 s)).1.1 (cn .f32 r)).length≤n3 by
   rw [newP_len (by rw [HDC.out,List.length_map,←HPC.out,List.length_map,hdl,hpl]),←HPC.out,List.length_map,hpl];exact Nat.le_refl _)
  clear hdl hpl
  go_wp2
  go_loopw [20] (fun q wt => ∃k:Nat,q=.int .i64 k∧k≤n3∧Hid (∃us,RepF wt w8.heap.size w9.heap.size (some ⟨g3,0,none⟩) n3 c3 us∧InPlT (newP true (paramsP Lc) (scalM R (cn .f32 s)).1.1 (cn .f32 r)) (paramsP L) k us)∧Hid (Below w8.heap.size w8 wt∧w9.heap.size≤wt.heap.size)) (fun q wt=>n3 - (intOf q).toNat)
  case atStart=>exact ⟨0,rfl,Nat.zero_le _,I ⟨_,HP.out,InPlT.zero _ _⟩,I ⟨HBB.out,Nat.le_refl _⟩⟩
  case round =>
   obtain ⟨k,rfl,hk,HYS,HBW⟩:=hrel
   by_cases hlt:k < n3
   ·obtain ⟨us,hr,hip⟩:=HYS.out
    obtain ⟨x,hx⟩:=getElem?_lt (show k < (paramsP L).length by rw [HPLN.out];exact hlt)
    obtain ⟨d,hd⟩:=getElem?_lt (show k < ds.length by rw [HDLN.out];exact hlt)
    have HTK:=I (show (newP true (paramsP Lc) (scalM R (cn .f32 s)).1.1 (cn .f32 r))[k]? = some (fop .sub .f32 (cn .f32 x) (fop .mul .f32 (cn .f32 r) (cn .f32 d))) from
     newP_at (by rw [←HPC.out,List.getElem?_map,hx];rfl) (by rw [HDC.out,List.getElem?_map,hd];rfl))
    have HXX:=I hx
    obtain ⟨g',e1,-,hcc,hf,-⟩:=hr.open (by omega)
    cases e1
    have hck:=hcc k hlt
    rw [hip.at' hx] at hck
    have hdr:=HDR.out.below HBW.out.1
    obtain ⟨g4,e4,-,hcd,-,-⟩:=hdr.open (by omega)
    have hdk:=hcd k hlt
    rw [List.getD_eq_getElem?_getD,hd] at hdk
    simp only [Option.getD_some] at hdk
    subst e4
    have hfk:=hf k
    have hgl:g3 < wr.heap.size:=(hr.row.own.lt g3 rfl).2
    have HRR:=I hr;have HIP:=I hip
    clear hx hd hcc hr hip hf HYS hdr hcd
    go_wp2
    refine wp_region_tail1 14 _ (fun _ _ _=>False) (by kernel_rfl) (by kernel_rfl) rfl rfl (fun _ _ _ h=>h) ?_
    go_simp
    repeat (refine wset_step (fun K hK nq=>?_);go_simp;refine hK _ ?_;clear hK K)
    generalize hy:fbits BinOp.sub FloatKind.f32 x _ _ = y
    have hyc:cn .f32 y=fop .sub .f32 (cn .f32 x) (fop .mul .f32 (cn .f32 r) (cn .f32 d)):=by rw [←hy,cn_fbits,cn_fbits]
    have hyl:y < 4294967296:=by rw [←hy];exact fbits_lt _ .f32 _ _ _
    have HYC:=I hyc;clear hyc hy
    refine wset_nil ?_
    rintro w' hw'
    obtain ⟨q9,rfl⟩:=hw'
    go_wp2
    refine ⟨?rel,?measure⟩
    case rel =>
     have hb1:=below_drewN (Below.refl wr.heap.size wr) q9
     exact ⟨k+1,by go_num,hlt,I ⟨_,(HRR.out.below hb1).setAt k y hyl (by omega),HIP.out.set HXX.out (by rw [HTK.out,HYC.out])⟩,I ⟨(bthen HBW.out.1 hb1).setCell (p:=⟨g3,k,none⟩) hge3 _,by simpa [World.setCell] using HBW.out.2⟩⟩
    case measure=>simp [intOf];omega
   ·have e:k=n3:=by omega
    subst e
    obtain ⟨us0,hr,hip⟩:=HYS.out
    have hE:=hip.all HPLN.out.symm HTL.out
    have HBWW:=I (bthen HB8.out HBW.out.1)
    have HYY:Hid (RepF wr w8.heap.size w9.heap.size (some ⟨g3,0,none⟩) k c3 us0∧us0.map (cn .f32)=newP true (paramsP Lc) (scalM R (cn .f32 s)).1.1 (cn .f32 r)):=I ⟨hr,hE⟩
    have hgl:g3 < wr.heap.size:=(HYY.out.1.row.own.lt g3 rfl).2
    have hyl:us0.length=k:=HYY.out.1.len
    have KW:=I (K2.out wr HBWW.out g3 0 c3 us0 HYY.out.1.arg hgl (by rw [hyl,HNL.out]))
    rw [hyl] at KW
    have HML:=I (show (withP L us0).map LayP.can=mixL Lc R (cn .f32 s) (cn .f32 r) by
     rw [withP_can,HYY.out.2,←HLC.out]
     unfold mixL
     rw [if_pos HRS.out,←HF.out])
    have hmm:=HM.out wr (bthen HB3.out HBWW.out)
    have hsW:=HBWW.out.size
    clear K2 hyl hgl
    go_wp2_with fail
    refine KW.out.mono ?_
    rintro e w11 ⟨ad,m,cap,us,rfl,HU,hb11⟩
    have HB11:=I (bthen HBWW.out hb11)
    have HU11:=I (HU.out.2.below (below1 w11 (.cells #[.slice ad m cap] 35)))
    have HUC:=I HU.out.1
    have B21:=I (BoxN.alloc w11 #[.slice ad m cap] 35)
    have HB12:=I (bthen HB11.out (below1 w11 (.cells #[.slice ad m cap] 35)))
    have hs11:=HB11.out.size
    have hh11:=hb11.size
    have hh12:w11.heap.size≤(w11.alloc (.cells #[.slice ad m cap] 35)).heap.size:=by simp
    clear hb11 HU KW hmm
    have hq1:w.heap.size≤w.heap.size+1:=by omega
    have hq2:w.heap.size≤w.heap.size+1+1:=by omega
    have hq3:w.heap.size+1 < W3.heap.size:=by omega
    have hq4:w.heap.size+1+1 < W3.heap.size:=by omega
    have hq6:w.heap.size≤W3.heap.size:=HB3.out.size
    clear hsz
    have n1:¬ w.heap.size=w.heap.size+1:=by omega
    have n2:¬ w.heap.size=w.heap.size+1+1:=by omega
    have n11:¬ w.heap.size+1=w.heap.size+1+1:=by omega
    have nb1:¬ w11.heap.size=w.heap.size+1:=by omega
    have nb2:¬ w11.heap.size=w.heap.size+1+1:=by omega
    go_upto_region 10 with fail
    generalize w11.alloc (.cells #[.slice ad m cap] 35)=w12 at HU11 B21 HB12 hh12 ⊢
    have HK12:=I hh12;have HK11:=I hh11
    obtain ⟨-,m0,-⟩:=B21.out.one1
    obtain ⟨-,s0,s1,s2,-⟩:=(BS.out.below HB12.out).three
    generalize w11.heap.size=bB at B21 nb1 nb2 m0 hs11 hh11 hh12 ⊢
    generalize w.heap.size+1+1=tB at BT n2 n11 hq2 hq4 nb2 ⊢
    generalize w.heap.size+1=rB at BR n1 n11 hq1 hq3 nb1 ⊢
    have n7:=Ne.symm n1;have n8:=Ne.symm n2;have n12:=Ne.symm n11
    have nb3:=Ne.symm nb1;have nb4:=Ne.symm nb2
    go_region_held3 (fun w'=>w'.cell? ⟨bB,0,none⟩=some (.slice ad m cap)∧w'.cell? ⟨w.heap.size,0,none⟩=some (.float .f32 s)∧w'.cell? ⟨w.heap.size,1,none⟩=some (.int .i64 gg)∧w'.cell? ⟨w.heap.size,2,none⟩=some (.int .i64 qq)) (go_keep)
     (first
       | (go_at_call 75;refine (K3.out _ true).mono ?_;rintro e w13 ⟨rfl,hb13⟩;have HB13:=I (bthen HB12.out (below_dr1 hb13));have hs13:=(below_dr1 hb13).size;have HU13:=I (HU11.out.below (below_dr1 hb13));have m9:=(B21.out.below (below_dr1 hb13)).one1.2.1;clear hb13 s0 s1 s2 m0;have m0:=m9;clear m9;obtain ⟨-,s0,s1,s2,-⟩:=(BS.out.below HB13.out).three;obtain ⟨hlr,r0,rf⟩:=(BR.out.below HB13.out).one1;obtain ⟨hlt,t0,t1,t2,tf⟩:=(BT.out.below HB13.out).three;have f0:=rf 0;have g0:=tf 0;have g1:=tf 1;have g2:=tf 2;clear rf tf))
    go_wp2
    try simp only [Exit.inBlock,Exit.then]
    refine bodyPost_ret (v:=.tuple #[.agg #[.slice ad m cap],.agg #[.float .f32 (nS s gg qq true),.int .i64 (nG s gg qq true),.int .i64 (nQ s gg qq)],.bool true,.bool true]) (by simp [results,Tryz.results42,go_sem,r0,t0,t1,t2,hlr,hlt,n11,n12]) rfl ?_
    have hk12:=HK12.out;have hk11:=HK11.out
    have u1:Touch rB (rB+1) w13 (w13.setCell ⟨rB,0,none⟩ (.slice ad m cap)):=Touch.setCell (Nat.le_refl _) (Nat.lt_succ_self _)
    have u2:∀(V:World) k v,Touch tB (tB+1) V (V.setCell ⟨tB,k,none⟩ v):=fun V k v=>Touch.setCell (Nat.le_refl _) (Nat.lt_succ_self _)
    refine ⟨ad,m,cap,_,_,_,_,_,us,rfl,I ⟨HRS.out.symm,?_,fun _=>⟨⟨HF.out,?_⟩,HUC.out.trans HML.out⟩⟩,?_⟩
    ·exact (((((HU13.out.touch u1 (.inr (by omega))).touch (u2 _ _ _) (.inr (by omega))).touch (u2 _ _ _) (.inr (by omega))).touch (u2 _ _ _) (.inr (by omega))).bounds (by omega) (by simp [World.setCell];omega))
    ·unfold mixS;rw [if_pos HRS.out,←HF.out]
    ·exact Below.setCell (p:=⟨tB,2,none⟩) (Below.setCell (p:=⟨tB,1,none⟩) (Below.setCell (p:=⟨tB,0,none⟩) (Below.setCell (p:=⟨rB,0,none⟩) (bthen HB3.out HB13.out) hq1 _) hq2 _) hq2 _) hq2 _
set_option maxRecDepth 100000 in
set_option maxHeartbeats 16000000 in
theorem spec_MixedStep (w:World) (ma:Option Addr) (mk:Nat) (ls:List LayD) (s:Nat) (gg qq:Int) (xr xc yr yc:Int) (xa ya:Option Addr) (xk yk:Nat) (xs ys:List Nat) (r:Nat) (hls:SeeR layR w ma mk ls) (hnil:nilL ls) (hs:s < 4294967296) (hx:F32s w xa xk xs) (hy:F32s w ya yk ys) :
  Calls Tryz.prog 20 #[.agg #[.slice ma ls.length mk],.agg #[.float .f32 s,.int .i64 gg,.int .i64 qq],.agg #[.int .i64 xr,.int .i64 xc,.slice xa xs.length xk],.agg #[.int .i64 yr,.int .i64 yc,.slice ya ys.length yk],.float .f32 r] w (MPost (ls.map fun l=>l.toLayP.can) (mixR (ls.map fun l=>l.toLayP.can) ⟨xr,xc,xs.map (cn .f32)⟩ ⟨yr,yc,ys.map (cn .f32)⟩ ys.length s gg qq) (cn .f32 s) s gg qq (cn .f32 r) w):=by
 obtain ⟨W6,hW6,hsz,hb6,⟨bm,bs,bx⟩,by6,br,bt⟩:=six_boxes w #[.slice ma ls.length mk] #[.float .f32 s,.int .i64 gg,.int .i64 qq] #[.int .i64 xr,.int .i64 xc,.slice xa xs.length xk] #[.int .i64 yr,.int .i64 yc,.slice ya ys.length yk] #[.slice none 0 0] #[.float .f32 0,.int .i64 0,.int .i64 0] 35 50 37 37 35 50
 have BM:=I bm;have BS:=I bs;have BR:=I br;have BT:=I bt
 have HW6:=I hW6;have HB6:=I hb6
 have KV:=I (fun W=>spec_l06Is s gg qq W)
 have KG0:=fun W (hb:Below W6.heap.size W6 W) hv=>spec_l06Step W w.heap.size 0 (w.heap.size+1+1) 0 (w.heap.size+1+1+1) 0 ma mk ls s gg qq xr xc yr yc xa ya xk yk xs ys r hs hv (bm.below hb).one1.1 (bx.below hb).three.1 (by6.below hb).three.1 (bm.below hb).one1.2.1 ((hls.below hb6).below hb) hnil (bx.below hb).three.2.1 (bx.below hb).three.2.2.1 (bx.below hb).three.2.2.2.1 ((hx.below hb6).below hb) (by6.below hb).three.2.1 (by6.below hb).three.2.2.1 (by6.below hb).three.2.2.2.1 ((hy.below hb6).below hb) (by omega)
 obtain ⟨Lc,hLc⟩:∃Lc,Lc=ls.map fun l=>l.toLayP.can:=⟨_,rfl⟩
 rw [←hLc] at KG0 ⊢
 obtain ⟨R,hR⟩:∃R,R=mixR Lc ⟨xr,xc,xs.map (cn .f32)⟩ ⟨yr,yc,ys.map (cn .f32)⟩ ys.length s gg qq:=⟨_,rfl⟩
 rw [←hR]
 have HR:=I hR
 clear hls hx hy hnil hb6 hW6 hR bm bs bx by6 br bt hLc
 have hq1:w.heap.size≤w.heap.size+1+1+1+1:=by omega
 have hq2:w.heap.size≤w.heap.size+1+1+1+1+1:=by omega
 have hq3:w.heap.size+1+1+1+1 < W6.heap.size:=by omega
 have hq4:w.heap.size+1+1+1+1+1 < W6.heap.size:=by omega
 have hq6:w.heap.size≤W6.heap.size:=HB6.out.size
 have n11:¬ w.heap.size+1+1+1+1=w.heap.size+1+1+1+1+1:=by omega
 clear hsz
 cases eV:validScaleB s gg qq
 ·rw [eV] at KV
  have HRN:Hid (R=none):=I (by rw [HR.out];unfold mixR;rw [eV];rfl)
  clear eV HR KG0
  go_enter Tryz.func20,Tryz.ntmps20
  go_upto_region 1 with fail
  rw [←HW6.out]
  obtain ⟨-,s0,s1,s2,-⟩:=BS.out.three
  go_wp2_with fail
  refine (KV.out _).mono ?_
  rintro e w7 ⟨rfl,hb⟩
  have HB7:=I hb
  clear s0 s1 s2 KV hb
  obtain ⟨hlr,r0,rf⟩:=(BR.out.below HB7.out).one1
  obtain ⟨hlt,t0,t1,t2,tf⟩:=(BT.out.below HB7.out).three
  have f0:=rf 0;have g0:=tf 0;have g1:=tf 1;have g2:=tf 2
  clear rf tf
  go_wp2
  try simp only [Exit.inBlock,Exit.then]
  refine bodyPost_ret (v:=.tuple #[.agg #[.slice none 0 0],.agg #[.float .f32 0,.int .i64 0,.int .i64 0],.bool false,.bool false]) (by simp [results,Tryz.results20,go_sem,r0,t0,t1,t2]) rfl ?_
  exact MPost.none HRN.out rfl (by repeat (first | exact bthen HB6.out HB7.out | refine Below.setCell ?_ (by dsimp only;omega) _))
 rw [eV] at KV
 have KG:=I (fun W hb=>KG0 W hb eV)
 rw [show mixR Lc ⟨xr,xc,xs.map (cn .f32)⟩ ⟨yr,yc,ys.map (cn .f32)⟩ ys.length s gg qq=scaleR Lc ⟨xr,xc,xs.map (cn .f32)⟩ ⟨yr,yc,ys.map (cn .f32)⟩ ys.length s by unfold mixR;rw [eV];rfl] at HR
 rw [←HR.out] at KG
 clear eV KG0 HR
 go_enter Tryz.func20,Tryz.ntmps20
 go_upto_region 1 with fail
 rw [←HW6.out]
 obtain ⟨-,s0,s1,s2,-⟩:=BS.out.three
 go_wp2_with fail
 refine (KV.out _).mono ?_
 rintro e w7 ⟨rfl,hb⟩
 have HB7:=I hb
 clear KV s0 s1 s2 hb
 obtain ⟨-,s0,s1,s2,-⟩:=(BS.out.below HB7.out).three
 go_wp2_with fail
 refine (KG.out _ HB7.out).mono ?_
 rintro e w8 ⟨ad,m,cap,s',g',q',f,b,us,rfl,HO,hb⟩
 have hb2:=below2 w8 (.cells #[.slice ad m cap] 35) (.cells #[.float .f32 s',.int .i64 g',.int .i64 q'] 50)
 have HB9:=I (bthen (bthen HB7.out hb) hb2)
 have hs8:=(bthen HB7.out hb).size;have hs9:=hb2.size
 have hs7:=HB7.out.size
 have B1:=I ((BoxN.alloc w8 #[.slice ad m cap] 35).below (below1 _ (.cells #[.float .f32 s',.int .i64 g',.int .i64 q'] 50)))
 have B2:=I (BoxN.alloc2 w8 (.cells #[.slice ad m cap] 35) #[.float .f32 s',.int .i64 g',.int .i64 q'] 50)
 have HU:=I (HO.out.2.1.below hb2)
 have HO1:=I HO.out.1;have HO3:=I HO.out.2.2
 clear hb hb2 KG s0 s1 s2 HO
 go_upto_region 4 with fail
 generalize (w8.alloc (.cells #[.slice ad m cap] 35)).alloc (.cells #[.float .f32 s',.int .i64 g',.int .i64 q'] 50)=w9 at HB9 B1 B2 HU hs9 ⊢
 obtain ⟨hlr,r0,rf⟩:=(BR.out.below HB9.out).one1
 obtain ⟨hlt,t0,t1,t2,tf⟩:=(BT.out.below HB9.out).three
 have f0:=rf 0;have g0:=tf 0;have g1:=tf 1;have g2:=tf 2
 clear rf tf
 cases b
 ·have HRN:Hid (R=none):=I (by have:=HO1.out;cases R <;> first | rfl | cases this)
  clear HO1 HO3 HU B1 B2
  go_wp2
  try simp only [Exit.inBlock,Exit.then]
  refine bodyPost_ret (v:=.tuple #[.agg #[.slice none 0 0],.agg #[.float .f32 0,.int .i64 0,.int .i64 0],.bool false,.bool false]) (by simp [results,Tryz.results20,go_sem,r0,t0,t1,t2]) rfl ?_
  exact MPost.none HRN.out rfl (by repeat (first | exact bthen HB6.out HB9.out | refine Below.setCell ?_ (by dsimp only;omega) _))
 obtain ⟨-,m0,-⟩:=B1.out.one1
 obtain ⟨-,k0,k1,k2,-⟩:=B2.out.three
 have nb1:¬ w8.heap.size=w.heap.size+1+1+1+1:=by omega
 have nb2:¬ w8.heap.size=w.heap.size+1+1+1+1+1:=by omega
 have nb3:¬ w8.heap.size+1=w.heap.size+1+1+1+1:=by omega
 have nb4:¬ w8.heap.size+1=w.heap.size+1+1+1+1+1:=by omega
 have hk8:w8.heap.size≤w9.heap.size:=by omega
 have HK:=I (And.intro hs8 hk8)
 go_wp2
 generalize w8.heap.size+1=eB at k0 k1 k2 nb3 nb4 ⊢
 generalize w8.heap.size=dB at m0 nb1 nb2 ⊢
 generalize w.heap.size+1+1+1+1+1=tB at BT n11 nb2 nb4 hq2 hq4 t0 t1 t2 g0 g1 g2 hlt ⊢
 generalize w.heap.size+1+1+1+1=rB at BR n11 nb1 nb3 hq1 hq3 r0 f0 hlr ⊢
 have n12:=Ne.symm n11;have n13:=Ne.symm nb1;have n14:=Ne.symm nb2;have n15:=Ne.symm nb3;have n16:=Ne.symm nb4
 go_region_held3 (fun w'=>w'.cell? ⟨dB,0,none⟩=some (.slice ad m cap)∧w'.cell? ⟨eB,0,none⟩=some (.float .f32 s')∧w'.cell? ⟨eB,1,none⟩=some (.int .i64 g')∧w'.cell? ⟨eB,2,none⟩=some (.int .i64 q')) (go_keep) (first | fail)
 go_wp2
 try simp only [Exit.inBlock,Exit.then]
 refine bodyPost_ret (v:=.tuple #[.agg #[.slice ad m cap],.agg #[.float .f32 s',.int .i64 g',.int .i64 q'],.bool f,.bool true]) (by simp [results,Tryz.results20,go_sem,r0,t0,t1,t2,hlr,hlt,n11,n12]) rfl ?_
 obtain ⟨⟨h1,h2⟩,h3⟩:=HO3.out (by first | rfl | trivial)
 have u1:∀V:World,Touch rB (rB+1) V (V.setCell ⟨rB,0,none⟩ (.slice ad m cap)):=fun V=>Touch.setCell (Nat.le_refl _) (Nat.lt_succ_self _)
 have u2:∀(V:World) k v,Touch tB (tB+1) V (V.setCell ⟨tB,k,none⟩ v):=fun V k v=>Touch.setCell (Nat.le_refl _) (Nat.lt_succ_self _)
 have hk:=HK.out
 have hU:=((((HU.out.touch (u1 _) (.inr (by omega))).touch (u2 _ 0 (.float .f32 s')) (.inr (by omega))).touch (u2 _ 1 (.int .i64 g')) (.inr (by omega))).touch (u2 _ 2 (.int .i64 q')) (.inr (by omega)))
 refine ⟨ad,m,cap,_,_,_,_,_,us,rfl,I ⟨⟨⟨⟨HO1.out,h1⟩,h2⟩,h3⟩,?_⟩,?_⟩
 ·exact (hU.below (Below.drew (Below.refl _ _))).bounds (by omega) (by simp [World.setCell];omega)
 ·exact below_dr2 (Below.setCell (p:=⟨tB,2,none⟩) (Below.setCell (p:=⟨tB,1,none⟩) (Below.setCell (p:=⟨tB,0,none⟩) (Below.setCell (p:=⟨rB,0,none⟩) (bthen HB6.out HB9.out) hq1 _) hq2 _) hq2 _) hq2 _)
set_option maxHeartbeats 8000000 in
set_option maxRecDepth 100000 in
theorem LS_held (w:World) {ad:Option Addr} {n cap:Nat} {os:List LayD} (k0:Nat) (h:SeeR layR w ad cap (markLs k0 os)) (hl:os.length=n) (hn:n≤1048576) (hk:k0+totM os≤10000000) (hi2:∀o∈os,o.ws.length≤1048576∧o.bs.length≤1048576) :
  Calls Tryz.prog 47 #[.slice ad n cap,.int .i64 k0] w fun e w'=>e=.returned (.int .i64 (k0+totM os:Nat))∧w=w':=by
 have HN:=I hl;have HI2:=I hi2;have HH:=I h;clear hi2 h hl
 go_enter Tryz.func47,Tryz.ntmps47
 go_wp2
 go_loop [1,5] (fun q i => ∃k k1:Nat,i=.int .i64 k∧q=.int .i64 k1∧k≤n∧k1≤10000000∧Hid (∃A B,os=A ++ B∧A.length=k∧k1=k0+totM A)) (fun _ i=>n - (intOf i).toNat)
 case atStart=>exact ⟨0,k0,rfl,rfl,Nat.zero_le _,by omega,I ⟨[],os,rfl,rfl,rfl⟩⟩
 case round =>
  obtain ⟨k,k1,rfl,rfl,hkn,hk1,HX⟩:=hrel
  by_cases hlt:k < n
  ·obtain ⟨A,B0,e1,e2,e3⟩:=HX.out
   cases B0 with
   | nil=>exfalso;have:=HN.out;rw [e1,List.append_nil] at this;omega
   | cons o B =>
    have HE1:=I e1;have HE3:=I e3;have HE2:=I e2
    have hget:=markLs_at k0 A B o
    rw [←e1,e2,←e3] at hget
    obtain ⟨b,off,rfl,hb,⟨p0,p1,p2,p3,p4⟩,⟨hf1,hf2⟩,-⟩:=lay_spot HH.out hget
    have hmb:=HI2.out o (by rw [e1];simp)
    have htot:k1+o.w≤10000000:=by
     have:=hk
     rw [e1,totM_append,totM_cons] at this
     omega
    unfold LayD.w at htot
    simp only [markL,markF_length] at p0 p1 p2 p3 p4 hf1 hf2
    obtain ⟨m1,hm1⟩:∃m,m=o.ws.length:=⟨_,rfl⟩
    obtain ⟨m2,hm2⟩:∃m,m=o.bs.length:=⟨_,rfl⟩
    rw [←hm1] at p3 hmb htot hf1 hf2
    rw [←hm2] at p4 hmb htot hf2
    have HM1:=I (fun W hW=>laws_heldFloat32S o.wa o.wk m1 (markF (k1+3) m1) (k1+3) W (by omega) (by omega) hW rfl)
    have HM2:=I (fun W hW=>laws_heldFloat32S o.ba o.bk m2 (markF (k1+3+m1) m2) (k1+3+m1) W (by omega) (by omega) hW rfl)
    have HF1:=I hf1;have HF2:=I hf2
    have HL1:=I hm1;have HL2:=I hm2
    clear e1 e2 e3 hget hf1 hf2 hm1 hm2
    go_wp2_with fail
    refine (HM1.out _ HF1.out).mono ?_
    rintro e w2 ⟨rfl,rfl⟩
    have hnn:0≤((k1+3+m1:Nat):Int):=by omega
    go_wp2_with fail
    refine (HM2.out _ HF2.out).mono ?_
    rintro e w2 ⟨rfl,rfl⟩
    have hnn2:0≤((k1+3+m1+m2:Nat):Int):=by omega
    clear p0 p1 p2 p3 p4
    go_wp2
    go_round
    case rel=>exact ⟨k+1,k1+3+m1+m2,by go_num,rfl,hlt,by omega,I ⟨A ++ [o],B,by rw [HE1.out];simp,by simp [HE2.out],by rw [totM_snoc,HE3.out,LayD.w,HL1.out,HL2.out];omega⟩⟩
    case measure=>simp [intOf];omega
  ·have hkn2:k=n:=by omega
   obtain ⟨A,B,e1,e2,e3⟩:=HX.out
   have hB:B=[]:=by
    have:=HN.out;rw [e1,List.length_append,e2] at this
    exact List.eq_nil_of_length_eq_zero (by omega)
   subst hB
   rw [List.append_nil] at e1
   subst e1
   subst e3
   clear HX e2
   go_wp2
   go_ret
   exact ⟨rfl,rfl⟩
theorem M_held (w:World) {ad:Option Addr} {n cap:Nat} {os:List LayD} (k0:Nat) (h:SeeR layR w ad cap (markLs k0 os)) (hl:os.length=n) (hn:n≤1048576) (hk:k0+totM os≤10000000) (hi2:∀o∈os,o.ws.length≤1048576∧o.bs.length≤1048576) :
  Calls Tryz.prog 24 #[.agg #[.slice ad n cap],.int .i64 k0] w fun e w'=>e=.returned (.int .i64 (k0+totM os:Nat))∧Below w.heap.size w w':=by
 have b1:=below1 w (.cells #[.slice ad n cap] 35)
 have K:=I (LS_held _ k0 (h.below b1) hl hn hk hi2)
 have B:=I b1
 have hnn:0≤((k0+totM os:Nat):Int):=by omega
 clear h b1 hl hi2
 go_enter Tryz.func24,Tryz.ntmps24
 go_wp2_with fail
 refine K.out.mono ?_
 rintro e w1 ⟨rfl,rfl⟩
 go_wp2
 go_ret
 exact ⟨rfl,B.out⟩
def bndM (n:Nat) (us:List LayD):Prop:=n≤1048576∧totM us≤4000000∧∀u∈us,u.ws.length≤1048576∧u.bs.length≤1048576
theorem withP_lens (L:List LayP) (xs:List Nat) {a b:Nat} (h:∀l∈L,l.ws.length≤a∧l.bs.length≤b):∀l∈withP L xs,l.ws.length≤a∧l.bs.length≤b:=by
 induction L generalizing xs with
 | nil=>intro l hl;exact (nomatch hl)
 | cons c L ih =>
  intro l hl
  rcases List.mem_cons.1 hl with rfl | hl
  ·have:=h c (List.mem_cons_self ..)
   unfold takeL
   simp only [List.length_take,List.length_drop]
   omega
  ·exact ih _ (fun l hl=>h l (List.mem_cons_of_mem _ hl)) l hl
theorem mix_bounds {us:List LayD} {L:List LayP} {X Y:TenP} {m s c r:Nat} {g q:Int} (h:us.map (fun l=>l.toLayP.can)=mixL (L.map LayP.can) (mixR (L.map LayP.can) X Y m s g q) c r):bndM us.length us:=by
 have hV:us.length≤6∧∀u∈us,u.ws.length≤64∧u.bs.length≤8:=by
  unfold mixL at h
  split at h
  ·rename_i hs
   have hM:modB L=true:=by
    cases e:modB L with
    | true=>rfl
    | false =>
     exfalso
     unfold mixR scaleR at hs
     split at hs
     ·split at hs
      ·rw [modelP_no (by unfold goodM;rw [modB_map,modB_can,e];rfl)] at hs;cases hs
      ·cases hs
     ·cases hs
   have hlen:=(modB_len hM).2
   have hb:∀l∈L.map LayP.can,l.ws.length≤64∧l.bs.length≤8:=by
    intro l hl
    obtain ⟨d,hd,rfl⟩:=List.mem_map.1 hl
    obtain ⟨k,hk,rfl⟩:=List.mem_iff_getElem.1 hd
    have:=cnt_le (modB_lay hM (List.getElem?_eq_getElem hk))
    unfold LayP.can;simpa using this
   refine ⟨?_,fun u hu=>?_⟩
   ·have:=congrArg List.length h
    rw [List.length_map,withP_length,List.length_map] at this
    omega
   ·have h1:u.toLayP.can∈us.map (fun l=>l.toLayP.can):=List.mem_map_of_mem hu
    rw [h] at h1
    have:=withP_lens _ _ hb _ h1
    unfold LayP.can at this;simpa using this
  ·have:us=[]:=by simpa using h
   subst this
   exact ⟨by simp,fun u hu=>(nomatch hu)⟩
 obtain ⟨h1,h2⟩:=hV
 have ht:totM us≤75 * us.length:=by
  clear h h1
  induction us with
  | nil=>simp [totM]
  | cons a us ih =>
   rw [totM_cons,List.length_cons]
   have h1:=h2 a (List.mem_cons_self ..)
   have h3:=ih (fun u hu=>h2 u (List.mem_cons_of_mem _ hu))
   unfold LayD.w;omega
 exact ⟨by omega,by omega,fun u hu=>by have:=h2 u hu;omega⟩
section
variable {lo1 hi1 lo2 hi2 n1 c1 n2 c2:Nat} {a1 a2:Option Addr} {us vs:List LayD}
theorem M_eq2 (w:World) (h1:OwnR layR w lo1 hi1 a1 n1 c1 us) (h2:OwnR layR w lo2 hi2 a2 n2 c2 vs) (he:us.map (fun l=>l.toLayP.can)=vs.map (fun l=>l.toLayP.can)) (hm:bndM n1 us) :
  Calls Tryz.prog 14 #[.agg #[.slice a1 n1 c1],.agg #[.slice a2 n2 c2]] w fun e w'=>e=.returned (.bool true)∧Below w.heap.size w w':=by
 have e1:=h1.len;have e2:=h2.len
 subst e1 e2
 exact M_eq w h1.see h2.see he hm.1 hm.2.2
theorem M_mark2 (w:World) (k0:Nat) (h:OwnR layR w lo1 hi1 a1 n1 c1 us) (hhi:hi1≤w.heap.size) (hm:bndM n1 us) (hk:k0+totM us≤10000000) :
  Calls Tryz.prog 16 #[.agg #[.slice a1 n1 c1],.int .i64 k0] w fun e w'=>e=.returned (.int .i64 (k0+totM us:Nat))∧Hid (OwnR layR w' lo1 hi1 a1 n1 c1 (markLs k0 us))∧Touch lo1 hi1 w w' :=
 M_mark w k0 h hhi hm.1 hk hm.2.2
theorem M_held2 (w:World) (k0:Nat) (h:OwnR layR w lo1 hi1 a1 n1 c1 (markLs k0 us)) (hm:bndM n1 us) (hk:k0+totM us≤10000000) :
  Calls Tryz.prog 24 #[.agg #[.slice a1 n1 c1],.int .i64 k0] w fun e w'=>e=.returned (.int .i64 (k0+totM us:Nat))∧Below w.heap.size w w' :=
 M_held w k0 h.see (by rw [←markLs_length k0 us];exact h.len) hm.1 hk hm.2.2
end
def mixT (L:List LayP) (xr xc:Int) (xs:List Nat) (yr yc:Int) (ys:List Nat) (s:Nat) (g q:Int):Option (List OpP × List Int):=mixR (L.map LayP.can) ⟨xr,xc,xs.map (cn .f32)⟩ ⟨yr,yc,ys.map (cn .f32)⟩ ys.length s g q
theorem spec_MixedStepW (w:World) (ma:Option Addr) (mk:Nat) (ls:List LayD) {lo hi n:Nat} (h:OwnR layR w lo hi ma n mk ls) (hi2:∀l∈ls,l.ws.length≤1048576∧l.bs.length≤1048576)
  (s:Nat) (g q:Int) (hs:s < 4294967296) (wg:(Lit.int .i64 g).wf=true) (wq:(Lit.int .i64 q).wf=true)
  (xr xc:Int) (xa:Option Addr) (xk:Nat) (xs:List Nat) {lo2 hi3 n2:Nat} (hx:RepF w lo2 hi3 xa n2 xk xs) (hn:xs.length≤1048576) (wr:(Lit.int .i64 xr).wf=true) (wc:(Lit.int .i64 xc).wf=true)
  (yr yc:Int) (ya:Option Addr) (yk:Nat) (ys:List Nat) {lo4 hi5 n4:Nat} (hy:RepF w lo4 hi5 ya n4 yk ys) (hn2:ys.length≤1048576) (wr2:(Lit.int .i64 yr).wf=true) (wc2:(Lit.int .i64 yc).wf=true) (r:Nat) (hr:r < 4294967296) :
  Calls Tryz.prog 20 #[.agg #[.slice ma ls.length mk],.agg #[.float .f32 s,.int .i64 g,.int .i64 q],.agg #[.int .i64 xr,.int .i64 xc,.slice xa xs.length xk],.agg #[.int .i64 yr,.int .i64 yc,.slice ya ys.length yk],.float .f32 r] w (MPost ((ls.map LayD.toLayP).map LayP.can) (mixT (ls.map LayD.toLayP) xr xc xs yr yc ys s g q) (cn .f32 s) s g q (cn .f32 r) w):=by
 unfold mixT
 rw [show (ls.map LayD.toLayP).map LayP.can=ls.map fun l=>l.toLayP.can by rw [List.map_map];rfl]
 exact spec_MixedStep w ma mk ls s g q xr xc yr yc xa ya xk yk xs ys r h.see h.nilL hs hx.arg hy.arg
theorem impl_MixedStepW (w:World) (ma:Option Addr) (mk:Nat) (ls:List LayD) {lo hi n:Nat} (h:OwnR layR w lo hi ma n mk ls) (hi2:∀l∈ls,l.ws.length≤1048576∧l.bs.length≤1048576)
  (s:Nat) (g q:Int) (hs:s < 4294967296) (wg:(Lit.int .i64 g).wf=true) (wq:(Lit.int .i64 q).wf=true)
  (xr xc:Int) (xa:Option Addr) (xk:Nat) (xs:List Nat) {lo2 hi3 n2:Nat} (hx:RepF w lo2 hi3 xa n2 xk xs) (hn:xs.length≤1048576) (wr:(Lit.int .i64 xr).wf=true) (wc:(Lit.int .i64 xc).wf=true)
  (yr yc:Int) (ya:Option Addr) (yk:Nat) (ys:List Nat) {lo4 hi5 n4:Nat} (hy:RepF w lo4 hi5 ya n4 yk ys) (hn2:ys.length≤1048576) (wr2:(Lit.int .i64 yr).wf=true) (wc2:(Lit.int .i64 yc).wf=true) (r:Nat) (hr:r < 4294967296) :
  Calls Tryz.prog 22 #[.agg #[.slice ma ls.length mk],.agg #[.float .f32 s,.int .i64 g,.int .i64 q],.agg #[.int .i64 xr,.int .i64 xc,.slice xa xs.length xk],.agg #[.int .i64 yr,.int .i64 yc,.slice ya ys.length yk],.float .f32 r] w (MPost ((ls.map LayD.toLayP).map LayP.can) (mixT (ls.map LayD.toLayP) xr xc xs yr yc ys s g q) (cn .f32 s) s g q (cn .f32 r) w):=by
 unfold mixT
 rw [show (ls.map LayD.toLayP).map LayP.can=ls.map fun l=>l.toLayP.can by rw [List.map_map];rfl]
 exact impl_MixedStep w ma mk ls s g q xr xc yr yc xa ya xk yk xs ys r h.see h.nilL hs hx.arg hy.arg
structure CutM (w0 wx:World) (Lc:List LayP) (R:Option (List OpP × List Int)) (c s:Nat) (g q:Int) (r:Nat) (ba bb lo hi:Nat) (ad:Option Addr) (n cap s':Nat) (g' q':Int) (f b:Bool) (us:List LayD):Prop where
 below:Below w0.heap.size w0 wx
 boxA:BoxN wx ba [.slice ad n cap]
 boxB:BoxN wx bb [.float .f32 s',.int .i64 g',.int .i64 q']
 loL:w0.heap.size≤lo
 hiL:hi≤wx.heap.size
 apA:ba < lo∨hi≤ba
 apB:bb < lo∨hi≤bb
 geA:w0.heap.size≤ba∧ba < wx.heap.size
 geB:w0.heap.size≤bb∧bb < wx.heap.size
 res:(((b=R.isSome∧f=(scalM R c).2)∧(s',g',q')=mixS R c s g q)∧us.map (fun l=>l.toLayP.can)=mixL Lc R c r)∧OwnR layR wx lo hi ad n cap us
theorem getS_ne {L:Array Bool} {i j:Nat} (h:i≠j) (b:Bool):(L.setIfInBounds i true).getD j b=L.getD j b:=by
 rw [Array.getD_eq_getD_getElem?,Array.getD_eq_getD_getElem?,Array.getElem?_setIfInBounds_ne h]
theorem getS_eq {L:Array Bool} {i:Nat} (h:i < L.size) (b:Bool):(L.setIfInBounds i true).getD i b=true:=by
 rw [Array.getD_eq_getD_getElem?];simp [h]
theorem getS_mono {L:Array Bool} {i j:Nat} (h:L.getD j false=true):(L.setIfInBounds i true).getD j false=true:=by
 by_cases e:i=j
 ·subst e
  rw [Array.getD_eq_getD_getElem?] at h ⊢
  by_cases h6:i < L.size
  ·simp [h6]
  ·rw [Array.getElem?_eq_none (by omega)] at h;cases h
 ·rw [getS_ne e];exact h
structure Agr (D:List Nat) (a0 a:Act):Prop where
 size:a.tmps.size=a0.tmps.size
 defs:a.defers=a0.defers
 at':∀t,t ∉ D→a.eval (.tmp t)=a0.eval (.tmp t)
theorem Agr.refl (D:List Nat) (a:Act):Agr D a a:=⟨rfl,rfl,fun _ _=>rfl⟩
theorem Agr.put {D:List Nat} {a0 a:Act} (h:Agr D a0 a) {d:Nat} (hd:d∈D) (v:Value):Agr D a0 (a.put (some d) v) :=
 ⟨(Act.size_put ..).trans h.size,(Act.defers_put' ..).trans h.defs,fun t ht=>(Act.eval_put_ne a d t v (fun e=>ht (e ▸ hd))).trans (h.at' t ht)⟩
theorem fold_put (f:Nat→Value) (D:List Nat) (b:Act):(D.foldl (fun b d=>b.put (some d) (f d)) b).tmps.size=b.tmps.size∧(D.foldl (fun b d=>b.put (some d) (f d)) b).defers=b.defers∧∀t,t < b.tmps.size→(D.foldl (fun b d=>b.put (some d) (f d)) b).eval (.tmp t)=if t∈D then f t else b.eval (.tmp t):=by
 induction D generalizing b with
 | nil=>exact ⟨rfl,rfl,fun t _=>by simp⟩
 | cons d D ih =>
  obtain ⟨h1,h2,h3⟩:=ih (b.put (some d) (f d))
  refine ⟨h1.trans (Act.size_put ..),h2.trans (Act.defers_put' ..),fun t ht=>?_⟩
  rw [List.foldl_cons,h3 t (by rw [Act.size_put];exact ht)]
  by_cases e:t∈D
  ·simp [e]
  ·by_cases e2:d=t
   ·subst e2
    rw [if_neg e,Act.eval_put_same _ _ _ ht];simp
   ·rw [if_neg e,Act.eval_put_ne _ _ _ _ e2,if_neg (by simp [e,Ne.symm e2])]
theorem Agr.fold {D:List Nat} {a0 a:Act} (h:Agr D a0 a):a=D.foldl (fun b d=>b.put (some d) (a.eval (.tmp d))) a0:=by
 obtain ⟨h1,h2,h3⟩:=fold_put (fun d=>a.eval (.tmp d)) D a0
 generalize D.foldl (fun b d=>b.put (some d) (a.eval (.tmp d))) a0=c at h1 h2 h3
 obtain ⟨ct,cd⟩:=c
 obtain ⟨xt,xd⟩:=a
 have e1:xd=cd:=h.defs.trans h2.symm
 have e2:xt=ct:=by
  refine Array.ext (h.size.trans h1.symm) fun t ht1 ht2=>?_
  have:=h3 t (h.size ▸ ht1)
  have h4:Act.eval ⟨xt,xd⟩ (.tmp t)=Act.eval ⟨ct,cd⟩ (.tmp t):=by
   rw [this]
   split
   ·rfl
   ·rename_i hn;exact h.at' t hn
  simp only [Act.eval,Array.getD_eq_getD_getElem?,Array.getElem?_eq_getElem ht1,Array.getElem?_eq_getElem ht2,Option.getD_some] at h4
  exact h4
 rw [e1,e2]
def prt (k:Nat):Value→Value
 | .tuple xs=>xs.getD k undef
 | _=>undef
def cellsV:Value→List Value
 | .agg xs=>xs.toList
 | _=>[]
def MSv (F:Nat→Int→Int→Value→Value→List LayD→Prop) (v:Value) (W:World) (lo hi:Nat):Prop :=
 ∃(ad:Option Addr) (n cap s':Nat) (g' q':Int) (v2 v3:Value) (us:List LayD),v=.tuple #[.agg #[.slice ad n cap],.agg #[.float .f32 s',.int .i64 g',.int .i64 q'],v2,v3]∧F s' g' q' v2 v3 us∧OwnR layR W lo hi ad n cap us
theorem MSv.below {F:Nat→Int→Int→Value→Value→List LayD→Prop} {v:Value} {W W':World} {lo hi:Nat} (h:MSv F v W lo hi) (hb:Below W.heap.size W W'):MSv F v W' lo hi:=by
 obtain ⟨ad,n,cap,s',g',q',v2,v3,us,e,hf,ho⟩:=h
 exact ⟨ad,n,cap,s',g',q',v2,v3,us,e,hf,ho.below hb⟩
theorem MSv.touch {F:Nat→Int→Int→Value→Value→List LayD→Prop} {v:Value} {W W':World} {lo hi g:Nat} (h:MSv F v W lo hi) (ht:Touch g (g+1) W W') (hd:g < lo∨hi≤g):MSv F v W' lo hi:=by
 obtain ⟨ad,n,cap,s',g',q',v2,v3,us,e,hf,ho⟩:=h
 exact ⟨ad,n,cap,s',g',q',v2,v3,us,e,hf,ho.touch ht (by omega)⟩
section
variable (l:List Oper) (N:Nat) (S:Nat→Nat) (D:List Nat) (a0:Act) (w0:World) (Φ:Nat→Value→World→Prop) (F:Nat→Int→Int→Value→Value→List LayD→Prop)
structure BX (L:Array Bool) (a:Act) (W:World) (ba bb lo hi:Nat):Prop where
 A:L.getD (N+6) false=true→a.eval (.tmp (S (N+6)))=.pointer (some ⟨ba,0,none⟩)∧w0.heap.size≤ba∧BoxN W ba (if L.getD (N+8) false=true then cellsV (prt 0 (a.eval (.tmp (S N)))) else [.slice none 0 0])
 B:L.getD (N+7) false=true→a.eval (.tmp (S (N+7)))=.pointer (some ⟨bb,0,none⟩)∧w0.heap.size≤bb∧BoxN W bb (if L.getD (N+9) false=true then cellsV (prt 1 (a.eval (.tmp (S N)))) else [.float .f32 0,.int .i64 0,.int .i64 0])
 AB:L.getD (N+6) false=true→L.getD (N+7) false=true→ba≠bb
 R:L.getD N false=true→MSv F (a.eval (.tmp (S N))) W lo hi∧w0.heap.size≤lo∧hi≤W.heap.size
 RA:L.getD N false=true→L.getD (N+6) false=true→ba < lo∨hi≤ba
 RB:L.getD N false=true→L.getD (N+7) false=true→bb < lo∨hi≤bb
structure BInv (L:Array Bool) (a:Act) (W:World):Prop where
 size:L.size=N+12
 closed:∀j,L.getD j false=true→∀k,waitsP .any l.toArray j k=true→L.getD k false=true
 agr:Agr D a0 a
 bel:Below w0.heap.size w0 W
 pre:L.getD N false=false→∀j,j < N→L.getD j false=true→Φ j (a.eval (.tmp (S j))) W
 mv:L.getD (N+1) false=true→a.eval (.tmp (S (N+1)))=a.eval (.tmp (S N))
 ex:∀k,k < 4→L.getD (N+2+k) false=true→a.eval (.tmp (S (N+2+k)))=prt k (a.eval (.tmp (S N)))
 asn:∀k,k < 2→L.getD (N+10+k) false=true→a.eval (.tmp (S (N+10+k)))=prt (2+k) (a.eval (.tmp (S N)))
 box:∃ba bb lo hi,BX N S w0 F L a W ba bb lo hi
structure BOk:Prop where
 inj:∀i j,i < N+12→j < N+12→S i=S j→i=j
 sz:∀i,i < N+12→i≠N+8→i≠N+9→S i < a0.tmps.size∧S i∈D
 w1:waitsP .any l.toArray (N+1) N=true
 w2:∀k,k < 4→waitsP .any l.toArray (N+2+k) (N+1)=true
 w8:waitsP .any l.toArray (N+8) (N+6)=true
 w8e:waitsP .any l.toArray (N+8) (N+2)=true
 w9:waitsP .any l.toArray (N+9) (N+7)=true
 w9e:waitsP .any l.toArray (N+9) (N+3)=true
 w10:∀k,k < 2→waitsP .any l.toArray (N+10+k) (N+4+k)=true
 wp:∀i,i < N→waitsP .any l.toArray N i=true∨∃j,waitsP .any l.toArray N j=true∧waitsP .any l.toArray j i=true
end
section
variable {l:List Oper} {N:Nat} {S:Nat→Nat} {D:List Nat} {a0:Act} {w0:World} {Φ:Nat→Value→World→Prop} {F:Nat→Int→Int→Value→Value→List LayD→Prop} {L:Array Bool} {a:Act} {W W':World}
theorem BInv.grow (ok:BOk l N S D a0) (hst:∀i v W W',Φ i v W→Below W.heap.size W W'→Φ i v W') (h:BInv l N S D a0 w0 Φ F L a W) {i:Nat} (hi:i < N+12) (n8:i≠N+8) (n9:i≠N+9) (hun:L.getD i false=false)
  (hd:∀k,waitsP .any l.toArray i k=true→L.getD k false=true) (v:Value) (hb:Below W.heap.size W W')
  (f0:i < N→Φ i v W') (f1:i=N+1→v=a.eval (.tmp (S N))) (f2:∀k,k < 4→i=N+2+k→v=prt k (a.eval (.tmp (S N)))) (f3:∀k,k < 2→i=N+10+k→v=prt (2+k) (a.eval (.tmp (S N))))
  (fc:i=N→MSv F v W' W.heap.size W'.heap.size) (fA:i=N+6→v=.pointer (some ⟨W.heap.size,0,none⟩)∧BoxN W' W.heap.size [.slice none 0 0])
  (fB:i=N+7→v=.pointer (some ⟨W.heap.size,0,none⟩)∧BoxN W' W.heap.size [.float .f32 0,.int .i64 0,.int .i64 0]) :
  BInv l N S D a0 w0 Φ F (L.setIfInBounds i true) (a.put (some (S i)) v) W':=by
 have hsz:=h.size
 have hsi:=ok.sz i hi n8 n9
 have hLi:(L.setIfInBounds i true).getD i false=true:=getS_eq (by omega) _
 have ei:(a.put (some (S i)) v).eval (.tmp (S i))=v:=Act.eval_put_same _ _ _ (by rw [h.agr.size];exact hsi.1)
 have ev:∀j,j < N+12→i≠j→(a.put (some (S i)) v).eval (.tmp (S j))=a.eval (.tmp (S j)):=fun j hj hij=>Act.eval_put_ne _ _ _ _ (fun e=>hij (ok.inj i j hi hj e))
 have g1:L.getD (N+1) false=true→L.getD N false=true:=fun h1=>h.closed _ h1 _ ok.w1
 have g2:∀k,k < 4→L.getD (N+2+k) false=true→L.getD N false=true:=fun k hk h1=>g1 (h.closed _ h1 _ (ok.w2 k hk))
 have g3:∀k,k < 2→L.getD (N+10+k) false=true→L.getD N false=true:=fun k hk h1=>g2 (2+k) (by omega) (by have:=h.closed _ h1 _ (ok.w10 k hk);rwa [show N+2+(2+k)=N+4+k by omega])
 have g8:L.getD (N+8) false=true→L.getD N false=true:=fun h1=>g2 0 (by omega) (h.closed _ h1 _ ok.w8e)
 have g9:L.getD (N+9) false=true→L.getD N false=true:=fun h1=>g2 1 (by omega) (h.closed _ h1 _ ok.w9e)
 have iN:L.getD N false=true→i≠N:=fun h1 e=>by rw [e,h1] at hun;cases hun
 have hsize:=hb.size
 have e8:(L.setIfInBounds i true).getD (N+8) false=L.getD (N+8) false:=getS_ne n8 _
 have e9:(L.setIfInBounds i true).getD (N+9) false=L.getD (N+9) false:=getS_ne n9 _
 refine ⟨by simpa using hsz,fun j hj k hw=>?_,h.agr.put hsi.2 v,bthen h.bel hb,fun hN j hj hl=>?_,fun hl=>?_,fun k hk hl=>?_,fun k hk hl=>?_,?_⟩
 ·by_cases e:i=j
  ·subst e;exact getS_mono (hd k hw)
  ·rw [getS_ne e] at hj;exact getS_mono (h.closed j hj k hw)
 ·have hiN:i≠N:=fun e=>by rw [←e,hLi] at hN;cases hN
  rw [getS_ne hiN] at hN
  by_cases e:i=j
  ·subst e;rw [ei];exact f0 hj
  ·rw [getS_ne e] at hl;rw [ev j (by omega) e];exact hst _ _ _ _ (h.pre hN j hj hl) hb
 ·by_cases e:i=N+1
  ·have:(a.put (some (S i)) v).eval (.tmp (S (N+1)))=v:=by rw [←e];exact ei
   rw [this,ev N (by omega) (by omega)];exact f1 e
  ·rw [getS_ne e] at hl;rw [ev _ (by omega) e,ev N (by omega) (iN (g1 hl))];exact h.mv hl
 ·by_cases e:i=N+2+k
  ·have:(a.put (some (S i)) v).eval (.tmp (S (N+2+k)))=v:=by rw [←e];exact ei
   rw [this,ev N (by omega) (by omega)];exact f2 k hk e
  ·rw [getS_ne e] at hl;rw [ev _ (by omega) e,ev N (by omega) (iN (g2 k hk hl))];exact h.ex k hk hl
 ·by_cases e:i=N+10+k
  ·have:(a.put (some (S i)) v).eval (.tmp (S (N+10+k)))=v:=by rw [←e];exact ei
   rw [this,ev N (by omega) (by omega)];exact f3 k hk e
  ·rw [getS_ne e] at hl;rw [ev _ (by omega) e,ev N (by omega) (iN (g3 k hk hl))];exact h.asn k hk hl
 ·obtain ⟨ba,bb,lo,hi',bx⟩:=h.box
  have hA:i≠N+6→(L.setIfInBounds i true).getD (N+6) false=true→L.getD (N+6) false=true∧(a.put (some (S i)) v).eval (.tmp (S (N+6)))=.pointer (some ⟨ba,0,none⟩)∧w0.heap.size≤ba∧BoxN W' ba (if (L.setIfInBounds i true).getD (N+8) false=true then cellsV (prt 0 ((a.put (some (S i)) v).eval (.tmp (S N)))) else [.slice none 0 0]):=by
   intro hi6 hl
   rw [getS_ne hi6] at hl
   obtain ⟨b1,b2,b3⟩:=bx.A hl
   rw [e8]
   refine ⟨hl,(ev _ (by omega) hi6).trans b1,b2,?_⟩
   by_cases h8:L.getD (N+8) false=true
   ·rw [if_pos h8] at b3 ⊢;rw [ev N (by omega) (iN (g8 h8))];exact b3.below hb
   ·rw [if_neg h8] at b3 ⊢;exact b3.below hb
  have hB:i≠N+7→(L.setIfInBounds i true).getD (N+7) false=true→L.getD (N+7) false=true∧(a.put (some (S i)) v).eval (.tmp (S (N+7)))=.pointer (some ⟨bb,0,none⟩)∧w0.heap.size≤bb∧BoxN W' bb (if (L.setIfInBounds i true).getD (N+9) false=true then cellsV (prt 1 ((a.put (some (S i)) v).eval (.tmp (S N)))) else [.float .f32 0,.int .i64 0,.int .i64 0]):=by
   intro hi6 hl
   rw [getS_ne hi6] at hl
   obtain ⟨b1,b2,b3⟩:=bx.B hl
   rw [e9]
   refine ⟨hl,(ev _ (by omega) hi6).trans b1,b2,?_⟩
   by_cases h8:L.getD (N+9) false=true
   ·rw [if_pos h8] at b3 ⊢;rw [ev N (by omega) (iN (g9 h8))];exact b3.below hb
   ·rw [if_neg h8] at b3 ⊢;exact b3.below hb
  have hR:i≠N→(L.setIfInBounds i true).getD N false=true→L.getD N false=true∧MSv F ((a.put (some (S i)) v).eval (.tmp (S N))) W' lo hi'∧w0.heap.size≤lo∧hi'≤W'.heap.size:=by
   intro hiN hl
   rw [getS_ne hiN] at hl
   obtain ⟨r1,r2,r3⟩:=bx.R hl
   rw [ev N (by omega) hiN]
   exact ⟨hl,r1.below hb,r2,by omega⟩
  have lA:∀hl:L.getD (N+6) false=true,ba < W.heap.size:=fun hl=>(bx.A hl).2.2.lt
  have lB:∀hl:L.getD (N+7) false=true,bb < W.heap.size:=fun hl=>(bx.B hl).2.2.lt
  have hw0:=h.bel.size
  by_cases c6:i=N+6
  ·obtain ⟨q1,q2⟩:=fA c6
   have n8':¬ L.getD (N+8) false=true:=fun h8=>by have:=h.closed _ h8 _ ok.w8;rw [←c6,hun] at this;cases this
   have ei':(a.put (some (S i)) v).eval (.tmp (S (N+6)))=v:=by rw [←c6];exact ei
   refine ⟨W.heap.size,bb,lo,hi',⟨fun _=>⟨by rw [ei',q1],hw0,?_⟩,fun hl=>(hB (by omega) hl).2,fun _ hl=>?_,fun hl=>(hR (by omega) hl).2,fun hl _=>?_,fun hl hl2=>?_⟩⟩
   ·rw [e8,if_neg n8'];exact q2
   ·have:=lB (hB (by omega) hl).1;omega
   ·have:=(bx.R (hR (by omega) hl).1).2.2;omega
   ·exact bx.RB (hR (by omega) hl).1 (hB (by omega) hl2).1
  by_cases c7:i=N+7
  ·obtain ⟨q1,q2⟩:=fB c7
   have n8':¬ L.getD (N+9) false=true:=fun h8=>by have:=h.closed _ h8 _ ok.w9;rw [←c7,hun] at this;cases this
   have ei':(a.put (some (S i)) v).eval (.tmp (S (N+7)))=v:=by rw [←c7];exact ei
   refine ⟨ba,W.heap.size,lo,hi',⟨fun hl=>(hA c6 hl).2,fun _=>⟨by rw [ei',q1],hw0,?_⟩,fun hl _=>?_,fun hl=>(hR (by omega) hl).2,fun hl hl2=>?_,fun hl _=>?_⟩⟩
   ·rw [e9,if_neg n8'];exact q2
   ·have:=lA (hA c6 hl).1;omega
   ·exact bx.RA (hR (by omega) hl).1 (hA c6 hl2).1
   ·have:=(bx.R (hR (by omega) hl).1).2.2;omega
  by_cases cN:i=N
  ·have q:=fc cN
   have ei':(a.put (some (S i)) v).eval (.tmp (S N))=v:=by rw [←cN];exact ei
   refine ⟨ba,bb,W.heap.size,W'.heap.size,⟨fun hl=>(hA c6 hl).2,fun hl=>(hB c7 hl).2,fun h1 h2=>bx.AB (hA c6 h1).1 (hB c7 h2).1,fun _=>⟨by rw [ei'];exact q,hw0,Nat.le_refl _⟩,fun _ hl=>.inl (lA (hA c6 hl).1),fun _ hl=>.inl (lB (hB c7 hl).1)⟩⟩
  ·exact ⟨ba,bb,lo,hi',⟨fun hl=>(hA c6 hl).2,fun hl=>(hB c7 hl).2,fun h1 h2=>bx.AB (hA c6 h1).1 (hB c7 h2).1,fun hl=>(hR cN hl).2,fun h1 h2=>bx.RA (hR cN h1).1 (hA c6 h2).1,fun h1 h2=>bx.RB (hR cN h1).1 (hB c7 h2).1⟩⟩
theorem BInv.storeA (ok:BOk l N S D a0) (h:BInv l N S D a0 w0 Φ F L a W) (hd:∀k,waitsP .any l.toArray (N+8) k=true→L.getD k false=true) :
  ∃ba ad n cap,a.eval (.tmp (S (N+6)))=.pointer (some ⟨ba,0,none⟩)∧a.eval (.tmp (S (N+2)))=.agg #[.slice ad n cap]∧BoxN W ba (if L.getD (N+8) false=true then [.slice ad n cap] else [.slice none 0 0])∧BInv l N S D a0 w0 Φ F (L.setIfInBounds (N+8) true) a (W.setCell ⟨ba,0,none⟩ (.slice ad n cap)):=by
 obtain ⟨ba,bb,lo,hi,bx⟩:=h.box
 have l6:=hd _ ok.w8
 have l2:=hd _ ok.w8e
 have l1:=h.closed _ l2 _ (ok.w2 0 (by omega))
 have lN:=h.closed _ l1 _ ok.w1
 obtain ⟨b1,b2,b3⟩:=bx.A l6
 obtain ⟨r1,r2,r3⟩:=bx.R lN
 have hap:=bx.RA lN l6
 have hT:∀y,Touch ba (ba+1) W (W.setCell ⟨ba,0,none⟩ y):=fun y=>Touch.setCell (Nat.le_refl _) (Nat.lt_succ_self _)
 obtain ⟨ad,n,cap,s',g',q',v2,v3,us,e,hf,ho⟩:=id r1
 have he2:=h.ex 0 (by omega) l2
 have e1:a.eval (.tmp (S (N+2)))=.agg #[.slice ad n cap]:=by rw [he2,e];rfl
 have e2:cellsV (prt 0 (a.eval (.tmp (S N))))=[.slice ad n cap]:=by rw [e];rfl
 rw [e2] at b3
 have hsz:=h.size
 have hx:BoxN (W.setCell ⟨ba,0,none⟩ (.slice ad n cap)) ba [.slice ad n cap]:=by
  split at b3
  ·exact b3.set 0 _
  ·exact b3.set 0 _
 refine ⟨ba,ad,n,cap,b1,e1,b3,⟨by simpa using hsz,fun j hj k hw=>?_,h.agr,Below.setCell h.bel b2 _,fun hN=>?_,fun hl=>?_,fun k hk hl=>?_,fun k hk hl=>?_,ba,bb,lo,hi,⟨fun _=>⟨b1,b2,?_⟩,fun hl=>?_,fun _ hl=>?_,fun _=>⟨r1.touch (hT _) hap,r2,by simpa [World.setCell] using r3⟩,fun _ _=>hap,fun _ hl=>?_⟩⟩⟩
 ·by_cases e:N+8=j
  ·subst e;exact getS_mono (hd k hw)
  ·rw [getS_ne e] at hj;exact getS_mono (h.closed j hj k hw)
 ·rw [getS_ne (by omega),lN] at hN;cases hN
 ·rw [getS_ne (by omega)] at hl;exact h.mv hl
 ·rw [getS_ne (by omega)] at hl;exact h.ex k hk hl
 ·rw [getS_ne (by omega)] at hl;exact h.asn k hk hl
 ·rw [if_pos (getS_eq (by omega) _),e2];exact hx
 ·rw [getS_ne (by omega)] at hl
  obtain ⟨c1,c2,c3⟩:=bx.B hl
  refine ⟨c1,c2,?_⟩
  rw [getS_ne (by omega)]
  exact c3.far _ _ _ (bx.AB l6 hl)
 ·rw [getS_ne (by omega)] at hl;exact bx.AB l6 hl
 ·rw [getS_ne (by omega)] at hl;exact bx.RB lN hl
theorem BInv.storeB (ok:BOk l N S D a0) (h:BInv l N S D a0 w0 Φ F L a W) (hd:∀k,waitsP .any l.toArray (N+9) k=true→L.getD k false=true) :
  ∃bb s' g' q',a.eval (.tmp (S (N+7)))=.pointer (some ⟨bb,0,none⟩)∧a.eval (.tmp (S (N+3)))=.agg #[.float .f32 s',.int .i64 g',.int .i64 q']∧BoxN W bb (if L.getD (N+9) false=true then [.float .f32 s',.int .i64 g',.int .i64 q'] else [.float .f32 0,.int .i64 0,.int .i64 0])∧BInv l N S D a0 w0 Φ F (L.setIfInBounds (N+9) true) a (setCs W bb 0 [.float .f32 s',.int .i64 g',.int .i64 q']):=by
 obtain ⟨ba,bb,lo,hi,bx⟩:=h.box
 have l6:=hd _ ok.w9
 have l2:=hd _ ok.w9e
 have l1:=h.closed _ l2 _ (ok.w2 1 (by omega))
 have lN:=h.closed _ l1 _ ok.w1
 obtain ⟨b1,b2,b3⟩:=bx.B l6
 obtain ⟨r1,r2,r3⟩:=bx.R lN
 have hap:=bx.RB lN l6
 obtain ⟨ad,n,cap,s',g',q',v2,v3,us,e,hf,ho⟩:=id r1
 have hT:Touch bb (bb+1) W (setCs W bb 0 [.float .f32 s',.int .i64 g',.int .i64 q']):=setCs_touch _ _ _ _
 have he2:=h.ex 1 (by omega) l2
 have e1:a.eval (.tmp (S (N+3)))=.agg #[.float .f32 s',.int .i64 g',.int .i64 q']:=by rw [he2,e];rfl
 have e2:cellsV (prt 1 (a.eval (.tmp (S N))))=[.float .f32 s',.int .i64 g',.int .i64 q']:=by rw [e];rfl
 rw [e2] at b3
 have hsz:=h.size
 have hx:BoxN (setCs W bb 0 [.float .f32 s',.int .i64 g',.int .i64 q']) bb [.float .f32 s',.int .i64 g',.int .i64 q']:=by
  split at b3
  ·exact b3.set3
  ·exact b3.set3
 refine ⟨bb,s',g',q',b1,e1,b3,⟨by simpa using hsz,fun j hj k hw=>?_,h.agr,setCs_below h.bel b2 0 _,fun hN=>?_,fun hl=>?_,fun k hk hl=>?_,fun k hk hl=>?_,ba,bb,lo,hi,⟨fun hl=>?_,fun _=>⟨b1,b2,?_⟩,fun hl _=>?_,fun _=>⟨r1.touch hT hap,r2,by rw [setCs_size];exact r3⟩,fun _ hl=>?_,fun _ _=>hap⟩⟩⟩
 ·by_cases e:N+9=j
  ·subst e;exact getS_mono (hd k hw)
  ·rw [getS_ne e] at hj;exact getS_mono (h.closed j hj k hw)
 ·rw [getS_ne (by omega),lN] at hN;cases hN
 ·rw [getS_ne (by omega)] at hl;exact h.mv hl
 ·rw [getS_ne (by omega)] at hl;exact h.ex k hk hl
 ·rw [getS_ne (by omega)] at hl;exact h.asn k hk hl
 ·rw [getS_ne (by omega)] at hl
  obtain ⟨c1,c2,c3⟩:=bx.A hl
  refine ⟨c1,c2,?_⟩
  rw [getS_ne (by omega)]
  have:=bx.AB hl l6
  exact c3.touch hT (by omega)
 ·rw [if_pos (getS_eq (by omega) _),e2];exact hx
 ·rw [getS_ne (by omega)] at hl;exact bx.AB hl l6
 ·rw [getS_ne (by omega)] at hl;exact bx.RA lN hl
def BEnd (N:Nat) (S:Nat→Nat) (D:List Nat) (a0:Act) (w0:World) (F:Nat→Int→Int→Value→Value→List LayD→Prop) (a:Act) (W:World):Prop :=
 Agr D a0 a∧∃(ba bb lo hi:Nat) (ad:Option Addr) (n cap s':Nat) (g' q':Int) (v2 v3:Value) (us:List LayD),(a.eval (.tmp (S (N+6)))=.pointer (some ⟨ba,0,none⟩)∧a.eval (.tmp (S (N+7)))=.pointer (some ⟨bb,0,none⟩)∧a.eval (.tmp (S (N+10)))=v2∧a.eval (.tmp (S (N+11)))=v3) ∧
  F s' g' q' v2 v3 us∧Below w0.heap.size w0 W∧BoxN W ba [.slice ad n cap]∧BoxN W bb [.float .f32 s',.int .i64 g',.int .i64 q']∧(w0.heap.size≤lo∧hi≤W.heap.size)∧(ba < lo∨hi≤ba)∧(bb < lo∨hi≤bb)∧(w0.heap.size≤ba∧ba < W.heap.size)∧(w0.heap.size≤bb∧bb < W.heap.size)∧OwnR layR W lo hi ad n cap us
theorem BInv.done (h:BInv l N S D a0 w0 Φ F L a W) (hall:∀i,i < N+12→L.getD i false=true):BEnd N S D a0 w0 F a W:=by
 obtain ⟨ba,bb,lo,hi,bx⟩:=h.box
 obtain ⟨a1,a2,a3⟩:=bx.A (hall _ (by omega))
 obtain ⟨b1,b2,b3⟩:=bx.B (hall _ (by omega))
 obtain ⟨r1,r2,r3⟩:=bx.R (hall _ (by omega))
 obtain ⟨ad,n,cap,s',g',q',v2,v3,us,e,hf,ho⟩:=id r1
 have f0:=h.asn 0 (by omega) (hall _ (by omega))
 have f1:=h.asn 1 (by omega) (hall _ (by omega))
 rw [if_pos (hall _ (by omega)),e] at a3 b3
 rw [e] at f0 f1
 exact ⟨h.agr,ba,bb,lo,hi,ad,n,cap,s',g',q',v2,v3,us,⟨a1,b1,f0,f1⟩,hf,h.bel,a3,b3,⟨r2,r3⟩,bx.RA (hall _ (by omega)) (hall _ (by omega)),bx.RB (hall _ (by omega)) (hall _ (by omega)),⟨a2,a3.lt⟩,⟨b2,b3.lt⟩,ho⟩
theorem BInv.start (N:Nat) (S:Nat→Nat) (D:List Nat) (Φ:Nat→Value→World→Prop) (F:Nat→Int→Int→Value→Value→List LayD→Prop) (a0:Act) (w0:World) (hl:l.length=N+12) (hb:Below w0.heap.size w0 W):BInv l N S D a0 w0 Φ F (Array.replicate l.toArray.size false) a0 W:=by
 have h0:∀j,(Array.replicate l.toArray.size false).getD j false=false:=fun j=>by
  rw [Array.getD_eq_getD_getElem?,Array.getElem?_replicate];split <;> rfl
 have no:∀ {j:Nat} {p:Prop},(Array.replicate l.toArray.size false).getD j false=true→p:=fun h=>by rw [h0] at h;cases h
 exact ⟨by simp [hl],fun _ h=>no h,Agr.refl _ _,hb,fun _ _ _ h=>no h,fun h=>no h,fun _ _ h=>no h,fun _ _ h=>no h,0,0,0,0,⟨fun h=>no h,fun h=>no h,fun h=>no h,fun h=>no h,fun h=>no h,fun h=>no h⟩⟩
def opAt (l:List Oper) (i:Nat) (d:Option Tmp) (x:Op):Prop:=∃t p f,l[i]? = some ⟨d,x,t,p,f,none⟩
theorem boxed_region {P:Program} {Q:Exit→Act→World→Prop} {id:Nat} {y0 y1:TypeId} {xC:Op} (hm:P.follows .mixedOrders=true) (hB:backB l.toArray=true) (hl:l.length=N+12) (ok:BOk l N S D a0) (hst:∀i v W W',Φ i v W→Below W.heap.size W W'→Φ i v W')
  (oC:opAt l N (some (S N)) xC) (o1:opAt l (N+1) (some (S (N+1))) (.move (.tmp (S N)))) (oE:∀k,k < 4→opAt l (N+2+k) (some (S (N+2+k))) (.extract (.tmp (S (N+1))) k))
  (oA:opAt l (N+6) (some (S (N+6))) (.alloc y0)) (oB:opAt l (N+7) (some (S (N+7))) (.alloc y1)) (oSA:opAt l (N+8) none (.store y0 (.tmp (S (N+6))) (.tmp (S (N+2))))) (oSB:opAt l (N+9) none (.store y1 (.tmp (S (N+7))) (.tmp (S (N+3)))))
  (oF:∀k,k < 2→opAt l (N+10+k) (some (S (N+10+k))) (.assign (.tmp (S (N+4+k)))))
  (hpre:∀i o,i < N→l[i]? = some o→(o.guard=none∧o.dst=some (S i))∧∀a W K,Agr D a0 a→Below w0.heap.size w0 W→(∀j,j < N→waitsP .any l.toArray i j=true→Φ j (a.eval (.tmp (S j))) W)→(∀v W',Φ i v W'→Below W.heap.size W W'→K (a.put (some (S i)) v) W')→o.wp P a W K Q)
  (hcall:∀o,l[N]? = some o→∀a W K,Agr D a0 a→Below w0.heap.size w0 W→(∀j,j < N→waitsP .any l.toArray N j=true→Φ j (a.eval (.tmp (S j))) W)→(∀v W',MSv F v W' W.heap.size W'.heap.size→Below W.heap.size W W'→K (a.put (some (S N)) v) W')→o.wp P a W K Q)
  (hAl:∀(o:Oper) a W K,o.op=.alloc y0→K (a.put o.dst (.pointer (some ⟨W.heap.size,0,none⟩))) (W.alloc (.cells #[.slice none 0 0] y0))→o.wp P a W K Q)
  (hBl:∀(o:Oper) a W K,o.op=.alloc y1→K (a.put o.dst (.pointer (some ⟨W.heap.size,0,none⟩))) (W.alloc (.cells #[.float .f32 0,.int .i64 0,.int .i64 0] y1))→o.wp P a W K Q)
  (hSA:∀(o:Oper) a W K p v b x ad n cap,o.op=.store y0 (.tmp p) (.tmp v)→o.dst=none→a.eval (.tmp p)=.pointer (some ⟨b,0,none⟩)→a.eval (.tmp v)=.agg #[.slice ad n cap]→BoxN W b [x]→K a (W.setCell ⟨b,0,none⟩ (.slice ad n cap))→o.wp P a W K Q)
  (hSB:∀(o:Oper) a W K p v b x y z s g q,o.op=.store y1 (.tmp p) (.tmp v)→o.dst=none→a.eval (.tmp p)=.pointer (some ⟨b,0,none⟩)→a.eval (.tmp v)=.agg #[.float .f32 s,.int .i64 g,.int .i64 q]→BoxN W b [x,y,z]→K a (setCs W b 0 [.float .f32 s,.int .i64 g,.int .i64 q])→o.wp P a W K Q)
  (hend:∀a W,BEnd N S D a0 w0 F a W→Q .normal a W):(Code.region id l.toArray true).wp P Q a0 w0:=by
 refine wp_region_inv (Inv:=BInv l N S D a0 w0 Φ F) hm hB (BInv.start N S D Φ F a0 w0 hl (below_drewN (Below.refl _ _) _)) (fun L a W i o ho hun hd h=>?_) (fun L a W hall h=>?_)
 ·have hi:i < N+12:=by
   rw [List.getElem?_toArray] at ho
   have:=(List.getElem?_eq_some_iff.1 ho).1;omega
  have hd2:∀k,waitsP .any l.toArray i k=true→L.getD k false=true:=fun k hk=>by
   obtain ⟨o',ho',e,he,hb,hk'⟩:=waitsP_spec hk
   rw [ho] at ho';cases ho'
   rw [←hk'];exact hd e he hb
  have hun2:=getD_two hun
  rw [List.getElem?_toArray] at ho
  have hat:∀ {d x},opAt l i d x→∃t p f,o=⟨d,x,t,p,f,none⟩:=fun ⟨t,p,f,e⟩=>⟨t,p,f,Option.some.inj (ho.symm.trans e)⟩
  have hwant:o.guard=none→Region.wanted o (yielded l.toArray a.tmps)=true:=fun e=>by unfold Region.wanted;rw [e]
  by_cases c0:i < N
  ·obtain ⟨⟨e1,e2⟩,hp⟩:=hpre i o c0 ho
   rw [if_pos (hwant e1)]
   have hNf:L.getD N false=false:=by
    cases hN:L.getD N false with
    | false=>rfl
    | true =>
     exfalso
     have:L.getD i false=true:=by
      rcases ok.wp i c0 with h1 | ⟨j,h1,h2⟩
      ·exact h.closed _ hN _ h1
      ·exact h.closed _ (h.closed _ hN _ h1) _ h2
     rw [hun2] at this;cases this
   refine hp a W _ h.agr h.bel (fun j hj hw=>h.pre hNf j hj (hd2 j hw)) fun v W' hv hb=>?_
   exact h.grow ok hst hi (by omega) (by omega) hun2 hd2 v hb (fun _=>hv) (fun e=>by omega) (fun k hk e=>by omega) (fun k hk e=>by omega) (fun e=>by omega) (fun e=>by omega) (fun e=>by omega)
  by_cases c1:i=N
  ·obtain ⟨t,p,f,rfl⟩:=hat (by rw [c1];exact oC)
   rw [if_pos (hwant rfl)]
   refine hcall _ (by rw [c1] at ho;exact ho) a W _ h.agr h.bel (fun j hj hw=>h.pre (by rw [←c1];exact hun2) j hj (hd2 j (by rw [c1];exact hw))) fun v W' hv hb=>?_
   have:=h.grow ok hst hi (by omega) (by omega) hun2 hd2 v hb (fun e=>by omega) (fun e=>by omega) (fun k hk e=>by omega) (fun k hk e=>by omega) (fun _=>hv) (fun e=>by omega) (fun e=>by omega)
   rw [c1] at this ⊢;exact this
  by_cases c2:i=N+1
  ·obtain ⟨t,p,f,rfl⟩:=hat (by rw [c2];exact o1)
   rw [if_pos (hwant rfl)]
   have:=h.grow ok hst hi (by omega) (by omega) hun2 hd2 (a.eval (.tmp (S N))) (Below.refl _ _) (fun e=>by omega) (fun _=>rfl) (fun k hk e=>by omega) (fun k hk e=>by omega) (fun e=>by omega) (fun e=>by omega) (fun e=>by omega)
   rw [c2] at this ⊢;exact this
  by_cases c3:i < N+6
  ·obtain ⟨k,hk,rfl⟩:∃k,k < 4∧i=N+2+k:=⟨i - (N+2),by omega,by omega⟩
   obtain ⟨t,p,f,rfl⟩:=hat (oE k hk)
   rw [if_pos (hwant rfl)]
   have lm:=hd2 _ (ok.w2 k hk)
   have lN:=h.closed _ lm _ ok.w1
   obtain ⟨ba,bb,lo,hi',bx⟩:=h.box
   obtain ⟨⟨ad,n,cap,s',g',q',v2,v3,us,e,hf,ho'⟩,-⟩:=bx.R lN
   have em:=(h.mv lm).trans e
   have:=h.grow ok hst hi (by omega) (by omega) hun2 hd2 (prt k (a.eval (.tmp (S N)))) (Below.refl _ _) (fun e=>by omega) (fun e=>by omega) (fun k' hk' e=>by rw [show k'=k by omega]) (fun k hk e=>by omega) (fun e=>by omega) (fun e=>by omega) (fun e=>by omega)
   have hx:(execOp a.eval ⟨some (S (N+2+k)),.extract (.tmp (S (N+1))) k,t,p,f,none⟩).run P W=.ok (.value (prt k (a.eval (.tmp (S N))))) W:=by
    show (do let x ←Instr.extract (a.eval (.tmp (S (N+1)))) k;pure (Next.value x):Sem Next).run P W = _
    rw [em,e]
    match k,hk with
    | 0,_=>rfl
    | 1,_=>rfl
    | 2,_=>rfl
    | 3,_=>rfl
   unfold Oper.wp
   rw [hx];exact this
  by_cases c6:i=N+6
  ·obtain ⟨t,p,f,rfl⟩:=hat (by rw [c6];exact oA)
   rw [if_pos (hwant rfl)]
   refine hAl _ _ _ _ rfl ?_
   have:=h.grow ok hst hi (by omega) (by omega) hun2 hd2 (.pointer (some ⟨W.heap.size,0,none⟩)) (below1 W (.cells #[.slice none 0 0] y0)) (fun e=>by omega) (fun e=>by omega) (fun k hk e=>by omega) (fun k hk e=>by omega) (fun e=>by omega) (fun _=>⟨rfl,BoxN.alloc W #[.slice none 0 0] y0⟩) (fun e=>by omega)
   rw [c6] at this ⊢;exact this
  by_cases c7:i=N+7
  ·obtain ⟨t,p,f,rfl⟩:=hat (by rw [c7];exact oB)
   rw [if_pos (hwant rfl)]
   refine hBl _ _ _ _ rfl ?_
   have:=h.grow ok hst hi (by omega) (by omega) hun2 hd2 (.pointer (some ⟨W.heap.size,0,none⟩)) (below1 W (.cells #[.float .f32 0,.int .i64 0,.int .i64 0] y1)) (fun e=>by omega) (fun e=>by omega) (fun k hk e=>by omega) (fun k hk e=>by omega) (fun e=>by omega) (fun e=>by omega) (fun _=>⟨rfl,BoxN.alloc W #[.float .f32 0,.int .i64 0,.int .i64 0] y1⟩)
   rw [c7] at this ⊢;exact this
  by_cases c8:i=N+8
  ·subst c8
   obtain ⟨t,p,f,rfl⟩:=hat oSA
   rw [if_pos (hwant rfl)]
   obtain ⟨ba,ad,n,cap,e1,e2,hx,h'⟩:=h.storeA ok hd2
   rw [if_neg (by rw [hun2];exact Bool.false_ne_true)] at hx
   exact hSA _ _ _ _ _ _ _ _ _ _ _ rfl rfl e1 e2 hx h'
  by_cases c9:i=N+9
  ·subst c9
   obtain ⟨t,p,f,rfl⟩:=hat oSB
   rw [if_pos (hwant rfl)]
   obtain ⟨bb,s,g,q,e1,e2,hx,h'⟩:=h.storeB ok hd2
   rw [if_neg (by rw [hun2];exact Bool.false_ne_true)] at hx
   exact hSB _ _ _ _ _ _ _ _ _ _ _ _ _ rfl rfl e1 e2 hx h'
  ·obtain ⟨k,hk,rfl⟩:∃k,k < 2∧i=N+10+k:=⟨i - (N+10),by omega,by omega⟩
   obtain ⟨t,p,f,rfl⟩:=hat (oF k hk)
   rw [if_pos (hwant rfl)]
   have lm:=hd2 _ (ok.w10 k hk)
   have hex:=h.ex (2+k) (by omega) (by rwa [show N+2+(2+k)=N+4+k by omega])
   rw [show N+2+(2+k)=N+4+k by omega] at hex
   have:=h.grow ok hst hi (by omega) (by omega) hun2 hd2 (a.eval (.tmp (S (N+4+k)))) (Below.refl _ _) (fun e=>by omega) (fun e=>by omega) (fun k hk e=>by omega) (fun k' hk' e=>by rw [show k'=k by omega];exact hex) (fun e=>by omega) (fun e=>by omega) (fun e=>by omega)
   exact this
 ·refine hend a W (h.done fun i hi=>?_)
  have:=hall i (by simp;omega)
  have hs:=h.size
  rw [Array.getD_eq_getD_getElem?] at this ⊢
  rw [Array.getElem?_eq_getElem (by omega)] at this ⊢
  exact this
end
end Go.Proofs.YtpadlmidojpbeaaGreat
