/- Joined texts 15. No condition. -/
import Derived.Test.YtpadlmidojpbeaaGreatMc0
import Derived.Test.YtpadlmidojpbeaaGreatMc1
import Derived.Test.YtpadlmidojpbeaaGreatMc6
import Derived.Test.YtpadlmidojpbeaaGreatMc14
set_option linter.unusedVariables false
set_option linter.unusedSimpArgs false
set_option maxRecDepth 100000
set_option maxHeartbeats 64000000
namespace Go.Proofs.YtpadlmidojpbeaaGreat
section
open Go Go.RowKit
def ScOut (R:Option (List OpP × List Int)) (s:Nat) (w:World) (e:Ending) (w':World):Prop:=∃ad n cap z f b,e=.returned (.tuple #[.slice ad n cap,.float .f32 z,.bool f,.bool b]) ∧
 Hid (b=R.isSome∧(b=true→∃xs,RepF w' w.heap.size w'.heap.size ad n cap xs∧z < 4294967296∧(xs.map (cn .f32),cn .f32 z)=(dD R s).1∧f=(dD R s).2))∧Below w.heap.size w w'
theorem ScOut.none {R:Option (List OpP × List Int)} {s:Nat} {w w':World} {e:Ending} {ad:Option Addr} {n cap z:Nat} {f:Bool} (h:R=none) (he:e=.returned (.tuple #[.slice ad n cap,.float .f32 z,.bool f,.bool false])) (hb:Below w.heap.size w w'):ScOut R s w e w':=by
 subst h
 exact ⟨_,_,_,_,_,_,he,I ⟨rfl,fun h=>(by cases h)⟩,hb⟩
theorem AQ {ls:List LayD} {X Y:TenP} {q:Nat} (h:dG (ls.map LayD.toLayP)=false):bH ((ls.map fun l=>l.toLayP.can).map (cZ mH)) X Y q=none:=by
 refine cS ?_
 unfold fR
 rw [rZ,h];rfl
theorem AR {L:List LayP} {X:TenP} {yr yc:Int} {ys:List Nat} {q:Nat} (h:dZ yr yc ys.length=false):bH L X ⟨yr,yc,ys⟩ q=none:=by
 refine cS ?_
 unfold fR
 simp [h]
theorem nJ (w:World) (mb mo xb xo yb yo:Nat) (ma:Option Addr) (mk:Nat) (ls:List LayD) (xr xc yr yc:Int) (xa ya:Option Addr) (xk yk:Nat) (xs ys:List Nat) (s:Nat) (hs:s < 4294967296)
  (hbm:mb < w.heap.size) (hbx:xb < w.heap.size) (hby:yb < w.heap.size)
  (hm:w.cell? ⟨mb,mo,none⟩=some (.slice ma ls.length mk)) (hls:SeeR aX w ma mk ls)
  (hx0:w.cell? ⟨xb,xo,none⟩=some (.int .i64 xr)) (hx1:w.cell? ⟨xb,xo+1,none⟩=some (.int .i64 xc)) (hx2:w.cell? ⟨xb,xo+2,none⟩=some (.slice xa xs.length xk)) (hx:F32s w xa xk xs)
  (hy0:w.cell? ⟨yb,yo,none⟩=some (.int .i64 yr)) (hy1:w.cell? ⟨yb,yo+1,none⟩=some (.int .i64 yc)) (hy2:w.cell? ⟨yb,yo+2,none⟩=some (.slice ya ys.length yk)) (hy:F32s w ya yk ys) (hxy:xb≠yb) :
  Calls Tryz.prog 30 #[.pointer (some ⟨mb,mo,none⟩),.pointer (some ⟨xb,xo,none⟩),.pointer (some ⟨yb,yo,none⟩),.float .f32 s] w (ScOut (bH ((ls.map fun l=>l.toLayP.can).map (cZ mH)) ⟨xr,xc,xs.map (cn .f32)⟩ ⟨yr,yc,ys.map (cn .f32)⟩ (dQ .mul .f32 (cJ ys.length) (cn .f32 s))) (cn .f32 s) w):=by
 obtain ⟨R,hR⟩:∃R,R=bH ((ls.map fun l=>l.toLayP.can).map (cZ mH)) ⟨xr,xc,xs.map (cn .f32)⟩ ⟨yr,yc,ys.map (cn .f32)⟩ (dQ .mul .f32 (cJ ys.length) (cn .f32 s)):=⟨_,rfl⟩
 rw [←hR]
 have HR:=I hR
 have hym:ys.length≤maxLen:=Nat.le_trans hy.len hy.cap
 have K1:=I (gT w mb mo ma mk ls hls hm)
 have K2:=I (fun W (hb:Below w.heap.size w W)=>fZ W yb yo yr yc ya ys.length yk hym ((hb.cell (p:=⟨yb,yo,none⟩) hby).trans hy0) ((hb.cell (p:=⟨yb,yo+1,none⟩) hby).trans hy1) ((hb.cell (p:=⟨yb,yo+2,none⟩) hby).trans hy2))
 cases eM:dG (ls.map LayD.toLayP)
 ·rw [eM] at K1
  have HRN:Hid (R=none):=I (by rw [HR.out];exact AQ eM)
  clear eM HR K2 hm hls hx0 hx1 hx2 hx hy0 hy1 hy2 hy hbm hbx hby hxy hym hR
  go_enter Tryz.func30,Tryz.ntmps30
  go_wp2_with fail
  refine K1.out.mono ?_
  rintro e w1 ⟨rfl,hd⟩
  have HB:=I hd.below
  clear hd
  go_wp2
  try simp only [Exit.inBlock,Exit.then]
  refine bodyPost_ret (v:=.tuple #[.slice (some ⟨w1.heap.size,0,none⟩) 0 0,.float .f32 0,.bool false,.bool false]) (by simp [results,Tryz.results30,go_sem]) rfl ?_
  exact ScOut.none HRN.out rfl (aA HB.out (aE _ _))
 rw [eM] at K1
 have hlens:=iI eM
 cases eY:dZ yr yc ys.length
 ·rw [eY] at K2
  have HRN:Hid (R=none):=I (by rw [HR.out];exact AR (by rw [List.length_map];exact eY))
  clear eM eY HR hlens hm hls hx0 hx1 hx2 hx hy0 hy1 hy2 hy hbm hbx hby hxy hym hR
  go_enter Tryz.func30,Tryz.ntmps30
  go_wp2_with fail
  refine K1.out.mono ?_
  rintro e w1 ⟨rfl,hd⟩
  have HB:=I hd.below
  clear hd
  go_wp2_with fail
  refine (K2.out _ HB.out).mono ?_
  rintro e w2 ⟨rfl,hd⟩
  have HB2:=I (aA HB.out hd.below)
  clear hd
  go_wp2
  try simp only [Exit.inBlock,Exit.then]
  refine bodyPost_ret (v:=.tuple #[.slice (some ⟨w2.heap.size,0,none⟩) 0 0,.float .f32 0,.bool false,.bool false]) (by simp [results,Tryz.results30,go_sem]) rfl ?_
  exact ScOut.none HRN.out rfl (aA HB2.out (aE _ _))
 rw [eY] at K2
 obtain ⟨⟨yr1,yr2⟩,⟨yc1,yc2⟩,hyl⟩:=eA.1 eY
 obtain ⟨r,rfl⟩:∃r:Nat,yr=r:=⟨yr.toNat,by omega⟩
 obtain ⟨d,rfl⟩:∃d:Nat,yc=d:=⟨yc.toNat,by omega⟩
 have hyd:ys.length=r * d:=by exact_mod_cast hyl
 have KS:=I (fun W (hb:Below w.heap.size w W)=>vL W yb yo r d (by omega) (by omega) ((hb.cell (p:=⟨yb,yo,none⟩) hby).trans hy0) ((hb.cell (p:=⟨yb,yo+1,none⟩) hby).trans hy1))
 rw [←hyd] at KS
 have KB:=I (fun W (hb:Below w.heap.size w W)=>uR W mb mo ma mk ls (Nat.lt_of_lt_of_le hbm hb.size) ((hb.cell (p:=⟨mb,mo,none⟩) hbm).trans hm) (hls.below hb) (by have:=hlens.1;omega) (fun l hl=>by have:=hlens.2 l hl;omega))
 have KM:=I (fun W (hb:Below w.heap.size w W) bb ad cap (us:List LayD) (h0:W.cell? ⟨bb,0,none⟩=some (.slice ad us.length cap)) (h1:SeeR aX W ad cap us) z (hz:z < 4294967296) =>
  vK W bb 0 xb xo yb yo ad cap us xr xc r d xa ya xk yk xs ys z hz h0 h1 ((hb.cell (p:=⟨xb,xo,none⟩) hbx).trans hx0) ((hb.cell (p:=⟨xb,xo+1,none⟩) hbx).trans hx1) ((hb.cell (p:=⟨xb,xo+2,none⟩) hbx).trans hx2) (hx.below hb) ((hb.cell (p:=⟨yb,yo,none⟩) hby).trans hy0) ((hb.cell (p:=⟨yb,yo+1,none⟩) hby).trans hy1) ((hb.cell (p:=⟨yb,yo+2,none⟩) hby).trans hy2) (hy.below hb) hxy)
 clear eM eY hlens hyl hyd yr1 yr2 yc1 yc2 hm hls hx0 hx1 hx2 hx hy0 hy1 hy2 hy hbm hbx hby hxy hym hR
 go_enter Tryz.func30,Tryz.ntmps30
 go_wp2_with fail
 refine K1.out.mono ?_
 rintro e w1 ⟨rfl,hd⟩
 have HB1:=I hd.below
 clear hd K1
 go_wp2_with fail
 refine (K2.out _ HB1.out).mono ?_
 rintro e w2 ⟨rfl,hd⟩
 have HB2:=I (aA HB1.out hd.below)
 clear hd K2 HB1
 go_wp2_with fail
 refine (KB.out _ HB2.out).mono ?_
 rintro e w3 ⟨ad,m,cap,us,rfl,HU,hb⟩
 have HB3:=I (aA HB2.out hb)
 clear hb KB HB2
 go_upto_region 4 with fail
 have BB:=I (BoxN.alloc w3 #[.slice ad m cap] 35)
 have HB4:=I (aA HB3.out (aE w3 (.cells #[.slice ad m cap] 35)))
 have HU4:=I (HU.out.2.below (aE w3 (.cells #[.slice ad m cap] 35)))
 have HUC:=I HU.out.1
 clear HU HB3
 generalize w3.alloc (.cells #[.slice ad m cap] 35)=W4 at BB HB4 HU4 ⊢
 generalize w3.heap.size=bb at BB ⊢
 go_wp2_with fail
 refine (KS.out _ HB4.out).mono ?_
 rintro e w5 ⟨z,rfl,hz,hd⟩
 have HZ:=I hz.out
 have HD5:=I hd.below
 clear hz hd KS
 have HLB:=I (show ((nC R).getD ([],0)).1.length≤3072 by rw [HR.out];exact wP _ _ _ _)
 have hlu:=HU4.out.len
 have KL:=I (fun W (hb:Below W4.heap.size W4 W) y (hy:y < 4294967296) (hyc:cn .f32 y=dQ .mul .f32 (cJ ys.length) (cn .f32 s))=>by
  have h:=KM.out W (aA HB4.out hb) bb ad cap us (by rw [hlu];exact (BB.out.below hb).one1.2.1) (HU4.out.below hb).see y hy
  rw [HUC.out,hyc,←HR.out] at h
  exact yN W R _ _ _ y _ _ _ _ HR.out h)
 clear KM hlu HU4 HUC
 go_wp2_with fail
 obtain ⟨y,hy⟩:∃y,y=dH BinOp.mul FloatKind.f32 z s w5:=⟨_,rfl⟩
 rw [←hy]
 have hyl:y < 4294967296:=by rw [hy];exact bL _ .f32 _ _ _
 have hyc:cn .f32 y=dQ .mul .f32 (cJ ys.length) (cn .f32 s):=by rw [hy,bE,HZ.out.1]
 have KL2:=I (KL.out (w5.drewN (sZ BinOp.mul FloatKind.f32 z s)) (below_drewN HD5.out _) y hyl hyc)
 have HB6:=I (aA HB4.out (below_drewN HD5.out (sZ BinOp.mul FloatKind.f32 z s)))
 clear KL hy hyl hyc HZ HD5 HB4 BB HR
 generalize w5.drewN (sZ BinOp.mul FloatKind.f32 z s)=w6 at KL2 HB6 ⊢
 refine KL2.out.mono ?_
 rintro e w7 ⟨la,n,c2,z2,b,rfl,HO,hb7⟩
 have HB7:=I (aA HB6.out hb7)
 have hs7:=hb7.size
 have hs6:=HB6.out.size
 clear KL2 hb7
 cases b
 ·have HRN:Hid (R=none):=I (by have:=HO.out.1.1;cases R <;> first | rfl | cases this)
  have hn0:=HO.out.2 rfl
  subst hn0
  clear HO
  go_wp2
  go_loopw [16,17] (fun f i wt=>i=.int .i64 0∧∃b,f=.bool b∧Hid (Below w.heap.size w wt)) (fun f i wt=>0)
  case atStart=>exact ⟨rfl,true,rfl,HB7⟩
  case round =>
   obtain ⟨rfl,f,rfl,HB⟩:=hrel
   go_wp2
   try simp only [Exit.inBlock,Exit.then]
   refine bodyPost_ret (v:=.tuple #[.slice la 0 c2,.float .f32 (dH BinOp.quo FloatKind.f32 z2 s wr),.bool f,.bool false]) (by simp [results,Tryz.results30,go_sem]) rfl ?_
   exact ScOut.none HRN.out rfl (below_drewN HB.out _)
 ·obtain ⟨zs,hr,hzl,hL⟩:=HO.out.1.2 rfl
  have HRL:=I hL;have HZ2:=I hzl;have HX7:=I hr
  have hlen:=hr.len
  have HZL:=I hlen
  have hn3:n≤3072:=by
   have h:=HLB.out
   rw [hL] at h
   have h2:(zs.map (cn .f32)).length≤3072:=h
   rw [List.length_map,hlen] at h2
   exact h2
  have HRI:=I HO.out.1.1
  clear HO hr hzl hL hlen
  go_wp2
  go_loopw [16,17] (fun f i wt => ∃k:Nat,i=.int .i64 k∧k≤n∧f=.bool ((zs.take k).all eT)∧Hid (∃us,RepF wt w6.heap.size w7.heap.size la n c2 us∧InPl (fun g=>dQ .quo .f32 g (cn .f32 s)) zs k us)∧Hid (Below w.heap.size w wt∧w7.heap.size≤wt.heap.size)) (fun f i wt=>n - (intOf i).toNat)
  case atStart=>exact ⟨0,rfl,Nat.zero_le _,rfl,I ⟨_,HX7.out,InPl.zero _ _⟩,I ⟨HB7.out,J _⟩⟩
  case round =>
   obtain ⟨k,rfl,hk,rfl,HY,HB⟩:=hrel
   by_cases hlt:k < n
   ·obtain ⟨us,hr,hip⟩:=HY.out
    obtain ⟨x,hx⟩:=getElem?_lt (show k < zs.length by rw [HZL.out];exact hlt)
    have HXX:=I hx
    have HTK:=I (show (zs.take (k+1)).all eT=((zs.take k).all eT && eT x) by
     rw [List.take_add_one,hx,List.all_append];simp)
    obtain ⟨g',rfl,hge,hcc,hf,-⟩:=hr.open (by omega)
    have hck:=hcc k hlt
    rw [hip.at' hx] at hck
    have hgl:g' < wr.heap.size:=(hr.row.own.lt g' rfl).2
    have HRR:=I hr;have HIP:=I hip
    clear hx hcc hr hip hf HY
    cases eF:(zs.take k).all eT
    ·rw [eF] at HTK
     have hf:=(HRR.out.row.own.frozenAt k)
     go_wp2
     refine ⟨?rel,?measure⟩
     case rel =>
      have hb1:=below_drewN (O wr.heap.size wr) (sZ BinOp.quo FloatKind.f32 x s)
      exact ⟨k+1,by go_num,hlt,by rw [HTK.out];rfl,I ⟨_,(HRR.out.below hb1).setAt k _ (bL _ .f32 _ _ _) (by omega),HIP.out.set HXX.out (by rw [bE])⟩,I ⟨(aA HB.out.1 hb1).setCell (p:=⟨g',k,none⟩) (Nat.le_trans hs6 hge) _,by simpa [World.setCell] using HB.out.2⟩⟩
     case measure=>simp [intOf];omega
    ·rw [eF] at HTK
     have KF:=I (fun W=>jI x W)
     go_wp2_with fail
     refine (KF.out _).mono ?_
     rintro e w8 ⟨rfl,hd⟩
     have HR8:=I (HRR.out.below hd.below)
     have HB8:=I (And.intro (aA HB.out.1 hd.below) (Nat.le_trans HB.out.2 hd.below.size))
     clear hd HRR hck KF
     obtain ⟨g2,e2,-,hcc,hf,-⟩:=HR8.out.open (by omega)
     cases e2
     have hck:=hcc k hlt
     rw [HIP.out.at' HXX.out] at hck
     have hfk:=hf k
     have hgl8:g' < w8.heap.size:=(HR8.out.row.own.lt g' rfl).2
     clear hcc hf
     go_wp2
     refine ⟨?rel,?measure⟩
     case rel =>
      have hb1:=below_drewN (O w8.heap.size w8) (sZ BinOp.quo FloatKind.f32 x s)
      exact ⟨k+1,by go_num,hlt,by rw [HTK.out];rfl,I ⟨_,(HR8.out.below hb1).setAt k _ (bL _ .f32 _ _ _) (by omega),HIP.out.set HXX.out (by rw [bE])⟩,I ⟨(aA HB8.out.1 hb1).setCell (p:=⟨g',k,none⟩) (Nat.le_trans hs6 hge) _,by simpa [World.setCell] using HB8.out.2⟩⟩
     case measure=>simp [intOf];omega
   ·have e:k=n:=by omega
    subst e
    obtain ⟨us,hr,hip⟩:=HY.out
    have HE:=I (hip.all HZL.out.symm)
    have HT:=I (show zs.take k=zs by rw [←HZL.out];exact List.take_length)
    have HRR:=I hr
    clear hr hip HY
    rw [HT.out]
    go_wp2
    try simp only [Exit.inBlock,Exit.then]
    refine bodyPost_ret (v:=.tuple #[.slice la k c2,.float .f32 (dH BinOp.quo FloatKind.f32 z2 s wr),.bool (zs.all eT),.bool true]) (by simp [results,Tryz.results30,go_sem]) rfl ?_
    have hb1:=below_drewN (O wr.heap.size wr) (sZ BinOp.quo FloatKind.f32 z2 s)
    refine ⟨_,_,_,_,_,_,rfl,I ⟨HRI.out,fun _=>⟨us,(HRR.out.below hb1).bounds hs6 (by simpa using HB.out.2),bL _ .f32 _ _ _,?_,?_⟩⟩,aA HB.out.1 hb1⟩
    ·rw [lV HRL.out,HE.out,bE]
    ·rw [lV HRL.out,rV]
def EZ (Lc:List LayP) (R:Option (List OpP × List Int)) (c s:Nat) (g q:Int) (r:Nat) (w:World) (e:Ending) (w':World):Prop:=∃ad n cap s' g' q' f b us,e=.returned (.tuple #[.agg #[.slice ad n cap],.agg #[.float .f32 s',.int .i64 g',.int .i64 q'],.bool f,.bool b]) ∧
 Hid (b=R.isSome∧OwnR aX w' w.heap.size w'.heap.size ad n cap us∧(b=true→(f=(dD R c).2∧(s',g',q')=sK R c s g q)∧us.map (fun l=>l.toLayP.can)=lX Lc R c r))∧Below w.heap.size w w'
theorem qV {B:Nat} {w V:World} (h:Below B w V):Below B w V.drew:=Below.drew h
theorem Am (w:World) (c1 c2 c3:Array Value) (t1 t2 t3:TypeId) :
  ∃W,W=((w.alloc (.cells c1 t1)).alloc (.cells c2 t2)).alloc (.cells c3 t3) ∧
   W.heap.size=w.heap.size+1+1+1∧Below w.heap.size w W ∧
   (BoxN W w.heap.size c1.toList∧BoxN W (w.heap.size+1) c2.toList∧BoxN W (w.heap.size+1+1) c3.toList):=by
 refine ⟨_,rfl,by simp,dE _ _ _ _,?_⟩
 have a1:=BoxN.alloc w c1 t1
 have a2:=BoxN.alloc (w.alloc (.cells c1 t1)) c2 t2
 have a3:=BoxN.alloc ((w.alloc (.cells c1 t1)).alloc (.cells c2 t2)) c3 t3
 have e1:(w.alloc (.cells c1 t1)).heap.size=w.heap.size+1:=by simp
 have e2:((w.alloc (.cells c1 t1)).alloc (.cells c2 t2)).heap.size=w.heap.size+1+1:=by simp
 rw [e1] at a2;rw [e2] at a3
 exact ⟨(a1.below (aE _ _)).below (aE _ _),a2.below (aE _ _),a3⟩
theorem yR (w:World) (mb mo xb xo yb yo:Nat) (ma:Option Addr) (mk:Nat) (ls:List LayD) (s:Nat) (gg qq:Int) (xr xc yr yc:Int) (xa ya:Option Addr) (xk yk:Nat) (xs ys:List Nat) (r:Nat) (hs:s < 4294967296) (hv:aW s gg qq=true)
  (hbm:mb < w.heap.size) (hbx:xb < w.heap.size) (hby:yb < w.heap.size)
  (hm:w.cell? ⟨mb,mo,none⟩=some (.slice ma ls.length mk)) (hls:SeeR aX w ma mk ls) (hnil:nilL ls)
  (hx0:w.cell? ⟨xb,xo,none⟩=some (.int .i64 xr)) (hx1:w.cell? ⟨xb,xo+1,none⟩=some (.int .i64 xc)) (hx2:w.cell? ⟨xb,xo+2,none⟩=some (.slice xa xs.length xk)) (hx:F32s w xa xk xs)
  (hy0:w.cell? ⟨yb,yo,none⟩=some (.int .i64 yr)) (hy1:w.cell? ⟨yb,yo+1,none⟩=some (.int .i64 yc)) (hy2:w.cell? ⟨yb,yo+2,none⟩=some (.slice ya ys.length yk)) (hy:F32s w ya yk ys) (hxy:xb≠yb) :
  Calls Tryz.prog 42 #[.pointer (some ⟨mb,mo,none⟩),.agg #[.float .f32 s,.int .i64 gg,.int .i64 qq],.pointer (some ⟨xb,xo,none⟩),.pointer (some ⟨yb,yo,none⟩),.float .f32 r] w (EZ (ls.map fun l=>l.toLayP.can) (eI (ls.map fun l=>l.toLayP.can) ⟨xr,xc,xs.map (cn .f32)⟩ ⟨yr,yc,ys.map (cn .f32)⟩ ys.length s) (cn .f32 s) s gg qq (cn .f32 r) w):=by
 obtain ⟨W3,hW3,hsz,hb3,bs,br,bt⟩:=Am w #[.float .f32 s,.int .i64 gg,.int .i64 qq] #[.slice none 0 0] #[.float .f32 0,.int .i64 0,.int .i64 0] 50 35 50
 have BS:=I bs;have BR:=I br;have BT:=I bt
 have HW3:=I hW3;have HB3:=I hb3
 have HLS:=I (hls.below hb3);have HNIL:=I hnil
 have HM:=I (fun W (hb:Below w.heap.size w W)=>(hb.cell (p:=⟨mb,mo,none⟩) hbm).trans hm)
 have hsc:bR s=true:=(fG hv).1
 have KG0:=nJ W3 mb mo xb xo yb yo ma mk ls xr xc yr yc xa ya xk yk xs ys s hs (Nat.lt_of_lt_of_le hbm hb3.size) (Nat.lt_of_lt_of_le hbx hb3.size) (Nat.lt_of_lt_of_le hby hb3.size) ((hb3.cell (p:=⟨mb,mo,none⟩) hbm).trans hm) (hls.below hb3) ((hb3.cell (p:=⟨xb,xo,none⟩) hbx).trans hx0) ((hb3.cell (p:=⟨xb,xo+1,none⟩) hbx).trans hx1) ((hb3.cell (p:=⟨xb,xo+2,none⟩) hbx).trans hx2) (hx.below hb3) ((hb3.cell (p:=⟨yb,yo,none⟩) hby).trans hy0) ((hb3.cell (p:=⟨yb,yo+1,none⟩) hby).trans hy1) ((hb3.cell (p:=⟨yb,yo+2,none⟩) hby).trans hy2) (hy.below hb3) hxy
 rw [←kW hsc] at KG0
 obtain ⟨Lc,hLc⟩:∃Lc,Lc=ls.map fun l=>l.toLayP.can:=⟨_,rfl⟩
 rw [←hLc] at KG0 ⊢
 have HLc:=I hLc
 obtain ⟨R,hR⟩:∃R,R=eI Lc ⟨xr,xc,xs.map (cn .f32)⟩ ⟨yr,yc,ys.map (cn .f32)⟩ ys.length s:=⟨_,rfl⟩
 rw [←hR] at KG0 ⊢
 have HR:=I hR
 have KG:=I KG0
 have HV:=I hv
 clear KG0 hLc hls hx hy hnil hb3 hW3 hR bs br bt hv hsc hx0 hx1 hx2 hy0 hy1 hy2 hxy hbx hby hm
 go_enter Tryz.func42,Tryz.ntmps42
 go_upto_region 1 with fail
 rw [←HW3.out]
 obtain ⟨-,s0,s1,s2,-⟩:=BS.out.three
 go_wp2_with fail
 refine KG.out.mono ?_
 rintro e w8 ⟨la,n,c2,z,f,b,rfl,HO,hb⟩
 have HB8:=I hb
 clear hb KG s0 s1 s2
 obtain ⟨-,s0,s1,s2,-⟩:=(BS.out.below HB8.out).three
 cases b
 ·have HRN:Hid (R=none):=I (by have:=HO.out.1;cases R <;> first | rfl | cases this)
  clear HO HR
  have hq1:w.heap.size≤w.heap.size+1:=by omega
  have hq2:w.heap.size≤w.heap.size+1+1:=by omega
  have hq3:w.heap.size+1 < W3.heap.size:=by omega
  have hq4:w.heap.size+1+1 < W3.heap.size:=by omega
  have hq6:w.heap.size≤W3.heap.size:=HB3.out.size
  clear hsz
  have n1:¬ w.heap.size=w.heap.size+1:=by omega
  have n2:¬ w.heap.size=w.heap.size+1+1:=by omega
  have n11:¬ w.heap.size+1=w.heap.size+1+1:=by omega
  generalize w.heap.size+1+1=tB at BT n2 n11 hq2 hq4 ⊢
  generalize w.heap.size+1=rB at BR n1 n11 hq1 hq3 ⊢
  have n7:=Ne.symm n1;have n8:=Ne.symm n2;have n12:=Ne.symm n11
  obtain ⟨hlr,r0,rf⟩:=(BR.out.below HB8.out).one1
  obtain ⟨hlt,t0,t1,t2,tf⟩:=(BT.out.below HB8.out).three
  have f0:=rf 0;have g0:=tf 0;have g1:=tf 1;have g2:=tf 2
  clear rf tf
  go_wp2
  go_region_held3 (fun w'=>(w'.cell? ⟨w.heap.size,0,none⟩=some (.float .f32 s)∧w'.cell? ⟨w.heap.size,1,none⟩=some (.int .i64 gg)∧w'.cell? ⟨w.heap.size,2,none⟩=some (.int .i64 qq))) (go_keep) (first | fail)
  go_wp2
  try simp only [Exit.inBlock,Exit.then]
  refine bodyPost_ret (v:=.tuple #[.agg #[.slice none 0 0],.agg #[.float .f32 s,.int .i64 gg,.int .i64 qq],.bool false,.bool false]) (by simp [results,Tryz.results42,go_sem,r0,t0,t1,t2,hlr,hlt,n11,n12]) rfl ?_
  refine ⟨none,0,0,_,_,_,_,_,[],rfl,I ⟨by rw [HRN.out];rfl,OwnR.nil _ _ _ _,fun h=>(by cases h)⟩,?_⟩
  exact qV (Below.setCell (p:=⟨tB,2,none⟩) (Below.setCell (p:=⟨tB,1,none⟩) (Below.setCell (p:=⟨tB,0,none⟩) (Below.setCell (p:=⟨rB,0,none⟩) (aA HB3.out HB8.out) hq1 _) hq2 _) hq2 _) hq2 _)
 have hRs:R.isSome=true:=HO.out.1.symm
 have hM:dG (ls.map LayD.toLayP)=true:=iJ (by rw [←HLc.out,←HR.out];exact hRs)
 obtain ⟨hl6,hlens⟩:=iI hM
 obtain ⟨ds,hdr,hzl,hD,hF⟩:=HO.out.2 rfl
 obtain ⟨L,hL⟩:∃L,L=ls.map LayD.toLayP:=⟨_,rfl⟩
 have HLC:=I (show Lc=L.map LayP.can by rw [HLc.out,hL,List.map_map];rfl)
 have hcnt:dC L≤432:=by have:=pP ls hlens;rw [←hL] at this;omega
 have hdl:ds.length=dC L:=by
  have h1:=uP (c:=cn .f32 s) HR.out hRs
  rw [←congrArg Prod.fst hD,List.length_map,HLC.out,Aa] at h1
  exact h1
 have HRS:=I hRs
 have HF:=I hF
 have HD:=I (congrArg Prod.fst hD)
 have HDR:=I hdr
 have hnl:n=dC L:=by rw [←hdr.len,hdl]
 have K1:=I (kH w8 ma mk ls (HLS.out.below HB8.out) HNIL.out hM)
 have K2:=I (fun W (hb:Below W3.heap.size W3 W) b off ck xs h1 h2 h3=>iV W ma mk ls b off ck xs (HLS.out.below hb) HNIL.out hM h1 h2 h3)
 have K3:=I (fun W f=>Cj s hs gg qq f HV.out W)
 rw [←hL] at K1 K2
 have HNL:=I hnl
 have HDL:=I hdl
 have hn4:n≤432:=by omega
 have hmm:=HM.out w8 (aA HB3.out HB8.out)
 clear HO hRs hM hl6 hlens hL hs HV HR hnl hdl hcnt hdr hzl hD hF
 go_wp2_with fail
 refine K1.out.mono ?_
 rintro e w9 ⟨g3,n3,c3,rfl,HP,hb9⟩
 have HB9:=I (aA HB8.out hb9)
 obtain rfl:n3=n:=by rw [←HP.out.len,HNL.out];rfl
 have hge3:w8.heap.size≤g3:=(HP.out.row.own.lt g3 rfl).1
 have HBB:=I hb9
 have hs8:=HB8.out.size
 have hs9:=hb9.size
 clear hb9 K1 hmm s0 s1 s2
 cases f
 ·go_wp2
  go_loopw [20] (fun i wt=>i=.int .i64 0∧wt=w9) (fun i wt=>0)
  case atStart=>exact ⟨rfl,rfl⟩
  case round =>
   obtain ⟨rfl,rfl⟩:=hrel
   by_cases hz:(0:Int) < (n3:Int)
   ·have HYY:Hid (RepF wr w8.heap.size wr.heap.size (some ⟨g3,0,none⟩) n3 c3 (aM L)∧(aM L).map (cn .f32)=nI false (aM Lc) (dD R (cn .f32 s)).1.1 (cn .f32 r)):=I ⟨HP.out,by rw [fE,←HLC.out];rfl⟩
    have hgl:g3 < wr.heap.size:=(HYY.out.1.row.own.lt g3 rfl).2
    have hyl:(aM L).length=n3:=HYY.out.1.len
    have KW:=I (K2.out wr HB9.out g3 0 c3 (aM L) HYY.out.1.arg hgl (by rw [hyl,HNL.out]))
    rw [hyl] at KW
    have HML:=I (show (cT L (aM L)).map LayP.can=lX Lc R (cn .f32 s) (cn .f32 r) by
     rw [jC,HYY.out.2,←HLC.out]
     unfold lX
     rw [if_pos HRS.out,←HF.out])
    have hmm:=HM.out wr (aA HB3.out HB9.out)
    have hsW:=HB9.out.size
    clear K2 hyl hgl
    go_wp2_with fail
    refine KW.out.mono ?_
    rintro e w11 ⟨ad,m,cap,us,rfl,HU,hb11⟩
    have HB11:=I (aA HB9.out hb11)
    have HU11:=I (HU.out.2.below (aE w11 (.cells #[.slice ad m cap] 35)))
    have HUC:=I HU.out.1
    have B21:=I (BoxN.alloc w11 #[.slice ad m cap] 35)
    have HB12:=I (aA HB11.out (aE w11 (.cells #[.slice ad m cap] 35)))
    have hs11:=HB11.out.size
    have hh11:=hb11.size
    have hh12:w11.heap.size≤(w11.alloc (.cells #[.slice ad m cap] 35)).heap.size:=by simp
    clear hb11 HU KW hmm
    have hq1:w.heap.size≤w.heap.size+1:=by omega
    have hq2:w.heap.size≤w.heap.size+1+1:=by omega
    have hq3:w.heap.size+1 < W3.heap.size:=by omega
    have hq4:w.heap.size+1+1 < W3.heap.size:=by omega
    have hq6:w.heap.size≤W3.heap.size:=HB3.out.size
    clear hsz
    have n1:¬ w.heap.size=w.heap.size+1:=by omega
    have n2:¬ w.heap.size=w.heap.size+1+1:=by omega
    have n11:¬ w.heap.size+1=w.heap.size+1+1:=by omega
    have nb1:¬ w11.heap.size=w.heap.size+1:=by omega
    have nb2:¬ w11.heap.size=w.heap.size+1+1:=by omega
    go_upto_region 10 with fail
    generalize w11.alloc (.cells #[.slice ad m cap] 35)=w12 at HU11 B21 HB12 hh12 ⊢
    have HK12:=I hh12;have HK11:=I hh11
    obtain ⟨-,m0,-⟩:=B21.out.one1
    obtain ⟨-,s0,s1,s2,-⟩:=(BS.out.below HB12.out).three
    generalize w11.heap.size=bB at B21 nb1 nb2 m0 hs11 hh11 hh12 ⊢
    generalize w.heap.size+1+1=tB at BT n2 n11 hq2 hq4 nb2 ⊢
    generalize w.heap.size+1=rB at BR n1 n11 hq1 hq3 nb1 ⊢
    have n7:=Ne.symm n1;have n8:=Ne.symm n2;have n12:=Ne.symm n11
    have nb3:=Ne.symm nb1;have nb4:=Ne.symm nb2
    go_region_held3 (fun w'=>w'.cell? ⟨bB,0,none⟩=some (.slice ad m cap)∧w'.cell? ⟨w.heap.size,0,none⟩=some (.float .f32 s)∧w'.cell? ⟨w.heap.size,1,none⟩=some (.int .i64 gg)∧w'.cell? ⟨w.heap.size,2,none⟩=some (.int .i64 qq)) (go_keep)
     (first
       | (go_at_call 75;refine (K3.out _ false).mono ?_;rintro e w13 ⟨rfl,hb13⟩;have HB13:=I (aA HB12.out (cL hb13));have hs13:=(cL hb13).size;have HU13:=I (HU11.out.below (cL hb13));have m9:=(B21.out.below (cL hb13)).one1.2.1;clear hb13 s0 s1 s2 m0;have m0:=m9;clear m9;obtain ⟨-,s0,s1,s2,-⟩:=(BS.out.below HB13.out).three;obtain ⟨hlr,r0,rf⟩:=(BR.out.below HB13.out).one1;obtain ⟨hlt,t0,t1,t2,tf⟩:=(BT.out.below HB13.out).three;have f0:=rf 0;have g0:=tf 0;have g1:=tf 1;have g2:=tf 2;clear rf tf))
    go_wp2
    try simp only [Exit.inBlock,Exit.then]
    refine bodyPost_ret (v:=.tuple #[.agg #[.slice ad m cap],.agg #[.float .f32 (nS s gg qq false),.int .i64 (nG s gg qq false),.int .i64 (nQ s gg qq)],.bool false,.bool true]) (by simp [results,Tryz.results42,go_sem,r0,t0,t1,t2,hlr,hlt,n11,n12]) rfl ?_
    have hk12:=HK12.out;have hk11:=HK11.out
    have u1:Touch rB (rB+1) w13 (w13.setCell ⟨rB,0,none⟩ (.slice ad m cap)):=Touch.setCell (J _) (Nat.lt_succ_self _)
    have u2:∀(V:World) k v,Touch tB (tB+1) V (V.setCell ⟨tB,k,none⟩ v):=fun V k v=>Touch.setCell (J _) (Nat.lt_succ_self _)
    refine ⟨ad,m,cap,_,_,_,_,_,us,rfl,I ⟨HRS.out.symm,?_,fun _=>⟨⟨HF.out,?_⟩,HUC.out.trans HML.out⟩⟩,?_⟩
    ·exact (((((HU13.out.touch u1 (.inr (by omega))).touch (u2 _ _ _) (.inr (by omega))).touch (u2 _ _ _) (.inr (by omega))).touch (u2 _ _ _) (.inr (by omega))).bounds (by omega) (by simp [World.setCell];omega))
    ·unfold sK;rw [if_pos HRS.out,←HF.out]
    ·exact Below.setCell (p:=⟨tB,2,none⟩) (Below.setCell (p:=⟨tB,1,none⟩) (Below.setCell (p:=⟨tB,0,none⟩) (Below.setCell (p:=⟨rB,0,none⟩) (aA HB3.out HB13.out) hq1 _) hq2 _) hq2 _) hq2 _
   ·have HYY:Hid (RepF wr w8.heap.size wr.heap.size (some ⟨g3,0,none⟩) n3 c3 (aM L)∧(aM L).map (cn .f32)=nI false (aM Lc) (dD R (cn .f32 s)).1.1 (cn .f32 r)):=I ⟨HP.out,by rw [fE,←HLC.out];rfl⟩
    have hgl:g3 < wr.heap.size:=(HYY.out.1.row.own.lt g3 rfl).2
    have hyl:(aM L).length=n3:=HYY.out.1.len
    have KW:=I (K2.out wr HB9.out g3 0 c3 (aM L) HYY.out.1.arg hgl (by rw [hyl,HNL.out]))
    rw [hyl] at KW
    have HML:=I (show (cT L (aM L)).map LayP.can=lX Lc R (cn .f32 s) (cn .f32 r) by
     rw [jC,HYY.out.2,←HLC.out]
     unfold lX
     rw [if_pos HRS.out,←HF.out])
    have hmm:=HM.out wr (aA HB3.out HB9.out)
    have hsW:=HB9.out.size
    clear K2 hyl hgl
    go_wp2_with fail
    refine KW.out.mono ?_
    rintro e w11 ⟨ad,m,cap,us,rfl,HU,hb11⟩
    have HB11:=I (aA HB9.out hb11)
    have HU11:=I (HU.out.2.below (aE w11 (.cells #[.slice ad m cap] 35)))
    have HUC:=I HU.out.1
    have B21:=I (BoxN.alloc w11 #[.slice ad m cap] 35)
    have HB12:=I (aA HB11.out (aE w11 (.cells #[.slice ad m cap] 35)))
    have hs11:=HB11.out.size
    have hh11:=hb11.size
    have hh12:w11.heap.size≤(w11.alloc (.cells #[.slice ad m cap] 35)).heap.size:=by simp
    clear hb11 HU KW hmm
    have hq1:w.heap.size≤w.heap.size+1:=by omega
    have hq2:w.heap.size≤w.heap.size+1+1:=by omega
    have hq3:w.heap.size+1 < W3.heap.size:=by omega
    have hq4:w.heap.size+1+1 < W3.heap.size:=by omega
    have hq6:w.heap.size≤W3.heap.size:=HB3.out.size
    clear hsz
    have n1:¬ w.heap.size=w.heap.size+1:=by omega
    have n2:¬ w.heap.size=w.heap.size+1+1:=by omega
    have n11:¬ w.heap.size+1=w.heap.size+1+1:=by omega
    have nb1:¬ w11.heap.size=w.heap.size+1:=by omega
    have nb2:¬ w11.heap.size=w.heap.size+1+1:=by omega
    go_upto_region 10 with fail
    generalize w11.alloc (.cells #[.slice ad m cap] 35)=w12 at HU11 B21 HB12 hh12 ⊢
    have HK12:=I hh12;have HK11:=I hh11
    obtain ⟨-,m0,-⟩:=B21.out.one1
    obtain ⟨-,s0,s1,s2,-⟩:=(BS.out.below HB12.out).three
    generalize w11.heap.size=bB at B21 nb1 nb2 m0 hs11 hh11 hh12 ⊢
    generalize w.heap.size+1+1=tB at BT n2 n11 hq2 hq4 nb2 ⊢
    generalize w.heap.size+1=rB at BR n1 n11 hq1 hq3 nb1 ⊢
    have n7:=Ne.symm n1;have n8:=Ne.symm n2;have n12:=Ne.symm n11
    have nb3:=Ne.symm nb1;have nb4:=Ne.symm nb2
    go_region_held3 (fun w'=>w'.cell? ⟨bB,0,none⟩=some (.slice ad m cap)∧w'.cell? ⟨w.heap.size,0,none⟩=some (.float .f32 s)∧w'.cell? ⟨w.heap.size,1,none⟩=some (.int .i64 gg)∧w'.cell? ⟨w.heap.size,2,none⟩=some (.int .i64 qq)) (go_keep)
     (first
       | (go_at_call 75;refine (K3.out _ false).mono ?_;rintro e w13 ⟨rfl,hb13⟩;have HB13:=I (aA HB12.out (cL hb13));have hs13:=(cL hb13).size;have HU13:=I (HU11.out.below (cL hb13));have m9:=(B21.out.below (cL hb13)).one1.2.1;clear hb13 s0 s1 s2 m0;have m0:=m9;clear m9;obtain ⟨-,s0,s1,s2,-⟩:=(BS.out.below HB13.out).three;obtain ⟨hlr,r0,rf⟩:=(BR.out.below HB13.out).one1;obtain ⟨hlt,t0,t1,t2,tf⟩:=(BT.out.below HB13.out).three;have f0:=rf 0;have g0:=tf 0;have g1:=tf 1;have g2:=tf 2;clear rf tf))
    go_wp2
    try simp only [Exit.inBlock,Exit.then]
    refine bodyPost_ret (v:=.tuple #[.agg #[.slice ad m cap],.agg #[.float .f32 (nS s gg qq false),.int .i64 (nG s gg qq false),.int .i64 (nQ s gg qq)],.bool false,.bool true]) (by simp [results,Tryz.results42,go_sem,r0,t0,t1,t2,hlr,hlt,n11,n12]) rfl ?_
    have hk12:=HK12.out;have hk11:=HK11.out
    have u1:Touch rB (rB+1) w13 (w13.setCell ⟨rB,0,none⟩ (.slice ad m cap)):=Touch.setCell (J _) (Nat.lt_succ_self _)
    have u2:∀(V:World) k v,Touch tB (tB+1) V (V.setCell ⟨tB,k,none⟩ v):=fun V k v=>Touch.setCell (J _) (Nat.lt_succ_self _)
    refine ⟨ad,m,cap,_,_,_,_,_,us,rfl,I ⟨HRS.out.symm,?_,fun _=>⟨⟨HF.out,?_⟩,HUC.out.trans HML.out⟩⟩,?_⟩
    ·exact (((((HU13.out.touch u1 (.inr (by omega))).touch (u2 _ _ _) (.inr (by omega))).touch (u2 _ _ _) (.inr (by omega))).touch (u2 _ _ _) (.inr (by omega))).bounds (by omega) (by simp [World.setCell];omega))
    ·unfold sK;rw [if_pos HRS.out,←HF.out]
    ·exact Below.setCell (p:=⟨tB,2,none⟩) (Below.setCell (p:=⟨tB,1,none⟩) (Below.setCell (p:=⟨tB,0,none⟩) (Below.setCell (p:=⟨rB,0,none⟩) (aA HB3.out HB13.out) hq1 _) hq2 _) hq2 _) hq2 _
 ·-- the parameters are changed in place
  have HDC:=I (show (dD R (cn .f32 s)).1.1=ds.map (cn .f32) from HD.out.symm)
  have HPC:=I (show (aM L).map (cn .f32)=aM Lc by rw [fE,←HLC.out])
  have hdl:ds.length=n3:=by rw [HDL.out,HNL.out]
  have hpl:(aM L).length=n3:=by rw [HNL.out];rfl
  have HDLN:=I hdl;have HPLN:=I hpl
  have HTL:=I (show (nI true (aM Lc) (dD R (cn .f32 s)).1.1 (cn .f32 r)).length≤n3 by
   rw [uO (by rw [HDC.out,List.length_map,←HPC.out,List.length_map,hdl,hpl]),←HPC.out,List.length_map,hpl];exact J _)
  clear hdl hpl
  go_wp2
  go_loopw [20] (fun q wt => ∃k:Nat,q=.int .i64 k∧k≤n3∧Hid (∃us,RepF wt w8.heap.size w9.heap.size (some ⟨g3,0,none⟩) n3 c3 us∧InPlT (nI true (aM Lc) (dD R (cn .f32 s)).1.1 (cn .f32 r)) (aM L) k us)∧Hid (Below w8.heap.size w8 wt∧w9.heap.size≤wt.heap.size)) (fun q wt=>n3 - (intOf q).toNat)
  case atStart=>exact ⟨0,rfl,Nat.zero_le _,I ⟨_,HP.out,InPlT.zero _ _⟩,I ⟨HBB.out,J _⟩⟩
  case round =>
   obtain ⟨k,rfl,hk,HYS,HBW⟩:=hrel
   by_cases hlt:k < n3
   ·obtain ⟨us,hr,hip⟩:=HYS.out
    obtain ⟨x,hx⟩:=getElem?_lt (show k < (aM L).length by rw [HPLN.out];exact hlt)
    obtain ⟨d,hd⟩:=getElem?_lt (show k < ds.length by rw [HDLN.out];exact hlt)
    have HTK:=I (show (nI true (aM Lc) (dD R (cn .f32 s)).1.1 (cn .f32 r))[k]? = some (dQ .sub .f32 (cn .f32 x) (dQ .mul .f32 (cn .f32 r) (cn .f32 d))) from
     Bl (by rw [←HPC.out,List.getElem?_map,hx];rfl) (by rw [HDC.out,List.getElem?_map,hd];rfl))
    have HXX:=I hx
    obtain ⟨g',e1,-,hcc,hf,-⟩:=hr.open (by omega)
    cases e1
    have hck:=hcc k hlt
    rw [hip.at' hx] at hck
    have hdr:=HDR.out.below HBW.out.1
    obtain ⟨g4,e4,-,hcd,-,-⟩:=hdr.open (by omega)
    have hdk:=hcd k hlt
    rw [List.getD_eq_getElem?_getD,hd] at hdk
    simp only [Option.getD_some] at hdk
    subst e4
    have hfk:=hf k
    have hgl:g3 < wr.heap.size:=(hr.row.own.lt g3 rfl).2
    have HRR:=I hr;have HIP:=I hip
    clear hx hd hcc hr hip hf HYS hdr hcd
    go_wp2
    refine mA 14 _ (fun _ _ _=>False) (by kernel_rfl) (by kernel_rfl) rfl rfl (fun _ _ _ h=>h) ?_
    go_simp
    repeat (refine aV (fun K hK nq=>?_);go_simp;refine hK _ ?_;clear hK K)
    generalize hy:dH BinOp.sub FloatKind.f32 x _ _ = y
    have hyc:cn .f32 y=dQ .sub .f32 (cn .f32 x) (dQ .mul .f32 (cn .f32 r) (cn .f32 d)):=by rw [←hy,bE,bE]
    have hyl:y < 4294967296:=by rw [←hy];exact bL _ .f32 _ _ _
    have HYC:=I hyc;clear hyc hy
    refine bD ?_
    rintro w' hw'
    obtain ⟨q9,rfl⟩:=hw'
    go_wp2
    refine ⟨?rel,?measure⟩
    case rel =>
     have hb1:=below_drewN (O wr.heap.size wr) q9
     exact ⟨k+1,by go_num,hlt,I ⟨_,(HRR.out.below hb1).setAt k y hyl (by omega),HIP.out.set HXX.out (by rw [HTK.out,HYC.out])⟩,I ⟨(aA HBW.out.1 hb1).setCell (p:=⟨g3,k,none⟩) hge3 _,by simpa [World.setCell] using HBW.out.2⟩⟩
    case measure=>simp [intOf];omega
   ·have e:k=n3:=by omega
    subst e
    obtain ⟨us0,hr,hip⟩:=HYS.out
    have hE:=hip.all HPLN.out.symm HTL.out
    have HBWW:=I (aA HB8.out HBW.out.1)
    have HYY:Hid (RepF wr w8.heap.size w9.heap.size (some ⟨g3,0,none⟩) k c3 us0∧us0.map (cn .f32)=nI true (aM Lc) (dD R (cn .f32 s)).1.1 (cn .f32 r)):=I ⟨hr,hE⟩
    have hgl:g3 < wr.heap.size:=(HYY.out.1.row.own.lt g3 rfl).2
    have hyl:us0.length=k:=HYY.out.1.len
    have KW:=I (K2.out wr HBWW.out g3 0 c3 us0 HYY.out.1.arg hgl (by rw [hyl,HNL.out]))
    rw [hyl] at KW
    have HML:=I (show (cT L us0).map LayP.can=lX Lc R (cn .f32 s) (cn .f32 r) by
     rw [jC,HYY.out.2,←HLC.out]
     unfold lX
     rw [if_pos HRS.out,←HF.out])
    have hmm:=HM.out wr (aA HB3.out HBWW.out)
    have hsW:=HBWW.out.size
    clear K2 hyl hgl
    go_wp2_with fail
    refine KW.out.mono ?_
    rintro e w11 ⟨ad,m,cap,us,rfl,HU,hb11⟩
    have HB11:=I (aA HBWW.out hb11)
    have HU11:=I (HU.out.2.below (aE w11 (.cells #[.slice ad m cap] 35)))
    have HUC:=I HU.out.1
    have B21:=I (BoxN.alloc w11 #[.slice ad m cap] 35)
    have HB12:=I (aA HB11.out (aE w11 (.cells #[.slice ad m cap] 35)))
    have hs11:=HB11.out.size
    have hh11:=hb11.size
    have hh12:w11.heap.size≤(w11.alloc (.cells #[.slice ad m cap] 35)).heap.size:=by simp
    clear hb11 HU KW hmm
    have hq1:w.heap.size≤w.heap.size+1:=by omega
    have hq2:w.heap.size≤w.heap.size+1+1:=by omega
    have hq3:w.heap.size+1 < W3.heap.size:=by omega
    have hq4:w.heap.size+1+1 < W3.heap.size:=by omega
    have hq6:w.heap.size≤W3.heap.size:=HB3.out.size
    clear hsz
    have n1:¬ w.heap.size=w.heap.size+1:=by omega
    have n2:¬ w.heap.size=w.heap.size+1+1:=by omega
    have n11:¬ w.heap.size+1=w.heap.size+1+1:=by omega
    have nb1:¬ w11.heap.size=w.heap.size+1:=by omega
    have nb2:¬ w11.heap.size=w.heap.size+1+1:=by omega
    go_upto_region 10 with fail
    generalize w11.alloc (.cells #[.slice ad m cap] 35)=w12 at HU11 B21 HB12 hh12 ⊢
    have HK12:=I hh12;have HK11:=I hh11
    obtain ⟨-,m0,-⟩:=B21.out.one1
    obtain ⟨-,s0,s1,s2,-⟩:=(BS.out.below HB12.out).three
    generalize w11.heap.size=bB at B21 nb1 nb2 m0 hs11 hh11 hh12 ⊢
    generalize w.heap.size+1+1=tB at BT n2 n11 hq2 hq4 nb2 ⊢
    generalize w.heap.size+1=rB at BR n1 n11 hq1 hq3 nb1 ⊢
    have n7:=Ne.symm n1;have n8:=Ne.symm n2;have n12:=Ne.symm n11
    have nb3:=Ne.symm nb1;have nb4:=Ne.symm nb2
    go_region_held3 (fun w'=>w'.cell? ⟨bB,0,none⟩=some (.slice ad m cap)∧w'.cell? ⟨w.heap.size,0,none⟩=some (.float .f32 s)∧w'.cell? ⟨w.heap.size,1,none⟩=some (.int .i64 gg)∧w'.cell? ⟨w.heap.size,2,none⟩=some (.int .i64 qq)) (go_keep)
     (first
       | (go_at_call 75;refine (K3.out _ true).mono ?_;rintro e w13 ⟨rfl,hb13⟩;have HB13:=I (aA HB12.out (cL hb13));have hs13:=(cL hb13).size;have HU13:=I (HU11.out.below (cL hb13));have m9:=(B21.out.below (cL hb13)).one1.2.1;clear hb13 s0 s1 s2 m0;have m0:=m9;clear m9;obtain ⟨-,s0,s1,s2,-⟩:=(BS.out.below HB13.out).three;obtain ⟨hlr,r0,rf⟩:=(BR.out.below HB13.out).one1;obtain ⟨hlt,t0,t1,t2,tf⟩:=(BT.out.below HB13.out).three;have f0:=rf 0;have g0:=tf 0;have g1:=tf 1;have g2:=tf 2;clear rf tf))
    go_wp2
    try simp only [Exit.inBlock,Exit.then]
    refine bodyPost_ret (v:=.tuple #[.agg #[.slice ad m cap],.agg #[.float .f32 (nS s gg qq true),.int .i64 (nG s gg qq true),.int .i64 (nQ s gg qq)],.bool true,.bool true]) (by simp [results,Tryz.results42,go_sem,r0,t0,t1,t2,hlr,hlt,n11,n12]) rfl ?_
    have hk12:=HK12.out;have hk11:=HK11.out
    have u1:Touch rB (rB+1) w13 (w13.setCell ⟨rB,0,none⟩ (.slice ad m cap)):=Touch.setCell (J _) (Nat.lt_succ_self _)
    have u2:∀(V:World) k v,Touch tB (tB+1) V (V.setCell ⟨tB,k,none⟩ v):=fun V k v=>Touch.setCell (J _) (Nat.lt_succ_self _)
    refine ⟨ad,m,cap,_,_,_,_,_,us,rfl,I ⟨HRS.out.symm,?_,fun _=>⟨⟨HF.out,?_⟩,HUC.out.trans HML.out⟩⟩,?_⟩
    ·exact (((((HU13.out.touch u1 (.inr (by omega))).touch (u2 _ _ _) (.inr (by omega))).touch (u2 _ _ _) (.inr (by omega))).touch (u2 _ _ _) (.inr (by omega))).bounds (by omega) (by simp [World.setCell];omega))
    ·unfold sK;rw [if_pos HRS.out,←HF.out]
    ·exact Below.setCell (p:=⟨tB,2,none⟩) (Below.setCell (p:=⟨tB,1,none⟩) (Below.setCell (p:=⟨tB,0,none⟩) (Below.setCell (p:=⟨rB,0,none⟩) (aA HB3.out HB13.out) hq1 _) hq2 _) hq2 _) hq2 _

end
section
open Go Go.RowKit Ieee
theorem oD {s:Nat} (h1:947912704≤s) (h2:s≤1266679808):bR s=true:=by
 have hi:single.infRung=2139095040:=by decide +kernel
 unfold bR
 rw [show FloatKind.f32.format.order s 947912704=some (compare s 947912704) from gP single (by omega) (by omega),show FloatKind.f32.format.order s 1266679808=some (compare s 1266679808) from gP single (by omega) (by omega)]
 by_cases e1:s=947912704
 ·subst e1;decide
 by_cases e2:s=1266679808
 ·subst e2;decide
 rw [Nat.compare_eq_gt.2 (show 947912704 < s by omega),Nat.compare_eq_lt.2 (show s < 1266679808 by omega)]
 rfl
theorem uS {s:Nat} (hs:s < 4294967296) (h:bR s=true):947912704≤s∧s≤1266679808:=by
 have hi:single.infRung=2139095040:=by decide +kernel
 unfold bR at h
 simp only [Bool.and_eq_true,Bool.or_eq_true,beq_iff_eq] at h
 exact xF (a:=947912704) (b:=1266679808) hs (by omega) (by omega) (by omega) h.1 h.2
theorem wT (s:Nat) (h:16777216≤s):dY single s=2 * dY single (s - 8388608):=by
 have hb:single.binade=8388608:=by decide +kernel
 unfold dY
 rw [hb,if_neg (by omega),if_neg (by omega),show (s - 8388608) % 8388608=s % 8388608 by omega,show s / 8388608 - 1=(s - 8388608) / 8388608 - 1+1 by omega,Nat.pow_succ]
 generalize 2 ^ ((s - 8388608) / 8388608 - 1)=t
 generalize 8388608+s % 8388608=u
 rw [←Nat.mul_assoc,Nat.mul_comm]
theorem wU (f:Format) {r:Nat} (h1:¬ r < f.binade) (h:r < f.infRung):∃m p,f.read (f.word false r)=.number false m p∧f.leastPlace≤p∧m * 2 ^ (p - f.leastPlace).toNat=dY f r∧m < 2 * f.binade∧m≠0:=by
 rw [gM f false (Nat.lt_trans h f.infRung_lt)]
 unfold dY
 rw [if_neg h1,if_pos h,if_neg h1]
 have hb:0 < f.binade:=Nat.two_pow_pos _
 have:=Nat.mod_lt r hb
 refine ⟨_,_,rfl,by omega,?_,by omega,by omega⟩
 congr 2
 omega
theorem Dg {s t:Bool} {m n d:Nat} {i j:Int} (hn:n≠0):(Datum.number s m i).quotient d (.number t n j)=some (.number (s ^^ t) (2 * (m <<< (d+n.log2 - m.log2) / n)+(m <<< (d+n.log2 - m.log2) % n != 0).toNat) (i - j - (d+n.log2 - m.log2:Nat) - 1)):=by
 simp only [Datum.quotient,if_neg hn]
theorem wV (r:Nat):(some (single.word false r)).getD (mI .f32)=r:=rfl
theorem Ck {s:Nat} (h1:947912704≤s) (h2:s≤1266679808):dQ .quo .f32 s 1073741824=s - 8388608:=by
 have hi:single.infRung=2139095040:=by decide +kernel
 have hb:single.binade=8388608:=by decide +kernel
 obtain ⟨m,p,e1,hp,e3,hm,hm0⟩:=wU single (r:=s) (by omega) (by omega)
 rw [show single.word false s=s from rfl] at e1
 have e2:single.read 1073741824=.number false 8388608 (-22):=by decide +kernel
 have hlg:(8388608:Nat).log2=23:=by decide +kernel
 have hfb:single.fractionBits+2=25:=by decide +kernel
 rw [wT s (by omega)] at e3
 have hm24:m < 16777216:=by omega
 clear hm
 have hl:m.log2 < 24:=(Nat.log2_lt hm0).2 (by simpa using hm24)
 obtain ⟨k,hk⟩:∃k,25+23 - m.log2=k+23:=⟨25 - m.log2,by omega⟩
 have hpw:(8388608:Nat)=2 ^ 23:=by decide
 generalize hN:(8388608:Nat)=N at e2 hlg hpw
 have hN0:N≠0:=by omega
 have hd:m <<< (k+23)=(m * 2 ^ k) * N:=by rw [Nat.shiftLeft_eq,Nat.pow_add,Nat.mul_assoc,hpw]
 have e4:floatBits .quo .f32 s 1073741824=some (single.nearest false (2 * (m * 2 ^ k)) (p+22 - (k+23:Nat) - 1)):=by
  show ((single.read s).quotient (single.fractionBits+2) (single.read 1073741824)).map single.write=some _
  rw [e1,e2,Dg hN0,hlg,hfb,hk,hd,Nat.mul_div_cancel _ (by omega),Nat.mul_mod_left,show p - -22=p+22 by omega]
  rfl
 unfold dQ
 rw [e4,rF single false (r:=s - 8388608) (a:=(p - single.leastPlace).toNat) (b:=k+2) (by omega) ?_ (by omega)]
 ·rw [←hN];exact wV _
 ·generalize dY single (s - 8388608)=x at e3
  rw [Nat.pow_add,show x * (2 ^ k * 2 ^ 2)=(2 * x) * (2 * 2 ^ k) by generalize 2 ^ k=y;rw [Nat.mul_comm 2 x,Nat.mul_assoc,←Nat.mul_assoc 2 2 y,Nat.mul_comm y],←e3]
  generalize 2 ^ (p - single.leastPlace).toNat=z
  generalize 2 ^ k=y
  rw [Nat.mul_left_comm 2 m y,Nat.mul_right_comm]
theorem AU {s:Nat} (hs:s < 4294967296) (h:bR s=true):bR (sA (dQ .quo .f32 s 1073741824))=true∧sA (dQ .quo .f32 s 1073741824) < 4294967296:=by
 have hi:single.infRung=2139095040:=by decide +kernel
 obtain ⟨h1,h2⟩:=uS hs h
 rw [Ck h1 h2]
 obtain ⟨a,ha⟩:∃a,a=s - 8388608:=⟨_,rfl⟩
 rw [←ha]
 unfold sA
 rw [show FloatKind.f32.format.order a 947912704=some (compare a 947912704) from gP single (by omega) (by omega)]
 by_cases e:a < 947912704
 ·rw [Nat.compare_eq_lt.2 e,if_pos (by decide)]
  exact ⟨by decide +kernel,by decide⟩
 ·rw [if_neg (by
   intro hc
   have hc2:compare a 947912704=.lt:=by simpa using hc
   exact e (Nat.compare_eq_lt.1 hc2))]
  exact ⟨oD (by omega) (by omega),by omega⟩
theorem Dh {m n:Nat} {i j:Int}:(Datum.number false m i).product (.number false n j)=some (.number false (m * n) (i+j)):=rfl
theorem AV {s:Nat} (h1:947912704≤s) (h2:s≤1266679808):dQ .mul .f32 s 1073741824=s+8388608:=by
 have hi:single.infRung=2139095040:=by decide +kernel
 have hb:single.binade=8388608:=by decide +kernel
 obtain ⟨m,p,e1,hp,e3,hm,hm0⟩:=wU single (r:=s) (by omega) (by omega)
 rw [show single.word false s=s from rfl] at e1
 have e2:single.read 1073741824=.number false 8388608 (-22):=by decide +kernel
 have hpw:(8388608:Nat)=2 * 2 ^ 22:=by decide
 have hx:=wT (s+8388608) (by omega)
 rw [Nat.add_sub_cancel] at hx
 have hr:s+8388608 < single.infRung:=by omega
 clear hm
 generalize hN:(8388608:Nat)=N at e2 hpw hx hr ⊢
 have e4:floatBits .mul .f32 s 1073741824=some (single.nearest false (m * N) (p + -22)):=by
  show ((single.read s).product (single.read 1073741824)).map single.write=some _
  rw [e1,e2,Dh];rfl
 unfold dQ
 rw [e4,rF single false (r:=s+N) (a:=(p - single.leastPlace).toNat) (b:=22) hr ?_ (by omega)]
 ·exact wV _
 ·rw [hx,←e3,hpw]
  generalize 2 ^ (p - single.leastPlace).toNat=z
  generalize 2 ^ 22=y
  rw [Nat.mul_right_comm,Nat.mul_left_comm (m * z) 2 y,Nat.mul_assoc 2]
theorem An {s:Nat} (hs:s < 4294967296) (h:bR s=true):bR (DZ (dQ .mul .f32 s 1073741824))=true∧DZ (dQ .mul .f32 s 1073741824) < 4294967296:=by
 have hi:single.infRung=2139095040:=by decide +kernel
 obtain ⟨h1,h2⟩:=uS hs h
 rw [AV h1 h2]
 obtain ⟨a,ha⟩:∃a,a=s+8388608:=⟨_,rfl⟩
 rw [←ha]
 unfold DZ
 rw [show FloatKind.f32.format.order a 1266679808=some (compare a 1266679808) from gP single (by omega) (by omega)]
 by_cases e:1266679808 < a
 ·rw [Nat.compare_eq_gt.2 e,if_pos (by decide)]
  exact ⟨by decide +kernel,by decide⟩
 ·rw [if_neg (by
   intro hc
   have hc2:compare a 1266679808=.gt:=by simpa using hc
   exact e (Nat.compare_eq_gt.1 hc2))]
  exact ⟨oD (by omega) (by omega),by omega⟩
theorem AW {s:Nat} {g q:Int} (hs:s < 4294967296) (f:Bool) (h:aW s g q=true):aW (nS s g q f) (nG s g q f) (nQ s g q)=true∧nS s g q f < 4294967296:=by
 obtain ⟨hsc,hg0,hg1,hq0,hq1⟩:=fG h
 have hnv:¬ (aW s g q=false):=by rw [h];decide
 have hof:∀ {s:Nat} {g q:Int},bR s=true→0≤g→g≤1000→1≤q→q≤1000→aW s g q=true:=by
  intro s g q a1 a2 a3 a4 a5
  unfold aW
  rw [a1,cA.2 ⟨a2,a3⟩,cA.2 ⟨a4,a5⟩];rfl
 have e2:=AU hs hsc
 have e3:=An hs hsc
 unfold nS nG nQ
 rw [if_neg hnv,if_neg hnv,if_neg hnv]
 cases f
 ·exact ⟨hof e2.1 (by simp) (by simp) hq0 hq1,e2.2⟩
 ·have hff:¬ (true=false):=by decide
  simp only [if_neg hff]
  by_cases hq:q≤g+1
  ·simp only [if_pos hq]
   exact ⟨hof e3.1 (by omega) (by omega) hq0 hq1,e3.2⟩
  ·simp only [if_neg hq]
   exact ⟨hof hsc (by omega) (by omega) hq0 hq1,hs⟩
abbrev Dn (l:LayP):LayP:=cZ (fun _=>0) l
theorem uT (s:MS) (l:LayP):(fQ s l).isSome=decide (l.k=0∨l.k=1∨l.k=2):=by
 unfold fQ
 by_cases h0:l.k=0
 ·rw [if_pos h0,decide_eq_true (.inl h0)];rfl
 rw [if_neg h0]
 by_cases h1:l.k=1
 ·rw [if_pos h1,decide_eq_true (.inr (.inl h1))];rfl
 rw [if_neg h1]
 by_cases h2:l.k=2
 ·rw [if_pos h2,decide_eq_true (.inr (.inr h2))];rfl
 rw [if_neg h2,decide_eq_false (by omega)];rfl
theorem DL (f:Nat→Nat) (L:List LayP) (X Y:TenP) (k:Nat):(kZ (L.map (cZ f)) X Y k).isSome=(kZ L X Y k).isSome:=by
 induction k with
 | zero=>rfl
 | succ k ih =>
  rw [kZ,kZ]
  cases e1:kZ (L.map (cZ f)) X Y k <;> cases e2:kZ L X Y k <;> rw [e1,e2] at ih
  ·rfl
  ·cases ih
  ·cases ih
  ·rename_i s s'
   rw [List.getElem?_map]
   cases L[k]? with
   | none=>rfl
   | some l =>
    show (fQ s (cZ f l)).isSome=(fQ s' l).isSome
    rw [uT,uT]
    rfl
theorem wW (f:Nat→Nat) (L:List LayP) (k:Nat):(cG (L.map (cZ f)) k).i=(cG L k).i∧(cG (L.map (cZ f)) k).o=(cG L k).o:=by
 unfold cG
 rw [List.getD_eq_getElem?_getD,List.getD_eq_getElem?_getD,List.getElem?_map]
 cases L[k]? <;> exact ⟨rfl,rfl⟩
theorem Cl (f:Nat→Nat) (L:List LayP) (X Y:TenP):fR (L.map (cZ f)) X Y=fR L X Y:=by
 unfold fR
 rw [Ab,(wW f L 0).1,List.length_map,(wW f L (L.length - 1)).2]
theorem uU (f:Nat→Nat) (L:List LayP) (X Y:TenP) (a b:Nat):(bH (L.map (cZ f)) X Y a).isSome=(bH L X Y b).isSome:=by
 unfold bH
 rw [Cl]
 split
 ·rw [Option.isSome_map,Option.isSome_map,List.length_map,DL]
 ·rfl
theorem Ao {L L':List LayP} {X Y:TenP} {a b:Nat} (h:L.map Dn=L'.map Dn):(bH L X Y a).isSome=(bH L' X Y b).isSome:=by
 rw [←uU (fun _=>0) L X Y a a,←uU (fun _=>0) L' X Y a b,h]
theorem Cm {L:List LayP} {xs:List Nat} (h:xs.length=dC L):(cT L xs).map Dn=L.map Dn:=by
 induction L generalizing xs with
 | nil=>rfl
 | cons l L ih =>
  rw [kS] at h
  rw [cT,List.map_cons,List.map_cons,ih (by rw [List.length_drop];omega)]
  congr 1
  unfold Dn cZ kF
  have h1:(xs.take l.ws.length).length=l.ws.length:=by rw [List.length_take];omega
  have h2:((xs.drop l.ws.length).take l.bs.length).length=l.bs.length:=by rw [List.length_take,List.length_drop];omega
  simp only [List.map_const',h1,h2]
theorem Ap (f:Nat→Nat) (L:List LayP):(L.map (cZ f)).map Dn=L.map Dn:=by
 rw [List.map_map]
 apply List.map_congr_left
 intro l _
 show cZ _ (cZ f l)=cZ _ l
 unfold cZ
 simp only [List.map_map]
 rfl
structure SX where
 L:List LayP
 s:Nat
 g:Int
 q:Int
 n:Nat
section
variable (X Y:TenP) (m r:Nat)
def SX.R (x:SX):Option (List OpP × List Int):=eI x.L X Y m x.s
def SX.fin (x:SX):Bool:=(dD (x.R X Y m) (cn .f32 x.s)).2
def SX.next (x:SX):SX:=⟨lX x.L (x.R X Y m) (cn .f32 x.s) r,nS x.s x.g x.q (x.fin X Y m),nG x.s x.g x.q (x.fin X Y m),nQ x.s x.g x.q,if x.fin X Y m=true then x.n+1 else x.n⟩
def SX.steps (x:SX):Nat→SX
 | 0=>x
 | k+1=>SX.next X Y m r (SX.steps x k)
structure SX.Ok (x:SX):Prop where
 hs:x.s < 4294967296
 hv:aW x.s x.g x.q=true
 hR:(x.R X Y m).isSome=true
variable {X Y m r}
theorem SX.Ok.next {x:SX} (h:SX.Ok X Y m x):SX.Ok X Y m (SX.next X Y m r x):=by
 obtain ⟨h1,h2⟩:=AW h.hs (x.fin X Y m) h.hv
 refine ⟨h2,h1,?_⟩
 have hR:=h.hR
 unfold SX.R at hR ⊢
 rw [kW (show bR (SX.next X Y m r x).s=true from (fG h1).1)]
 have e0:lX x.L (x.R X Y m) (cn .f32 x.s) r=cT x.L (nI (dD (x.R X Y m) (cn .f32 x.s)).2 (aM x.L) (dD (x.R X Y m) (cn .f32 x.s)).1.1 r):=by
  unfold lX;rw [if_pos h.hR]
 have hl:=uP (c:=cn .f32 x.s) (show x.R X Y m=eI x.L X Y m x.s from rfl) h.hR
 have e1:((SX.next X Y m r x).L.map (cZ mH)).map Dn=(x.L.map (cZ mH)).map Dn:=by
  rw [Ap,Ap]
  show (lX x.L (x.R X Y m) (cn .f32 x.s) r).map Dn = _
  rw [e0]
  exact Cm (by rw [uO (by rw [hl];rfl)];rfl)
 rw [kW (fG h.hv).1] at hR
 rw [←hR]
 exact Ao e1
theorem SX.Ok.steps {x:SX} (h:SX.Ok X Y m x) (k:Nat):SX.Ok X Y m (SX.steps X Y m r x k):=by
 induction k with
 | zero=>exact h
 | succ k ih=>exact ih.next
theorem SX.steps_n {x:SX} (k:Nat):(SX.steps X Y m r x k).n≤x.n+k:=by
 induction k with
 | zero=>exact J _
 | succ k ih =>
  show (if _ = true then _ else _)≤_
  split <;> omega
end
def uV (L:List LayP) (X Y:TenP) (m s:Nat) (g q:Int) (r:Nat) (k:Int):Option SX :=
 if (kX L X Y m s g q).isSome=true∧(0≤k∧k≤50) then some (SX.steps X Y m r ⟨L,s,g,q,0⟩ k.toNat) else none
def RPost (Q:Option SX) (w:World) (e:Ending) (w':World):Prop:=∃ad n cap s' g' q' k b us,e=.returned (.tuple #[.agg #[.slice ad n cap],.agg #[.float .f32 s',.int .i64 g',.int .i64 q'],.int .i64 k,.bool b]) ∧
 Hid ((((b=Q.isSome∧k=(Q.map fun x=>(x.n:Int)).getD 0)∧(s',g',q')=(Q.map fun x=>(x.s,x.g,x.q)).getD (0,0,0))∧us.map (fun l=>l.toLayP.can)=(Q.map SX.L).getD [])∧OwnR aX w' w.heap.size w'.heap.size ad n cap us)∧Below w.heap.size w w'
theorem RPost.none {Q:Option SX} {w w':World} {e:Ending} (h:Q=none) (he:e=.returned (.tuple #[.agg #[.slice none 0 0],.agg #[.float .f32 0,.int .i64 0,.int .i64 0],.int .i64 0,.bool false])) (hb:Below w.heap.size w w'):RPost Q w e w':=by
 subst h
 exact ⟨_,_,_,_,_,_,_,_,[],he,I ⟨⟨⟨⟨rfl,rfl⟩,rfl⟩,rfl⟩,OwnR.nil _ _ _ _⟩,hb⟩
theorem nK {L:List LayP} {X Y:TenP} {m s r:Nat} {g q k:Int} (h:¬ ((kX L X Y m s g q).isSome=true∧(0≤k∧k≤50))):uV L X Y m s g q r k=none:=by unfold uV;rw [if_neg h]
theorem yS {L:List LayP} {X Y:TenP} {m s:Nat} {g q:Int} (h:aW s g q=true):kX L X Y m s g q=eI L X Y m s:=by unfold kX;rw [h];rfl
theorem AX {L:List LayP} {X Y:TenP} {m s:Nat} {g q:Int} (hs:s < 4294967296) (h:(kX L X Y m s g q).isSome=true):SX.Ok X Y m ⟨L,s,g,q,0⟩:=by
 cases hv:aW s g q with
 | false=>unfold kX at h;rw [hv] at h;cases h
 | true=>rw [yS hv] at h;exact ⟨hs,hv,h⟩
end
section
open Go Go.RowKit
theorem uW (L:List LayP):cT L (aM L)=L:=by
 have h:=wG id L
 rw [List.map_id] at h
 rw [h]
 have e:∀l∈L,cZ id l=id l:=fun l _=>by unfold cZ;simp
 rw [List.map_congr_left e,List.map_id]
structure Now (B:Nat) (W:World) (b:Nat) (ad:Option Addr) (n cap:Nat) (us:List LayD) (lo hi:Nat) (Lc:List LayP):Prop where
 box:BoxN W b [.slice ad n cap]
 old:B≤b
 flo:B≤lo
 fhi:hi≤W.heap.size
 far:b < lo∨hi≤b
 own:OwnR aX W lo hi ad n cap us
 can:us.map (fun l=>l.toLayP.can)=Lc
theorem Now.below {B:Nat} {W W':World} {b:Nat} {ad:Option Addr} {n cap:Nat} {us:List LayD} {lo hi:Nat} {Lc:List LayP} (h:Now B W b ad n cap us lo hi Lc) (hb:Below W.heap.size W W'):Now B W' b ad n cap us lo hi Lc :=
 ⟨h.box.below hb,h.old,h.flo,Nat.le_trans h.fhi hb.size,h.far,h.own.below hb,h.can⟩
theorem Ea {W0 W:World} {ad:Option Addr} {n cap:Nat} {us:List LayD} {b:Nat} {Lc:List LayP} {ov:Value} (hB:BoxN W b [ov]) (hb0:W0.heap.size≤b) (hw:W0.heap.size≤W.heap.size) {lo hi:Nat} (hlo:W0.heap.size≤lo) (hh:hi≤W.heap.size) (hf:b < lo∨hi≤b)
  (ho:OwnR aX W lo hi ad n cap us) (hc:us.map (fun l=>l.toLayP.can)=Lc):Now W0.heap.size (W.setCell ⟨b,0,none⟩ (.slice ad n cap)) b ad n cap us lo hi Lc:=by
 have ht:Touch b (b+1) W (W.setCell ⟨b,0,none⟩ (.slice ad n cap)):=Touch.setCell (J _) (Nat.lt_succ_self _)
 have hs:W.heap.size≤(W.setCell ⟨b,0,none⟩ (.slice ad n cap)).heap.size:=by simp [World.setCell]
 exact ⟨hB.set 0 (.slice ad n cap),hb0,hlo,Nat.le_trans hh hs,hf,ho.touch ht (by omega),hc⟩
theorem oW {X Y:TenP} {m r:Nat} {x:SX} (h:SX.Ok X Y m x):kX x.L X Y m x.s x.g x.q=x.R X Y m∧sK (x.R X Y m) (cn .f32 x.s) x.s x.g x.q=((SX.next X Y m r x).s,(SX.next X Y m r x).g,(SX.next X Y m r x).q) :=
 ⟨yS h.hv,by unfold sK;rw [if_pos h.hR];rfl⟩
theorem Di {X Y:TenP} {m r:Nat} {x:SX} (h:SX.Ok X Y m x) {ad:Option Addr} {n cap s':Nat} {g' q':Int} {f b:Bool} {us:List LayD} {w w':World}
  (ho:(((b=(kX x.L X Y m x.s x.g x.q).isSome∧f=(dD (kX x.L X Y m x.s x.g x.q) (cn .f32 x.s)).2)∧(s',g',q')=sK (kX x.L X Y m x.s x.g x.q) (cn .f32 x.s) x.s x.g x.q)∧us.map (fun l=>l.toLayP.can)=lX x.L (kX x.L X Y m x.s x.g x.q) (cn .f32 x.s) r)∧OwnR aX w' w.heap.size w'.heap.size ad n cap us) :
  b=true∧f=x.fin X Y m∧s'=(SX.next X Y m r x).s∧g'=(SX.next X Y m r x).g∧q'=(SX.next X Y m r x).q∧us.map (fun l=>l.toLayP.can)=(SX.next X Y m r x).L∧OwnR aX w' w.heap.size w'.heap.size ad n cap us:=by
 obtain ⟨⟨⟨⟨h1,h2⟩,h3⟩,h4⟩,h5⟩:=ho
 rw [(oW (r:=r) h).1] at h1 h2 h3 h4
 rw [(oW (r:=r) h).2] at h3
 cases h3
 exact ⟨h1.trans h.hR,h2,rfl,rfl,rfl,h4,h5⟩
theorem yT {X Y:TenP} {m r:Nat} {x:SX}:(SX.next X Y m r x).n=if x.fin X Y m=true then x.n+1 else x.n:=rfl
structure LoopW (w:World) (B b bs:Nat) (o1 o2 o3 o4:Nat × List Value) (wt:World) (x:SX):Prop where
 now:∃ad n cap us lo hi,Now B wt b ad n cap us lo hi x.L
 sc:BoxN wt bs [.float .f32 x.s,.int .i64 x.g,.int .i64 x.q]
 b1:BoxN wt o1.1 o1.2
 b2:BoxN wt o2.1 o2.2
 b3:BoxN wt o3.1 o3.2
 b4:BoxN wt o4.1 o4.2
 old:Below w.heap.size w wt
theorem LoopW.below {w:World} {B b bs:Nat} {o1 o2 o3 o4:Nat × List Value} {wt w2:World} {x:SX} (h:LoopW w B b bs o1 o2 o3 o4 wt x) (hb:Below wt.heap.size wt w2):LoopW w B b bs o1 o2 o3 o4 w2 x:=by
 obtain ⟨ad0,n0,cap0,us0,lo0,hi0,hn⟩:=h.now
 exact ⟨⟨_,_,_,_,_,_,hn.below hb⟩,h.sc.below hb,h.b1.below hb,h.b2.below hb,h.b3.below hb,h.b4.below hb,aA h.old hb⟩
theorem LoopW.next0 {w:World} {B b bs:Nat} {o1 o2 o3 o4:Nat × List Value} {wr w3:World} {x y:SX} (h:LoopW w B b bs o1 o2 o3 o4 wr x) (hb:Below wr.heap.size wr w3) (hB:w.heap.size≤bs∧bs < B∧w.heap.size≤B) (hbB:B≤b) (hbr:b < wr.heap.size)
  (hne:(o1.1≠bs∧o1.1 < B)∧(o2.1≠bs∧o2.1 < B)∧(o3.1≠bs∧o3.1 < B)∧(o4.1≠bs∧o4.1 < B))
  {ad:Option Addr} {n cap:Nat} {us:List LayD} {lo hi:Nat} (hlo:wr.heap.size≤lo) (hhi:hi≤w3.heap.size) (ho:OwnR aX w3 lo hi ad n cap us) (hc:us.map (fun l=>l.toLayP.can)=y.L) :
  LoopW w B b bs o1 o2 o3 o4 (((((w3.setCell ⟨b,0,none⟩ (.slice ad n cap)).setCell ⟨bs,0,none⟩ (.float .f32 y.s)).setCell ⟨bs,1,none⟩ (.int .i64 y.g)).setCell ⟨bs,2,none⟩ (.int .i64 y.q))) y:=by
 obtain ⟨ad0,n0,cap0,us0,lo0,hi0,hn⟩:=h.now
 have u1:∀(V:World) v,Touch b (b+1) V (V.setCell ⟨b,0,none⟩ v):=fun V v=>Touch.setCell (J _) (Nat.lt_succ_self _)
 have u2:∀(V:World) k v,Touch bs (bs+1) V (V.setCell ⟨bs,k,none⟩ v):=fun V k v=>Touch.setCell (J _) (Nat.lt_succ_self _)
 have hz:=hb.size
 have hsz:∀(V:World) g k v,(V.setCell ⟨g,k,none⟩ v).heap.size=V.heap.size:=fun V g k v=>by simp [World.setCell]
 have hbx:∀ {g:Nat} {vs:List Value},BoxN wr g vs→g≠bs→g < B→BoxN (((((w3.setCell ⟨b,0,none⟩ (.slice ad n cap)).setCell ⟨bs,0,none⟩ (.float .f32 y.s)).setCell ⟨bs,1,none⟩ (.int .i64 y.g)).setCell ⟨bs,2,none⟩ (.int .i64 y.q))) g vs:=fun hv h1 h2 =>
  (((((hv.below hb).far b 0 _ (by omega)).far bs 0 _ (Ne.symm h1)).far bs 1 _ (Ne.symm h1)).far bs 2 _ (Ne.symm h1))
 refine ⟨⟨ad,n,cap,us,lo,hi,?_⟩,?_,hbx h.b1 hne.1.1 hne.1.2,hbx h.b2 hne.2.1.1 hne.2.1.2,hbx h.b3 hne.2.2.1.1 hne.2.2.1.2,hbx h.b4 hne.2.2.2.1 hne.2.2.2.2,?_⟩
 ·refine ⟨?_,hbB,by omega,by simp only [hsz];exact hhi,.inl (by omega),?_,hc⟩
  ·exact (((((hn.box.below hb).set 0 (.slice ad n cap)).far bs 0 _ (by omega)).far bs 1 _ (by omega)).far bs 2 _ (by omega))
  ·exact ((((ho.touch (u1 _ _) (.inr (by omega))).touch (u2 _ 0 _) (.inr (by omega))).touch (u2 _ 1 _) (.inr (by omega))).touch (u2 _ 2 _) (.inr (by omega)))
 ·exact ((((((h.sc.below hb).far b 0 (.slice ad n cap) (by omega)).set 0 (.float .f32 y.s)).set 1 (.int .i64 y.g)).set 2 (.int .i64 y.q)))
 ·have h1:=h.old.size
  exact (Below.setCell (p:=⟨bs,2,none⟩) (Below.setCell (p:=⟨bs,1,none⟩) (Below.setCell (p:=⟨bs,0,none⟩) (Below.setCell (p:=⟨b,0,none⟩) (aA h.old hb) (by dsimp only;omega) _) (by dsimp only;omega) _) (by dsimp only;omega) _) (by dsimp only;omega) _)
theorem LoopW.next {w:World} {B b bs:Nat} {o1 o2 o3 o4:Nat × List Value} {wr w3:World} {x y:SX} (h:LoopW w B b bs o1 o2 o3 o4 wr x) (hb:Below wr.heap.size wr w3) (hB:w.heap.size≤bs∧bs < B∧w.heap.size≤B) (hbB:B≤b) (hbr:b < wr.heap.size)
  (hne:(o1.1≠bs∧o1.1 < B)∧(o2.1≠bs∧o2.1 < B)∧(o3.1≠bs∧o3.1 < B)∧(o4.1≠bs∧o4.1 < B))
  {ad:Option Addr} {n cap:Nat} {us:List LayD} {lo hi:Nat} (hlo:wr.heap.size≤lo) (hhi:hi≤w3.heap.size) (ho:OwnR aX w3 lo hi ad n cap us) (hc:us.map (fun l=>l.toLayP.can)=y.L) :
  LoopW w B b bs o1 o2 o3 o4 (((((w3.setCell ⟨b,0,none⟩ (.slice ad n cap)).setCell ⟨bs,0,none⟩ (.float .f32 y.s)).setCell ⟨bs,1,none⟩ (.int .i64 y.g)).setCell ⟨bs,2,none⟩ (.int .i64 y.q)).drew) y :=
 (LoopW.next0 h hb hB hbB hbr hne hlo hhi ho hc).below (Below.drew (O _ _))
theorem Bm {W0 W:World} {ad:Option Addr} {n cap:Nat} {us:List LayD} {Lc:List LayP} (hw:W0.heap.size≤W.heap.size) {lo hi:Nat} (hlo:W0.heap.size≤lo) (hh:hi≤W.heap.size)
  (ho:OwnR aX W lo hi ad n cap us) (hc:us.map (fun l=>l.toLayP.can)=Lc) (t:TypeId):Now W0.heap.size (W.alloc (.cells #[.slice ad n cap] t)) W.heap.size ad n cap us lo hi Lc :=
 ⟨BoxN.alloc W #[.slice ad n cap] t,hw,hlo,by simp;omega,.inr hh,ho.below (aE _ _),hc⟩
theorem sL (w:World) (ma:Option Addr) (mk:Nat) (ls:List LayD) (s:Nat) (gg qq:Int) (xr xc yr yc:Int) (xa ya:Option Addr) (xk yk:Nat) (xs ys:List Nat) (r:Nat) (kk:Int) (hls:SeeR aX w ma mk ls) (hnil:nilL ls) (hs:s < 4294967296) (hx:F32s w xa xk xs) (hy:F32s w ya yk ys) :
  Calls Tryz.prog 26 #[.agg #[.slice ma ls.length mk],.agg #[.float .f32 s,.int .i64 gg,.int .i64 qq],.agg #[.int .i64 xr,.int .i64 xc,.slice xa xs.length xk],.agg #[.int .i64 yr,.int .i64 yc,.slice ya ys.length yk],.float .f32 r,.int .i64 kk] w (RPost (uV (ls.map fun l=>l.toLayP.can) ⟨xr,xc,xs.map (cn .f32)⟩ ⟨yr,yc,ys.map (cn .f32)⟩ ys.length s gg qq (cn .f32 r) kk) w):=by
 obtain ⟨W6,hW6,hsz,hb6,⟨bm,bs,bx⟩,by6,br,bt⟩:=qU w #[.slice ma ls.length mk] #[.float .f32 s,.int .i64 gg,.int .i64 qq] #[.int .i64 xr,.int .i64 xc,.slice xa xs.length xk] #[.int .i64 yr,.int .i64 yc,.slice ya ys.length yk] #[.slice none 0 0] #[.float .f32 0,.int .i64 0,.int .i64 0] 35 50 37 37 35 50
 have BM:=I bm;have BS:=I bs;have BX:=I bx;have BY:=I by6;have BR:=I br;have BT:=I bt
 have HW6:=I hW6;have HB6:=I hb6
 have KG:=I (fun (W:World) (hb:Below w.heap.size w W) (ma:Option Addr) (mk:Nat) (ls:List LayD) (s:Nat) (gg qq:Int) (hls:SeeR aX W ma mk ls) (hnil:nilL ls) (hs:s < 4294967296)=>uQ W ma mk ls s gg qq xr xc yr yc xa ya xk yk xs ys r hls hnil hs (hx.below hb) (hy.below hb))
 have K1:=I (KG.out W6 hb6 ma mk ls s gg qq (hls.below hb6) hnil hs)
 have KW:=I (fun W=>jG kk 0 50 W)
 have HLS:=I hls;have HNIL:=I hnil;have HS:=I hs
 obtain ⟨Lc,hLc⟩:∃Lc,Lc=ls.map fun l=>l.toLayP.can:=⟨_,rfl⟩
 rw [←hLc] at K1 ⊢
 have HLc:=I hLc
 obtain ⟨X,hX⟩:∃X:TenP,X=⟨xr,xc,xs.map (cn .f32)⟩:=⟨_,rfl⟩
 obtain ⟨Y,hY⟩:∃Y:TenP,Y=⟨yr,yc,ys.map (cn .f32)⟩:=⟨_,rfl⟩
 rw [←hX,←hY] at K1 KG ⊢
 obtain ⟨m,hm⟩:∃m,m=ys.length:=⟨_,rfl⟩
 obtain ⟨m2,hm2⟩:∃m,m=xs.length:=⟨_,rfl⟩
 rw [←hm] at K1 KG BY HW6 ⊢
 rw [←hm2] at K1 KG BX HW6 ⊢
 obtain ⟨c,hc⟩:∃c,c=cn .f32 r:=⟨_,rfl⟩
 rw [←hc] at K1 KG ⊢
 obtain ⟨l0,hl0⟩:∃l,l=ls.length:=⟨_,rfl⟩
 rw [←hl0] at K1 BM HW6 ⊢
 have HL0:=I hl0
 obtain ⟨Q,hQ⟩:∃Q,Q=uV Lc X Y m s gg qq c kk:=⟨_,rfl⟩
 rw [←hQ]
 have HQ:=I hQ
 clear hls hx hy hnil hb6 hW6 bm bs bx by6 br bt hLc hX hY hm hm2 hc hl0 hQ hs
 have hq1:w.heap.size≤w.heap.size+1+1+1+1:=by omega
 have hq2:w.heap.size≤w.heap.size+1+1+1+1+1:=by omega
 have hq3:w.heap.size+1+1+1+1 < W6.heap.size:=by omega
 have hq4:w.heap.size+1+1+1+1+1 < W6.heap.size:=by omega
 have hq6:w.heap.size≤W6.heap.size:=HB6.out.size
 have HSZ:=I hsz
 clear hsz
 go_enter Tryz.func26,Tryz.ntmps26
 go_upto_region 1 with fail
 rw [←HW6.out]
 obtain ⟨-,p0,-⟩:=BM.out.one1
 obtain ⟨-,s0,s1,s2,-⟩:=BS.out.three
 obtain ⟨-,x0,x1,x2,-⟩:=BX.out.three
 obtain ⟨-,y0,y1,y2,-⟩:=BY.out.three
 go_wp2_with fail
 refine K1.out.mono ?_
 rintro e w7 ⟨ad,n,cap,s',g',q',f,b,us,rfl,HO,hb⟩
 clear p0 s0 s1 s2 x0 x1 x2 y0 y1 y2 K1
 go_upto_region 2 with fail
 have hb9:=aA hb (bZ w7 (.cells #[.slice ad n cap] 35) (.cells #[.float .f32 s',.int .i64 g',.int .i64 q'] 50))
 obtain ⟨w9,hw9⟩:∃W,W=(w7.alloc (.cells #[.slice ad n cap] 35)).alloc (.cells #[.float .f32 s',.int .i64 g',.int .i64 q'] 50):=⟨_,rfl⟩
 rw [←hw9] at hb9
 try rw [←hw9]
 have HB9:=I hb9
 have HB:=I (show b=(kX Lc X Y m s gg qq).isSome from HO.out.1.1.1.1)
 clear HO hb hb9 hw9
 have hn11:¬ w.heap.size+1+1+1+1=w.heap.size+1+1+1+1+1:=by omega
 have RET:=I (fun (W:World) (hb:Below W6.heap.size W6 W)=>And.intro (BR.out.below hb).one1 (BT.out.below hb).three)
 cases b
 ·have HQN:Hid (Q=none):=I (by rw [HQ.out];exact nK (fun h=>by rw [←HB.out] at h;exact absurd h.1 (by decide)))
  clear HQ HB KG KW
  obtain ⟨⟨hlr,r0,rf⟩,hlt,t0,t1,t2,tf⟩:=RET.out _ HB9.out
  have f0:=rf 0;have g0:=tf 0;have g1:=tf 1;have g2:=tf 2
  clear rf tf
  go_wp2
  try simp only [Exit.inBlock,Exit.then]
  refine bodyPost_ret (v:=.tuple #[.agg #[.slice none 0 0],.agg #[.float .f32 0,.int .i64 0,.int .i64 0],.int .i64 0,.bool false]) (by simp [results,Tryz.results26,go_sem,r0,t0,t1,t2]) rfl ?_
  exact RPost.none HQN.out rfl (by repeat (first | exact aA HB6.out HB9.out | refine Below.setCell ?_ (by dsimp only;omega) _))
 cases eK:jU kk 0 50
 ·have HQN:Hid (Q=none):=I (by rw [HQ.out];exact nK (fun h=>by rw [cA.2 h.2] at eK;cases eK))
  rw [eK] at KW
  clear HQ HB KG eK
  obtain ⟨⟨hlr,r0,rf⟩,hlt,t0,t1,t2,tf⟩:=RET.out _ HB9.out
  have f0:=rf 0;have g0:=tf 0;have g1:=tf 1;have g2:=tf 2
  clear rf tf
  go_wp2_with fail
  refine (KW.out _).mono ?_
  rintro e w10 ⟨rfl,rfl⟩
  go_wp2
  try simp only [Exit.inBlock,Exit.then]
  refine bodyPost_ret (v:=.tuple #[.agg #[.slice none 0 0],.agg #[.float .f32 0,.int .i64 0,.int .i64 0],.int .i64 0,.bool false]) (by simp [results,Tryz.results26,go_sem,r0,t0,t1,t2]) rfl ?_
  exact RPost.none HQN.out rfl (by repeat (first | exact aA HB6.out HB9.out | refine Below.setCell ?_ (by dsimp only;omega) _))
 obtain ⟨hk0,hk1⟩:=cA.1 eK
 rw [eK] at KW
 have HOK:=I (AX HS.out (show (kX Lc X Y m s gg qq).isSome=true from HB.out.symm))
 have HQS:Hid (Q=some (SX.steps X Y m c ⟨Lc,s,gg,qq,0⟩ kk.toNat)):=I (by rw [HQ.out];unfold uV;rw [if_pos ⟨HB.out.symm,hk0,hk1⟩])
 have hM:dG (ls.map LayD.toLayP)=true:=iJ (by rw [←HLc.out];exact HOK.out.hR)
 obtain ⟨hl6,hlens⟩:=iI hM
 clear HQ HB eK hM
 go_wp2_with fail
 refine (KW.out _).mono ?_
 rintro e w10 ⟨rfl,rfl⟩
 clear KW
 go_upto_region 4 with fail
 have hwq:=(aA HB6.out HB9.out).size
 have hwl:w.heap.size < w9.heap.size:=by have:=HB9.out.size;omega
 have KP:=fun (W:World) (hb:Below w9.heap.size w9 W)=>mT W ma mk ls (HLS.out.below (aA (aA HB6.out HB9.out) hb)) HNIL.out hl6 hlens
 have KV:=fun (W:World) (hb:Below w9.heap.size w9 W) b off ck xs h1 h2 h3=>iR W ma mk ls b off ck xs (HLS.out.below (aA (aA HB6.out HB9.out) hb)) h1 h2 hl6 hlens h3
 obtain ⟨L,hL⟩:∃L,L=ls.map LayD.toLayP:=⟨_,rfl⟩
 have HLC:=I (show (cT L (aM L)).map LayP.can=Lc by rw [uW,HLc.out,hL,List.map_map];rfl)
 rw [←hL,←HL0.out] at KP KV
 have KP0:=I (KP w9.drew (Below.drew (O _ _)))
 have KP1:=I (KP (w9.alloc (.cells #[.slice none 0 0] 35)).drew (Below.drew (aE _ _)))
 have KV0:=I KV
 have hne:¬ w.heap.size=w9.heap.size:=by omega
 have hne2:¬ w9.heap.size=w.heap.size:=by omega
 clear KP KV hl6 hlens hL
 obtain ⟨-,p0,-⟩:=(BM.out.below HB9.out).one1
 go_cut [20] (fun p20 wx => ∃b:Nat,p20=.pointer (some ⟨b,0,none⟩)∧Hid ((∃ad n cap us lo hi,Now w9.heap.size wx b ad n cap us lo hi Lc)∧Below w9.heap.size w9 wx))
 case first =>
  go_region_held3 (fun w'=>w'.cell? ⟨w.heap.size,0,none⟩=some (.slice ma l0 mk)) (go_keep)
   (first
     | (go_at_call 44;(with_reducible refine (KP0.out).mono ?_);intro e w5 hq;obtain ⟨g3,n3,c3,he,HP,hb⟩:=hq;subst he;have HB5:=I (show Below w9.heap.size w9 w5 from aA (Below.drew (O _ _)) hb);have hgl:g3 < w5.heap.size:=(HP.out.row.own.lt g3 rfl).2;have hn3:n3=(aM L).length:=HP.out.len.symm;subst hn3;have p5:=(HB5.out.cell (p:=⟨w.heap.size,0,none⟩) hwl).trans p0;have KA:=I (KV0.out w5 HB5.out g3 0 c3 (aM L) HP.out.arg hgl rfl);have KB:=I (KV0.out (w5.alloc (.cells #[.slice none 0 0] 35)) (aA HB5.out (aE _ _)) g3 0 c3 (aM L) (HP.out.below (aE _ _)).arg (by simp;omega) rfl);have hl5:w.heap.size < w5.heap.size:=Nat.lt_of_lt_of_le hwl HB5.out.size;have hne5:¬ w.heap.size=w5.heap.size:=Nat.ne_of_lt hl5;have hne6:¬ w5.heap.size=w.heap.size:=Nat.ne_of_gt hl5;clear hb hgl HP)
     | (go_at_call 44;(with_reducible refine (KP1.out).mono ?_);intro e w5 hq;obtain ⟨g3,n3,c3,he,HP,hb⟩:=hq;subst he;have HB5:=I (show Below w9.heap.size w9 w5 from aA (Below.drew (aE _ _)) hb);have hgl:g3 < w5.heap.size:=(HP.out.row.own.lt g3 rfl).2;have hn3:n3=(aM L).length:=HP.out.len.symm;subst hn3;have p5:=(HB5.out.cell (p:=⟨w.heap.size,0,none⟩) hwl).trans p0;have KC:=I (KV0.out w5 HB5.out g3 0 c3 (aM L) HP.out.arg hgl rfl);have zA:BoxN w5 w9.heap.size [.slice none 0 0]:=((BoxN.alloc w9 #[.slice none 0 0] 35).below (Below.drew (O _ _))).below hb;obtain ⟨zl,z0,zf⟩:=zA.one1;have z1:=zf 0;have ZA:=I zA;have HZ5:=I zl;clear zA zf;have hl5:w.heap.size < w5.heap.size:=Nat.lt_of_lt_of_le hwl HB5.out.size;have hne5:¬ w.heap.size=w5.heap.size:=Nat.ne_of_lt hl5;have hne6:¬ w5.heap.size=w.heap.size:=Nat.ne_of_gt hl5;clear hb hgl HP)
     | (go_at_call 45;(with_reducible refine (KA.out).mono ?_);intro e w6 hq;obtain ⟨ad,m1,cap,us,he,HU,hb⟩:=hq;subst he;have HB6':=I (aA HB5.out hb);have p6:=(HB6'.out.cell (p:=⟨w.heap.size,0,none⟩) hwl).trans p0;have HU6:=I HU.out;have hh6:=hb.size;clear hb HU)
     | (go_at_call 45;(with_reducible refine (KB.out).mono ?_);intro e w6 hq;obtain ⟨ad,m1,cap,us,he,HU,hb⟩:=hq;subst he;have HB6':=I (aA HB5.out (aA (aE _ _) hb));have p6:=(HB6'.out.cell (p:=⟨w.heap.size,0,none⟩) hwl).trans p0;have zB:BoxN w6 w5.heap.size [.slice none 0 0]:=(BoxN.alloc w5 #[.slice none 0 0] 35).below hb;obtain ⟨zl,z0,zf⟩:=zB.one1;have z1:=zf 0;have ZB:=I zB;clear zB zf;have HU6:=I HU.out;have hh6:=hb.size;clear hb HU)
     | (go_at_call 45;(with_reducible refine (KC.out).mono ?_);intro e w6 hq;obtain ⟨ad,m1,cap,us,he,HU,hb⟩:=hq;subst he;have HB6':=I (aA HB5.out hb);have p6:=(HB6'.out.cell (p:=⟨w.heap.size,0,none⟩) hwl).trans p0;have zB:=ZA.out.below hb;clear zl z0 z1;obtain ⟨zl,z0,zf⟩:=zB.one1;have z1:=zf 0;have ZB:=I zB;clear zB zf;have HU6:=I HU.out;have hh6:=hb.size;clear hb HU))
  all_goals (try go_wp2_with fail)
  all_goals go_meet
  ·exact ⟨_,rfl,I ⟨⟨_,_,_,_,_,_,Bm HB6'.out.size HB5.out.size (J _) HU6.out.2 (HU6.out.1.trans HLC.out) _⟩,aA HB6'.out (aE _ _)⟩⟩
  ·exact ⟨_,rfl,I ⟨⟨_,_,_,_,_,_,Ea ZB.out HB5.out.size HB6'.out.size (by have:=HB5.out.size;simp;omega) (J _) (.inl (by simp)) HU6.out.2 (HU6.out.1.trans HLC.out)⟩,Below.setCell (p:=⟨w5.heap.size,0,none⟩) HB6'.out HB5.out.size _⟩⟩
  ·exact ⟨_,rfl,I ⟨⟨_,_,_,_,_,_,Ea ZB.out (J _) HB6'.out.size HB5.out.size (J _) (.inl HZ5.out) HU6.out.2 (HU6.out.1.trans HLC.out)⟩,Below.setCell (p:=⟨w9.heap.size,0,none⟩) HB6'.out (J _) _⟩⟩
 case rest =>
  obtain ⟨b,rfl,HC⟩:=hcut
  have HBC:=I (aA HB9.out HC.out.2)
  have hq5:W6.heap.size≤w9.heap.size:=HB9.out.size
  have hbb:w9.heap.size≤b:=by obtain ⟨_,_,_,_,_,_,hn⟩:=HC.out.1;exact hn.old
  have HLW:Hid (LoopW w w9.heap.size b (w.heap.size+1) (w.heap.size+1+1,[.int .i64 xr,.int .i64 xc,.slice xa m2 xk]) (w.heap.size+1+1+1,[.int .i64 yr,.int .i64 yc,.slice ya m yk]) (w.heap.size+1+1+1+1,[.slice none 0 0]) (w.heap.size+1+1+1+1+1,[.float .f32 0,.int .i64 0,.int .i64 0]) wc ⟨Lc,s,gg,qq,0⟩) :=
   I ⟨HC.out.1,BS.out.below HBC.out,BX.out.below HBC.out,BY.out.below HBC.out,BR.out.below HBC.out,BT.out.below HBC.out,aA HB6.out HBC.out⟩
  obtain ⟨x0,hx0⟩:∃x:SX,x=⟨Lc,s,gg,qq,0⟩:=⟨_,rfl⟩
  have HX0n:=I (show x0.n=0 by rw [hx0])
  rw [←hx0] at HLW HQS HOK
  obtain ⟨kn,hkn⟩:∃n,n=kk.toNat:=⟨_,rfl⟩
  rw [←hkn] at HQS
  obtain rfl:kk=(kn:Int):=by omega
  have hkn50:kn≤50:=by omega
  clear HC hx0 HBC KP0 KP1 KV0 p0 hne hne2 hkn hk0 hk1 RET HLC hwl HB9
  obtain ⟨tB,htB⟩:∃t,t=w.heap.size+1+1+1+1+1:=⟨_,rfl⟩
  obtain ⟨rB,hrB⟩:∃t,t=w.heap.size+1+1+1+1:=⟨_,rfl⟩
  obtain ⟨yB,hyB⟩:∃t,t=w.heap.size+1+1+1:=⟨_,rfl⟩
  obtain ⟨xB,hxB⟩:∃t,t=w.heap.size+1+1:=⟨_,rfl⟩
  obtain ⟨sB,hsB⟩:∃t,t=w.heap.size+1:=⟨_,rfl⟩
  rw [←htB,←hrB,←hyB,←hxB,←hsB] at HLW ⊢
  have hnum:(w.heap.size≤sB∧sB < w9.heap.size∧w.heap.size≤w9.heap.size)∧((xB≠sB∧xB < w9.heap.size)∧(yB≠sB∧yB < w9.heap.size)∧(rB≠sB∧rB < w9.heap.size)∧(tB≠sB∧tB < w9.heap.size))∧w.heap.size≤rB∧w.heap.size≤tB∧¬ rB=tB:=by have:=HSZ.out;omega
  have HNUM:=I hnum
  clear htB hrB hyB hxB hsB hnum hq1 hq2 hq3 hq4 hq5 hq6 hn11 HSZ
  generalize w9.heap.size=zB at HLW HNUM hbb
  go_wp2
  go_loopw [21,51] (fun q i wt => ∃j:Nat,i=.int .i64 j∧q=.int .i64 (SX.steps X Y m c x0 j).n∧j≤kn∧Hid (LoopW w zB b sB (xB,[.int .i64 xr,.int .i64 xc,.slice xa m2 xk]) (yB,[.int .i64 yr,.int .i64 yc,.slice ya m yk]) (rB,[.slice none 0 0]) (tB,[.float .f32 0,.int .i64 0,.int .i64 0]) wt (SX.steps X Y m c x0 j))) (fun q i wt=>kn - (intOf i).toNat)
  case atStart=>exact ⟨0,rfl,by show _ = Value.int .i64 (x0.n:Int);rw [HX0n.out];rfl,Nat.zero_le _,HLW⟩
  case round =>
   obtain ⟨j,rfl,rfl,hj,HW⟩:=hrel
   have hnj:(SX.steps X Y m c x0 j).n≤50:=by have:=SX.steps_n (X:=X) (Y:=Y) (m:=m) (r:=c) (x:=x0) j;rw [HX0n.out] at this;omega
   have HOJ:=I (HOK.out.steps (r:=c) j)
   have HSN:Hid (SX.steps X Y m c x0 (j+1)=SX.next X Y m c (SX.steps X Y m c x0 j)):=I rfl
   by_cases hlt:j < kn
   ·obtain ⟨st,hst⟩:∃x,x=SX.steps X Y m c x0 j:=⟨_,rfl⟩
    rw [←hst] at HW HOJ HSN hnj ⊢
    clear hst HLW HQS
    obtain ⟨ad2,n2,cap2,us2,lo2,hi2,hn⟩:=HW.out.now
    have KR:=KG.out wr HW.out.old ad2 cap2 us2 st.s st.g st.q hn.own.see hn.own.nilL HOJ.out.hs
    rw [hn.can,hn.own.len] at KR
    have KRR:=I KR
    obtain ⟨hbl,p0,-⟩:=hn.box.one1
    obtain ⟨-,s0,s1,s2,-⟩:=HW.out.sc.three
    obtain ⟨-,x0',x1,x2,-⟩:=HW.out.b1.three
    obtain ⟨-,y0,y1,y2,-⟩:=HW.out.b2.three
    clear KR hn
    go_wp2_with fail
    refine KRR.out.mono ?_
    rintro e w2 ⟨ad,n,cap,s',g',q',f,bo,us,rfl,HO,hb2⟩
    obtain ⟨hbo,hf,hs',hg',hq',hcan,hown⟩:=Di HOJ.out HO.out
    have HF:=I hf;have HCAN:=I hcan;have HSC:=I (And.intro hs' (And.intro hg' hq'))
    subst hbo
    have hb3:=aA hb2 (bZ w2 (.cells #[.slice ad n cap] 35) (.cells #[.float .f32 s',.int .i64 g',.int .i64 q'] 50))
    have B1:=I ((BoxN.alloc w2 #[.slice ad n cap] 35).below (aE _ (.cells #[.float .f32 s',.int .i64 g',.int .i64 q'] 50)))
    have B2:=I (BoxN.alloc2 w2 (.cells #[.slice ad n cap] 35) #[.float .f32 s',.int .i64 g',.int .i64 q'] 50)
    have HOW:=I (And.intro (hown.below (bZ w2 (.cells #[.slice ad n cap] 35) (.cells #[.float .f32 s',.int .i64 g',.int .i64 q'] 50))) (bZ w2 (.cells #[.slice ad n cap] 35) (.cells #[.float .f32 s',.int .i64 g',.int .i64 q'] 50)).size)
    have HB3:=I hb3
    have hsz2:wr.heap.size≤w2.heap.size:=hb2.size
    clear hf hcan hs' hg' hq' hown hb3 HO hb2 KRR p0 s0 s1 s2 x0' x1 x2 y0 y1 y2
    go_upto_region 9 with fail
    generalize (w2.alloc (.cells #[.slice ad n cap] 35)).alloc (.cells #[.float .f32 s',.int .i64 g',.int .i64 q'] 50)=w3 at B1 B2 HOW HB3 ⊢
    have hnum:=HNUM.out
    have e1:¬ w2.heap.size=b:=by omega
    have e2:¬ w2.heap.size=sB:=by omega
    have e3:¬ w2.heap.size+1=b:=by omega
    have e4:¬ w2.heap.size+1=sB:=by omega
    have e5:¬ b=sB:=by omega
    clear hnum
    obtain ⟨-,m0,-⟩:=B1.out.one1
    obtain ⟨-,k0,k1,k2,-⟩:=B2.out.three
    have hbw:=HW.out
    obtain ⟨ad9,n9,cap9,us9,lo9,hi9,hn9⟩:=hbw.now
    obtain ⟨hl1,q0,qf⟩:=(hn9.box.below HB3.out).one1
    obtain ⟨hl2,t0,t1,t2,tf⟩:=(hbw.sc.below HB3.out).three
    have f0:=qf 0;have g0:=tf 0;have g1:=tf 1;have g2:=tf 2
    clear qf tf hn9 hbw
    generalize w2.heap.size+1=eB at B2 e3 e4 k0 k1 k2 ⊢
    generalize w2.heap.size=dB at B1 e1 e2 m0 ⊢
    have e6:=Ne.symm e1;have e7:=Ne.symm e2;have e8:=Ne.symm e3;have e9:=Ne.symm e4;have e10:=Ne.symm e5
    go_region_held3 (fun w'=>w'.cell? ⟨dB,0,none⟩=some (.slice ad n cap)∧w'.cell? ⟨eB,0,none⟩=some (.float .f32 s')∧w'.cell? ⟨eB,1,none⟩=some (.int .i64 g')∧w'.cell? ⟨eB,2,none⟩=some (.int .i64 q')) (go_keep) (first | fail)
    have hnum:=HNUM.out
    obtain ⟨rfl,rfl,rfl⟩:=HSC.out
    have HL:=I (LoopW.next (y:=SX.next X Y m c st) HW.out HB3.out hnum.1 hbb hbl hnum.2.1 (J _) HOW.out.2 HOW.out.1 HCAN.out)
    clear hnum m0 k0 k1 k2 q0 t0 t1 t2 f0 g0 g1 g2 e1 e2 e3 e4 e5 e6 e7 e8 e9 e10 HW HB3 HOW HCAN B1 B2 HSC hl1 hl2
    generalize ((((w3.setCell ⟨b,0,none⟩ (.slice ad n cap)).setCell ⟨sB,0,none⟩ (.float .f32 (SX.next X Y m c st).s)).setCell ⟨sB,1,none⟩ (.int .i64 (SX.next X Y m c st).g)).setCell ⟨sB,2,none⟩ (.int .i64 (SX.next X Y m c st).q)).drew=w4 at HL ⊢
    rw [←HSN.out] at HL
    cases f
    ·have HN2:=I (show (SX.steps X Y m c x0 (j+1)).n=st.n by rw [HSN.out,yT,←HF.out,if_neg (by decide)])
     go_wp2
     refine ⟨?rel,?measure⟩
     case rel=>exact ⟨j+1,by go_num,by rw [HN2.out],hlt,HL⟩
     case measure=>simp [intOf];omega
    ·have HN2:=I (show (SX.steps X Y m c x0 (j+1)).n=st.n+1 by rw [HSN.out,yT,←HF.out,if_pos rfl])
     go_wp2
     refine ⟨?rel,?measure⟩
     case rel=>exact ⟨j+1,by go_num,by rw [HN2.out];go_num,hlt,HL⟩
     case measure=>simp [intOf];omega
   ·obtain rfl:j=kn:=by omega
    obtain ⟨st,hst⟩:∃x,x=SX.steps X Y m c x0 j:=⟨_,rfl⟩
    rw [←hst] at HW HQS HOJ HSN hnj ⊢
    clear hst HLW
    have hnum:=HNUM.out
    obtain ⟨hE,hS,hBX,hBY,hBR,hBT,hold⟩:=HW.out
    obtain ⟨ad9,n9,cap9,us9,lo9,hi9,hn9⟩:=hE
    have HN9:=I hn9
    obtain ⟨hl1,q0,-⟩:=hn9.box.one1
    obtain ⟨hl2,t0,t1,t2,-⟩:=hS.three
    obtain ⟨hl3,r0,rf⟩:=hBR.one1
    obtain ⟨hl4,v0,v1,v2,vf⟩:=hBT.three
    have f0:=rf 0;have g0:=vf 0;have g1:=vf 1;have g2:=vf 2
    have HOLD:=I hold
    have e1:¬ b=rB:=by omega
    have e2:¬ b=tB:=by omega
    have e3:¬ sB=rB:=by omega
    have e4:¬ sB=tB:=by omega
    have e5:¬ rB=tB:=by omega
    have e6:=Ne.symm e1;have e7:=Ne.symm e2;have e8:=Ne.symm e3;have e9:=Ne.symm e4;have e10:=Ne.symm e5
    clear rf vf hn9 hBX hBY hS hnum hold
    go_wp2
    go_region_held3 (fun w'=>w'.cell? ⟨b,0,none⟩=some (.slice ad9 n9 cap9)∧w'.cell? ⟨sB,0,none⟩=some (.float .f32 st.s)∧w'.cell? ⟨sB,1,none⟩=some (.int .i64 st.g)∧w'.cell? ⟨sB,2,none⟩=some (.int .i64 st.q)) (go_keep) (first | fail)
    go_wp2
    try simp only [Exit.inBlock,Exit.then]
    refine bodyPost_ret (v:=.tuple #[.agg #[.slice ad9 n9 cap9],.agg #[.float .f32 st.s,.int .i64 st.g,.int .i64 st.q],.int .i64 st.n,.bool true]) (by simp [results,Tryz.results26,go_sem,r0,v0,v1,v2,hl3,hl4,e5,e10]) rfl ?_
    have hnum:=HNUM.out
    have h9:=HN9.out
    have u1:∀V:World,Touch rB (rB+1) V (V.setCell ⟨rB,0,none⟩ (.slice ad9 n9 cap9)):=fun V=>Touch.setCell (J _) (Nat.lt_succ_self _)
    have u2:∀(V:World) k v,Touch tB (tB+1) V (V.setCell ⟨tB,k,none⟩ v):=fun V k v=>Touch.setCell (J _) (Nat.lt_succ_self _)
    have hlo:=h9.flo
    have hhi:=h9.fhi
    have hU:=((((h9.own.touch (u1 _) (.inr (by omega))).touch (u2 _ 0 (.float .f32 st.s)) (.inr (by omega))).touch (u2 _ 1 (.int .i64 st.g)) (.inr (by omega))).touch (u2 _ 2 (.int .i64 st.q)) (.inr (by omega)))
    refine ⟨ad9,n9,cap9,_,_,_,_,_,us9,rfl,I ⟨⟨⟨⟨?_,?_⟩,?_⟩,?_⟩,?_⟩,?_⟩
    ·rw [HQS.out];rfl
    ·rw [HQS.out];rfl
    ·rw [HQS.out];rfl
    ·rw [HQS.out];exact h9.can
    ·exact (hU.below (Below.drew (O _ _))).bounds (by omega) (by simp [World.setCell];omega)
    ·exact qV (Below.setCell (p:=⟨tB,2,none⟩) (Below.setCell (p:=⟨tB,1,none⟩) (Below.setCell (p:=⟨tB,0,none⟩) (Below.setCell (p:=⟨rB,0,none⟩) HOLD.out hnum.2.2.1 _) hnum.2.2.2.1 _) hnum.2.2.2.1 _) hnum.2.2.2.1 _)
end
end Go.Proofs.YtpadlmidojpbeaaGreat
