/- Joined texts 8. No condition. -/
import Derived.Test.YtpadlmidojpbeaaGreatMc0
import Derived.Test.YtpadlmidojpbeaaGreatMc1
import Derived.Test.YtpadlmidojpbeaaGreatMc5
import Derived.Test.YtpadlmidojpbeaaGreatMc6
set_option linter.unusedVariables false
set_option linter.unusedSimpArgs false
set_option maxRecDepth 100000
set_option maxHeartbeats 64000000
namespace Go.Proofs.YtpadlmidojpbeaaGreat
open Go Go.RowKit
theorem pT (w:World) (mb mo xb xo yb yo:Nat) (ma:Option Addr) (mk:Nat) (ls:List LayD) (xr xc yr yc:Int) (xa ya:Option Addr) (xk yk:Nat) (xs ys:List Nat) (num:Nat) (hnum:num < 4294967296)
  (hm:w.cell? ⟨mb,mo,none⟩=some (.slice ma ls.length mk)) (hls:SeeR aX w ma mk ls)
  (hx0:w.cell? ⟨xb,xo,none⟩=some (.int .i64 xr)) (hx1:w.cell? ⟨xb,xo+1,none⟩=some (.int .i64 xc)) (hx2:w.cell? ⟨xb,xo+2,none⟩=some (.slice xa xs.length xk)) (hx:F32s w xa xk xs)
  (hy0:w.cell? ⟨yb,yo,none⟩=some (.int .i64 yr)) (hy1:w.cell? ⟨yb,yo+1,none⟩=some (.int .i64 yc)) (hy2:w.cell? ⟨yb,yo+2,none⟩=some (.slice ya ys.length yk)) (hy:F32s w ya yk ys) (hxy:xb≠yb) (hA:(dG (ls.map LayD.toLayP) && (dZ xr xc xs.length && (dZ yr yc ys.length && decide (xr=yr))))=true) (hB:(decide (xc=(cG (ls.map LayD.toLayP) 0).i) && decide (yc=(cG (ls.map LayD.toLayP) (ls.length - 1)).o))=false) :
  Calls Tryz.prog 83 #[.pointer (some ⟨mb,mo,none⟩),.pointer (some ⟨xb,xo,none⟩),.pointer (some ⟨yb,yo,none⟩),.float .f32 num] w (yF (bH (ls.map fun l=>l.toLayP.can) ⟨xr,xc,xs.map (cn .f32)⟩ ⟨yr,yc,ys.map (cn .f32)⟩ (cn .f32 num)) w):=by
 obtain ⟨i0,hi0,hz0,hzs,hz2⟩:=info_parts lK
 obtain ⟨j0,hj0,jz0,jzs,jz2⟩:=info_parts kM
 obtain ⟨R,hR⟩:∃R,R=bH (ls.map fun l=>l.toLayP.can) ⟨xr,xc,xs.map (cn .f32)⟩ ⟨yr,yc,ys.map (cn .f32)⟩ (cn .f32 num):=⟨_,rfl⟩
 rw [←hR]
 have HR:=I hR
 have hgood:fR (ls.map fun l=>l.toLayP.can) ⟨xr,xc,xs.map (cn .f32)⟩ ⟨yr,yc,ys.map (cn .f32)⟩=(dG (ls.map LayD.toLayP) && (dZ xr xc xs.length && (dZ yr yc ys.length && (decide (xr=yr) && (decide (xc=(cG (ls.map LayD.toLayP) 0).i) && decide (yc=(cG (ls.map LayD.toLayP) (ls.length - 1)).o)))))):=by
  have e:(ls.map fun l=>l.toLayP.can)=(ls.map LayD.toLayP).map LayP.can:=by rw [List.map_map];rfl
  unfold fR
  rw [e,mS,(gE _ _).1,(gE _ _).2]
  simp only [List.length_map]
 have HG:=I hgood
 clear hR hgood
 obtain ⟨n,hN⟩:∃n,n=xs.length:=⟨_,rfl⟩
 obtain ⟨m,hM⟩:∃m,m=ys.length:=⟨_,rfl⟩
 obtain ⟨L,hL⟩:∃L,L=ls.length:=⟨_,rfl⟩
 rw [←hN] at hx2 HG
 rw [←hM] at hy2 HG
 rw [←hL] at hm HG
 have HN:=I hN;have HM:=I hM;have HL:=I hL
 have hnm:=Nat.le_trans hx.len hx.cap
 have hmm:=Nat.le_trans hy.len hy.cap
 rw [←hN] at hnm
 rw [←hM] at hmm
 have HLS:=I hls;have HX:=I hx;have HY:=I hy
 have CW:Hid (∀W,Below w.heap.size w W→W.cell? ⟨mb,mo,none⟩=some (.slice ma L mk)∧(W.cell? ⟨xb,xo,none⟩=some (.int .i64 xr)∧W.cell? ⟨xb,xo+1,none⟩=some (.int .i64 xc)∧W.cell? ⟨xb,xo+2,none⟩=some (.slice xa n xk))∧W.cell? ⟨yb,yo,none⟩=some (.int .i64 yr)∧W.cell? ⟨yb,yo+1,none⟩=some (.int .i64 yc)∧W.cell? ⟨yb,yo+2,none⟩=some (.slice ya m yk)):=I (fun W hb=>by
  have f:∀ {p:Addr} {v:Value},w.cell? p=some v→W.cell? p=some v:=fun h=>(hb.cell (World.block_lt_of_cell? _ _ h)).trans h
  exact ⟨f hm,⟨f hx0,f hx1,f hx2⟩,f hy0,f hy1,f hy2⟩)
 have KM:=I (fun W (hb:Below w.heap.size w W)=>gT W mb mo ma mk ls (HLS.out.below hb) (by rw [←HL.out];exact (CW.out W hb).1))
 have KX:=I (fun W (hb:Below w.heap.size w W)=>fZ W xb xo xr xc xa n xk hnm (CW.out W hb).2.1.1 (CW.out W hb).2.1.2.1 (CW.out W hb).2.1.2.2)
 have KY:=I (fun W (hb:Below w.heap.size w W)=>fZ W yb yo yr yc ya m yk hmm (CW.out W hb).2.2.1 (CW.out W hb).2.2.2.1 (CW.out W hb).2.2.2.2)
 have hpxy:(.pointer (some ⟨xb,xo,none⟩):Value)≠.pointer (some ⟨yb,yo,none⟩):=by intro e;injection e with e;injection e with e;injection e with e;exact hxy e
 have HPXY:=I hpxy
 clear hm hls hx0 hx1 hx2 hx hy0 hy1 hy2 hy hN hM hL hxy hnm hmm hpxy
 have hts:=TN.start w
 have HT:=I hts
 clear hts
 obtain ⟨v1,hv1⟩:∃W,W=(w.alloc (.cells #[] 74)).alloc (.cells #[] 2):=⟨_,rfl⟩
 rw [←hv1] at HT
 have HV1:=I hv1
 clear hv1
 have VN:Hid (∀b1 b2 b3,VM b1 b2 b3 (.pointer (some ⟨xb,xo,none⟩)) (.pointer (some ⟨yb,yo,none⟩)) 53 #[.pointer (some ⟨mb,mo,none⟩)] (.bool b1)∧VM b1 b2 b3 (.pointer (some ⟨xb,xo,none⟩)) (.pointer (some ⟨yb,yo,none⟩)) 54 #[.pointer (some ⟨xb,xo,none⟩)] (.bool b2)∧VM b1 b2 b3 (.pointer (some ⟨xb,xo,none⟩)) (.pointer (some ⟨yb,yo,none⟩)) 54 #[.pointer (some ⟨yb,yo,none⟩)] (.bool b3)):=I (fun b1 b2 b3=>⟨⟨fun _=>rfl,fun e=>absurd e (by decide)⟩,⟨fun e=>absurd e (by decide),fun _=>⟨fun _=>rfl,fun e=>by injection e with e;injection e with e;exact absurd e HPXY.out⟩⟩,⟨fun e=>absurd e (by decide),fun _=>⟨fun e=>by injection e with e;injection e with e;exact absurd e.symm HPXY.out,fun _=>rfl⟩⟩⟩)
 rw [←HN.out,←HM.out] at hA
 rw [←HL.out] at hB
 simp only [Bool.and_eq_true,decide_eq_true_eq] at hA
 obtain ⟨e1,e2,e3,e4⟩:=hA
 rw [e1] at KM
 rw [e2] at KX
 rw [e3] at KY
 subst e4
 have hln:=jM e1
 rw [List.length_map,←HL.out] at hln
 obtain ⟨l0,hl0⟩:=getElem?_lt (show 0 < ls.length by rw [←HL.out];omega)
 obtain ⟨q,hq⟩:∃q,q=L - 1:=⟨_,rfl⟩
 obtain ⟨lq,hlq⟩:=getElem?_lt (show q < ls.length by rw [←HL.out];omega)
 have a0:(cG (ls.map LayD.toLayP) 0).i=l0.i:=by rw [dM (l:=l0.toLayP) (by rw [List.getElem?_map,hl0];rfl)]
 have aq:(cG (ls.map LayD.toLayP) (L - 1)).o=lq.o:=by rw [←hq,dM (l:=lq.toLayP) (by rw [List.getElem?_map,hlq];rfl)]
 rw [a0,aq] at HG hB
 obtain ⟨lb,loff,hma,hlbl,⟨-,c01,-,-,-⟩,-,-⟩:=bG HLS.out hl0
 obtain ⟨lb2,loff2,hma2,-,⟨-,-,cq2,-,-⟩,-,-⟩:=bG HLS.out hlq
 rw [hma] at hma2;cases hma2
 subst hma
 obtain ⟨li,hli⟩:∃x,x=l0.i:=⟨_,rfl⟩
 obtain ⟨lo,hlo⟩:∃x,x=lq.o:=⟨_,rfl⟩
 rw [←hli] at c01 HG hB
 rw [←hlo] at cq2 HG hB
 have hq0:(0:Int)≤(q:Int):=by omega
 have hqL:(q:Int) < (L:Int):=by omega
 have hqn:q < L:=by omega
 have hL0:0 < L:=by omega
 have hwq:IntKind.i64.wrap ((L:Int) - 1)=(q:Int):=by rw [IntKind.wrap_i64];omega
 have CL:Hid (∀W,Below w.heap.size w W→W.cell? ⟨lb,loff+1,none⟩=some (.int .i64 li)∧W.cell? ⟨lb,loff+q * 5+2,none⟩=some (.int .i64 lo)):=I (fun W hb=>⟨(hb.cell (p:=⟨lb,loff+1,none⟩) hlbl).trans (by simpa using c01),(hb.cell (p:=⟨lb,loff+q * 5+2,none⟩) hlbl).trans cq2⟩)
 have HLN:=I hln;have HQ:=I hq
 clear c01 cq2 a0 aq hl0 hlq hli hlo hlbl hln hq
 obtain ⟨z1,z2⟩:=CL.out v1 HT.out.below
 by_cases e5:xc=li
 rotate_left
 ·have f1:(xc != li)=true:=by simpa using e5
  have f2:(xc == li)=false:=by simpa using e5
  have HRN:Hid (R=none):=I (by rw [HR.out];exact cS (by rw [HG.out];simp [e5]))
  clear e1 e2 e3 e5
  obtain ⟨hc0,⟨hc1,hc2,hc3⟩,hc4,hc5,hc6⟩:=CW.out v1 HT.out.below
  try clear CL
  try clear HLN
  try clear HQ
  clear HG HR HLS HX HY HN HM HL CW HPXY hi0 hz0 hzs hz2 hj0 jz0 jzs jz2
  go_enter Tryz.func83,Tryz.ntmps83
  go_upto_region 3 with fail
  rw [←HV1.out]
  refine aN (VM true true true (.pointer (some ⟨xb,xo,none⟩)) (.pointer (some ⟨yb,yo,none⟩))) (by kernel_rfl) (by kernel_rfl) ?_
  iterate 1 (first | (refine aY (by rfl) (fun K hK=>?_);go_simp;refine hK _ ?_;clear hK K) | (refine aR (by rfl) (fun K hK nq=>?_);go_simp;refine hK _ ?_;clear hK K))
  refine aR (by rfl) (fun K hK nq=>?_)
  go_simp
  refine ⟨(KM.out _ (HT.out.move (below_drewN (O _ _) nq)).below).mono ?_,?_⟩
  ·rintro e w' ⟨rfl,hd⟩
   exact ⟨_,rfl,bI hd,(VN.out true true true).1⟩
  rintro v hv
  obtain rfl:=hv.1 rfl
  refine hK _ ?_
  clear hK K hv
  iterate 3 (first | (refine aY (by rfl) (fun K hK=>?_);go_simp;refine hK _ ?_;clear hK K) | (refine aR (by rfl) (fun K hK nq=>?_);go_simp;refine hK _ ?_;clear hK K))
  refine aR (by rfl) (fun K hK nq=>?_)
  go_simp
  refine ⟨(KX.out _ (HT.out.move (below_drewN (O _ _) nq)).below).mono ?_,?_⟩
  ·rintro e w' ⟨rfl,hd⟩
   exact ⟨_,rfl,bI hd,(VN.out true true true).2.1⟩
  rintro v hv
  obtain rfl:=(hv.2 rfl).1 rfl
  refine hK _ ?_
  clear hK K hv
  iterate 4 (first | (refine aY (by rfl) (fun K hK=>?_);go_simp;refine hK _ ?_;clear hK K) | (refine aR (by rfl) (fun K hK nq=>?_);go_simp;refine hK _ ?_;clear hK K))
  refine aR (by rfl) (fun K hK nq=>?_)
  go_simp
  refine ⟨(KY.out _ (HT.out.move (below_drewN (O _ _) nq)).below).mono ?_,?_⟩
  ·rintro e w' ⟨rfl,hd⟩
   exact ⟨_,rfl,bI hd,(VN.out true true true).2.2⟩
  rintro v hv
  obtain rfl:=(hv.2 rfl).2 rfl
  refine hK _ ?_
  clear hK K hv
  iterate 47 (first | (refine aY (by rfl) (fun K hK=>?_);go_simp;refine hK _ ?_;clear hK K) | (refine aR (by rfl) (fun K hK nq=>?_);go_simp;refine hK _ ?_;clear hK K))
  refine bD ?_
  rintro w' ⟨q,rfl⟩
  have HT1:=I (HT.out.move (below_drewN (O _ _) q))
  clear hc0 hc1 hc2 hc3 hc4 hc5 hc6 HT HV1 KM KX KY VN
  generalize v1.drewN q=v2 at HT1 ⊢
  go_wp2
  go_ret3
  exact ⟨_,_,_,_,_,_,false,rfl,I ⟨by rw [HRN.out];rfl,fun h=>by cases h⟩,HT1.out.below⟩
 subst e5
 rw [decide_eq_true rfl,Bool.true_and] at hB
 by_cases e6:yc=lo
 rotate_left
 ·have f1:(yc != lo)=true:=by simpa using e6
  have f2:(yc == lo)=false:=by simpa using e6
  have HRN:Hid (R=none):=I (by rw [HR.out];exact cS (by rw [HG.out];simp [e6]))
  clear e1 e2 e3 e6
  obtain ⟨hc0,⟨hc1,hc2,hc3⟩,hc4,hc5,hc6⟩:=CW.out v1 HT.out.below
  try clear CL
  try clear HLN
  try clear HQ
  clear HG HR HLS HX HY HN HM HL CW HPXY hi0 hz0 hzs hz2 hj0 jz0 jzs jz2
  go_enter Tryz.func83,Tryz.ntmps83
  go_upto_region 3 with fail
  rw [←HV1.out]
  refine aN (VM true true true (.pointer (some ⟨xb,xo,none⟩)) (.pointer (some ⟨yb,yo,none⟩))) (by kernel_rfl) (by kernel_rfl) ?_
  iterate 1 (first | (refine aY (by rfl) (fun K hK=>?_);go_simp;refine hK _ ?_;clear hK K) | (refine aR (by rfl) (fun K hK nq=>?_);go_simp;refine hK _ ?_;clear hK K))
  refine aR (by rfl) (fun K hK nq=>?_)
  go_simp
  refine ⟨(KM.out _ (HT.out.move (below_drewN (O _ _) nq)).below).mono ?_,?_⟩
  ·rintro e w' ⟨rfl,hd⟩
   exact ⟨_,rfl,bI hd,(VN.out true true true).1⟩
  rintro v hv
  obtain rfl:=hv.1 rfl
  refine hK _ ?_
  clear hK K hv
  iterate 3 (first | (refine aY (by rfl) (fun K hK=>?_);go_simp;refine hK _ ?_;clear hK K) | (refine aR (by rfl) (fun K hK nq=>?_);go_simp;refine hK _ ?_;clear hK K))
  refine aR (by rfl) (fun K hK nq=>?_)
  go_simp
  refine ⟨(KX.out _ (HT.out.move (below_drewN (O _ _) nq)).below).mono ?_,?_⟩
  ·rintro e w' ⟨rfl,hd⟩
   exact ⟨_,rfl,bI hd,(VN.out true true true).2.1⟩
  rintro v hv
  obtain rfl:=(hv.2 rfl).1 rfl
  refine hK _ ?_
  clear hK K hv
  iterate 4 (first | (refine aY (by rfl) (fun K hK=>?_);go_simp;refine hK _ ?_;clear hK K) | (refine aR (by rfl) (fun K hK nq=>?_);go_simp;refine hK _ ?_;clear hK K))
  refine aR (by rfl) (fun K hK nq=>?_)
  go_simp
  refine ⟨(KY.out _ (HT.out.move (below_drewN (O _ _) nq)).below).mono ?_,?_⟩
  ·rintro e w' ⟨rfl,hd⟩
   exact ⟨_,rfl,bI hd,(VN.out true true true).2.2⟩
  rintro v hv
  obtain rfl:=(hv.2 rfl).2 rfl
  refine hK _ ?_
  clear hK K hv
  iterate 47 (first | (refine aY (by rfl) (fun K hK=>?_);go_simp;refine hK _ ?_;clear hK K) | (refine aR (by rfl) (fun K hK nq=>?_);go_simp;refine hK _ ?_;clear hK K))
  refine bD ?_
  rintro w' ⟨q,rfl⟩
  have HT1:=I (HT.out.move (below_drewN (O _ _) q))
  clear hc0 hc1 hc2 hc3 hc4 hc5 hc6 HT HV1 KM KX KY VN
  generalize v1.drewN q=v2 at HT1 ⊢
  go_wp2
  go_ret3
  exact ⟨_,_,_,_,_,_,false,rfl,I ⟨by rw [HRN.out];rfl,fun h=>by cases h⟩,HT1.out.below⟩
 rw [decide_eq_true e6] at hB
 cases hB
theorem vK (w:World) (mb mo xb xo yb yo:Nat) (ma:Option Addr) (mk:Nat) (ls:List LayD) (xr xc yr yc:Int) (xa ya:Option Addr) (xk yk:Nat) (xs ys:List Nat) (num:Nat) (hnum:num < 4294967296)
  (hm:w.cell? ⟨mb,mo,none⟩=some (.slice ma ls.length mk)) (hls:SeeR aX w ma mk ls)
  (hx0:w.cell? ⟨xb,xo,none⟩=some (.int .i64 xr)) (hx1:w.cell? ⟨xb,xo+1,none⟩=some (.int .i64 xc)) (hx2:w.cell? ⟨xb,xo+2,none⟩=some (.slice xa xs.length xk)) (hx:F32s w xa xk xs)
  (hy0:w.cell? ⟨yb,yo,none⟩=some (.int .i64 yr)) (hy1:w.cell? ⟨yb,yo+1,none⟩=some (.int .i64 yc)) (hy2:w.cell? ⟨yb,yo+2,none⟩=some (.slice ya ys.length yk)) (hy:F32s w ya yk ys) (hxy:xb≠yb) :
  Calls Tryz.prog 83 #[.pointer (some ⟨mb,mo,none⟩),.pointer (some ⟨xb,xo,none⟩),.pointer (some ⟨yb,yo,none⟩),.float .f32 num] w (yF (bH (ls.map fun l=>l.toLayP.can) ⟨xr,xc,xs.map (cn .f32)⟩ ⟨yr,yc,ys.map (cn .f32)⟩ (cn .f32 num)) w):=by
 obtain ⟨i0,hi0,hz0,hzs,hz2⟩:=info_parts lK
 obtain ⟨j0,hj0,jz0,jzs,jz2⟩:=info_parts kM
 by_cases hA:(dG (ls.map LayD.toLayP) && (dZ xr xc xs.length && (dZ yr yc ys.length && decide (xr=yr))))=true
 rotate_left
 ·exact pO w mb mo xb xo yb yo ma mk ls xr xc yr yc xa ya xk yk xs ys num hnum hm hls hx0 hx1 hx2 hx hy0 hy1 hy2 hy hxy (by simpa using hA)
 by_cases hB:(decide (xc=(cG (ls.map LayD.toLayP) 0).i) && decide (yc=(cG (ls.map LayD.toLayP) (ls.length - 1)).o))=true
 rotate_left
 ·exact pT w mb mo xb xo yb yo ma mk ls xr xc yr yc xa ya xk yk xs ys num hnum hm hls hx0 hx1 hx2 hx hy0 hy1 hy2 hy hxy hA (by simpa using hB)
 obtain ⟨R,hR⟩:∃R,R=bH (ls.map fun l=>l.toLayP.can) ⟨xr,xc,xs.map (cn .f32)⟩ ⟨yr,yc,ys.map (cn .f32)⟩ (cn .f32 num):=⟨_,rfl⟩
 rw [←hR]
 have HR:=I hR
 have hgood:fR (ls.map fun l=>l.toLayP.can) ⟨xr,xc,xs.map (cn .f32)⟩ ⟨yr,yc,ys.map (cn .f32)⟩=(dG (ls.map LayD.toLayP) && (dZ xr xc xs.length && (dZ yr yc ys.length && (decide (xr=yr) && (decide (xc=(cG (ls.map LayD.toLayP) 0).i) && decide (yc=(cG (ls.map LayD.toLayP) (ls.length - 1)).o)))))):=by
  have e:(ls.map fun l=>l.toLayP.can)=(ls.map LayD.toLayP).map LayP.can:=by rw [List.map_map];rfl
  unfold fR
  rw [e,mS,(gE _ _).1,(gE _ _).2]
  simp only [List.length_map]
 have HG:=I hgood
 clear hR hgood
 obtain ⟨n,hN⟩:∃n,n=xs.length:=⟨_,rfl⟩
 obtain ⟨m,hM⟩:∃m,m=ys.length:=⟨_,rfl⟩
 obtain ⟨L,hL⟩:∃L,L=ls.length:=⟨_,rfl⟩
 rw [←hN] at hx2 HG
 rw [←hM] at hy2 HG
 rw [←hL] at hm HG
 have HN:=I hN;have HM:=I hM;have HL:=I hL
 have hnm:=Nat.le_trans hx.len hx.cap
 have hmm:=Nat.le_trans hy.len hy.cap
 rw [←hN] at hnm
 rw [←hM] at hmm
 have HLS:=I hls;have HX:=I hx;have HY:=I hy
 have CW:Hid (∀W,Below w.heap.size w W→W.cell? ⟨mb,mo,none⟩=some (.slice ma L mk)∧(W.cell? ⟨xb,xo,none⟩=some (.int .i64 xr)∧W.cell? ⟨xb,xo+1,none⟩=some (.int .i64 xc)∧W.cell? ⟨xb,xo+2,none⟩=some (.slice xa n xk))∧W.cell? ⟨yb,yo,none⟩=some (.int .i64 yr)∧W.cell? ⟨yb,yo+1,none⟩=some (.int .i64 yc)∧W.cell? ⟨yb,yo+2,none⟩=some (.slice ya m yk)):=I (fun W hb=>by
  have f:∀ {p:Addr} {v:Value},w.cell? p=some v→W.cell? p=some v:=fun h=>(hb.cell (World.block_lt_of_cell? _ _ h)).trans h
  exact ⟨f hm,⟨f hx0,f hx1,f hx2⟩,f hy0,f hy1,f hy2⟩)
 have KM:=I (fun W (hb:Below w.heap.size w W)=>gT W mb mo ma mk ls (HLS.out.below hb) (by rw [←HL.out];exact (CW.out W hb).1))
 have KX:=I (fun W (hb:Below w.heap.size w W)=>fZ W xb xo xr xc xa n xk hnm (CW.out W hb).2.1.1 (CW.out W hb).2.1.2.1 (CW.out W hb).2.1.2.2)
 have KY:=I (fun W (hb:Below w.heap.size w W)=>fZ W yb yo yr yc ya m yk hmm (CW.out W hb).2.2.1 (CW.out W hb).2.2.2.1 (CW.out W hb).2.2.2.2)
 have hpxy:(.pointer (some ⟨xb,xo,none⟩):Value)≠.pointer (some ⟨yb,yo,none⟩):=by intro e;injection e with e;injection e with e;injection e with e;exact hxy e
 have HPXY:=I hpxy
 clear hm hls hx0 hx1 hx2 hx hy0 hy1 hy2 hy hN hM hL hxy hnm hmm hpxy
 have hts:=TN.start w
 have HT:=I hts
 clear hts
 obtain ⟨v1,hv1⟩:∃W,W=(w.alloc (.cells #[] 74)).alloc (.cells #[] 2):=⟨_,rfl⟩
 rw [←hv1] at HT
 have HV1:=I hv1
 clear hv1
 have VN:Hid (∀b1 b2 b3,VM b1 b2 b3 (.pointer (some ⟨xb,xo,none⟩)) (.pointer (some ⟨yb,yo,none⟩)) 53 #[.pointer (some ⟨mb,mo,none⟩)] (.bool b1)∧VM b1 b2 b3 (.pointer (some ⟨xb,xo,none⟩)) (.pointer (some ⟨yb,yo,none⟩)) 54 #[.pointer (some ⟨xb,xo,none⟩)] (.bool b2)∧VM b1 b2 b3 (.pointer (some ⟨xb,xo,none⟩)) (.pointer (some ⟨yb,yo,none⟩)) 54 #[.pointer (some ⟨yb,yo,none⟩)] (.bool b3)):=I (fun b1 b2 b3=>⟨⟨fun _=>rfl,fun e=>absurd e (by decide)⟩,⟨fun e=>absurd e (by decide),fun _=>⟨fun _=>rfl,fun e=>by injection e with e;injection e with e;exact absurd e HPXY.out⟩⟩,⟨fun e=>absurd e (by decide),fun _=>⟨fun e=>by injection e with e;injection e with e;exact absurd e.symm HPXY.out,fun _=>rfl⟩⟩⟩)
 rw [←HN.out,←HM.out] at hA
 rw [←HL.out] at hB
 simp only [Bool.and_eq_true,decide_eq_true_eq] at hA hB
 obtain ⟨e1,e2,e3,e4⟩:=hA
 rw [e1] at KM
 rw [e2] at KX
 rw [e3] at KY
 subst e4
 have hln:=jM e1
 rw [List.length_map,←HL.out] at hln
 obtain ⟨l0,hl0⟩:=getElem?_lt (show 0 < ls.length by rw [←HL.out];omega)
 obtain ⟨q,hq⟩:∃q,q=L - 1:=⟨_,rfl⟩
 obtain ⟨lq,hlq⟩:=getElem?_lt (show q < ls.length by rw [←HL.out];omega)
 have a0:(cG (ls.map LayD.toLayP) 0).i=l0.i:=by rw [dM (l:=l0.toLayP) (by rw [List.getElem?_map,hl0];rfl)]
 have aq:(cG (ls.map LayD.toLayP) (L - 1)).o=lq.o:=by rw [←hq,dM (l:=lq.toLayP) (by rw [List.getElem?_map,hlq];rfl)]
 rw [a0,aq] at HG hB
 obtain ⟨lb,loff,hma,hlbl,⟨-,c01,-,-,-⟩,-,-⟩:=bG HLS.out hl0
 obtain ⟨lb2,loff2,hma2,-,⟨-,-,cq2,-,-⟩,-,-⟩:=bG HLS.out hlq
 rw [hma] at hma2;cases hma2
 subst hma
 obtain ⟨li,hli⟩:∃x,x=l0.i:=⟨_,rfl⟩
 obtain ⟨lo,hlo⟩:∃x,x=lq.o:=⟨_,rfl⟩
 rw [←hli] at c01 HG hB
 rw [←hlo] at cq2 HG hB
 have hq0:(0:Int)≤(q:Int):=by omega
 have hqL:(q:Int) < (L:Int):=by omega
 have hqn:q < L:=by omega
 have hL0:0 < L:=by omega
 have hwq:IntKind.i64.wrap ((L:Int) - 1)=(q:Int):=by rw [IntKind.wrap_i64];omega
 have CL:Hid (∀W,Below w.heap.size w W→W.cell? ⟨lb,loff+1,none⟩=some (.int .i64 li)∧W.cell? ⟨lb,loff+q * 5+2,none⟩=some (.int .i64 lo)):=I (fun W hb=>⟨(hb.cell (p:=⟨lb,loff+1,none⟩) hlbl).trans (by simpa using c01),(hb.cell (p:=⟨lb,loff+q * 5+2,none⟩) hlbl).trans cq2⟩)
 have HLN:=I hln;have HQ:=I hq
 clear c01 cq2 a0 aq hl0 hlq hli hlo hlbl hln hq
 obtain ⟨z1,z2⟩:=CL.out v1 HT.out.below
 obtain ⟨e5,e6⟩:=hB
 subst e5
 subst e6
 have HRS:Hid (R=(kZ (ls.map fun l=>l.toLayP.can) ⟨xr,xc,xs.map (cn .f32)⟩ ⟨xr,yc,ys.map (cn .f32)⟩ L).map fun s=>(vF s (cn .f32 num),s.ws)):=I (by rw [HR.out];unfold bH;rw [if_pos (by rw [HG.out,e1,e2,e3];simp),List.length_map,←HL.out])
 have HMB:=I e1
 obtain ⟨hxt,hyt⟩:=And.intro (eA.1 e2) (eA.1 e3)
 have HXT:=I hxt;have HYT:=I hyt
 clear e1 e2 e3 HR HG hxt hyt
 obtain ⟨hc0,⟨hc1,hc2,hc3⟩,hc4,hc5,hc6⟩:=CW.out v1 HT.out.below
 have PACK:=I (And.intro (And.intro HRS.out (And.intro HMB.out (And.intro HXT.out HYT.out))) (And.intro (And.intro HX.out (And.intro HY.out (And.intro HN.out (And.intro HM.out HL.out)))) (And.intro (And.intro HLS.out (And.intro CW.out (And.intro HLN.out HQ.out))) (And.intro (And.intro hi0 (And.intro hz0 (And.intro hzs hz2))) (And.intro hj0 (And.intro jz0 (And.intro jzs jz2)))))))
 clear HRS HMB HXT HYT HX HY HN HM HL HLS CW HLN HQ hi0 hz0 hzs hz2 hj0 jz0 jzs jz2 HPXY CL
 go_enter Tryz.func83,Tryz.ntmps83
 go_upto_region 3 with fail
 rw [←HV1.out]
 refine aN (VM true true true (.pointer (some ⟨xb,xo,none⟩)) (.pointer (some ⟨yb,yo,none⟩))) (by kernel_rfl) (by kernel_rfl) ?_
 iterate 1 (first | (refine aY (by rfl) (fun K hK=>?_);go_simp;refine hK _ ?_;clear hK K) | (refine aR (by rfl) (fun K hK nq=>?_);go_simp;refine hK _ ?_;clear hK K))
 refine aR (by rfl) (fun K hK nq=>?_)
 go_simp
 refine ⟨(KM.out _ (HT.out.move (below_drewN (O _ _) nq)).below).mono ?_,?_⟩
 ·rintro e w' ⟨rfl,hd⟩
  exact ⟨_,rfl,bI hd,(VN.out true true true).1⟩
 rintro v hv
 obtain rfl:=hv.1 rfl
 refine hK _ ?_
 clear hK K hv
 iterate 3 (first | (refine aY (by rfl) (fun K hK=>?_);go_simp;refine hK _ ?_;clear hK K) | (refine aR (by rfl) (fun K hK nq=>?_);go_simp;refine hK _ ?_;clear hK K))
 refine aR (by rfl) (fun K hK nq=>?_)
 go_simp
 refine ⟨(KX.out _ (HT.out.move (below_drewN (O _ _) nq)).below).mono ?_,?_⟩
 ·rintro e w' ⟨rfl,hd⟩
  exact ⟨_,rfl,bI hd,(VN.out true true true).2.1⟩
 rintro v hv
 obtain rfl:=(hv.2 rfl).1 rfl
 refine hK _ ?_
 clear hK K hv
 iterate 4 (first | (refine aY (by rfl) (fun K hK=>?_);go_simp;refine hK _ ?_;clear hK K) | (refine aR (by rfl) (fun K hK nq=>?_);go_simp;refine hK _ ?_;clear hK K))
 refine aR (by rfl) (fun K hK nq=>?_)
 go_simp
 refine ⟨(KY.out _ (HT.out.move (below_drewN (O _ _) nq)).below).mono ?_,?_⟩
 ·rintro e w' ⟨rfl,hd⟩
  exact ⟨_,rfl,bI hd,(VN.out true true true).2.2⟩
 rintro v hv
 obtain rfl:=(hv.2 rfl).2 rfl
 refine hK _ ?_
 clear hK K hv
 iterate 47 (first | (refine aY (by rfl) (fun K hK=>?_);go_simp;refine hK _ ?_;clear hK K) | (refine aR (by rfl) (fun K hK nq=>?_);go_simp;refine hK _ ?_;clear hK K))
 refine bD ?_
 rintro w' ⟨q,rfl⟩
 have HT1:=I (HT.out.move (below_drewN (O _ _) q))
 clear hc0 hc1 hc2 hc3 hc4 hc5 hc6 HT HV1 KM KX KY VN
 generalize v1.drewN q=v2 at HT1 ⊢
 clear z1 z2 hq0 hqL hqn hL0 hwq
 obtain ⟨⟨h1,h2,h3,h4⟩,⟨h5,h6,h7,h8,h9⟩,⟨h10,h11,h12,h13⟩,⟨hi0,hz0,hzs,hz2⟩,hj0,jz0,jzs,jz2⟩:=PACK.out
 have HRS:=I h1;have HMB:=I h2;have HXT:=I h3;have HYT:=I h4;have HX:=I h5;have HY:=I h6;have HN:=I h7;have HM:=I h8;have HL:=I h9;have HLS:=I h10;have CW:=I h11;have HLN:=I h12;have HQ:=I h13
 clear h1 h2 h3 h4 h5 h6 h7 h8 h9 h10 h11 h12 h13 PACK
 obtain ⟨r,rfl⟩:∃r:Nat,xr=r:=⟨xr.toNat,by have:=HXT.out.1;omega⟩
 obtain ⟨c,rfl⟩:∃c:Nat,xc=c:=⟨xc.toNat,by have:=HXT.out.2.1;omega⟩
 obtain ⟨d,rfl⟩:∃d:Nat,yc=d:=⟨yc.toNat,by have:=HYT.out.2.1;omega⟩
 have hrb:1≤r∧r≤16:=by have:=HXT.out.1;omega
 have hcb:1≤c∧c≤16:=by have:=HXT.out.2.1;omega
 have hdb:1≤d∧d≤16:=by have:=HYT.out.2.1;omega
 have hnx:n=r * c:=by have:=HXT.out.2.2;exact_mod_cast this
 have hmy:m=r * d:=by have:=HYT.out.2.2;exact_mod_cast this
 have hn2:n≤256:=by rw [hnx];exact Nat.mul_le_mul hrb.2 hcb.2
 have hm2:m≤256:=by rw [hmy];exact Nat.mul_le_mul hrb.2 hdb.2
 have sx:=fun W (hb:Below w.heap.size w W)=>cY W xb xo (r:Int) c xa xk n xs (CW.out W hb).2.1.2.1 (CW.out W hb).2.1.2.2 (HX.out.below hb) HN.out.symm hn2 0 r hrb.1 hcb.1 (by decide) (by omega) (by rw [Nat.zero_add,←hnx];exact J _)
 have sy:=fun W (hb:Below w.heap.size w W)=>cY W yb yo (r:Int) d ya yk m ys (CW.out W hb).2.2.2.1 (CW.out W hb).2.2.2.2 (HY.out.below hb) HM.out.symm hm2 0 r hrb.1 hdb.1 (by decide) (by omega) (by rw [Nat.zero_add,←hmy];exact J _)
 have hz00:((0:Nat):Int)=0:=rfl
 have hxe:(xs.drop (0 * c)).take n=xs:=by rw [Nat.zero_mul,List.drop_zero,HN.out,List.take_length]
 have hye:(ys.drop (0 * d)).take m=ys:=by rw [Nat.zero_mul,List.drop_zero,HM.out,List.take_length]
 simp only [hz00,hxe,←hnx] at sx
 simp only [hz00,hye,←hmy] at sy
 have SX:=I sx;have SY:=I sy
 clear sx sy hz00 hxe hye hnx hmy
 obtain ⟨m0,⟨x0,x1,x2⟩,y0,y1,y2⟩:=CW.out v2 HT1.out.below
 clear m0 x1 x2 y0 y1 y2
 go_wp2_with fail
 refine (SX.out _ HT1.out.below).mono ?_
 rintro e u2 ⟨a2,k2,zs,rfl,hz,hzm,hb3⟩
 have HZ:=I hz.out;have HZM:=I hzm.out;have HB3:=I hb3
 have hzl:zs.length=n:=hz.out.len
 have HZL:=I hzl
 clear hz hzm hb3 hzl
 obtain ⟨vs,hrow,hpush⟩:=HT1.out.go HB3.out
 have HROW:=I hrow;have HPUSH:=I hpush;have HBASE:Hid (w.heap.size≤u2.heap.size):=I (HT1.out.move HB3.out).below.size
 clear hrow hpush
 go_wp2_with (at_builtin;refine cI rfl _ _ 67 rfl w.heap.size i0 (.agg #[.int .i64 0,.int .i64 0,.int .i64 0,.float .f32 0,.int .i64 0,.int .i64 0,.slice none 0 0]) 7 72 Tryz.underlying67 hi0 hz0 hzs hz2 rfl (by decide) rfl (by intro u hu;simp at hu;rcases hu with rfl | rfl | rfl | rfl | rfl | rfl | rfl <;> rfl) _ _ _ rfl HROW.out (by go_simp) ?c3 ?c4 ?c5 ?_)
 case c3=>unfold maxLen;omega
 case c4=>omega
 case c5=>exact HBASE.out
 intro v' u2' ho9 hg9 hat9 hb9 hs9
 obtain ⟨ad2,cap2,rfl,hx⟩:=HPUSH.out ⟨cX r c zs,a2,k2⟩ _ _ _ _ ⟨HZ.out.lt,(show (0:Nat) < 4294967296 by decide),rfl,rfl,rfl,lT (by omega),lT (by omega)⟩ (by have h:=HZ.out;rw [←HZL.out] at h;exact h.ownRow) (J _) HB3.out.size (by have h:=ho9;rw [←HZL.out] at h;exact h) hg9 hat9
 rw [show (⟨cX r c zs,a2,k2⟩:OpD).toOpP.can=cX r c (xs.map (cn .f32)) by rw [show (⟨cX r c zs,a2,k2⟩:OpD).toOpP=cX r c zs from rfl,kR,HZM.out]] at hx
 have HT2:=I hx
 clear ho9 hg9 hat9 hb9 hs9 hx HROW HPUSH HBASE HT1 vs
 clear HZ HZM HB3 HZL
 clear x0
 obtain ⟨m0,⟨x0,x1,x2⟩,y0,y1,y2⟩:=CW.out _ HT2.out.below
 clear m0 x0 x1 x2 y1 y2
 go_wp2_with fail
 refine (SY.out _ HT2.out.below).mono ?_
 rintro e u3 ⟨a2,k2,zs,rfl,hz,hzm,hb3⟩
 have HZ:=I hz.out;have HZM:=I hzm.out;have HB3:=I hb3
 have hzl:zs.length=m:=hz.out.len
 have HZL:=I hzl
 clear hz hzm hb3 hzl
 obtain ⟨vs,hrow,hpush⟩:=HT2.out.go HB3.out
 have HROW:=I hrow;have HPUSH:=I hpush;have HBASE:Hid (w.heap.size≤u3.heap.size):=I (HT2.out.move HB3.out).below.size
 clear hrow hpush
 go_wp2_with (at_builtin;refine cI rfl _ _ 67 rfl w.heap.size i0 (.agg #[.int .i64 0,.int .i64 0,.int .i64 0,.float .f32 0,.int .i64 0,.int .i64 0,.slice none 0 0]) 7 72 Tryz.underlying67 hi0 hz0 hzs hz2 rfl (by decide) rfl (by intro u hu;simp at hu;rcases hu with rfl | rfl | rfl | rfl | rfl | rfl | rfl <;> rfl) _ _ _ rfl HROW.out (by go_simp) ?c3 ?c4 ?c5 ?_)
 case c3=>unfold maxLen;omega
 case c4=>omega
 case c5=>exact HBASE.out
 intro v' u3' ho9 hg9 hat9 hb9 hs9
 obtain ⟨ad3,cap3,rfl,hx⟩:=HPUSH.out ⟨cX r d zs,a2,k2⟩ _ _ _ _ ⟨HZ.out.lt,(show (0:Nat) < 4294967296 by decide),rfl,rfl,rfl,lT (by omega),lT (by omega)⟩ (by have h:=HZ.out;rw [←HZL.out] at h;exact h.ownRow) (J _) HB3.out.size (by have h:=ho9;rw [←HZL.out] at h;exact h) hg9 hat9
 rw [show (⟨cX r d zs,a2,k2⟩:OpD).toOpP.can=cX r d (ys.map (cn .f32)) by rw [show (⟨cX r d zs,a2,k2⟩:OpD).toOpP=cX r d zs from rfl,kR,HZM.out]] at hx
 have HT3:=I hx
 clear ho9 hg9 hat9 hb9 hs9 hx HROW HPUSH HBASE HT2 vs
 clear HZ HZM HB3 HZL
 clear y0 SX SY
 have WFI:Hid (∀x:Int,0≤x→x≤1000000→(Lit.int .i64 x).wf=true):=I (fun x h0 h1=>by obtain ⟨y,rfl⟩:∃y:Nat,x=y:=⟨x.toNat,by omega⟩;exact lT (by omega))
 rw [List.nil_append] at HT3
 have HS0:Hid (kZ (ls.map fun l=>l.toLayP.can) ⟨r,c,xs.map (cn .f32)⟩ ⟨r,d,ys.map (cn .f32)⟩ 0=some ⟨[cX r c (xs.map (cn .f32))] ++ [cX r d (ys.map (cn .f32))],[],0⟩):=I rfl
 have CM:Hid (∀W,Below w.heap.size w W→W.cell? ⟨mb,mo,none⟩=some (.slice (some ⟨lb,loff,none⟩) L mk)):=I (fun W hb=>(CW.out W hb).1)
 clear CW HX HY HXT HYT
 obtain ⟨PP,hPP⟩:∃P,P=ls.map fun l=>l.toLayP.can:=⟨_,rfl⟩
 obtain ⟨XX,hXX⟩:∃X:TenP,X=⟨r,c,xs.map (cn .f32)⟩:=⟨_,rfl⟩
 obtain ⟨YY,hYY⟩:∃Y:TenP,Y=⟨r,d,ys.map (cn .f32)⟩:=⟨_,rfl⟩
 rw [←hPP,←hXX,←hYY] at HRS HS0
 have HPP:=I hPP
 clear hPP hXX hYY
 have hL6:=HLN.out.2
 go_wp2
 go_loopw [11,12,13,14] (fun tp wv pv iv wr => ∃k n cap wk:Nat,∃ad wa:Option Addr,∃s:MS,iv=.int .i64 k∧tp=.slice ad n cap∧wv=.slice wa s.ws.length wk∧pv=.int .i64 s.p∧k≤L∧(2≤n∧n≤2+5 * k∧0≤s.p∧s.p < n)∧Hid (kZ PP XX YY k=some s∧s.ops.length=n∧(∀x∈s.ws,(Lit.int .i64 x).wf=true))∧s.ws.length≤2 * k∧Hid (TN w wr ad n cap s.ops [bQ wa wk s.ws])) (fun _ _ _ iv _=>L - (intOf iv).toNat)
 case atStart=>exact ⟨0,2,cap3,0,ad3,_,_,rfl,rfl,rfl,rfl,Nat.zero_le _,⟨by omega,by omega,Int.le_refl 0,(show (0:Int) < 2 by decide)⟩,I ⟨HS0.out,rfl,fun x hx=>nomatch hx⟩,Nat.zero_le _,HT3⟩
 case round =>
  clear HT3 HS0
  obtain ⟨k,n,cap,wk,ad,wa,⟨ops,ws,p⟩,rfl,rfl,rfl,rfl,hk,⟨hn2,hn5,hp0,hpn⟩,HS,hwl,HT⟩:=hrel
  simp only at hp0 hpn hwl
  have m0:=CM.out wr HT.out.below
  by_cases hlt:k < L
  ·obtain ⟨l,hl⟩:=getElem?_lt (show k < ls.length by rw [←HL.out];exact hlt)
   obtain ⟨b',off',he',hbl,⟨p0,p1,p2,p3,p4⟩,-,hok⟩:=bG (HLS.out.below HT.out.below) hl
   obtain ⟨-,-,-,-,-,hf,-⟩:=bG HLS.out hl
   cases he'
   have hlay:jW l.toLayP=true:=kQ HMB.out (k:=k) (by rw [List.getElem?_map,hl];rfl)
   have hst:kZ PP XX YY (k+1)=fQ ⟨ops,ws,p⟩ l.toLayP.can:=zU HS.out.1 (by rw [HPP.out,List.getElem?_map,hl];rfl)
   have hbd:=jL hlay
   have hcl:=xY hlay
   obtain ⟨⟨lk,li2,lo2,lws,lbs⟩,wa2,wk2,ba2,bk2⟩:=l
   simp only at p0 p1 p2 p3 p4 hf hbd hcl
   obtain ⟨lm,hlm⟩:∃x,x=lws.length:=⟨_,rfl⟩
   obtain ⟨bm,hbm⟩:∃x,x=lbs.length:=⟨_,rfl⟩
   rw [←hlm] at p3 hbd hcl
   rw [←hbm] at p4 hbd hcl
   have HST:=I hst;have HBD:=I hbd;have HLM:=I hlm;have HBM:=I hbm;have HF:=I hf
   have hcl1:=hcl.1;have hcl2:=hcl.2
   clear hl hok hlay hst hbd hcl hf hlm hbm
   go_upto_region 12 with fail
   have HTA:Hid (TN w (wr.alloc (.cells #[.int .i64 lk,.int .i64 li2,.int .i64 lo2,.slice wa2 lm wk2,.slice ba2 bm bk2] 99)) ad n cap ops [aZ 99 wr.heap.size [.int .i64 lk,.int .i64 li2,.int .i64 lo2,.slice wa2 lm wk2,.slice ba2 bm bk2],bQ wa wk ws]):=I (HT.out.alloc #[.int .i64 lk,.int .i64 li2,.int .i64 lo2,.slice wa2 lm wk2,.slice ba2 bm bk2] 99)
   have HFA:Hid (∀W,Below w.heap.size w W→F32s W wa2 wk2 lws∧F32s W ba2 bk2 lbs):=I (fun W hb=>⟨HF.out.1.below hb,HF.out.2.below hb⟩)
   clear HT m0 p0 p1 p2 p3 p4 hbl HF
   generalize wr.alloc (.cells #[.int .i64 lk,.int .i64 li2,.int .i64 lo2,.slice wa2 lm wk2,.slice ba2 bm bk2] 99)=W1 at HTA ⊢
   generalize wr.heap.size=gb at HTA ⊢
   have KS:Hid (∀W ad n cap C E,TN w W ad n cap C (aZ 99 gb [.int .i64 lk,.int .i64 li2,.int .i64 lo2,.slice wa2 lm wk2,.slice ba2 bm bk2] :: E)→(fun W=>W.cell? ⟨gb,0,none⟩=some (.int .i64 lk)∧W.cell? ⟨gb,1,none⟩=some (.int .i64 li2)∧W.cell? ⟨gb,2,none⟩=some (.int .i64 lo2)∧W.cell? ⟨gb,3,none⟩=some (.slice wa2 lm wk2)∧W.cell? ⟨gb,4,none⟩=some (.slice ba2 bm bk2)) W):=I (fun W ad n cap C E h=>by
    obtain ⟨-,q0,q1,q2,q3,q4,-⟩:=(h.box (List.mem_cons_self ..)).five
    exact ⟨q0,q1,q2,q3,q4⟩)
   obtain ⟨e0,e1,e2,e3,e4⟩:=KS.out W1 ad n cap ops [bQ wa wk ws] HTA.out
   clear e1 e2 e3 e4
   by_cases hk0:lk=0
   ·have f0:(lk == 0)=true:=by simp [hk0]
    have hbw:(lm:Int)=lo2 * li2∧(bm:Int)=lo2:=by have h9:=HBD.out.2.2.2.2;rw [hk0] at h9;exact h9
    have HK0:=I hk0
    clear hk0
    have hib:=HBD.out.2.1;have hob:=HBD.out.2.2.1
    have hlm1:1≤lm:=by
     have h9:0 < lo2 * li2:=Int.mul_pos (by omega) (by omega)
     omega
    have hbm1:1≤bm:=by omega
    have hwi:(Lit.int .i64 li2).wf=true:=by obtain ⟨x,rfl⟩:∃x:Nat,li2=x:=⟨li2.toNat,by omega⟩;exact lT (by omega)
    have hwo:(Lit.int .i64 lo2).wf=true:=by obtain ⟨x,rfl⟩:∃x:Nat,lo2=x:=⟨lo2.toNat,by omega⟩;exact lT (by omega)
    go_upto_region 16 with fail
    clear e0
    obtain ⟨vs,hrow,hpush⟩:=HTA.out.goA
    have HROW:=I hrow;have HPUSH:=I hpush
    clear hrow hpush
    have S0:=I (KS.out _ _ _ _ _ _ HTA.out)
    refine aL 12 [7,10,11] (fun W=>W.cell? ⟨gb,0,none⟩=some (.int .i64 lk)∧W.cell? ⟨gb,1,none⟩=some (.int .i64 li2)∧W.cell? ⟨gb,2,none⟩=some (.int .i64 lo2)∧W.cell? ⟨gb,3,none⟩=some (.slice wa2 lm wk2)∧W.cell? ⟨gb,4,none⟩=some (.slice ba2 bm bk2)) (fun _ _ _=>False) (DB lm lws) (by kernel_rfl) (by kernel_rfl) S0.out (fun W q h=>by simpa using h) ?_
    iterate 7 (refine aD (by rfl) S0.out (fun K hK W hW=>?_);obtain ⟨e0,e1,e2,e3,e4⟩:=hW;go_simp;refine hK _ ?_;clear hK K e0 e1 e2 e3 e4)
    refine aF (by rfl) S0.out (fun K hK q0=>?_)
    have D0:=I (below_drewN (O W1.heap.size W1) q0)
    have KC:=I (fH (W1.drewN q0) wa2 wk2 lws (HFA.out _ (HTA.out.move D0.out).below).1 (by intro e;obtain ⟨b,o,e2,_,_⟩:=(HFA.out _ (HTA.out.move D0.out).below).1.spot (k:=0) (by rw [←HLM.out];exact hlm1);rw [e] at e2;cases e2) (by rw [←HLM.out];omega))
    rw [←HLM.out] at KC
    go_simp
    refine ⟨KC.out.mono (fun e w5 hh=>by
     obtain ⟨a',k',he,hr5,hb5⟩:=hh
     exact ⟨_,he,a',k',rfl,hr5.out,hb5⟩),?_⟩
    rintro v w5 hd
    obtain ⟨a5,k5,rfl,hr5,hb5⟩:=hd
    have C5:=I (aA D0.out hb5)
    have R5:=I (hr5.bounds (show W1.heap.size≤_ from D0.out.size) (J _))
    have S5:=I (KS.out _ _ _ _ _ _ (HTA.out.move C5.out))
    refine ⟨S5.out,hK _ _ ?_⟩
    clear hK K hr5 hb5 KC
    iterate 2 (refine aD (by rfl) S5.out (fun K hK W hW=>?_);obtain ⟨e0,e1,e2,e3,e4⟩:=hW;go_simp;refine hK _ ?_;clear hK K e0 e1 e2 e3 e4)
    refine aF (by rfl) S5.out (fun K hK q1=>?_)
    have C6:=I (aA C5.out (below_drewN (O _ _) q1))
    have C7:=I (aA C6.out (aE (w5.drewN q1) (.cells #[.int .i64 0,.int .i64 0,.int .i64 0,.float .f32 0,.int .i64 lo2,.int .i64 li2,.slice a5 lm k5] 74)))
    have S7:=I (KS.out _ _ _ _ _ _ (HTA.out.move C7.out))
    go_simp
    refine ⟨S7.out,hK _ _ ?_⟩
    clear hK K
    refine aF (by rfl) S7.out (fun K hK q2=>?_)
    have C8:=I (aA C7.out (below_drewN (O _ _) q2))
    have HRW:=I (HROW.out _ C8.out)
    refine bP rfl _ _ 67 rfl w.heap.size 74 i0 _ 7 72 Tryz.underlying67 hi0 hz0 hzs hz2 rfl (by decide) (.slice ad n cap) n vs rfl HRW.out ⟨w5.heap.size,0,none⟩ 1 1 [.int .i64 0,.int .i64 0,.int .i64 0,.float .f32 0,.int .i64 lo2,.int .i64 li2,.slice a5 lm k5] rfl rfl (World.news_of_block (cs:=#[.int .i64 0,.int .i64 0,.int .i64 0,.float .f32 0,.int .i64 lo2,.int .i64 li2,.slice a5 lm k5]) (t:=74) (fr:=(0,0)) (heap_alloc_new (w5.drewN q1) _)) (by intro u hu;simp at hu;rcases hu with rfl | rfl | rfl | rfl | rfl | rfl | rfl <;> rfl) (by unfold maxLen;omega) (by omega) (HTA.out.move C8.out).below.size ?_
    intro v' W2 ho9 hg9 hat9 hb9
    obtain ⟨adb,capb,rfl,hx⟩:=HPUSH.out ((w5.drewN q1).drewN q2) ⟨cX lo2 li2 lws,a5,k5⟩ w5.heap.size _ _ _ (aA C6.out (below_drewN (O _ _) q2)) ⟨R5.out.okF,(show (0:Nat) < 4294967296 by decide),rfl,rfl,rfl,hwo,hwi⟩ (by have h:=((R5.out.ownRow).below (below_drewN (O _ _) q1)).below (below_drewN (O _ _) q2);exact h) (show w5.heap.size≤((w5.drewN q1).drewN q2).heap.size by simp) C5.out.size (by have h:=ho9;rw [HLM.out] at h;exact h) hg9 (by simpa using hat9)
    rw [show (⟨cX lo2 li2 lws,a5,k5⟩:OpD).toOpP.can=cX lo2 li2 (lws.map (cn .f32)) from kR _ _ _] at hx
    have HTB':=I hx
    have S9:=I (KS.out _ _ _ _ _ _ hx)
    refine ⟨S9.out,hK _ _ ?_⟩
    clear hK K ho9 hg9 hat9 hb9 hx S0 S5 S7 S9 C5 C6 C7 C8 D0 R5 HRW HROW HPUSH HTA vs
    refine aP (fun q9=>?_)
    have HTB:Hid (TN w (W2.drewN q9) adb (n+1) capb _ _):=I (HTB'.out.move (below_drewN (O _ _) q9))
    clear HTB'
    generalize W2.drewN q9=W2' at HTB ⊢
    go_upto_region 17 with fail
    obtain ⟨vs,hrow,hpush⟩:=HTB.out.goA
    have HROW:=I hrow;have HPUSH:=I hpush
    clear hrow hpush
    have S0:=I (KS.out _ _ _ _ _ _ HTB.out)
    refine aL 10 [5,8,9] (fun W=>W.cell? ⟨gb,0,none⟩=some (.int .i64 lk)∧W.cell? ⟨gb,1,none⟩=some (.int .i64 li2)∧W.cell? ⟨gb,2,none⟩=some (.int .i64 lo2)∧W.cell? ⟨gb,3,none⟩=some (.slice wa2 lm wk2)∧W.cell? ⟨gb,4,none⟩=some (.slice ba2 bm bk2)) (fun _ _ _=>False) (DB bm lbs) (by kernel_rfl) (by kernel_rfl) S0.out (fun W q h=>by simpa using h) ?_
    iterate 5 (refine aD (by rfl) S0.out (fun K hK W hW=>?_);obtain ⟨e0,e1,e2,e3,e4⟩:=hW;go_simp;refine hK _ ?_;clear hK K e0 e1 e2 e3 e4)
    refine aF (by rfl) S0.out (fun K hK q0=>?_)
    have D0:=I (below_drewN (O W2'.heap.size W2') q0)
    have KC:=I (fH (W2'.drewN q0) ba2 bk2 lbs (HFA.out _ (HTB.out.move D0.out).below).2 (by intro e;obtain ⟨b,o,e2,_,_⟩:=(HFA.out _ (HTB.out.move D0.out).below).2.spot (k:=0) (by rw [←HBM.out];exact hbm1);rw [e] at e2;cases e2) (by rw [←HBM.out];omega))
    rw [←HBM.out] at KC
    go_simp
    refine ⟨KC.out.mono (fun e w5 hh=>by
     obtain ⟨a',k',he,hr5,hb5⟩:=hh
     exact ⟨_,he,a',k',rfl,hr5.out,hb5⟩),?_⟩
    rintro v w5 hd
    obtain ⟨a5,k5,rfl,hr5,hb5⟩:=hd
    have C5:=I (aA D0.out hb5)
    have R5:=I (hr5.bounds (show W2'.heap.size≤_ from D0.out.size) (J _))
    have S5:=I (KS.out _ _ _ _ _ _ (HTB.out.move C5.out))
    refine ⟨S5.out,hK _ _ ?_⟩
    clear hK K hr5 hb5 KC
    iterate 2 (refine aD (by rfl) S5.out (fun K hK W hW=>?_);obtain ⟨e0,e1,e2,e3,e4⟩:=hW;go_simp;refine hK _ ?_;clear hK K e0 e1 e2 e3 e4)
    refine aF (by rfl) S5.out (fun K hK q1=>?_)
    have C6:=I (aA C5.out (below_drewN (O _ _) q1))
    have C7:=I (aA C6.out (aE (w5.drewN q1) (.cells #[.int .i64 0,.int .i64 0,.int .i64 0,.float .f32 0,.int .i64 1,.int .i64 lo2,.slice a5 bm k5] 74)))
    have S7:=I (KS.out _ _ _ _ _ _ (HTB.out.move C7.out))
    go_simp
    refine ⟨S7.out,hK _ _ ?_⟩
    clear hK K
    refine aF (by rfl) S7.out (fun K hK q2=>?_)
    have C8:=I (aA C7.out (below_drewN (O _ _) q2))
    have HRW:=I (HROW.out _ C8.out)
    refine bP rfl _ _ 67 rfl w.heap.size 74 i0 _ 7 72 Tryz.underlying67 hi0 hz0 hzs hz2 rfl (by decide) (.slice adb (n+1) capb) (n+1) vs rfl HRW.out ⟨w5.heap.size,0,none⟩ 1 1 [.int .i64 0,.int .i64 0,.int .i64 0,.float .f32 0,.int .i64 1,.int .i64 lo2,.slice a5 bm k5] rfl rfl (World.news_of_block (cs:=#[.int .i64 0,.int .i64 0,.int .i64 0,.float .f32 0,.int .i64 1,.int .i64 lo2,.slice a5 bm k5]) (t:=74) (fr:=(0,0)) (heap_alloc_new (w5.drewN q1) _)) (by intro u hu;simp at hu;rcases hu with rfl | rfl | rfl | rfl | rfl | rfl | rfl <;> rfl) (by unfold maxLen;omega) (by omega) (HTB.out.move C8.out).below.size ?_
    intro v' W3 ho9 hg9 hat9 hb9
    obtain ⟨adc,capc,rfl,hx⟩:=HPUSH.out ((w5.drewN q1).drewN q2) ⟨cX 1 lo2 lbs,a5,k5⟩ w5.heap.size _ _ _ (aA C6.out (below_drewN (O _ _) q2)) ⟨R5.out.okF,(show (0:Nat) < 4294967296 by decide),rfl,rfl,rfl,rfl,hwo⟩ (by have h:=((R5.out.ownRow).below (below_drewN (O _ _) q1)).below (below_drewN (O _ _) q2);exact h) (show w5.heap.size≤((w5.drewN q1).drewN q2).heap.size by simp) C5.out.size (by have h:=ho9;rw [HBM.out] at h;exact h) hg9 (by simpa using hat9)
    rw [show (⟨cX 1 lo2 lbs,a5,k5⟩:OpD).toOpP.can=cX 1 lo2 (lbs.map (cn .f32)) from kR _ _ _] at hx
    have HTC':=I hx
    have S9:=I (KS.out _ _ _ _ _ _ hx)
    refine ⟨S9.out,hK _ _ ?_⟩
    clear hK K ho9 hg9 hat9 hb9 hx S0 S5 S7 S9 C5 C6 C7 C8 D0 R5 HRW HROW HPUSH HTB vs
    refine aP (fun q9=>?_)
    have HTC:Hid (TN w (W3.drewN q9) adc (n+2) capc _ _):=I (HTC'.out.move (below_drewN (O _ _) q9))
    clear HTC'
    generalize W3.drewN q9=W3' at HTC ⊢
    go_upto_region 18 with fail
    obtain ⟨vs,hrow,hpush⟩:=HTC.out.go (O _ _)
    have HROW:=I hrow;have HPUSH:=I hpush;have HBASE:Hid (w.heap.size≤W3'.heap.size):=I (HTC.out.move (O _ _)).below.size
    clear hrow hpush
    go_wp2_with (at_builtin;refine cI rfl _ _ 67 rfl w.heap.size i0 (.agg #[.int .i64 0,.int .i64 0,.int .i64 0,.float .f32 0,.int .i64 0,.int .i64 0,.slice none 0 0]) 7 72 Tryz.underlying67 hi0 hz0 hzs hz2 rfl (by decide) rfl (by intro u hu;simp at hu;rcases hu with rfl | rfl | rfl | rfl | rfl | rfl | rfl <;> rfl) _ _ _ rfl HROW.out (by go_simp) ?c3 ?c4 ?c5 ?_)
    case c3=>unfold maxLen;omega
    case c4=>omega
    case c5=>exact HBASE.out
    intro v' W3'' ho9 hg9 hat9 hb9 hs9
    obtain ⟨add_,capd,rfl,hx⟩:=HPUSH.out (sR 7 (n:Int) 0 0) _ _ _ _ (eE rfl (WFI.out _ (by omega) (by omega)) rfl (by decide)) (fD _ _ _) (J _) (J _) ho9 hg9 hat9
    rw [show (sR 7 (n:Int) 0 0).toOpP.can=eU 7 (n:Int) 0 0 from (gJ _ _ _ _).trans (by rw [bT])] at hx
    have HTD0:=I hx
    clear ho9 hg9 hat9 hb9 hs9 hx HROW HPUSH HBASE HTC vs
    have HTD:Hid (TN w W3'' add_ (n+3) capd _ _):=I HTD0.out
    clear HTD0
    go_upto_region 19 with fail
    obtain ⟨vs,hrow,hpush⟩:=HTD.out.go (O _ _)
    have HROW:=I hrow;have HPUSH:=I hpush;have HBASE:Hid (w.heap.size≤W3''.heap.size):=I (HTD.out.move (O _ _)).below.size
    clear hrow hpush
    go_wp2_with (at_builtin;refine cI rfl _ _ 67 rfl w.heap.size i0 (.agg #[.int .i64 0,.int .i64 0,.int .i64 0,.float .f32 0,.int .i64 0,.int .i64 0,.slice none 0 0]) 7 72 Tryz.underlying67 hi0 hz0 hzs hz2 rfl (by decide) rfl (by intro u hu;simp at hu;rcases hu with rfl | rfl | rfl | rfl | rfl | rfl | rfl <;> rfl) _ _ _ rfl HROW.out (by go_simp) ?c3 ?c4 ?c5 ?_)
    case c3=>unfold maxLen;omega
    case c4=>omega
    case c5=>exact HBASE.out
    intro v' W3''' ho9 hg9 hat9 hb9 hs9
    obtain ⟨ade,cape,rfl,hx⟩:=HPUSH.out (sR 6 p ((n:Int)+2) 0) _ _ _ _ (eE rfl (WFI.out _ (by omega) (by omega)) (WFI.out _ (by omega) (by omega)) (by decide)) (fD _ _ _) (J _) (J _) ho9 hg9 hat9
    rw [show (sR 6 p ((n:Int)+2) 0).toOpP.can=eU 6 p ((n:Int)+2) 0 from (gJ _ _ _ _).trans (by rw [bT])] at hx
    have HTE0:=I hx
    clear ho9 hg9 hat9 hb9 hs9 hx HROW HPUSH HBASE HTD vs
    have HTE:Hid (TN w W3''' ade (n+4) cape _ _):=I HTE0.out
    clear HTE0
    go_upto_region 20 with fail
    obtain ⟨vs,hrow,hpush⟩:=HTE.out.go (O _ _)
    have HROW:=I hrow;have HPUSH:=I hpush;have HBASE:Hid (w.heap.size≤W3'''.heap.size):=I (HTE.out.move (O _ _)).below.size
    clear hrow hpush
    go_wp2_with (at_builtin;refine cI rfl _ _ 67 rfl w.heap.size i0 (.agg #[.int .i64 0,.int .i64 0,.int .i64 0,.float .f32 0,.int .i64 0,.int .i64 0,.slice none 0 0]) 7 72 Tryz.underlying67 hi0 hz0 hzs hz2 rfl (by decide) rfl (by intro u hu;simp at hu;rcases hu with rfl | rfl | rfl | rfl | rfl | rfl | rfl <;> rfl) _ _ _ rfl HROW.out (by go_simp) ?c3 ?c4 ?c5 ?_)
    case c3=>unfold maxLen;omega
    case c4=>omega
    case c5=>exact HBASE.out
    intro v' W3'''' ho9 hg9 hat9 hb9 hs9
    obtain ⟨adf,capf,rfl,hx⟩:=HPUSH.out (sR 2 ((n:Int)+3) ((n:Int)+1) 0) _ _ _ _ (eE rfl (WFI.out _ (by omega) (by omega)) (WFI.out _ (by omega) (by omega)) (by decide)) (fD _ _ _) (J _) (J _) ho9 hg9 hat9
    rw [show (sR 2 ((n:Int)+3) ((n:Int)+1) 0).toOpP.can=eU 2 ((n:Int)+3) ((n:Int)+1) 0 from (gJ _ _ _ _).trans (by rw [bT])] at hx
    have HTF0:=I hx
    clear ho9 hg9 hat9 hb9 hs9 hx HROW HPUSH HBASE HTE vs
    have HTF:Hid (TN w W3'''' adf (n+5) capf _ _):=I HTF0.out
    clear HTF0
    go_upto_region 21 with fail
    have HTP:=I (HTF.out.perm (List.Perm.swap _ _ _))
    obtain ⟨hrow,hpush⟩:=HTP.out.goI
    have HROW:=I hrow;have HPUSH:=I hpush;have HBASE:=I HTP.out.below.size
    clear hrow hpush
    go_wp2_with (at_builtin;refine cI rfl _ _ 68 rfl w.heap.size j0 (.int .i64 0) 1 8 Tryz.underlying68 hj0 jz0 jzs jz2 rfl (by decide) rfl (by intro u hu;simp at hu;subst hu;rfl) _ _ _ rfl HROW.out (by go_simp) ?c3 ?c4 ?c5 ?_)
    case c3=>unfold maxLen;omega
    case c4=>omega
    case c5=>exact HBASE.out
    intro v' W4 ho9 hg9 hat9 hb9 hs9
    obtain ⟨wa3,wk3,rfl,hx⟩:=HPUSH.out (n:Int) _ _ _ ho9 hg9 hat9
    obtain ⟨ws1,hws⟩:∃x,x=ws ++ [((n:Int):Int)]:=⟨_,rfl⟩
    rw [←hws] at hx ⊢
    have HW1:=I hws
    have hwl1:ws1.length≤2 * k+1:=by rw [hws,List.length_append];simp;omega
    have HTG:=I (hx.perm (List.Perm.swap _ _ _))
    clear ho9 hg9 hat9 hb9 hs9 hx hws HROW HPUSH HBASE HTP HTF
    go_upto_region 22 with fail
    have HTP:=I (HTG.out.perm (List.Perm.swap _ _ _))
    obtain ⟨hrow,hpush⟩:=HTP.out.goI
    have HROW:=I hrow;have HPUSH:=I hpush;have HBASE:=I HTP.out.below.size
    clear hrow hpush
    go_wp2_with (at_builtin;refine cI rfl _ _ 68 rfl w.heap.size j0 (.int .i64 0) 1 8 Tryz.underlying68 hj0 jz0 jzs jz2 rfl (by decide) rfl (by intro u hu;simp at hu;subst hu;rfl) _ _ _ rfl HROW.out (by go_simp) ?c3 ?c4 ?c5 ?_)
    case c3=>unfold maxLen;omega
    case c4=>omega
    case c5=>exact HBASE.out
    intro v' W5 ho9 hg9 hat9 hb9 hs9
    obtain ⟨wa4,wk4,rfl,hx⟩:=HPUSH.out ((n:Int)+1) _ _ _ ho9 hg9 hat9
    obtain ⟨ws2,hws⟩:∃x,x=ws1 ++ [(((n:Int)+1):Int)]:=⟨_,rfl⟩
    rw [←hws] at hx ⊢
    have HW2:=I hws
    have hwl2:ws2.length≤2 * k+2:=by rw [hws,List.length_append];simp;omega
    have HTH:=I (hx.perm (List.Perm.swap _ _ _))
    clear ho9 hg9 hat9 hb9 hs9 hx hws HROW HPUSH HBASE HTP HTG
    have HT9:Hid (TN w _ adf (n+5) capf (cM ⟨ops,ws,p⟩ ⟨lk,li2,lo2,lws.map (cn .f32),lbs.map (cn .f32)⟩ n).ops [bQ wa4 wk4 ws2]):=I ((HTH.out.sub (List.sublist_cons_self _ _)))
    have HS9:Hid (kZ PP XX YY (k+1)=some ⟨(cM ⟨ops,ws,p⟩ ⟨lk,li2,lo2,lws.map (cn .f32),lbs.map (cn .f32)⟩ n).ops,ws2,((n:Int)+4)⟩∧(cM ⟨ops,ws,p⟩ ⟨lk,li2,lo2,lws.map (cn .f32),lbs.map (cn .f32)⟩ n).ops.length=(n+5)∧(∀x∈ws2,(Lit.int .i64 x).wf=true)):=I (by
     refine ⟨?_,?_,?_⟩
     ·rw [HST.out]
      unfold fQ
      rw [if_pos (show (LayP.can ⟨lk,li2,lo2,lws,lbs⟩).k=0 from HK0.out),HS.out.2.1]
      rw [HW2.out,HW1.out]
      rfl
     ·have h9:=HS.out.2.1
      simp [cM,fP,cR,h9]
     ·intro x hx
      have h9:=HS.out.2.2
      rw [HW2.out,HW1.out] at hx
      try simp only [List.mem_append,List.mem_singleton] at hx
      first
       | exact h9 x hx
       | (rcases hx with (hx | rfl) | rfl
          ·exact h9 x hx
          ·exact WFI.out _ (by omega) (by omega)
          ·exact WFI.out _ (by omega) (by omega))
       | (rcases hx with hx | rfl
          ·exact h9 x hx
          ·exact WFI.out _ (by omega) (by omega)))
    clear HTH HS HST
    go_wp2
    refine ⟨?_,?measure⟩
    repeat apply Exists.intro
    refine ⟨?rel,rfl⟩
    case rel=>exact ⟨k+1,(n+5),capf,wk4,adf,wa4,⟨(cM ⟨ops,ws,p⟩ ⟨lk,li2,lo2,lws.map (cn .f32),lbs.map (cn .f32)⟩ n).ops,ws2,((n:Int)+4)⟩,by go_num,rfl,rfl,(by first | rfl | (congr 1;omega) | (go_num)),hlt,⟨by omega,by omega,by simp only;omega,by simp only;omega⟩,HS9,by simp only;omega,HT9⟩
    case measure=>simp [intOf];omega
   have f0:(lk == 0)=false:=by simpa using hk0
   by_cases hk1:lk=1
   ·have f1:(lk == 1)=true:=by simp [hk1]
    have HK1:=I hk1
    clear hk1 hk0
    go_upto_region 24 with fail
    clear e0
    obtain ⟨vs,hrow,hpush⟩:=HTA.out.go (O _ _)
    have HROW:=I hrow;have HPUSH:=I hpush;have HBASE:Hid (w.heap.size≤W1.heap.size):=I (HTA.out.move (O _ _)).below.size
    clear hrow hpush
    go_wp2_with (at_builtin;refine cI rfl _ _ 67 rfl w.heap.size i0 (.agg #[.int .i64 0,.int .i64 0,.int .i64 0,.float .f32 0,.int .i64 0,.int .i64 0,.slice none 0 0]) 7 72 Tryz.underlying67 hi0 hz0 hzs hz2 rfl (by decide) rfl (by intro u hu;simp at hu;rcases hu with rfl | rfl | rfl | rfl | rfl | rfl | rfl <;> rfl) _ _ _ rfl HROW.out (by go_simp) ?c3 ?c4 ?c5 ?_)
    case c3=>unfold maxLen;omega
    case c4=>omega
    case c5=>exact HBASE.out
    intro v' W1' ho9 hg9 hat9 hb9 hs9
    obtain ⟨adf,capf,rfl,hx⟩:=HPUSH.out (sR 8 p 0 0) _ _ _ _ (eE rfl (WFI.out _ (by omega) (by omega)) rfl (by decide)) (fD _ _ _) (J _) (J _) ho9 hg9 hat9
    rw [show (sR 8 p 0 0).toOpP.can=eU 8 p 0 0 from (gJ _ _ _ _).trans (by rw [bT])] at hx
    have HTD0:=I hx
    clear ho9 hg9 hat9 hb9 hs9 hx HROW HPUSH HBASE HTA vs
    have HTD:Hid (TN w W1' adf (n+1) capf _ _):=I HTD0.out
    clear HTD0
    have HT9:Hid (TN w _ adf (n+1) capf (fP ⟨ops,ws,p⟩ n).ops [bQ wa wk ws]):=I ((HTD.out.sub (List.sublist_cons_self _ _)))
    have HS9:Hid (kZ PP XX YY (k+1)=some ⟨(fP ⟨ops,ws,p⟩ n).ops,ws,(n:Int)⟩∧(fP ⟨ops,ws,p⟩ n).ops.length=(n+1)∧(∀x∈ws,(Lit.int .i64 x).wf=true)):=I (by
     refine ⟨?_,?_,?_⟩
     ·rw [HST.out]
      unfold fQ
      rw [if_neg (show ¬ (LayP.can ⟨lk,li2,lo2,lws,lbs⟩).k=0 from by have h:=HK1.out;show ¬ lk=0;omega),if_pos (show (LayP.can ⟨lk,li2,lo2,lws,lbs⟩).k=1 from HK1.out),HS.out.2.1]
      skip
      rfl
     ·have h9:=HS.out.2.1
      simp [cM,fP,cR,h9]
     ·intro x hx
      have h9:=HS.out.2.2
      skip
      try simp only [List.mem_append,List.mem_singleton] at hx
      first
       | exact h9 x hx
       | (rcases hx with (hx | rfl) | rfl
          ·exact h9 x hx
          ·exact WFI.out _ (by omega) (by omega)
          ·exact WFI.out _ (by omega) (by omega))
       | (rcases hx with hx | rfl
          ·exact h9 x hx
          ·exact WFI.out _ (by omega) (by omega)))
    clear HTD HS HST
    go_wp2
    refine ⟨?_,?measure⟩
    repeat apply Exists.intro
    refine ⟨?rel,rfl⟩
    case rel=>exact ⟨k+1,(n+1),capf,wk,adf,wa,⟨(fP ⟨ops,ws,p⟩ n).ops,ws,(n:Int)⟩,by go_num,rfl,rfl,(by first | rfl | (congr 1;omega) | (go_num)),hlt,⟨by omega,by omega,by simp only;omega,by simp only;omega⟩,HS9,by simp only;omega,HT9⟩
    case measure=>simp [intOf];omega
   have f1:(lk == 1)=false:=by simpa using hk1
   by_cases hk2:lk=2
   ·have f2:(lk == 2)=true:=by simp [hk2]
    have hbw:(lm:Int)=li2:=by have h9:=HBD.out.2.2.2.2.1;rw [hk2] at h9;exact h9
    have HK2:=I hk2
    clear hk2 hk1 hk0
    have hib:=HBD.out.2.1
    have hlm1:1≤lm:=by omega
    have hwi:(Lit.int .i64 li2).wf=true:=by obtain ⟨x,rfl⟩:∃x:Nat,li2=x:=⟨li2.toNat,by omega⟩;exact lT (by omega)
    go_upto_region 26 with fail
    clear e0
    obtain ⟨vs,hrow,hpush⟩:=HTA.out.goA
    have HROW:=I hrow;have HPUSH:=I hpush
    clear hrow hpush
    have S0:=I (KS.out _ _ _ _ _ _ HTA.out)
    refine aL 10 [5,8,9] (fun W=>W.cell? ⟨gb,0,none⟩=some (.int .i64 lk)∧W.cell? ⟨gb,1,none⟩=some (.int .i64 li2)∧W.cell? ⟨gb,2,none⟩=some (.int .i64 lo2)∧W.cell? ⟨gb,3,none⟩=some (.slice wa2 lm wk2)∧W.cell? ⟨gb,4,none⟩=some (.slice ba2 bm bk2)) (fun _ _ _=>False) (DB lm lws) (by kernel_rfl) (by kernel_rfl) S0.out (fun W q h=>by simpa using h) ?_
    iterate 5 (refine aD (by rfl) S0.out (fun K hK W hW=>?_);obtain ⟨e0,e1,e2,e3,e4⟩:=hW;go_simp;refine hK _ ?_;clear hK K e0 e1 e2 e3 e4)
    refine aF (by rfl) S0.out (fun K hK q0=>?_)
    have D0:=I (below_drewN (O W1.heap.size W1) q0)
    have KC:=I (fH (W1.drewN q0) wa2 wk2 lws (HFA.out _ (HTA.out.move D0.out).below).1 (by intro e;obtain ⟨b,o,e2,_,_⟩:=(HFA.out _ (HTA.out.move D0.out).below).1.spot (k:=0) (by rw [←HLM.out];exact hlm1);rw [e] at e2;cases e2) (by rw [←HLM.out];omega))
    rw [←HLM.out] at KC
    go_simp
    refine ⟨KC.out.mono (fun e w5 hh=>by
     obtain ⟨a',k',he,hr5,hb5⟩:=hh
     exact ⟨_,he,a',k',rfl,hr5.out,hb5⟩),?_⟩
    rintro v w5 hd
    obtain ⟨a5,k5,rfl,hr5,hb5⟩:=hd
    have C5:=I (aA D0.out hb5)
    have R5:=I (hr5.bounds (show W1.heap.size≤_ from D0.out.size) (J _))
    have S5:=I (KS.out _ _ _ _ _ _ (HTA.out.move C5.out))
    refine ⟨S5.out,hK _ _ ?_⟩
    clear hK K hr5 hb5 KC
    iterate 2 (refine aD (by rfl) S5.out (fun K hK W hW=>?_);obtain ⟨e0,e1,e2,e3,e4⟩:=hW;go_simp;refine hK _ ?_;clear hK K e0 e1 e2 e3 e4)
    refine aF (by rfl) S5.out (fun K hK q1=>?_)
    have C6:=I (aA C5.out (below_drewN (O _ _) q1))
    have C7:=I (aA C6.out (aE (w5.drewN q1) (.cells #[.int .i64 0,.int .i64 0,.int .i64 0,.float .f32 0,.int .i64 1,.int .i64 li2,.slice a5 lm k5] 74)))
    have S7:=I (KS.out _ _ _ _ _ _ (HTA.out.move C7.out))
    go_simp
    refine ⟨S7.out,hK _ _ ?_⟩
    clear hK K
    refine aF (by rfl) S7.out (fun K hK q2=>?_)
    have C8:=I (aA C7.out (below_drewN (O _ _) q2))
    have HRW:=I (HROW.out _ C8.out)
    refine bP rfl _ _ 67 rfl w.heap.size 74 i0 _ 7 72 Tryz.underlying67 hi0 hz0 hzs hz2 rfl (by decide) (.slice ad n cap) n vs rfl HRW.out ⟨w5.heap.size,0,none⟩ 1 1 [.int .i64 0,.int .i64 0,.int .i64 0,.float .f32 0,.int .i64 1,.int .i64 li2,.slice a5 lm k5] rfl rfl (World.news_of_block (cs:=#[.int .i64 0,.int .i64 0,.int .i64 0,.float .f32 0,.int .i64 1,.int .i64 li2,.slice a5 lm k5]) (t:=74) (fr:=(0,0)) (heap_alloc_new (w5.drewN q1) _)) (by intro u hu;simp at hu;rcases hu with rfl | rfl | rfl | rfl | rfl | rfl | rfl <;> rfl) (by unfold maxLen;omega) (by omega) (HTA.out.move C8.out).below.size ?_
    intro v' W2 ho9 hg9 hat9 hb9
    obtain ⟨adb,capb,rfl,hx⟩:=HPUSH.out ((w5.drewN q1).drewN q2) ⟨cX 1 li2 lws,a5,k5⟩ w5.heap.size _ _ _ (aA C6.out (below_drewN (O _ _) q2)) ⟨R5.out.okF,(show (0:Nat) < 4294967296 by decide),rfl,rfl,rfl,rfl,hwi⟩ (by have h:=((R5.out.ownRow).below (below_drewN (O _ _) q1)).below (below_drewN (O _ _) q2);exact h) (show w5.heap.size≤((w5.drewN q1).drewN q2).heap.size by simp) C5.out.size (by have h:=ho9;rw [HLM.out] at h;exact h) hg9 (by simpa using hat9)
    rw [show (⟨cX 1 li2 lws,a5,k5⟩:OpD).toOpP.can=cX 1 li2 (lws.map (cn .f32)) from kR _ _ _] at hx
    have HTB':=I hx
    have S9:=I (KS.out _ _ _ _ _ _ hx)
    refine ⟨S9.out,hK _ _ ?_⟩
    clear hK K ho9 hg9 hat9 hb9 hx S0 S5 S7 S9 C5 C6 C7 C8 D0 R5 HRW HROW HPUSH HTA vs
    refine aP (fun q9=>?_)
    have HTB:Hid (TN w (W2.drewN q9) adb (n+1) capb _ _):=I (HTB'.out.move (below_drewN (O _ _) q9))
    clear HTB'
    generalize W2.drewN q9=W2' at HTB ⊢
    go_upto_region 27 with fail
    obtain ⟨vs,hrow,hpush⟩:=HTB.out.go (O _ _)
    have HROW:=I hrow;have HPUSH:=I hpush;have HBASE:Hid (w.heap.size≤W2'.heap.size):=I (HTB.out.move (O _ _)).below.size
    clear hrow hpush
    go_wp2_with (at_builtin;refine cI rfl _ _ 67 rfl w.heap.size i0 (.agg #[.int .i64 0,.int .i64 0,.int .i64 0,.float .f32 0,.int .i64 0,.int .i64 0,.slice none 0 0]) 7 72 Tryz.underlying67 hi0 hz0 hzs hz2 rfl (by decide) rfl (by intro u hu;simp at hu;rcases hu with rfl | rfl | rfl | rfl | rfl | rfl | rfl <;> rfl) _ _ _ rfl HROW.out (by go_simp) ?c3 ?c4 ?c5 ?_)
    case c3=>unfold maxLen;omega
    case c4=>omega
    case c5=>exact HBASE.out
    intro v' W2'' ho9 hg9 hat9 hb9 hs9
    obtain ⟨adf,capf,rfl,hx⟩:=HPUSH.out (sR 4 p (n:Int) 0) _ _ _ _ (eE rfl (WFI.out _ (by omega) (by omega)) (WFI.out _ (by omega) (by omega)) (by decide)) (fD _ _ _) (J _) (J _) ho9 hg9 hat9
    rw [show (sR 4 p (n:Int) 0).toOpP.can=eU 4 p (n:Int) 0 from (gJ _ _ _ _).trans (by rw [bT])] at hx
    have HTC0:=I hx
    clear ho9 hg9 hat9 hb9 hs9 hx HROW HPUSH HBASE HTB vs
    have HTC:Hid (TN w W2'' adf (n+2) capf _ _):=I HTC0.out
    clear HTC0
    go_upto_region 28 with fail
    have HTP:=I (HTC.out.perm (List.Perm.swap _ _ _))
    obtain ⟨hrow,hpush⟩:=HTP.out.goI
    have HROW:=I hrow;have HPUSH:=I hpush;have HBASE:=I HTP.out.below.size
    clear hrow hpush
    go_wp2_with (at_builtin;refine cI rfl _ _ 68 rfl w.heap.size j0 (.int .i64 0) 1 8 Tryz.underlying68 hj0 jz0 jzs jz2 rfl (by decide) rfl (by intro u hu;simp at hu;subst hu;rfl) _ _ _ rfl HROW.out (by go_simp) ?c3 ?c4 ?c5 ?_)
    case c3=>unfold maxLen;omega
    case c4=>omega
    case c5=>exact HBASE.out
    intro v' W4 ho9 hg9 hat9 hb9 hs9
    obtain ⟨wa3,wk3,rfl,hx⟩:=HPUSH.out (n:Int) _ _ _ ho9 hg9 hat9
    obtain ⟨ws1,hws⟩:∃x,x=ws ++ [((n:Int):Int)]:=⟨_,rfl⟩
    rw [←hws] at hx ⊢
    have HW1:=I hws
    have hwl1:ws1.length≤2 * k+1:=by rw [hws,List.length_append];simp;omega
    have HTG:=I (hx.perm (List.Perm.swap _ _ _))
    clear ho9 hg9 hat9 hb9 hs9 hx hws HROW HPUSH HBASE HTP HTC
    have HT9:Hid (TN w _ adf (n+2) capf (cR ⟨ops,ws,p⟩ ⟨lk,li2,lo2,lws.map (cn .f32),lbs.map (cn .f32)⟩ n).ops [bQ wa3 wk3 ws1]):=I ((HTG.out.sub (List.sublist_cons_self _ _)))
    have HS9:Hid (kZ PP XX YY (k+1)=some ⟨(cR ⟨ops,ws,p⟩ ⟨lk,li2,lo2,lws.map (cn .f32),lbs.map (cn .f32)⟩ n).ops,ws1,((n:Int)+1)⟩∧(cR ⟨ops,ws,p⟩ ⟨lk,li2,lo2,lws.map (cn .f32),lbs.map (cn .f32)⟩ n).ops.length=(n+2)∧(∀x∈ws1,(Lit.int .i64 x).wf=true)):=I (by
     refine ⟨?_,?_,?_⟩
     ·rw [HST.out]
      unfold fQ
      rw [if_neg (show ¬ (LayP.can ⟨lk,li2,lo2,lws,lbs⟩).k=0 from by have h:=HK2.out;show ¬ lk=0;omega),if_neg (show ¬ (LayP.can ⟨lk,li2,lo2,lws,lbs⟩).k=1 from by have h:=HK2.out;show ¬ lk=1;omega),if_pos (show (LayP.can ⟨lk,li2,lo2,lws,lbs⟩).k=2 from HK2.out),HS.out.2.1]
      rw [HW1.out]
      rfl
     ·have h9:=HS.out.2.1
      simp [cM,fP,cR,h9]
     ·intro x hx
      have h9:=HS.out.2.2
      rw [HW1.out] at hx
      try simp only [List.mem_append,List.mem_singleton] at hx
      first
       | exact h9 x hx
       | (rcases hx with (hx | rfl) | rfl
          ·exact h9 x hx
          ·exact WFI.out _ (by omega) (by omega)
          ·exact WFI.out _ (by omega) (by omega))
       | (rcases hx with hx | rfl
          ·exact h9 x hx
          ·exact WFI.out _ (by omega) (by omega)))
    clear HTG HS HST
    go_wp2
    refine ⟨?_,?measure⟩
    repeat apply Exists.intro
    refine ⟨?rel,rfl⟩
    case rel=>exact ⟨k+1,(n+2),capf,wk3,adf,wa3,⟨(cR ⟨ops,ws,p⟩ ⟨lk,li2,lo2,lws.map (cn .f32),lbs.map (cn .f32)⟩ n).ops,ws1,((n:Int)+1)⟩,by go_num,rfl,rfl,(by first | rfl | (congr 1;omega) | (go_num)),hlt,⟨by omega,by omega,by simp only;omega,by simp only;omega⟩,HS9,by simp only;omega,HT9⟩
    case measure=>simp [intOf];omega
   have f2:(lk == 2)=false:=by simpa using hk2
   have HRN:Hid (R=none):=I (by
    rw [HRS.out,zV (k:=k+1) (by
     rw [HST.out]
     unfold fQ
     rw [if_neg (show ¬ (LayP.can ⟨lk,li2,lo2,lws,lbs⟩).k=0 from hk0),if_neg (show ¬ (LayP.can ⟨lk,li2,lo2,lws,lbs⟩).k=1 from hk1),if_neg (show ¬ (LayP.can ⟨lk,li2,lo2,lws,lbs⟩).k=2 from hk2)]) (show k+1≤L from hlt)]
    rfl)
   have HBL:=I HTA.out.below
   clear hk0 hk1 hk2 HTA HS HST HRS
   go_wp2
   go_ret3
   exact ⟨_,_,_,_,_,_,false,rfl,I ⟨by rw [HRN.out];rfl,fun h=>by cases h⟩,HBL.out⟩
  ·have hkL:k=L:=by omega
   subst hkL
   have HRS2:Hid (R=some (sF ⟨ops,ws,p⟩ (cn .f32 num) n,ws)):=I (by
    rw [HRS.out,HS.out.1]
    show some (sF ⟨ops,ws,p⟩ (cn .f32 num) (ops.length:Int),ws) = _
    rw [HS.out.2.1])
   have HWF:=I HS.out.2.2
   go_upto_region 31 with fail
   clear m0 HRS HS HPP HLS CM
   obtain ⟨vs,hrow,hpush⟩:=HT.out.go (O _ _)
   have HROW:=I hrow;have HPUSH:=I hpush;have HBASE:Hid (w.heap.size≤wr.heap.size):=I (HT.out.move (O _ _)).below.size
   clear hrow hpush
   go_wp2_with (at_builtin;refine cI rfl _ _ 67 rfl w.heap.size i0 (.agg #[.int .i64 0,.int .i64 0,.int .i64 0,.float .f32 0,.int .i64 0,.int .i64 0,.slice none 0 0]) 7 72 Tryz.underlying67 hi0 hz0 hzs hz2 rfl (by decide) rfl (by intro u hu;simp at hu;rcases hu with rfl | rfl | rfl | rfl | rfl | rfl | rfl <;> rfl) _ _ _ rfl HROW.out (by go_simp) ?c3 ?c4 ?c5 ?_)
   case c3=>unfold maxLen;omega
   case c4=>omega
   case c5=>exact HBASE.out
   intro v' wr' ho9 hg9 hat9 hb9 hs9
   obtain ⟨ada,capa,rfl,hx⟩:=HPUSH.out (sR 5 1 0 3212836864) _ _ _ _ (eE rfl rfl rfl (by decide)) (fD _ _ _) (J _) (J _) ho9 hg9 hat9
   rw [show (sR 5 1 0 3212836864).toOpP.can=eU 5 1 0 (cn .f32 3212836864) from (gJ _ _ _ _)] at hx
   have HTA0:=I hx
   clear ho9 hg9 hat9 hb9 hs9 hx HROW HPUSH HBASE HT vs
   have HTA:Hid (TN w wr' ada (n+1) capa (ops ++ [eU 5 1 0 3212836864]) _):=I (by have h:=HTA0.out;rw [show cn .f32 3212836864=3212836864 by decide +kernel] at h;exact h)
   clear HTA0
   go_upto_region 32 with fail
   obtain ⟨vs,hrow,hpush⟩:=HTA.out.go (O _ _)
   have HROW:=I hrow;have HPUSH:=I hpush;have HBASE:Hid (w.heap.size≤wr'.heap.size):=I (HTA.out.move (O _ _)).below.size
   clear hrow hpush
   go_wp2_with (at_builtin;refine cI rfl _ _ 67 rfl w.heap.size i0 (.agg #[.int .i64 0,.int .i64 0,.int .i64 0,.float .f32 0,.int .i64 0,.int .i64 0,.slice none 0 0]) 7 72 Tryz.underlying67 hi0 hz0 hzs hz2 rfl (by decide) rfl (by intro u hu;simp at hu;rcases hu with rfl | rfl | rfl | rfl | rfl | rfl | rfl <;> rfl) _ _ _ rfl HROW.out (by go_simp) ?c3 ?c4 ?c5 ?_)
   case c3=>unfold maxLen;omega
   case c4=>omega
   case c5=>exact HBASE.out
   intro v' wr'' ho9 hg9 hat9 hb9 hs9
   obtain ⟨adb,capb,rfl,hx⟩:=HPUSH.out (sR 1 p (n:Int) 0) _ _ _ _ (eE rfl (WFI.out _ (by omega) (by omega)) (WFI.out _ (by omega) (by omega)) (by decide)) (fD _ _ _) (J _) (J _) ho9 hg9 hat9
   rw [show (sR 1 p (n:Int) 0).toOpP.can=eU 1 p (n:Int) 0 from (gJ _ _ _ _).trans (by rw [bT])] at hx
   have HTB0:=I hx
   clear ho9 hg9 hat9 hb9 hs9 hx HROW HPUSH HBASE HTA vs
   have HTB:Hid (TN w wr'' adb (n+2) capb _ _):=I HTB0.out
   clear HTB0
   go_upto_region 33 with fail
   obtain ⟨vs,hrow,hpush⟩:=HTB.out.go (O _ _)
   have HROW:=I hrow;have HPUSH:=I hpush;have HBASE:Hid (w.heap.size≤wr''.heap.size):=I (HTB.out.move (O _ _)).below.size
   clear hrow hpush
   go_wp2_with (at_builtin;refine cI rfl _ _ 67 rfl w.heap.size i0 (.agg #[.int .i64 0,.int .i64 0,.int .i64 0,.float .f32 0,.int .i64 0,.int .i64 0,.slice none 0 0]) 7 72 Tryz.underlying67 hi0 hz0 hzs hz2 rfl (by decide) rfl (by intro u hu;simp at hu;rcases hu with rfl | rfl | rfl | rfl | rfl | rfl | rfl <;> rfl) _ _ _ rfl HROW.out (by go_simp) ?c3 ?c4 ?c5 ?_)
   case c3=>unfold maxLen;omega
   case c4=>omega
   case c5=>exact HBASE.out
   intro v' wr''' ho9 hg9 hat9 hb9 hs9
   obtain ⟨adc,capc,rfl,hx⟩:=HPUSH.out (sR 9 ((n:Int)+1) 0 0) _ _ _ _ (eE rfl (WFI.out _ (by omega) (by omega)) rfl (by decide)) (fD _ _ _) (J _) (J _) ho9 hg9 hat9
   rw [show (sR 9 ((n:Int)+1) 0 0).toOpP.can=eU 9 ((n:Int)+1) 0 0 from (gJ _ _ _ _).trans (by rw [bT])] at hx
   have HTC0:=I hx
   clear ho9 hg9 hat9 hb9 hs9 hx HROW HPUSH HBASE HTB vs
   have HTC:Hid (TN w wr''' adc (n+3) capc _ _):=I HTC0.out
   clear HTC0
   go_upto_region 34 with fail
   obtain ⟨vs,hrow,hpush⟩:=HTC.out.go (O _ _)
   have HROW:=I hrow;have HPUSH:=I hpush;have HBASE:Hid (w.heap.size≤wr'''.heap.size):=I (HTC.out.move (O _ _)).below.size
   clear hrow hpush
   go_wp2_with (at_builtin;refine cI rfl _ _ 67 rfl w.heap.size i0 (.agg #[.int .i64 0,.int .i64 0,.int .i64 0,.float .f32 0,.int .i64 0,.int .i64 0,.slice none 0 0]) 7 72 Tryz.underlying67 hi0 hz0 hzs hz2 rfl (by decide) rfl (by intro u hu;simp at hu;rcases hu with rfl | rfl | rfl | rfl | rfl | rfl | rfl <;> rfl) _ _ _ rfl HROW.out (by go_simp) ?c3 ?c4 ?c5 ?_)
   case c3=>unfold maxLen;omega
   case c4=>omega
   case c5=>exact HBASE.out
   intro v' wr'''' ho9 hg9 hat9 hb9 hs9
   obtain ⟨add_,capd,rfl,hx⟩:=HPUSH.out (sR 10 ((n:Int)+2) 0 0) _ _ _ _ (eE rfl (WFI.out _ (by omega) (by omega)) rfl (by decide)) (fD _ _ _) (J _) (J _) ho9 hg9 hat9
   rw [show (sR 10 ((n:Int)+2) 0 0).toOpP.can=eU 10 ((n:Int)+2) 0 0 from (gJ _ _ _ _).trans (by rw [bT])] at hx
   have HTD0:=I hx
   clear ho9 hg9 hat9 hb9 hs9 hx HROW HPUSH HBASE HTC vs
   have HTD:Hid (TN w wr'''' add_ (n+4) capd _ _):=I HTD0.out
   clear HTD0
   go_upto_region 35 with fail
   obtain ⟨vs,hrow,hpush⟩:=HTD.out.go (O _ _)
   have HROW:=I hrow;have HPUSH:=I hpush;have HBASE:Hid (w.heap.size≤wr''''.heap.size):=I (HTD.out.move (O _ _)).below.size
   clear hrow hpush
   go_wp2_with (at_builtin;refine cI rfl _ _ 67 rfl w.heap.size i0 (.agg #[.int .i64 0,.int .i64 0,.int .i64 0,.float .f32 0,.int .i64 0,.int .i64 0,.slice none 0 0]) 7 72 Tryz.underlying67 hi0 hz0 hzs hz2 rfl (by decide) rfl (by intro u hu;simp at hu;rcases hu with rfl | rfl | rfl | rfl | rfl | rfl | rfl <;> rfl) _ _ _ rfl HROW.out (by go_simp) ?c3 ?c4 ?c5 ?_)
   case c3=>unfold maxLen;omega
   case c4=>omega
   case c5=>exact HBASE.out
   intro v' wr''''' ho9 hg9 hat9 hb9 hs9
   obtain ⟨ade,cape,rfl,hx⟩:=HPUSH.out (sR 5 ((n:Int)+3) 0 num) _ _ _ _ (eE rfl (WFI.out _ (by omega) (by omega)) rfl hnum) (fD _ _ _) (J _) (J _) ho9 hg9 hat9
   rw [show (sR 5 ((n:Int)+3) 0 num).toOpP.can=eU 5 ((n:Int)+3) 0 (cn .f32 num) from (gJ _ _ _ _)] at hx
   have HTE:=I hx
   clear ho9 hg9 hat9 hb9 hs9 hx HROW HPUSH HBASE HTD vs
   have HT9:Hid (TN w _ ade (n+5) cape (sF ⟨ops,ws,p⟩ (cn .f32 num) n) [bQ wa wk ws]):=I HTE.out
   clear HTE
   go_wp2
   go_ret3
   exact ⟨_,_,_,_,_,_,true,rfl,I ⟨by rw [HRS2.out];rfl,fun _=>⟨_,ws,HRS2.out,rfl,HWF.out,HT9.out⟩⟩,HT9.out.below⟩
def AK (R:Option (List OpP × List Int)) (w:World) (e:Ending) (w':World):Prop:=∃ad n cap wa m wk b,e=.returned (.tuple #[.slice ad n cap,.slice wa m wk,.bool b]) ∧
 Hid (b=R.isSome∧(b=true→∃C ws,R=some (C,ws)∧ws.length=m∧(∀x∈ws,(Lit.int .i64 x).wf=true)∧TN w w' ad n cap C [bQ wa wk ws])∧(b=false→(ad=none∧n=0∧cap=0)∧wa=none∧m=0∧wk=0))∧Below w.heap.size w w'
def cJ (m:Nat):Nat:=dQ .quo .f32 1065353216 (floatOfInt .f32 (m:Int))
def VI (b1:Bool) (li lo:Int) (f:FuncId) (args:Array Value) (v:Value):Prop:=(f=33→v=.bool b1)∧(f=61→∀r c a n k,args=#[.agg #[.int .i64 r,.int .i64 c,.slice a n k]]→v=.bool (dZ r c n))∧(f=62→v=.int .i64 li)∧(f=63→v=.int .i64 lo)
theorem VI.m (b1:Bool) (li lo:Int) (args:Array Value):VI b1 li lo 33 args (.bool b1):=⟨fun _=>rfl,fun e=>absurd e (by decide),fun e=>absurd e (by decide),fun e=>absurd e (by decide)⟩
theorem VI.t (b1:Bool) (li lo r c:Int) (a:Option Addr) (n k:Nat) {b:Bool} (hb:dZ r c n=b):VI b1 li lo 61 #[.agg #[.int .i64 r,.int .i64 c,.slice a n k]] (.bool b):=⟨fun e=>absurd e (by decide),fun _ r' c' a' n' k' e=>by cases e;rw [hb],fun e=>absurd e (by decide),fun e=>absurd e (by decide)⟩
theorem VI.i (b1:Bool) (li lo:Int) (args:Array Value):VI b1 li lo 62 args (.int .i64 li):=⟨fun e=>absurd e (by decide),fun e=>absurd e (by decide),fun _=>rfl,fun e=>absurd e (by decide)⟩
theorem VI.o (b1:Bool) (li lo:Int) (args:Array Value):VI b1 li lo 63 args (.int .i64 lo):=⟨fun e=>absurd e (by decide),fun e=>absurd e (by decide),fun e=>absurd e (by decide),fun _=>rfl⟩
theorem uE (ls:List LayD) (xr xc yr yc:Int) (xs ys:List Nat):fR (ls.map fun l=>l.toLayP.can) ⟨xr,xc,xs.map (cn .f32)⟩ ⟨yr,yc,ys.map (cn .f32)⟩=(dG (ls.map LayD.toLayP) && (dZ xr xc xs.length && (dZ yr yc ys.length && (decide (xr=yr) && (decide (xc=(cG (ls.map LayD.toLayP) 0).i) && decide (yc=(cG (ls.map LayD.toLayP) (ls.length - 1)).o)))))):=by
 have e:(ls.map fun l=>l.toLayP.can)=(ls.map LayD.toLayP).map LayP.can:=by rw [List.map_map];rfl
 unfold fR
 rw [e,mS,(gE _ _).1,(gE _ _).2]
 simp only [List.length_map]
theorem TN.base {w0 w1 W:World} {ad:Option Addr} {n cap:Nat} {C:List OpP} {E:List RowD} (h:TN w1 W ad n cap C E) (hb:Below w0.heap.size w0 w1):TN w0 W ad n cap C E:=by
 obtain ⟨us,h1,h2,h3⟩:=h
 exact ⟨us,h1,h2,⟨h3.own.bounds hb.size (J _),hb.trans (h3.below.mono hb.size)⟩⟩
theorem oQ (w:World) (ma:Option Addr) (mk:Nat) (ls:List LayD) (xr xc yr yc:Int) (xa ya:Option Addr) (xk yk:Nat) (xs ys:List Nat) (hls:SeeR aX w ma mk ls) (hx:F32s w xa xk xs) (hy:F32s w ya yk ys) (hA:(dG (ls.map LayD.toLayP) && (dZ xr xc xs.length && (dZ yr yc ys.length && decide (xr=yr))))=false) :
  Calls Tryz.prog 35 #[.agg #[.slice ma ls.length mk],.agg #[.int .i64 xr,.int .i64 xc,.slice xa xs.length xk],.agg #[.int .i64 yr,.int .i64 yc,.slice ya ys.length yk]] w (AK (bH (ls.map fun l=>l.toLayP.can) ⟨xr,xc,xs.map (cn .f32)⟩ ⟨yr,yc,ys.map (cn .f32)⟩ (cJ ys.length)) w):=by
 obtain ⟨i0,hi0,hz0,hzs,hz2⟩:=info_parts lK
 obtain ⟨j0,hj0,jz0,jzs,jz2⟩:=info_parts kM
 obtain ⟨R,hR⟩:∃R,R=bH (ls.map fun l=>l.toLayP.can) ⟨xr,xc,xs.map (cn .f32)⟩ ⟨yr,yc,ys.map (cn .f32)⟩ (cJ ys.length):=⟨_,rfl⟩
 rw [←hR]
 have HR:=I hR
 have HG:=I (uE ls xr xc yr yc xs ys)
 clear hR
 have b3:=dE w (.cells #[.slice ma ls.length mk] 35) (.cells #[.int .i64 xr,.int .i64 xc,.slice xa xs.length xk] 37) (.cells #[.int .i64 yr,.int .i64 yc,.slice ya ys.length yk] 37)
 have BM:=I ((BoxN.alloc w #[.slice ma ls.length mk] 35).below (bZ _ (.cells #[.int .i64 xr,.int .i64 xc,.slice xa xs.length xk] 37) (.cells #[.int .i64 yr,.int .i64 yc,.slice ya ys.length yk] 37)))
 have BX:=I ((BoxN.alloc2 w (.cells #[.slice ma ls.length mk] 35) #[.int .i64 xr,.int .i64 xc,.slice xa xs.length xk] 37).below (aE _ (.cells #[.int .i64 yr,.int .i64 yc,.slice ya ys.length yk] 37)))
 have BY:=I (BoxN.alloc3 w (.cells #[.slice ma ls.length mk] 35) (.cells #[.int .i64 xr,.int .i64 xc,.slice xa xs.length xk] 37) #[.int .i64 yr,.int .i64 yc,.slice ya ys.length yk] 37)
 have B3:=I b3
 clear b3
 obtain ⟨n,hN⟩:∃n,n=xs.length:=⟨_,rfl⟩
 obtain ⟨m,hM⟩:∃m,m=ys.length:=⟨_,rfl⟩
 obtain ⟨L,hL⟩:∃L,L=ls.length:=⟨_,rfl⟩
 rw [←hN,←hM,←hL] at BM BX BY B3 HG
 rw [←hN,←hM,←hL]
 have HN:=I hN;have HM:=I hM;have HL:=I hL
 have hnm:=Nat.le_trans hx.len hx.cap
 have hmm:=Nat.le_trans hy.len hy.cap
 rw [←hN] at hnm
 rw [←hM] at hmm
 obtain ⟨w3,hw3⟩:∃W,W=((w.alloc (.cells #[.slice ma L mk] 35)).alloc (.cells #[.int .i64 xr,.int .i64 xc,.slice xa n xk] 37)).alloc (.cells #[.int .i64 yr,.int .i64 yc,.slice ya m yk] 37):=⟨_,rfl⟩
 rw [←hw3] at BM BX BY B3
 have HW3:=I hw3
 have HLS:=I (hls.below B3.out);have HX:=I (hx.below B3.out);have HY:=I (hy.below B3.out)
 have CW:Hid (∀W,Below w3.heap.size w3 W→W.cell? ⟨w.heap.size,0,none⟩=some (.slice ma L mk)∧(W.cell? ⟨w.heap.size+1,0,none⟩=some (.int .i64 xr)∧W.cell? ⟨w.heap.size+1,1,none⟩=some (.int .i64 xc)∧W.cell? ⟨w.heap.size+1,2,none⟩=some (.slice xa n xk))∧W.cell? ⟨w.heap.size+2,0,none⟩=some (.int .i64 yr)∧W.cell? ⟨w.heap.size+2,1,none⟩=some (.int .i64 yc)∧W.cell? ⟨w.heap.size+2,2,none⟩=some (.slice ya m yk)):=I (fun W hb=>by
  obtain ⟨-,m0,-⟩:=(BM.out.below hb).one1
  obtain ⟨-,x0,x1,x2,-⟩:=(BX.out.below hb).three
  obtain ⟨-,y0,y1,y2,-⟩:=(BY.out.below hb).three
  exact ⟨m0,⟨x0,x1,x2⟩,y0,y1,y2⟩)
 have KM:=I (fun W (hb:Below w3.heap.size w3 W)=>fV W ma mk ls (HLS.out.below hb))
 rw [←HL.out] at KM
 have KX:=I (fun W=>dJ xr xc xa n xk hnm W)
 have KY:=I (fun W=>dJ yr yc ya m yk hmm W)
 clear hls hx hy hN hM hL hnm hmm hw3 BM BX BY
 rw [←HN.out,←HM.out] at hA
 cases e1:dG (ls.map LayD.toLayP)
 ·rw [e1] at KM
  have HRN:Hid (R=none):=I (by rw [HR.out];exact cS (by rw [HG.out];simp [e1]))
  clear hA
  try clear HLN
  try clear HQ
  clear HG HR HLS HX HY HN HM HL hi0 hz0 hzs hz2 hj0 jz0 jzs jz2
  go_enter Tryz.func35,Tryz.ntmps35
  go_upto_region 1 with fail
  rw [←HW3.out]
  refine cC (VI false 0 0) (by kernel_rfl) (by kernel_rfl) ?_
  iterate 1 (first | (refine aO (aC _) (by rfl) (fun K hK=>?_);go_simp;refine hK _ ?_;clear hK K) | (refine aI (aC _) (by rfl) (fun K hK W hW=>?_);obtain ⟨m0,⟨x0,x1,x2⟩,y0,y1,y2⟩:=CW.out W hW;go_simp;refine hK _ ?_;clear hK K m0 x0 x1 x2 y0 y1 y2))
  refine aI (aC _) (by rfl) (fun K hK W hW=>?_)
  go_simp
  refine ⟨(KM.out W hW).mono ?_,?_⟩
  ·rintro e w' ⟨rfl,hb⟩
   exact ⟨_,rfl,aA hW hb,VI.m false 0 0 _⟩
  rintro v hv
  obtain rfl:=hv.1 rfl
  refine hK _ ?_
  clear hK K hv
  iterate 3 (first | (refine aO (aC _) (by rfl) (fun K hK=>?_);go_simp;refine hK _ ?_;clear hK K) | (refine aI (aC _) (by rfl) (fun K hK W hW=>?_);obtain ⟨m0,⟨x0,x1,x2⟩,y0,y1,y2⟩:=CW.out W hW;go_simp;refine hK _ ?_;clear hK K m0 x0 x1 x2 y0 y1 y2))
  iterate 1 (first | (refine aO (aC _) (by rfl) (fun K hK=>?_);go_simp;refine hK _ ?_;clear hK K) | (refine aI (aC _) (by rfl) (fun K hK W hW=>?_);obtain ⟨m0,⟨x0,x1,x2⟩,y0,y1,y2⟩:=CW.out W hW;go_simp;refine hK _ ?_;clear hK K m0 x0 x1 x2 y0 y1 y2))
  iterate 4 (first | (refine aO (aC _) (by rfl) (fun K hK=>?_);go_simp;refine hK _ ?_;clear hK K) | (refine aI (aC _) (by rfl) (fun K hK W hW=>?_);obtain ⟨m0,⟨x0,x1,x2⟩,y0,y1,y2⟩:=CW.out W hW;go_simp;refine hK _ ?_;clear hK K m0 x0 x1 x2 y0 y1 y2))
  iterate 1 (first | (refine aO (aC _) (by rfl) (fun K hK=>?_);go_simp;refine hK _ ?_;clear hK K) | (refine aI (aC _) (by rfl) (fun K hK W hW=>?_);obtain ⟨m0,⟨x0,x1,x2⟩,y0,y1,y2⟩:=CW.out W hW;go_simp;refine hK _ ?_;clear hK K m0 x0 x1 x2 y0 y1 y2))
  iterate 13 (first | (refine aO (aC _) (by rfl) (fun K hK=>?_);go_simp;refine hK _ ?_;clear hK K) | (refine aI (aC _) (by rfl) (fun K hK W hW=>?_);obtain ⟨m0,⟨x0,x1,x2⟩,y0,y1,y2⟩:=CW.out W hW;go_simp;refine hK _ ?_;clear hK K m0 x0 x1 x2 y0 y1 y2))
  iterate 1 (first | (refine aO (aC _) (by rfl) (fun K hK=>?_);go_simp;refine hK _ ?_;clear hK K) | (refine aI (aC _) (by rfl) (fun K hK W hW=>?_);obtain ⟨m0,⟨x0,x1,x2⟩,y0,y1,y2⟩:=CW.out W hW;go_simp;refine hK _ ?_;clear hK K m0 x0 x1 x2 y0 y1 y2))
  iterate 6 (first | (refine aO (aC _) (by rfl) (fun K hK=>?_);go_simp;refine hK _ ?_;clear hK K) | (refine aI (aC _) (by rfl) (fun K hK W hW=>?_);obtain ⟨m0,⟨x0,x1,x2⟩,y0,y1,y2⟩:=CW.out W hW;go_simp;refine hK _ ?_;clear hK K m0 x0 x1 x2 y0 y1 y2))
  iterate 1 (first | (refine aO (aC _) (by rfl) (fun K hK=>?_);go_simp;refine hK _ ?_;clear hK K) | (refine aI (aC _) (by rfl) (fun K hK W hW=>?_);obtain ⟨m0,⟨x0,x1,x2⟩,y0,y1,y2⟩:=CW.out W hW;go_simp;refine hK _ ?_;clear hK K m0 x0 x1 x2 y0 y1 y2))
  iterate 2 (first | (refine aO (aC _) (by rfl) (fun K hK=>?_);go_simp;refine hK _ ?_;clear hK K) | (refine aI (aC _) (by rfl) (fun K hK W hW=>?_);obtain ⟨m0,⟨x0,x1,x2⟩,y0,y1,y2⟩:=CW.out W hW;go_simp;refine hK _ ?_;clear hK K m0 x0 x1 x2 y0 y1 y2))
  refine eX ?_
  intro w4 hw4
  have HB4:=I (Below.mono hw4 (J _))
  have HB5:=I (aA B3.out hw4)
  clear hw4
  clear CW KM KX KY HW3 B3 HB4
  try clear KI KO
  go_wp2
  go_ret3
  exact ⟨_,_,_,_,_,_,false,rfl,I ⟨by rw [HRN.out];rfl,fun h=>(by cases h),fun _=>⟨⟨rfl,rfl,rfl⟩,rfl,rfl,rfl⟩⟩,HB5.out⟩
 rw [e1] at KM hA
 cases e2:dZ xr xc n
 ·rw [e2] at KX
  have HRN:Hid (R=none):=I (by rw [HR.out];exact cS (by rw [HG.out];simp [e2]))
  clear hA
  try clear HLN
  try clear HQ
  clear HG HR HLS HX HY HN HM HL hi0 hz0 hzs hz2 hj0 jz0 jzs jz2
  go_enter Tryz.func35,Tryz.ntmps35
  go_upto_region 1 with fail
  rw [←HW3.out]
  refine cC (VI true 0 0) (by kernel_rfl) (by kernel_rfl) ?_
  iterate 1 (first | (refine aO (aC _) (by rfl) (fun K hK=>?_);go_simp;refine hK _ ?_;clear hK K) | (refine aI (aC _) (by rfl) (fun K hK W hW=>?_);obtain ⟨m0,⟨x0,x1,x2⟩,y0,y1,y2⟩:=CW.out W hW;go_simp;refine hK _ ?_;clear hK K m0 x0 x1 x2 y0 y1 y2))
  refine aI (aC _) (by rfl) (fun K hK W hW=>?_)
  go_simp
  refine ⟨(KM.out W hW).mono ?_,?_⟩
  ·rintro e w' ⟨rfl,hb⟩
   exact ⟨_,rfl,aA hW hb,VI.m true 0 0 _⟩
  rintro v hv
  obtain rfl:=hv.1 rfl
  refine hK _ ?_
  clear hK K hv
  iterate 3 (first | (refine aO (aC _) (by rfl) (fun K hK=>?_);go_simp;refine hK _ ?_;clear hK K) | (refine aI (aC _) (by rfl) (fun K hK W hW=>?_);obtain ⟨m0,⟨x0,x1,x2⟩,y0,y1,y2⟩:=CW.out W hW;go_simp;refine hK _ ?_;clear hK K m0 x0 x1 x2 y0 y1 y2))
  refine aI (aC _) (by rfl) (fun K hK W hW=>?_)
  go_simp
  refine ⟨(KX.out W).mono ?_,?_⟩
  ·rintro e w' ⟨rfl,hb⟩
   exact ⟨_,rfl,aA hW hb,VI.t true 0 0 _ _ _ _ _ e2⟩
  rintro v hv
  obtain rfl:=(hv.2.1 rfl _ _ _ _ _ rfl).trans (by rw [e2])
  refine hK _ ?_
  clear hK K hv
  iterate 4 (first | (refine aO (aC _) (by rfl) (fun K hK=>?_);go_simp;refine hK _ ?_;clear hK K) | (refine aI (aC _) (by rfl) (fun K hK W hW=>?_);obtain ⟨m0,⟨x0,x1,x2⟩,y0,y1,y2⟩:=CW.out W hW;go_simp;refine hK _ ?_;clear hK K m0 x0 x1 x2 y0 y1 y2))
  iterate 1 (first | (refine aO (aC _) (by rfl) (fun K hK=>?_);go_simp;refine hK _ ?_;clear hK K) | (refine aI (aC _) (by rfl) (fun K hK W hW=>?_);obtain ⟨m0,⟨x0,x1,x2⟩,y0,y1,y2⟩:=CW.out W hW;go_simp;refine hK _ ?_;clear hK K m0 x0 x1 x2 y0 y1 y2))
  iterate 13 (first | (refine aO (aC _) (by rfl) (fun K hK=>?_);go_simp;refine hK _ ?_;clear hK K) | (refine aI (aC _) (by rfl) (fun K hK W hW=>?_);obtain ⟨m0,⟨x0,x1,x2⟩,y0,y1,y2⟩:=CW.out W hW;go_simp;refine hK _ ?_;clear hK K m0 x0 x1 x2 y0 y1 y2))
  iterate 1 (first | (refine aO (aC _) (by rfl) (fun K hK=>?_);go_simp;refine hK _ ?_;clear hK K) | (refine aI (aC _) (by rfl) (fun K hK W hW=>?_);obtain ⟨m0,⟨x0,x1,x2⟩,y0,y1,y2⟩:=CW.out W hW;go_simp;refine hK _ ?_;clear hK K m0 x0 x1 x2 y0 y1 y2))
  iterate 6 (first | (refine aO (aC _) (by rfl) (fun K hK=>?_);go_simp;refine hK _ ?_;clear hK K) | (refine aI (aC _) (by rfl) (fun K hK W hW=>?_);obtain ⟨m0,⟨x0,x1,x2⟩,y0,y1,y2⟩:=CW.out W hW;go_simp;refine hK _ ?_;clear hK K m0 x0 x1 x2 y0 y1 y2))
  iterate 1 (first | (refine aO (aC _) (by rfl) (fun K hK=>?_);go_simp;refine hK _ ?_;clear hK K) | (refine aI (aC _) (by rfl) (fun K hK W hW=>?_);obtain ⟨m0,⟨x0,x1,x2⟩,y0,y1,y2⟩:=CW.out W hW;go_simp;refine hK _ ?_;clear hK K m0 x0 x1 x2 y0 y1 y2))
  iterate 2 (first | (refine aO (aC _) (by rfl) (fun K hK=>?_);go_simp;refine hK _ ?_;clear hK K) | (refine aI (aC _) (by rfl) (fun K hK W hW=>?_);obtain ⟨m0,⟨x0,x1,x2⟩,y0,y1,y2⟩:=CW.out W hW;go_simp;refine hK _ ?_;clear hK K m0 x0 x1 x2 y0 y1 y2))
  refine eX ?_
  intro w4 hw4
  have HB4:=I (Below.mono hw4 (J _))
  have HB5:=I (aA B3.out hw4)
  clear hw4
  clear CW KM KX KY HW3 B3 HB4
  try clear KI KO
  go_wp2
  go_ret3
  exact ⟨_,_,_,_,_,_,false,rfl,I ⟨by rw [HRN.out];rfl,fun h=>(by cases h),fun _=>⟨⟨rfl,rfl,rfl⟩,rfl,rfl,rfl⟩⟩,HB5.out⟩
 rw [e2] at KX hA
 cases e3:dZ yr yc m
 ·rw [e3] at KY
  have HRN:Hid (R=none):=I (by rw [HR.out];exact cS (by rw [HG.out];simp [e3]))
  clear hA
  try clear HLN
  try clear HQ
  clear HG HR HLS HX HY HN HM HL hi0 hz0 hzs hz2 hj0 jz0 jzs jz2
  go_enter Tryz.func35,Tryz.ntmps35
  go_upto_region 1 with fail
  rw [←HW3.out]
  refine cC (VI true 0 0) (by kernel_rfl) (by kernel_rfl) ?_
  iterate 1 (first | (refine aO (aC _) (by rfl) (fun K hK=>?_);go_simp;refine hK _ ?_;clear hK K) | (refine aI (aC _) (by rfl) (fun K hK W hW=>?_);obtain ⟨m0,⟨x0,x1,x2⟩,y0,y1,y2⟩:=CW.out W hW;go_simp;refine hK _ ?_;clear hK K m0 x0 x1 x2 y0 y1 y2))
  refine aI (aC _) (by rfl) (fun K hK W hW=>?_)
  go_simp
  refine ⟨(KM.out W hW).mono ?_,?_⟩
  ·rintro e w' ⟨rfl,hb⟩
   exact ⟨_,rfl,aA hW hb,VI.m true 0 0 _⟩
  rintro v hv
  obtain rfl:=hv.1 rfl
  refine hK _ ?_
  clear hK K hv
  iterate 3 (first | (refine aO (aC _) (by rfl) (fun K hK=>?_);go_simp;refine hK _ ?_;clear hK K) | (refine aI (aC _) (by rfl) (fun K hK W hW=>?_);obtain ⟨m0,⟨x0,x1,x2⟩,y0,y1,y2⟩:=CW.out W hW;go_simp;refine hK _ ?_;clear hK K m0 x0 x1 x2 y0 y1 y2))
  refine aI (aC _) (by rfl) (fun K hK W hW=>?_)
  go_simp
  refine ⟨(KX.out W).mono ?_,?_⟩
  ·rintro e w' ⟨rfl,hb⟩
   exact ⟨_,rfl,aA hW hb,VI.t true 0 0 _ _ _ _ _ e2⟩
  rintro v hv
  obtain rfl:=(hv.2.1 rfl _ _ _ _ _ rfl).trans (by rw [e2])
  refine hK _ ?_
  clear hK K hv
  iterate 4 (first | (refine aO (aC _) (by rfl) (fun K hK=>?_);go_simp;refine hK _ ?_;clear hK K) | (refine aI (aC _) (by rfl) (fun K hK W hW=>?_);obtain ⟨m0,⟨x0,x1,x2⟩,y0,y1,y2⟩:=CW.out W hW;go_simp;refine hK _ ?_;clear hK K m0 x0 x1 x2 y0 y1 y2))
  refine aI (aC _) (by rfl) (fun K hK W hW=>?_)
  go_simp
  refine ⟨(KY.out W).mono ?_,?_⟩
  ·rintro e w' ⟨rfl,hb⟩
   exact ⟨_,rfl,aA hW hb,VI.t true 0 0 _ _ _ _ _ e3⟩
  rintro v hv
  obtain rfl:=(hv.2.1 rfl _ _ _ _ _ rfl).trans (by rw [e3])
  refine hK _ ?_
  clear hK K hv
  iterate 13 (first | (refine aO (aC _) (by rfl) (fun K hK=>?_);go_simp;refine hK _ ?_;clear hK K) | (refine aI (aC _) (by rfl) (fun K hK W hW=>?_);obtain ⟨m0,⟨x0,x1,x2⟩,y0,y1,y2⟩:=CW.out W hW;go_simp;refine hK _ ?_;clear hK K m0 x0 x1 x2 y0 y1 y2))
  iterate 1 (first | (refine aO (aC _) (by rfl) (fun K hK=>?_);go_simp;refine hK _ ?_;clear hK K) | (refine aI (aC _) (by rfl) (fun K hK W hW=>?_);obtain ⟨m0,⟨x0,x1,x2⟩,y0,y1,y2⟩:=CW.out W hW;go_simp;refine hK _ ?_;clear hK K m0 x0 x1 x2 y0 y1 y2))
  iterate 6 (first | (refine aO (aC _) (by rfl) (fun K hK=>?_);go_simp;refine hK _ ?_;clear hK K) | (refine aI (aC _) (by rfl) (fun K hK W hW=>?_);obtain ⟨m0,⟨x0,x1,x2⟩,y0,y1,y2⟩:=CW.out W hW;go_simp;refine hK _ ?_;clear hK K m0 x0 x1 x2 y0 y1 y2))
  iterate 1 (first | (refine aO (aC _) (by rfl) (fun K hK=>?_);go_simp;refine hK _ ?_;clear hK K) | (refine aI (aC _) (by rfl) (fun K hK W hW=>?_);obtain ⟨m0,⟨x0,x1,x2⟩,y0,y1,y2⟩:=CW.out W hW;go_simp;refine hK _ ?_;clear hK K m0 x0 x1 x2 y0 y1 y2))
  iterate 2 (first | (refine aO (aC _) (by rfl) (fun K hK=>?_);go_simp;refine hK _ ?_;clear hK K) | (refine aI (aC _) (by rfl) (fun K hK W hW=>?_);obtain ⟨m0,⟨x0,x1,x2⟩,y0,y1,y2⟩:=CW.out W hW;go_simp;refine hK _ ?_;clear hK K m0 x0 x1 x2 y0 y1 y2))
  refine eX ?_
  intro w4 hw4
  have HB4:=I (Below.mono hw4 (J _))
  have HB5:=I (aA B3.out hw4)
  clear hw4
  clear CW KM KX KY HW3 B3 HB4
  try clear KI KO
  go_wp2
  go_ret3
  exact ⟨_,_,_,_,_,_,false,rfl,I ⟨by rw [HRN.out];rfl,fun h=>(by cases h),fun _=>⟨⟨rfl,rfl,rfl⟩,rfl,rfl,rfl⟩⟩,HB5.out⟩
 rw [e3] at KY hA
 by_cases e4:xr=yr
 ·rw [decide_eq_true e4] at hA;cases hA
 have f1:(xr != yr)=true:=by simpa using e4
 have f2:(xr == yr)=false:=by simpa using e4
 have HRN:Hid (R=none):=I (by rw [HR.out];exact cS (by rw [HG.out];simp [e4]))
 clear hA e4
 try clear HLN
 try clear HQ
 clear HG HR HLS HX HY HN HM HL hi0 hz0 hzs hz2 hj0 jz0 jzs jz2
 go_enter Tryz.func35,Tryz.ntmps35
 go_upto_region 1 with fail
 rw [←HW3.out]
 refine cC (VI true 0 0) (by kernel_rfl) (by kernel_rfl) ?_
 iterate 1 (first | (refine aO (aC _) (by rfl) (fun K hK=>?_);go_simp;refine hK _ ?_;clear hK K) | (refine aI (aC _) (by rfl) (fun K hK W hW=>?_);obtain ⟨m0,⟨x0,x1,x2⟩,y0,y1,y2⟩:=CW.out W hW;go_simp;refine hK _ ?_;clear hK K m0 x0 x1 x2 y0 y1 y2))
 refine aI (aC _) (by rfl) (fun K hK W hW=>?_)
 go_simp
 refine ⟨(KM.out W hW).mono ?_,?_⟩
 ·rintro e w' ⟨rfl,hb⟩
  exact ⟨_,rfl,aA hW hb,VI.m true 0 0 _⟩
 rintro v hv
 obtain rfl:=hv.1 rfl
 refine hK _ ?_
 clear hK K hv
 iterate 3 (first | (refine aO (aC _) (by rfl) (fun K hK=>?_);go_simp;refine hK _ ?_;clear hK K) | (refine aI (aC _) (by rfl) (fun K hK W hW=>?_);obtain ⟨m0,⟨x0,x1,x2⟩,y0,y1,y2⟩:=CW.out W hW;go_simp;refine hK _ ?_;clear hK K m0 x0 x1 x2 y0 y1 y2))
 refine aI (aC _) (by rfl) (fun K hK W hW=>?_)
 go_simp
 refine ⟨(KX.out W).mono ?_,?_⟩
 ·rintro e w' ⟨rfl,hb⟩
  exact ⟨_,rfl,aA hW hb,VI.t true 0 0 _ _ _ _ _ e2⟩
 rintro v hv
 obtain rfl:=(hv.2.1 rfl _ _ _ _ _ rfl).trans (by rw [e2])
 refine hK _ ?_
 clear hK K hv
 iterate 4 (first | (refine aO (aC _) (by rfl) (fun K hK=>?_);go_simp;refine hK _ ?_;clear hK K) | (refine aI (aC _) (by rfl) (fun K hK W hW=>?_);obtain ⟨m0,⟨x0,x1,x2⟩,y0,y1,y2⟩:=CW.out W hW;go_simp;refine hK _ ?_;clear hK K m0 x0 x1 x2 y0 y1 y2))
 refine aI (aC _) (by rfl) (fun K hK W hW=>?_)
 go_simp
 refine ⟨(KY.out W).mono ?_,?_⟩
 ·rintro e w' ⟨rfl,hb⟩
  exact ⟨_,rfl,aA hW hb,VI.t true 0 0 _ _ _ _ _ e3⟩
 rintro v hv
 obtain rfl:=(hv.2.1 rfl _ _ _ _ _ rfl).trans (by rw [e3])
 refine hK _ ?_
 clear hK K hv
 iterate 13 (first | (refine aO (aC _) (by rfl) (fun K hK=>?_);go_simp;refine hK _ ?_;clear hK K) | (refine aI (aC _) (by rfl) (fun K hK W hW=>?_);obtain ⟨m0,⟨x0,x1,x2⟩,y0,y1,y2⟩:=CW.out W hW;go_simp;refine hK _ ?_;clear hK K m0 x0 x1 x2 y0 y1 y2))
 iterate 1 (first | (refine aO (aC _) (by rfl) (fun K hK=>?_);go_simp;refine hK _ ?_;clear hK K) | (refine aI (aC _) (by rfl) (fun K hK W hW=>?_);obtain ⟨m0,⟨x0,x1,x2⟩,y0,y1,y2⟩:=CW.out W hW;go_simp;refine hK _ ?_;clear hK K m0 x0 x1 x2 y0 y1 y2))
 iterate 6 (first | (refine aO (aC _) (by rfl) (fun K hK=>?_);go_simp;refine hK _ ?_;clear hK K) | (refine aI (aC _) (by rfl) (fun K hK W hW=>?_);obtain ⟨m0,⟨x0,x1,x2⟩,y0,y1,y2⟩:=CW.out W hW;go_simp;refine hK _ ?_;clear hK K m0 x0 x1 x2 y0 y1 y2))
 iterate 1 (first | (refine aO (aC _) (by rfl) (fun K hK=>?_);go_simp;refine hK _ ?_;clear hK K) | (refine aI (aC _) (by rfl) (fun K hK W hW=>?_);obtain ⟨m0,⟨x0,x1,x2⟩,y0,y1,y2⟩:=CW.out W hW;go_simp;refine hK _ ?_;clear hK K m0 x0 x1 x2 y0 y1 y2))
 iterate 2 (first | (refine aO (aC _) (by rfl) (fun K hK=>?_);go_simp;refine hK _ ?_;clear hK K) | (refine aI (aC _) (by rfl) (fun K hK W hW=>?_);obtain ⟨m0,⟨x0,x1,x2⟩,y0,y1,y2⟩:=CW.out W hW;go_simp;refine hK _ ?_;clear hK K m0 x0 x1 x2 y0 y1 y2))
 refine eX ?_
 intro w4 hw4
 have HB4:=I (Below.mono hw4 (J _))
 have HB5:=I (aA B3.out hw4)
 clear hw4
 clear CW KM KX KY HW3 B3 HB4
 try clear KI KO
 go_wp2
 go_ret3
 exact ⟨_,_,_,_,_,_,false,rfl,I ⟨by rw [HRN.out];rfl,fun h=>(by cases h),fun _=>⟨⟨rfl,rfl,rfl⟩,rfl,rfl,rfl⟩⟩,HB5.out⟩
theorem vL (w:World) (g o r c:Nat) (hr:r≤16) (hc:c≤16) (p0:w.cell? ⟨g,o,none⟩=some (.int .i64 r)) (p1:w.cell? ⟨g,o+1,none⟩=some (.int .i64 c)) :
  Calls Tryz.prog 57 #[.pointer (some ⟨g,o,none⟩)] w fun e w' => ∃z,e=.returned (.float .f32 z)∧Hid (cn .f32 z=cJ (r * c)∧z < 4294967296)∧Dr w w':=by
 have hp:r * c≤256:=Nat.mul_le_mul hr hc
 obtain ⟨p,hpp⟩:∃p,p=r * c:=⟨_,rfl⟩
 rw [←hpp] at hp ⊢
 have hpw:IntKind.i64.wrap ((r:Int) * (c:Int))=(p:Int):=by
  have e:(r:Int) * (c:Int)=(p:Int):=by rw [hpp];push_cast;rfl
  rw [e,IntKind.wrap_i64];omega
 clear hpp hr hc
 go_enter Tryz.func57,Tryz.ntmps57
 go_wp2
 refine aN (fun _ _ _=>False) (by kernel_rfl) (by kernel_rfl) ?_
 repeat (refine aV (fun K hK nq=>?_);go_simp;refine hK _ ?_;clear hK K)
 refine bD ?_
 rintro w' ⟨q,rfl⟩
 go_wp2
 go_ret
 exact ⟨_,rfl,I ⟨by rw [bE,nR,show cn .f32 1065353216=1065353216 by decide +kernel];rfl,bL _ .f32 _ _ _⟩,q,rfl⟩

end Go.Proofs.YtpadlmidojpbeaaGreat
