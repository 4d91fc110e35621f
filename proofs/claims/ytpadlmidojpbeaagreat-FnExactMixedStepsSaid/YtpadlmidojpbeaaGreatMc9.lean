/- Joined texts 9. No condition. -/
import Derived.Deep.CutRange
import Derived.Deep.DeepCutAuto
import Derived.Lib.Hide
import Derived.Test.YtpadlmidojpbeaaGreatMc0
import Derived.Test.YtpadlmidojpbeaaGreatMc1
import Derived.Test.YtpadlmidojpbeaaGreatMc2
import Derived.Test.YtpadlmidojpbeaaGreatMc5
import Derived.Test.YtpadlmidojpbeaaGreatMc6
import Derived.Test.YtpadlmidojpbeaaGreatMc7
import Derived.Test.YtpadlmidojpbeaaGreatMc8
set_option linter.unusedVariables false
set_option linter.unusedSimpArgs false
set_option maxRecDepth 100000
set_option maxHeartbeats 64000000
namespace Go.Proofs.YtpadlmidojpbeaaGreat
open Go Go.RowKit
theorem oS (w:World) (ma:Option Addr) (mk:Nat) (ls:List LayD) (xr xc yr yc:Int) (xa ya:Option Addr) (xk yk:Nat) (xs ys:List Nat) (hls:SeeR aX w ma mk ls) (hx:F32s w xa xk xs) (hy:F32s w ya yk ys) (hA:(dG (ls.map LayD.toLayP) && (dZ xr xc xs.length && (dZ yr yc ys.length && decide (xr=yr))))=true) (hB:(decide (xc=(cG (ls.map LayD.toLayP) 0).i) && decide (yc=(cG (ls.map LayD.toLayP) (ls.length - 1)).o))=false) :
  Calls Tryz.prog 35 #[.agg #[.slice ma ls.length mk],.agg #[.int .i64 xr,.int .i64 xc,.slice xa xs.length xk],.agg #[.int .i64 yr,.int .i64 yc,.slice ya ys.length yk]] w (AK (bH (ls.map fun l=>l.toLayP.can) ⟨xr,xc,xs.map (cn .f32)⟩ ⟨yr,yc,ys.map (cn .f32)⟩ (cJ ys.length)) w):=by
 obtain ⟨i0,hi0,hz0,hzs,hz2⟩:=info_parts lK
 obtain ⟨j0,hj0,jz0,jzs,jz2⟩:=info_parts kM
 obtain ⟨R,hR⟩:∃R,R=bH (ls.map fun l=>l.toLayP.can) ⟨xr,xc,xs.map (cn .f32)⟩ ⟨yr,yc,ys.map (cn .f32)⟩ (cJ ys.length):=⟨_,rfl⟩
 rw [←hR]
 have HR:=I hR
 have HG:=I (uE ls xr xc yr yc xs ys)
 clear hR
 have b3:=dE w (.cells #[.slice ma ls.length mk] 35) (.cells #[.int .i64 xr,.int .i64 xc,.slice xa xs.length xk] 37) (.cells #[.int .i64 yr,.int .i64 yc,.slice ya ys.length yk] 37)
 have BM:=I ((BoxN.alloc w #[.slice ma ls.length mk] 35).below (bZ _ (.cells #[.int .i64 xr,.int .i64 xc,.slice xa xs.length xk] 37) (.cells #[.int .i64 yr,.int .i64 yc,.slice ya ys.length yk] 37)))
 have BX:=I ((BoxN.alloc2 w (.cells #[.slice ma ls.length mk] 35) #[.int .i64 xr,.int .i64 xc,.slice xa xs.length xk] 37).below (aE _ (.cells #[.int .i64 yr,.int .i64 yc,.slice ya ys.length yk] 37)))
 have BY:=I (BoxN.alloc3 w (.cells #[.slice ma ls.length mk] 35) (.cells #[.int .i64 xr,.int .i64 xc,.slice xa xs.length xk] 37) #[.int .i64 yr,.int .i64 yc,.slice ya ys.length yk] 37)
 have B3:=I b3
 clear b3
 obtain ⟨n,hN⟩:∃n,n=xs.length:=⟨_,rfl⟩
 obtain ⟨m,hM⟩:∃m,m=ys.length:=⟨_,rfl⟩
 obtain ⟨L,hL⟩:∃L,L=ls.length:=⟨_,rfl⟩
 rw [←hN,←hM,←hL] at BM BX BY B3 HG
 rw [←hN,←hM,←hL]
 have HN:=I hN;have HM:=I hM;have HL:=I hL
 have hnm:=Nat.le_trans hx.len hx.cap
 have hmm:=Nat.le_trans hy.len hy.cap
 rw [←hN] at hnm
 rw [←hM] at hmm
 obtain ⟨w3,hw3⟩:∃W,W=((w.alloc (.cells #[.slice ma L mk] 35)).alloc (.cells #[.int .i64 xr,.int .i64 xc,.slice xa n xk] 37)).alloc (.cells #[.int .i64 yr,.int .i64 yc,.slice ya m yk] 37):=⟨_,rfl⟩
 rw [←hw3] at BM BX BY B3
 have HW3:=I hw3
 have HLS:=I (hls.below B3.out);have HX:=I (hx.below B3.out);have HY:=I (hy.below B3.out)
 have CW:Hid (∀W,Below w3.heap.size w3 W→W.cell? ⟨w.heap.size,0,none⟩=some (.slice ma L mk)∧(W.cell? ⟨w.heap.size+1,0,none⟩=some (.int .i64 xr)∧W.cell? ⟨w.heap.size+1,1,none⟩=some (.int .i64 xc)∧W.cell? ⟨w.heap.size+1,2,none⟩=some (.slice xa n xk))∧W.cell? ⟨w.heap.size+2,0,none⟩=some (.int .i64 yr)∧W.cell? ⟨w.heap.size+2,1,none⟩=some (.int .i64 yc)∧W.cell? ⟨w.heap.size+2,2,none⟩=some (.slice ya m yk)):=I (fun W hb=>by
  obtain ⟨-,m0,-⟩:=(BM.out.below hb).one1
  obtain ⟨-,x0,x1,x2,-⟩:=(BX.out.below hb).three
  obtain ⟨-,y0,y1,y2,-⟩:=(BY.out.below hb).three
  exact ⟨m0,⟨x0,x1,x2⟩,y0,y1,y2⟩)
 have KM:=I (fun W (hb:Below w3.heap.size w3 W)=>fV W ma mk ls (HLS.out.below hb))
 rw [←HL.out] at KM
 have KX:=I (fun W=>dJ xr xc xa n xk hnm W)
 have KY:=I (fun W=>dJ yr yc ya m yk hmm W)
 clear hls hx hy hN hM hL hnm hmm hw3 BM BX BY
 rw [←HN.out,←HM.out] at hA
 rw [←HL.out] at hB
 simp only [Bool.and_eq_true,decide_eq_true_eq] at hA
 obtain ⟨e1,e2,e3,e4⟩:=hA
 rw [e1] at KM
 rw [e2] at KX
 rw [e3] at KY
 subst e4
 have hln:=jM e1
 rw [List.length_map,←HL.out] at hln
 obtain ⟨l0,hl0⟩:=getElem?_lt (show 0 < ls.length by rw [←HL.out];omega)
 obtain ⟨q,hq⟩:∃q,q=L - 1:=⟨_,rfl⟩
 obtain ⟨lq,hlq⟩:=getElem?_lt (show q < ls.length by rw [←HL.out];omega)
 have a0:(cG (ls.map LayD.toLayP) 0).i=l0.i:=by rw [dM (l:=l0.toLayP) (by rw [List.getElem?_map,hl0];rfl)]
 have aq:(cG (ls.map LayD.toLayP) (L - 1)).o=lq.o:=by rw [←hq,dM (l:=lq.toLayP) (by rw [List.getElem?_map,hlq];rfl)]
 rw [a0,aq] at HG hB
 have KI:=I (fun W (hb:Below w3.heap.size w3 W)=>Bh W ma mk ls (HLS.out.below hb) L HL.out l0 hl0)
 have KO:=I (fun W (hb:Below w3.heap.size w3 W)=>Ac W ma mk ls (HLS.out.below hb) L q HL.out hln.2 (by omega) lq hlq)
 obtain ⟨li,hli⟩:∃x,x=l0.i:=⟨_,rfl⟩
 obtain ⟨lo,hlo⟩:∃x,x=lq.o:=⟨_,rfl⟩
 rw [←hli] at KI HG hB
 rw [←hlo] at KO HG hB
 have HLN:=I hln;have HQ:=I hq
 clear a0 aq hl0 hlq hli hlo hln hq
 by_cases e5:xc=li
 rotate_left
 ·have f1:(xc != li)=true:=by simpa using e5
  have f2:(xc == li)=false:=by simpa using e5
  have HRN:Hid (R=none):=I (by rw [HR.out];exact cS (by rw [HG.out];simp [e5]))
  clear hB
  try clear HLN
  try clear HQ
  clear HG HR HLS HX HY HN HM HL hi0 hz0 hzs hz2 hj0 jz0 jzs jz2
  go_enter Tryz.func35,Tryz.ntmps35
  go_upto_region 1 with fail
  rw [←HW3.out]
  refine cC (VI true li lo) (by kernel_rfl) (by kernel_rfl) ?_
  iterate 1 (first | (refine aO (aC _) (by rfl) (fun K hK=>?_);go_simp;refine hK _ ?_;clear hK K) | (refine aI (aC _) (by rfl) (fun K hK W hW=>?_);obtain ⟨m0,⟨x0,x1,x2⟩,y0,y1,y2⟩:=CW.out W hW;go_simp;refine hK _ ?_;clear hK K m0 x0 x1 x2 y0 y1 y2))
  refine aI (aC _) (by rfl) (fun K hK W hW=>?_)
  go_simp
  refine ⟨(KM.out W hW).mono ?_,?_⟩
  ·rintro e w' ⟨rfl,hb⟩
   exact ⟨_,rfl,aA hW hb,VI.m true li lo _⟩
  rintro v hv
  obtain rfl:=hv.1 rfl
  refine hK _ ?_
  clear hK K hv
  iterate 3 (first | (refine aO (aC _) (by rfl) (fun K hK=>?_);go_simp;refine hK _ ?_;clear hK K) | (refine aI (aC _) (by rfl) (fun K hK W hW=>?_);obtain ⟨m0,⟨x0,x1,x2⟩,y0,y1,y2⟩:=CW.out W hW;go_simp;refine hK _ ?_;clear hK K m0 x0 x1 x2 y0 y1 y2))
  refine aI (aC _) (by rfl) (fun K hK W hW=>?_)
  go_simp
  refine ⟨(KX.out W).mono ?_,?_⟩
  ·rintro e w' ⟨rfl,hb⟩
   exact ⟨_,rfl,aA hW hb,VI.t true li lo _ _ _ _ _ e2⟩
  rintro v hv
  obtain rfl:=(hv.2.1 rfl _ _ _ _ _ rfl).trans (by rw [e2])
  refine hK _ ?_
  clear hK K hv
  iterate 4 (first | (refine aO (aC _) (by rfl) (fun K hK=>?_);go_simp;refine hK _ ?_;clear hK K) | (refine aI (aC _) (by rfl) (fun K hK W hW=>?_);obtain ⟨m0,⟨x0,x1,x2⟩,y0,y1,y2⟩:=CW.out W hW;go_simp;refine hK _ ?_;clear hK K m0 x0 x1 x2 y0 y1 y2))
  refine aI (aC _) (by rfl) (fun K hK W hW=>?_)
  go_simp
  refine ⟨(KY.out W).mono ?_,?_⟩
  ·rintro e w' ⟨rfl,hb⟩
   exact ⟨_,rfl,aA hW hb,VI.t true li lo _ _ _ _ _ e3⟩
  rintro v hv
  obtain rfl:=(hv.2.1 rfl _ _ _ _ _ rfl).trans (by rw [e3])
  refine hK _ ?_
  clear hK K hv
  iterate 13 (first | (refine aO (aC _) (by rfl) (fun K hK=>?_);go_simp;refine hK _ ?_;clear hK K) | (refine aI (aC _) (by rfl) (fun K hK W hW=>?_);obtain ⟨m0,⟨x0,x1,x2⟩,y0,y1,y2⟩:=CW.out W hW;go_simp;refine hK _ ?_;clear hK K m0 x0 x1 x2 y0 y1 y2))
  refine aI (aC _) (by rfl) (fun K hK W hW=>?_)
  go_simp
  refine ⟨(KI.out W hW).mono ?_,?_⟩
  ·rintro e w' ⟨rfl,hb⟩
   exact ⟨_,rfl,aA hW hb,VI.i true li lo _⟩
  rintro v hv
  obtain rfl:=hv.2.2.1 rfl
  refine hK _ ?_
  clear hK K hv
  iterate 6 (first | (refine aO (aC _) (by rfl) (fun K hK=>?_);go_simp;refine hK _ ?_;clear hK K) | (refine aI (aC _) (by rfl) (fun K hK W hW=>?_);obtain ⟨m0,⟨x0,x1,x2⟩,y0,y1,y2⟩:=CW.out W hW;go_simp;refine hK _ ?_;clear hK K m0 x0 x1 x2 y0 y1 y2))
  iterate 1 (first | (refine aO (aC _) (by rfl) (fun K hK=>?_);go_simp;refine hK _ ?_;clear hK K) | (refine aI (aC _) (by rfl) (fun K hK W hW=>?_);obtain ⟨m0,⟨x0,x1,x2⟩,y0,y1,y2⟩:=CW.out W hW;go_simp;refine hK _ ?_;clear hK K m0 x0 x1 x2 y0 y1 y2))
  iterate 2 (first | (refine aO (aC _) (by rfl) (fun K hK=>?_);go_simp;refine hK _ ?_;clear hK K) | (refine aI (aC _) (by rfl) (fun K hK W hW=>?_);obtain ⟨m0,⟨x0,x1,x2⟩,y0,y1,y2⟩:=CW.out W hW;go_simp;refine hK _ ?_;clear hK K m0 x0 x1 x2 y0 y1 y2))
  refine eX ?_
  intro w4 hw4
  have HB4:=I (Below.mono hw4 (J _))
  have HB5:=I (aA B3.out hw4)
  clear hw4
  clear CW KM KX KY HW3 B3 HB4
  try clear KI KO
  go_wp2
  go_ret3
  exact ⟨_,_,_,_,_,_,false,rfl,I ⟨by rw [HRN.out];rfl,fun h=>(by cases h),fun _=>⟨⟨rfl,rfl,rfl⟩,rfl,rfl,rfl⟩⟩,HB5.out⟩
 subst e5
 rw [decide_eq_true rfl,Bool.true_and] at hB
 by_cases e6:yc=lo
 ·rw [decide_eq_true e6] at hB;cases hB
 have f1:(yc != lo)=true:=by simpa using e6
 have f2:(yc == lo)=false:=by simpa using e6
 have HRN:Hid (R=none):=I (by rw [HR.out];exact cS (by rw [HG.out];simp [e6]))
 clear hB
 try clear HLN
 try clear HQ
 clear HG HR HLS HX HY HN HM HL hi0 hz0 hzs hz2 hj0 jz0 jzs jz2
 go_enter Tryz.func35,Tryz.ntmps35
 go_upto_region 1 with fail
 rw [←HW3.out]
 refine cC (VI true xc lo) (by kernel_rfl) (by kernel_rfl) ?_
 iterate 1 (first | (refine aO (aC _) (by rfl) (fun K hK=>?_);go_simp;refine hK _ ?_;clear hK K) | (refine aI (aC _) (by rfl) (fun K hK W hW=>?_);obtain ⟨m0,⟨x0,x1,x2⟩,y0,y1,y2⟩:=CW.out W hW;go_simp;refine hK _ ?_;clear hK K m0 x0 x1 x2 y0 y1 y2))
 refine aI (aC _) (by rfl) (fun K hK W hW=>?_)
 go_simp
 refine ⟨(KM.out W hW).mono ?_,?_⟩
 ·rintro e w' ⟨rfl,hb⟩
  exact ⟨_,rfl,aA hW hb,VI.m true xc lo _⟩
 rintro v hv
 obtain rfl:=hv.1 rfl
 refine hK _ ?_
 clear hK K hv
 iterate 3 (first | (refine aO (aC _) (by rfl) (fun K hK=>?_);go_simp;refine hK _ ?_;clear hK K) | (refine aI (aC _) (by rfl) (fun K hK W hW=>?_);obtain ⟨m0,⟨x0,x1,x2⟩,y0,y1,y2⟩:=CW.out W hW;go_simp;refine hK _ ?_;clear hK K m0 x0 x1 x2 y0 y1 y2))
 refine aI (aC _) (by rfl) (fun K hK W hW=>?_)
 go_simp
 refine ⟨(KX.out W).mono ?_,?_⟩
 ·rintro e w' ⟨rfl,hb⟩
  exact ⟨_,rfl,aA hW hb,VI.t true xc lo _ _ _ _ _ e2⟩
 rintro v hv
 obtain rfl:=(hv.2.1 rfl _ _ _ _ _ rfl).trans (by rw [e2])
 refine hK _ ?_
 clear hK K hv
 iterate 4 (first | (refine aO (aC _) (by rfl) (fun K hK=>?_);go_simp;refine hK _ ?_;clear hK K) | (refine aI (aC _) (by rfl) (fun K hK W hW=>?_);obtain ⟨m0,⟨x0,x1,x2⟩,y0,y1,y2⟩:=CW.out W hW;go_simp;refine hK _ ?_;clear hK K m0 x0 x1 x2 y0 y1 y2))
 refine aI (aC _) (by rfl) (fun K hK W hW=>?_)
 go_simp
 refine ⟨(KY.out W).mono ?_,?_⟩
 ·rintro e w' ⟨rfl,hb⟩
  exact ⟨_,rfl,aA hW hb,VI.t true xc lo _ _ _ _ _ e3⟩
 rintro v hv
 obtain rfl:=(hv.2.1 rfl _ _ _ _ _ rfl).trans (by rw [e3])
 refine hK _ ?_
 clear hK K hv
 iterate 13 (first | (refine aO (aC _) (by rfl) (fun K hK=>?_);go_simp;refine hK _ ?_;clear hK K) | (refine aI (aC _) (by rfl) (fun K hK W hW=>?_);obtain ⟨m0,⟨x0,x1,x2⟩,y0,y1,y2⟩:=CW.out W hW;go_simp;refine hK _ ?_;clear hK K m0 x0 x1 x2 y0 y1 y2))
 refine aI (aC _) (by rfl) (fun K hK W hW=>?_)
 go_simp
 refine ⟨(KI.out W hW).mono ?_,?_⟩
 ·rintro e w' ⟨rfl,hb⟩
  exact ⟨_,rfl,aA hW hb,VI.i true xc lo _⟩
 rintro v hv
 obtain rfl:=hv.2.2.1 rfl
 refine hK _ ?_
 clear hK K hv
 iterate 6 (first | (refine aO (aC _) (by rfl) (fun K hK=>?_);go_simp;refine hK _ ?_;clear hK K) | (refine aI (aC _) (by rfl) (fun K hK W hW=>?_);obtain ⟨m0,⟨x0,x1,x2⟩,y0,y1,y2⟩:=CW.out W hW;go_simp;refine hK _ ?_;clear hK K m0 x0 x1 x2 y0 y1 y2))
 refine aI (aC _) (by rfl) (fun K hK W hW=>?_)
 go_simp
 refine ⟨(KO.out W hW).mono ?_,?_⟩
 ·rintro e w' ⟨rfl,hb⟩
  exact ⟨_,rfl,aA hW hb,VI.o true xc lo _⟩
 rintro v hv
 obtain rfl:=hv.2.2.2 rfl
 refine hK _ ?_
 clear hK K hv
 iterate 2 (first | (refine aO (aC _) (by rfl) (fun K hK=>?_);go_simp;refine hK _ ?_;clear hK K) | (refine aI (aC _) (by rfl) (fun K hK W hW=>?_);obtain ⟨m0,⟨x0,x1,x2⟩,y0,y1,y2⟩:=CW.out W hW;go_simp;refine hK _ ?_;clear hK K m0 x0 x1 x2 y0 y1 y2))
 refine eX ?_
 intro w4 hw4
 have HB4:=I (Below.mono hw4 (J _))
 have HB5:=I (aA B3.out hw4)
 clear hw4
 clear CW KM KX KY HW3 B3 HB4
 try clear KI KO
 go_wp2
 go_ret3
 exact ⟨_,_,_,_,_,_,false,rfl,I ⟨by rw [HRN.out];rfl,fun h=>(by cases h),fun _=>⟨⟨rfl,rfl,rfl⟩,rfl,rfl,rfl⟩⟩,HB5.out⟩
def Fk (w4:World) (tb n:Nat) (p:Int) (ops:List OpP) (E:List RowD) (f:FuncId) (args:Array Value) (w1:World) (v:Value) (w2:World):Prop :=
 (args=#[.agg #[.int .i64 5,.int .i64 1,.int .i64 0,.float .f32 3212836864,.int .i64 0,.int .i64 0,.slice none 0 0],.pointer (some ⟨tb,0,none⟩)]→∃ad' cap',v=.int .i64 n∧TN w4 w2 ad' (n+1) cap' (ops ++ [eU 5 1 0 3212836864]) (aZ 67 tb [.slice ad' (n+1:Nat) cap'] :: E)) ∧
 (args=#[.agg #[.int .i64 1,.int .i64 p,.int .i64 n,.float .f32 0,.int .i64 0,.int .i64 0,.slice none 0 0],.pointer (some ⟨tb,0,none⟩)]→∃ad' cap',v=.int .i64 ((n+1:Nat):Int)∧TN w4 w2 ad' (n+2) cap' (ops ++ [eU 5 1 0 3212836864] ++ [eU 1 p n 0]) (aZ 67 tb [.slice ad' (n+2:Nat) cap'] :: E))
theorem uF (w:World) (ma:Option Addr) (mk:Nat) (ls:List LayD) (xr xc yr yc:Int) (xa ya:Option Addr) (xk yk:Nat) (xs ys:List Nat) (hls:SeeR aX w ma mk ls) (hx:F32s w xa xk xs) (hy:F32s w ya yk ys) :
  Calls Tryz.prog 35 #[.agg #[.slice ma ls.length mk],.agg #[.int .i64 xr,.int .i64 xc,.slice xa xs.length xk],.agg #[.int .i64 yr,.int .i64 yc,.slice ya ys.length yk]] w (AK (bH (ls.map fun l=>l.toLayP.can) ⟨xr,xc,xs.map (cn .f32)⟩ ⟨yr,yc,ys.map (cn .f32)⟩ (cJ ys.length)) w):=by
 obtain ⟨i0,hi0,hz0,hzs,hz2⟩:=info_parts lK
 obtain ⟨j0,hj0,jz0,jzs,jz2⟩:=info_parts kM
 by_cases hA:(dG (ls.map LayD.toLayP) && (dZ xr xc xs.length && (dZ yr yc ys.length && decide (xr=yr))))=true
 rotate_left
 ·exact oQ w ma mk ls xr xc yr yc xa ya xk yk xs ys hls hx hy (by simpa using hA)
 by_cases hB:(decide (xc=(cG (ls.map LayD.toLayP) 0).i) && decide (yc=(cG (ls.map LayD.toLayP) (ls.length - 1)).o))=true
 rotate_left
 ·exact oS w ma mk ls xr xc yr yc xa ya xk yk xs ys hls hx hy hA (by simpa using hB)
 obtain ⟨R,hR⟩:∃R,R=bH (ls.map fun l=>l.toLayP.can) ⟨xr,xc,xs.map (cn .f32)⟩ ⟨yr,yc,ys.map (cn .f32)⟩ (cJ ys.length):=⟨_,rfl⟩
 rw [←hR]
 have HR:=I hR
 have HG:=I (uE ls xr xc yr yc xs ys)
 clear hR
 have b3:=dE w (.cells #[.slice ma ls.length mk] 35) (.cells #[.int .i64 xr,.int .i64 xc,.slice xa xs.length xk] 37) (.cells #[.int .i64 yr,.int .i64 yc,.slice ya ys.length yk] 37)
 have BM:=I ((BoxN.alloc w #[.slice ma ls.length mk] 35).below (bZ _ (.cells #[.int .i64 xr,.int .i64 xc,.slice xa xs.length xk] 37) (.cells #[.int .i64 yr,.int .i64 yc,.slice ya ys.length yk] 37)))
 have BX:=I ((BoxN.alloc2 w (.cells #[.slice ma ls.length mk] 35) #[.int .i64 xr,.int .i64 xc,.slice xa xs.length xk] 37).below (aE _ (.cells #[.int .i64 yr,.int .i64 yc,.slice ya ys.length yk] 37)))
 have BY:=I (BoxN.alloc3 w (.cells #[.slice ma ls.length mk] 35) (.cells #[.int .i64 xr,.int .i64 xc,.slice xa xs.length xk] 37) #[.int .i64 yr,.int .i64 yc,.slice ya ys.length yk] 37)
 have B3:=I b3
 clear b3
 obtain ⟨n,hN⟩:∃n,n=xs.length:=⟨_,rfl⟩
 obtain ⟨m,hM⟩:∃m,m=ys.length:=⟨_,rfl⟩
 obtain ⟨L,hL⟩:∃L,L=ls.length:=⟨_,rfl⟩
 rw [←hN,←hM,←hL] at BM BX BY B3 HG
 rw [←hN,←hM,←hL]
 have HN:=I hN;have HM:=I hM;have HL:=I hL
 have hnm:=Nat.le_trans hx.len hx.cap
 have hmm:=Nat.le_trans hy.len hy.cap
 rw [←hN] at hnm
 rw [←hM] at hmm
 obtain ⟨w3,hw3⟩:∃W,W=((w.alloc (.cells #[.slice ma L mk] 35)).alloc (.cells #[.int .i64 xr,.int .i64 xc,.slice xa n xk] 37)).alloc (.cells #[.int .i64 yr,.int .i64 yc,.slice ya m yk] 37):=⟨_,rfl⟩
 rw [←hw3] at BM BX BY B3
 have HW3:=I hw3
 have HLS:=I (hls.below B3.out);have HX:=I (hx.below B3.out);have HY:=I (hy.below B3.out)
 have CW:Hid (∀W,Below w3.heap.size w3 W→W.cell? ⟨w.heap.size,0,none⟩=some (.slice ma L mk)∧(W.cell? ⟨w.heap.size+1,0,none⟩=some (.int .i64 xr)∧W.cell? ⟨w.heap.size+1,1,none⟩=some (.int .i64 xc)∧W.cell? ⟨w.heap.size+1,2,none⟩=some (.slice xa n xk))∧W.cell? ⟨w.heap.size+2,0,none⟩=some (.int .i64 yr)∧W.cell? ⟨w.heap.size+2,1,none⟩=some (.int .i64 yc)∧W.cell? ⟨w.heap.size+2,2,none⟩=some (.slice ya m yk)):=I (fun W hb=>by
  obtain ⟨-,m0,-⟩:=(BM.out.below hb).one1
  obtain ⟨-,x0,x1,x2,-⟩:=(BX.out.below hb).three
  obtain ⟨-,y0,y1,y2,-⟩:=(BY.out.below hb).three
  exact ⟨m0,⟨x0,x1,x2⟩,y0,y1,y2⟩)
 have KM:=I (fun W (hb:Below w3.heap.size w3 W)=>fV W ma mk ls (HLS.out.below hb))
 rw [←HL.out] at KM
 have KX:=I (fun W=>dJ xr xc xa n xk hnm W)
 have KY:=I (fun W=>dJ yr yc ya m yk hmm W)
 clear hls hx hy hN hM hL hnm hmm hw3 BM BX BY
 rw [←HN.out,←HM.out] at hA
 rw [←HL.out] at hB
 simp only [Bool.and_eq_true,decide_eq_true_eq] at hA
 obtain ⟨e1,e2,e3,e4⟩:=hA
 rw [e1] at KM
 rw [e2] at KX
 rw [e3] at KY
 subst e4
 have hln:=jM e1
 rw [List.length_map,←HL.out] at hln
 obtain ⟨l0,hl0⟩:=getElem?_lt (show 0 < ls.length by rw [←HL.out];omega)
 obtain ⟨q,hq⟩:∃q,q=L - 1:=⟨_,rfl⟩
 obtain ⟨lq,hlq⟩:=getElem?_lt (show q < ls.length by rw [←HL.out];omega)
 have a0:(cG (ls.map LayD.toLayP) 0).i=l0.i:=by rw [dM (l:=l0.toLayP) (by rw [List.getElem?_map,hl0];rfl)]
 have aq:(cG (ls.map LayD.toLayP) (L - 1)).o=lq.o:=by rw [←hq,dM (l:=lq.toLayP) (by rw [List.getElem?_map,hlq];rfl)]
 rw [a0,aq] at HG hB
 have KI:=I (fun W (hb:Below w3.heap.size w3 W)=>Bh W ma mk ls (HLS.out.below hb) L HL.out l0 hl0)
 have KO:=I (fun W (hb:Below w3.heap.size w3 W)=>Ac W ma mk ls (HLS.out.below hb) L q HL.out hln.2 (by omega) lq hlq)
 obtain ⟨li,hli⟩:∃x,x=l0.i:=⟨_,rfl⟩
 obtain ⟨lo,hlo⟩:∃x,x=lq.o:=⟨_,rfl⟩
 rw [←hli] at KI HG hB
 rw [←hlo] at KO HG hB
 have HLN:=I hln;have HQ:=I hq
 clear a0 aq hl0 hlq hli hlo hln hq
 simp only [Bool.and_eq_true,decide_eq_true_eq] at hB
 obtain ⟨e5,e6⟩:=hB
 subst e5
 subst e6
 have HRS:Hid (R=(kZ (ls.map fun l=>l.toLayP.can) ⟨xr,xc,xs.map (cn .f32)⟩ ⟨xr,yc,ys.map (cn .f32)⟩ L).map fun s=>(vF s (cJ m),s.ws)):=I (by rw [HR.out];unfold bH;rw [if_pos (by rw [HG.out,e1,e2,e3];simp),List.length_map,←HL.out,←HM.out])
 have HMB:=I e1
 have HXT:=I (eA.1 e2);have HYT:=I (eA.1 e3)
 clear e1 HR HG
 have PACK:=I (And.intro (And.intro HRS.out (And.intro HMB.out (And.intro HXT.out HYT.out))) (And.intro (And.intro HX.out (And.intro HY.out (And.intro HN.out (And.intro HM.out HL.out)))) (And.intro (And.intro HLS.out (And.intro B3.out (And.intro HLN.out HQ.out))) (And.intro (And.intro hi0 (And.intro hz0 (And.intro hzs hz2))) (And.intro hj0 (And.intro jz0 (And.intro jzs jz2)))))))
 clear HRS HMB HXT HYT HX HY HN HM HL HLS HLN HQ hi0 hz0 hzs hz2 hj0 jz0 jzs jz2
 go_enter Tryz.func35,Tryz.ntmps35
 go_upto_region 1 with fail
 rw [←HW3.out]
 refine cC (VI true xc yc) (by kernel_rfl) (by kernel_rfl) ?_
 iterate 1 (first | (refine aO (aC _) (by rfl) (fun K hK=>?_);go_simp;refine hK _ ?_;clear hK K) | (refine aI (aC _) (by rfl) (fun K hK W hW=>?_);obtain ⟨m0,⟨x0,x1,x2⟩,y0,y1,y2⟩:=CW.out W hW;go_simp;refine hK _ ?_;clear hK K m0 x0 x1 x2 y0 y1 y2))
 refine aI (aC _) (by rfl) (fun K hK W hW=>?_)
 go_simp
 refine ⟨(KM.out W hW).mono ?_,?_⟩
 ·rintro e w' ⟨rfl,hb⟩
  exact ⟨_,rfl,aA hW hb,VI.m true xc yc _⟩
 rintro v hv
 obtain rfl:=hv.1 rfl
 refine hK _ ?_
 clear hK K hv
 iterate 3 (first | (refine aO (aC _) (by rfl) (fun K hK=>?_);go_simp;refine hK _ ?_;clear hK K) | (refine aI (aC _) (by rfl) (fun K hK W hW=>?_);obtain ⟨m0,⟨x0,x1,x2⟩,y0,y1,y2⟩:=CW.out W hW;go_simp;refine hK _ ?_;clear hK K m0 x0 x1 x2 y0 y1 y2))
 refine aI (aC _) (by rfl) (fun K hK W hW=>?_)
 go_simp
 refine ⟨(KX.out W).mono ?_,?_⟩
 ·rintro e w' ⟨rfl,hb⟩
  exact ⟨_,rfl,aA hW hb,VI.t true xc yc _ _ _ _ _ e2⟩
 rintro v hv
 obtain rfl:=(hv.2.1 rfl _ _ _ _ _ rfl).trans (by rw [e2])
 refine hK _ ?_
 clear hK K hv
 iterate 4 (first | (refine aO (aC _) (by rfl) (fun K hK=>?_);go_simp;refine hK _ ?_;clear hK K) | (refine aI (aC _) (by rfl) (fun K hK W hW=>?_);obtain ⟨m0,⟨x0,x1,x2⟩,y0,y1,y2⟩:=CW.out W hW;go_simp;refine hK _ ?_;clear hK K m0 x0 x1 x2 y0 y1 y2))
 refine aI (aC _) (by rfl) (fun K hK W hW=>?_)
 go_simp
 refine ⟨(KY.out W).mono ?_,?_⟩
 ·rintro e w' ⟨rfl,hb⟩
  exact ⟨_,rfl,aA hW hb,VI.t true xc yc _ _ _ _ _ e3⟩
 rintro v hv
 obtain rfl:=(hv.2.1 rfl _ _ _ _ _ rfl).trans (by rw [e3])
 refine hK _ ?_
 clear hK K hv
 iterate 13 (first | (refine aO (aC _) (by rfl) (fun K hK=>?_);go_simp;refine hK _ ?_;clear hK K) | (refine aI (aC _) (by rfl) (fun K hK W hW=>?_);obtain ⟨m0,⟨x0,x1,x2⟩,y0,y1,y2⟩:=CW.out W hW;go_simp;refine hK _ ?_;clear hK K m0 x0 x1 x2 y0 y1 y2))
 refine aI (aC _) (by rfl) (fun K hK W hW=>?_)
 go_simp
 refine ⟨(KI.out W hW).mono ?_,?_⟩
 ·rintro e w' ⟨rfl,hb⟩
  exact ⟨_,rfl,aA hW hb,VI.i true xc yc _⟩
 rintro v hv
 obtain rfl:=hv.2.2.1 rfl
 refine hK _ ?_
 clear hK K hv
 iterate 6 (first | (refine aO (aC _) (by rfl) (fun K hK=>?_);go_simp;refine hK _ ?_;clear hK K) | (refine aI (aC _) (by rfl) (fun K hK W hW=>?_);obtain ⟨m0,⟨x0,x1,x2⟩,y0,y1,y2⟩:=CW.out W hW;go_simp;refine hK _ ?_;clear hK K m0 x0 x1 x2 y0 y1 y2))
 refine aI (aC _) (by rfl) (fun K hK W hW=>?_)
 go_simp
 refine ⟨(KO.out W hW).mono ?_,?_⟩
 ·rintro e w' ⟨rfl,hb⟩
  exact ⟨_,rfl,aA hW hb,VI.o true xc yc _⟩
 rintro v hv
 obtain rfl:=hv.2.2.2 rfl
 refine hK _ ?_
 clear hK K hv
 iterate 2 (first | (refine aO (aC _) (by rfl) (fun K hK=>?_);go_simp;refine hK _ ?_;clear hK K) | (refine aI (aC _) (by rfl) (fun K hK W hW=>?_);obtain ⟨m0,⟨x0,x1,x2⟩,y0,y1,y2⟩:=CW.out W hW;go_simp;refine hK _ ?_;clear hK K m0 x0 x1 x2 y0 y1 y2))
 refine eX ?_
 intro w4 hw4
 have HB4:=I (Below.mono hw4 (J _))
 have HB5:=I (aA B3.out hw4)
 clear hw4
 clear e2 e3 KM KX KY KI KO HW3 B3
 obtain ⟨⟨h1,h2,h3,h4⟩,⟨h5,h6,h7,h8,h9⟩,⟨h10,h11,h12,h13⟩,⟨hi0,hz0,hzs,hz2⟩,hj0,jz0,jzs,jz2⟩:=PACK.out
 have HRS:=I h1;have HMB:=I h2;have HXT:=I h3;have HYT:=I h4;have HX:=I h5;have HY:=I h6;have HN:=I h7;have HM:=I h8;have HL:=I h9;have HLS:=I h10;have B3:=I h11;have HLN:=I h12;have HQ:=I h13
 clear h1 h2 h3 h4 h5 h6 h7 h8 h9 h10 h11 h12 h13 PACK
 have WFI:Hid (∀x:Int,0≤x→x≤1000000→(Lit.int .i64 x).wf=true):=I (fun x h0 h1=>by obtain ⟨y,rfl⟩:∃y:Nat,x=y:=⟨x.toNat,by omega⟩;exact lT (by omega))
 obtain ⟨⟨xr1,xr2⟩,⟨xc1,xc2⟩,xl⟩:=HXT.out
 obtain ⟨-,⟨yc1,yc2⟩,yl⟩:=HYT.out
 have hn1:1≤n∧n≤256:=by
  obtain ⟨r,rfl⟩:∃r:Nat,xr=r:=⟨xr.toNat,by omega⟩
  obtain ⟨c,rfl⟩:∃c:Nat,xc=c:=⟨xc.toNat,by omega⟩
  have h:n=r * c:=by exact_mod_cast xl
  rw [h]
  exact ⟨Nat.mul_pos (by omega) (by omega),Nat.mul_le_mul (show r≤16 by omega) (show c≤16 by omega)⟩
 have hm1:1≤m∧m≤256:=by
  obtain ⟨r,rfl⟩:∃r:Nat,xr=r:=⟨xr.toNat,by omega⟩
  obtain ⟨c,rfl⟩:∃c:Nat,yc=c:=⟨yc.toNat,by omega⟩
  have h:m=r * c:=by exact_mod_cast yl
  rw [h]
  exact ⟨Nat.mul_pos (by omega) (by omega),Nat.mul_le_mul (show r≤16 by omega) (show c≤16 by omega)⟩
 have hn1':=hn1.1;have hn2':=hn1.2;have hm1':=hm1.1;have hm2':=hm1.2;have hL6:=HLN.out.2
 clear xl yl hn1 hm1
 have h0:=(((TN.start0 w4).alloc #[.slice (some ⟨w4.heap.size,0,none⟩) 0 0] 67).allocI).alloc #[.func (.func 64) #[] #[.pointer (some ⟨w4.heap.size+1,0,none⟩)]] 104
 have z1:(w4.alloc (.cells #[] 74)).heap.size=w4.heap.size+1:=by simp
 have z2:((w4.alloc (.cells #[] 74)).alloc (.cells #[.slice (some ⟨w4.heap.size,0,none⟩) 0 0] 67)).heap.size=w4.heap.size+2:=by simp
 have z3:(((w4.alloc (.cells #[] 74)).alloc (.cells #[.slice (some ⟨w4.heap.size,0,none⟩) 0 0] 67)).alloc (.cells #[] 2)).heap.size=w4.heap.size+3:=by simp
 rw [z1,z2,z3] at h0
 have HT0:=I (h0.perm (List.perm_append_comm (l₁:=[_,_]) (l₂:=[_])))
 clear h0 z1 z2 z3
 obtain ⟨m0,⟨x0,x1,x2⟩,y0,y1,y2⟩:=CW.out w4 HB4.out
 go_upto_region 7 with fail
 clear m0 x0 x1 x2 y0 y1 y2
 generalize (((w4.alloc (.cells #[] 74)).alloc (.cells #[.slice (some ⟨w4.heap.size,0,none⟩) 0 0] 67)).alloc (.cells #[] 2)).alloc (.cells #[.func (.func 64) #[] #[.pointer (some ⟨w4.heap.size+1,0,none⟩)]] 104)=W0 at HT0 ⊢
 have HTZ:Hid (TN w4 W0 (some ⟨w4.heap.size,0,none⟩) 0 0 [] [aZ 67 (w4.heap.size+1) [.slice (some ⟨w4.heap.size,0,none⟩) 0 0],aZ 104 (w4.heap.size+3) [.func (.func 64) #[] #[.pointer (some ⟨w4.heap.size+1,0,none⟩)]],bQ (some ⟨w4.heap.size+2,0,none⟩) 0 []]):=HT0
 clear HT0
 generalize w4.heap.size+3=fb at HTZ ⊢
 generalize w4.heap.size+2=ib at HTZ ⊢
 generalize w4.heap.size+1=tb at HTZ ⊢
 generalize w4.heap.size=ob at HTZ ⊢
 obtain ⟨m0,⟨x0,x1,x2⟩,y0,y1,y2⟩:=CW.out W0 (aA HB4.out HTZ.out.below)
 obtain ⟨-,f0,-⟩:=(HTZ.out.box (t:=104) (g:=fb) (cs:=[.func (.func 64) #[] #[.pointer (some ⟨tb,0,none⟩)]]) (List.mem_cons_of_mem _ (List.mem_cons_self ..))).one1
 have KC:=I (iG HTZ.out (List.mem_cons_self ..) (O _ _) xr xc xa xk n xs (HX.out.below (aA HB4.out HTZ.out.below)) HN.out.symm hn1' (by omega) (WFI.out _ (by omega) (by omega)) (WFI.out _ (by omega) (by omega)) (by omega))
 go_wp2_with fail
 refine KC.out.mono ?_
 rintro e W1 ⟨ad1,cap1,rfl,hx⟩
 clear m0 x0 x1 x2 y0 y1 y2 f0
 have HT1:Hid (TN w4 W1 ad1 1 cap1 _ _):=I hx.out
 clear hx KC HTZ
 go_upto_region 8 with fail
 obtain ⟨m0,⟨x0,x1,x2⟩,y0,y1,y2⟩:=CW.out W1 (aA HB4.out HT1.out.below)
 obtain ⟨-,f0,-⟩:=(HT1.out.box (t:=104) (g:=fb) (cs:=[.func (.func 64) #[] #[.pointer (some ⟨tb,0,none⟩)]]) (List.mem_cons_of_mem _ (List.mem_cons_self ..))).one1
 have KC:=I (iG HT1.out (List.mem_cons_self ..) (O _ _) xr yc ya yk m ys (HY.out.below (aA HB4.out HT1.out.below)) HM.out.symm hm1' (by omega) (WFI.out _ (by omega) (by omega)) (WFI.out _ (by omega) (by omega)) (by omega))
 go_wp2_with fail
 refine KC.out.mono ?_
 rintro e W2 ⟨ad2,cap2,rfl,hx⟩
 clear m0 x0 x1 x2 y0 y1 y2 f0
 have HT2:Hid (TN w4 W2 ad2 2 cap2 _ _):=I hx.out
 clear hx KC HT1
 go_upto_region 9 with fail
 clear HX HY xr1 xr2 yc1 yc2 hn1' hn2'
 obtain ⟨PP,hPP⟩:∃P,P=ls.map fun l=>l.toLayP.can:=⟨_,rfl⟩
 obtain ⟨XX,hXX⟩:∃X:TenP,X=⟨xr,xc,xs.map (cn .f32)⟩:=⟨_,rfl⟩
 obtain ⟨YY,hYY⟩:∃Y:TenP,Y=⟨xr,yc,ys.map (cn .f32)⟩:=⟨_,rfl⟩
 have HS0:Hid (kZ PP XX YY 0=some ⟨[cX xr xc (xs.map (cn .f32))] ++ [cX xr yc (ys.map (cn .f32))],[],0⟩):=I (by rw [hXX,hYY];rfl)
 rw [←hPP,←hXX,←hYY] at HRS
 have HPP:=I hPP
 clear hPP hXX hYY
 obtain ⟨l0',hl0'⟩:=getElem?_lt (show 0 < ls.length by rw [←HL.out];exact HLN.out.1)
 obtain ⟨lb,loff,hma,-,-,-,-⟩:=bG HLS.out hl0'
 subst hma
 clear hl0' l0'
 obtain ⟨m0,⟨x0,x1,x2⟩,y0,y1,y2⟩:=CW.out W2 (aA HB4.out HT2.out.below)
 go_wp2
 clear m0 x0 x1 x2 y0 y1 y2
 go_loopw [10,13,68] (fun wv pv iv wr => ∃k n cap wk:Nat,∃ad wa:Option Addr,∃s:MS,iv=.int .i64 k∧wv=.slice wa s.ws.length wk∧pv=.int .i64 s.p∧k≤L∧(2≤n∧n≤2+5 * k∧0≤s.p∧s.p < n)∧Hid (kZ PP XX YY k=some s∧s.ops.length=n∧(∀x∈s.ws,(Lit.int .i64 x).wf=true))∧s.ws.length≤2 * k∧Hid (TN w4 wr ad n cap s.ops [aZ 67 tb [.slice ad n cap],aZ 104 fb [.func (.func 64) #[] #[.pointer (some ⟨tb,0,none⟩)]],bQ wa wk s.ws])) (fun _ _ iv _=>L - (intOf iv).toNat)
 case atStart=>exact ⟨0,2,cap2,0,ad2,_,_,rfl,rfl,rfl,Nat.zero_le _,⟨by omega,by omega,Int.le_refl 0,(show (0:Int) < 2 by decide)⟩,I ⟨HS0.out,rfl,fun x hx=>nomatch hx⟩,Nat.zero_le _,HT2⟩
 case round =>
  clear HT2 HS0
  obtain ⟨k,n,cap,wk,ad,wa,⟨ops,ws,p⟩,rfl,rfl,rfl,hk,⟨hn2,hn5,hp0,hpn⟩,HS,hwl,HT⟩:=hrel
  simp only at hp0 hpn hwl
  by_cases hlt:k < L
  ·obtain ⟨l,hl⟩:=getElem?_lt (show k < ls.length by rw [←HL.out];exact hlt)
   obtain ⟨b',off',he',hbl,⟨p0,p1,p2,p3,p4⟩,-,hok⟩:=bG (HLS.out.below (aA HB4.out HT.out.below)) hl
   obtain ⟨-,-,-,-,-,hf,-⟩:=bG HLS.out hl
   cases he'
   have hlay:jW l.toLayP=true:=kQ HMB.out (k:=k) (by rw [List.getElem?_map,hl];rfl)
   have hst:kZ PP XX YY (k+1)=fQ ⟨ops,ws,p⟩ l.toLayP.can:=zU HS.out.1 (by rw [HPP.out,List.getElem?_map,hl];rfl)
   have hbd:=jL hlay
   have hcl:=xY hlay
   obtain ⟨⟨lk,li2,lo2,lws,lbs⟩,wa2,wk2,ba2,bk2⟩:=l
   simp only at p0 p1 p2 p3 p4 hf hbd hcl
   obtain ⟨lm,hlm⟩:∃x,x=lws.length:=⟨_,rfl⟩
   obtain ⟨bm,hbm⟩:∃x,x=lbs.length:=⟨_,rfl⟩
   rw [←hlm] at p3 hbd hcl
   rw [←hbm] at p4 hbd hcl
   have HST:=I hst;have HBD:=I hbd;have HLM:=I hlm;have HBM:=I hbm;have HF:=I hf
   have hcl1:=hcl.1;have hcl2:=hcl.2
   clear hl hok hlay hst hbd hcl hf hlm hbm
   go_upto_region 12 with fail
   have HTA:Hid (TN w4 (wr.alloc (.cells #[.int .i64 lk,.int .i64 li2,.int .i64 lo2,.slice wa2 lm wk2,.slice ba2 bm bk2] 99)) ad n cap ops [aZ 67 tb [.slice ad n cap],aZ 99 wr.heap.size [.int .i64 lk,.int .i64 li2,.int .i64 lo2,.slice wa2 lm wk2,.slice ba2 bm bk2],aZ 104 fb [.func (.func 64) #[] #[.pointer (some ⟨tb,0,none⟩)]],bQ wa wk ws]):=I ((HT.out.alloc #[.int .i64 lk,.int .i64 li2,.int .i64 lo2,.slice wa2 lm wk2,.slice ba2 bm bk2] 99).perm (List.Perm.swap _ _ _))
   have HFA:Hid (∀W,Below w4.heap.size w4 W→F32s W wa2 wk2 lws∧F32s W ba2 bk2 lbs):=I (fun W hb=>⟨HF.out.1.below (aA HB4.out hb),HF.out.2.below (aA HB4.out hb)⟩)
   clear HT p0 p1 p2 p3 p4 hbl HF
   generalize wr.alloc (.cells #[.int .i64 lk,.int .i64 li2,.int .i64 lo2,.slice wa2 lm wk2,.slice ba2 bm bk2] 99)=W1 at HTA ⊢
   generalize wr.heap.size=gb at HTA ⊢
   obtain ⟨-,l0,l1,l2,l3,l4,-⟩:=(HTA.out.box (t:=99) (g:=gb) (cs:=[.int .i64 lk,.int .i64 li2,.int .i64 lo2,.slice wa2 lm wk2,.slice ba2 bm bk2]) (List.mem_cons_of_mem _ (List.mem_cons_self ..))).five
   by_cases hk0:lk=0
   ·have f0:(lk == 0)=true:=by simp [hk0]
    have hbw:(lm:Int)=lo2 * li2∧(bm:Int)=lo2:=by have h9:=HBD.out.2.2.2.2;rw [hk0] at h9;exact h9
    have HK0:=I hk0
    clear hk0
    have hib:=HBD.out.2.1;have hob:=HBD.out.2.2.1
    have hlm1:1≤lm:=by
     have h9:0 < lo2 * li2:=Int.mul_pos (by omega) (by omega)
     omega
    have hbm1:1≤bm:=by omega
    have HBW:=I hbw
    clear hbw
    go_upto_region 15 with fail
    clear l0 l1 l2 l3 l4
    obtain ⟨-,f0,-⟩:=(HTA.out.box (t:=104) (g:=fb) (cs:=[.func (.func 64) #[] #[.pointer (some ⟨tb,0,none⟩)]]) (List.mem_cons_of_mem _ (List.mem_cons_of_mem _ (List.mem_cons_self ..)))).one1
    obtain ⟨-,l0,l1,l2,l3,l4,-⟩:=(HTA.out.box (t:=99) (g:=gb) (cs:=[.int .i64 lk,.int .i64 li2,.int .i64 lo2,.slice wa2 lm wk2,.slice ba2 bm bk2]) (List.mem_cons_of_mem _ (List.mem_cons_self ..))).five
    have KC:=I (iG HTA.out (List.mem_cons_of_mem _ (List.mem_cons_self ..)) (O _ _) lo2 li2 wa2 wk2 lm lws (HFA.out _ HTA.out.below).1 HLM.out.symm hlm1 (by omega) (WFI.out _ (by omega) (by omega)) (WFI.out _ (by omega) (by omega)) (by omega))
    go_wp2_with fail
    refine KC.out.mono ?_
    rintro e V1 ⟨ad1,cap1,rfl,hx⟩
    clear f0 l0 l1 l2 l3 l4
    have HTB:Hid (TN w4 V1 ad1 (n+1) cap1 _ _):=I hx.out
    clear hx KC HTA
    go_upto_region 16 with fail
    obtain ⟨-,f0,-⟩:=(HTB.out.box (t:=104) (g:=fb) (cs:=[.func (.func 64) #[] #[.pointer (some ⟨tb,0,none⟩)]]) (List.mem_cons_of_mem _ (List.mem_cons_of_mem _ (List.mem_cons_self ..)))).one1
    obtain ⟨-,l0,l1,l2,l3,l4,-⟩:=(HTB.out.box (t:=99) (g:=gb) (cs:=[.int .i64 lk,.int .i64 li2,.int .i64 lo2,.slice wa2 lm wk2,.slice ba2 bm bk2]) (List.mem_cons_of_mem _ (List.mem_cons_self ..))).five
    have hrf:=(HFA.out _ HTB.out.below).2
    have KR:=I (jO V1 ba2 bk2 bm lbs hrf (by intro e;obtain ⟨b,o,e2,_,_⟩:=hrf.spot (k:=0) (by rw [←HBM.out];exact hbm1);rw [e] at e2;cases e2) HBM.out.symm (by omega))
    clear hrf
    go_wp2_with fail
    refine KR.out.mono ?_
    rintro e V20 ⟨a5,k5,zs,rfl,hz,hzm,hb5⟩
    clear f0 l0 l1 l2 l3 l4
    have HTBm:=I (HTB.out.move hb5)
    have HZ:=I hz.out;have HZM:=I hzm.out
    clear hz hzm hb5 KR
    obtain ⟨-,f0,-⟩:=(HTBm.out.box (t:=104) (g:=fb) (cs:=[.func (.func 64) #[] #[.pointer (some ⟨tb,0,none⟩)]]) (List.mem_cons_of_mem _ (List.mem_cons_of_mem _ (List.mem_cons_self ..)))).one1
    obtain ⟨-,l0,l1,l2,l3,l4,-⟩:=(HTBm.out.box (t:=99) (g:=gb) (cs:=[.int .i64 lk,.int .i64 li2,.int .i64 lo2,.slice wa2 lm wk2,.slice ba2 bm bk2]) (List.mem_cons_of_mem _ (List.mem_cons_self ..))).five
    have KC:=I (iG HTBm.out (List.mem_cons_of_mem _ (List.mem_cons_self ..)) (O _ _) 1 ((bm:Nat):Int) a5 k5 bm zs HZ.out.arg HZ.out.len hbm1 (by omega) rfl (WFI.out _ (by omega) (by omega)) (by omega))
    go_wp2_with fail
    refine KC.out.mono ?_
    rintro e V2 ⟨ad2,cap2,rfl,hx⟩
    clear f0 l0 l1 l2 l3 l4
    have HTC:Hid (TN w4 V2 ad2 (n+2) cap2 (_ ++ [cX 1 lo2 (lbs.map (cn .f32))]) _):=I (by have h:=hx.out;rw [HZM.out,HBW.out.2] at h;exact h)
    clear hx KC HTB HTBm HZ HZM
    go_upto_region 17 with fail
    have HTP:=I (HTC.out.perm (List.perm_append_comm (l₁:=[_,_,_]) (l₂:=[_])))
    obtain ⟨hrow,hpush⟩:=HTP.out.goIs
    have HROW:=I hrow;have HPUSH:=I hpush;have HBASE:=I HTP.out.below.size
    clear hrow hpush
    go_wp2_with (at_builtin;refine sV rfl _ _ 68 rfl w4.heap.size j0 (.int .i64 0) 1 8 2 Tryz.underlying68 hj0 jz0 jzs jz2 rfl (by decide) rfl (by intro u hu;simp at hu;rcases hu with rfl | rfl <;> rfl) _ _ _ rfl HROW.out (by go_simp) ?c3 ?c4 ?c5 ?_)
    case c3=>unfold maxLen;omega
    case c4=>omega
    case c5=>exact HBASE.out
    intro v' V3 ho9 hg9 hat9
    obtain ⟨wa3,wk3,rfl,hx⟩:=HPUSH.out [(n:Int),((n:Int)+1:Int)] _ _ _ ho9 hg9 hat9
    obtain ⟨ws1,hws⟩:∃x,x=ws ++ [(n:Int),((n:Int)+1:Int)]:=⟨_,rfl⟩
    rw [←hws] at hx ⊢
    have HW1:=I hws
    have hwl1:ws1.length≤2 * k+2:=by rw [hws,List.length_append];simp;omega
    have HTD:=I (hx.perm (List.perm_append_comm (l₁:=[_]) (l₂:=[_,_,_])))
    clear ho9 hg9 hat9 hx hws HROW HPUSH HBASE HTP HTC
    go_upto_region 18 with fail
    obtain ⟨-,f0,-⟩:=(HTD.out.box (t:=104) (g:=fb) (cs:=[.func (.func 64) #[] #[.pointer (some ⟨tb,0,none⟩)]]) (List.mem_cons_of_mem _ (List.mem_cons_of_mem _ (List.mem_cons_self ..)))).one1
    have KC:=I (eO HTD.out (O _ _) 7 (n:Int) 0 0 (eE rfl (WFI.out _ (by omega) (by omega)) rfl (by decide)) (by omega))
    rw [bT] at KC
    go_wp2_with fail
    refine KC.out.mono ?_
    rintro e V4 ⟨ad4,cap4,rfl,hx⟩
    clear f0
    have HTE:Hid (TN w4 V4 ad4 (n+3) cap4 _ _):=I hx.out
    clear hx KC HTD
    go_upto_region 19 with fail
    obtain ⟨-,f0,-⟩:=(HTE.out.box (t:=104) (g:=fb) (cs:=[.func (.func 64) #[] #[.pointer (some ⟨tb,0,none⟩)]]) (List.mem_cons_of_mem _ (List.mem_cons_of_mem _ (List.mem_cons_self ..)))).one1
    have KC:=I (eO HTE.out (O _ _) 6 p ((n+2:Nat):Int) 0 (eE rfl (WFI.out _ (by omega) (by omega)) (WFI.out _ (by omega) (by omega)) (by decide)) (by omega))
    rw [bT] at KC
    go_wp2_with fail
    refine KC.out.mono ?_
    rintro e V5 ⟨ad5,cap5,rfl,hx⟩
    clear f0
    have HTF:Hid (TN w4 V5 ad5 (n+4) cap5 _ _):=I hx.out
    clear hx KC HTE
    go_upto_region 20 with fail
    obtain ⟨-,f0,-⟩:=(HTF.out.box (t:=104) (g:=fb) (cs:=[.func (.func 64) #[] #[.pointer (some ⟨tb,0,none⟩)]]) (List.mem_cons_of_mem _ (List.mem_cons_of_mem _ (List.mem_cons_self ..)))).one1
    have KC:=I (eO HTF.out (O _ _) 2 ((n+3:Nat):Int) ((n+1:Nat):Int) 0 (eE rfl (WFI.out _ (by omega) (by omega)) (WFI.out _ (by omega) (by omega)) (by decide)) (by omega))
    rw [bT] at KC
    go_wp2_with fail
    refine KC.out.mono ?_
    rintro e V6 ⟨ad6,cap6,rfl,hx⟩
    clear f0
    have HTG:Hid (TN w4 V6 ad6 (n+5) cap6 _ _):=I hx.out
    clear hx KC HTF
    have HT9:Hid (TN w4 _ ad6 (n+5) cap6 (cM ⟨ops,ws,p⟩ ⟨lk,li2,lo2,lws.map (cn .f32),lbs.map (cn .f32)⟩ n).ops [aZ 67 tb [.slice ad6 (n+5) cap6],aZ 104 fb [.func (.func 64) #[] #[.pointer (some ⟨tb,0,none⟩)]],bQ wa3 wk3 ws1]):=I ((HTG.out.sub (List.Sublist.cons_cons _ (List.sublist_cons_self _ _))))
    have HS9:Hid (kZ PP XX YY (k+1)=some ⟨(cM ⟨ops,ws,p⟩ ⟨lk,li2,lo2,lws.map (cn .f32),lbs.map (cn .f32)⟩ n).ops,ws1,((n:Int)+4)⟩∧(cM ⟨ops,ws,p⟩ ⟨lk,li2,lo2,lws.map (cn .f32),lbs.map (cn .f32)⟩ n).ops.length=(n+5)∧(∀x∈ws1,(Lit.int .i64 x).wf=true)):=I (by
     refine ⟨?_,?_,?_⟩
     ·rw [HST.out]
      unfold fQ
      rw [if_pos (show (LayP.can ⟨lk,li2,lo2,lws,lbs⟩).k=0 from HK0.out),HS.out.2.1]
      rw [HW1.out]
      simp [cM,fP,cR,LayP.can]
     ·have h9:=HS.out.2.1
      simp [cM,fP,cR,h9]
     ·intro x hx
      have h9:=HS.out.2.2
      rw [HW1.out] at hx
      try simp only [List.mem_append,List.mem_cons,List.not_mem_nil,or_false] at hx
      first
       | exact h9 x hx
       | (rcases hx with hx | rfl | rfl
          ·exact h9 x hx
          ·exact WFI.out _ (by omega) (by omega)
          ·exact WFI.out _ (by omega) (by omega))
       | (rcases hx with hx | rfl
          ·exact h9 x hx
          ·exact WFI.out _ (by omega) (by omega)))
    clear HTG HS HST
    go_wp2
    refine ⟨?rel,?measure⟩
    case rel=>exact ⟨k+1,(n+5),cap6,wk3,ad6,wa3,⟨(cM ⟨ops,ws,p⟩ ⟨lk,li2,lo2,lws.map (cn .f32),lbs.map (cn .f32)⟩ n).ops,ws1,((n:Int)+4)⟩,by go_num,rfl,(by first | rfl | (congr 1;omega) | (go_num)),hlt,⟨by omega,by omega,by simp only;omega,by simp only;omega⟩,HS9,by simp only;omega,HT9⟩
    case measure=>simp [intOf];omega
   have f0:(lk == 0)=false:=by simpa using hk0
   by_cases hk1:lk=1
   ·have f1:(lk == 1)=true:=by simp [hk1]
    have HK1:=I hk1
    clear hk1 hk0
    go_upto_region 22 with fail
    clear l0 l1 l2 l3 l4
    obtain ⟨-,f0,-⟩:=(HTA.out.box (t:=104) (g:=fb) (cs:=[.func (.func 64) #[] #[.pointer (some ⟨tb,0,none⟩)]]) (List.mem_cons_of_mem _ (List.mem_cons_of_mem _ (List.mem_cons_self ..)))).one1
    have KC:=I (eO HTA.out (O _ _) 8 p 0 0 (eE rfl (WFI.out _ (by omega) (by omega)) rfl (by decide)) (by omega))
    rw [bT] at KC
    go_wp2_with fail
    refine KC.out.mono ?_
    rintro e V6 ⟨ad6,cap6,rfl,hx⟩
    clear f0
    have HTG:Hid (TN w4 V6 ad6 (n+1) cap6 _ _):=I hx.out
    clear hx KC HTA
    have HT9:Hid (TN w4 _ ad6 (n+1) cap6 (fP ⟨ops,ws,p⟩ n).ops [aZ 67 tb [.slice ad6 (n+1) cap6],aZ 104 fb [.func (.func 64) #[] #[.pointer (some ⟨tb,0,none⟩)]],bQ wa wk ws]):=I ((HTG.out.sub (List.Sublist.cons_cons _ (List.sublist_cons_self _ _))))
    have HS9:Hid (kZ PP XX YY (k+1)=some ⟨(fP ⟨ops,ws,p⟩ n).ops,ws,(n:Int)⟩∧(fP ⟨ops,ws,p⟩ n).ops.length=(n+1)∧(∀x∈ws,(Lit.int .i64 x).wf=true)):=I (by
     refine ⟨?_,?_,?_⟩
     ·rw [HST.out]
      unfold fQ
      rw [if_neg (show ¬ (LayP.can ⟨lk,li2,lo2,lws,lbs⟩).k=0 from by have h:=HK1.out;show ¬ lk=0;omega),if_pos (show (LayP.can ⟨lk,li2,lo2,lws,lbs⟩).k=1 from HK1.out),HS.out.2.1]
      skip
      simp [cM,fP,cR,LayP.can]
     ·have h9:=HS.out.2.1
      simp [cM,fP,cR,h9]
     ·intro x hx
      have h9:=HS.out.2.2
      skip
      try simp only [List.mem_append,List.mem_cons,List.not_mem_nil,or_false] at hx
      first
       | exact h9 x hx
       | (rcases hx with hx | rfl | rfl
          ·exact h9 x hx
          ·exact WFI.out _ (by omega) (by omega)
          ·exact WFI.out _ (by omega) (by omega))
       | (rcases hx with hx | rfl
          ·exact h9 x hx
          ·exact WFI.out _ (by omega) (by omega)))
    clear HTG HS HST
    go_wp2
    refine ⟨?rel,?measure⟩
    case rel=>exact ⟨k+1,(n+1),cap6,wk,ad6,wa,⟨(fP ⟨ops,ws,p⟩ n).ops,ws,(n:Int)⟩,by go_num,rfl,(by first | rfl | (congr 1;omega) | (go_num)),hlt,⟨by omega,by omega,by simp only;omega,by simp only;omega⟩,HS9,by simp only;omega,HT9⟩
    case measure=>simp [intOf];omega
   have f1:(lk == 1)=false:=by simpa using hk1
   by_cases hk2:lk=2
   ·have f2:(lk == 2)=true:=by simp [hk2]
    have hbw:(lm:Int)=li2:=by have h9:=HBD.out.2.2.2.2.1;rw [hk2] at h9;exact h9
    have HK2:=I hk2
    clear hk2 hk1 hk0
    have hib:=HBD.out.2.1
    have hlm1:1≤lm:=by omega
    have HBW:=I hbw
    clear hbw
    go_upto_region 24 with fail
    clear l0 l1 l2 l3 l4
    obtain ⟨-,f0,-⟩:=(HTA.out.box (t:=104) (g:=fb) (cs:=[.func (.func 64) #[] #[.pointer (some ⟨tb,0,none⟩)]]) (List.mem_cons_of_mem _ (List.mem_cons_of_mem _ (List.mem_cons_self ..)))).one1
    obtain ⟨-,l0,l1,l2,l3,l4,-⟩:=(HTA.out.box (t:=99) (g:=gb) (cs:=[.int .i64 lk,.int .i64 li2,.int .i64 lo2,.slice wa2 lm wk2,.slice ba2 bm bk2]) (List.mem_cons_of_mem _ (List.mem_cons_self ..))).five
    have hrf:=(HFA.out _ HTA.out.below).1
    have KR:=I (jO W1 wa2 wk2 lm lws hrf (by intro e;obtain ⟨b,o,e2,_,_⟩:=hrf.spot (k:=0) (by rw [←HLM.out];exact hlm1);rw [e] at e2;cases e2) HLM.out.symm (by omega))
    clear hrf
    go_wp2_with fail
    refine KR.out.mono ?_
    rintro e V20 ⟨a5,k5,zs,rfl,hz,hzm,hb5⟩
    clear f0 l0 l1 l2 l3 l4
    have HTAm:=I (HTA.out.move hb5)
    have HZ:=I hz.out;have HZM:=I hzm.out
    clear hz hzm hb5 KR
    obtain ⟨-,f0,-⟩:=(HTAm.out.box (t:=104) (g:=fb) (cs:=[.func (.func 64) #[] #[.pointer (some ⟨tb,0,none⟩)]]) (List.mem_cons_of_mem _ (List.mem_cons_of_mem _ (List.mem_cons_self ..)))).one1
    obtain ⟨-,l0,l1,l2,l3,l4,-⟩:=(HTAm.out.box (t:=99) (g:=gb) (cs:=[.int .i64 lk,.int .i64 li2,.int .i64 lo2,.slice wa2 lm wk2,.slice ba2 bm bk2]) (List.mem_cons_of_mem _ (List.mem_cons_self ..))).five
    have KC:=I (iG HTAm.out (List.mem_cons_of_mem _ (List.mem_cons_self ..)) (O _ _) 1 ((lm:Nat):Int) a5 k5 lm zs HZ.out.arg HZ.out.len hlm1 (by omega) rfl (WFI.out _ (by omega) (by omega)) (by omega))
    go_wp2_with fail
    refine KC.out.mono ?_
    rintro e V2 ⟨ad2,cap2,rfl,hx⟩
    clear f0 l0 l1 l2 l3 l4
    have HTB:Hid (TN w4 V2 ad2 (n+1) cap2 (_ ++ [cX 1 li2 (lws.map (cn .f32))]) _):=I (by have h:=hx.out;rw [HZM.out,HBW.out] at h;exact h)
    clear hx KC HTA HTAm HZ HZM
    go_upto_region 25 with fail
    have HTP:=I (HTB.out.perm (List.perm_append_comm (l₁:=[_,_,_]) (l₂:=[_])))
    obtain ⟨hrow,hpush⟩:=HTP.out.goIs
    have HROW:=I hrow;have HPUSH:=I hpush;have HBASE:=I HTP.out.below.size
    clear hrow hpush
    go_wp2_with (at_builtin;refine cI rfl _ _ 68 rfl w4.heap.size j0 (.int .i64 0) 1 8 Tryz.underlying68 hj0 jz0 jzs jz2 rfl (by decide) rfl (by intro u hu;simp at hu;subst hu;rfl) _ _ _ rfl HROW.out (by go_simp) ?c3 ?c4 ?c5 ?_)
    case c3=>unfold maxLen;omega
    case c4=>omega
    case c5=>exact HBASE.out
    intro v' V3 ho9 hg9 hat9 hb9 hs9
    clear hb9 hs9
    obtain ⟨wa3,wk3,rfl,hx⟩:=HPUSH.out [(n:Int)] _ _ _ ho9 hg9 hat9
    obtain ⟨ws1,hws⟩:∃x,x=ws ++ [(n:Int)]:=⟨_,rfl⟩
    rw [←hws] at hx ⊢
    have HW1:=I hws
    have hwl1:ws1.length≤2 * k+1:=by rw [hws,List.length_append];simp;omega
    have HTC:=I (hx.perm (List.perm_append_comm (l₁:=[_]) (l₂:=[_,_,_])))
    clear ho9 hg9 hat9 hx hws HROW HPUSH HBASE HTP HTB
    go_upto_region 26 with fail
    obtain ⟨-,f0,-⟩:=(HTC.out.box (t:=104) (g:=fb) (cs:=[.func (.func 64) #[] #[.pointer (some ⟨tb,0,none⟩)]]) (List.mem_cons_of_mem _ (List.mem_cons_of_mem _ (List.mem_cons_self ..)))).one1
    have KC:=I (eO HTC.out (O _ _) 4 p (n:Int) 0 (eE rfl (WFI.out _ (by omega) (by omega)) (WFI.out _ (by omega) (by omega)) (by decide)) (by omega))
    rw [bT] at KC
    go_wp2_with fail
    refine KC.out.mono ?_
    rintro e V6 ⟨ad6,cap6,rfl,hx⟩
    clear f0
    have HTG:Hid (TN w4 V6 ad6 (n+2) cap6 _ _):=I hx.out
    clear hx KC HTC
    have HT9:Hid (TN w4 _ ad6 (n+2) cap6 (cR ⟨ops,ws,p⟩ ⟨lk,li2,lo2,lws.map (cn .f32),lbs.map (cn .f32)⟩ n).ops [aZ 67 tb [.slice ad6 (n+2) cap6],aZ 104 fb [.func (.func 64) #[] #[.pointer (some ⟨tb,0,none⟩)]],bQ wa3 wk3 ws1]):=I ((HTG.out.sub (List.Sublist.cons_cons _ (List.sublist_cons_self _ _))))
    have HS9:Hid (kZ PP XX YY (k+1)=some ⟨(cR ⟨ops,ws,p⟩ ⟨lk,li2,lo2,lws.map (cn .f32),lbs.map (cn .f32)⟩ n).ops,ws1,((n:Int)+1)⟩∧(cR ⟨ops,ws,p⟩ ⟨lk,li2,lo2,lws.map (cn .f32),lbs.map (cn .f32)⟩ n).ops.length=(n+2)∧(∀x∈ws1,(Lit.int .i64 x).wf=true)):=I (by
     refine ⟨?_,?_,?_⟩
     ·rw [HST.out]
      unfold fQ
      rw [if_neg (show ¬ (LayP.can ⟨lk,li2,lo2,lws,lbs⟩).k=0 from by have h:=HK2.out;show ¬ lk=0;omega),if_neg (show ¬ (LayP.can ⟨lk,li2,lo2,lws,lbs⟩).k=1 from by have h:=HK2.out;show ¬ lk=1;omega),if_pos (show (LayP.can ⟨lk,li2,lo2,lws,lbs⟩).k=2 from HK2.out),HS.out.2.1]
      rw [HW1.out]
      simp [cM,fP,cR,LayP.can]
     ·have h9:=HS.out.2.1
      simp [cM,fP,cR,h9]
     ·intro x hx
      have h9:=HS.out.2.2
      rw [HW1.out] at hx
      try simp only [List.mem_append,List.mem_cons,List.not_mem_nil,or_false] at hx
      first
       | exact h9 x hx
       | (rcases hx with hx | rfl | rfl
          ·exact h9 x hx
          ·exact WFI.out _ (by omega) (by omega)
          ·exact WFI.out _ (by omega) (by omega))
       | (rcases hx with hx | rfl
          ·exact h9 x hx
          ·exact WFI.out _ (by omega) (by omega)))
    clear HTG HS HST
    go_wp2
    refine ⟨?rel,?measure⟩
    case rel=>exact ⟨k+1,(n+2),cap6,wk3,ad6,wa3,⟨(cR ⟨ops,ws,p⟩ ⟨lk,li2,lo2,lws.map (cn .f32),lbs.map (cn .f32)⟩ n).ops,ws1,((n:Int)+1)⟩,by go_num,rfl,(by first | rfl | (congr 1;omega) | (go_num)),hlt,⟨by omega,by omega,by simp only;omega,by simp only;omega⟩,HS9,by simp only;omega,HT9⟩
    case measure=>simp [intOf];omega
   have f2:(lk == 2)=false:=by simpa using hk2
   have HRN:Hid (R=none):=I (by
    rw [HRS.out,zV (k:=k+1) (by
     rw [HST.out]
     unfold fQ
     rw [if_neg (show ¬ (LayP.can ⟨lk,li2,lo2,lws,lbs⟩).k=0 from hk0),if_neg (show ¬ (LayP.can ⟨lk,li2,lo2,lws,lbs⟩).k=1 from hk1),if_neg (show ¬ (LayP.can ⟨lk,li2,lo2,lws,lbs⟩).k=2 from hk2)]) (show k+1≤L from hlt)]
    rfl)
   have HBL:=I (aA HB5.out HTA.out.below)
   clear hk0 hk1 hk2 HTA HS HST HRS
   go_wp2
   go_ret3
   exact ⟨_,_,_,_,_,_,false,rfl,I ⟨by rw [HRN.out];rfl,fun h=>(by cases h),fun _=>⟨⟨rfl,rfl,rfl⟩,rfl,rfl,rfl⟩⟩,HBL.out⟩
  ·have hkL:k=L:=by omega
   subst hkL
   have HRS2:Hid (R=some (sF ⟨ops,ws,p⟩ (cJ m) n,ws)):=I (by
    rw [HRS.out,HS.out.1]
    show some (sF ⟨ops,ws,p⟩ (cJ m) (ops.length:Int),ws) = _
    rw [HS.out.2.1])
   have HWF:=I HS.out.2.2
   have HPB:=I (And.intro hp0 hpn)
   go_upto_region 28 with fail
   clear HRS HS HPP HLS
   have KS:Hid (∀W ad n cap C,TN w4 W ad n cap C [aZ 67 tb [.slice ad n cap],aZ 104 fb [.func (.func 64) #[] #[.pointer (some ⟨tb,0,none⟩)]],bQ wa wk ws]→(fun W=>W.cell? ⟨fb,0,none⟩=some (.func (.func 64) #[] #[.pointer (some ⟨tb,0,none⟩)])) W):=I (fun W ad n cap C h=>(h.box (t:=104) (g:=fb) (cs:=[.func (.func 64) #[] #[.pointer (some ⟨tb,0,none⟩)]]) (List.mem_cons_of_mem _ (List.mem_cons_self ..))).one1.2.1)
   have S0:=I (KS.out _ _ _ _ _ HT.out)
   refine aL 8 [5,7] (fun W=>W.cell? ⟨fb,0,none⟩=some (.func (.func 64) #[] #[.pointer (some ⟨tb,0,none⟩)])) (fun _ _ _=>False) (Fk w4 tb n p ops [aZ 104 fb [.func (.func 64) #[] #[.pointer (some ⟨tb,0,none⟩)]],bQ wa wk ws]) (by kernel_rfl) (by kernel_rfl) S0.out (fun W q h=>by simpa using h) ?_
   iterate 5 (refine aD (by rfl) S0.out (fun K hK W hW=>?_);have e0:=hW;go_simp;refine hK _ ?_;clear hK K e0 hW)
   refine aF (by rfl) S0.out (fun K hK q0=>?_)
   have KC:=I (eO HT.out (below_drewN (O wr.heap.size wr) q0) 5 1 0 3212836864 (eE rfl rfl rfl (by decide)) (by omega))
   rw [show cn .f32 3212836864=3212836864 by decide +kernel] at KC
   go_simp
   refine ⟨KC.out.mono (fun e w5 hh=>by
    obtain ⟨ad',cap',he,ht⟩:=hh
    exact ⟨_,he,⟨fun _=>⟨ad',cap',rfl,ht.out⟩,fun e=>by cases e⟩⟩),?_⟩
   rintro v w5 hd
   obtain ⟨ad5,cap5,rfl,ht5⟩:=hd.1 rfl
   have HT5:=I ht5
   have S5:=I (KS.out _ _ _ _ _ ht5)
   refine ⟨S5.out,hK _ _ ?_⟩
   clear hK K hd ht5 KC S0
   iterate 1 (refine aD (by rfl) S5.out (fun K hK W hW=>?_);have e0:=hW;go_simp;refine hK _ ?_;clear hK K e0 hW)
   refine aF (by rfl) S5.out (fun K hK q1=>?_)
   have KC:=I (eO HT5.out (below_drewN (O w5.heap.size w5) q1) 1 p (n:Int) 0 (eE rfl (WFI.out _ (by omega) (by omega)) (WFI.out _ (by omega) (by omega)) (by decide)) (by omega))
   rw [bT] at KC
   go_simp
   refine ⟨KC.out.mono (fun e w6 hh=>by
    obtain ⟨ad',cap',he,ht⟩:=hh
    exact ⟨_,he,⟨fun e=>(by cases e),fun _=>⟨ad',cap',rfl,ht.out⟩⟩⟩),?_⟩
   rintro v w6 hd
   obtain ⟨ad6,cap6,rfl,ht6⟩:=hd.2 rfl
   have HT6:=I ht6
   have S6:=I (KS.out _ _ _ _ _ ht6)
   refine ⟨S6.out,hK _ _ ?_⟩
   clear hK K hd ht6 KC S5 HT5
   refine aP (fun q9=>?_)
   have HTA:Hid (TN w4 (w6.drewN q9) ad6 (n+2) cap6 (ops ++ [eU 5 1 0 3212836864] ++ [eU 1 p n 0]) [aZ 67 tb [.slice ad6 (n+2:Nat) cap6],aZ 104 fb [.func (.func 64) #[] #[.pointer (some ⟨tb,0,none⟩)]],bQ wa wk ws]):=I (HT6.out.move (below_drewN (O _ _) q9))
   clear S6 HT6 HT KS
   generalize w6.drewN q9=W1 at HTA ⊢
   go_upto_region 29 with fail
   obtain ⟨-,f0,-⟩:=(HTA.out.box (t:=104) (g:=fb) (cs:=[.func (.func 64) #[] #[.pointer (some ⟨tb,0,none⟩)]]) (List.mem_cons_of_mem _ (List.mem_cons_self ..))).one1
   have KC:=I (eO HTA.out (O _ _) 9 ((n+1:Nat):Int) 0 0 (eE rfl (WFI.out _ (by omega) (by omega)) rfl (by decide)) (by omega))
   rw [bT] at KC
   go_wp2_with fail
   refine KC.out.mono ?_
   rintro e W2 ⟨ad7,cap7,rfl,hx⟩
   clear f0
   have HTB:Hid (TN w4 W2 ad7 (n+3) cap7 _ _):=I hx.out
   clear hx KC HTA
   go_upto_region 30 with fail
   obtain ⟨-,f0,-⟩:=(HTB.out.box (t:=104) (g:=fb) (cs:=[.func (.func 64) #[] #[.pointer (some ⟨tb,0,none⟩)]]) (List.mem_cons_of_mem _ (List.mem_cons_self ..))).one1
   have KC:=I (eO HTB.out (O _ _) 10 ((n+2:Nat):Int) 0 0 (eE rfl (WFI.out _ (by omega) (by omega)) rfl (by decide)) (by omega))
   rw [bT] at KC
   go_wp2_with fail
   refine KC.out.mono ?_
   rintro e W3 ⟨ad8,cap8,rfl,hx⟩
   clear f0
   have HTC:Hid (TN w4 W3 ad8 (n+4) cap8 _ _):=I hx.out
   clear hx KC HTB
   go_upto_region 31 with fail
   obtain ⟨m0,⟨x0,x1,x2⟩,y0,y1,y2⟩:=CW.out W3 (aA HB4.out HTC.out.below)
   obtain ⟨-,f0,-⟩:=(HTC.out.box (t:=104) (g:=fb) (cs:=[.func (.func 64) #[] #[.pointer (some ⟨tb,0,none⟩)]]) (List.mem_cons_of_mem _ (List.mem_cons_self ..))).one1
   have KC:=I (fun z q (hz:z < 4294967296)=>eO HTC.out (below_drewN (O W3.heap.size W3) q) 5 ((n+3:Nat):Int) 0 z (eE rfl (WFI.out _ (by omega) (by omega)) rfl hz) (by omega))
   go_wp2_with fail
   refine (KC.out _ _ (bL _ .f32 _ _ _)).mono ?_
   rintro e W5 ⟨ad9,cap9,rfl,hx⟩
   clear m0 x0 x1 x2 y0 y1 y2 f0
   have HTD:Hid (TN w4 W5 ad9 (n+5) cap9 (sF ⟨ops,ws,p⟩ (cJ m) n) [aZ 67 tb [.slice ad9 (n+5:Nat) cap9],aZ 104 fb [.func (.func 64) #[] #[.pointer (some ⟨tb,0,none⟩)]],bQ wa wk ws]):=I (by
    have h:=hx.out
    rw [bE,nR,show cn .f32 1065353216=1065353216 by decide +kernel] at h
    exact h)
   clear hx KC HTC
   obtain ⟨-,t0,-⟩:=(HTD.out.box (List.mem_cons_self ..)).one1
   have HT9:Hid (TN w W5 ad9 (n+5) cap9 (sF ⟨ops,ws,p⟩ (cJ m) n) [bQ wa wk ws]):=I ((HTD.out.sub ((List.sublist_cons_self _ _).trans (List.sublist_cons_self _ _))).base HB5.out)
   clear HTD
   go_wp2
   go_ret3
   exact ⟨_,_,_,_,_,_,true,rfl,I ⟨by rw [HRS2.out];rfl,fun _=>⟨_,ws,HRS2.out,rfl,HWF.out,HT9.out⟩,fun h=>(by cases h)⟩,HT9.out.below⟩

section
variable {w w':World} {lo hi n1 c1 n2 c2:Nat} {a1 a2:Option Addr} {us:List OpD} {ws:List Int}
end
section
variable {lo1 hi1 lo2 hi2 n1 c1 n2 c2 m1 d1 m2 d2:Nat} {a1 a2 b1 b2:Option Addr} {us vs:List OpD} {ws zs:List Int}
end
theorem Eu {ls:List LayP} {X Y:TenP} (hg:dG ls=true) (hX:X.xs.length≤256) (hY:Y.xs.length≤256) {k:Nat} {s:MS} (h:kZ ls X Y k=some s):∀p∈s.ops,p.xs.length≤256:=by
 induction k generalizing s with
 | zero =>
  rw [kZ] at h;cases h
  intro p hp
  simp only [List.singleton_append,List.mem_cons,List.not_mem_nil,or_false] at hp
  rcases hp with rfl | rfl
  ·exact hX
  ·exact hY
 | succ k ih =>
  rw [kZ] at h
  obtain ⟨s0,h0,h1⟩:=Option.bind_eq_some_iff.1 h
  obtain ⟨l,hl,h2⟩:=Option.bind_eq_some_iff.1 h1
  have h3:=ih h0
  have h4:=xY (kQ hg hl)
  unfold fQ at h2
  split at h2
  ·cases h2
   intro p hp
   simp only [cM,List.mem_append,List.mem_singleton] at hp
   rcases hp with (((((hp | rfl) | rfl) | rfl) | rfl) | rfl)
   ·exact h3 p hp
   ·exact Nat.le_trans h4.1 (by decide)
   ·exact Nat.le_trans h4.2 (by decide)
   ·exact Nat.zero_le _
   ·exact Nat.zero_le _
   ·exact Nat.zero_le _
  ·split at h2
   ·cases h2
    intro p hp
    simp only [fP,List.mem_append,List.mem_singleton] at hp
    rcases hp with hp | rfl
    ·exact h3 p hp
    ·exact Nat.zero_le _
   ·split at h2
    ·cases h2
     intro p hp
     simp only [cR,List.mem_append,List.mem_singleton] at hp
     rcases hp with ((hp | rfl) | rfl)
     ·exact h3 p hp
     ·exact Nat.le_trans h4.1 (by decide)
     ·exact Nat.zero_le _
    ·cases h2
theorem oT {ls:List LayP} {X Y:TenP} {num:Nat} {C:List OpP} {ws:List Int} (h:bH ls X Y num=some (C,ws)):C.length≤37∧(∀p∈C,p.xs.length≤256)∧ws.length≤12:=by
 unfold bH at h
 split at h
 ·rename_i hg
  unfold fR at hg
  simp only [Bool.and_eq_true] at hg
  obtain ⟨h1,h2,h3,_⟩:=hg
  have hl:=jM h1
  have tl:∀t:TenP,dZ t.r t.c t.xs.length=true→t.xs.length≤256:=by
   intro t ht
   obtain ⟨⟨a1,a2⟩,⟨b1,b2⟩,h⟩:=eA.1 ht
   have:t.r * t.c≤16 * t.c:=Int.mul_le_mul_of_nonneg_right a2 (by omega)
   omega
  obtain ⟨s,hs,e⟩:=Option.map_eq_some_iff.1 h
  cases e
  have h4:=Bf hs
  have h5:=Eu h1 (tl X h2) (tl Y h3) hs
  refine ⟨?_,?_,by omega⟩
  ·unfold vF sF;simp only [List.length_append,List.length_singleton];omega
  ·intro p hp
   unfold vF sF at hp
   simp only [List.mem_append,List.mem_singleton] at hp
   rcases hp with (((((hp | rfl) | rfl) | rfl) | rfl) | rfl)
   ·exact h5 p hp
   all_goals exact Nat.zero_le _
 ·cases h
theorem qQ {n:Int} (h1 : -9223372036854775808≤n) (h2:n < 9223372036854775808):IntKind.i64.wrap n=n:=by
 have e1:(2:Int) ^ 64=18446744073709551616:=by decide
 have e2:(2:Int) ^ (64 - 1)=9223372036854775808:=by decide
 by_cases h:n % 18446744073709551616 ≥ 9223372036854775808
 ·simp only [IntKind.wrap,IntKind.bits,IntKind.signed,e1,e2,h,decide_true,Bool.and_self,if_true];omega
 ·simp only [IntKind.wrap,IntKind.bits,IntKind.signed,e1,e2,h,decide_false,Bool.and_false,Bool.false_eq_true,if_false];omega
structure TapeF (W:World) (ad:Option Addr) (n cap:Nat) (wa:Option Addr) (wk:Nat) (ws:List Int) (C:List OpP) (us:List OpD) (S:List Sh):Prop where
 see:SeeR lI W ad cap us
 len:us.length=n
 nil:nilOK us
 lens:∀o∈us,o.xs.length≤1048576
 sh:cH (us.map OpD.toOpP)=some S
 v:bJ (us.map OpD.toOpP)=bJ C
 g:cW (us.map OpD.toOpP)=cW C
 ints:Ints .i64 W wa wk ws
 ix:∀i∈ws,0≤i∧i < n
 n1:1≤n
 n2:n≤48
 m:ws.length≤12
 clen:C.length=n
 last:(aH (bJ C) ((n - 1:Nat):Int)).xs.length=1
theorem TapeF.below {W V:World} {ad:Option Addr} {n cap:Nat} {wa:Option Addr} {wk:Nat} {ws:List Int} {C:List OpP} {us:List OpD} {S:List Sh} (h:TapeF W ad n cap wa wk ws C us S) (hb:Below W.heap.size W V):TapeF V ad n cap wa wk ws C us S :=
 ⟨h.see.below hb,h.len,h.nil,h.lens,h.sh,h.v,h.g,h.ints.below hb,h.ix,h.n1,h.n2,h.m,h.clen,h.last⟩
theorem TapeF.of {w W:World} {ad:Option Addr} {n cap:Nat} {wa:Option Addr} {wk:Nat} {ws:List Int} {C:List OpP} {ls:List LayP} {X Y:TenP} {num:Nat} (h:TN w W ad n cap C [bQ wa wk ws]) (hR:bH ls X Y num=some (C,ws)) (hwf:∀x∈ws,(Lit.int .i64 x).wf=true) :
  ∃us S,TapeF W ad n cap wa wk ws C us S:=by
 obtain ⟨us,h1,h2,h3⟩:=h
 obtain ⟨S,hS,hl,hix⟩:=qO hR
 have hlen:=oT hR
 have hp:=cE hS
 have hcl:C.length=n:=by rw [←h1,←h2,List.length_map]
 have hown:=h3.own
 have e:(us.map OpD.toOpP).map OpP.can=C:=by rw [←Cb];exact h2
 have hri:=hown.own.repI (hown.memE (List.mem_cons_self ..)) hwf
 have hlast:=Da hS hl
 rw [hcl] at hlast hix hp
 refine ⟨us,S,hown.r.see,h1,hown.r.nilOK,fun o ho=>?_,by rw [←Af,e];exact hS,by rw [←wI,e],by rw [←Ca,e],hri.arg,hix,hp.1.1,hp.1.2,hlen.2.2,hcl,hlast⟩
 have h4:=hlen.2.1 o.toOpP.can (by rw [←h2];exact List.mem_map_of_mem ho)
 have h5:o.xs.length≤256:=by simpa [OpP.can] using h4
 omega
def EP (W:World) (g n tb tq tc z:Nat):Prop:=W.cell? ⟨g,(n - 1) * 3+2,none⟩=some (.slice (some ⟨tb,tq,none⟩) 1 tc)∧W.cell? ⟨tb,tq,none⟩=some (.float .f32 z)
theorem wN {W:World} {ad:Option Addr} {n cap:Nat} {wa:Option Addr} {wk:Nat} {ws:List Int} {C:List OpP} {us:List OpD} {S:List Sh} (hT:TapeF W ad n cap wa wk ws C us S) {lo hi cv:Nat} {av:Option Addr} {vs:List Ten} (hv:OwnR bV W lo hi av n cv vs) (he:vs.map (fun t=>t.toTenP.can)=bJ C) :
  ∃g tb tq tc z,av=some ⟨g,0,none⟩∧(∀V,Below W.heap.size W V→EP V g n tb tq tc z)∧z < 4294967296∧cn .f32 z=wK C:=by
 have h1:=hT.n1
 obtain ⟨t,ht⟩:=getElem?_lt (show n - 1 < vs.length by rw [hv.len];omega)
 have hg:=nA he ht
 have hl:=hT.last
 rw [hg] at hl
 have hl2:t.xs.length=1:=by simpa [TenP.can] using hl
 obtain ⟨z,hz⟩:∃z,t.xs=[z]:=List.length_eq_one_iff.1 hl2
 obtain ⟨g,e,hr,⟨-,-,hc⟩,-,hrep⟩:=pS hv ht
 have hF:=hrep.arg
 rcases hF.rd with h3 | ⟨tb,tq,e3,hb3,hc3⟩
 ·rw [hz] at h3;cases h3
 ·refine ⟨g,tb,tq,t.cap,z,e,fun V hb=>⟨?_,?_⟩,hF.lt z (by rw [hz];exact List.mem_singleton.2 rfl),?_⟩
  ·rw [hb.cell hr.2.2,hc,e3,hl2]
  ·have h5:=hc3 0 (by rw [hz];exact Nat.one_pos)
   rw [hz] at h5
   rw [hb.cell hb3]
   exact h5
  ·unfold wK
   rw [hT.clen,hg]
   unfold TenP.can
   rw [hz];rfl
theorem Cd:cn .f32 0=0:=by decide +kernel
def bR (s:Nat):Bool:=(FloatKind.f32.format.order s 947912704 == some .gt || FloatKind.f32.format.order s 947912704 == some .eq) && (FloatKind.f32.format.order s 1266679808 == some .lt || FloatKind.f32.format.order s 1266679808 == some .eq)
def aW (s:Nat) (g q:Int):Bool:=bR s && jU g 0 1000 && jU q 1 1000
theorem gV (s:Nat) (g q:Int) (w:World):Calls Tryz.prog 21 #[.agg #[.float .f32 s,.int .i64 g,.int .i64 q]] w fun e w'=>e=.returned (.agg #[.float .f32 s,.int .i64 g,.int .i64 q])∧Below w.heap.size w w':=by
 go_enter Tryz.func21,Tryz.ntmps21
 go_wp2
 exact bodyPost_ret (v:=.agg #[.float .f32 s,.int .i64 g,.int .i64 q]) (by simp [results,Tryz.results21,go_sem]) rfl ⟨rfl,dE _ _ _ _⟩
theorem pU (s:Nat) (w:World):Calls Tryz.prog 34 #[.float .f32 s] w fun e w'=>e=.returned (.bool (bR s))∧w=w':=by
 go_enter Tryz.func34,Tryz.ntmps34
 go_wp2
 all_goals (go_ret;refine ⟨?_,rfl⟩;simp_all [bR])
theorem vM (s:Nat) (w:World):Calls Tryz.prog 29 #[.float .f32 s] w fun e w'=>e=.returned (.bool (bR s))∧w=w':=by
 go_enter Tryz.func29,Tryz.ntmps29
 go_wp2
 all_goals (go_ret;refine ⟨?_,rfl⟩;simp_all [bR])
theorem sJ (s:Nat) (g q:Int) (w:World):Calls Tryz.prog 43 #[.agg #[.float .f32 s,.int .i64 g,.int .i64 q]] w fun e w'=>e=.returned (.bool (aW s g q))∧Below w.heap.size w w':=by
 go_enter Tryz.func43,Tryz.ntmps43
 cases h1:bR s <;> cases h2:jU g 0 1000 <;> cases h3:jU q 1 1000
 all_goals
  go_wp2_with (first | (go_at_call 51;refine (jG _ _ _ _).mono ?_;rintro e w' ⟨rfl,rfl⟩) | (go_at_call 34;refine (pU _ _).mono ?_;rintro e w' ⟨rfl,rfl⟩))
  go_ret
  exact ⟨by simp [aW,h1,h2,h3],aE _ _⟩
theorem AL (s:Nat) (g q:Int) (w:World):Calls Tryz.prog 41 #[.agg #[.float .f32 s,.int .i64 g,.int .i64 q]] w fun e w'=>e=.returned (.bool (aW s g q))∧Below w.heap.size w w':=by
 go_enter Tryz.func41,Tryz.ntmps41
 cases h1:bR s <;> cases h2:jU g 0 1000 <;> cases h3:jU q 1 1000
 all_goals
  go_wp2_with (first | (go_at_call 48;refine (gN _ _ _ _).mono ?_;rintro e w' ⟨rfl,rfl⟩) | (go_at_call 29;refine (vM _ _).mono ?_;rintro e w' ⟨rfl,rfl⟩))
  go_ret
  exact ⟨by simp [aW,h1,h2,h3],aE _ _⟩
theorem DE (x:Nat):eT (cn .f32 x)=eT x:=by
 cases h:eR .f32 x with
 | false=>rw [dR h]
 | true =>
  have h1:∀y,eT y=true→eR .f32 y=false:=fun y hy=>zL hy
  cases h2:eT x with
  | true=>rw [h1 x h2] at h;cases h
  | false =>
   cases h3:eT (cn .f32 x) with
   | false=>rfl
   | true=>have:=h1 _ h3;rw [iK,h] at this;cases this
theorem rV (xs:List Nat):(xs.map (cn .f32)).all eT=xs.all eT:=by
 rw [List.all_map];congr 1;funext x;exact DE x
def dD (R:Option (List OpP × List Int)) (s:Nat):(List Nat × Nat) × Bool:=match nC R with
 | none=>(([],0),false)
 | some p=>((p.1.map (fun g=>dQ .quo .f32 g s),dQ .quo .f32 p.2 s),p.1.all eT)
theorem lV {R:Option (List OpP × List Int)} {G:List Nat} {z s:Nat} (h:nC R=some (G,z)):dD R s=((G.map (fun g=>dQ .quo .f32 g s),dQ .quo .f32 z s),G.all eT):=by unfold dD;rw [h]
theorem AM {ls:List LayP} {X Y:TenP} {num:Nat} {C:List OpP} {ws:List Int} (h:bH ls X Y num=some (C,ws)):∃P a,C=P ++ [eU 5 a 0 num]∧∀q,bH ls X Y q=some (P ++ [eU 5 a 0 q],ws):=by
 unfold bH at h ⊢
 split at h
 ·rename_i hg
  obtain ⟨s,hs,e⟩:=Option.map_eq_some_iff.1 h
  cases e
  refine ⟨_,_,rfl,fun q=>?_⟩
  rw [if_pos hg,hs]
  rfl
 ·cases h
theorem AN {ls:List LayP} {X Y:TenP} {num:Nat} (h:bH ls X Y num=none) (q:Nat):bH ls X Y q=none:=by
 unfold bH at h ⊢
 split at h
 ·rename_i hg
  rw [if_pos hg]
  rw [Option.map_eq_none_iff] at h ⊢
  exact h
 ·rename_i hg
  rw [if_neg hg]
theorem TN.setNum {w W:World} {ad:Option Addr} {n cap:Nat} {P:List OpP} {a:Int} {num:Nat} {E:List RowD} (h:TN w W ad n cap (P ++ [eU 5 a 0 num]) E) :
  ∃g q,ad=some ⟨g,0,none⟩∧(w.heap.size≤g∧g < W.heap.size)∧1≤n∧W.cell? ⟨g,(n - 1) * 7+3,none⟩=some (.float .f32 q)∧W.frozen? ⟨g,(n - 1) * 7+3,none⟩=false∧cn .f32 q=num ∧
   ∀y,y < 4294967296→TN w (W.setCell ⟨g,(n - 1) * 7+3,none⟩ (.float .f32 y)) ad n cap (P ++ [eU 5 a 0 (cn .f32 y)]) E:=by
 obtain ⟨us,h1,h2,h3⟩:=h
 obtain ⟨A,B,rfl,hA,hB⟩:=List.map_eq_append_iff.1 h2
 obtain ⟨o,rfl,ho⟩:∃o,B=[o]∧o.toOpP.can=eU 5 a 0 num:=by
  have hl:B.length=1:=by have:=congrArg List.length hB;simpa using this
  obtain ⟨o,e⟩:=List.length_eq_one_iff.1 hl
  rw [e] at hB
  exact ⟨o,e,by simpa using hB⟩
 have hn:n=A.length+1:=by rw [←h1];simp
 have hn1:n - 1=A.length:=by omega
 have hget:(A ++ [o])[A.length]? = some o:=by simp
 obtain ⟨g,e,hr,⟨-,-,-,p3,-⟩,hf,-⟩:=En h3.own.r hget
 refine ⟨g,o.num,e,⟨hr.1,hr.2.2⟩,by omega,by rw [hn1];exact p3,hf _,?_,fun y hy=>?_⟩
 ·have:=congrArg OpP.num ho;simpa [OpP.can,eU] using this
 ·subst e
  have hs:=h3.own.own.store (A.length * 7+3) (.float .f32 y)
  have hb:=h3.below.setCell (p:=⟨g,A.length * 7+3,none⟩) hr.1 (.float .f32 y)
  rw [hn1]
  refine ⟨A ++ [⟨⟨o.k,o.a,o.b,y,o.r,o.c,o.xs⟩,o.ad,o.cap⟩],by rw [←h1];simp,?_,⟨⟨?_,rfl,?_⟩,hb⟩⟩
  ·rw [List.map_append,hA]
   congr 1
   have e1:=congrArg OpP.k ho;have e2:=congrArg OpP.a ho;have e3:=congrArg OpP.b ho;have e4:=congrArg OpP.r ho;have e5:=congrArg OpP.c ho;have e6:=congrArg OpP.xs ho
   simp only [OpP.can,eU] at e1 e2 e3 e4 e5 e6
   simp only [List.map_cons,List.map_nil,OpP.can,eU,e1,e2,e3,e4,e5,e6]
  ·have e7:(A.flatMap lI.cells).length=A.length * 7:=pC lI A
   have e8:((A ++ [o]).flatMap lI.cells).set (A.length * 7+3) (.float .f32 y)=(A ++ [(⟨⟨o.k,o.a,o.b,y,o.r,o.c,o.xs⟩,o.ad,o.cap⟩:OpD)]).flatMap lI.cells:=by
    rw [List.flatMap_append,List.flatMap_append,List.set_append_right _ _ (by omega),e7,Nat.add_sub_cancel_left]
    rfl
   rw [e8] at hs
   have e9:(A ++ [o]).flatMap lI.inn=(A ++ [(⟨⟨o.k,o.a,o.b,y,o.r,o.c,o.xs⟩,o.ad,o.cap⟩:OpD)]).flatMap lI.inn:=by
    rw [List.flatMap_append,List.flatMap_append];rfl
   rw [e9] at hs
   have el:(A ++ [o]).length=(A ++ [(⟨⟨o.k,o.a,o.b,y,o.r,o.c,o.xs⟩,o.ad,o.cap⟩:OpD)]).length:=by simp
   rw [el] at hs
   exact hs.bounds (J _) (by simp [World.setCell])
  ·intro u hu
   rcases List.mem_append.1 hu with hu | hu
   ·exact h3.own.ok u (List.mem_append_left _ hu)
   ·rcases List.mem_singleton.1 hu with rfl
    have h5:=h3.own.ok o (by simp)
    exact ⟨h5.1,hy,h5.2.2⟩
def SPost (R:Option (List OpP × List Int)) (s:Nat) (w:World) (e:Ending) (w':World):Prop:=∃ad n cap z f b xs,e=.returned (.tuple #[.slice ad n cap,.float .f32 z,.bool f,.bool b]) ∧
 Hid (((b=R.isSome∧f=(dD R s).2)∧(xs.map (cn .f32),cn .f32 z)=(dD R s).1∧z < 4294967296)∧RepF w' w.heap.size w'.heap.size ad n cap xs)∧Below w.heap.size w w'
theorem SPost.none {R:Option (List OpP × List Int)} {s:Nat} {w w':World} {e:Ending} (h:R=none) (he:e=.returned (.tuple #[.slice none 0 0,.float .f32 0,.bool false,.bool false])) (hb:Below w.heap.size w w'):SPost R s w e w':=by
 subst h
 exact ⟨_,_,_,_,_,_,[],he,I ⟨⟨⟨rfl,rfl⟩,by rw [Cd];rfl,by decide⟩,RepF.nil _ _ _⟩,hb⟩
def eI (L:List LayP) (X Y:TenP) (m s:Nat):Option (List OpP × List Int):=if bR s=true then bH (L.map (cZ mH)) X Y (dQ .mul .f32 (cJ m) (cn .f32 s)) else none
theorem rX {n k:Nat} {f g:Nat→Nat} {y:Nat} {zs:List Nat} (h:zs.map (cn .f32)=bA n f) (hy:cn .f32 y=g k) (hg:∀i,i≠k→g i=f i):(zs.set k y).map (cn .f32)=bA n g:=by
 rw [List.map_set,h,hy]
 apply List.ext_getElem
 ·simp [bA]
 ·intro i h1 h2
  simp only [List.getElem_set]
  split
  ·next e=>subst e;simp [bA]
  ·next e=>simp [bA,hg i (Ne.symm e)]
theorem vN (w:World) (r c:Nat) (ad:Option Addr) (cap n:Nat) (xs:List Nat) (h:F32s w ad cap xs) (hx:xs.length=n) (hn6:n≤256) (hc1:1≤c) (hc:c≤16) :
  Calls Tryz.prog 128 #[.agg #[.int .i64 r,.int .i64 c,.slice ad n cap]] w fun e w' => ∃ad' cap' zs,e=.returned (.slice ad' c cap')∧Hid (RepF w' w.heap.size w'.heap.size ad' c cap' zs)∧Hid (zs.map (cn .f32)=bA c (sI (xs.map (cn .f32)) c n))∧Below w.heap.size w w':=by
 obtain ⟨i0,hi0,hz0,hz1,hz2⟩:=info_parts bW
 obtain ⟨X,hX⟩:∃X,X=xs.map (cn .f32):=⟨_,rfl⟩
 rw [←hX]
 have HX:=I hX;have HXL:=I hx;have H0:=I h
 have XB:=I (BoxN.alloc w #[.int .i64 r,.int .i64 c,.slice ad n cap] 37)
 have hB:=aE w (.cells #[.int .i64 r,.int .i64 c,.slice ad n cap] 37)
 have B:=I hB
 have hsz:=hB.size
 clear hX hx h hB
 go_enter Tryz.func128,Tryz.ntmps128
 obtain ⟨w0,hw0⟩:∃w0,w0=w.alloc (.cells #[.int .i64 r,.int .i64 c,.slice ad n cap] 37):=⟨_,rfl⟩
 rw [←hw0] at XB B hsz
 go_wp2_with (at_make;refine wpList_make_full _ rfl _ _ 25 rfl (w.heap.size+1) 28 i0 (.float .f32 0) 1 Tryz.underlying25 hi0 hz0 hz1 .i64 .i64 _ _ c rfl rfl rfl rfl ?c1 ?c2 ?c3 ?_)
 case c1=>omega
 case c2=>unfold maxLen;omega
 intro w1 hown1 hg1
 rw [←hw0] at hg1
 have hw1:w0.heap.size=w.heap.size+1:=by rw [hw0];simp
 have hb1:Below (w.heap.size+1) w0 w1:=(O _ _).grown hg1 (by omega) (fun k e=>by cases e)
 have hs1:=hb1.size
 have hS:=vY hown1
 have B0:=B
 have HW1:=I hw1
 have hne:¬ c=0:=by omega
 clear hown1 hg1 hw0 B
 have XB1:=I (XB.out.below (HW1.out.symm ▸ hb1))
 obtain ⟨-,y0,y1,y2,yf⟩:=XB1.out.three
 go_wp2
 go_loopw [13] (fun i wr => ∃k:Nat,i=.int .i64 k∧k≤n∧∃zs:List Nat,RepF wr (w.heap.size+1) w1.heap.size (some ⟨w.heap.size+1,0,none⟩) c c zs∧Hid (zs.map (cn .f32)=bA c (sI X c k))∧Below (w.heap.size+1) w0 wr∧w1.heap.size≤wr.heap.size) (fun i _=>n - (intOf i).toNat)
 case atStart=>exact ⟨0,rfl,Nat.zero_le _,_,hS,I (by rw [pE];rfl),hb1,J _⟩
 case round =>
  obtain ⟨k,rfl,hk,zs,hz,HZ,hb,hbs⟩:=hrel
  have hx:=H0.out.below (aA B0.out (HW1.out.symm ▸ hb))
  obtain ⟨-,x0,x1,x2,xf⟩:=(XB.out.below (HW1.out.symm ▸ hb)).three
  by_cases hlt:k < n
  ·have hk1:k < xs.length:=by rw [HXL.out];exact hlt
   obtain ⟨bx,offx,rfl,_,hqx⟩:=F32s.spot hx (k:=k) hk1
   have hcx:=hqx k hk1
   obtain ⟨x,px⟩:∃x,x=xs.getD k 0:=⟨_,rfl⟩
   rw [←px] at hcx
   have Px:=I px;clear px hqx hx
   have hmod:k % c < c:=Nat.mod_lt _ hc1
   have ht:(k:Int).tmod (c:Int)=((k % c:Nat):Int):=(Int.ofNat_tmod k c).symm
   obtain ⟨j,hj⟩:∃j,j=k % c:=⟨_,rfl⟩
   rw [←hj] at hmod ht
   have HJ:=I hj;clear hj
   obtain ⟨g,hg,hlo,hcell,hfr,_⟩:=hz.open (by omega)
   cases hg
   have hc2:=hcell j hmod
   have hf:=hfr j
   obtain ⟨z,hzz⟩:∃z,z=zs.getD j 0:=⟨_,rfl⟩
   rw [←hzz] at hc2
   have HZZ:=I hzz
   clear hcell hfr hzz
   go_wp2
   go_roundw
   case rel =>
    refine ⟨k+1,by go_num,hlt,zs.set j _,RepF.setAt (hz.below (below_drewN (O _ _) _)) j _ (bL _ .f32 _ _ _) (by omega),I (rX HZ.out ?_ ?_),(below_drewN hb _).setCell (J _) _,by simpa [World.setCell] using hbs⟩
    ·rw [bE,HZZ.out,DW HZ.out hmod,Px.out,←bO,←HX.out]
     show _ = if j=k % c then _ else _
     rw [if_pos HJ.out]
    ·intro i hi
     show (if i=k % c then _ else _) = _
     rw [if_neg (by rw [←HJ.out];exact hi)]
   case measure=>simp [intOf];omega
  ·have hkn:k=n:=by omega
   subst hkn
   go_wp2
   go_ret
   exact ⟨_,_,zs,rfl,I (hz.bounds (by omega) hbs),HZ,aA B0.out (HW1.out.symm ▸ hb)⟩
theorem F32s.uniq {w:World} {a:Option Addr} {k:Nat} {xs ys:List Nat} (h1:F32s w a k xs) (h2:F32s w a k ys) (hl:xs.length=ys.length):xs=ys:=by
 refine List.ext_getElem hl fun i hi hj=>?_
 obtain ⟨b,o,e,_,hc⟩:=h1.spot (k:=i) hi
 obtain ⟨b2,o2,e2,_,hc2⟩:=h2.spot (k:=i) hj
 rw [e] at e2
 cases e2
 have e3:=(hc i hi).symm.trans (hc2 i hj)
 rw [List.getD_eq_getElem?_getD,List.getD_eq_getElem?_getD,List.getElem?_eq_getElem hi,List.getElem?_eq_getElem hj] at e3
 simpa using e3
structure Dsc where
 r:Nat
 c:Nat
 a:Option Addr
 k:Nat
 xs:List Nat
def Dsc.val (t:Dsc):Value:=.agg #[.int .i64 t.r,.int .i64 t.c,.slice t.a t.xs.length t.k]
def Dsc.cells (t:Dsc):List Value:=[.int .i64 t.r,.int .i64 t.c,.slice t.a t.xs.length t.k]
def Dsc.can (t:Dsc):TenP:=⟨t.r,t.c,t.xs.map (cn .f32)⟩
structure Dsc.At (t:Dsc) (w:World):Prop where
 see:F32s w t.a t.k t.xs
 r1:1≤t.r
 r2:t.r≤16
 c1:1≤t.c
 c2:t.c≤16
 len:t.xs.length=t.r * t.c
theorem Dsc.At.below {t:Dsc} {w w':World} (h:t.At w) (hb:Below w.heap.size w w'):t.At w':=⟨h.see.below hb,h.r1,h.r2,h.c1,h.c2,h.len⟩
theorem Dsc.At.le {t:Dsc} {w:World} (h:t.At w):t.xs.length≤256:=by rw [h.len];exact Nat.mul_le_mul h.r2 h.c2
theorem Dsc.At.pos {t:Dsc} {w:World} (h:t.At w):1≤t.xs.length:=by rw [h.len];exact Nat.mul_le_mul h.r1 h.c1
theorem Dsc.At.nil {t:Dsc} {w:World} (h:t.At w):t.a=none→t.k=0:=by
 intro e
 obtain ⟨b,o,e2,_,_⟩:=h.see.spot (k:=0) h.pos
 rw [e] at e2;cases e2
theorem Dsc.At.okT {t:Dsc} {w:World} (h:t.At w):okT t.can:=by
 have h1:=h.r1;have h2:=h.r2;have h3:=h.c1;have h4:=h.c2
 refine ⟨?_,?_,?_,?_,?_⟩ <;> show _
 ·show (1:Int)≤t.r;omega
 ·show (t.r:Int)≤16;omega
 ·show (1:Int)≤t.c;omega
 ·show (t.c:Int)≤16;omega
 ·show (t.xs.map (cn .f32)).length=(t.r:Int).toNat * (t.c:Int).toNat
  rw [List.length_map,h.len];simp
theorem Dsc.uniq {t u:Dsc} {w:World} (h1:t.At w) (h2:u.At w) (e:t.val=u.val):t=u:=by
 obtain ⟨r,c,a,k,xs⟩:=t
 obtain ⟨r2,c2,a2,k2,ys⟩:=u
 have e':Value.agg #[.int .i64 (r:Int),.int .i64 (c:Int),.slice a xs.length k]=Value.agg #[.int .i64 (r2:Int),.int .i64 (c2:Int),.slice a2 ys.length k2]:=e
 simp at e'
 obtain ⟨e1,e2,e3,e4,e5⟩:=e'
 subst e3 e5
 have h6:=F32s.uniq (xs:=xs) (ys:=ys) h1.see h2.see e4
 subst h6
 have e1:r=r2:=by omega
 have e2:c=c2:=by omega
 subst e1 e2
 rfl
def RTen (T:TenP) (w1:World) (v:Value) (w2:World):Prop:=∃t:Dsc,v=t.val∧t.can=T∧RepF w2 w1.heap.size w2.heap.size t.a t.xs.length t.k t.xs∧Below w1.heap.size w1 w2
theorem RTen.at' {T:TenP} {w1 w2:World} {v:Value} (h:RTen T w1 v w2) (hT:okT T):∃t:Dsc,v=t.val∧t.can=T∧t.At w2∧RepF w2 w1.heap.size w2.heap.size t.a t.xs.length t.k t.xs∧Below w1.heap.size w1 w2:=by
 obtain ⟨t,e1,e2,hr,hb⟩:=h
 subst e2
 refine ⟨t,e1,rfl,⟨hr.arg,?_,?_,?_,?_,?_⟩,hr,hb⟩
 ·have h1:(1:Int)≤t.r:=hT.r1;omega
 ·have h1:(t.r:Int)≤16:=hT.r2;omega
 ·have h1:(1:Int)≤t.c:=hT.c1;omega
 ·have h1:(t.c:Int)≤16:=hT.c2;omega
 ·have h1:(t.xs.map (cn .f32)).length=(t.r:Int).toNat * (t.c:Int).toNat:=hT.len
  rw [List.length_map] at h1;simpa using h1
theorem RTen.of {r c n:Nat} {P:List Nat} {T:TenP} {w w':World} {e:Ending} (h:bN r c n P w e w') (hT:T=⟨r,c,P⟩):∃v,e=.returned v∧RTen T w v w':=by
 obtain ⟨ad,cap,zs,he,hr,hm,hb⟩:=h
 have hl:=hr.out.len
 subst hl
 subst hT
 exact ⟨_,he,⟨r,c,ad,cap,zs⟩,rfl,by show (⟨_,_,_⟩:TenP) = _;rw [hm.out],hr.out,hb⟩
def DF (L:List Nat) (w1:World) (v:Value) (w2:World):Prop:=∃(a:Option Addr) (k:Nat) (xs:List Nat),v=.slice a xs.length k∧xs.map (cn .f32)=L∧RepF w2 w1.heap.size w2.heap.size a xs.length k xs∧Below w1.heap.size w1 w2
def DAll (f:FuncId) (args:Array Value) (w1:World) (v:Value) (w2:World):Prop :=
 (∃t u:Dsc,f=118∧args=#[t.val,u.val]∧t.At w1∧u.At w1∧RTen (eN t.can u.can) w1 v w2) ∨
 (∃t u:Dsc,f=94∧args=#[t.val,u.val]∧t.At w1∧u.At w1∧RTen (fI t.can u.can) w1 v w2) ∨
 (∃(t:Dsc) (a:Option Addr) (k:Nat) (ys:List Nat),f=119∧args=#[t.val,.slice a ys.length k]∧t.At w1∧F32s w1 a k ys∧RTen ⟨t.r,t.c,fT .mul t.can.xs (ys.map (cn .f32)) t.c t.xs.length⟩ w1 v w2) ∨
 (∃t:Dsc,f=122∧args=#[t.val]∧t.At w1∧RTen (cU t.can) w1 v w2) ∨
 (∃t u:Dsc,f=121∧args=#[t.val,u.val]∧t.At w1∧u.At w1∧RTen (gU t.can u.can) w1 v w2) ∨
 (∃t:Dsc,f=128∧args=#[t.val]∧t.At w1∧DF (bA t.c (sI t.can.xs t.c t.xs.length)) w1 v w2) ∨
 (∃(a:Option Addr) (k:Nat) (ys:List Nat),f=67∧args=#[.slice a ys.length k]∧F32s w1 a k ys∧RTen ⟨1,ys.length,ys.map (cn .f32)⟩ w1 v w2)
theorem DAll.mulTensors {t u:Dsc} {w1 w2:World} {v:Value} (h:DAll 118 #[t.val,u.val] w1 v w2) (ht:t.At w1) (hu:u.At w1):RTen (eN t.can u.can) w1 v w2:=by
 rcases h with ⟨t2,u2,hf,e,h1,h2,h3⟩ | ⟨t2,u2,hf,e,h1,h2,h3⟩ | ⟨t2,a2,k2,ys2,hf,e,h1,h2,h3⟩ | ⟨t2,hf,e,h1,h3⟩ | ⟨t2,u2,hf,e,h1,h2,h3⟩ | ⟨t2,hf,e,h1,h3⟩ | ⟨a2,k2,ys2,hf,e,h2,h3⟩
 ·have e0:=congrArg Array.toList e
  injection e0 with e1 e0
  injection e0 with e2 e0
  cases Dsc.uniq ht h1 e1
  cases Dsc.uniq hu h2 e2
  exact h3
 ·exact absurd hf (by decide)
 ·exact absurd hf (by decide)
 ·exact absurd hf (by decide)
 ·exact absurd hf (by decide)
 ·exact absurd hf (by decide)
 ·exact absurd hf (by decide)
theorem DAll.addTensors {t u:Dsc} {w1 w2:World} {v:Value} (h:DAll 94 #[t.val,u.val] w1 v w2) (ht:t.At w1) (hu:u.At w1):RTen (fI t.can u.can) w1 v w2:=by
 rcases h with ⟨t2,u2,hf,e,h1,h2,h3⟩ | ⟨t2,u2,hf,e,h1,h2,h3⟩ | ⟨t2,a2,k2,ys2,hf,e,h1,h2,h3⟩ | ⟨t2,hf,e,h1,h3⟩ | ⟨t2,u2,hf,e,h1,h2,h3⟩ | ⟨t2,hf,e,h1,h3⟩ | ⟨a2,k2,ys2,hf,e,h2,h3⟩
 ·exact absurd hf (by decide)
 ·have e0:=congrArg Array.toList e
  injection e0 with e1 e0
  injection e0 with e2 e0
  cases Dsc.uniq ht h1 e1
  cases Dsc.uniq hu h2 e2
  exact h3
 ·exact absurd hf (by decide)
 ·exact absurd hf (by decide)
 ·exact absurd hf (by decide)
 ·exact absurd hf (by decide)
 ·exact absurd hf (by decide)
theorem DAll.matMul {t u:Dsc} {w1 w2:World} {v:Value} (h:DAll 121 #[t.val,u.val] w1 v w2) (ht:t.At w1) (hu:u.At w1):RTen (gU t.can u.can) w1 v w2:=by
 rcases h with ⟨t2,u2,hf,e,h1,h2,h3⟩ | ⟨t2,u2,hf,e,h1,h2,h3⟩ | ⟨t2,a2,k2,ys2,hf,e,h1,h2,h3⟩ | ⟨t2,hf,e,h1,h3⟩ | ⟨t2,u2,hf,e,h1,h2,h3⟩ | ⟨t2,hf,e,h1,h3⟩ | ⟨a2,k2,ys2,hf,e,h2,h3⟩
 ·exact absurd hf (by decide)
 ·exact absurd hf (by decide)
 ·exact absurd hf (by decide)
 ·exact absurd hf (by decide)
 ·have e0:=congrArg Array.toList e
  injection e0 with e1 e0
  injection e0 with e2 e0
  cases Dsc.uniq ht h1 e1
  cases Dsc.uniq hu h2 e2
  exact h3
 ·exact absurd hf (by decide)
 ·exact absurd hf (by decide)
theorem DAll.transposed {t:Dsc} {w1 w2:World} {v:Value} (h:DAll 122 #[t.val] w1 v w2) (ht:t.At w1):RTen (cU t.can) w1 v w2:=by
 rcases h with ⟨t2,u2,hf,e,h1,h2,h3⟩ | ⟨t2,u2,hf,e,h1,h2,h3⟩ | ⟨t2,a2,k2,ys2,hf,e,h1,h2,h3⟩ | ⟨t2,hf,e,h1,h3⟩ | ⟨t2,u2,hf,e,h1,h2,h3⟩ | ⟨t2,hf,e,h1,h3⟩ | ⟨a2,k2,ys2,hf,e,h2,h3⟩
 ·exact absurd hf (by decide)
 ·exact absurd hf (by decide)
 ·exact absurd hf (by decide)
 ·have e0:=congrArg Array.toList e
  injection e0 with e1 e0
  cases Dsc.uniq ht h1 e1
  exact h3
 ·exact absurd hf (by decide)
 ·exact absurd hf (by decide)
 ·exact absurd hf (by decide)
theorem DAll.sumRows {t:Dsc} {w1 w2:World} {v:Value} (h:DAll 128 #[t.val] w1 v w2) (ht:t.At w1):DF (bA t.c (sI t.can.xs t.c t.xs.length)) w1 v w2:=by
 rcases h with ⟨t2,u2,hf,e,h1,h2,h3⟩ | ⟨t2,u2,hf,e,h1,h2,h3⟩ | ⟨t2,a2,k2,ys2,hf,e,h1,h2,h3⟩ | ⟨t2,hf,e,h1,h3⟩ | ⟨t2,u2,hf,e,h1,h2,h3⟩ | ⟨t2,hf,e,h1,h3⟩ | ⟨a2,k2,ys2,hf,e,h2,h3⟩
 ·exact absurd hf (by decide)
 ·exact absurd hf (by decide)
 ·exact absurd hf (by decide)
 ·exact absurd hf (by decide)
 ·exact absurd hf (by decide)
 ·have e0:=congrArg Array.toList e
  injection e0 with e1 e0
  cases Dsc.uniq ht h1 e1
  exact h3
 ·exact absurd hf (by decide)
theorem DAll.mulRow {t:Dsc} {a:Option Addr} {k:Nat} {ys:List Nat} {w1 w2:World} {v:Value} (h:DAll 119 #[t.val,.slice a ys.length k] w1 v w2) (ht:t.At w1) (hy:F32s w1 a k ys):RTen ⟨t.r,t.c,fT .mul t.can.xs (ys.map (cn .f32)) t.c t.xs.length⟩ w1 v w2:=by
 rcases h with ⟨t2,u2,hf,e,h1,h2,h3⟩ | ⟨t2,u2,hf,e,h1,h2,h3⟩ | ⟨t2,a2,k2,ys2,hf,e,h1,h2,h3⟩ | ⟨t2,hf,e,h1,h3⟩ | ⟨t2,u2,hf,e,h1,h2,h3⟩ | ⟨t2,hf,e,h1,h3⟩ | ⟨a2,k2,ys2,hf,e,h2,h3⟩
 ·exact absurd hf (by decide)
 ·exact absurd hf (by decide)
 ·have e0:=congrArg Array.toList e
  injection e0 with e1 e0
  injection e0 with e2 e0
  injection e2 with e4 e3 e5
  cases Dsc.uniq ht h1 e1
  subst e4 e5
  cases F32s.uniq hy h2 e3
  exact h3
 ·exact absurd hf (by decide)
 ·exact absurd hf (by decide)
 ·exact absurd hf (by decide)
 ·exact absurd hf (by decide)
theorem DAll.rowTensor {a:Option Addr} {k:Nat} {ys:List Nat} {w1 w2:World} {v:Value} (h:DAll 67 #[.slice a ys.length k] w1 v w2) (hy:F32s w1 a k ys):RTen ⟨1,ys.length,ys.map (cn .f32)⟩ w1 v w2:=by
 rcases h with ⟨t2,u2,hf,e,h1,h2,h3⟩ | ⟨t2,u2,hf,e,h1,h2,h3⟩ | ⟨t2,a2,k2,ys2,hf,e,h1,h2,h3⟩ | ⟨t2,hf,e,h1,h3⟩ | ⟨t2,u2,hf,e,h1,h2,h3⟩ | ⟨t2,hf,e,h1,h3⟩ | ⟨a2,k2,ys2,hf,e,h2,h3⟩
 ·exact absurd hf (by decide)
 ·exact absurd hf (by decide)
 ·exact absurd hf (by decide)
 ·exact absurd hf (by decide)
 ·exact absurd hf (by decide)
 ·exact absurd hf (by decide)
 ·have e0:=congrArg Array.toList e
  injection e0 with e2 e0
  injection e2 with e4 e3 e5
  subst e4 e5
  cases F32s.uniq hy h2 e3
  exact h3
theorem fW {t u:Dsc} {w:World} (ht:t.At w) (hu:u.At w) (h1:t.r=u.r) (h2:t.c=u.c):Calls Tryz.prog 118 #[t.val,u.val] w fun e w' => ∃v,e=.returned v∧DAll 118 #[t.val,u.val] w v w':=by
 have h0:Calls Tryz.prog 118 #[t.val,u.val] w (bN t.r t.c t.xs.length (fM .mul (t.xs.map (cn .f32)) (u.xs.map (cn .f32)) t.xs.length) w):=by
  show Calls Tryz.prog 118 #[.agg #[.int .i64 t.r,.int .i64 t.c,.slice t.a t.xs.length t.k],.agg #[.int .i64 u.r,.int .i64 u.c,.slice u.a u.xs.length u.k]] w _
  rw [show u.xs.length=t.xs.length by rw [ht.len,hu.len,h1,h2]]
  exact iP w t.r t.c u.r u.c t.a u.a t.k u.k t.xs.length t.xs u.xs ht.see hu.see rfl (by rw [ht.len,hu.len,h1,h2]) ht.le
 refine h0.mono fun e w' h=>?_
 obtain ⟨v,he,hr⟩:=RTen.of (T:=eN t.can u.can) h (by simp [eN,fI,cU,gU,Dsc.can])
 exact ⟨v,he,Or.inl ⟨t,u,rfl,rfl,ht,hu,hr⟩⟩
theorem mE {t u:Dsc} {w:World} (ht:t.At w) (hu:u.At w) (h1:t.r=u.r) (h2:t.c=u.c):Calls Tryz.prog 94 #[t.val,u.val] w fun e w' => ∃v,e=.returned v∧DAll 94 #[t.val,u.val] w v w':=by
 have h0:Calls Tryz.prog 94 #[t.val,u.val] w (bN t.r t.c t.xs.length (fM .add (t.xs.map (cn .f32)) (u.xs.map (cn .f32)) t.xs.length) w):=by
  show Calls Tryz.prog 94 #[.agg #[.int .i64 t.r,.int .i64 t.c,.slice t.a t.xs.length t.k],.agg #[.int .i64 u.r,.int .i64 u.c,.slice u.a u.xs.length u.k]] w _
  rw [show u.xs.length=t.xs.length by rw [ht.len,hu.len,h1,h2]]
  exact mD w t.r t.c u.r u.c t.a u.a t.k u.k t.xs.length t.xs u.xs ht.see hu.see rfl (by rw [ht.len,hu.len,h1,h2]) ht.le
 refine h0.mono fun e w' h=>?_
 obtain ⟨v,he,hr⟩:=RTen.of (T:=fI t.can u.can) h (by simp [eN,fI,cU,gU,Dsc.can])
 exact ⟨v,he,Or.inr (Or.inl ⟨t,u,rfl,rfl,ht,hu,hr⟩)⟩
theorem Ag {t:Dsc} {a:Option Addr} {k:Nat} {ys:List Nat} {w:World} (ht:t.At w) (hy:F32s w a k ys) (hl:ys.length=t.c):Calls Tryz.prog 119 #[t.val,.slice a ys.length k] w fun e w' => ∃v,e=.returned v∧DAll 119 #[t.val,.slice a ys.length k] w v w':=by
 have h0:Calls Tryz.prog 119 #[t.val,.slice a ys.length k] w (bN t.r t.c t.xs.length (fT .mul (t.xs.map (cn .f32)) (ys.map (cn .f32)) t.c t.xs.length) w):=by
  show Calls Tryz.prog 119 #[.agg #[.int .i64 t.r,.int .i64 t.c,.slice t.a t.xs.length t.k],.slice a ys.length k] w _
  rw [hl]
  exact rM w t.r t.c t.a a t.k k t.xs.length t.xs ys ht.see hy rfl hl ht.le ht.c1 ht.c2
 refine h0.mono fun e w' h=>?_
 obtain ⟨v,he,hr⟩:=RTen.of (T:=⟨t.r,t.c,fT .mul t.can.xs (ys.map (cn .f32)) t.c t.xs.length⟩) h (by rfl)
 exact ⟨v,he,Or.inr (Or.inr (Or.inl ⟨t,a,k,ys,rfl,rfl,ht,hy,hr⟩))⟩
theorem iT {t:Dsc} {w:World} (ht:t.At w):Calls Tryz.prog 122 #[t.val] w fun e w' => ∃v,e=.returned v∧DAll 122 #[t.val] w v w':=by
 refine (iQ w t.r t.c t.a t.k t.xs.length t.xs ht.see rfl ht.r1 ht.r2 ht.c1 ht.c2 ht.len).mono fun e w' h=>?_
 obtain ⟨v,he,hr⟩:=RTen.of (T:=cU t.can) h (by simp [eN,fI,cU,gU,Dsc.can])
 exact ⟨v,he,Or.inr (Or.inr (Or.inr (Or.inl ⟨t,rfl,rfl,ht,hr⟩)))⟩
theorem rY {t u:Dsc} {w:World} (ht:t.At w) (hu:u.At w) (h1:t.c=u.r):Calls Tryz.prog 121 #[t.val,u.val] w fun e w' => ∃v,e=.returned v∧DAll 121 #[t.val,u.val] w v w':=by
 have h0:Calls Tryz.prog 121 #[t.val,u.val] w (bN t.r u.c (t.r * u.c) (mR (t.xs.map (cn .f32)) (u.xs.map (cn .f32)) t.c u.c (t.r * u.c)) w):=by
  obtain ⟨ur,uc,ua,uk,us⟩:=u;replace h1:t.c=ur:=h1;subst h1;exact rN w t.r t.c uc t.a ua t.k uk t.xs.length us.length t.xs us ht.see hu.see rfl rfl ht.r1 ht.r2 ht.c1 ht.c2 hu.c1 hu.c2 ht.len hu.len
 refine h0.mono fun e w' h=>?_
 obtain ⟨v,he,hr⟩:=RTen.of (T:=gU t.can u.can) h (by simp [eN,fI,cU,gU,Dsc.can])
 exact ⟨v,he,Or.inr (Or.inr (Or.inr (Or.inr (Or.inl ⟨t,u,rfl,rfl,ht,hu,hr⟩))))⟩
theorem nD {a:Option Addr} {k:Nat} {ys:List Nat} {w:World} (hy:F32s w a k ys) (hl:1≤ys.length) (hl2:ys.length≤1048576):Calls Tryz.prog 67 #[.slice a ys.length k] w fun e w' => ∃v,e=.returned v∧DAll 67 #[.slice a ys.length k] w v w':=by
 refine (jO w a k ys.length ys hy (by intro e;obtain ⟨b,o,e2,_,_⟩:=hy.spot (k:=0) hl;rw [e] at e2;cases e2) rfl hl2).mono fun e w' h=>?_
 obtain ⟨v,he,hr⟩:=RTen.of (T:=⟨1,ys.length,ys.map (cn .f32)⟩) h (by simp [eN,fI,cU,gU,Dsc.can])
 exact ⟨v,he,Or.inr (Or.inr (Or.inr (Or.inr (Or.inr (Or.inr (⟨a,k,ys,rfl,rfl,hy,hr⟩))))))⟩
theorem pV {t:Dsc} {w:World} (ht:t.At w):Calls Tryz.prog 128 #[t.val] w fun e w' => ∃v,e=.returned v∧DAll 128 #[t.val] w v w':=by
 refine (vN w t.r t.c t.a t.k t.xs.length t.xs ht.see rfl ht.le ht.c1 ht.c2).mono fun e w' h=>?_
 obtain ⟨ad,cap,zs,he,hr,hm,hb⟩:=h
 have hl:=hr.out.len
 refine ⟨_,he,Or.inr (Or.inr (Or.inr (Or.inr (Or.inr (Or.inl ⟨t,rfl,rfl,ht,ad,cap,zs,by rw [hl],hm.out,?_,hb⟩)))))⟩
 rw [hl];exact hr.out
end Go.Proofs.YtpadlmidojpbeaaGreat
