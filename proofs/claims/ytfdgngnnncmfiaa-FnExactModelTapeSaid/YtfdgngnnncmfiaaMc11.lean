/- Joined texts 11: Mu2 Tp8 Tw0 Rg2 Ali Rp1 Rp2 Rp4 Tw1 Tw2 Ms2 Mp0. Each is told at its own head. No condition. -/
import Derived.Deep.CutRange
import Derived.Deep.DeepCutAuto
import Derived.Deep.RegionHeld3
import Derived.Test.YtfdgngnnncmfiaaMc0
import Derived.Test.YtfdgngnnncmfiaaMc3
import Derived.Test.YtfdgngnnncmfiaaMc4
import Derived.Test.YtfdgngnnncmfiaaMc6
import Derived.Test.YtfdgngnnncmfiaaMc7
import Derived.Test.YtfdgngnnncmfiaaMc10
/- The tape of a model: the program, part C. No condition. -/
namespace Go.Proofs.Ytfdgngnnncmfiaa
open Go Go.RowKit
set_option linter.unusedVariables false
set_option linter.unusedSimpArgs false
/-- what the two calls of add in one region give -/
def DAdd (w4 : World) (tb n : Nat) (p : Int) (ops : List OpP) (E : List RowD) (f : FuncId) (args : Array Value) (w1 : World) (v : Value) (w2 : World) : Prop :=
  (args = #[.agg #[.int .i64 5, .int .i64 1, .int .i64 0, .float .f32 3212836864, .int .i64 0, .int .i64 0, .slice none 0 0], .pointer (some ⟨tb, 0, none⟩)] → ∃ ad' cap', v = .int .i64 n ∧ TN w4 w2 ad' (n + 1) cap' (ops ++ [opW 5 1 0 3212836864]) (xRow 30 tb [.slice ad' (n + 1 : Nat) cap'] :: E)) ∧
  (args = #[.agg #[.int .i64 1, .int .i64 p, .int .i64 n, .float .f32 0, .int .i64 0, .int .i64 0, .slice none 0 0], .pointer (some ⟨tb, 0, none⟩)] → ∃ ad' cap', v = .int .i64 ((n + 1 : Nat) : Int) ∧ TN w4 w2 ad' (n + 2) cap' (ops ++ [opW 5 1 0 3212836864] ++ [opW 1 p n 0]) (xRow 30 tb [.slice ad' (n + 2 : Nat) cap'] :: E))
set_option maxHeartbeats 16000000 in
set_option maxRecDepth 100000 in
theorem impl_modelTape (w : World) (ma : Option Addr) (mk : Nat) (ls : List LayD) (xr xc yr yc : Int) (xa ya : Option Addr) (xk yk : Nat) (xs ys : List Nat) (hls : SeeR layR w ma mk ls) (hx : F32s w xa xk xs) (hy : F32s w ya yk ys) :
    Calls Try.prog 37 #[.agg #[.slice ma ls.length mk], .agg #[.int .i64 xr, .int .i64 xc, .slice xa xs.length xk], .agg #[.int .i64 yr, .int .i64 yc, .slice ya ys.length yk]] w (ModNil (modelP (ls.map fun l => l.toLayP.can) ⟨xr, xc, xs.map (cn .f32)⟩ ⟨yr, yc, ys.map (cn .f32)⟩ (shareE ys.length)) w) := by
  obtain ⟨i0, hi0, hz0, hzs, hz2⟩ := info_parts info_op
  obtain ⟨j0, hj0, jz0, jzs, jz2⟩ := info_parts info_i64
  by_cases hA : (modB (ls.map LayD.toLayP) && (tenB xr xc xs.length && (tenB yr yc ys.length && decide (xr = yr)))) = true
  rotate_left
  · exact impl_modelTape_noA w ma mk ls xr xc yr yc xa ya xk yk xs ys hls hx hy (by simpa using hA)
  by_cases hB : (decide (xc = (layAt (ls.map LayD.toLayP) 0).i) && decide (yc = (layAt (ls.map LayD.toLayP) (ls.length - 1)).o)) = true
  rotate_left
  · exact impl_modelTape_noB w ma mk ls xr xc yr yc xa ya xk yk xs ys hls hx hy hA (by simpa using hB)
  obtain ⟨R, hR⟩ : ∃ R, R = modelP (ls.map fun l => l.toLayP.can) ⟨xr, xc, xs.map (cn .f32)⟩ ⟨yr, yc, ys.map (cn .f32)⟩ (shareE ys.length) := ⟨_, rfl⟩
  rw [← hR]
  have HR := Lib.hid hR
  have HG := Lib.hid (goodM_eq ls xr xc yr yc xs ys)
  clear hR
  have b3 := below3 w (.cells #[.slice ma ls.length mk] 36) (.cells #[.int .i64 xr, .int .i64 xc, .slice xa xs.length xk] 38) (.cells #[.int .i64 yr, .int .i64 yc, .slice ya ys.length yk] 38)
  have BM := Lib.hid ((BoxN.alloc w #[.slice ma ls.length mk] 36).below (below2 _ (.cells #[.int .i64 xr, .int .i64 xc, .slice xa xs.length xk] 38) (.cells #[.int .i64 yr, .int .i64 yc, .slice ya ys.length yk] 38)))
  have BX := Lib.hid ((BoxN.alloc2 w (.cells #[.slice ma ls.length mk] 36) #[.int .i64 xr, .int .i64 xc, .slice xa xs.length xk] 38).below (below1 _ (.cells #[.int .i64 yr, .int .i64 yc, .slice ya ys.length yk] 38)))
  have BY := Lib.hid (BoxN.alloc3 w (.cells #[.slice ma ls.length mk] 36) (.cells #[.int .i64 xr, .int .i64 xc, .slice xa xs.length xk] 38) #[.int .i64 yr, .int .i64 yc, .slice ya ys.length yk] 38)
  have B3 := Lib.hid b3
  clear b3
  obtain ⟨n, hN⟩ : ∃ n, n = xs.length := ⟨_, rfl⟩
  obtain ⟨m, hM⟩ : ∃ m, m = ys.length := ⟨_, rfl⟩
  obtain ⟨L, hL⟩ : ∃ L, L = ls.length := ⟨_, rfl⟩
  rw [← hN, ← hM, ← hL] at BM BX BY B3 HG
  rw [← hN, ← hM, ← hL]
  have HN := Lib.hid hN; have HM := Lib.hid hM; have HL := Lib.hid hL
  have hnm := Nat.le_trans hx.len hx.cap
  have hmm := Nat.le_trans hy.len hy.cap
  rw [← hN] at hnm
  rw [← hM] at hmm
  obtain ⟨w3, hw3⟩ : ∃ W, W = ((w.alloc (.cells #[.slice ma L mk] 36)).alloc (.cells #[.int .i64 xr, .int .i64 xc, .slice xa n xk] 38)).alloc (.cells #[.int .i64 yr, .int .i64 yc, .slice ya m yk] 38) := ⟨_, rfl⟩
  rw [← hw3] at BM BX BY B3
  have HW3 := Lib.hid hw3
  have HLS := Lib.hid (hls.below B3.out); have HX := Lib.hid (hx.below B3.out); have HY := Lib.hid (hy.below B3.out)
  have CW : Hid (∀ W, Below w3.heap.size w3 W → W.cell? ⟨w.heap.size, 0, none⟩ = some (.slice ma L mk) ∧ (W.cell? ⟨w.heap.size + 1, 0, none⟩ = some (.int .i64 xr) ∧ W.cell? ⟨w.heap.size + 1, 1, none⟩ = some (.int .i64 xc) ∧ W.cell? ⟨w.heap.size + 1, 2, none⟩ = some (.slice xa n xk)) ∧ W.cell? ⟨w.heap.size + 2, 0, none⟩ = some (.int .i64 yr) ∧ W.cell? ⟨w.heap.size + 2, 1, none⟩ = some (.int .i64 yc) ∧ W.cell? ⟨w.heap.size + 2, 2, none⟩ = some (.slice ya m yk)) := Lib.hid (fun W hb => by
    obtain ⟨-, m0, -⟩ := (BM.out.below hb).one1
    obtain ⟨-, x0, x1, x2, -⟩ := (BX.out.below hb).three
    obtain ⟨-, y0, y1, y2, -⟩ := (BY.out.below hb).three
    exact ⟨m0, ⟨x0, x1, x2⟩, y0, y1, y2⟩)
  have KM := Lib.hid (fun W (hb : Below w3.heap.size w3 W) => impl_ValidModel W ma mk ls (HLS.out.below hb))
  rw [← HL.out] at KM
  have KX := Lib.hid (fun W => impl_ValidTensor xr xc xa n xk hnm W)
  have KY := Lib.hid (fun W => impl_ValidTensor yr yc ya m yk hmm W)
  clear hls hx hy hN hM hL hnm hmm hw3 BM BX BY
  rw [← HN.out, ← HM.out] at hA
  rw [← HL.out] at hB
  simp only [Bool.and_eq_true, decide_eq_true_eq] at hA
  obtain ⟨e1, e2, e3, e4⟩ := hA
  rw [e1] at KM
  rw [e2] at KX
  rw [e3] at KY
  subst e4
  have hln := modB_len e1
  rw [List.length_map, ← HL.out] at hln
  obtain ⟨l0, hl0⟩ := getElem?_lt (show 0 < ls.length by rw [← HL.out]; omega)
  obtain ⟨q, hq⟩ : ∃ q, q = L - 1 := ⟨_, rfl⟩
  obtain ⟨lq, hlq⟩ := getElem?_lt (show q < ls.length by rw [← HL.out]; omega)
  have a0 : (layAt (ls.map LayD.toLayP) 0).i = l0.i := by rw [layAt_some (l := l0.toLayP) (by rw [List.getElem?_map, hl0]; rfl)]
  have aq : (layAt (ls.map LayD.toLayP) (L - 1)).o = lq.o := by rw [← hq, layAt_some (l := lq.toLayP) (by rw [List.getElem?_map, hlq]; rfl)]
  rw [a0, aq] at HG hB
  have KI := Lib.hid (fun W (hb : Below w3.heap.size w3 W) => impl_in W ma mk ls (HLS.out.below hb) L HL.out l0 hl0)
  have KO := Lib.hid (fun W (hb : Below w3.heap.size w3 W) => impl_out W ma mk ls (HLS.out.below hb) L q HL.out hln.2 (by omega) lq hlq)
  obtain ⟨li, hli⟩ : ∃ x, x = l0.i := ⟨_, rfl⟩
  obtain ⟨lo, hlo⟩ : ∃ x, x = lq.o := ⟨_, rfl⟩
  rw [← hli] at KI HG hB
  rw [← hlo] at KO HG hB
  have HLN := Lib.hid hln; have HQ := Lib.hid hq
  clear a0 aq hl0 hlq hli hlo hln hq
  simp only [Bool.and_eq_true, decide_eq_true_eq] at hB
  obtain ⟨e5, e6⟩ := hB
  subst e5
  subst e6
  have HRS : Hid (R = (stM (ls.map fun l => l.toLayP.can) ⟨xr, xc, xs.map (cn .f32)⟩ ⟨xr, yc, ys.map (cn .f32)⟩ L).map fun s => (finM s (shareE m), s.ws)) := Lib.hid (by rw [HR.out]; unfold modelP; rw [if_pos (by rw [HG.out, e1, e2, e3]; simp), List.length_map, ← HL.out, ← HM.out])
  have HMB := Lib.hid e1
  have HXT := Lib.hid (tenB_iff.1 e2); have HYT := Lib.hid (tenB_iff.1 e3)
  clear e1 HR HG
  have PACK := Lib.hid (And.intro (And.intro HRS.out (And.intro HMB.out (And.intro HXT.out HYT.out))) (And.intro (And.intro HX.out (And.intro HY.out (And.intro HN.out (And.intro HM.out HL.out)))) (And.intro (And.intro HLS.out (And.intro B3.out (And.intro HLN.out HQ.out))) (And.intro (And.intro hi0 (And.intro hz0 (And.intro hzs hz2))) (And.intro hj0 (And.intro jz0 (And.intro jzs jz2)))))))
  clear HRS HMB HXT HYT HX HY HN HM HL HLS HLN HQ hi0 hz0 hzs hz2 hj0 jz0 jzs jz2
  go_enter Try.func37, Try.ntmps37
  go_upto_region 1 with fail
  rw [← HW3.out]
  refine wp_region_low (VI true xc yc) (by kernel_rfl) (by kernel_rfl) ?_
  iterate 1 (first | (refine cset_skip (low_self _) (by rfl) (fun K hK => ?_); go_simp; refine hK _ ?_; clear hK K) | (refine cset_yes (low_self _) (by rfl) (fun K hK W hW => ?_); obtain ⟨m0, ⟨x0, x1, x2⟩, y0, y1, y2⟩ := CW.out W hW; go_simp; refine hK _ ?_; clear hK K m0 x0 x1 x2 y0 y1 y2))
  refine cset_yes (low_self _) (by rfl) (fun K hK W hW => ?_)
  go_simp
  refine ⟨(KM.out W hW).mono ?_, ?_⟩
  · rintro e w' ⟨rfl, hb⟩
    exact ⟨_, rfl, bthen hW hb, VI.m true xc yc _⟩
  rintro v hv
  obtain rfl := hv.1 rfl
  refine hK _ ?_
  clear hK K hv
  iterate 3 (first | (refine cset_skip (low_self _) (by rfl) (fun K hK => ?_); go_simp; refine hK _ ?_; clear hK K) | (refine cset_yes (low_self _) (by rfl) (fun K hK W hW => ?_); obtain ⟨m0, ⟨x0, x1, x2⟩, y0, y1, y2⟩ := CW.out W hW; go_simp; refine hK _ ?_; clear hK K m0 x0 x1 x2 y0 y1 y2))
  refine cset_yes (low_self _) (by rfl) (fun K hK W hW => ?_)
  go_simp
  refine ⟨(KX.out W).mono ?_, ?_⟩
  · rintro e w' ⟨rfl, hb⟩
    exact ⟨_, rfl, bthen hW hb, VI.t true xc yc _ _ _ _ _ e2⟩
  rintro v hv
  obtain rfl := (hv.2.1 rfl _ _ _ _ _ rfl).trans (by rw [e2])
  refine hK _ ?_
  clear hK K hv
  iterate 4 (first | (refine cset_skip (low_self _) (by rfl) (fun K hK => ?_); go_simp; refine hK _ ?_; clear hK K) | (refine cset_yes (low_self _) (by rfl) (fun K hK W hW => ?_); obtain ⟨m0, ⟨x0, x1, x2⟩, y0, y1, y2⟩ := CW.out W hW; go_simp; refine hK _ ?_; clear hK K m0 x0 x1 x2 y0 y1 y2))
  refine cset_yes (low_self _) (by rfl) (fun K hK W hW => ?_)
  go_simp
  refine ⟨(KY.out W).mono ?_, ?_⟩
  · rintro e w' ⟨rfl, hb⟩
    exact ⟨_, rfl, bthen hW hb, VI.t true xc yc _ _ _ _ _ e3⟩
  rintro v hv
  obtain rfl := (hv.2.1 rfl _ _ _ _ _ rfl).trans (by rw [e3])
  refine hK _ ?_
  clear hK K hv
  iterate 13 (first | (refine cset_skip (low_self _) (by rfl) (fun K hK => ?_); go_simp; refine hK _ ?_; clear hK K) | (refine cset_yes (low_self _) (by rfl) (fun K hK W hW => ?_); obtain ⟨m0, ⟨x0, x1, x2⟩, y0, y1, y2⟩ := CW.out W hW; go_simp; refine hK _ ?_; clear hK K m0 x0 x1 x2 y0 y1 y2))
  refine cset_yes (low_self _) (by rfl) (fun K hK W hW => ?_)
  go_simp
  refine ⟨(KI.out W hW).mono ?_, ?_⟩
  · rintro e w' ⟨rfl, hb⟩
    exact ⟨_, rfl, bthen hW hb, VI.i true xc yc _⟩
  rintro v hv
  obtain rfl := hv.2.2.1 rfl
  refine hK _ ?_
  clear hK K hv
  iterate 6 (first | (refine cset_skip (low_self _) (by rfl) (fun K hK => ?_); go_simp; refine hK _ ?_; clear hK K) | (refine cset_yes (low_self _) (by rfl) (fun K hK W hW => ?_); obtain ⟨m0, ⟨x0, x1, x2⟩, y0, y1, y2⟩ := CW.out W hW; go_simp; refine hK _ ?_; clear hK K m0 x0 x1 x2 y0 y1 y2))
  refine cset_yes (low_self _) (by rfl) (fun K hK W hW => ?_)
  go_simp
  refine ⟨(KO.out W hW).mono ?_, ?_⟩
  · rintro e w' ⟨rfl, hb⟩
    exact ⟨_, rfl, bthen hW hb, VI.o true xc yc _⟩
  rintro v hv
  obtain rfl := hv.2.2.2 rfl
  refine hK _ ?_
  clear hK K hv
  iterate 2 (first | (refine cset_skip (low_self _) (by rfl) (fun K hK => ?_); go_simp; refine hK _ ?_; clear hK K) | (refine cset_yes (low_self _) (by rfl) (fun K hK W hW => ?_); obtain ⟨m0, ⟨x0, x1, x2⟩, y0, y1, y2⟩ := CW.out W hW; go_simp; refine hK _ ?_; clear hK K m0 x0 x1 x2 y0 y1 y2))
  refine cset_nil ?_
  intro w4 hw4
  have HB4 := Lib.hid (Below.mono hw4 (Nat.le_refl _))
  have HB5 := Lib.hid (bthen B3.out hw4)
  clear hw4
  clear e2 e3 KM KX KY KI KO HW3 B3
  obtain ⟨⟨h1, h2, h3, h4⟩, ⟨h5, h6, h7, h8, h9⟩, ⟨h10, h11, h12, h13⟩, ⟨hi0, hz0, hzs, hz2⟩, hj0, jz0, jzs, jz2⟩ := PACK.out
  have HRS := Lib.hid h1; have HMB := Lib.hid h2; have HXT := Lib.hid h3; have HYT := Lib.hid h4; have HX := Lib.hid h5; have HY := Lib.hid h6; have HN := Lib.hid h7; have HM := Lib.hid h8; have HL := Lib.hid h9; have HLS := Lib.hid h10; have B3 := Lib.hid h11; have HLN := Lib.hid h12; have HQ := Lib.hid h13
  clear h1 h2 h3 h4 h5 h6 h7 h8 h9 h10 h11 h12 h13 PACK
  have WFI : Hid (∀ x : Int, 0 ≤ x → x ≤ 1000000 → (Lit.int .i64 x).wf = true) := Lib.hid (fun x h0 h1 => by obtain ⟨y, rfl⟩ : ∃ y : Nat, x = y := ⟨x.toNat, by omega⟩; exact wf_nat (by omega))
  obtain ⟨⟨xr1, xr2⟩, ⟨xc1, xc2⟩, xl⟩ := HXT.out
  obtain ⟨-, ⟨yc1, yc2⟩, yl⟩ := HYT.out
  have hn1 : 1 ≤ n ∧ n ≤ 256 := by
    obtain ⟨r, rfl⟩ : ∃ r : Nat, xr = r := ⟨xr.toNat, by omega⟩
    obtain ⟨c, rfl⟩ : ∃ c : Nat, xc = c := ⟨xc.toNat, by omega⟩
    have h : n = r * c := by exact_mod_cast xl
    rw [h]
    exact ⟨Nat.mul_pos (by omega) (by omega), Nat.mul_le_mul (show r ≤ 16 by omega) (show c ≤ 16 by omega)⟩
  have hm1 : 1 ≤ m ∧ m ≤ 256 := by
    obtain ⟨r, rfl⟩ : ∃ r : Nat, xr = r := ⟨xr.toNat, by omega⟩
    obtain ⟨c, rfl⟩ : ∃ c : Nat, yc = c := ⟨yc.toNat, by omega⟩
    have h : m = r * c := by exact_mod_cast yl
    rw [h]
    exact ⟨Nat.mul_pos (by omega) (by omega), Nat.mul_le_mul (show r ≤ 16 by omega) (show c ≤ 16 by omega)⟩
  have hn1' := hn1.1; have hn2' := hn1.2; have hm1' := hm1.1; have hm2' := hm1.2; have hL6 := HLN.out.2
  clear xl yl hn1 hm1
  have h0 := (((TN.start0 w4).alloc #[.slice (some ⟨w4.heap.size, 0, none⟩) 0 0] 30).allocI).alloc #[.func (.func 53) #[] #[.pointer (some ⟨w4.heap.size + 1, 0, none⟩)]] 85
  have z1 : (w4.alloc (.cells #[] 68)).heap.size = w4.heap.size + 1 := by simp
  have z2 : ((w4.alloc (.cells #[] 68)).alloc (.cells #[.slice (some ⟨w4.heap.size, 0, none⟩) 0 0] 30)).heap.size = w4.heap.size + 2 := by simp
  have z3 : (((w4.alloc (.cells #[] 68)).alloc (.cells #[.slice (some ⟨w4.heap.size, 0, none⟩) 0 0] 30)).alloc (.cells #[] 2)).heap.size = w4.heap.size + 3 := by simp
  rw [z1, z2, z3] at h0
  have HT0 := Lib.hid (h0.perm (List.perm_append_comm (l₁ := [_, _]) (l₂ := [_])))
  clear h0 z1 z2 z3
  obtain ⟨m0, ⟨x0, x1, x2⟩, y0, y1, y2⟩ := CW.out w4 HB4.out
  go_upto_region 7 with fail
  clear m0 x0 x1 x2 y0 y1 y2
  generalize (((w4.alloc (.cells #[] 68)).alloc (.cells #[.slice (some ⟨w4.heap.size, 0, none⟩) 0 0] 30)).alloc (.cells #[] 2)).alloc (.cells #[.func (.func 53) #[] #[.pointer (some ⟨w4.heap.size + 1, 0, none⟩)]] 85) = W0 at HT0 ⊢
  have HTZ : Hid (TN w4 W0 (some ⟨w4.heap.size, 0, none⟩) 0 0 [] [xRow 30 (w4.heap.size + 1) [.slice (some ⟨w4.heap.size, 0, none⟩) 0 0], xRow 85 (w4.heap.size + 3) [.func (.func 53) #[] #[.pointer (some ⟨w4.heap.size + 1, 0, none⟩)]], intRow (some ⟨w4.heap.size + 2, 0, none⟩) 0 []]) := HT0
  clear HT0
  generalize w4.heap.size + 3 = fb at HTZ ⊢
  generalize w4.heap.size + 2 = ib at HTZ ⊢
  generalize w4.heap.size + 1 = tb at HTZ ⊢
  generalize w4.heap.size = ob at HTZ ⊢
  obtain ⟨m0, ⟨x0, x1, x2⟩, y0, y1, y2⟩ := CW.out W0 (bthen HB4.out HTZ.out.below)
  obtain ⟨-, f0, -⟩ := (HTZ.out.box (t := 85) (g := fb) (cs := [.func (.func 53) #[] #[.pointer (some ⟨tb, 0, none⟩)]]) (List.mem_cons_of_mem _ (List.mem_cons_self ..))).one1
  have KC := Lib.hid (impl_inputN HTZ.out (List.mem_cons_self ..) (Below.refl _ _) xr xc xa xk n xs (HX.out.below (bthen HB4.out HTZ.out.below)) HN.out.symm hn1' (by omega) (WFI.out _ (by omega) (by omega)) (WFI.out _ (by omega) (by omega)) (by omega))
  go_wp2_with fail
  refine KC.out.mono ?_
  rintro e W1 ⟨ad1, cap1, rfl, hx⟩
  clear m0 x0 x1 x2 y0 y1 y2 f0
  have HT1 : Hid (TN w4 W1 ad1 1 cap1 _ _) := Lib.hid hx.out
  clear hx KC HTZ
  go_upto_region 8 with fail
  obtain ⟨m0, ⟨x0, x1, x2⟩, y0, y1, y2⟩ := CW.out W1 (bthen HB4.out HT1.out.below)
  obtain ⟨-, f0, -⟩ := (HT1.out.box (t := 85) (g := fb) (cs := [.func (.func 53) #[] #[.pointer (some ⟨tb, 0, none⟩)]]) (List.mem_cons_of_mem _ (List.mem_cons_self ..))).one1
  have KC := Lib.hid (impl_inputN HT1.out (List.mem_cons_self ..) (Below.refl _ _) xr yc ya yk m ys (HY.out.below (bthen HB4.out HT1.out.below)) HM.out.symm hm1' (by omega) (WFI.out _ (by omega) (by omega)) (WFI.out _ (by omega) (by omega)) (by omega))
  go_wp2_with fail
  refine KC.out.mono ?_
  rintro e W2 ⟨ad2, cap2, rfl, hx⟩
  clear m0 x0 x1 x2 y0 y1 y2 f0
  have HT2 : Hid (TN w4 W2 ad2 2 cap2 _ _) := Lib.hid hx.out
  clear hx KC HT1
  go_upto_region 9 with fail
  clear HX HY xr1 xr2 yc1 yc2 hn1' hn2'
  obtain ⟨PP, hPP⟩ : ∃ P, P = ls.map fun l => l.toLayP.can := ⟨_, rfl⟩
  obtain ⟨XX, hXX⟩ : ∃ X : TenP, X = ⟨xr, xc, xs.map (cn .f32)⟩ := ⟨_, rfl⟩
  obtain ⟨YY, hYY⟩ : ∃ Y : TenP, Y = ⟨xr, yc, ys.map (cn .f32)⟩ := ⟨_, rfl⟩
  have HS0 : Hid (stM PP XX YY 0 = some ⟨[opIn xr xc (xs.map (cn .f32))] ++ [opIn xr yc (ys.map (cn .f32))], [], 0⟩) := Lib.hid (by rw [hXX, hYY]; rfl)
  rw [← hPP, ← hXX, ← hYY] at HRS
  have HPP := Lib.hid hPP
  clear hPP hXX hYY
  obtain ⟨l0', hl0'⟩ := getElem?_lt (show 0 < ls.length by rw [← HL.out]; exact HLN.out.1)
  obtain ⟨lb, loff, hma, -, -, -, -⟩ := lay_spot HLS.out hl0'
  subst hma
  clear hl0' l0'
  obtain ⟨m0, ⟨x0, x1, x2⟩, y0, y1, y2⟩ := CW.out W2 (bthen HB4.out HT2.out.below)
  go_wp2
  clear m0 x0 x1 x2 y0 y1 y2
  go_loopw [10, 13, 68] (fun wv pv iv wr => ∃ k n cap wk : Nat, ∃ ad wa : Option Addr, ∃ s : MS, iv = .int .i64 k ∧ wv = .slice wa s.ws.length wk ∧ pv = .int .i64 s.p ∧ k ≤ L ∧ (2 ≤ n ∧ n ≤ 2 + 5 * k ∧ 0 ≤ s.p ∧ s.p < n) ∧ Hid (stM PP XX YY k = some s ∧ s.ops.length = n ∧ (∀ x ∈ s.ws, (Lit.int .i64 x).wf = true)) ∧ s.ws.length ≤ 2 * k ∧ Hid (TN w4 wr ad n cap s.ops [xRow 30 tb [.slice ad n cap], xRow 85 fb [.func (.func 53) #[] #[.pointer (some ⟨tb, 0, none⟩)]], intRow wa wk s.ws])) (fun _ _ iv _ => L - (intOf iv).toNat)
  case atStart => exact ⟨0, 2, cap2, 0, ad2, _, _, rfl, rfl, rfl, Nat.zero_le _, ⟨by omega, by omega, Int.le_refl 0, (show (0 : Int) < 2 by decide)⟩, Lib.hid ⟨HS0.out, rfl, fun x hx => nomatch hx⟩, Nat.zero_le _, HT2⟩
  case round =>
    clear HT2 HS0
    obtain ⟨k, n, cap, wk, ad, wa, ⟨ops, ws, p⟩, rfl, rfl, rfl, hk, ⟨hn2, hn5, hp0, hpn⟩, HS, hwl, HT⟩ := hrel
    simp only at hp0 hpn hwl
    by_cases hlt : k < L
    · obtain ⟨l, hl⟩ := getElem?_lt (show k < ls.length by rw [← HL.out]; exact hlt)
      obtain ⟨b', off', he', hbl, ⟨p0, p1, p2, p3, p4⟩, -, hok⟩ := lay_spot (HLS.out.below (bthen HB4.out HT.out.below)) hl
      obtain ⟨-, -, -, -, -, hf, -⟩ := lay_spot HLS.out hl
      cases he'
      have hlay : layB l.toLayP = true := modB_lay HMB.out (k := k) (by rw [List.getElem?_map, hl]; rfl)
      have hst : stM PP XX YY (k + 1) = stepL ⟨ops, ws, p⟩ l.toLayP.can := stM_next HS.out.1 (by rw [HPP.out, List.getElem?_map, hl]; rfl)
      have hbd := layB_iff hlay
      have hcl := cnt_le hlay
      obtain ⟨⟨lk, li2, lo2, lws, lbs⟩, wa2, wk2, ba2, bk2⟩ := l
      simp only at p0 p1 p2 p3 p4 hf hbd hcl
      obtain ⟨lm, hlm⟩ : ∃ x, x = lws.length := ⟨_, rfl⟩
      obtain ⟨bm, hbm⟩ : ∃ x, x = lbs.length := ⟨_, rfl⟩
      rw [← hlm] at p3 hbd hcl
      rw [← hbm] at p4 hbd hcl
      have HST := Lib.hid hst; have HBD := Lib.hid hbd; have HLM := Lib.hid hlm; have HBM := Lib.hid hbm; have HF := Lib.hid hf
      have hcl1 := hcl.1; have hcl2 := hcl.2
      clear hl hok hlay hst hbd hcl hf hlm hbm
      go_upto_region 12 with fail
      have HTA : Hid (TN w4 (wr.alloc (.cells #[.int .i64 lk, .int .i64 li2, .int .i64 lo2, .slice wa2 lm wk2, .slice ba2 bm bk2] 79)) ad n cap ops [xRow 30 tb [.slice ad n cap], xRow 79 wr.heap.size [.int .i64 lk, .int .i64 li2, .int .i64 lo2, .slice wa2 lm wk2, .slice ba2 bm bk2], xRow 85 fb [.func (.func 53) #[] #[.pointer (some ⟨tb, 0, none⟩)]], intRow wa wk ws]) := Lib.hid ((HT.out.alloc #[.int .i64 lk, .int .i64 li2, .int .i64 lo2, .slice wa2 lm wk2, .slice ba2 bm bk2] 79).perm (List.Perm.swap _ _ _))
      have HFA : Hid (∀ W, Below w4.heap.size w4 W → F32s W wa2 wk2 lws ∧ F32s W ba2 bk2 lbs) := Lib.hid (fun W hb => ⟨HF.out.1.below (bthen HB4.out hb), HF.out.2.below (bthen HB4.out hb)⟩)
      clear HT p0 p1 p2 p3 p4 hbl HF
      generalize wr.alloc (.cells #[.int .i64 lk, .int .i64 li2, .int .i64 lo2, .slice wa2 lm wk2, .slice ba2 bm bk2] 79) = W1 at HTA ⊢
      generalize wr.heap.size = gb at HTA ⊢
      obtain ⟨-, l0, l1, l2, l3, l4, -⟩ := (HTA.out.box (t := 79) (g := gb) (cs := [.int .i64 lk, .int .i64 li2, .int .i64 lo2, .slice wa2 lm wk2, .slice ba2 bm bk2]) (List.mem_cons_of_mem _ (List.mem_cons_self ..))).five
      by_cases hk0 : lk = 0
      · have f0 : (lk == 0) = true := by simp [hk0]
        have hbw : (lm : Int) = lo2 * li2 ∧ (bm : Int) = lo2 := by have h9 := HBD.out.2.2.2.2; rw [hk0] at h9; exact h9
        have HK0 := Lib.hid hk0
        clear hk0
        have hib := HBD.out.2.1; have hob := HBD.out.2.2.1
        have hlm1 : 1 ≤ lm := by
          have h9 : 0 < lo2 * li2 := Int.mul_pos (by omega) (by omega)
          omega
        have hbm1 : 1 ≤ bm := by omega
        have HBW := Lib.hid hbw
        clear hbw
        go_upto_region 15 with fail
        clear l0 l1 l2 l3 l4
        obtain ⟨-, f0, -⟩ := (HTA.out.box (t := 85) (g := fb) (cs := [.func (.func 53) #[] #[.pointer (some ⟨tb, 0, none⟩)]]) (List.mem_cons_of_mem _ (List.mem_cons_of_mem _ (List.mem_cons_self ..)))).one1
        obtain ⟨-, l0, l1, l2, l3, l4, -⟩ := (HTA.out.box (t := 79) (g := gb) (cs := [.int .i64 lk, .int .i64 li2, .int .i64 lo2, .slice wa2 lm wk2, .slice ba2 bm bk2]) (List.mem_cons_of_mem _ (List.mem_cons_self ..))).five
        have KC := Lib.hid (impl_inputN HTA.out (List.mem_cons_of_mem _ (List.mem_cons_self ..)) (Below.refl _ _) lo2 li2 wa2 wk2 lm lws (HFA.out _ HTA.out.below).1 HLM.out.symm hlm1 (by omega) (WFI.out _ (by omega) (by omega)) (WFI.out _ (by omega) (by omega)) (by omega))
        go_wp2_with fail
        refine KC.out.mono ?_
        rintro e V1 ⟨ad1, cap1, rfl, hx⟩
        clear f0 l0 l1 l2 l3 l4
        have HTB : Hid (TN w4 V1 ad1 (n + 1) cap1 _ _) := Lib.hid hx.out
        clear hx KC HTA
        go_upto_region 16 with fail
        obtain ⟨-, f0, -⟩ := (HTB.out.box (t := 85) (g := fb) (cs := [.func (.func 53) #[] #[.pointer (some ⟨tb, 0, none⟩)]]) (List.mem_cons_of_mem _ (List.mem_cons_of_mem _ (List.mem_cons_self ..)))).one1
        obtain ⟨-, l0, l1, l2, l3, l4, -⟩ := (HTB.out.box (t := 79) (g := gb) (cs := [.int .i64 lk, .int .i64 li2, .int .i64 lo2, .slice wa2 lm wk2, .slice ba2 bm bk2]) (List.mem_cons_of_mem _ (List.mem_cons_self ..))).five
        have hrf := (HFA.out _ HTB.out.below).2
        have KR := Lib.hid (impl_rowTensor V1 ba2 bk2 bm lbs hrf (by intro e; obtain ⟨b, o, e2, _, _⟩ := hrf.spot (k := 0) (by rw [← HBM.out]; exact hbm1); rw [e] at e2; cases e2) HBM.out.symm (by omega))
        clear hrf
        go_wp2_with fail
        refine KR.out.mono ?_
        rintro e V20 ⟨a5, k5, zs, rfl, hz, hzm, hb5⟩
        clear f0 l0 l1 l2 l3 l4
        have HTBm := Lib.hid (HTB.out.move hb5)
        have HZ := Lib.hid hz.out; have HZM := Lib.hid hzm.out
        clear hz hzm hb5 KR
        obtain ⟨-, f0, -⟩ := (HTBm.out.box (t := 85) (g := fb) (cs := [.func (.func 53) #[] #[.pointer (some ⟨tb, 0, none⟩)]]) (List.mem_cons_of_mem _ (List.mem_cons_of_mem _ (List.mem_cons_self ..)))).one1
        obtain ⟨-, l0, l1, l2, l3, l4, -⟩ := (HTBm.out.box (t := 79) (g := gb) (cs := [.int .i64 lk, .int .i64 li2, .int .i64 lo2, .slice wa2 lm wk2, .slice ba2 bm bk2]) (List.mem_cons_of_mem _ (List.mem_cons_self ..))).five
        have KC := Lib.hid (impl_inputN HTBm.out (List.mem_cons_of_mem _ (List.mem_cons_self ..)) (Below.refl _ _) 1 ((bm : Nat) : Int) a5 k5 bm zs HZ.out.arg HZ.out.len hbm1 (by omega) rfl (WFI.out _ (by omega) (by omega)) (by omega))
        go_wp2_with fail
        refine KC.out.mono ?_
        rintro e V2 ⟨ad2, cap2, rfl, hx⟩
        clear f0 l0 l1 l2 l3 l4
        have HTC : Hid (TN w4 V2 ad2 (n + 2) cap2 (_ ++ [opIn 1 lo2 (lbs.map (cn .f32))]) _) := Lib.hid (by have h := hx.out; rw [HZM.out, HBW.out.2] at h; exact h)
        clear hx KC HTB HTBm HZ HZM
        go_upto_region 17 with fail
        have HTP := Lib.hid (HTC.out.perm (List.perm_append_comm (l₁ := [_, _, _]) (l₂ := [_])))
        obtain ⟨hrow, hpush⟩ := HTP.out.goIs
        have HROW := Lib.hid hrow; have HPUSH := Lib.hid hpush; have HBASE := Lib.hid HTP.out.below.size
        clear hrow hpush
        go_wp2_with (at_builtin; refine wp_appM rfl _ _ 31 rfl w4.heap.size j0 (.int .i64 0) 1 8 2 Try.underlying31 hj0 jz0 jzs jz2 rfl (by decide) rfl (by intro u hu; simp at hu; rcases hu with rfl | rfl <;> rfl) _ _ _ rfl HROW.out (by go_simp) ?c3 ?c4 ?c5 ?_)
        case c3 => unfold maxLen; omega
        case c4 => omega
        case c5 => exact HBASE.out
        intro v' V3 ho9 hg9 hat9
        obtain ⟨wa3, wk3, rfl, hx⟩ := HPUSH.out [(n : Int), ((n : Int) + 1 : Int)] _ _ _ ho9 hg9 hat9
        obtain ⟨ws1, hws⟩ : ∃ x, x = ws ++ [(n : Int), ((n : Int) + 1 : Int)] := ⟨_, rfl⟩
        rw [← hws] at hx ⊢
        have HW1 := Lib.hid hws
        have hwl1 : ws1.length ≤ 2 * k + 2 := by rw [hws, List.length_append]; simp; omega
        have HTD := Lib.hid (hx.perm (List.perm_append_comm (l₁ := [_]) (l₂ := [_, _, _])))
        clear ho9 hg9 hat9 hx hws HROW HPUSH HBASE HTP HTC
        go_upto_region 18 with fail
        obtain ⟨-, f0, -⟩ := (HTD.out.box (t := 85) (g := fb) (cs := [.func (.func 53) #[] #[.pointer (some ⟨tb, 0, none⟩)]]) (List.mem_cons_of_mem _ (List.mem_cons_of_mem _ (List.mem_cons_self ..)))).one1
        have KC := Lib.hid (impl_addV HTD.out (Below.refl _ _) 7 (n : Int) 0 0 (opV_ok rfl (WFI.out _ (by omega) (by omega)) rfl (by decide)) (by omega))
        rw [cn_zero] at KC
        go_wp2_with fail
        refine KC.out.mono ?_
        rintro e V4 ⟨ad4, cap4, rfl, hx⟩
        clear f0
        have HTE : Hid (TN w4 V4 ad4 (n + 3) cap4 _ _) := Lib.hid hx.out
        clear hx KC HTD
        go_upto_region 19 with fail
        obtain ⟨-, f0, -⟩ := (HTE.out.box (t := 85) (g := fb) (cs := [.func (.func 53) #[] #[.pointer (some ⟨tb, 0, none⟩)]]) (List.mem_cons_of_mem _ (List.mem_cons_of_mem _ (List.mem_cons_self ..)))).one1
        have KC := Lib.hid (impl_addV HTE.out (Below.refl _ _) 6 p ((n + 2 : Nat) : Int) 0 (opV_ok rfl (WFI.out _ (by omega) (by omega)) (WFI.out _ (by omega) (by omega)) (by decide)) (by omega))
        rw [cn_zero] at KC
        go_wp2_with fail
        refine KC.out.mono ?_
        rintro e V5 ⟨ad5, cap5, rfl, hx⟩
        clear f0
        have HTF : Hid (TN w4 V5 ad5 (n + 4) cap5 _ _) := Lib.hid hx.out
        clear hx KC HTE
        go_upto_region 20 with fail
        obtain ⟨-, f0, -⟩ := (HTF.out.box (t := 85) (g := fb) (cs := [.func (.func 53) #[] #[.pointer (some ⟨tb, 0, none⟩)]]) (List.mem_cons_of_mem _ (List.mem_cons_of_mem _ (List.mem_cons_self ..)))).one1
        have KC := Lib.hid (impl_addV HTF.out (Below.refl _ _) 2 ((n + 3 : Nat) : Int) ((n + 1 : Nat) : Int) 0 (opV_ok rfl (WFI.out _ (by omega) (by omega)) (WFI.out _ (by omega) (by omega)) (by decide)) (by omega))
        rw [cn_zero] at KC
        go_wp2_with fail
        refine KC.out.mono ?_
        rintro e V6 ⟨ad6, cap6, rfl, hx⟩
        clear f0
        have HTG : Hid (TN w4 V6 ad6 (n + 5) cap6 _ _) := Lib.hid hx.out
        clear hx KC HTF
        have HT9 : Hid (TN w4 _ ad6 (n + 5) cap6 (denseM ⟨ops, ws, p⟩ ⟨lk, li2, lo2, lws.map (cn .f32), lbs.map (cn .f32)⟩ n).ops [xRow 30 tb [.slice ad6 (n + 5) cap6], xRow 85 fb [.func (.func 53) #[] #[.pointer (some ⟨tb, 0, none⟩)]], intRow wa3 wk3 ws1]) := Lib.hid ((HTG.out.sub (List.Sublist.cons_cons _ (List.sublist_cons_self _ _))))
        have HS9 : Hid (stM PP XX YY (k + 1) = some ⟨(denseM ⟨ops, ws, p⟩ ⟨lk, li2, lo2, lws.map (cn .f32), lbs.map (cn .f32)⟩ n).ops, ws1, ((n : Int) + 4)⟩ ∧ (denseM ⟨ops, ws, p⟩ ⟨lk, li2, lo2, lws.map (cn .f32), lbs.map (cn .f32)⟩ n).ops.length = (n + 5) ∧ (∀ x ∈ ws1, (Lit.int .i64 x).wf = true)) := Lib.hid (by
          refine ⟨?_, ?_, ?_⟩
          · rw [HST.out]
            unfold stepL
            rw [if_pos (show (LayP.can ⟨lk, li2, lo2, lws, lbs⟩).k = 0 from HK0.out), HS.out.2.1]
            rw [HW1.out]
            simp [denseM, reluM, scaleM, LayP.can]
          · have h9 := HS.out.2.1
            simp [denseM, reluM, scaleM, h9]
          · intro x hx
            have h9 := HS.out.2.2
            rw [HW1.out] at hx
            try simp only [List.mem_append, List.mem_cons, List.not_mem_nil, or_false] at hx
            first
              | exact h9 x hx
              | (rcases hx with hx | rfl | rfl
                 · exact h9 x hx
                 · exact WFI.out _ (by omega) (by omega)
                 · exact WFI.out _ (by omega) (by omega))
              | (rcases hx with hx | rfl
                 · exact h9 x hx
                 · exact WFI.out _ (by omega) (by omega)))
        clear HTG HS HST
        go_wp2
        refine ⟨?rel, ?measure⟩
        case rel => exact ⟨k + 1, (n + 5), cap6, wk3, ad6, wa3, ⟨(denseM ⟨ops, ws, p⟩ ⟨lk, li2, lo2, lws.map (cn .f32), lbs.map (cn .f32)⟩ n).ops, ws1, ((n : Int) + 4)⟩, by go_num, rfl, (by first | rfl | (congr 1; omega) | (go_num)), hlt, ⟨by omega, by omega, by simp only; omega, by simp only; omega⟩, HS9, by simp only; omega, HT9⟩
        case measure => simp [intOf]; omega
      have f0 : (lk == 0) = false := by simpa using hk0
      by_cases hk1 : lk = 1
      · have f1 : (lk == 1) = true := by simp [hk1]
        have HK1 := Lib.hid hk1
        clear hk1 hk0
        go_upto_region 22 with fail
        clear l0 l1 l2 l3 l4
        obtain ⟨-, f0, -⟩ := (HTA.out.box (t := 85) (g := fb) (cs := [.func (.func 53) #[] #[.pointer (some ⟨tb, 0, none⟩)]]) (List.mem_cons_of_mem _ (List.mem_cons_of_mem _ (List.mem_cons_self ..)))).one1
        have KC := Lib.hid (impl_addV HTA.out (Below.refl _ _) 8 p 0 0 (opV_ok rfl (WFI.out _ (by omega) (by omega)) rfl (by decide)) (by omega))
        rw [cn_zero] at KC
        go_wp2_with fail
        refine KC.out.mono ?_
        rintro e V6 ⟨ad6, cap6, rfl, hx⟩
        clear f0
        have HTG : Hid (TN w4 V6 ad6 (n + 1) cap6 _ _) := Lib.hid hx.out
        clear hx KC HTA
        have HT9 : Hid (TN w4 _ ad6 (n + 1) cap6 (reluM ⟨ops, ws, p⟩ n).ops [xRow 30 tb [.slice ad6 (n + 1) cap6], xRow 85 fb [.func (.func 53) #[] #[.pointer (some ⟨tb, 0, none⟩)]], intRow wa wk ws]) := Lib.hid ((HTG.out.sub (List.Sublist.cons_cons _ (List.sublist_cons_self _ _))))
        have HS9 : Hid (stM PP XX YY (k + 1) = some ⟨(reluM ⟨ops, ws, p⟩ n).ops, ws, (n : Int)⟩ ∧ (reluM ⟨ops, ws, p⟩ n).ops.length = (n + 1) ∧ (∀ x ∈ ws, (Lit.int .i64 x).wf = true)) := Lib.hid (by
          refine ⟨?_, ?_, ?_⟩
          · rw [HST.out]
            unfold stepL
            rw [if_neg (show ¬ (LayP.can ⟨lk, li2, lo2, lws, lbs⟩).k = 0 from by have h := HK1.out; show ¬ lk = 0; omega), if_pos (show (LayP.can ⟨lk, li2, lo2, lws, lbs⟩).k = 1 from HK1.out), HS.out.2.1]
            skip
            simp [denseM, reluM, scaleM, LayP.can]
          · have h9 := HS.out.2.1
            simp [denseM, reluM, scaleM, h9]
          · intro x hx
            have h9 := HS.out.2.2
            skip
            try simp only [List.mem_append, List.mem_cons, List.not_mem_nil, or_false] at hx
            first
              | exact h9 x hx
              | (rcases hx with hx | rfl | rfl
                 · exact h9 x hx
                 · exact WFI.out _ (by omega) (by omega)
                 · exact WFI.out _ (by omega) (by omega))
              | (rcases hx with hx | rfl
                 · exact h9 x hx
                 · exact WFI.out _ (by omega) (by omega)))
        clear HTG HS HST
        go_wp2
        refine ⟨?rel, ?measure⟩
        case rel => exact ⟨k + 1, (n + 1), cap6, wk, ad6, wa, ⟨(reluM ⟨ops, ws, p⟩ n).ops, ws, (n : Int)⟩, by go_num, rfl, (by first | rfl | (congr 1; omega) | (go_num)), hlt, ⟨by omega, by omega, by simp only; omega, by simp only; omega⟩, HS9, by simp only; omega, HT9⟩
        case measure => simp [intOf]; omega
      have f1 : (lk == 1) = false := by simpa using hk1
      by_cases hk2 : lk = 2
      · have f2 : (lk == 2) = true := by simp [hk2]
        have hbw : (lm : Int) = li2 := by have h9 := HBD.out.2.2.2.2.1; rw [hk2] at h9; exact h9
        have HK2 := Lib.hid hk2
        clear hk2 hk1 hk0
        have hib := HBD.out.2.1
        have hlm1 : 1 ≤ lm := by omega
        have HBW := Lib.hid hbw
        clear hbw
        go_upto_region 24 with fail
        clear l0 l1 l2 l3 l4
        obtain ⟨-, f0, -⟩ := (HTA.out.box (t := 85) (g := fb) (cs := [.func (.func 53) #[] #[.pointer (some ⟨tb, 0, none⟩)]]) (List.mem_cons_of_mem _ (List.mem_cons_of_mem _ (List.mem_cons_self ..)))).one1
        obtain ⟨-, l0, l1, l2, l3, l4, -⟩ := (HTA.out.box (t := 79) (g := gb) (cs := [.int .i64 lk, .int .i64 li2, .int .i64 lo2, .slice wa2 lm wk2, .slice ba2 bm bk2]) (List.mem_cons_of_mem _ (List.mem_cons_self ..))).five
        have hrf := (HFA.out _ HTA.out.below).1
        have KR := Lib.hid (impl_rowTensor W1 wa2 wk2 lm lws hrf (by intro e; obtain ⟨b, o, e2, _, _⟩ := hrf.spot (k := 0) (by rw [← HLM.out]; exact hlm1); rw [e] at e2; cases e2) HLM.out.symm (by omega))
        clear hrf
        go_wp2_with fail
        refine KR.out.mono ?_
        rintro e V20 ⟨a5, k5, zs, rfl, hz, hzm, hb5⟩
        clear f0 l0 l1 l2 l3 l4
        have HTAm := Lib.hid (HTA.out.move hb5)
        have HZ := Lib.hid hz.out; have HZM := Lib.hid hzm.out
        clear hz hzm hb5 KR
        obtain ⟨-, f0, -⟩ := (HTAm.out.box (t := 85) (g := fb) (cs := [.func (.func 53) #[] #[.pointer (some ⟨tb, 0, none⟩)]]) (List.mem_cons_of_mem _ (List.mem_cons_of_mem _ (List.mem_cons_self ..)))).one1
        obtain ⟨-, l0, l1, l2, l3, l4, -⟩ := (HTAm.out.box (t := 79) (g := gb) (cs := [.int .i64 lk, .int .i64 li2, .int .i64 lo2, .slice wa2 lm wk2, .slice ba2 bm bk2]) (List.mem_cons_of_mem _ (List.mem_cons_self ..))).five
        have KC := Lib.hid (impl_inputN HTAm.out (List.mem_cons_of_mem _ (List.mem_cons_self ..)) (Below.refl _ _) 1 ((lm : Nat) : Int) a5 k5 lm zs HZ.out.arg HZ.out.len hlm1 (by omega) rfl (WFI.out _ (by omega) (by omega)) (by omega))
        go_wp2_with fail
        refine KC.out.mono ?_
        rintro e V2 ⟨ad2, cap2, rfl, hx⟩
        clear f0 l0 l1 l2 l3 l4
        have HTB : Hid (TN w4 V2 ad2 (n + 1) cap2 (_ ++ [opIn 1 li2 (lws.map (cn .f32))]) _) := Lib.hid (by have h := hx.out; rw [HZM.out, HBW.out] at h; exact h)
        clear hx KC HTA HTAm HZ HZM
        go_upto_region 25 with fail
        have HTP := Lib.hid (HTB.out.perm (List.perm_append_comm (l₁ := [_, _, _]) (l₂ := [_])))
        obtain ⟨hrow, hpush⟩ := HTP.out.goIs
        have HROW := Lib.hid hrow; have HPUSH := Lib.hid hpush; have HBASE := Lib.hid HTP.out.below.size
        clear hrow hpush
        go_wp2_with (at_builtin; refine wp_appA rfl _ _ 31 rfl w4.heap.size j0 (.int .i64 0) 1 8 Try.underlying31 hj0 jz0 jzs jz2 rfl (by decide) rfl (by intro u hu; simp at hu; subst hu; rfl) _ _ _ rfl HROW.out (by go_simp) ?c3 ?c4 ?c5 ?_)
        case c3 => unfold maxLen; omega
        case c4 => omega
        case c5 => exact HBASE.out
        intro v' V3 ho9 hg9 hat9 hb9 hs9
        clear hb9 hs9
        obtain ⟨wa3, wk3, rfl, hx⟩ := HPUSH.out [(n : Int)] _ _ _ ho9 hg9 hat9
        obtain ⟨ws1, hws⟩ : ∃ x, x = ws ++ [(n : Int)] := ⟨_, rfl⟩
        rw [← hws] at hx ⊢
        have HW1 := Lib.hid hws
        have hwl1 : ws1.length ≤ 2 * k + 1 := by rw [hws, List.length_append]; simp; omega
        have HTC := Lib.hid (hx.perm (List.perm_append_comm (l₁ := [_]) (l₂ := [_, _, _])))
        clear ho9 hg9 hat9 hx hws HROW HPUSH HBASE HTP HTB
        go_upto_region 26 with fail
        obtain ⟨-, f0, -⟩ := (HTC.out.box (t := 85) (g := fb) (cs := [.func (.func 53) #[] #[.pointer (some ⟨tb, 0, none⟩)]]) (List.mem_cons_of_mem _ (List.mem_cons_of_mem _ (List.mem_cons_self ..)))).one1
        have KC := Lib.hid (impl_addV HTC.out (Below.refl _ _) 4 p (n : Int) 0 (opV_ok rfl (WFI.out _ (by omega) (by omega)) (WFI.out _ (by omega) (by omega)) (by decide)) (by omega))
        rw [cn_zero] at KC
        go_wp2_with fail
        refine KC.out.mono ?_
        rintro e V6 ⟨ad6, cap6, rfl, hx⟩
        clear f0
        have HTG : Hid (TN w4 V6 ad6 (n + 2) cap6 _ _) := Lib.hid hx.out
        clear hx KC HTC
        have HT9 : Hid (TN w4 _ ad6 (n + 2) cap6 (scaleM ⟨ops, ws, p⟩ ⟨lk, li2, lo2, lws.map (cn .f32), lbs.map (cn .f32)⟩ n).ops [xRow 30 tb [.slice ad6 (n + 2) cap6], xRow 85 fb [.func (.func 53) #[] #[.pointer (some ⟨tb, 0, none⟩)]], intRow wa3 wk3 ws1]) := Lib.hid ((HTG.out.sub (List.Sublist.cons_cons _ (List.sublist_cons_self _ _))))
        have HS9 : Hid (stM PP XX YY (k + 1) = some ⟨(scaleM ⟨ops, ws, p⟩ ⟨lk, li2, lo2, lws.map (cn .f32), lbs.map (cn .f32)⟩ n).ops, ws1, ((n : Int) + 1)⟩ ∧ (scaleM ⟨ops, ws, p⟩ ⟨lk, li2, lo2, lws.map (cn .f32), lbs.map (cn .f32)⟩ n).ops.length = (n + 2) ∧ (∀ x ∈ ws1, (Lit.int .i64 x).wf = true)) := Lib.hid (by
          refine ⟨?_, ?_, ?_⟩
          · rw [HST.out]
            unfold stepL
            rw [if_neg (show ¬ (LayP.can ⟨lk, li2, lo2, lws, lbs⟩).k = 0 from by have h := HK2.out; show ¬ lk = 0; omega), if_neg (show ¬ (LayP.can ⟨lk, li2, lo2, lws, lbs⟩).k = 1 from by have h := HK2.out; show ¬ lk = 1; omega), if_pos (show (LayP.can ⟨lk, li2, lo2, lws, lbs⟩).k = 2 from HK2.out), HS.out.2.1]
            rw [HW1.out]
            simp [denseM, reluM, scaleM, LayP.can]
          · have h9 := HS.out.2.1
            simp [denseM, reluM, scaleM, h9]
          · intro x hx
            have h9 := HS.out.2.2
            rw [HW1.out] at hx
            try simp only [List.mem_append, List.mem_cons, List.not_mem_nil, or_false] at hx
            first
              | exact h9 x hx
              | (rcases hx with hx | rfl | rfl
                 · exact h9 x hx
                 · exact WFI.out _ (by omega) (by omega)
                 · exact WFI.out _ (by omega) (by omega))
              | (rcases hx with hx | rfl
                 · exact h9 x hx
                 · exact WFI.out _ (by omega) (by omega)))
        clear HTG HS HST
        go_wp2
        refine ⟨?rel, ?measure⟩
        case rel => exact ⟨k + 1, (n + 2), cap6, wk3, ad6, wa3, ⟨(scaleM ⟨ops, ws, p⟩ ⟨lk, li2, lo2, lws.map (cn .f32), lbs.map (cn .f32)⟩ n).ops, ws1, ((n : Int) + 1)⟩, by go_num, rfl, (by first | rfl | (congr 1; omega) | (go_num)), hlt, ⟨by omega, by omega, by simp only; omega, by simp only; omega⟩, HS9, by simp only; omega, HT9⟩
        case measure => simp [intOf]; omega
      have f2 : (lk == 2) = false := by simpa using hk2
      have HRN : Hid (R = none) := Lib.hid (by
        rw [HRS.out, stM_none (k := k + 1) (by
          rw [HST.out]
          unfold stepL
          rw [if_neg (show ¬ (LayP.can ⟨lk, li2, lo2, lws, lbs⟩).k = 0 from hk0), if_neg (show ¬ (LayP.can ⟨lk, li2, lo2, lws, lbs⟩).k = 1 from hk1), if_neg (show ¬ (LayP.can ⟨lk, li2, lo2, lws, lbs⟩).k = 2 from hk2)]) (show k + 1 ≤ L from hlt)]
        rfl)
      have HBL := Lib.hid (bthen HB5.out HTA.out.below)
      clear hk0 hk1 hk2 HTA HS HST HRS
      go_wp2
      go_ret3
      exact ⟨_, _, _, _, _, _, false, rfl, Lib.hid ⟨by rw [HRN.out]; rfl, fun h => (by cases h), fun _ => ⟨⟨rfl, rfl, rfl⟩, rfl, rfl, rfl⟩⟩, HBL.out⟩
    · have hkL : k = L := by omega
      subst hkL
      have HRS2 : Hid (R = some (finN ⟨ops, ws, p⟩ (shareE m) n, ws)) := Lib.hid (by
        rw [HRS.out, HS.out.1]
        show some (finN ⟨ops, ws, p⟩ (shareE m) (ops.length : Int), ws) = _
        rw [HS.out.2.1])
      have HWF := Lib.hid HS.out.2.2
      have HPB := Lib.hid (And.intro hp0 hpn)
      go_upto_region 28 with fail
      clear HRS HS HPP HLS
      have KS : Hid (∀ W ad n cap C, TN w4 W ad n cap C [xRow 30 tb [.slice ad n cap], xRow 85 fb [.func (.func 53) #[] #[.pointer (some ⟨tb, 0, none⟩)]], intRow wa wk ws] → (fun W => W.cell? ⟨fb, 0, none⟩ = some (.func (.func 53) #[] #[.pointer (some ⟨tb, 0, none⟩)])) W) := Lib.hid (fun W ad n cap C h => (h.box (t := 85) (g := fb) (cs := [.func (.func 53) #[] #[.pointer (some ⟨tb, 0, none⟩)]]) (List.mem_cons_of_mem _ (List.mem_cons_self ..))).one1.2.1)
      have S0 := Lib.hid (KS.out _ _ _ _ _ HT.out)
      refine wp_region_mix 8 [5, 7] (fun W => W.cell? ⟨fb, 0, none⟩ = some (.func (.func 53) #[] #[.pointer (some ⟨tb, 0, none⟩)])) (fun _ _ _ => False) (DAdd w4 tb n p ops [xRow 85 fb [.func (.func 53) #[] #[.pointer (some ⟨tb, 0, none⟩)]], intRow wa wk ws]) (by kernel_rfl) (by kernel_rfl) S0.out (fun W q h => by simpa using h) ?_
      iterate 5 (refine mwalk_plain (by rfl) S0.out (fun K hK W hW => ?_); have e0 := hW; go_simp; refine hK _ ?_; clear hK K e0 hW)
      refine mwalk_spec (by rfl) S0.out (fun K hK q0 => ?_)
      have KC := Lib.hid (impl_addV HT.out (below_drewN (Below.refl wr.heap.size wr) q0) 5 1 0 3212836864 (opV_ok rfl rfl rfl (by decide)) (by omega))
      rw [show cn .f32 3212836864 = 3212836864 by decide +kernel] at KC
      go_simp
      refine ⟨KC.out.mono (fun e w5 hh => by
        obtain ⟨ad', cap', he, ht⟩ := hh
        exact ⟨_, he, ⟨fun _ => ⟨ad', cap', rfl, ht.out⟩, fun e => by cases e⟩⟩), ?_⟩
      rintro v w5 hd
      obtain ⟨ad5, cap5, rfl, ht5⟩ := hd.1 rfl
      have HT5 := Lib.hid ht5
      have S5 := Lib.hid (KS.out _ _ _ _ _ ht5)
      refine ⟨S5.out, hK _ _ ?_⟩
      clear hK K hd ht5 KC S0
      iterate 1 (refine mwalk_plain (by rfl) S5.out (fun K hK W hW => ?_); have e0 := hW; go_simp; refine hK _ ?_; clear hK K e0 hW)
      refine mwalk_spec (by rfl) S5.out (fun K hK q1 => ?_)
      have KC := Lib.hid (impl_addV HT5.out (below_drewN (Below.refl w5.heap.size w5) q1) 1 p (n : Int) 0 (opV_ok rfl (WFI.out _ (by omega) (by omega)) (WFI.out _ (by omega) (by omega)) (by decide)) (by omega))
      rw [cn_zero] at KC
      go_simp
      refine ⟨KC.out.mono (fun e w6 hh => by
        obtain ⟨ad', cap', he, ht⟩ := hh
        exact ⟨_, he, ⟨fun e => (by cases e), fun _ => ⟨ad', cap', rfl, ht.out⟩⟩⟩), ?_⟩
      rintro v w6 hd
      obtain ⟨ad6, cap6, rfl, ht6⟩ := hd.2 rfl
      have HT6 := Lib.hid ht6
      have S6 := Lib.hid (KS.out _ _ _ _ _ ht6)
      refine ⟨S6.out, hK _ _ ?_⟩
      clear hK K hd ht6 KC S5 HT5
      refine mwalk_nil (fun q9 => ?_)
      have HTA : Hid (TN w4 (w6.drewN q9) ad6 (n + 2) cap6 (ops ++ [opW 5 1 0 3212836864] ++ [opW 1 p n 0]) [xRow 30 tb [.slice ad6 (n + 2 : Nat) cap6], xRow 85 fb [.func (.func 53) #[] #[.pointer (some ⟨tb, 0, none⟩)]], intRow wa wk ws]) := Lib.hid (HT6.out.move (below_drewN (Below.refl _ _) q9))
      clear S6 HT6 HT KS
      generalize w6.drewN q9 = W1 at HTA ⊢
      go_upto_region 29 with fail
      obtain ⟨-, f0, -⟩ := (HTA.out.box (t := 85) (g := fb) (cs := [.func (.func 53) #[] #[.pointer (some ⟨tb, 0, none⟩)]]) (List.mem_cons_of_mem _ (List.mem_cons_self ..))).one1
      have KC := Lib.hid (impl_addV HTA.out (Below.refl _ _) 9 ((n + 1 : Nat) : Int) 0 0 (opV_ok rfl (WFI.out _ (by omega) (by omega)) rfl (by decide)) (by omega))
      rw [cn_zero] at KC
      go_wp2_with fail
      refine KC.out.mono ?_
      rintro e W2 ⟨ad7, cap7, rfl, hx⟩
      clear f0
      have HTB : Hid (TN w4 W2 ad7 (n + 3) cap7 _ _) := Lib.hid hx.out
      clear hx KC HTA
      go_upto_region 30 with fail
      obtain ⟨-, f0, -⟩ := (HTB.out.box (t := 85) (g := fb) (cs := [.func (.func 53) #[] #[.pointer (some ⟨tb, 0, none⟩)]]) (List.mem_cons_of_mem _ (List.mem_cons_self ..))).one1
      have KC := Lib.hid (impl_addV HTB.out (Below.refl _ _) 10 ((n + 2 : Nat) : Int) 0 0 (opV_ok rfl (WFI.out _ (by omega) (by omega)) rfl (by decide)) (by omega))
      rw [cn_zero] at KC
      go_wp2_with fail
      refine KC.out.mono ?_
      rintro e W3 ⟨ad8, cap8, rfl, hx⟩
      clear f0
      have HTC : Hid (TN w4 W3 ad8 (n + 4) cap8 _ _) := Lib.hid hx.out
      clear hx KC HTB
      go_upto_region 31 with fail
      obtain ⟨m0, ⟨x0, x1, x2⟩, y0, y1, y2⟩ := CW.out W3 (bthen HB4.out HTC.out.below)
      obtain ⟨-, f0, -⟩ := (HTC.out.box (t := 85) (g := fb) (cs := [.func (.func 53) #[] #[.pointer (some ⟨tb, 0, none⟩)]]) (List.mem_cons_of_mem _ (List.mem_cons_self ..))).one1
      have KC := Lib.hid (fun z q (hz : z < 4294967296) => impl_addV HTC.out (below_drewN (Below.refl W3.heap.size W3) q) 5 ((n + 3 : Nat) : Int) 0 z (opV_ok rfl (WFI.out _ (by omega) (by omega)) rfl hz) (by omega))
      go_wp2_with fail
      refine (KC.out _ _ (fbits_lt _ .f32 _ _ _)).mono ?_
      rintro e W5 ⟨ad9, cap9, rfl, hx⟩
      clear m0 x0 x1 x2 y0 y1 y2 f0
      have HTD : Hid (TN w4 W5 ad9 (n + 5) cap9 (finN ⟨ops, ws, p⟩ (shareE m) n) [xRow 30 tb [.slice ad9 (n + 5 : Nat) cap9], xRow 85 fb [.func (.func 53) #[] #[.pointer (some ⟨tb, 0, none⟩)]], intRow wa wk ws]) := Lib.hid (by
        have h := hx.out
        rw [cn_fbits, cn_floatOfInt, show cn .f32 1065353216 = 1065353216 by decide +kernel] at h
        exact h)
      clear hx KC HTC
      obtain ⟨-, t0, -⟩ := (HTD.out.box (List.mem_cons_self ..)).one1
      have HT9 : Hid (TN w W5 ad9 (n + 5) cap9 (finN ⟨ops, ws, p⟩ (shareE m) n) [intRow wa wk ws]) := Lib.hid ((HTD.out.sub ((List.sublist_cons_self _ _).trans (List.sublist_cons_self _ _))).base HB5.out)
      clear HTD
      go_wp2
      go_ret3
      exact ⟨_, _, _, _, _, _, true, rfl, Lib.hid ⟨by rw [HRS2.out]; rfl, fun _ => ⟨_, ws, HRS2.out, rfl, HWF.out, HT9.out⟩, fun h => (by cases h)⟩, HT9.out.below⟩
end Go.Proofs.Ytfdgngnnncmfiaa
/- What comparing, marking rows of rows of integers does. No condition. -/
namespace Go.Proofs.Ytfdgngnnncmfiaa
open Go Go.RowKit
set_option linter.unusedVariables false
set_option linter.unusedSimpArgs false
end Go.Proofs.Ytfdgngnnncmfiaa
/- Bounds for the walks of laws over tapes. No condition. -/
namespace Go.Proofs.Ytfdgngnnncmfiaa
open Go Go.RowKit
set_option linter.unusedVariables false
set_option linter.unusedSimpArgs false
theorem left_bounds {os : List OpD} {L R : Int} (h : L = leftBy OpD.n os R) (h0 : 0 ≤ L) (h1 : R ≤ 1048576) : os.length ≤ 1048576 ∧ L ≤ 1048576 ∧ (∀ o ∈ os, o.xs.length ≤ 1048576) ∧ totO os ≤ 8000000 := by
  unfold leftBy at h
  split at h
  · rename_i hle
    have ht : totO os = 6 * os.length + sumBy OpD.n os os.length := by
      unfold totO sumBy
      rw [List.take_length]
      clear h hle h0 h1
      induction os with
      | nil => rfl
      | cons o os ih => rw [List.map_cons, List.sum_cons, ih, List.map_cons, List.sum_cons, List.length_cons]; unfold OpD.w OpD.n; omega
    refine ⟨by omega, by omega, fun o ho => ?_, by omega⟩
    have := sumBy_mem OpD.n ho
    unfold OpD.n at *
    omega
  · omega
theorem left_bound1 {n : Nat} {L R : Int} (h : L = if (n : Int) ≤ R then R - n else -1) (h0 : 0 ≤ L) (h1 : R ≤ 1048576) : n ≤ 1048576 ∧ L ≤ 1048576 := by
  split at h <;> omega
theorem tot_of {us os : List OpD} (h : us.map OpD.toOpP = os.map OpD.toOpP) : totO us = totO os := by
  have h1 : ∀ l : List OpD, totO l = ((l.map OpD.toOpP).map (fun p : OpP => 6 + p.xs.length)).sum := by
    intro l; unfold totO; rw [List.map_map]; rfl
  rw [h1, h1, h]
theorem lens_of {us os : List OpD} (h : us.map OpD.toOpP = os.map OpD.toOpP) (hb : ∀ o ∈ os, o.xs.length ≤ 1048576) : ∀ o ∈ us, o.xs.length ≤ 1048576 := by
  intro o ho
  have h1 : o.toOpP ∈ os.map OpD.toOpP := by rw [← h]; exact List.mem_map_of_mem ho
  obtain ⟨p, hp, e⟩ := List.mem_map.1 h1
  have := hb p hp
  rw [← e]; exact this
theorem can_of {us os : List OpD} (h : us.map OpD.toOpP = os.map OpD.toOpP) : us.map (fun o => o.toOpP.can) = os.map (fun o => o.toOpP.can) := by
  have h1 : ∀ l : List OpD, l.map (fun o => o.toOpP.can) = (l.map OpD.toOpP).map OpP.can := by intro l; rw [List.map_map]; rfl
  rw [h1, h1, h]
end Go.Proofs.Ytfdgngnnncmfiaa
/- A region whose operations before a call serve it alone, and whose operations behind it look at its results: one walk. No condition. -/
namespace Go.Proofs.Ytfdgngnnncmfiaa
open Go
set_option linter.unusedVariables false
section
variable {P : Program} {ops : Array Oper} {C : World → Prop} {VC : FuncId → Array Value → Value → Prop}
def chainQ (md : Region.Mode) (ops : Array Oper) (n : Nat) : Bool := (List.range ops.size).all fun t => decide (t ≤ n) || (List.range t).any fun t' => decide (n ≤ t') && waitsP md ops t t'
def afterC (md : Region.Mode) (ops : Array Oper) (g k : Nat) (listed : Array Bool) : Bool := decide (Region.ready md ops listed = [k]) && Region.lexFrom md ops g (k + 1) (listed.setIfInBounds k true)
def lexHeadC (md : Region.Mode) (ops : Array Oper) (g : Nat) : Nat → Nat → Array Bool → Bool
  | 0, k, listed => afterC md ops g k listed
  | f + 1, k, listed => (Region.ready md ops listed).contains k && Region.free md ops listed k && lexHeadC md ops g f (k + 1) (listed.setIfInBounds k true)
theorem afterC_ready {md : Region.Mode} {g k : Nat} {listed : Array Bool} (h : afterC md ops g k listed = true) : ∀ j ∈ Region.ready md ops listed, k ≤ j := by
  intro j hj
  simp only [afterC, Bool.and_eq_true, decide_eq_true_eq] at h
  rw [h.1] at hj
  simp at hj; omega
theorem late2 {md : Region.Mode} {p n : Nat} {listed : Array Bool} (hs : sinkP md ops p n = true) (hc : chainQ md ops n = true) (hn : n < ops.size) (inv : HInv md ops n listed) (hp : ∀ j, j < p → listed.getD j false = true) :
    ∀ (d i : Nat), n - i = d → i < n → listed.getD i true = false → ∀ t, n ≤ t → t ∉ Region.ready md ops listed := by
  intro d
  induction d using Nat.strongRecOn with
  | _ d ih =>
    intro i hd hi hun t ht hr
    have hip : ¬ i < p := fun h => by have := hp i h; rw [getD_two hun] at this; cases this
    have h1 := List.all_eq_true.1 hs i (List.mem_range.2 hi)
    simp only [Bool.or_eq_true, decide_eq_true_eq, hip, false_or, List.any_eq_true, List.mem_range, Bool.and_eq_true] at h1
    obtain ⟨k, hk, hik, hw⟩ := h1
    obtain ⟨ok, hok, e, he, hb, hon⟩ := waitsP_spec hw
    have hks : k < ops.size := (Array.getElem?_eq_some_iff.1 hok).1
    obtain ⟨hunt, ot, hot, hall⟩ := mem_ready.1 hr
    have htlt : t < ops.size := (Array.getElem?_eq_some_iff.1 hot).1
    by_cases hkn : k = n
    · subst hkn
      by_cases htk : t = k
      · subst htk
        obtain rfl : ok = ot := Option.some.inj (hok.symm.trans hot)
        have := hall e he hb
        rw [hon, getD_two hun] at this; cases this
      · have h2 := List.all_eq_true.1 hc t (List.mem_range.2 htlt)
        simp only [Bool.or_eq_true, decide_eq_true_eq] at h2
        rcases h2 with h2 | h2
        · omega
        · obtain ⟨t', ht', hq⟩ := List.any_eq_true.1 h2
          simp only [Bool.and_eq_true, decide_eq_true_eq] at hq
          have ht'' := List.mem_range.1 ht'
          obtain ⟨o', ho', e', he', hb', hon'⟩ := waitsP_spec hq.2
          obtain rfl : o' = ot := Option.some.inj (ho'.symm.trans hot)
          have := hall e' he' hb'
          rw [hon', getD_two (inv.tail t' (by omega) (by omega))] at this; cases this
    · have hkl : listed.getD k false = false := by
        cases hl : listed.getD k false with
        | false => rfl
        | true => have := inv.closed k ok hok hl e he hb; rw [hon, getD_two hun] at this; cases this
      exact ih (n - k) (by omega) k rfl (by omega) (getD_in2 (by rw [inv.size]; exact hks) hkl) t ht hr
theorem tset_first2 {md : Region.Mode} {p n : Nat} {L : Array Bool → Act → Prop} {w0 : World} (h0 : C w0) {i : Nat} {oi : Oper} (hi : ops[i]? = some oi) (hsel : ∀ (j : Nat) (o : Oper) cs b, ops[j]? = some o → o.op ≠ .select cs b)
    (hs : sinkP md ops p n = true) (hc : chainQ md ops n = true) (hn : n < ops.size) (hin : i < n) (hdone : ∀ listed a, L listed a → ∀ j ∈ Region.ready md ops listed, n ≤ j) :
    ∀ (fuel : Nat) (listed : Array Bool) (a : Act), HInv md ops n listed → (∀ j, j < p → listed.getD j false = true) →
      (∀ j oj, ops[j]? = some oj → j ≠ i → listed.getD j true = false → (∀ e ∈ oj.after, Region.binds md e = true → e.on ≠ i) → oi.apart ops oj = true) →
      i ∈ Region.ready md ops listed → Good P ops C VC oi a →
      (∀ v, Vals P ops C VC oi a v → TSet P md ops C VC n L fuel (listed.setIfInBounds i true) (a.put oi.dst v)) → TSet P md ops C VC n L (fuel + 1) listed a
  | 0, listed, a, inv, hp, _, hr, hg, H => by
    have hun := (mem_ready.1 hr).1
    refine ⟨fun e => (by rw [e] at hr; cases hr), fun j hj o ho => ?_⟩
    have hjn : j < n := by
      rcases Nat.lt_or_ge j n with h | h
      · exact h
      · exact absurd hj (late2 hs hc hn inv hp _ i rfl hin hun j h)
    by_cases hji : j = i
    · subst hji
      obtain rfl : oi = o := Option.some.inj (hi.symm.trans ho)
      exact ⟨hjn, hg, H⟩
    · exfalso
      obtain ⟨v, hv⟩ := some_val h0 hg
      have := hdone _ _ (H v hv) j (ready_mono hj hji)
      omega
  | fuel + 1, listed, a, inv, hp, hfree, hr, hg, H => by
    have huni := (mem_ready.1 hr).1
    refine ⟨fun e => (by rw [e] at hr; cases hr), fun j hj oj hoj => ?_⟩
    have hjn : j < n := by
      rcases Nat.lt_or_ge j n with h | h
      · exact h
      · exact absurd hj (late2 hs hc hn inv hp _ i rfl hin huni j h)
    by_cases hji : j = i
    · subst hji
      obtain rfl : oi = oj := Option.some.inj (hi.symm.trans hoj)
      exact ⟨hjn, hg, H⟩
    · have hun : listed.getD j true = false := (mem_ready.1 hj).1
      have hno : ∀ e ∈ oj.after, Region.binds md e = true → e.on ≠ i := by
        intro e he hb hon
        obtain ⟨_, o', ho', hall⟩ := mem_ready.1 hj
        obtain rfl : oj = o' := Option.some.inj (hoj.symm.trans ho')
        have h1 := hall e he hb
        rw [hon, getD_two huni] at h1; cases h1
      obtain ⟨x1, x2, x3⟩ := Oper.apart_spec (hfree j oj hoj hji hun hno)
      have si := fun cs b => hsel i oi cs b hi
      have sj := fun cs b => hsel j oj cs b hoj
      have gj : ∀ v, (Good P ops C VC oj (a.put oi.dst v) ↔ Good P ops C VC oj a) := fun v => good_put (execOp_put oj sj a oi.dst v x1) (wanted_put oj a oi.dst v x1)
      have vj : ∀ v u, (Vals P ops C VC oj (a.put oi.dst v) u ↔ Vals P ops C VC oj a u) := fun v u => vals_put (execOp_put oj sj a oi.dst v x1) (wanted_put oj a oi.dst v x1)
      have gi : ∀ u, (Good P ops C VC oi (a.put oj.dst u) ↔ Good P ops C VC oi a) := fun u => good_put (execOp_put oi si a oj.dst u x3) (wanted_put oi a oj.dst u x3)
      have vi : ∀ u v, (Vals P ops C VC oi (a.put oj.dst u) v ↔ Vals P ops C VC oi a v) := fun u v => vals_put (execOp_put oi si a oj.dst u x3) (wanted_put oi a oj.dst u x3)
      obtain ⟨v0, hv0⟩ := some_val h0 hg
      have hj' := ready_mono hj hji
      refine ⟨hjn, (gj v0).1 ((H v0 hv0).2 j hj' oj hoj).2.1, fun u hu => ?_⟩
      refine tset_first2 h0 hi hsel hs hc hn hin hdone fuel (listed.setIfInBounds j true) (a.put oj.dst u) (inv.set hj hjn) (fun q hq => getD_set_true (hp q hq)) ?_ (ready_mono hr (Ne.symm hji)) ((gi u).2 hg) fun v hv => ?_
      · intro k ok hk hki hun' hno'
        refine hfree k ok hk hki ?_ hno'
        by_cases hjk : j = k
        · subst hjk; exact hun
        · rw [getD_set_ne true hjk] at hun'; exact hun'
      · have := ((H v ((vi u v).1 hv)).2 j hj' oj hoj).2.2 u ((vj v u).2 hu)
        rw [Array.setIfInBounds_comm _ _ hji, ← Act.put_comm a v u x2]
        exact this
theorem tset_lex2 {md : Region.Mode} {p n g : Nat} {Lq : Act → Prop} {w0 : World} (h0 : C w0) (hsel : Region.noSelect ops = true) (hs : sinkP md ops p n = true) (hc : chainQ md ops n = true) (hn : n < ops.size) :
    ∀ (l : List Oper) (k : Nat) (listed : Array Bool) (a : Act), (∀ j, j < l.length → l[j]? = ops[k + j]?) → k + l.length = n → HInv md ops n listed → (∀ j, j < p → listed.getD j false = true) →
    lexHeadC md ops g l.length k listed = true → WSet P ops C VC Lq l a →
    TSet P md ops C VC n (fun listed' a' => afterC md ops g n listed' = true ∧ Lq a') l.length listed a
  | [], k, listed, a, _, hk, _, _, hB, h => by
    have : k = n := by simpa using hk
    subst this
    exact ⟨by simpa [lexHeadC] using hB, h⟩
  | o :: l, k, listed, a, hl, hk, inv, hp, hB, h => by
    have hk0 : ops[k]? = some o := by simpa using (hl 0 (by simp)).symm
    simp only [List.length_cons, lexHeadC, Bool.and_eq_true] at hB
    obtain ⟨⟨hr, hf⟩, hB'⟩ := hB
    have hkn : k < n := by simp only [List.length_cons] at hk; omega
    have hr' : k ∈ Region.ready md ops listed := by simpa using hr
    refine tset_first2 h0 hk0 (Region.noSelect_spec hsel) hs hc hn hkn (fun listed' a' hL => afterC_ready hL.1) l.length listed a inv hp (Region.free_spec hk0 hf) hr' h.1 fun v hv => ?_
    exact tset_lex2 h0 hsel hs hc hn l (k + 1) _ _ (fun j hj => by have := hl (j + 1) (by simp; omega); simpa [Nat.add_assoc, Nat.add_comm 1 j] using this) (by simp only [List.length_cons] at hk; omega) (inv.set hr' hkn) (fun q hq => getD_set_true (hp q hq)) hB' (h.2 v hv)

/-- what is asked of the call -/
@[go_sem] def EnterS (P : Program) (w : World) (K : FuncId → Array Value → Prop) : Result Next → Prop
  | .ok (.enter f args) w' => w' = w ∧ K f args
  | _ => False
def callB (ops : Array Oper) (n : Nat) : Bool :=
  Region.noSelect ops && decide (n < ops.size) && sinkP .any ops 0 n && chainQ .any ops n && lexHeadC .any ops (ops.size - n - 1) n 0 (Array.replicate ops.size false)
/-- **a region with a call, number 'n', that all before it serve and all behind it wait for** -/
theorem wp_region_call {id : Nat} {Q : Exit → Act → World → Prop} {a : Act} {w : World} {l : List Oper} (n : Nat) (VC : FuncId → Array Value → Value → Prop) (o : Oper) (ho : l[n]? = some o) (hgd : o.guard = none) (hm : P.follows .mixedOrders = true) (hB : callB l.toArray n = true)
    (h : WSet P l.toArray (Drawn w) VC (fun a' => ∀ w', Drawn w w' → EnterS P w' (fun f args => Calls P f args w' fun e w'' => ∃ v, e = .returned v ∧ WSet P l.toArray (Drawn w'') VC (fun a3 => ∀ w3, Drawn w'' w3 → Q .normal a3 w3) (l.drop (n + 1)) (a'.put o.dst v)) ((execOp a'.eval o).run P w')) (l.take n) a) :
    (Code.region id l.toArray true).wp P Q a w := by
  simp only [callB, Bool.and_eq_true, decide_eq_true_eq] at hB
  obtain ⟨⟨⟨⟨hsel, hn⟩, hs⟩, hc⟩, hlex⟩ := hB
  have hn' : n < l.length := by simpa using hn
  have htl : (l.take n).length = n := by simp; omega
  have hdl : (l.drop (n + 1)).length = l.toArray.size - n - 1 := by simp; omega
  have gf : ∀ i, (Array.replicate l.toArray.size false).getD i false = false := fun i => by
    simp only [Array.getD_eq_getD_getElem?, Array.getElem?_replicate]; split <;> rfl
  have inv0 : HInv .any l.toArray n (Array.replicate l.toArray.size false) :=
    ⟨by simp, fun j oj _ hl => (by rw [gf] at hl; cases hl), fun t _ ht => getD_in2 (by simpa using ht) (gf t)⟩
  have hd : Drawn w { w with drawn := w.drawn + 1 } := ⟨1, rfl⟩
  have H := tset_lex2 (VC := VC) (md := .any) (g := l.toArray.size - n - 1) hd hsel hs hc hn (l.take n) 0 _ a (fun j hj => by
    have hj' : j < n := by rw [htl] at hj; exact hj
    simp [hj']) (by simpa using htl) inv0 (fun j hj => by omega) (by rw [htl]; exact hlex) h
  refine wp_region_any hm ?_
  have := any_of_tset (Q' := Q) (g := (l.toArray.size - n - 1) + 1) (fun listed a' w' hw' hL => by
    obtain ⟨hL1, hL2⟩ := hL
    simp only [afterC, Bool.and_eq_true, decide_eq_true_eq] at hL1
    refine ⟨fun e => (by rw [hL1.1] at e; cases e), fun i hi => ?_⟩
    rw [hL1.1] at hi
    obtain rfl : i = n := by simpa using hi
    have ho' : l.toArray[i]? = some o := by simpa using ho
    have hE := hL2 w' hw'
    unfold wpOp
    simp only [ho']
    have hwant : Region.wanted o (yielded l.toArray a'.tmps) = true := by simp [Region.wanted, hgd]
    rw [if_pos hwant]
    left
    unfold Oper.wp
    unfold EnterS at hE
    split at hE
    · rename_i f args w1 he
      obtain ⟨rfl, hC⟩ := hE
      rw [he]
      refine hC.mono fun e w'' ⟨v, hev, hW⟩ => ?_
      subst hev
      have h1 := aset_lex (VC := VC) (md := .any) (C := Drawn w'') (w0 := w'') ⟨0, rfl⟩ hsel (l.drop (i + 1)) (i + 1) (listed.setIfInBounds i true) _ (fun j => by simp [List.getElem?_drop]) (by rw [hdl]; exact hL1.2) hW
      have h2 := any_of_aset (Q' := Q) (fun a3 w3 hw3 hq => hq w3 hw3) _ _ _ w'' ⟨0, rfl⟩ h1
      rwa [hdl] at h2
    · cases hE) _ _ _ _ hd H
  rw [htl, show n + ((l.toArray.size - n - 1) + 1) = l.toArray.size by omega] at this
  exact this
end
end Go.Proofs.Ytfdgngnnncmfiaa
/- Whether two tensors are alike: the program. No condition. -/
namespace Go.Proofs.Ytfdgngnnncmfiaa
open Go Go.RowKit
set_option linter.unusedVariables false
set_option linter.unusedSimpArgs false
/-- two tensors are valid and have as many rows and columns -/
def alikeB (r c : Int) (n : Nat) (r2 c2 : Int) (m : Nat) : Bool := tenB r c n && (tenB r2 c2 m && (decide (r = r2) && decide (c = c2)))
end Go.Proofs.Ytfdgngnnncmfiaa
/- Whether an operation is an input; whether two tensors are alike; an input is replaced: the program. No condition. -/
namespace Go.Proofs.Ytfdgngnnncmfiaa
open Go Go.RowKit
set_option linter.unusedVariables false
set_option linter.unusedSimpArgs false
/-- an operation of a valid tape is an input -/
def inpB (os : List OpP) (op : Int) : Bool := (shapesP os).isSome && (inB op 0 (os.length - 1) && (opAtP os op.toNat).k == 0)
theorem inpB_at {os : List OpP} {op : Int} (h : inpB os op = true) : ∃ S k o, shapesP os = some S ∧ op = (k : Nat) ∧ os[k]? = some o ∧ o.k = 0 ∧ tenB o.r o.c o.xs.length = true := by
  unfold inpB at h
  rw [Bool.and_eq_true, Bool.and_eq_true, inB_iff] at h
  obtain ⟨h1, ⟨h2, h3⟩, h4⟩ := h
  obtain ⟨S, hS⟩ := Option.isSome_iff_exists.1 h1
  obtain ⟨k, rfl⟩ : ∃ k : Nat, op = k := ⟨op.toNat, by omega⟩
  have hk : k < os.length := by omega
  have ho := List.getElem?_eq_getElem hk
  rw [show ((k : Nat) : Int).toNat = k by simp, opAtP_some ho] at h4
  have h5 : os[k].k = 0 := by simpa using h4
  exact ⟨S, k, os[k], hS, rfl, ho, h5, (fitsB_input (valid_fit hS ho) h5).2.2⟩
end Go.Proofs.Ytfdgngnnncmfiaa
/- An input is replaced: the program. No condition. -/
namespace Go.Proofs.Ytfdgngnnncmfiaa
open Go Go.RowKit
set_option linter.unusedVariables false
set_option linter.unusedSimpArgs false
/-- the tape in which an input has other numbers; none if there is no such input, or the numbers do not fit -/
def replP (os : List OpP) (op : Int) (r c : Int) (xs : List Nat) : Option (List OpP) :=
  if inpB os op = true ∧ alikeB (opAtP os op.toNat).r (opAtP os op.toNat).c (opAtP os op.toNat).xs.length r c xs.length = true then some (os.set op.toNat { opAtP os op.toNat with xs := xs }) else none
theorem replP_no1 {os : List OpP} {op r c : Int} {xs : List Nat} (h : inpB os op = false) : replP os op r c xs = none := by
  unfold replP; rw [if_neg (fun e => by rw [h] at e; exact absurd e.1 (by decide))]
theorem replP_no2 {os : List OpP} {k : Nat} {r c : Int} {xs : List Nat} {o : OpP} (ho : os[k]? = some o) (h : alikeB o.r o.c o.xs.length r c xs.length = false) : replP os (k : Nat) r c xs = none := by
  unfold replP
  rw [show ((k : Nat) : Int).toNat = k by simp, opAtP_some ho, if_neg (fun e => by rw [h] at e; exact absurd e.2 (by decide))]
theorem replP_yes {os : List OpP} {k : Nat} {r c : Int} {xs : List Nat} {o : OpP} (ho : os[k]? = some o) (h1 : inpB os (k : Nat) = true) (h : alikeB o.r o.c o.xs.length r c xs.length = true) : replP os (k : Nat) r c xs = some (os.set k { o with xs := xs }) := by
  unfold replP
  rw [show ((k : Nat) : Int).toNat = k by simp, opAtP_some ho, if_pos ⟨h1, h⟩]
theorem alikeB_in {r c : Int} {n : Nat} {r2 c2 : Int} {m : Nat} (h : alikeB r c n r2 c2 m = true) : r2 = r ∧ c2 = c ∧ m = n ∧ tenB r c n = true := by
  unfold alikeB at h
  rw [Bool.and_eq_true, Bool.and_eq_true, Bool.and_eq_true, decide_eq_true_eq, decide_eq_true_eq] at h
  obtain ⟨h1, h2, rfl, rfl⟩ := h
  have e1 := (tenB_iff.1 h1).2.2
  have e2 := (tenB_iff.1 h2).2.2
  exact ⟨rfl, rfl, by omega, h1⟩
/-- a tape that is given back, or nothing -/
def OOOut (res : Option (List OpP)) (w w' : World) (ad : Option Addr) (n cap : Nat) (b : Bool) (us : List OpD) : Prop := (b = res.isSome ∧ us.map OpD.toOpP = res.getD []) ∧ OwnR opR w' w.heap.size w'.heap.size ad n cap us
theorem OOOut.no {res : Option (List OpP)} (h : res = none) (w w' : World) : OOOut res w w' none 0 0 false [] := ⟨⟨by rw [h]; rfl, by rw [h]; rfl⟩, OwnR.nil _ _ _ _⟩
def OOPost (res : Option (List OpP)) (w : World) (e : Ending) (w' : World) : Prop := ∃ ad' n' cap' b us, e = .returned (.tuple #[.slice ad' n' cap', .bool b]) ∧ Hid (OOOut res w w' ad' n' cap' b us) ∧ Below w.heap.size w w'
end Go.Proofs.Ytfdgngnnncmfiaa
/- An input is replaced: the reference. No condition. -/
namespace Go.Proofs.Ytfdgngnnncmfiaa
open Go Go.RowKit
set_option linter.unusedVariables false
set_option linter.unusedSimpArgs false
end Go.Proofs.Ytfdgngnnncmfiaa
/- Tapes as results, for the walks of laws. No condition. -/
namespace Go.Proofs.Ytfdgngnnncmfiaa
open Go Go.RowKit
set_option linter.unusedVariables false
set_option linter.unusedSimpArgs false
/-- bounds of a tape that is a result -/
def bndO (n : Nat) (us : List OpD) : Prop := n ≤ 1048576 ∧ totO us ≤ 9000000 ∧ ∀ u ∈ us, u.xs.length ≤ 1048576
theorem OO_eq2 (w : World) {lo1 hi1 lo2 hi2 : Nat} {a1 a2 : Option Addr} {n1 n2 c1 c2 : Nat} {us vs : List OpD} (h1 : OwnR opR w lo1 hi1 a1 n1 c1 us) (h2 : OwnR opR w lo2 hi2 a2 n2 c2 vs) (he : us.map OpD.toOpP = vs.map OpD.toOpP) (hm : n1 ≤ 1048576 ∧ totO us ≤ 9000000 ∧ ∀ u ∈ us, u.xs.length ≤ 1048576) :
    Calls Try.prog 12 #[.slice a1 n1 c1, .slice a2 n2 c2] w fun e w' => e = .returned (.bool true) ∧ Below w.heap.size w w' := by
  have e1 := h1.len; have e2 := h2.len
  subst e1 e2
  exact OS_eq w h1.see h2.see (can_of he) hm.1 hm.2.2
theorem OO_mark2 (w : World) {lo hi : Nat} {ad : Option Addr} {n cap : Nat} {us : List OpD} (k0 : Nat) (h : OwnR opR w lo hi ad n cap us) (hhi : hi ≤ w.heap.size) (hm : n ≤ 1048576 ∧ totO us ≤ 9000000 ∧ ∀ u ∈ us, u.xs.length ≤ 1048576) (hk : k0 + totO us ≤ 10000000) :
    Calls Try.prog 18 #[.slice ad n cap, .int .i64 k0] w fun e w' => e = .returned (.int .i64 (k0 + totO us : Nat)) ∧ Hid (OwnR opR w' lo hi ad n cap (markOs k0 us)) ∧ Touch lo hi w w' :=
  OS_mark w k0 h hhi hm.1 hk hm.2.2
theorem OO_held2 (w : World) {lo hi : Nat} {ad : Option Addr} {n cap : Nat} {us : List OpD} (k0 : Nat) (h : OwnR opR w lo hi ad n cap (markOs k0 us)) (hm : n ≤ 1048576 ∧ totO us ≤ 9000000 ∧ ∀ u ∈ us, u.xs.length ≤ 1048576) (hk : k0 + totO us ≤ 10000000) :
    Calls Try.prog 20 #[.slice ad n cap, .int .i64 k0] w fun e w' => e = .returned (.int .i64 (k0 + totO us : Nat)) ∧ w = w' :=
  OS_held w k0 h.see (by rw [← markOs_length k0 us]; exact h.len) hm.1 hk hm.2.2
def lenP (p : OpP) : Nat := 6 + p.xs.length
theorem totO_lenP (us : List OpD) : totO us = ((us.map OpD.toOpP).map lenP).sum := by unfold totO; rw [List.map_map]; rfl
theorem set_id' {α : Type} {us : List α} {k : Nat} {a : α} (h : us[k]? = some a) : us.set k a = us := by
  obtain ⟨hk, rfl⟩ := List.getElem?_eq_some_iff.1 h
  exact List.set_getElem_self hk
theorem repl_bound {us l : List OpD} {op r c : Int} {xs : List Nat} (h : us.map OpD.toOpP = (replP (l.map OpD.toOpP) op r c xs).getD []) (h1 : l.length ≤ 1048576) (h2 : totO l ≤ 8000000) (h3 : ∀ o ∈ l, o.xs.length ≤ 1048576) : us.length ≤ 1048576 ∧ totO us ≤ 9000000 ∧ ∀ u ∈ us, u.xs.length ≤ 1048576 := by
  cases e : replP (l.map OpD.toOpP) op r c xs with
  | none =>
    rw [e] at h
    have h0 : us = [] := by simpa using h
    subst h0
    exact ⟨by decide, by decide, fun u hu => (nomatch hu)⟩
  | some P =>
    rw [e] at h
    have h0 : us.map OpD.toOpP = P := h
    have hP : P.map lenP = (l.map OpD.toOpP).map lenP := by
      unfold replP at e
      split at e
      · rename_i hc
        cases e
        obtain ⟨S, k, o, _, rfl, ho, _⟩ := inpB_at hc.1
        obtain ⟨_, _, hm, _⟩ := alikeB_in hc.2
        rw [show ((k : Nat) : Int).toNat = k by simp, opAtP_some ho] at hm ⊢
        rw [List.map_set]
        refine set_id' ?_
        rw [List.getElem?_map, ho]
        show some (lenP o) = some (lenP _)
        unfold lenP
        rw [hm]
      · cases e
    have hl : (us.map OpD.toOpP).map lenP = (l.map OpD.toOpP).map lenP := by rw [h0, hP]
    refine ⟨?_, by rw [totO_lenP, hl, ← totO_lenP]; omega, fun u hu => ?_⟩
    · have := congrArg List.length hl
      simp only [List.length_map] at this
      omega
    · have h4 : lenP u.toOpP ∈ (l.map OpD.toOpP).map lenP := by rw [← hl]; exact List.mem_map_of_mem (List.mem_map_of_mem hu)
      obtain ⟨p, hp, e5⟩ := List.mem_map.1 h4
      obtain ⟨o, ho, rfl⟩ := List.mem_map.1 hp
      have := h3 o ho
      unfold lenP at e5
      have e6 : u.toOpP.xs.length = u.xs.length := rfl
      have e7 : o.toOpP.xs.length = o.xs.length := rfl
      omega
end Go.Proofs.Ytfdgngnnncmfiaa
/- Copies of arguments behind a draw, for the walks of laws. No condition. -/
namespace Go.Proofs.Ytfdgngnnncmfiaa
open Go Go.RowKit
set_option linter.unusedVariables false
set_option linter.unusedSimpArgs false
theorem below_dr1 {w w' : World} (hb : Below w.drew.heap.size w.drew w') : Below w.heap.size w w' := bthen (Below.drew (Below.refl _ _)) hb
theorem T_toD (w : World) (r c : Int) (ad : Option Addr) (cap : Nat) (xs : List Nat) (h : F32s w ad cap xs) (hn : xs.length ≤ 1048576) :
    Calls Try.prog 10 #[.agg #[.int .i64 r, .int .i64 c, .slice ad xs.length cap]] w.drew fun e w' => ∃ ad' cap', e = .returned (.agg #[.int .i64 r, .int .i64 c, .slice ad' xs.length cap']) ∧ Hid (RepF w' w.heap.size w'.heap.size ad' xs.length cap' xs) ∧ Below w.heap.size w w' := by
  refine (T_to w.drew r c ad cap xs (h.below (Below.drew (Below.refl _ _))) hn).mono ?_
  rintro e w' ⟨a, c, h1, h3, h4⟩
  exact ⟨a, c, h1, h3, below_dr1 h4⟩
end Go.Proofs.Ytfdgngnnncmfiaa
/- The tape of a model: both functions, on copies of arguments. No condition. -/
namespace Go.Proofs.Ytfdgngnnncmfiaa
open Go Go.RowKit
set_option linter.unusedVariables false
set_option linter.unusedSimpArgs false
set_option maxHeartbeats 4000000 in
theorem impl_ModelTape (w : World) (ma : Option Addr) (mk : Nat) (ls : List LayD) (xr xc yr yc : Int) (xa ya : Option Addr) (xk yk : Nat) (xs ys : List Nat) (hls : SeeR layR w ma mk ls) (hx : F32s w xa xk xs) (hy : F32s w ya yk ys) :
    Calls Try.prog 11 #[.agg #[.slice ma ls.length mk], .agg #[.int .i64 xr, .int .i64 xc, .slice xa xs.length xk], .agg #[.int .i64 yr, .int .i64 yc, .slice ya ys.length yk]] w (ModNil (modelP (ls.map fun l => l.toLayP.can) ⟨xr, xc, xs.map (cn .f32)⟩ ⟨yr, yc, ys.map (cn .f32)⟩ (shareE ys.length)) w) := by
  have b3 := below3 w (.cells #[.slice ma ls.length mk] 36) (.cells #[.int .i64 xr, .int .i64 xc, .slice xa xs.length xk] 38) (.cells #[.int .i64 yr, .int .i64 yc, .slice ya ys.length yk] 38)
  have K := Lib.hid (impl_modelTape _ ma mk ls xr xc yr yc xa ya xk yk xs ys (hls.below b3) (hx.below b3) (hy.below b3))
  have B3 := Lib.hid b3
  obtain ⟨R, hR⟩ : ∃ R, R = modelP (ls.map fun l => l.toLayP.can) ⟨xr, xc, xs.map (cn .f32)⟩ ⟨yr, yc, ys.map (cn .f32)⟩ (shareE ys.length) := ⟨_, rfl⟩
  rw [← hR] at K ⊢
  clear hls hx hy b3 hR
  go_enter Try.func11, Try.ntmps11
  go_wp2_with fail
  refine K.out.mono ?_
  rintro e w6 ⟨ad, n, cap, wa, m, wk, b, rfl, HO, hb⟩
  have HB6 := Lib.hid (bthen B3.out hb)
  clear hb K
  go_wp2
  go_ret3
  refine ⟨_, _, _, _, _, _, b, rfl, Lib.hid ⟨HO.out.1, fun hb => ?_, HO.out.2.2⟩, HB6.out⟩
  obtain ⟨C, ws, h1, h2, h3, h4⟩ := HO.out.2.1 hb
  exact ⟨C, ws, h1, h2, h3, h4.base B3.out⟩
end Go.Proofs.Ytfdgngnnncmfiaa
/- A tape and the indices of its weights as results. No condition. -/
namespace Go.Proofs.Ytfdgngnnncmfiaa
open Go Go.RowKit
set_option linter.unusedVariables false
set_option linter.unusedSimpArgs false
/-- a tape and the indices beside it, in one range -/
structure PairX (w : World) (lo hi : Nat) (a1 : Option Addr) (n1 c1 : Nat) (a2 : Option Addr) (n2 c2 : Nat) (us : List OpD) (ws : List Int) : Prop where
  own : OwnX opR w lo hi a1 n1 c1 us [intRow a2 c2 ws]
  len : ws.length = n2
  lt : ∀ x ∈ ws, (Lit.int .i64 x).wf = true
section
variable {w w' : World} {lo hi n1 c1 n2 c2 : Nat} {a1 a2 : Option Addr} {us : List OpD} {ws : List Int}
theorem PairX.below (h : PairX w lo hi a1 n1 c1 a2 n2 c2 us ws) (hb : Below w.heap.size w w') : PairX w' lo hi a1 n1 c1 a2 n2 c2 us ws := ⟨h.own.below hb, h.len, h.lt⟩
theorem PairX.touch {lo2 hi2 : Nat} (h : PairX w lo hi a1 n1 c1 a2 n2 c2 us ws) (ht : Touch lo2 hi2 w w') (hd : hi ≤ lo2 ∨ hi2 ≤ lo) : PairX w' lo hi a1 n1 c1 a2 n2 c2 us ws := ⟨h.own.touch ht hd, h.len, h.lt⟩
theorem PairX.repI (h : PairX w lo hi a1 n1 c1 a2 n2 c2 us ws) : RepI w lo hi a2 n2 c2 ws := by
  have := h.own.own.repI (h.own.memE (List.mem_cons_self ..)) h.lt
  rw [h.len] at this; exact this
end
theorem PairX.nil (w : World) (lo hi : Nat) : PairX w lo hi none 0 0 none 0 0 [] [] := by
  refine ⟨⟨Own.voids w lo hi fun x hx => ?_, rfl, fun a ha => (nomatch ha)⟩, rfl, fun x hx => (nomatch hx)⟩
  rcases List.mem_cons.1 hx with rfl | hx
  · exact ⟨rfl, rfl, rfl, rfl⟩
  · rcases List.mem_singleton.1 hx with rfl
    exact ⟨rfl, rfl, rfl, rfl⟩
/-- the bounds of both -/
def bndP (n1 n2 : Nat) (us : List OpD) : Prop := n1 ≤ 1048576 ∧ totO us ≤ 4000000 ∧ (∀ u ∈ us, u.xs.length ≤ 1048576) ∧ n2 ≤ 1000
section
variable {lo1 hi1 lo2 hi2 n1 c1 n2 c2 m1 d1 m2 d2 : Nat} {a1 a2 b1 b2 : Option Addr} {us vs : List OpD} {ws zs : List Int}
theorem P_eqA (w : World) (h1 : PairX w lo1 hi1 a1 n1 c1 a2 n2 c2 us ws) (h2 : PairX w lo2 hi2 b1 m1 d1 b2 m2 d2 vs zs) (he : (us.map (fun o => o.toOpP.can), ws) = (vs.map (fun o => o.toOpP.can), zs)) (hm : bndP n1 n2 us) :
    Calls Try.prog 12 #[.slice a1 n1 c1, .slice b1 m1 d1] w fun e w' => e = .returned (.bool true) ∧ Below w.heap.size w w' := by
  have e1 := h1.own.len; have e2 := h2.own.len
  subst e1 e2
  exact OS_eq w h1.own.r.see h2.own.r.see (Prod.mk.inj he).1 hm.1 hm.2.2.1
theorem P_eqB (w : World) (h1 : PairX w lo1 hi1 a1 n1 c1 a2 n2 c2 us ws) (h2 : PairX w lo2 hi2 b1 m1 d1 b2 m2 d2 vs zs) (he : (us.map (fun o => o.toOpP.can), ws) = (vs.map (fun o => o.toOpP.can), zs)) (hm : bndP n1 n2 us) :
    Calls Try.prog 13 #[.slice a2 n2 c2, .slice b2 m2 d2] w fun e w' => e = .returned (.bool true) ∧ Below w.heap.size w w' :=
  I_eq w h1.repI h2.repI (Prod.mk.inj he).2 (Nat.le_trans hm.2.2.2 (by decide))
theorem P_markA (w : World) (k0 : Nat) (h : PairX w lo1 hi1 a1 n1 c1 a2 n2 c2 us ws) (hhi : hi1 ≤ w.heap.size) (hm : bndP n1 n2 us) (hk : k0 + totO us ≤ 10000000) :
    Calls Try.prog 18 #[.slice a1 n1 c1, .int .i64 k0] w fun e w' => e = .returned (.int .i64 (k0 + totO us : Nat)) ∧ Hid (PairX w' lo1 hi1 a1 n1 c1 a2 n2 c2 (markOs k0 us) ws) ∧ Touch lo1 hi1 w w' :=
  (OS_markX w k0 h.own hhi hm.1 hk hm.2.2.1).mono fun e w' ⟨h1, h2, h3⟩ => ⟨h1, Lib.hid ⟨h2.out, h.len, h.lt⟩, h3⟩
theorem P_markB (w : World) (k0 : Nat) (h : PairX w lo1 hi1 a1 n1 c1 a2 n2 c2 us ws) (hm : n2 ≤ 1000) (hk : k0 ≤ 100000000) :
    Calls Try.prog 19 #[.slice a2 n2 c2, .int .i64 k0] w fun e w' => e = .returned (.int .i64 (k0 + n2 : Nat)) ∧ Hid (PairX w' lo1 hi1 a1 n1 c1 a2 n2 c2 us (markI k0 n2)) ∧ Touch lo1 hi1 w w' := by
  have e := h.len
  subst e
  exact (IX_mark w k0 h.own (Nat.le_trans hm (by decide)) hk).mono fun e w' ⟨h1, h2, h3⟩ => ⟨h1, Lib.hid ⟨h2.out, markI_length _ _, markI_lt _ _ (by omega)⟩, h3⟩
theorem P_heldA (w : World) (k0 : Nat) (h : PairX w lo1 hi1 a1 n1 c1 a2 n2 c2 (markOs k0 us) ws) (hm : bndP n1 n2 us) (hk : k0 + totO us ≤ 10000000) :
    Calls Try.prog 20 #[.slice a1 n1 c1, .int .i64 k0] w fun e w' => e = .returned (.int .i64 (k0 + totO us : Nat)) ∧ w = w' :=
  OS_held w k0 h.own.r.see (by rw [← markOs_length k0 us]; exact h.own.len) hm.1 hk hm.2.2.1
theorem P_heldB (w : World) (k0 : Nat) (h : PairX w lo1 hi1 a1 n1 c1 a2 n2 c2 us (markI k0 n2)) (hm : n2 ≤ 1000) (hk : k0 ≤ 100000000) :
    Calls Try.prog 21 #[.slice a2 n2 c2, .int .i64 k0] w fun e w' => e = .returned (.int .i64 (k0 + n2 : Nat)) ∧ w = w' :=
  I_held w k0 h.repI (Nat.le_trans hm (by decide)) hk
end
/-- a tape and indices, or nothing -/
def PQ (R : Option (List OpP × List Int)) (w w' : World) (a1 : Option Addr) (n1 c1 : Nat) (a2 : Option Addr) (n2 c2 : Nat) (b : Bool) (us : List OpD) (ws : List Int) : Prop :=
  (b = R.isSome ∧ (us.map (fun o => o.toOpP.can), ws) = R.getD ([], [])) ∧ PairX w' w.heap.size w'.heap.size a1 n1 c1 a2 n2 c2 us ws
def PPost (R : Option (List OpP × List Int)) (w : World) (e : Ending) (w' : World) : Prop := ∃ a1 n1 c1 a2 n2 c2 b us ws, e = .returned (.tuple #[.slice a1 n1 c1, .slice a2 n2 c2, .bool b]) ∧
  Hid (PQ R w w' a1 n1 c1 a2 n2 c2 b us ws) ∧ Below w.heap.size w w'
theorem PPost.of {R : Option (List OpP × List Int)} {w w' : World} {e : Ending} (h : ModNil R w e w') : PPost R w e w' := by
  obtain ⟨ad, n, cap, wa, m, wk, b, he, hh, hb⟩ := h
  cases b with
  | true =>
    obtain ⟨C, ws, h1, h2, h3, us, h4, h5, h6⟩ := hh.out.2.1 rfl
    subst h1
    refine ⟨_, _, _, _, _, _, _, us, ws, he, Lib.hid ⟨⟨rfl, by rw [h5]; rfl⟩, ?_, h2, h3⟩, hb⟩
    have := h6.own
    rw [h4] at this
    exact this
  | false =>
    obtain ⟨⟨rfl, rfl, rfl⟩, rfl, rfl, rfl⟩ := hh.out.2.2 rfl
    have hR : R = none := by
      have := hh.out.1
      cases R with
      | none => rfl
      | some x => cases this
    subst hR
    exact ⟨_, _, _, _, _, _, _, [], [], he, Lib.hid ⟨⟨rfl, rfl⟩, PairX.nil _ _ _⟩, hb⟩
/-- the operations of a model's tape are not too long -/
theorem stM_xs {ls : List LayP} {X Y : TenP} (hg : modB ls = true) (hX : X.xs.length ≤ 256) (hY : Y.xs.length ≤ 256) {k : Nat} {s : MS} (h : stM ls X Y k = some s) : ∀ p ∈ s.ops, p.xs.length ≤ 256 := by
  induction k generalizing s with
  | zero =>
    rw [stM] at h; cases h
    intro p hp
    simp only [List.singleton_append, List.mem_cons, List.not_mem_nil, or_false] at hp
    rcases hp with rfl | rfl
    · exact hX
    · exact hY
  | succ k ih =>
    rw [stM] at h
    obtain ⟨s0, h0, h1⟩ := Option.bind_eq_some_iff.1 h
    obtain ⟨l, hl, h2⟩ := Option.bind_eq_some_iff.1 h1
    have h3 := ih h0
    have h4 := cnt_le (modB_lay hg hl)
    unfold stepL at h2
    split at h2
    · cases h2
      intro p hp
      simp only [denseM, List.mem_append, List.mem_singleton] at hp
      rcases hp with (((((hp | rfl) | rfl) | rfl) | rfl) | rfl)
      · exact h3 p hp
      · exact Nat.le_trans h4.1 (by decide)
      · exact Nat.le_trans h4.2 (by decide)
      · exact Nat.zero_le _
      · exact Nat.zero_le _
      · exact Nat.zero_le _
    · split at h2
      · cases h2
        intro p hp
        simp only [reluM, List.mem_append, List.mem_singleton] at hp
        rcases hp with hp | rfl
        · exact h3 p hp
        · exact Nat.zero_le _
      · split at h2
        · cases h2
          intro p hp
          simp only [scaleM, List.mem_append, List.mem_singleton] at hp
          rcases hp with ((hp | rfl) | rfl)
          · exact h3 p hp
          · exact Nat.le_trans h4.1 (by decide)
          · exact Nat.zero_le _
        · cases h2
theorem modelP_len {ls : List LayP} {X Y : TenP} {num : Nat} {C : List OpP} {ws : List Int} (h : modelP ls X Y num = some (C, ws)) : C.length ≤ 37 ∧ (∀ p ∈ C, p.xs.length ≤ 256) ∧ ws.length ≤ 12 := by
  unfold modelP at h
  split at h
  · rename_i hg
    unfold goodM at hg
    simp only [Bool.and_eq_true] at hg
    obtain ⟨h1, h2, h3, _⟩ := hg
    have hl := modB_len h1
    have tl : ∀ t : TenP, tenB t.r t.c t.xs.length = true → t.xs.length ≤ 256 := by
      intro t ht
      obtain ⟨⟨a1, a2⟩, ⟨b1, b2⟩, h⟩ := tenB_iff.1 ht
      have : t.r * t.c ≤ 16 * t.c := Int.mul_le_mul_of_nonneg_right a2 (by omega)
      omega
    obtain ⟨s, hs, e⟩ := Option.map_eq_some_iff.1 h
    cases e
    have h4 := stM_len hs
    have h5 := stM_xs h1 (tl X h2) (tl Y h3) hs
    refine ⟨?_, ?_, by omega⟩
    · unfold finM finN; simp only [List.length_append, List.length_singleton]; omega
    · intro p hp
      unfold finM finN at hp
      simp only [List.mem_append, List.mem_singleton] at hp
      rcases hp with (((((hp | rfl) | rfl) | rfl) | rfl) | rfl)
      · exact h5 p hp
      all_goals exact Nat.zero_le _
  · cases h
theorem model_bounds {us : List OpD} {ws : List Int} {ls : List LayP} {X Y : TenP} {num : Nat} (h : (us.map (fun o => o.toOpP.can), ws) = (modelP ls X Y num).getD ([], [])) : bndP us.length ws.length us := by
  have hV : us.length ≤ 37 ∧ (∀ u ∈ us, u.xs.length ≤ 256) ∧ ws.length ≤ 12 := by
    cases e : modelP ls X Y num with
    | none =>
      rw [e] at h
      obtain ⟨h1, h2⟩ := Prod.mk.inj (show (us.map (fun o => o.toOpP.can), ws) = ([], []) from h)
      have : us = [] := by simpa using h1
      subst this h2
      exact ⟨by simp, fun u hu => (nomatch hu), by simp⟩
    | some Cw =>
      obtain ⟨C, vs⟩ := Cw
      rw [e] at h
      obtain ⟨h1, h2⟩ := Prod.mk.inj (show (us.map (fun o => o.toOpP.can), ws) = (C, vs) from h)
      have h3 := modelP_len e
      refine ⟨?_, fun u hu => ?_, by rw [h2]; exact h3.2.2⟩
      · have := congrArg List.length h1; rw [List.length_map] at this; rw [this]; exact h3.1
      · have h4 := h3.2.1 u.toOpP.can (by rw [← h1]; exact List.mem_map_of_mem hu)
        simpa [OpP.can] using h4
  obtain ⟨h1, h2, h3⟩ := hV
  have ht : totO us ≤ 262 * us.length := by
    clear h h1 h3
    induction us with
    | nil => simp [totO]
    | cons a us ih =>
      rw [totO_cons, List.length_cons]
      have h1 := h2 a (List.mem_cons_self ..)
      have h3 := ih (fun u hu => h2 u (List.mem_cons_of_mem _ hu))
      unfold OpD.w; omega
  exact ⟨by omega, by omega, fun u hu => by have := h2 u hu; omega, by omega⟩
/-- what a model and its tensors give -/
def modelT (L : List LayP) (xr xc : Int) (xs : List Nat) (yr yc : Int) (ys : List Nat) : Option (List OpP × List Int) := modelP (L.map LayP.can) ⟨xr, xc, xs.map (cn .f32)⟩ ⟨yr, yc, ys.map (cn .f32)⟩ (shareE ys.length)
theorem modelT_eq (ls : List LayD) (xr xc : Int) (xs : List Nat) (yr yc : Int) (ys : List Nat) : modelP (ls.map fun l => l.toLayP.can) ⟨xr, xc, xs.map (cn .f32)⟩ ⟨yr, yc, ys.map (cn .f32)⟩ (shareE ys.length) = modelT (ls.map LayD.toLayP) xr xc xs yr yc ys := by
  unfold modelT; rw [List.map_map]; rfl
theorem spec_ModelTapeW (w : World) (ma : Option Addr) (mk : Nat) (ls : List LayD) {lo hi n : Nat} (h : OwnR layR w lo hi ma n mk ls) (hi2 : ∀ l ∈ ls, l.ws.length ≤ 1048576 ∧ l.bs.length ≤ 1048576)
    (xr xc : Int) (xa : Option Addr) (xk : Nat) (xs : List Nat) {lo2 hi3 n2 : Nat} (hx : RepF w lo2 hi3 xa n2 xk xs) (hn : xs.length ≤ 1048576) (wr : (Lit.int .i64 xr).wf = true) (wc : (Lit.int .i64 xc).wf = true)
    (yr yc : Int) (ya : Option Addr) (yk : Nat) (ys : List Nat) {lo4 hi5 n4 : Nat} (hy : RepF w lo4 hi5 ya n4 yk ys) (hn2 : ys.length ≤ 1048576) (wr2 : (Lit.int .i64 yr).wf = true) (wc2 : (Lit.int .i64 yc).wf = true) :
    Calls Try.prog 8 #[.agg #[.slice ma ls.length mk], .agg #[.int .i64 xr, .int .i64 xc, .slice xa xs.length xk], .agg #[.int .i64 yr, .int .i64 yc, .slice ya ys.length yk]] w (PPost (modelT (ls.map LayD.toLayP) xr xc xs yr yc ys) w) := by
  rw [← modelT_eq]
  exact (spec_ModelTape w ma mk ls xr xc yr yc xa ya xk yk xs ys h.see hx.arg hy.arg).mono fun e w' h => PPost.of h
theorem impl_ModelTapeW (w : World) (ma : Option Addr) (mk : Nat) (ls : List LayD) {lo hi n : Nat} (h : OwnR layR w lo hi ma n mk ls) (hi2 : ∀ l ∈ ls, l.ws.length ≤ 1048576 ∧ l.bs.length ≤ 1048576)
    (xr xc : Int) (xa : Option Addr) (xk : Nat) (xs : List Nat) {lo2 hi3 n2 : Nat} (hx : RepF w lo2 hi3 xa n2 xk xs) (hn : xs.length ≤ 1048576) (wr : (Lit.int .i64 xr).wf = true) (wc : (Lit.int .i64 xc).wf = true)
    (yr yc : Int) (ya : Option Addr) (yk : Nat) (ys : List Nat) {lo4 hi5 n4 : Nat} (hy : RepF w lo4 hi5 ya n4 yk ys) (hn2 : ys.length ≤ 1048576) (wr2 : (Lit.int .i64 yr).wf = true) (wc2 : (Lit.int .i64 yc).wf = true) :
    Calls Try.prog 11 #[.agg #[.slice ma ls.length mk], .agg #[.int .i64 xr, .int .i64 xc, .slice xa xs.length xk], .agg #[.int .i64 yr, .int .i64 yc, .slice ya ys.length yk]] w (PPost (modelT (ls.map LayD.toLayP) xr xc xs yr yc ys) w) := by
  rw [← modelT_eq]
  exact (impl_ModelTape w ma mk ls xr xc yr yc xa ya xk yk xs ys h.see hx.arg hy.arg).mono fun e w' h => PPost.of h
end Go.Proofs.Ytfdgngnnncmfiaa
