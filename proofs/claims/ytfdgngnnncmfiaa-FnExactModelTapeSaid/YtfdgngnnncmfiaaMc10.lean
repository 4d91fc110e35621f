/- Joined texts 10: Mu0 Ms0 Ms1 Mu1. Each is told at its own head. No condition. -/
import Derived.Test.YtfdgngnnncmfiaaMc3
import Derived.Test.YtfdgngnnncmfiaaMc7
import Derived.Test.YtfdgngnnncmfiaaMc9
/- The tape of a model: the program, part A. No condition. -/
namespace Go.Proofs.Ytfdgngnnncmfiaa
open Go Go.RowKit
set_option linter.unusedVariables false
set_option linter.unusedSimpArgs false

/-- the same, and nothing where it is no model -/
def ModNil (R : Option (List OpP × List Int)) (w : World) (e : Ending) (w' : World) : Prop := ∃ ad n cap wa m wk b, e = .returned (.tuple #[.slice ad n cap, .slice wa m wk, .bool b]) ∧
  Hid (b = R.isSome ∧ (b = true → ∃ C ws, R = some (C, ws) ∧ ws.length = m ∧ (∀ x ∈ ws, (Lit.int .i64 x).wf = true) ∧ TN w w' ad n cap C [intRow wa wk ws]) ∧ (b = false → (ad = none ∧ n = 0 ∧ cap = 0) ∧ wa = none ∧ m = 0 ∧ wk = 0)) ∧ Below w.heap.size w w'
/-- 1 divided by a number of numbers -/
def shareE (m : Nat) : Nat := fop .quo .f32 1065353216 (floatOfInt .f32 (m : Int))
/-- what the calls that look at a model and its tensors give -/
def VI (b1 : Bool) (li lo : Int) (f : FuncId) (args : Array Value) (v : Value) : Prop := (f = 49 → v = .bool b1) ∧ (f = 50 → ∀ r c a n k, args = #[.agg #[.int .i64 r, .int .i64 c, .slice a n k]] → v = .bool (tenB r c n)) ∧ (f = 51 → v = .int .i64 li) ∧ (f = 52 → v = .int .i64 lo)
theorem VI.m (b1 : Bool) (li lo : Int) (args : Array Value) : VI b1 li lo 49 args (.bool b1) := ⟨fun _ => rfl, fun e => absurd e (by decide), fun e => absurd e (by decide), fun e => absurd e (by decide)⟩
theorem VI.t (b1 : Bool) (li lo r c : Int) (a : Option Addr) (n k : Nat) {b : Bool} (hb : tenB r c n = b) : VI b1 li lo 50 #[.agg #[.int .i64 r, .int .i64 c, .slice a n k]] (.bool b) := ⟨fun e => absurd e (by decide), fun _ r' c' a' n' k' e => by cases e; rw [hb], fun e => absurd e (by decide), fun e => absurd e (by decide)⟩
theorem VI.i (b1 : Bool) (li lo : Int) (args : Array Value) : VI b1 li lo 51 args (.int .i64 li) := ⟨fun e => absurd e (by decide), fun e => absurd e (by decide), fun _ => rfl, fun e => absurd e (by decide)⟩
theorem VI.o (b1 : Bool) (li lo : Int) (args : Array Value) : VI b1 li lo 52 args (.int .i64 lo) := ⟨fun e => absurd e (by decide), fun e => absurd e (by decide), fun e => absurd e (by decide), fun _ => rfl⟩
theorem goodM_eq (ls : List LayD) (xr xc yr yc : Int) (xs ys : List Nat) : goodM (ls.map fun l => l.toLayP.can) ⟨xr, xc, xs.map (cn .f32)⟩ ⟨yr, yc, ys.map (cn .f32)⟩ = (modB (ls.map LayD.toLayP) && (tenB xr xc xs.length && (tenB yr yc ys.length && (decide (xr = yr) && (decide (xc = (layAt (ls.map LayD.toLayP) 0).i) && decide (yc = (layAt (ls.map LayD.toLayP) (ls.length - 1)).o)))))) := by
  have e : (ls.map fun l => l.toLayP.can) = (ls.map LayD.toLayP).map LayP.can := by rw [List.map_map]; rfl
  unfold goodM
  rw [e, modB_can, (layAt_can _ _).1, (layAt_can _ _).2]
  simp only [List.length_map]
theorem TN.base {w0 w1 W : World} {ad : Option Addr} {n cap : Nat} {C : List OpP} {E : List RowD} (h : TN w1 W ad n cap C E) (hb : Below w0.heap.size w0 w1) : TN w0 W ad n cap C E := by
  obtain ⟨us, h1, h2, h3⟩ := h
  exact ⟨us, h1, h2, ⟨h3.own.bounds hb.size (Nat.le_refl _), hb.trans (h3.below.mono hb.size)⟩⟩
set_option maxHeartbeats 16000000 in
set_option maxRecDepth 100000 in
theorem impl_modelTape_noA (w : World) (ma : Option Addr) (mk : Nat) (ls : List LayD) (xr xc yr yc : Int) (xa ya : Option Addr) (xk yk : Nat) (xs ys : List Nat) (hls : SeeR layR w ma mk ls) (hx : F32s w xa xk xs) (hy : F32s w ya yk ys) (hA : (modB (ls.map LayD.toLayP) && (tenB xr xc xs.length && (tenB yr yc ys.length && decide (xr = yr)))) = false) :
    Calls Try.prog 37 #[.agg #[.slice ma ls.length mk], .agg #[.int .i64 xr, .int .i64 xc, .slice xa xs.length xk], .agg #[.int .i64 yr, .int .i64 yc, .slice ya ys.length yk]] w (ModNil (modelP (ls.map fun l => l.toLayP.can) ⟨xr, xc, xs.map (cn .f32)⟩ ⟨yr, yc, ys.map (cn .f32)⟩ (shareE ys.length)) w) := by
  obtain ⟨i0, hi0, hz0, hzs, hz2⟩ := info_parts info_op
  obtain ⟨j0, hj0, jz0, jzs, jz2⟩ := info_parts info_i64
  obtain ⟨R, hR⟩ : ∃ R, R = modelP (ls.map fun l => l.toLayP.can) ⟨xr, xc, xs.map (cn .f32)⟩ ⟨yr, yc, ys.map (cn .f32)⟩ (shareE ys.length) := ⟨_, rfl⟩
  rw [← hR]
  have HR := Lib.hid hR
  have HG := Lib.hid (goodM_eq ls xr xc yr yc xs ys)
  clear hR
  have b3 := below3 w (.cells #[.slice ma ls.length mk] 36) (.cells #[.int .i64 xr, .int .i64 xc, .slice xa xs.length xk] 38) (.cells #[.int .i64 yr, .int .i64 yc, .slice ya ys.length yk] 38)
  have BM := Lib.hid ((BoxN.alloc w #[.slice ma ls.length mk] 36).below (below2 _ (.cells #[.int .i64 xr, .int .i64 xc, .slice xa xs.length xk] 38) (.cells #[.int .i64 yr, .int .i64 yc, .slice ya ys.length yk] 38)))
  have BX := Lib.hid ((BoxN.alloc2 w (.cells #[.slice ma ls.length mk] 36) #[.int .i64 xr, .int .i64 xc, .slice xa xs.length xk] 38).below (below1 _ (.cells #[.int .i64 yr, .int .i64 yc, .slice ya ys.length yk] 38)))
  have BY := Lib.hid (BoxN.alloc3 w (.cells #[.slice ma ls.length mk] 36) (.cells #[.int .i64 xr, .int .i64 xc, .slice xa xs.length xk] 38) #[.int .i64 yr, .int .i64 yc, .slice ya ys.length yk] 38)
  have B3 := Lib.hid b3
  clear b3
  obtain ⟨n, hN⟩ : ∃ n, n = xs.length := ⟨_, rfl⟩
  obtain ⟨m, hM⟩ : ∃ m, m = ys.length := ⟨_, rfl⟩
  obtain ⟨L, hL⟩ : ∃ L, L = ls.length := ⟨_, rfl⟩
  rw [← hN, ← hM, ← hL] at BM BX BY B3 HG
  rw [← hN, ← hM, ← hL]
  have HN := Lib.hid hN; have HM := Lib.hid hM; have HL := Lib.hid hL
  have hnm := Nat.le_trans hx.len hx.cap
  have hmm := Nat.le_trans hy.len hy.cap
  rw [← hN] at hnm
  rw [← hM] at hmm
  obtain ⟨w3, hw3⟩ : ∃ W, W = ((w.alloc (.cells #[.slice ma L mk] 36)).alloc (.cells #[.int .i64 xr, .int .i64 xc, .slice xa n xk] 38)).alloc (.cells #[.int .i64 yr, .int .i64 yc, .slice ya m yk] 38) := ⟨_, rfl⟩
  rw [← hw3] at BM BX BY B3
  have HW3 := Lib.hid hw3
  have HLS := Lib.hid (hls.below B3.out); have HX := Lib.hid (hx.below B3.out); have HY := Lib.hid (hy.below B3.out)
  have CW : Hid (∀ W, Below w3.heap.size w3 W → W.cell? ⟨w.heap.size, 0, none⟩ = some (.slice ma L mk) ∧ (W.cell? ⟨w.heap.size + 1, 0, none⟩ = some (.int .i64 xr) ∧ W.cell? ⟨w.heap.size + 1, 1, none⟩ = some (.int .i64 xc) ∧ W.cell? ⟨w.heap.size + 1, 2, none⟩ = some (.slice xa n xk)) ∧ W.cell? ⟨w.heap.size + 2, 0, none⟩ = some (.int .i64 yr) ∧ W.cell? ⟨w.heap.size + 2, 1, none⟩ = some (.int .i64 yc) ∧ W.cell? ⟨w.heap.size + 2, 2, none⟩ = some (.slice ya m yk)) := Lib.hid (fun W hb => by
    obtain ⟨-, m0, -⟩ := (BM.out.below hb).one1
    obtain ⟨-, x0, x1, x2, -⟩ := (BX.out.below hb).three
    obtain ⟨-, y0, y1, y2, -⟩ := (BY.out.below hb).three
    exact ⟨m0, ⟨x0, x1, x2⟩, y0, y1, y2⟩)
  have KM := Lib.hid (fun W (hb : Below w3.heap.size w3 W) => impl_ValidModel W ma mk ls (HLS.out.below hb))
  rw [← HL.out] at KM
  have KX := Lib.hid (fun W => impl_ValidTensor xr xc xa n xk hnm W)
  have KY := Lib.hid (fun W => impl_ValidTensor yr yc ya m yk hmm W)
  clear hls hx hy hN hM hL hnm hmm hw3 BM BX BY
  rw [← HN.out, ← HM.out] at hA
  cases e1 : modB (ls.map LayD.toLayP)
  · rw [e1] at KM
    have HRN : Hid (R = none) := Lib.hid (by rw [HR.out]; exact modelP_no (by rw [HG.out]; simp [e1]))
    clear hA
    try clear HLN
    try clear HQ
    clear HG HR HLS HX HY HN HM HL hi0 hz0 hzs hz2 hj0 jz0 jzs jz2
    go_enter Try.func37, Try.ntmps37
    go_upto_region 1 with fail
    rw [← HW3.out]
    refine wp_region_low (VI false 0 0) (by kernel_rfl) (by kernel_rfl) ?_
    iterate 1 (first | (refine cset_skip (low_self _) (by rfl) (fun K hK => ?_); go_simp; refine hK _ ?_; clear hK K) | (refine cset_yes (low_self _) (by rfl) (fun K hK W hW => ?_); obtain ⟨m0, ⟨x0, x1, x2⟩, y0, y1, y2⟩ := CW.out W hW; go_simp; refine hK _ ?_; clear hK K m0 x0 x1 x2 y0 y1 y2))
    refine cset_yes (low_self _) (by rfl) (fun K hK W hW => ?_)
    go_simp
    refine ⟨(KM.out W hW).mono ?_, ?_⟩
    · rintro e w' ⟨rfl, hb⟩
      exact ⟨_, rfl, bthen hW hb, VI.m false 0 0 _⟩
    rintro v hv
    obtain rfl := hv.1 rfl
    refine hK _ ?_
    clear hK K hv
    iterate 3 (first | (refine cset_skip (low_self _) (by rfl) (fun K hK => ?_); go_simp; refine hK _ ?_; clear hK K) | (refine cset_yes (low_self _) (by rfl) (fun K hK W hW => ?_); obtain ⟨m0, ⟨x0, x1, x2⟩, y0, y1, y2⟩ := CW.out W hW; go_simp; refine hK _ ?_; clear hK K m0 x0 x1 x2 y0 y1 y2))
    iterate 1 (first | (refine cset_skip (low_self _) (by rfl) (fun K hK => ?_); go_simp; refine hK _ ?_; clear hK K) | (refine cset_yes (low_self _) (by rfl) (fun K hK W hW => ?_); obtain ⟨m0, ⟨x0, x1, x2⟩, y0, y1, y2⟩ := CW.out W hW; go_simp; refine hK _ ?_; clear hK K m0 x0 x1 x2 y0 y1 y2))
    iterate 4 (first | (refine cset_skip (low_self _) (by rfl) (fun K hK => ?_); go_simp; refine hK _ ?_; clear hK K) | (refine cset_yes (low_self _) (by rfl) (fun K hK W hW => ?_); obtain ⟨m0, ⟨x0, x1, x2⟩, y0, y1, y2⟩ := CW.out W hW; go_simp; refine hK _ ?_; clear hK K m0 x0 x1 x2 y0 y1 y2))
    iterate 1 (first | (refine cset_skip (low_self _) (by rfl) (fun K hK => ?_); go_simp; refine hK _ ?_; clear hK K) | (refine cset_yes (low_self _) (by rfl) (fun K hK W hW => ?_); obtain ⟨m0, ⟨x0, x1, x2⟩, y0, y1, y2⟩ := CW.out W hW; go_simp; refine hK _ ?_; clear hK K m0 x0 x1 x2 y0 y1 y2))
    iterate 13 (first | (refine cset_skip (low_self _) (by rfl) (fun K hK => ?_); go_simp; refine hK _ ?_; clear hK K) | (refine cset_yes (low_self _) (by rfl) (fun K hK W hW => ?_); obtain ⟨m0, ⟨x0, x1, x2⟩, y0, y1, y2⟩ := CW.out W hW; go_simp; refine hK _ ?_; clear hK K m0 x0 x1 x2 y0 y1 y2))
    iterate 1 (first | (refine cset_skip (low_self _) (by rfl) (fun K hK => ?_); go_simp; refine hK _ ?_; clear hK K) | (refine cset_yes (low_self _) (by rfl) (fun K hK W hW => ?_); obtain ⟨m0, ⟨x0, x1, x2⟩, y0, y1, y2⟩ := CW.out W hW; go_simp; refine hK _ ?_; clear hK K m0 x0 x1 x2 y0 y1 y2))
    iterate 6 (first | (refine cset_skip (low_self _) (by rfl) (fun K hK => ?_); go_simp; refine hK _ ?_; clear hK K) | (refine cset_yes (low_self _) (by rfl) (fun K hK W hW => ?_); obtain ⟨m0, ⟨x0, x1, x2⟩, y0, y1, y2⟩ := CW.out W hW; go_simp; refine hK _ ?_; clear hK K m0 x0 x1 x2 y0 y1 y2))
    iterate 1 (first | (refine cset_skip (low_self _) (by rfl) (fun K hK => ?_); go_simp; refine hK _ ?_; clear hK K) | (refine cset_yes (low_self _) (by rfl) (fun K hK W hW => ?_); obtain ⟨m0, ⟨x0, x1, x2⟩, y0, y1, y2⟩ := CW.out W hW; go_simp; refine hK _ ?_; clear hK K m0 x0 x1 x2 y0 y1 y2))
    iterate 2 (first | (refine cset_skip (low_self _) (by rfl) (fun K hK => ?_); go_simp; refine hK _ ?_; clear hK K) | (refine cset_yes (low_self _) (by rfl) (fun K hK W hW => ?_); obtain ⟨m0, ⟨x0, x1, x2⟩, y0, y1, y2⟩ := CW.out W hW; go_simp; refine hK _ ?_; clear hK K m0 x0 x1 x2 y0 y1 y2))
    refine cset_nil ?_
    intro w4 hw4
    have HB4 := Lib.hid (Below.mono hw4 (Nat.le_refl _))
    have HB5 := Lib.hid (bthen B3.out hw4)
    clear hw4
    clear CW KM KX KY HW3 B3 HB4
    try clear KI KO
    go_wp2
    go_ret3
    exact ⟨_, _, _, _, _, _, false, rfl, Lib.hid ⟨by rw [HRN.out]; rfl, fun h => (by cases h), fun _ => ⟨⟨rfl, rfl, rfl⟩, rfl, rfl, rfl⟩⟩, HB5.out⟩
  rw [e1] at KM hA
  cases e2 : tenB xr xc n
  · rw [e2] at KX
    have HRN : Hid (R = none) := Lib.hid (by rw [HR.out]; exact modelP_no (by rw [HG.out]; simp [e2]))
    clear hA
    try clear HLN
    try clear HQ
    clear HG HR HLS HX HY HN HM HL hi0 hz0 hzs hz2 hj0 jz0 jzs jz2
    go_enter Try.func37, Try.ntmps37
    go_upto_region 1 with fail
    rw [← HW3.out]
    refine wp_region_low (VI true 0 0) (by kernel_rfl) (by kernel_rfl) ?_
    iterate 1 (first | (refine cset_skip (low_self _) (by rfl) (fun K hK => ?_); go_simp; refine hK _ ?_; clear hK K) | (refine cset_yes (low_self _) (by rfl) (fun K hK W hW => ?_); obtain ⟨m0, ⟨x0, x1, x2⟩, y0, y1, y2⟩ := CW.out W hW; go_simp; refine hK _ ?_; clear hK K m0 x0 x1 x2 y0 y1 y2))
    refine cset_yes (low_self _) (by rfl) (fun K hK W hW => ?_)
    go_simp
    refine ⟨(KM.out W hW).mono ?_, ?_⟩
    · rintro e w' ⟨rfl, hb⟩
      exact ⟨_, rfl, bthen hW hb, VI.m true 0 0 _⟩
    rintro v hv
    obtain rfl := hv.1 rfl
    refine hK _ ?_
    clear hK K hv
    iterate 3 (first | (refine cset_skip (low_self _) (by rfl) (fun K hK => ?_); go_simp; refine hK _ ?_; clear hK K) | (refine cset_yes (low_self _) (by rfl) (fun K hK W hW => ?_); obtain ⟨m0, ⟨x0, x1, x2⟩, y0, y1, y2⟩ := CW.out W hW; go_simp; refine hK _ ?_; clear hK K m0 x0 x1 x2 y0 y1 y2))
    refine cset_yes (low_self _) (by rfl) (fun K hK W hW => ?_)
    go_simp
    refine ⟨(KX.out W).mono ?_, ?_⟩
    · rintro e w' ⟨rfl, hb⟩
      exact ⟨_, rfl, bthen hW hb, VI.t true 0 0 _ _ _ _ _ e2⟩
    rintro v hv
    obtain rfl := (hv.2.1 rfl _ _ _ _ _ rfl).trans (by rw [e2])
    refine hK _ ?_
    clear hK K hv
    iterate 4 (first | (refine cset_skip (low_self _) (by rfl) (fun K hK => ?_); go_simp; refine hK _ ?_; clear hK K) | (refine cset_yes (low_self _) (by rfl) (fun K hK W hW => ?_); obtain ⟨m0, ⟨x0, x1, x2⟩, y0, y1, y2⟩ := CW.out W hW; go_simp; refine hK _ ?_; clear hK K m0 x0 x1 x2 y0 y1 y2))
    iterate 1 (first | (refine cset_skip (low_self _) (by rfl) (fun K hK => ?_); go_simp; refine hK _ ?_; clear hK K) | (refine cset_yes (low_self _) (by rfl) (fun K hK W hW => ?_); obtain ⟨m0, ⟨x0, x1, x2⟩, y0, y1, y2⟩ := CW.out W hW; go_simp; refine hK _ ?_; clear hK K m0 x0 x1 x2 y0 y1 y2))
    iterate 13 (first | (refine cset_skip (low_self _) (by rfl) (fun K hK => ?_); go_simp; refine hK _ ?_; clear hK K) | (refine cset_yes (low_self _) (by rfl) (fun K hK W hW => ?_); obtain ⟨m0, ⟨x0, x1, x2⟩, y0, y1, y2⟩ := CW.out W hW; go_simp; refine hK _ ?_; clear hK K m0 x0 x1 x2 y0 y1 y2))
    iterate 1 (first | (refine cset_skip (low_self _) (by rfl) (fun K hK => ?_); go_simp; refine hK _ ?_; clear hK K) | (refine cset_yes (low_self _) (by rfl) (fun K hK W hW => ?_); obtain ⟨m0, ⟨x0, x1, x2⟩, y0, y1, y2⟩ := CW.out W hW; go_simp; refine hK _ ?_; clear hK K m0 x0 x1 x2 y0 y1 y2))
    iterate 6 (first | (refine cset_skip (low_self _) (by rfl) (fun K hK => ?_); go_simp; refine hK _ ?_; clear hK K) | (refine cset_yes (low_self _) (by rfl) (fun K hK W hW => ?_); obtain ⟨m0, ⟨x0, x1, x2⟩, y0, y1, y2⟩ := CW.out W hW; go_simp; refine hK _ ?_; clear hK K m0 x0 x1 x2 y0 y1 y2))
    iterate 1 (first | (refine cset_skip (low_self _) (by rfl) (fun K hK => ?_); go_simp; refine hK _ ?_; clear hK K) | (refine cset_yes (low_self _) (by rfl) (fun K hK W hW => ?_); obtain ⟨m0, ⟨x0, x1, x2⟩, y0, y1, y2⟩ := CW.out W hW; go_simp; refine hK _ ?_; clear hK K m0 x0 x1 x2 y0 y1 y2))
    iterate 2 (first | (refine cset_skip (low_self _) (by rfl) (fun K hK => ?_); go_simp; refine hK _ ?_; clear hK K) | (refine cset_yes (low_self _) (by rfl) (fun K hK W hW => ?_); obtain ⟨m0, ⟨x0, x1, x2⟩, y0, y1, y2⟩ := CW.out W hW; go_simp; refine hK _ ?_; clear hK K m0 x0 x1 x2 y0 y1 y2))
    refine cset_nil ?_
    intro w4 hw4
    have HB4 := Lib.hid (Below.mono hw4 (Nat.le_refl _))
    have HB5 := Lib.hid (bthen B3.out hw4)
    clear hw4
    clear CW KM KX KY HW3 B3 HB4
    try clear KI KO
    go_wp2
    go_ret3
    exact ⟨_, _, _, _, _, _, false, rfl, Lib.hid ⟨by rw [HRN.out]; rfl, fun h => (by cases h), fun _ => ⟨⟨rfl, rfl, rfl⟩, rfl, rfl, rfl⟩⟩, HB5.out⟩
  rw [e2] at KX hA
  cases e3 : tenB yr yc m
  · rw [e3] at KY
    have HRN : Hid (R = none) := Lib.hid (by rw [HR.out]; exact modelP_no (by rw [HG.out]; simp [e3]))
    clear hA
    try clear HLN
    try clear HQ
    clear HG HR HLS HX HY HN HM HL hi0 hz0 hzs hz2 hj0 jz0 jzs jz2
    go_enter Try.func37, Try.ntmps37
    go_upto_region 1 with fail
    rw [← HW3.out]
    refine wp_region_low (VI true 0 0) (by kernel_rfl) (by kernel_rfl) ?_
    iterate 1 (first | (refine cset_skip (low_self _) (by rfl) (fun K hK => ?_); go_simp; refine hK _ ?_; clear hK K) | (refine cset_yes (low_self _) (by rfl) (fun K hK W hW => ?_); obtain ⟨m0, ⟨x0, x1, x2⟩, y0, y1, y2⟩ := CW.out W hW; go_simp; refine hK _ ?_; clear hK K m0 x0 x1 x2 y0 y1 y2))
    refine cset_yes (low_self _) (by rfl) (fun K hK W hW => ?_)
    go_simp
    refine ⟨(KM.out W hW).mono ?_, ?_⟩
    · rintro e w' ⟨rfl, hb⟩
      exact ⟨_, rfl, bthen hW hb, VI.m true 0 0 _⟩
    rintro v hv
    obtain rfl := hv.1 rfl
    refine hK _ ?_
    clear hK K hv
    iterate 3 (first | (refine cset_skip (low_self _) (by rfl) (fun K hK => ?_); go_simp; refine hK _ ?_; clear hK K) | (refine cset_yes (low_self _) (by rfl) (fun K hK W hW => ?_); obtain ⟨m0, ⟨x0, x1, x2⟩, y0, y1, y2⟩ := CW.out W hW; go_simp; refine hK _ ?_; clear hK K m0 x0 x1 x2 y0 y1 y2))
    refine cset_yes (low_self _) (by rfl) (fun K hK W hW => ?_)
    go_simp
    refine ⟨(KX.out W).mono ?_, ?_⟩
    · rintro e w' ⟨rfl, hb⟩
      exact ⟨_, rfl, bthen hW hb, VI.t true 0 0 _ _ _ _ _ e2⟩
    rintro v hv
    obtain rfl := (hv.2.1 rfl _ _ _ _ _ rfl).trans (by rw [e2])
    refine hK _ ?_
    clear hK K hv
    iterate 4 (first | (refine cset_skip (low_self _) (by rfl) (fun K hK => ?_); go_simp; refine hK _ ?_; clear hK K) | (refine cset_yes (low_self _) (by rfl) (fun K hK W hW => ?_); obtain ⟨m0, ⟨x0, x1, x2⟩, y0, y1, y2⟩ := CW.out W hW; go_simp; refine hK _ ?_; clear hK K m0 x0 x1 x2 y0 y1 y2))
    refine cset_yes (low_self _) (by rfl) (fun K hK W hW => ?_)
    go_simp
    refine ⟨(KY.out W).mono ?_, ?_⟩
    · rintro e w' ⟨rfl, hb⟩
      exact ⟨_, rfl, bthen hW hb, VI.t true 0 0 _ _ _ _ _ e3⟩
    rintro v hv
    obtain rfl := (hv.2.1 rfl _ _ _ _ _ rfl).trans (by rw [e3])
    refine hK _ ?_
    clear hK K hv
    iterate 13 (first | (refine cset_skip (low_self _) (by rfl) (fun K hK => ?_); go_simp; refine hK _ ?_; clear hK K) | (refine cset_yes (low_self _) (by rfl) (fun K hK W hW => ?_); obtain ⟨m0, ⟨x0, x1, x2⟩, y0, y1, y2⟩ := CW.out W hW; go_simp; refine hK _ ?_; clear hK K m0 x0 x1 x2 y0 y1 y2))
    iterate 1 (first | (refine cset_skip (low_self _) (by rfl) (fun K hK => ?_); go_simp; refine hK _ ?_; clear hK K) | (refine cset_yes (low_self _) (by rfl) (fun K hK W hW => ?_); obtain ⟨m0, ⟨x0, x1, x2⟩, y0, y1, y2⟩ := CW.out W hW; go_simp; refine hK _ ?_; clear hK K m0 x0 x1 x2 y0 y1 y2))
    iterate 6 (first | (refine cset_skip (low_self _) (by rfl) (fun K hK => ?_); go_simp; refine hK _ ?_; clear hK K) | (refine cset_yes (low_self _) (by rfl) (fun K hK W hW => ?_); obtain ⟨m0, ⟨x0, x1, x2⟩, y0, y1, y2⟩ := CW.out W hW; go_simp; refine hK _ ?_; clear hK K m0 x0 x1 x2 y0 y1 y2))
    iterate 1 (first | (refine cset_skip (low_self _) (by rfl) (fun K hK => ?_); go_simp; refine hK _ ?_; clear hK K) | (refine cset_yes (low_self _) (by rfl) (fun K hK W hW => ?_); obtain ⟨m0, ⟨x0, x1, x2⟩, y0, y1, y2⟩ := CW.out W hW; go_simp; refine hK _ ?_; clear hK K m0 x0 x1 x2 y0 y1 y2))
    iterate 2 (first | (refine cset_skip (low_self _) (by rfl) (fun K hK => ?_); go_simp; refine hK _ ?_; clear hK K) | (refine cset_yes (low_self _) (by rfl) (fun K hK W hW => ?_); obtain ⟨m0, ⟨x0, x1, x2⟩, y0, y1, y2⟩ := CW.out W hW; go_simp; refine hK _ ?_; clear hK K m0 x0 x1 x2 y0 y1 y2))
    refine cset_nil ?_
    intro w4 hw4
    have HB4 := Lib.hid (Below.mono hw4 (Nat.le_refl _))
    have HB5 := Lib.hid (bthen B3.out hw4)
    clear hw4
    clear CW KM KX KY HW3 B3 HB4
    try clear KI KO
    go_wp2
    go_ret3
    exact ⟨_, _, _, _, _, _, false, rfl, Lib.hid ⟨by rw [HRN.out]; rfl, fun h => (by cases h), fun _ => ⟨⟨rfl, rfl, rfl⟩, rfl, rfl, rfl⟩⟩, HB5.out⟩
  rw [e3] at KY hA
  by_cases e4 : xr = yr
  · rw [decide_eq_true e4] at hA; cases hA
  have f1 : (xr != yr) = true := by simpa using e4
  have f2 : (xr == yr) = false := by simpa using e4
  have HRN : Hid (R = none) := Lib.hid (by rw [HR.out]; exact modelP_no (by rw [HG.out]; simp [e4]))
  clear hA e4
  try clear HLN
  try clear HQ
  clear HG HR HLS HX HY HN HM HL hi0 hz0 hzs hz2 hj0 jz0 jzs jz2
  go_enter Try.func37, Try.ntmps37
  go_upto_region 1 with fail
  rw [← HW3.out]
  refine wp_region_low (VI true 0 0) (by kernel_rfl) (by kernel_rfl) ?_
  iterate 1 (first | (refine cset_skip (low_self _) (by rfl) (fun K hK => ?_); go_simp; refine hK _ ?_; clear hK K) | (refine cset_yes (low_self _) (by rfl) (fun K hK W hW => ?_); obtain ⟨m0, ⟨x0, x1, x2⟩, y0, y1, y2⟩ := CW.out W hW; go_simp; refine hK _ ?_; clear hK K m0 x0 x1 x2 y0 y1 y2))
  refine cset_yes (low_self _) (by rfl) (fun K hK W hW => ?_)
  go_simp
  refine ⟨(KM.out W hW).mono ?_, ?_⟩
  · rintro e w' ⟨rfl, hb⟩
    exact ⟨_, rfl, bthen hW hb, VI.m true 0 0 _⟩
  rintro v hv
  obtain rfl := hv.1 rfl
  refine hK _ ?_
  clear hK K hv
  iterate 3 (first | (refine cset_skip (low_self _) (by rfl) (fun K hK => ?_); go_simp; refine hK _ ?_; clear hK K) | (refine cset_yes (low_self _) (by rfl) (fun K hK W hW => ?_); obtain ⟨m0, ⟨x0, x1, x2⟩, y0, y1, y2⟩ := CW.out W hW; go_simp; refine hK _ ?_; clear hK K m0 x0 x1 x2 y0 y1 y2))
  refine cset_yes (low_self _) (by rfl) (fun K hK W hW => ?_)
  go_simp
  refine ⟨(KX.out W).mono ?_, ?_⟩
  · rintro e w' ⟨rfl, hb⟩
    exact ⟨_, rfl, bthen hW hb, VI.t true 0 0 _ _ _ _ _ e2⟩
  rintro v hv
  obtain rfl := (hv.2.1 rfl _ _ _ _ _ rfl).trans (by rw [e2])
  refine hK _ ?_
  clear hK K hv
  iterate 4 (first | (refine cset_skip (low_self _) (by rfl) (fun K hK => ?_); go_simp; refine hK _ ?_; clear hK K) | (refine cset_yes (low_self _) (by rfl) (fun K hK W hW => ?_); obtain ⟨m0, ⟨x0, x1, x2⟩, y0, y1, y2⟩ := CW.out W hW; go_simp; refine hK _ ?_; clear hK K m0 x0 x1 x2 y0 y1 y2))
  refine cset_yes (low_self _) (by rfl) (fun K hK W hW => ?_)
  go_simp
  refine ⟨(KY.out W).mono ?_, ?_⟩
  · rintro e w' ⟨rfl, hb⟩
    exact ⟨_, rfl, bthen hW hb, VI.t true 0 0 _ _ _ _ _ e3⟩
  rintro v hv
  obtain rfl := (hv.2.1 rfl _ _ _ _ _ rfl).trans (by rw [e3])
  refine hK _ ?_
  clear hK K hv
  iterate 13 (first | (refine cset_skip (low_self _) (by rfl) (fun K hK => ?_); go_simp; refine hK _ ?_; clear hK K) | (refine cset_yes (low_self _) (by rfl) (fun K hK W hW => ?_); obtain ⟨m0, ⟨x0, x1, x2⟩, y0, y1, y2⟩ := CW.out W hW; go_simp; refine hK _ ?_; clear hK K m0 x0 x1 x2 y0 y1 y2))
  iterate 1 (first | (refine cset_skip (low_self _) (by rfl) (fun K hK => ?_); go_simp; refine hK _ ?_; clear hK K) | (refine cset_yes (low_self _) (by rfl) (fun K hK W hW => ?_); obtain ⟨m0, ⟨x0, x1, x2⟩, y0, y1, y2⟩ := CW.out W hW; go_simp; refine hK _ ?_; clear hK K m0 x0 x1 x2 y0 y1 y2))
  iterate 6 (first | (refine cset_skip (low_self _) (by rfl) (fun K hK => ?_); go_simp; refine hK _ ?_; clear hK K) | (refine cset_yes (low_self _) (by rfl) (fun K hK W hW => ?_); obtain ⟨m0, ⟨x0, x1, x2⟩, y0, y1, y2⟩ := CW.out W hW; go_simp; refine hK _ ?_; clear hK K m0 x0 x1 x2 y0 y1 y2))
  iterate 1 (first | (refine cset_skip (low_self _) (by rfl) (fun K hK => ?_); go_simp; refine hK _ ?_; clear hK K) | (refine cset_yes (low_self _) (by rfl) (fun K hK W hW => ?_); obtain ⟨m0, ⟨x0, x1, x2⟩, y0, y1, y2⟩ := CW.out W hW; go_simp; refine hK _ ?_; clear hK K m0 x0 x1 x2 y0 y1 y2))
  iterate 2 (first | (refine cset_skip (low_self _) (by rfl) (fun K hK => ?_); go_simp; refine hK _ ?_; clear hK K) | (refine cset_yes (low_self _) (by rfl) (fun K hK W hW => ?_); obtain ⟨m0, ⟨x0, x1, x2⟩, y0, y1, y2⟩ := CW.out W hW; go_simp; refine hK _ ?_; clear hK K m0 x0 x1 x2 y0 y1 y2))
  refine cset_nil ?_
  intro w4 hw4
  have HB4 := Lib.hid (Below.mono hw4 (Nat.le_refl _))
  have HB5 := Lib.hid (bthen B3.out hw4)
  clear hw4
  clear CW KM KX KY HW3 B3 HB4
  try clear KI KO
  go_wp2
  go_ret3
  exact ⟨_, _, _, _, _, _, false, rfl, Lib.hid ⟨by rw [HRN.out]; rfl, fun h => (by cases h), fun _ => ⟨⟨rfl, rfl, rfl⟩, rfl, rfl, rfl⟩⟩, HB5.out⟩
end Go.Proofs.Ytfdgngnnncmfiaa
/- The share of a tensor's numbers: the reference. No condition. -/
namespace Go.Proofs.Ytfdgngnnncmfiaa
open Go Go.RowKit
set_option linter.unusedVariables false
set_option linter.unusedSimpArgs false
set_option maxHeartbeats 2000000 in
theorem spec_l04Share (w : World) (g o r c : Nat) (hr : r ≤ 16) (hc : c ≤ 16) (p0 : w.cell? ⟨g, o, none⟩ = some (.int .i64 r)) (p1 : w.cell? ⟨g, o + 1, none⟩ = some (.int .i64 c)) :
    Calls Try.prog 34 #[.pointer (some ⟨g, o, none⟩)] w fun e w' => ∃ z, e = .returned (.float .f32 z) ∧ Hid (cn .f32 z = shareE (r * c) ∧ z < 4294967296) ∧ Dr w w' := by
  have hp : r * c ≤ 256 := Nat.mul_le_mul hr hc
  obtain ⟨p, hpp⟩ : ∃ p, p = r * c := ⟨_, rfl⟩
  rw [← hpp] at hp ⊢
  have hpw : IntKind.i64.wrap ((r : Int) * (c : Int)) = (p : Int) := by
    have e : (r : Int) * (c : Int) = (p : Int) := by rw [hpp]; push_cast; rfl
    rw [e, IntKind.wrap_i64]; omega
  clear hpp hr hc
  go_enter Try.func34, Try.ntmps34
  go_wp2
  refine wp_region_drawn (fun _ _ _ => False) (by kernel_rfl) (by kernel_rfl) ?_
  repeat (refine wset_step (fun K hK nq => ?_); go_simp; refine hK _ ?_; clear hK K)
  refine wset_nil ?_
  rintro w' ⟨q, rfl⟩
  go_wp2
  go_ret
  exact ⟨_, rfl, Lib.hid ⟨by rw [cn_fbits, cn_floatOfInt, show cn .f32 1065353216 = 1065353216 by decide +kernel]; rfl, fbits_lt _ .f32 _ _ _⟩, q, rfl⟩
end Go.Proofs.Ytfdgngnnncmfiaa
/- The tape of a model: the reference's function. No condition. -/
namespace Go.Proofs.Ytfdgngnnncmfiaa
open Go Go.RowKit
set_option linter.unusedVariables false
set_option linter.unusedSimpArgs false
set_option maxHeartbeats 8000000 in
set_option maxRecDepth 100000 in
theorem spec_ModelTape (w : World) (ma : Option Addr) (mk : Nat) (ls : List LayD) (xr xc yr yc : Int) (xa ya : Option Addr) (xk yk : Nat) (xs ys : List Nat) (hls : SeeR layR w ma mk ls) (hx : F32s w xa xk xs) (hy : F32s w ya yk ys) :
    Calls Try.prog 8 #[.agg #[.slice ma ls.length mk], .agg #[.int .i64 xr, .int .i64 xc, .slice xa xs.length xk], .agg #[.int .i64 yr, .int .i64 yc, .slice ya ys.length yk]] w (ModNil (modelP (ls.map fun l => l.toLayP.can) ⟨xr, xc, xs.map (cn .f32)⟩ ⟨yr, yc, ys.map (cn .f32)⟩ (shareE ys.length)) w) := by
  have b3 := below3 w (.cells #[.slice ma ls.length mk] 36) (.cells #[.int .i64 xr, .int .i64 xc, .slice xa xs.length xk] 38) (.cells #[.int .i64 yr, .int .i64 yc, .slice ya ys.length yk] 38)
  have BM := Lib.hid ((BoxN.alloc w #[.slice ma ls.length mk] 36).below (below2 _ (.cells #[.int .i64 xr, .int .i64 xc, .slice xa xs.length xk] 38) (.cells #[.int .i64 yr, .int .i64 yc, .slice ya ys.length yk] 38)))
  have BX := Lib.hid ((BoxN.alloc2 w (.cells #[.slice ma ls.length mk] 36) #[.int .i64 xr, .int .i64 xc, .slice xa xs.length xk] 38).below (below1 _ (.cells #[.int .i64 yr, .int .i64 yc, .slice ya ys.length yk] 38)))
  have BY := Lib.hid (BoxN.alloc3 w (.cells #[.slice ma ls.length mk] 36) (.cells #[.int .i64 xr, .int .i64 xc, .slice xa xs.length xk] 38) #[.int .i64 yr, .int .i64 yc, .slice ya ys.length yk] 38)
  have B3 := Lib.hid b3
  have hym : ys.length ≤ maxLen := Nat.le_trans hy.len hy.cap
  have HLS := Lib.hid (hls.below b3); have HX := Lib.hid (hx.below b3); have HY := Lib.hid (hy.below b3)
  obtain ⟨w3, hw3⟩ : ∃ W, W = ((w.alloc (.cells #[.slice ma ls.length mk] 36)).alloc (.cells #[.int .i64 xr, .int .i64 xc, .slice xa xs.length xk] 38)).alloc (.cells #[.int .i64 yr, .int .i64 yc, .slice ya ys.length yk] 38) := ⟨_, rfl⟩
  rw [← hw3] at BM BX BY B3 HLS HX HY
  have HW3 := Lib.hid hw3
  obtain ⟨R, hR⟩ : ∃ R, R = modelP (ls.map fun l => l.toLayP.can) ⟨xr, xc, xs.map (cn .f32)⟩ ⟨yr, yc, ys.map (cn .f32)⟩ (shareE ys.length) := ⟨_, rfl⟩
  rw [← hR]
  have HR := Lib.hid hR
  have KM := Lib.hid (fun W (hb : Below w3.heap.size w3 W) z (hz : z < 4294967296) => spec_l04Model W w.heap.size 0 (w.heap.size + 1) 0 (w.heap.size + 2) 0 ma mk ls xr xc yr yc xa ya xk yk xs ys z hz (BM.out.below hb).one1.2.1 (HLS.out.below hb) (BX.out.below hb).three.2.1 (BX.out.below hb).three.2.2.1 (BX.out.below hb).three.2.2.2.1 (HX.out.below hb) (BY.out.below hb).three.2.1 (BY.out.below hb).three.2.2.1 (BY.out.below hb).three.2.2.2.1 (HY.out.below hb) (by omega))
  have KY := Lib.hid (spec_l02Is w3 (w.heap.size + 2) 0 yr yc ya ys.length yk hym BY.out.three.2.1 BY.out.three.2.2.1 BY.out.three.2.2.2.1)
  clear hls hx hy b3 hw3 hR hym
  cases e3 : tenB yr yc ys.length
  · rw [e3] at KY
    have HRN : Hid (R = none) := Lib.hid (by rw [HR.out]; exact modelP_no (by rw [goodM_eq, e3]; simp))
    clear e3 HR KM
    go_enter Try.func8, Try.ntmps8
    go_upto_region 1 with fail
    rw [← HW3.out]
    go_wp2_with fail
    refine KY.out.mono ?_
    rintro e w4 ⟨rfl, hd⟩
    have HB := Lib.hid (bthen B3.out hd.below)
    clear hd
    go_wp2
    go_ret3
    exact ⟨_, _, _, _, _, _, false, rfl, Lib.hid ⟨by rw [HRN.out]; rfl, fun h => (by cases h), fun _ => ⟨⟨rfl, rfl, rfl⟩, rfl, rfl, rfl⟩⟩, HB.out⟩
  rw [e3] at KY
  obtain ⟨⟨yr1, yr2⟩, ⟨yc1, yc2⟩, hyl⟩ := tenB_iff.1 e3
  obtain ⟨r, rfl⟩ : ∃ r : Nat, yr = r := ⟨yr.toNat, by omega⟩
  obtain ⟨d, rfl⟩ : ∃ d : Nat, yc = d := ⟨yc.toNat, by omega⟩
  have hyd : ys.length = r * d := by exact_mod_cast hyl
  have KS := Lib.hid (fun W (hb : Below w3.heap.size w3 W) => spec_l04Share W (w.heap.size + 2) 0 r d (by omega) (by omega) (BY.out.below hb).three.2.1 (BY.out.below hb).three.2.2.1)
  rw [← hyd] at KS
  clear hyl hyd yr1 yr2 yc1 yc2 e3
  go_enter Try.func8, Try.ntmps8
  go_upto_region 1 with fail
  rw [← HW3.out]
  go_wp2_with fail
  refine KY.out.mono ?_
  rintro e w4 ⟨rfl, hd⟩
  have HB4 := Lib.hid hd.below
  clear hd KY
  go_wp2_with fail
  refine (KS.out _ HB4.out).mono ?_
  rintro e w5 ⟨z, rfl, hz, hd⟩
  have HB5 := Lib.hid (bthen HB4.out hd.below)
  have HZ := Lib.hid hz.out
  clear hd hz KS HB4
  have KM2 := Lib.hid (KM.out w5 HB5.out z HZ.out.2)
  rw [HZ.out.1, ← HR.out] at KM2
  clear KM HR
  go_wp2_with fail
  refine KM2.out.mono ?_
  rintro e w6 ⟨ad, n, cap, wa, m, wk, b, rfl, HO, hb⟩
  have HB6 := Lib.hid (bthen (bthen B3.out HB5.out) hb)
  have HBA := Lib.hid (bthen B3.out HB5.out)
  clear hb KM2
  cases b
  · have HRN : Hid (R.isSome = false) := Lib.hid HO.out.1.symm
    clear HO
    go_wp2
    go_ret3
    exact ⟨_, _, _, _, _, _, false, rfl, Lib.hid ⟨by rw [HRN.out], fun h => (by cases h), fun _ => ⟨⟨rfl, rfl, rfl⟩, rfl, rfl, rfl⟩⟩, HB6.out⟩
  · go_wp2
    go_ret3
    refine ⟨_, _, _, _, _, _, true, rfl, Lib.hid ⟨HO.out.1, fun _ => ?_, fun h => (by cases h)⟩, HB6.out⟩
    obtain ⟨C, ws, h1, h2, h3, h4⟩ := HO.out.2 (by first | rfl | trivial)
    exact ⟨C, ws, h1, h2, h3, h4.base HBA.out⟩
end Go.Proofs.Ytfdgngnnncmfiaa
/- The tape of a model: the program, part B. No condition. -/
namespace Go.Proofs.Ytfdgngnnncmfiaa
open Go Go.RowKit
set_option linter.unusedVariables false
set_option linter.unusedSimpArgs false
set_option maxHeartbeats 16000000 in
set_option maxRecDepth 100000 in
theorem impl_modelTape_noB (w : World) (ma : Option Addr) (mk : Nat) (ls : List LayD) (xr xc yr yc : Int) (xa ya : Option Addr) (xk yk : Nat) (xs ys : List Nat) (hls : SeeR layR w ma mk ls) (hx : F32s w xa xk xs) (hy : F32s w ya yk ys) (hA : (modB (ls.map LayD.toLayP) && (tenB xr xc xs.length && (tenB yr yc ys.length && decide (xr = yr)))) = true) (hB : (decide (xc = (layAt (ls.map LayD.toLayP) 0).i) && decide (yc = (layAt (ls.map LayD.toLayP) (ls.length - 1)).o)) = false) :
    Calls Try.prog 37 #[.agg #[.slice ma ls.length mk], .agg #[.int .i64 xr, .int .i64 xc, .slice xa xs.length xk], .agg #[.int .i64 yr, .int .i64 yc, .slice ya ys.length yk]] w (ModNil (modelP (ls.map fun l => l.toLayP.can) ⟨xr, xc, xs.map (cn .f32)⟩ ⟨yr, yc, ys.map (cn .f32)⟩ (shareE ys.length)) w) := by
  obtain ⟨i0, hi0, hz0, hzs, hz2⟩ := info_parts info_op
  obtain ⟨j0, hj0, jz0, jzs, jz2⟩ := info_parts info_i64
  obtain ⟨R, hR⟩ : ∃ R, R = modelP (ls.map fun l => l.toLayP.can) ⟨xr, xc, xs.map (cn .f32)⟩ ⟨yr, yc, ys.map (cn .f32)⟩ (shareE ys.length) := ⟨_, rfl⟩
  rw [← hR]
  have HR := Lib.hid hR
  have HG := Lib.hid (goodM_eq ls xr xc yr yc xs ys)
  clear hR
  have b3 := below3 w (.cells #[.slice ma ls.length mk] 36) (.cells #[.int .i64 xr, .int .i64 xc, .slice xa xs.length xk] 38) (.cells #[.int .i64 yr, .int .i64 yc, .slice ya ys.length yk] 38)
  have BM := Lib.hid ((BoxN.alloc w #[.slice ma ls.length mk] 36).below (below2 _ (.cells #[.int .i64 xr, .int .i64 xc, .slice xa xs.length xk] 38) (.cells #[.int .i64 yr, .int .i64 yc, .slice ya ys.length yk] 38)))
  have BX := Lib.hid ((BoxN.alloc2 w (.cells #[.slice ma ls.length mk] 36) #[.int .i64 xr, .int .i64 xc, .slice xa xs.length xk] 38).below (below1 _ (.cells #[.int .i64 yr, .int .i64 yc, .slice ya ys.length yk] 38)))
  have BY := Lib.hid (BoxN.alloc3 w (.cells #[.slice ma ls.length mk] 36) (.cells #[.int .i64 xr, .int .i64 xc, .slice xa xs.length xk] 38) #[.int .i64 yr, .int .i64 yc, .slice ya ys.length yk] 38)
  have B3 := Lib.hid b3
  clear b3
  obtain ⟨n, hN⟩ : ∃ n, n = xs.length := ⟨_, rfl⟩
  obtain ⟨m, hM⟩ : ∃ m, m = ys.length := ⟨_, rfl⟩
  obtain ⟨L, hL⟩ : ∃ L, L = ls.length := ⟨_, rfl⟩
  rw [← hN, ← hM, ← hL] at BM BX BY B3 HG
  rw [← hN, ← hM, ← hL]
  have HN := Lib.hid hN; have HM := Lib.hid hM; have HL := Lib.hid hL
  have hnm := Nat.le_trans hx.len hx.cap
  have hmm := Nat.le_trans hy.len hy.cap
  rw [← hN] at hnm
  rw [← hM] at hmm
  obtain ⟨w3, hw3⟩ : ∃ W, W = ((w.alloc (.cells #[.slice ma L mk] 36)).alloc (.cells #[.int .i64 xr, .int .i64 xc, .slice xa n xk] 38)).alloc (.cells #[.int .i64 yr, .int .i64 yc, .slice ya m yk] 38) := ⟨_, rfl⟩
  rw [← hw3] at BM BX BY B3
  have HW3 := Lib.hid hw3
  have HLS := Lib.hid (hls.below B3.out); have HX := Lib.hid (hx.below B3.out); have HY := Lib.hid (hy.below B3.out)
  have CW : Hid (∀ W, Below w3.heap.size w3 W → W.cell? ⟨w.heap.size, 0, none⟩ = some (.slice ma L mk) ∧ (W.cell? ⟨w.heap.size + 1, 0, none⟩ = some (.int .i64 xr) ∧ W.cell? ⟨w.heap.size + 1, 1, none⟩ = some (.int .i64 xc) ∧ W.cell? ⟨w.heap.size + 1, 2, none⟩ = some (.slice xa n xk)) ∧ W.cell? ⟨w.heap.size + 2, 0, none⟩ = some (.int .i64 yr) ∧ W.cell? ⟨w.heap.size + 2, 1, none⟩ = some (.int .i64 yc) ∧ W.cell? ⟨w.heap.size + 2, 2, none⟩ = some (.slice ya m yk)) := Lib.hid (fun W hb => by
    obtain ⟨-, m0, -⟩ := (BM.out.below hb).one1
    obtain ⟨-, x0, x1, x2, -⟩ := (BX.out.below hb).three
    obtain ⟨-, y0, y1, y2, -⟩ := (BY.out.below hb).three
    exact ⟨m0, ⟨x0, x1, x2⟩, y0, y1, y2⟩)
  have KM := Lib.hid (fun W (hb : Below w3.heap.size w3 W) => impl_ValidModel W ma mk ls (HLS.out.below hb))
  rw [← HL.out] at KM
  have KX := Lib.hid (fun W => impl_ValidTensor xr xc xa n xk hnm W)
  have KY := Lib.hid (fun W => impl_ValidTensor yr yc ya m yk hmm W)
  clear hls hx hy hN hM hL hnm hmm hw3 BM BX BY
  rw [← HN.out, ← HM.out] at hA
  rw [← HL.out] at hB
  simp only [Bool.and_eq_true, decide_eq_true_eq] at hA
  obtain ⟨e1, e2, e3, e4⟩ := hA
  rw [e1] at KM
  rw [e2] at KX
  rw [e3] at KY
  subst e4
  have hln := modB_len e1
  rw [List.length_map, ← HL.out] at hln
  obtain ⟨l0, hl0⟩ := getElem?_lt (show 0 < ls.length by rw [← HL.out]; omega)
  obtain ⟨q, hq⟩ : ∃ q, q = L - 1 := ⟨_, rfl⟩
  obtain ⟨lq, hlq⟩ := getElem?_lt (show q < ls.length by rw [← HL.out]; omega)
  have a0 : (layAt (ls.map LayD.toLayP) 0).i = l0.i := by rw [layAt_some (l := l0.toLayP) (by rw [List.getElem?_map, hl0]; rfl)]
  have aq : (layAt (ls.map LayD.toLayP) (L - 1)).o = lq.o := by rw [← hq, layAt_some (l := lq.toLayP) (by rw [List.getElem?_map, hlq]; rfl)]
  rw [a0, aq] at HG hB
  have KI := Lib.hid (fun W (hb : Below w3.heap.size w3 W) => impl_in W ma mk ls (HLS.out.below hb) L HL.out l0 hl0)
  have KO := Lib.hid (fun W (hb : Below w3.heap.size w3 W) => impl_out W ma mk ls (HLS.out.below hb) L q HL.out hln.2 (by omega) lq hlq)
  obtain ⟨li, hli⟩ : ∃ x, x = l0.i := ⟨_, rfl⟩
  obtain ⟨lo, hlo⟩ : ∃ x, x = lq.o := ⟨_, rfl⟩
  rw [← hli] at KI HG hB
  rw [← hlo] at KO HG hB
  have HLN := Lib.hid hln; have HQ := Lib.hid hq
  clear a0 aq hl0 hlq hli hlo hln hq
  by_cases e5 : xc = li
  rotate_left
  · have f1 : (xc != li) = true := by simpa using e5
    have f2 : (xc == li) = false := by simpa using e5
    have HRN : Hid (R = none) := Lib.hid (by rw [HR.out]; exact modelP_no (by rw [HG.out]; simp [e5]))
    clear hB
    try clear HLN
    try clear HQ
    clear HG HR HLS HX HY HN HM HL hi0 hz0 hzs hz2 hj0 jz0 jzs jz2
    go_enter Try.func37, Try.ntmps37
    go_upto_region 1 with fail
    rw [← HW3.out]
    refine wp_region_low (VI true li lo) (by kernel_rfl) (by kernel_rfl) ?_
    iterate 1 (first | (refine cset_skip (low_self _) (by rfl) (fun K hK => ?_); go_simp; refine hK _ ?_; clear hK K) | (refine cset_yes (low_self _) (by rfl) (fun K hK W hW => ?_); obtain ⟨m0, ⟨x0, x1, x2⟩, y0, y1, y2⟩ := CW.out W hW; go_simp; refine hK _ ?_; clear hK K m0 x0 x1 x2 y0 y1 y2))
    refine cset_yes (low_self _) (by rfl) (fun K hK W hW => ?_)
    go_simp
    refine ⟨(KM.out W hW).mono ?_, ?_⟩
    · rintro e w' ⟨rfl, hb⟩
      exact ⟨_, rfl, bthen hW hb, VI.m true li lo _⟩
    rintro v hv
    obtain rfl := hv.1 rfl
    refine hK _ ?_
    clear hK K hv
    iterate 3 (first | (refine cset_skip (low_self _) (by rfl) (fun K hK => ?_); go_simp; refine hK _ ?_; clear hK K) | (refine cset_yes (low_self _) (by rfl) (fun K hK W hW => ?_); obtain ⟨m0, ⟨x0, x1, x2⟩, y0, y1, y2⟩ := CW.out W hW; go_simp; refine hK _ ?_; clear hK K m0 x0 x1 x2 y0 y1 y2))
    refine cset_yes (low_self _) (by rfl) (fun K hK W hW => ?_)
    go_simp
    refine ⟨(KX.out W).mono ?_, ?_⟩
    · rintro e w' ⟨rfl, hb⟩
      exact ⟨_, rfl, bthen hW hb, VI.t true li lo _ _ _ _ _ e2⟩
    rintro v hv
    obtain rfl := (hv.2.1 rfl _ _ _ _ _ rfl).trans (by rw [e2])
    refine hK _ ?_
    clear hK K hv
    iterate 4 (first | (refine cset_skip (low_self _) (by rfl) (fun K hK => ?_); go_simp; refine hK _ ?_; clear hK K) | (refine cset_yes (low_self _) (by rfl) (fun K hK W hW => ?_); obtain ⟨m0, ⟨x0, x1, x2⟩, y0, y1, y2⟩ := CW.out W hW; go_simp; refine hK _ ?_; clear hK K m0 x0 x1 x2 y0 y1 y2))
    refine cset_yes (low_self _) (by rfl) (fun K hK W hW => ?_)
    go_simp
    refine ⟨(KY.out W).mono ?_, ?_⟩
    · rintro e w' ⟨rfl, hb⟩
      exact ⟨_, rfl, bthen hW hb, VI.t true li lo _ _ _ _ _ e3⟩
    rintro v hv
    obtain rfl := (hv.2.1 rfl _ _ _ _ _ rfl).trans (by rw [e3])
    refine hK _ ?_
    clear hK K hv
    iterate 13 (first | (refine cset_skip (low_self _) (by rfl) (fun K hK => ?_); go_simp; refine hK _ ?_; clear hK K) | (refine cset_yes (low_self _) (by rfl) (fun K hK W hW => ?_); obtain ⟨m0, ⟨x0, x1, x2⟩, y0, y1, y2⟩ := CW.out W hW; go_simp; refine hK _ ?_; clear hK K m0 x0 x1 x2 y0 y1 y2))
    refine cset_yes (low_self _) (by rfl) (fun K hK W hW => ?_)
    go_simp
    refine ⟨(KI.out W hW).mono ?_, ?_⟩
    · rintro e w' ⟨rfl, hb⟩
      exact ⟨_, rfl, bthen hW hb, VI.i true li lo _⟩
    rintro v hv
    obtain rfl := hv.2.2.1 rfl
    refine hK _ ?_
    clear hK K hv
    iterate 6 (first | (refine cset_skip (low_self _) (by rfl) (fun K hK => ?_); go_simp; refine hK _ ?_; clear hK K) | (refine cset_yes (low_self _) (by rfl) (fun K hK W hW => ?_); obtain ⟨m0, ⟨x0, x1, x2⟩, y0, y1, y2⟩ := CW.out W hW; go_simp; refine hK _ ?_; clear hK K m0 x0 x1 x2 y0 y1 y2))
    iterate 1 (first | (refine cset_skip (low_self _) (by rfl) (fun K hK => ?_); go_simp; refine hK _ ?_; clear hK K) | (refine cset_yes (low_self _) (by rfl) (fun K hK W hW => ?_); obtain ⟨m0, ⟨x0, x1, x2⟩, y0, y1, y2⟩ := CW.out W hW; go_simp; refine hK _ ?_; clear hK K m0 x0 x1 x2 y0 y1 y2))
    iterate 2 (first | (refine cset_skip (low_self _) (by rfl) (fun K hK => ?_); go_simp; refine hK _ ?_; clear hK K) | (refine cset_yes (low_self _) (by rfl) (fun K hK W hW => ?_); obtain ⟨m0, ⟨x0, x1, x2⟩, y0, y1, y2⟩ := CW.out W hW; go_simp; refine hK _ ?_; clear hK K m0 x0 x1 x2 y0 y1 y2))
    refine cset_nil ?_
    intro w4 hw4
    have HB4 := Lib.hid (Below.mono hw4 (Nat.le_refl _))
    have HB5 := Lib.hid (bthen B3.out hw4)
    clear hw4
    clear CW KM KX KY HW3 B3 HB4
    try clear KI KO
    go_wp2
    go_ret3
    exact ⟨_, _, _, _, _, _, false, rfl, Lib.hid ⟨by rw [HRN.out]; rfl, fun h => (by cases h), fun _ => ⟨⟨rfl, rfl, rfl⟩, rfl, rfl, rfl⟩⟩, HB5.out⟩
  subst e5
  rw [decide_eq_true rfl, Bool.true_and] at hB
  by_cases e6 : yc = lo
  · rw [decide_eq_true e6] at hB; cases hB
  have f1 : (yc != lo) = true := by simpa using e6
  have f2 : (yc == lo) = false := by simpa using e6
  have HRN : Hid (R = none) := Lib.hid (by rw [HR.out]; exact modelP_no (by rw [HG.out]; simp [e6]))
  clear hB
  try clear HLN
  try clear HQ
  clear HG HR HLS HX HY HN HM HL hi0 hz0 hzs hz2 hj0 jz0 jzs jz2
  go_enter Try.func37, Try.ntmps37
  go_upto_region 1 with fail
  rw [← HW3.out]
  refine wp_region_low (VI true xc lo) (by kernel_rfl) (by kernel_rfl) ?_
  iterate 1 (first | (refine cset_skip (low_self _) (by rfl) (fun K hK => ?_); go_simp; refine hK _ ?_; clear hK K) | (refine cset_yes (low_self _) (by rfl) (fun K hK W hW => ?_); obtain ⟨m0, ⟨x0, x1, x2⟩, y0, y1, y2⟩ := CW.out W hW; go_simp; refine hK _ ?_; clear hK K m0 x0 x1 x2 y0 y1 y2))
  refine cset_yes (low_self _) (by rfl) (fun K hK W hW => ?_)
  go_simp
  refine ⟨(KM.out W hW).mono ?_, ?_⟩
  · rintro e w' ⟨rfl, hb⟩
    exact ⟨_, rfl, bthen hW hb, VI.m true xc lo _⟩
  rintro v hv
  obtain rfl := hv.1 rfl
  refine hK _ ?_
  clear hK K hv
  iterate 3 (first | (refine cset_skip (low_self _) (by rfl) (fun K hK => ?_); go_simp; refine hK _ ?_; clear hK K) | (refine cset_yes (low_self _) (by rfl) (fun K hK W hW => ?_); obtain ⟨m0, ⟨x0, x1, x2⟩, y0, y1, y2⟩ := CW.out W hW; go_simp; refine hK _ ?_; clear hK K m0 x0 x1 x2 y0 y1 y2))
  refine cset_yes (low_self _) (by rfl) (fun K hK W hW => ?_)
  go_simp
  refine ⟨(KX.out W).mono ?_, ?_⟩
  · rintro e w' ⟨rfl, hb⟩
    exact ⟨_, rfl, bthen hW hb, VI.t true xc lo _ _ _ _ _ e2⟩
  rintro v hv
  obtain rfl := (hv.2.1 rfl _ _ _ _ _ rfl).trans (by rw [e2])
  refine hK _ ?_
  clear hK K hv
  iterate 4 (first | (refine cset_skip (low_self _) (by rfl) (fun K hK => ?_); go_simp; refine hK _ ?_; clear hK K) | (refine cset_yes (low_self _) (by rfl) (fun K hK W hW => ?_); obtain ⟨m0, ⟨x0, x1, x2⟩, y0, y1, y2⟩ := CW.out W hW; go_simp; refine hK _ ?_; clear hK K m0 x0 x1 x2 y0 y1 y2))
  refine cset_yes (low_self _) (by rfl) (fun K hK W hW => ?_)
  go_simp
  refine ⟨(KY.out W).mono ?_, ?_⟩
  · rintro e w' ⟨rfl, hb⟩
    exact ⟨_, rfl, bthen hW hb, VI.t true xc lo _ _ _ _ _ e3⟩
  rintro v hv
  obtain rfl := (hv.2.1 rfl _ _ _ _ _ rfl).trans (by rw [e3])
  refine hK _ ?_
  clear hK K hv
  iterate 13 (first | (refine cset_skip (low_self _) (by rfl) (fun K hK => ?_); go_simp; refine hK _ ?_; clear hK K) | (refine cset_yes (low_self _) (by rfl) (fun K hK W hW => ?_); obtain ⟨m0, ⟨x0, x1, x2⟩, y0, y1, y2⟩ := CW.out W hW; go_simp; refine hK _ ?_; clear hK K m0 x0 x1 x2 y0 y1 y2))
  refine cset_yes (low_self _) (by rfl) (fun K hK W hW => ?_)
  go_simp
  refine ⟨(KI.out W hW).mono ?_, ?_⟩
  · rintro e w' ⟨rfl, hb⟩
    exact ⟨_, rfl, bthen hW hb, VI.i true xc lo _⟩
  rintro v hv
  obtain rfl := hv.2.2.1 rfl
  refine hK _ ?_
  clear hK K hv
  iterate 6 (first | (refine cset_skip (low_self _) (by rfl) (fun K hK => ?_); go_simp; refine hK _ ?_; clear hK K) | (refine cset_yes (low_self _) (by rfl) (fun K hK W hW => ?_); obtain ⟨m0, ⟨x0, x1, x2⟩, y0, y1, y2⟩ := CW.out W hW; go_simp; refine hK _ ?_; clear hK K m0 x0 x1 x2 y0 y1 y2))
  refine cset_yes (low_self _) (by rfl) (fun K hK W hW => ?_)
  go_simp
  refine ⟨(KO.out W hW).mono ?_, ?_⟩
  · rintro e w' ⟨rfl, hb⟩
    exact ⟨_, rfl, bthen hW hb, VI.o true xc lo _⟩
  rintro v hv
  obtain rfl := hv.2.2.2 rfl
  refine hK _ ?_
  clear hK K hv
  iterate 2 (first | (refine cset_skip (low_self _) (by rfl) (fun K hK => ?_); go_simp; refine hK _ ?_; clear hK K) | (refine cset_yes (low_self _) (by rfl) (fun K hK W hW => ?_); obtain ⟨m0, ⟨x0, x1, x2⟩, y0, y1, y2⟩ := CW.out W hW; go_simp; refine hK _ ?_; clear hK K m0 x0 x1 x2 y0 y1 y2))
  refine cset_nil ?_
  intro w4 hw4
  have HB4 := Lib.hid (Below.mono hw4 (Nat.le_refl _))
  have HB5 := Lib.hid (bthen B3.out hw4)
  clear hw4
  clear CW KM KX KY HW3 B3 HB4
  try clear KI KO
  go_wp2
  go_ret3
  exact ⟨_, _, _, _, _, _, false, rfl, Lib.hid ⟨by rw [HRN.out]; rfl, fun h => (by cases h), fun _ => ⟨⟨rfl, rfl, rfl⟩, rfl, rfl, rfl⟩⟩, HB5.out⟩
end Go.Proofs.Ytfdgngnnncmfiaa
