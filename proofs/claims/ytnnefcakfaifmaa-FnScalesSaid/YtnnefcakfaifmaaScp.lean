/- Plain laws of loss scales that are powers of 2. No condition. -/
import Derived.Test.YtnnefcakfaifmaaNext
namespace Go.Proofs.Ytnnefcakfaifmaa
open Go Go.RowKit
set_option linter.unusedVariables false
def scW (e : Nat) : Nat := floatOfInt .f32 ((2 ^ e : Nat) : Int)
theorem sc_all : ∀ e, e < 25 → scW e < 4294967296 ∧ isScaleB (scW e) = true ∧ floatBits .quo .f32 (scW e) 1073741824 = some (fop .quo .f32 (scW e) 1073741824) ∧ isN .f32 (fop .quo .f32 (scW e) 1073741824) = false ∧
    isScaleB (fop .quo .f32 (scW e) 1073741824) = true ∧ downF (fop .quo .f32 (scW e) 1073741824) = fop .quo .f32 (scW e) 1073741824 ∧ isN .f32 (scW e) = false ∧ floatBits .mul .f32 (scW e) 1073741824 = some (fop .mul .f32 (scW e) 1073741824) ∧
    isScaleB (upF (fop .mul .f32 (scW e) 1073741824)) = true ∧ isN .f32 (upF (fop .mul .f32 (scW e) 1073741824)) = false ∧
    upF (fop .mul .f32 (scW e) 1073741824) = (if FloatKind.f32.format.order (scW e) 1266679808 == some .lt then fop .mul .f32 (scW e) 1073741824 else 1266679808) := by decide +kernel
theorem sc_word : ∀ e, e < 25 → floatOfInt .f32 (wrap64 ((2 : Int) ^ e)) = scW e := by decide +kernel
theorem low_all : isScaleB 947912704 = true ∧ downF (fop .quo .f32 947912704 1073741824) = 947912704 := by decide +kernel
theorem nQ_of {s : Nat} {g q : Int} (h : validScaleB s g q = true) : nQ s g q = q := by unfold nQ; rw [if_neg (by rw [h]; decide)]
theorem valid_of {s : Nat} {g q : Int} (h : isScaleB s = true) (h1 : 0 ≤ g) (h2 : g ≤ 1000) (h3 : 1 ≤ q) (h4 : q ≤ 1000) : validScaleB s g q = true := by
  unfold validScaleB; rw [h, inB_iff.2 ⟨h1, h2⟩, inB_iff.2 ⟨h3, h4⟩]; rfl
def scH (e : Nat) : Nat := fop .quo .f32 (scW e) 1073741824
def scT (e : Nat) : Nat := upF (fop .mul .f32 (scW e) 1073741824)
theorem next_bad (e : Nat) (he : e < 25) (q : Int) (h3 : 1 ≤ q) (h4 : q ≤ 1000) (w : World) :
    Calls Try.prog 20 #[.agg #[.float .f32 (scW e), .int .i64 0, .int .i64 q], .bool false] w fun e' w' => e' = .returned (.tuple #[.agg #[.float .f32 (scH e), .int .i64 0, .int .i64 q], .bool true]) ∧ Below w.heap.size w w' := by
  obtain ⟨h0, hs, -, -, -, hd, -⟩ := sc_all e he
  have hv := valid_of (q := q) hs (show (0 : Int) ≤ 0 by decide) (by decide) h3 h4
  have := impl_NextScale (scW e) h0 0 q false w
  rw [hv, nQ_of hv, show nS (scW e) 0 q false = scH e by unfold nS; rw [if_neg (by rw [hv]; decide), if_pos rfl, hd]; rfl, show nG (scW e) 0 q false = 0 by unfold nG; rw [if_neg (by rw [hv]; decide), if_pos rfl]] at this
  exact this
theorem next_good (e : Nat) (he : e < 25) (g q : Int) (h1 : 0 ≤ g) (h2 : g ≤ 1000) (h3 : g + 1 < q) (h4 : q ≤ 1000) (w : World) :
    Calls Try.prog 20 #[.agg #[.float .f32 (scW e), .int .i64 g, .int .i64 q], .bool true] w fun e' w' => e' = .returned (.tuple #[.agg #[.float .f32 (scW e), .int .i64 (g + 1), .int .i64 q], .bool true]) ∧ Below w.heap.size w w' := by
  obtain ⟨h0, hs, -, -, -, -, -⟩ := sc_all e he
  have hv := valid_of (q := q) hs h1 h2 (by omega) h4
  have := impl_NextScale (scW e) h0 g q true w
  rw [hv, nQ_of hv, show nS (scW e) g q true = scW e by unfold nS; rw [if_neg (by rw [hv]; decide), if_neg (by decide), if_neg (by omega)], show nG (scW e) g q true = g + 1 by unfold nG; rw [if_neg (by rw [hv]; decide), if_neg (by decide), if_neg (by omega)]] at this
  exact this
theorem next_full (e : Nat) (he : e < 25) (g q : Int) (h1 : 0 ≤ g) (h2 : g ≤ 1000) (h3 : g + 1 = q) (h4 : q ≤ 1000) (w : World) :
    Calls Try.prog 20 #[.agg #[.float .f32 (scW e), .int .i64 g, .int .i64 q], .bool true] w fun e' w' => e' = .returned (.tuple #[.agg #[.float .f32 (scT e), .int .i64 0, .int .i64 q], .bool true]) ∧ Below w.heap.size w w' := by
  obtain ⟨h0, hs, -, -, -, -, -⟩ := sc_all e he
  have hv := valid_of (q := q) hs h1 h2 (by omega) h4
  have := impl_NextScale (scW e) h0 g q true w
  rw [hv, nQ_of hv, show nS (scW e) g q true = scT e by unfold nS scT; rw [if_neg (by rw [hv]; decide), if_neg (by decide), if_pos (by omega)], show nG (scW e) g q true = 0 by unfold nG; rw [if_neg (by rw [hv]; decide), if_neg (by decide), if_pos (by omega)]] at this
  exact this
theorem next_low (w : World) :
    Calls Try.prog 20 #[.agg #[.float .f32 947912704, .int .i64 0, .int .i64 1], .bool false] w fun e' w' => e' = .returned (.tuple #[.agg #[.float .f32 947912704, .int .i64 0, .int .i64 1], .bool true]) ∧ Below w.heap.size w w' := by
  have hv := valid_of (q := 1) low_all.1 (show (0 : Int) ≤ 0 by decide) (by decide) (by decide) (by decide)
  have := impl_NextScale 947912704 (by decide) 0 1 false w
  rw [hv, nQ_of hv, show nS 947912704 0 1 false = 947912704 by unfold nS; rw [if_neg (by rw [hv]; decide), if_pos rfl, low_all.2], show nG 947912704 0 1 false = 0 by unfold nG; rw [if_neg (by rw [hv]; decide), if_pos rfl]] at this
  exact this
theorem valid_yes (s : Nat) (g q : Int) (hs : isScaleB s = true) (h1 : 0 ≤ g) (h2 : g ≤ 1000) (h3 : 1 ≤ q) (h4 : q ≤ 1000) (w : World) :
    Calls Try.prog 21 #[.agg #[.float .f32 s, .int .i64 g, .int .i64 q]] w fun e w' => e = .returned (.bool true) ∧ Below w.heap.size w w' := by
  have := impl_ValidScale s g q w
  rw [valid_of hs h1 h2 h3 h4] at this
  exact this
end Go.Proofs.Ytnnefcakfaifmaa
