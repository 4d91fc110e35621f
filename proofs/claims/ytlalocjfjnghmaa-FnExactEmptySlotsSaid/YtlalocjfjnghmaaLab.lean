/- What the mean of absolute values and its gradients are. No condition. -/
import Derived.Test.YtlalocjfjnghmaaLsq
import Derived.Test.YtlalocjfjnghmaaAbs
namespace Go.Proofs.Ytlalocjfjnghmaa
open Go Go.RowKit
set_option linter.unusedVariables false
set_option linter.unusedSimpArgs false
theorem RepF.belowHi {w w' : World} {lo hi B : Nat} {ad : Option Addr} {n cap : Nat} {xs : List Nat} (h : RepF w lo hi ad n cap xs) (hb : Below B w w') (hB : hi ≤ B) : RepF w' lo hi ad n cap xs :=
  h.touch (lo2 := B) (hi2 := w.heap.size) ⟨hb.os, hb.tape, hb.output, hb.size, fun k hk hd => hb.block k (by omega)⟩ (.inl hB)
theorem Touch.setCell {w : World} {lo hi g k : Nat} {v : Value} (h1 : lo ≤ g) (h2 : g < hi) : Touch lo hi w (w.setCell ⟨g, k, none⟩ v) :=
  ⟨rfl, rfl, rfl, by simp [World.setCell], fun j hj hd => Below.heap_setCell _ _ _ _ (by intro e; simp at e; omega)⟩
theorem own_set {w : World} {base g k n : Nat} {v u : Value} {cs : List Value} (h : w.ownsRow base 22 1 v n cs) (hg : g < base) : (w.setCell ⟨g, k, none⟩ u).ownsRow base 22 1 v n cs :=
  ((Row.mk' h).touch (Touch.setCell (lo := 0) (hi := base) (Nat.zero_le _) hg) (.inr (Nat.le_refl _))).own
theorem RepF.lt_hi {w : World} {lo hi g n cap : Nat} {xs : List Nat} (h : RepF w lo hi (some ⟨g, 0, none⟩) n cap xs) : g < hi := h.row.top g rfl
theorem mem_getD {xs : List Nat} {k : Nat} (h : k < xs.length) : xs.getD k 0 ∈ xs := by
  rw [List.getD_eq_getElem?_getD, List.getElem?_eq_getElem h]; exact List.getElem_mem h
def abG (D : Nat → Nat) (n i : Nat) : Nat := match FloatKind.f32.format.order (D i) 0 with
  | some .gt => fop .quo .f32 1065353216 (floatOfInt .f32 n)
  | some .lt => fop .quo .f32 3212836864 (floatOfInt .f32 n)
  | some .eq => 0
  | none => nanOf .f32
def abA (D : Nat → Nat) (i : Nat) : Nat := absW (D i)
def abL (D : Nat → Nat) (n : Nat) : Nat := fop .quo .f32 (sumS (listOf n (abA D)) n) (floatOfInt .f32 n)
theorem cn_one : cn .f32 1065353216 = 1065353216 := by decide +kernel
theorem cn_minus : cn .f32 3212836864 = 3212836864 := by decide +kernel
theorem order_at {x d : Nat} (h : cn .f32 x = d) : FloatKind.f32.format.order d 0 = FloatKind.f32.format.order x 0 := by
  rw [← h, show (0 : Nat) = cn .f32 0 from cn_zero.symm, order_cn, cn_zero]
theorem isN_none {x : Nat} (h : FloatKind.f32.format.order x 0 = none) : isN .f32 x = true := by
  cases hx : isN .f32 x
  · exfalso
    have h0 : isN .f32 0 = false := by decide +kernel
    unfold isN at hx h0
    have h1 : (FloatKind.f32.format.read x).order (FloatKind.f32.format.read 0) = none := h
    cases e1 : FloatKind.f32.format.read x with
    | nan s t => rw [e1] at hx; cases hx
    | infinity s => rw [e1] at h1; cases e2 : FloatKind.f32.format.read 0 with
      | nan s t => rw [e2] at h0; cases h0
      | infinity t => rw [e2] at h1; cases h1
      | number t m p => rw [e2] at h1; cases h1
    | number s m p => rw [e1] at h1; cases e2 : FloatKind.f32.format.read 0 with
      | nan s t => rw [e2] at h0; cases h0
      | infinity t => rw [e2] at h1; cases h1
      | number t m p => rw [e2] at h1; cases h1
  · rfl
end Go.Proofs.Ytlalocjfjnghmaa
