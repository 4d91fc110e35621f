/- A step of all parameters: the reference's. No condition. -/
import Derived.Test.YtaocilimggpdjaaStu
namespace Go.Proofs.Ytaocilimggpdjaa
open Go Go.RowKit
set_option linter.unusedVariables false
set_option linter.unusedSimpArgs false
/-- the end of a step of all, the reference's -/
def SpecPost (w : World) (S n : Nat) (O U V : Nat → Nat) (e : Ending) (w' : World) : Prop :=
  ∃ a1 c1 ys a2 c2 us Ys mid, e = .returned (.tuple #[.slice a1 n c1, .slice a2 S c2]) ∧ RepF w' w.heap.size mid a1 n c1 ys ∧ ys.map (cn .f32) = listOf n O ∧
    RepFF w' mid w'.heap.size a2 S c2 us Ys ∧ RowsAre S n U V Ys ∧ w.heap.size ≤ mid ∧ mid ≤ w'.heap.size ∧ Below w.heap.size w w'
theorem RepFF.apart {w : World} {lo hi S cap : Nat} {ad : Option Addr} {vs : List Value} {Xs : List (List Nat)} (h : RepFF w lo hi ad S cap vs Xs) {j b n cj g : Nat} (hj : j < S) (e : vs.getD j (.slice none 0 0) = .slice (some ⟨b, 0, none⟩) n cj) (eg : ad = some ⟨g, 0, none⟩) : g ≠ b := by
  obtain ⟨ai, ci, e1, hf⟩ := h.inn j hj
  rw [e] at e1
  cases e1
  subst eg
  intro hgb
  exact row_kinds h.row hf.row (by decide) g rfl (by rw [hgb]; rfl)
theorem RepFF.setTwoW {w : World} {lo hi S cap : Nat} {ad : Option Addr} {vs : List Value} {Xs : List (List Nat)} (h : RepFF w lo hi ad S cap vs Xs) (hS : 1 < S) {i n : Nat} (hn : ∀ j, j < 2 → (Xs.getD j []).length = n) (hin : i < n) :
    ∃ b b' c c', vs.getD 0 (.slice none 0 0) = .slice (some ⟨b, 0, none⟩) n c ∧ vs.getD 1 (.slice none 0 0) = .slice (some ⟨b', 0, none⟩) n c' ∧ lo ≤ b ∧ lo ≤ b' ∧ b < w.heap.size ∧ b' < w.heap.size ∧ b ≠ b' ∧
      w.cell? ⟨b, i, none⟩ = some (.float .f32 ((Xs.getD 0 []).getD i 0)) ∧ w.frozen? ⟨b, i, none⟩ = false ∧ w.cell? ⟨b', i, none⟩ = some (.float .f32 ((Xs.getD 1 []).getD i 0)) ∧ w.frozen? ⟨b', i, none⟩ = false ∧
      ∀ w1, Below w.heap.size w w1 → ∀ y, y < 4294967296 → ∀ w2, Below (w1.setCell ⟨b, i, none⟩ (.float .f32 y)).heap.size (w1.setCell ⟨b, i, none⟩ (.float .f32 y)) w2 → ∀ z, z < 4294967296 → RepFF (w2.setCell ⟨b', i, none⟩ (.float .f32 z)) lo hi ad S cap vs ((Xs.set 0 ((Xs.getD 0 []).set i y)).set 1 ((Xs.getD 1 []).set i z)) ∧ Touch lo hi w (w2.setCell ⟨b', i, none⟩ (.float .f32 z)) := by
  have hx := h.len
  obtain ⟨b, c, e0, l1, h1, h2, h3, h4⟩ := h.setNum (j := 0) (by omega) (hn 0 (by omega)) hin
  obtain ⟨b', c', e1, l2, g1, g2, g3, g4⟩ := h.setNum (j := 1) (by omega) (hn 1 (by omega)) hin
  refine ⟨b, b', c, c', e0, e1, l1, l2, h1, g1, ?_, h2, h3, g2, g3, fun w1 hb y hy w2 hb2 z hz => ?_⟩
  · intro e
    have := h.sep 0 1 (by omega) (by omega) (by omega) b (by rw [e0]; rfl)
    rw [e1, e] at this
    exact this rfl
  · have k := h4 w1 hb y hy
    have ek : (Xs.set 0 ((Xs.getD 0 []).set i y)).getD 1 [] = Xs.getD 1 [] := by rw [getD_set _ _ _ _ _ (by omega), if_neg (by omega)]
    obtain ⟨b2, c2, e2, _, _, _, _, k4⟩ := k.1.setNum (j := 1) (by omega) (by rw [ek]; exact hn 1 (by omega)) hin
    rw [e1] at e2
    cases e2
    have k5 := k4 _ hb2 z hz
    rw [ek] at k5
    exact ⟨k5.1, k.2.trans k5.2⟩
theorem size_set (w : World) (a : Addr) (v : Value) : (w.setCell a v).heap.size = w.heap.size := by simp [World.setCell]
theorem drewN_size (w : World) (n : Nat) : (w.drewN n).heap.size = w.heap.size := rfl
theorem OptAt.drewN {w : World} {g : Nat} {k : Int} {r b1 b2 ep : Nat} (h : OptAt w g k r b1 b2 ep) (n : Nat) : OptAt (w.drewN n) g k r b1 b2 ep := ⟨h.lt, h.c0, h.c1, h.c2, h.c3, h.c4⟩
theorem slotsN_1 {k : Int} (h0 : ¬ k = 0) : 1 ≤ slotsN k := by unfold slotsN; rw [if_neg h0]; split <;> omega
end Go.Proofs.Ytaocilimggpdjaa
