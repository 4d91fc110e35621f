/- What the mean of squares and its gradients are. No condition. -/
import Derived.Test.YtlalocjfjnghmaaLst
namespace Go.Proofs.Ytlalocjfjnghmaa
open Go Go.RowKit
set_option linter.unusedVariables false
set_option linter.unusedSimpArgs false
/-- a list that has been changed in its first k places -/
def stepf (k : Nat) (g f : Nat → Nat) (i : Nat) : Nat := if i < k then g i else f i
theorem stepf_zero (g f : Nat → Nat) : stepf 0 g f = f := by funext i; simp [stepf]
theorem stepf_at (k : Nat) (g f : Nat → Nat) : stepf k g f k = f k := by simp [stepf]
theorem listOf_done (n : Nat) (g f : Nat → Nat) : listOf n (stepf n g f) = listOf n g := listOf_congr fun i hi => by simp [stepf, hi]
theorem set_listOf {n k : Nat} {g f : Nat → Nat} {y : Nat} {zs : List Nat} (h : zs.map (cn .f32) = listOf n (stepf k g f)) (hy : cn .f32 y = g k) : (zs.set k y).map (cn .f32) = listOf n (stepf (k + 1) g f) := by
  rw [List.map_set, h, hy]
  apply List.ext_getElem
  · simp [listOf]
  · intro i h1 h2
    simp only [listOf, List.getElem_set, List.getElem_map, List.getElem_range, stepf]
    by_cases e : k = i
    · subst e; simp
    · rw [if_neg e]
      by_cases e2 : i < k
      · rw [if_pos e2, if_pos (by omega)]
      · rw [if_neg e2, if_neg (by omega)]
theorem RepF.open {w : World} {lo hi : Nat} {ad : Option Addr} {n cap : Nat} {zs : List Nat} (h : RepF w lo hi ad n cap zs) (hp : 0 < n) :
    ∃ g, ad = some ⟨g, 0, none⟩ ∧ lo ≤ g ∧ (∀ k, k < n → w.cell? ⟨g, k, none⟩ = some (.float .f32 (zs.getD k 0))) ∧ (∀ k, w.frozen? ⟨g, k, none⟩ = false) ∧
      (∀ k y, y < 4294967296 → RepF (w.setCell ⟨g, k, none⟩ (.float .f32 y)) lo hi (some ⟨g, 0, none⟩) n cap (zs.set k y)) := by
  obtain ⟨hrow, hlen, hlt⟩ := h
  obtain ⟨g, cap', hform⟩ := Joins.ownsRow_form hrow.own hp
  have had : ad = some ⟨g, 0, none⟩ := by cases hform; rfl
  clear hform
  subst had
  refine ⟨g, rfl, (hrow.own.lt g rfl).1, fun k hk => ?_, fun k => hrow.own.frozenAt k, fun k y hy => ⟨⟨?_, ?_⟩, ?_, ?_⟩⟩
  · rw [hrow.own.cellAt k (by omega), List.getElem?_map, List.getD_eq_getElem?_getD, List.getElem?_eq_getElem (by omega)]; rfl
  · rw [List.map_set]; exact (hrow.own.stored k (.float .f32 y)).1
  · exact hrow.top
  · rw [List.length_set]; exact hlen
  · intro x hx
    rcases List.mem_or_eq_of_mem_set hx with hx | rfl
    · exact hlt x hx
    · exact hy
theorem RepF.setAt {w : World} {lo hi g n cap : Nat} {zs : List Nat} (h : RepF w lo hi (some ⟨g, 0, none⟩) n cap zs) (k y : Nat) (hy : y < 4294967296) (hp : 0 < n) : RepF (w.setCell ⟨g, k, none⟩ (.float .f32 y)) lo hi (some ⟨g, 0, none⟩) n cap (zs.set k y) := by
  obtain ⟨g', hg, _, _, _, hs⟩ := h.open hp
  obtain rfl : g = g' := by simpa using hg
  exact hs k y hy
def sqG (D : Nat → Nat) (n i : Nat) : Nat := fop .quo .f32 (fop .mul .f32 1073741824 (D i)) (floatOfInt .f32 n)
def sqL (D : Nat → Nat) (n : Nat) : Nat := fop .quo .f32 (dotS (listOf n D) (listOf n D) n) (floatOfInt .f32 n)
theorem cn_two : cn .f32 1073741824 = 1073741824 := by decide +kernel
end Go.Proofs.Ytlalocjfjnghmaa
