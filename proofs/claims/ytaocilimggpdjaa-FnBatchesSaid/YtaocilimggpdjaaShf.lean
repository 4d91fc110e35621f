/- Plain laws of shuffled rows. No condition. -/
import Derived.Test.YtaocilimggpdjaaSeed
import Derived.Test.YtaocilimggpdjaaSlI
namespace Go.Proofs.Ytaocilimggpdjaa
open Go Go.RowKit
set_option linter.unusedVariables false
set_option linter.unusedSimpArgs false
def shSeed (s : Int) : Nat → Int
  | 0 => s
  | j + 1 => nextS (shSeed s j)
theorem shSeed_bd {s : Int} (h0 : 0 ≤ s) (h1 : s ≤ 2147483647) : ∀ j, 0 ≤ shSeed s j ∧ shSeed s j ≤ 2147483647
  | 0 => ⟨h0, h1⟩
  | j + 1 => nextS_bd _
def swapL (l : List Int) (i j : Nat) : List Int := (l.set i (l.getD j 0)).set j (l.getD i 0)
theorem swapL_length (l : List Int) (i j : Nat) : (swapL l i j).length = l.length := by simp [swapL]
theorem swapL_perm {l : List Int} {i j : Nat} (hi : i < l.length) (hj : j < l.length) : (swapL l i j).Perm l := by
  unfold swapL
  rw [List.getD_eq_getElem?_getD, List.getD_eq_getElem?_getD, List.getElem?_eq_getElem hi, List.getElem?_eq_getElem hj]
  exact List.set_set_perm hi hj
def idL (n : Nat) : List Int := (List.range n).map fun (i : Nat) => (i : Int)
theorem idL_length (n : Nat) : (idL n).length = n := by simp [idL]
theorem idL_succ (n : Nat) : idL (n + 1) = idL n ++ [(n : Int)] := by simp [idL, List.range_succ]
/-- where the number i goes -/
def shJ (s : Int) (c t : Nat) : Nat := (shSeed s (t + 1) / 65536 % (((c - 1 - t : Nat) : Int) + 1)).toNat
theorem shJ_lt (s : Int) (c t : Nat) : shJ s c t < c - 1 - t + 1 := by
  unfold shJ
  have h0 := Int.emod_nonneg (shSeed s (t + 1) / 65536) (show (((c - 1 - t : Nat) : Int) + 1) ≠ 0 by omega)
  have h1 := Int.emod_lt_of_pos (shSeed s (t + 1) / 65536) (show (0 : Int) < (((c - 1 - t : Nat) : Int) + 1) by omega)
  omega
def shL (c : Nat) (s : Int) : Nat → List Int
  | 0 => idL c
  | t + 1 => swapL (shL c s t) (c - 1 - t) (shJ s c t)
theorem shL_length (c : Nat) (s : Int) : ∀ t, (shL c s t).length = c
  | 0 => idL_length c
  | t + 1 => by simp only [shL, swapL_length]; exact shL_length c s t
theorem shL_perm (c : Nat) (s : Int) (hc : 1 ≤ c) : ∀ t, (shL c s t).Perm (idL c)
  | 0 => List.Perm.refl _
  | t + 1 => by
    have hj := shJ_lt s c t
    exact (swapL_perm (by rw [shL_length]; omega) (by rw [shL_length]; omega)).trans (shL_perm c s hc t)
theorem idL_count (v n : Nat) : (idL n).count (v : Int) = if v < n then 1 else 0 := by
  induction n with
  | zero => rfl
  | succ n ih =>
    rw [idL_succ, List.count_append, ih]
    by_cases h : v = n
    · subst h; simp
    · have h2 : ((n : Int) == (v : Int)) = false := by simp; omega
      rw [List.count_singleton, h2]
      by_cases h3 : v < n
      · have h4 : v < n + 1 := by omega
        simp [h3, h4]
      · have h4 : ¬ v < n + 1 := by omega
        simp [h3, h4]
theorem idL_mem {n : Nat} {x : Int} (h : x ∈ idL n) : 0 ≤ x ∧ x < n := by
  obtain ⟨i, hi, rfl⟩ := List.mem_map.1 h
  have := List.mem_range.1 hi
  omega
def shAll (c : Nat) (s : Int) : List Int := shL c s (c - 1)
theorem shAll_length (c : Nat) (s : Int) : (shAll c s).length = c := shL_length _ _ _
theorem shAll_count (c : Nat) (s : Int) (hc : 1 ≤ c) (v : Nat) : (shAll c s).count (v : Int) = if v < c then 1 else 0 := by
  unfold shAll; rw [(shL_perm c s hc (c - 1)).count_eq]; exact idL_count v c
theorem shAll_at {c : Nat} {s : Int} (hc : 1 ≤ c) {i : Nat} (hi : i < c) : 0 ≤ (shAll c s).getD i 0 ∧ (shAll c s).getD i 0 < c := by
  have h1 : (shAll c s).getD i 0 ∈ shAll c s := by
    rw [List.getD_eq_getElem?_getD, List.getElem?_eq_getElem (by rw [shAll_length]; exact hi)]
    exact List.getElem_mem _
  exact idL_mem ((shL_perm c s hc (c - 1)).mem_iff.1 h1)
/-- how often a number has been seen -/
def seenL (c b : Nat) (l : List Int) : List Int := (List.range c).map fun (v : Nat) => ((b + l.count (v : Int) : Nat) : Int)
theorem seenL_length (c b : Nat) (l : List Int) : (seenL c b l).length = c := by simp [seenL]
theorem seenL_getD {c b : Nat} {l : List Int} {v : Nat} (h : v < c) : (seenL c b l).getD v 0 = ((b + l.count (v : Int) : Nat) : Int) := by
  simp [seenL, List.getD_eq_getElem?_getD, List.getElem?_map, List.getElem?_range, h]
theorem seenL_next {c b : Nat} {l : List Int} {v : Nat} (h : v < c) : (seenL c b l).set v ((seenL c b l).getD v 0 + 1) = seenL c b (l ++ [(v : Int)]) := by
  apply List.ext_getElem?
  intro i
  rw [List.getElem?_set]
  by_cases hi : i < c
  · by_cases e : v = i
    · subst e
      rw [if_pos rfl, if_pos (by rw [seenL_length]; exact h), seenL_getD h]
      simp [seenL, List.getElem?_map, List.getElem?_range, h]
      omega
    · rw [if_neg e]
      have h2 : ((v : Int) == (i : Int)) = false := by simp; omega
      have h3 : ¬ (v : Int) = (i : Int) := by omega
      simp [seenL, List.getElem?_map, List.getElem?_range, hi, List.count_append, List.count_singleton, h2, h3]
  · rw [List.getElem?_eq_none (by rw [seenL_length]; omega)]
    rw [List.getElem?_eq_none (by rw [seenL_length]; omega)]
    split
    · rename_i e; rw [if_neg (by rw [seenL_length]; omega)]
    · rfl
theorem seenL_zero (c : Nat) : seenL c 0 [] = List.replicate c 0 := by
  apply List.ext_getElem?
  intro i
  by_cases hi : i < c
  · simp [seenL, List.getElem?_map, List.getElem?_range, hi, List.getElem?_replicate]
  · rw [List.getElem?_eq_none (by rw [seenL_length]; omega), List.getElem?_eq_none (by simpa using hi)]
theorem take_next {l : List Int} {k : Nat} (h : k < l.length) : l.take (k + 1) = l.take k ++ [l.getD k 0] := by
  rw [List.take_succ_eq_append_getElem h, List.getD_eq_getElem?_getD, List.getElem?_eq_getElem h]; rfl
end Go.Proofs.Ytaocilimggpdjaa
