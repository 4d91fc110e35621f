/- What the laws choose by the bytes that they get. No condition. -/
import Derived.Test.YtaocilimggpdjaaSlI
namespace Go.Proofs.Ytaocilimggpdjaa
open Go Go.RowKit
set_option linter.unusedVariables false
theorem b10Long_no (a1 a2 : Option Addr) (n1 n2 c1 c2 : Nat) (w : World) (h1 : n1 ≤ 1048576) (h2 : n2 ≤ 1048576) :
    Calls Try.prog 29 #[.slice a1 n1 c1, .slice a2 n2 c2] w fun e w' => e = .returned (.bool false) ∧ w = w' := by
  go_enter Try.func29, Try.ntmps29
  go_wp2
  go_ret
  refine ⟨?_, rfl⟩
  simp
  omega
theorem b10Long_yes (a1 a2 : Option Addr) (n1 n2 c1 c2 : Nat) (w : World) (h : ¬ (n1 ≤ 1048576 ∧ n2 ≤ 1048576)) :
    Calls Try.prog 29 #[.slice a1 n1 c1, .slice a2 n2 c2] w fun e w' => e = .returned (.bool true) ∧ w = w' := by
  by_cases h1 : 1048576 < n1
  · clear h
    go_enter Try.func29, Try.ntmps29
    go_wp2
    go_ret
    exact ⟨rfl, rfl⟩
  · have h2 : 1048576 < n2 := by omega
    clear h
    go_enter Try.func29, Try.ntmps29
    go_wp2
    go_ret
    refine ⟨?_, rfl⟩
    simp
    omega
theorem b10At_any (w : World) (ad : Option Addr) (cap : Nat) (xs : List Int) (h : Ints .u8 w ad cap xs) (i n : Int) (h0 : 0 ≤ i) (h1 : i ≤ 1000000) (hn : 1 ≤ n) (hn2 : n ≤ 1000000) :
    Calls Try.prog 31 #[.slice ad xs.length cap, .int .i64 i, .int .i64 n] w fun e w' => ∃ r : Nat, e = .returned (.int .i64 r) ∧ (r : Int) < n ∧ w = w' := by
  have hm := Nat.le_trans h.len h.cap
  unfold maxLen at hm
  obtain ⟨i, rfl⟩ := Int.eq_ofNat_of_zero_le h0
  by_cases hn1 : n ≤ 1
  · go_enter Try.func31, Try.ntmps31
    go_wp2
    go_ret
    exact ⟨0, rfl, by omega, rfl⟩
  · by_cases hi : i < xs.length
    · obtain ⟨b, off, rfl, _, hc⟩ := h.spot (i := i) hi
      have hcell := hc i hi
      have hw := h.wf (xs.getD i 0) (by rw [List.getD_eq_getElem?_getD, List.getElem?_eq_getElem hi]; exact List.getElem_mem hi)
      obtain ⟨x, hx⟩ : ∃ x, x = xs.getD i 0 := ⟨_, rfl⟩
      rw [← hx] at hcell hw
      have hb := bounds_u8 hw
      obtain ⟨hb0, hb1⟩ := hb
      obtain ⟨l, hl⟩ : ∃ l, l = xs.length := ⟨_, rfl⟩
      rw [← hl] at hi hm ⊢
      clear hx hw hc h hl
      go_enter Try.func31, Try.ntmps31
      go_wp2
      go_ret
      have g0 := Int.emod_nonneg x (show n ≠ 0 by omega)
      have g1 := Int.emod_lt_of_pos x (show 0 < n by omega)
      exact ⟨(x % n).toNat, by rw [Int.toNat_of_nonneg g0]; rfl, by omega, rfl⟩
    · clear h
      obtain ⟨l, hl⟩ : ∃ l, l = xs.length := ⟨_, rfl⟩
      rw [← hl] at hi hm ⊢
      clear hl
      go_enter Try.func31, Try.ntmps31
      go_wp2
      go_ret
      have g0 := Int.emod_nonneg ((i : Int) * 37 + 11) (show n ≠ 0 by omega)
      have g1 := Int.emod_lt_of_pos ((i : Int) * 37 + 11) (show 0 < n by omega)
      exact ⟨(((i : Int) * 37 + 11) % n).toNat, by rw [Int.toNat_of_nonneg g0]; rfl, by omega, rfl⟩
end Go.Proofs.Ytaocilimggpdjaa
