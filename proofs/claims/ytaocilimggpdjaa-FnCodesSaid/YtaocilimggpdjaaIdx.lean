/- What the library's searches by a function do on integers, for whatever function. No condition. -/
import Derived.Test.YtaocilimggpdjaaSlI
namespace Go.Proofs.Ytaocilimggpdjaa
open Go Go.RowKit
set_option linter.unusedVariables false
def IdxAny (p : Int → Bool) (xs : List Int) (w : World) (e : Ending) (w' : World) : Prop := ∃ i : Int, e = .returned (.int .i64 i) ∧ decide (0 ≤ i) = xs.any p ∧ w = w'
theorem idx_any (w : World) (ad : Option Addr) (cap : Nat) (xs : List Int) (h : Ints .i64 w ad cap xs) (hn : xs.length ≤ 1048576) (G : Nat) (caps : Array Value) (p : Int → Bool) (hG : ∀ (args : Array Value) (W : World), (callFunc G args).run Try.prog W = .ok (.enter G args) W)
    (hcl : ∀ W (n : Int), Calls Try.prog G (#[.int .i64 n] ++ caps) W fun e w' => e = .returned (.bool (p n)) ∧ W = w') :
    Calls Try.prog 156 #[.slice ad xs.length cap, .func (.func G) #[] caps] w (IdxAny p xs w) := by
  obtain ⟨n, hN⟩ : ∃ n, n = xs.length := ⟨_, rfl⟩
  rw [← hN] at hn ⊢
  have HN := Lib.hid hN; have HCL := Lib.hid hcl; clear hN hcl
  go_enter Try.func156, Try.ntmps156
  go_wp2
  go_loop [8] (fun i => ∃ k : Nat, i = .int .i64 k ∧ k ≤ n ∧ (xs.take k).any p = false) (fun i => n - (intOf i).toNat)
  case atStart => exact ⟨0, rfl, Nat.zero_le _, rfl⟩
  case round =>
    obtain ⟨k, rfl, hk, hno⟩ := hrel
    have HO := Lib.hid hno; clear hno
    by_cases hlt : k < n
    · have hkx : k < xs.length := by rw [← HN.out]; exact hlt
      obtain ⟨b, off, rfl, _, hc⟩ := h.spot (i := k) hkx
      have hc1 := hc k hkx
      obtain ⟨x, hx⟩ : ∃ x, x = xs.getD k 0 := ⟨_, rfl⟩
      rw [← hx] at hc1
      have HX := Lib.hid hx; clear hx hc
      cases hb : p x
      · have HB := Lib.hid hb; clear hb
        go_wp2_with fail
        refine (HCL.out _ _).mono ?_
        rintro e w' ⟨rfl, rfl⟩
        have hb := HB.out
        go_wp2
        go_round
        case rel =>
          refine ⟨k + 1, by go_num, hlt, ?_⟩
          rw [List.take_succ_eq_append_getElem hkx, List.any_append, HO.out]
          have : xs[k] = x := by rw [HX.out, List.getD_eq_getElem?_getD, List.getElem?_eq_getElem hkx]; rfl
          simp [this, hb]
        case measure => simp [intOf]; omega
      · have HB := Lib.hid hb; clear hb
        go_wp2_with fail
        refine (HCL.out _ _).mono ?_
        rintro e w' ⟨rfl, rfl⟩
        have hb := HB.out
        go_wp2
        go_ret
        refine ⟨k, rfl, ?_, rfl⟩
        have : (xs.any p) = true := by
          rw [List.any_eq_true]
          exact ⟨xs.getD k 0, by rw [List.getD_eq_getElem?_getD, List.getElem?_eq_getElem hkx]; exact List.getElem_mem hkx, by rw [← HX.out, hb]⟩
        rw [this]; simp
    · have hkn : k = n := by omega
      subst hkn
      go_wp2
      go_ret
      refine ⟨-1, rfl, ?_, rfl⟩
      have := HO.out
      rw [HN.out, List.take_length] at this
      rw [this]; rfl
theorem contains_any (w : World) (ad : Option Addr) (cap : Nat) (xs : List Int) (h : Ints .i64 w ad cap xs) (hn : xs.length ≤ 1048576) (G : Nat) (caps : Array Value) (p : Int → Bool) (hG : ∀ (args : Array Value) (W : World), (callFunc G args).run Try.prog W = .ok (.enter G args) W)
    (hcl : ∀ W (n : Int), Calls Try.prog G (#[.int .i64 n] ++ caps) W fun e w' => e = .returned (.bool (p n)) ∧ W = w') :
    Calls Try.prog 124 #[.slice ad xs.length cap, .func (.func G) #[] caps] w fun e w' => e = .returned (.bool (xs.any p)) ∧ w = w' := by
  have hc := idx_any w ad cap xs h hn G caps p hG hcl
  have HC := Lib.hid hc; clear hc hcl hG
  go_enter Try.func124, Try.ntmps124
  go_wp2_with fail
  refine HC.out.mono ?_
  rintro e w' ⟨i, rfl, hi, rfl⟩
  have HI := Lib.hid hi; clear hi
  go_wp2
  go_ret
  exact ⟨by rw [← HI.out]; rfl, rfl⟩
end Go.Proofs.Ytaocilimggpdjaa
