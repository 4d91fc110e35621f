/- What the spread of finite numbers is. No condition. -/
import Derived.Test.YtaocilimggpdjaaAbs
namespace Go.Proofs.Ytaocilimggpdjaa
open Go Go.RowKit Ieee
set_option linter.unusedVariables false
set_option linter.unusedSimpArgs false
theorem impl_areFinite_1 (x : Nat) (w : World) : Calls Try.prog 167 #[.float .f32 x] w fun e w' => e = .returned (.bool !(finB x)) ∧ Dr w w' := by
  go_enter Try.func167, Try.ntmps167
  go_wp2_with (go_at_call 46; refine (impl_IsFinite _ _).mono ?_; rintro e w' ⟨rfl, ⟨q, rfl⟩⟩)
  go_ret
  exact ⟨rfl, _, rfl⟩
def IdxPostF (p : Nat → Bool) (xs : List Nat) (w : World) (e : Ending) (w' : World) : Prop := ∃ i : Int, e = .returned (.int .i64 i) ∧ decide (0 ≤ i) = xs.any p ∧ Dr w w'
theorem idx_fin (w : World) (ad : Option Addr) (cap : Nat) (xs : List Nat) (h : F32s w ad cap xs) (hn : xs.length ≤ 1048576) :
    Calls Try.prog 172 #[.slice ad xs.length cap, .func (.func 167) #[] #[]] w (IdxPostF (fun n => !(finB n)) xs w) := by
  obtain ⟨n, hN⟩ : ∃ n, n = xs.length := ⟨_, rfl⟩
  rw [← hN] at hn ⊢
  have HN := Lib.hid hN; clear hN
  go_enter Try.func172, Try.ntmps172
  go_wp2
  go_loopw [8] (fun i wr => ∃ k : Nat, i = .int .i64 k ∧ k ≤ n ∧ (xs.take k).any (fun n => !(finB n)) = false ∧ Dr w wr) (fun i _ => n - (intOf i).toNat)
  case atStart => exact ⟨0, rfl, Nat.zero_le _, rfl, Dr.refl _⟩
  case round =>
    obtain ⟨k, rfl, hk, hno, hdr⟩ := hrel
    have h := h.below hdr.below
    have HO := Lib.hid hno; have HD := Lib.hid hdr; clear hno hdr
    by_cases hlt : k < n
    · have hkx : k < xs.length := by rw [← HN.out]; exact hlt
      obtain ⟨b, off, rfl, _, hc⟩ := h.spot (k := k) hkx
      have hc1 := hc k hkx
      obtain ⟨x, hx⟩ : ∃ x, x = xs.getD k 0 := ⟨_, rfl⟩
      rw [← hx] at hc1
      have HX := Lib.hid hx; clear hx hc h
      cases hb : finB x
      · go_wp2_with (go_at_call 167; refine (impl_areFinite_1 _ _).mono ?_; rintro e w' ⟨rfl, ⟨q, rfl⟩⟩)
        go_ret
        refine ⟨k, rfl, ?_, HD.out.drewN _⟩
        have : (xs.any fun n => !(finB n)) = true := by
          rw [List.any_eq_true]
          exact ⟨xs.getD k 0, by rw [List.getD_eq_getElem?_getD, List.getElem?_eq_getElem hkx]; exact List.getElem_mem hkx, by rw [← HX.out, hb]; rfl⟩
        rw [this]; simp
      · go_wp2_with (go_at_call 167; refine (impl_areFinite_1 _ _).mono ?_; rintro e w' ⟨rfl, ⟨q, rfl⟩⟩)
        go_roundw
        case rel =>
          refine ⟨k + 1, by go_num, hlt, ?_, HD.out.drewN _⟩
          rw [List.take_succ_eq_append_getElem hkx, List.any_append, HO.out]
          have : xs[k] = x := by rw [HX.out, List.getD_eq_getElem?_getD, List.getElem?_eq_getElem hkx]; rfl
          simp [this, hb]
        case measure => simp [intOf]; omega
    · have hkn : k = n := by omega
      subst hkn
      go_wp2
      go_ret
      refine ⟨-1, rfl, ?_, HD.out⟩
      have := HO.out
      rw [HN.out, List.take_length] at this
      rw [this]; rfl
theorem contains_fin (w : World) (ad : Option Addr) (cap : Nat) (xs : List Nat) (h : F32s w ad cap xs) (hn : xs.length ≤ 1048576) :
    Calls Try.prog 166 #[.slice ad xs.length cap, .func (.func 167) #[] #[]] w fun e w' => e = .returned (.bool (xs.any (fun n => !(finB n)))) ∧ Dr w w' := by
  have hc := idx_fin w ad cap xs h hn
  have HC := Lib.hid hc; clear hc
  go_enter Try.func166, Try.ntmps166
  go_wp2_with fail
  refine HC.out.mono ?_
  rintro e w' ⟨i, rfl, hi, q, rfl⟩
  have HI := Lib.hid hi; clear hi
  go_wp2
  go_ret
  exact ⟨by rw [← HI.out]; rfl, _, rfl⟩
theorem impl_areFinite (w : World) (ad : Option Addr) (cap : Nat) (xs : List Nat) (h : F32s w ad cap xs) (hn : xs.length ≤ 1048576) :
    Calls Try.prog 155 #[.slice ad xs.length cap] w fun e w' => e = .returned (.bool (xs.all finB)) ∧ Dr w w' := by
  have hc := contains_fin w ad cap xs h hn
  have HC := Lib.hid hc; clear hc
  go_enter Try.func155, Try.ntmps155
  go_wp2_with fail
  refine HC.out.mono ?_
  rintro e w' ⟨rfl, q, rfl⟩
  go_wp2
  go_ret
  exact ⟨by simp [List.all_eq_not_any_not], _, rfl⟩
theorem impl_areFew (w : World) (ad : Option Addr) (cap : Nat) (xs : List Nat) (h : F32s w ad cap xs) :
    Calls Try.prog 113 #[.slice ad xs.length cap] w fun e w' => e = .returned (.bool (fewFin xs)) ∧ Dr w w' := by
  unfold fewFin
  have hm := Nat.le_trans h.len h.cap
  unfold maxLen at hm
  by_cases hn : xs.length ≤ 256
  · rw [decide_eq_true hn]
    have hc := impl_areFinite w ad cap xs h (by omega)
    have HC := Lib.hid hc; clear hc
    go_enter Try.func113, Try.ntmps113
    go_wp2_with (refine HC.out.mono ?_; rintro e w' ⟨rfl, q, rfl⟩)
    go_ret
    exact ⟨rfl, _, rfl⟩
  · rw [decide_eq_false hn]
    go_enter Try.func113, Try.ntmps113
    go_wp2
    go_ret
    exact ⟨rfl, Dr.refl _⟩
end Go.Proofs.Ytaocilimggpdjaa
