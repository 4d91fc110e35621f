/- The law of empty slots, walked. No condition. -/
import Derived.Test.YtaocilimggpdjaaEmp
namespace Go.Proofs.Ytaocilimggpdjaa
open Go Go.RowKit
set_option linter.unusedVariables false
set_option linter.unusedSimpArgs false
theorem via {P : Program} {f : FuncId} {args : Array Value} {w : World} {A B : Ending → World → Prop} (h : Calls P f args w A) (k : ∀ e w', A e w' → B e w') : Calls P f args w B := h.mono k
theorem spec_l05Is (w : World) (g : Nat) (k : Int) (h : w.cell? ⟨g, 0, none⟩ = some (.int .i64 k)) : Calls Try.prog 75 #[.pointer (some ⟨g, 0, none⟩)] w fun e w' => e = .returned (.bool (inB k 0 4)) ∧ w = w' := by
  go_enter Try.func75, Try.ntmps75
  go_wp2_with fail
  refine (l00In_any _ _ _ _).mono ?_
  rintro e w1 ⟨rfl, rfl⟩
  go_wp2
  go_ret
  exact ⟨rfl, rfl⟩
/-- what empty slots are -/
def EmpPost (w : World) (k cnt : Int) (e : Ending) (w' : World) : Prop := ∃ ad n cap vs Xs, e = .returned (.tuple #[.slice ad n cap, .bool (emptyOk k cnt)]) ∧ RepFF w' w.heap.size w'.heap.size ad n cap vs Xs ∧ Xs = (if emptyOk k cnt = true then zeroRows (slotsN k) cnt.toNat else []) ∧ Below w.heap.size w w'
theorem impl_EmptySlots (k cnt : Int) (r b1 b2 ep : Nat) (w : World) : Calls Try.prog 33 #[.agg #[.int .i64 k, .float .f32 r, .float .f32 b1, .float .f32 b2, .float .f32 ep], .int .i64 cnt] w (EmpPost w k cnt) := by
  cases hok : emptyOk k cnt
  · refine via (A := fun e w' => e = .returned (.tuple #[.slice none 0 0, .bool false]) ∧ Below w.heap.size w w') ?_ fun e w' ⟨he, hb⟩ => ⟨none, 0, 0, [], [], by rw [hok]; exact he, RepFF.nil _ _ _, by rw [hok]; rfl, hb⟩
    unfold emptyOk at hok
    have k1 := fun W => impl_ValidOptimizer k r b1 b2 ep W
    have k2 := fun W => within_any cnt 0 256 W
    have K1 := Lib.hid k1; have K2 := Lib.hid k2; clear k1 k2
    cases h1 : inB k 0 4
    · rw [h1] at K1
      clear hok h1
      go_enter Try.func33, Try.ntmps33
      go_wp2_with fail
      refine (K1.out _).mono ?_
      rintro e w1 ⟨rfl, hb1⟩
      go_wp2
      go_ret2
      exact ⟨rfl, bthen (below1 _ _) hb1⟩
    · have h2 : inB cnt 0 256 = false := by simpa [h1] using hok
      rw [h1] at K1
      rw [h2] at K2
      clear hok h1 h2
      go_enter Try.func33, Try.ntmps33
      go_wp2_with fail
      refine (K1.out _).mono ?_
      rintro e w1 ⟨rfl, hb1⟩
      go_wp2_with fail
      refine (K2.out _).mono ?_
      rintro e w2 ⟨rfl, rfl⟩
      go_wp2
      go_ret2
      exact ⟨rfl, bthen (below1 _ _) hb1⟩
  · refine (impl_EmptySlots_yes k cnt r b1 b2 ep hok w).mono fun e w' ⟨v, vs, he, hz, hb⟩ => ?_
    obtain ⟨ad, cap, rfl, hr⟩ := hz.out.rep
    exact ⟨ad, _, cap, vs, _, by rw [hok]; exact he, hr, by rw [hok]; rfl, hb⟩
end Go.Proofs.Ytaocilimggpdjaa
