/- What LossEntropy of both sides returns. No condition. -/
import Derived.Test.YtaocilimggpdjaaEn3
namespace Go.Proofs.Ytaocilimggpdjaa
open Go Go.RowKit Ieee
set_option linter.unusedVariables false
set_option linter.unusedSimpArgs false
def entL (xs : List Nat) (l : Int) : Nat := if entOk xs.length l = true then tE (xs.map (cn .f32)) (gBest xs xs.length) xs.length l.toNat else 0
def entG (xs : List Nat) (l : Int) : List Nat := if entOk xs.length l = true then listOf xs.length (lE (xs.map (cn .f32)) (gBest xs xs.length) xs.length l.toNat) else []
def EntPost (w : World) (xs : List Nat) (l : Int) (e : Ending) (w' : World) : Prop :=
  ∃ (r : Nat) (ad' : Option Addr) (n cap' : Nat) (ys : List Nat) (b : Bool), e = .returned (.tuple #[.float .f32 r, .slice ad' n cap', .bool b]) ∧ cn .f32 r = entL xs l ∧ RepF w' w.heap.size w'.heap.size ad' n cap' ys ∧ ys.map (cn .f32) = entG xs l ∧ n ≤ 1048576 ∧ b = entOk xs.length l ∧ Below w.heap.size w w'
theorem EntPost.no {w w' : World} {xs : List Nat} {l : Int} {e : Ending} (hok : entOk xs.length l = false) (he : e = .returned (.tuple #[.float .f32 0, .slice none 0 0, .bool false])) (hw : w = w') : EntPost w xs l e w' := by
  subst hw
  refine ⟨0, none, 0, 0, [], false, he, ?_, RepF.nil _ _ _, ?_, by omega, hok.symm, Below.refl _ _⟩
  · unfold entL; rw [if_neg (by rw [hok]; decide)]; decide +kernel
  · unfold entG; rw [if_neg (by rw [hok]; decide)]; rfl
theorem EntPost.yes {w w' : World} {xs : List Nat} {l : Int} {e : Ending} {r : Nat} {ad' : Option Addr} {cap' : Nat} {ys : List Nat} {m : Nat} (hm : l = m) (hok : entOk xs.length l = true) (he : e = .returned (.tuple #[.float .f32 r, .slice ad' xs.length cap', .bool true]))
    (h : Hid (cn .f32 r = tE (xs.map (cn .f32)) (gBest xs xs.length) xs.length m ∧ RepF w' w.heap.size w'.heap.size ad' xs.length cap' ys ∧ ys.map (cn .f32) = listOf xs.length (lE (xs.map (cn .f32)) (gBest xs xs.length) xs.length m) ∧ Below w.heap.size w w')) (hn : xs.length ≤ 8) : EntPost w xs l e w' := by
  obtain ⟨h1, h2, h3, h4⟩ := h.out
  subst hm
  refine ⟨r, ad', _, cap', ys, true, he, ?_, h2, ?_, by omega, hok.symm, h4⟩
  · unfold entL; rw [if_pos hok, Int.toNat_natCast]; exact h1
  · unfold entG; rw [if_pos hok, Int.toNat_natCast]; exact h3
theorem entOk_iff {n : Nat} {l : Int} : entOk n l = true ↔ (1 ≤ n ∧ n ≤ 8) ∧ 0 ≤ l ∧ l < n := by
  unfold entOk
  rw [Bool.and_eq_true, inB_iff, inB_iff]
  omega
set_option maxRecDepth 100000 in
theorem impl_LossEntropy (w : World) (ad : Option Addr) (cap : Nat) (xs : List Nat) (h : F32s w ad cap xs) (l : Int) :
    Calls Try.prog 27 #[.slice ad xs.length cap, .int .i64 l] w (EntPost w xs l) := by
  have m1 := Nat.le_trans h.len h.cap
  unfold maxLen at m1
  cases hok : entOk xs.length l
  · have k1 := fun W => impl_isSize xs.length W
    have k2 := fun W => within_any l 0 ((xs.length : Int) - 1) W
    have fin := fun e w' => @EntPost.no w w' xs l e hok
    obtain ⟨n, hn⟩ : ∃ n, n = xs.length := ⟨_, rfl⟩
    rw [← hn] at k1 k2 hok m1 ⊢
    have FIN := Lib.hid fin
    unfold entOk at hok
    clear h hn fin
    cases e1 : inB n 1 8
    · rw [e1] at k1
      have K1 := Lib.hid k1; clear k1 k2 hok
      go_enter Try.func27, Try.ntmps27
      go_wp2_with fail
      refine (K1.out _).mono ?_
      rintro e w1 ⟨rfl, rfl⟩
      go_wp2
      go_ret3
      exact FIN.out _ _ rfl rfl
    · rw [e1] at k1 hok
      have e2 : inB l 0 ((n : Int) - 1) = false := by simpa using hok
      rw [e2] at k2
      have hi := inB_iff.1 e1
      have K1 := Lib.hid k1; have K2 := Lib.hid k2; clear k1 k2 hok e1 e2
      go_enter Try.func27, Try.ntmps27
      go_wp2_with fail
      refine (K1.out _).mono ?_
      rintro e w1 ⟨rfl, rfl⟩
      go_wp2_with fail
      refine (K2.out _).mono ?_
      rintro e w1 ⟨rfl, rfl⟩
      go_wp2
      go_ret3
      exact FIN.out _ _ rfl rfl
  · obtain ⟨⟨h1, h8⟩, h0, hl⟩ := entOk_iff.1 hok
    obtain ⟨m, rfl⟩ := Int.eq_ofNat_of_zero_le h0
    exact (impl_LossEntropy_yes w ad cap xs h xs.length rfl h1 h8 m (by omega)).mono fun e w' ⟨r, a', c', ys, he, hh⟩ => EntPost.yes rfl hok he hh h8
set_option maxRecDepth 100000 in
theorem spec_LossEntropy (w : World) (ad : Option Addr) (cap : Nat) (xs : List Nat) (h : F32s w ad cap xs) (l : Int) :
    Calls Try.prog 26 #[.slice ad xs.length cap, .int .i64 l] w (EntPost w xs l) := by
  have m1 := Nat.le_trans h.len h.cap
  unfold maxLen at m1
  cases hok : entOk xs.length l
  · have k2 := fun W => l00In_any l 0 ((xs.length : Int) - 1) W
    have fin := fun e w' => @EntPost.no w w' xs l e hok
    obtain ⟨n, hn⟩ : ∃ n, n = xs.length := ⟨_, rfl⟩
    rw [← hn] at k2 hok m1 ⊢
    have FIN := Lib.hid fin
    unfold entOk at hok
    clear h hn fin
    by_cases e0 : n < 1
    · have i0 : (n : Int) < 1 := by omega
      clear k2 hok
      go_enter Try.func26, Try.ntmps26
      go_wp2
      go_ret3
      exact FIN.out _ _ rfl rfl
    by_cases e8 : 8 < n
    · have i0 : (1 : Int) ≤ n := by omega
      have i8 : (8 : Int) < n := by omega
      clear k2 hok
      go_enter Try.func26, Try.ntmps26
      go_wp2
      go_ret3
      exact FIN.out _ _ rfl rfl
    have e1 : inB n 1 8 = true := inB_iff.2 ⟨by omega, by omega⟩
    rw [e1] at hok
    have e2 : inB l 0 ((n : Int) - 1) = false := by simpa using hok
    rw [e2] at k2
    have i1 : (1 : Int) ≤ n := by omega
    have i8 : (n : Int) ≤ 8 := by omega
    have K2 := Lib.hid k2; clear k2 hok e1 e2
    go_enter Try.func26, Try.ntmps26
    go_wp2_with fail
    refine (K2.out _).mono ?_
    rintro e w1 ⟨rfl, rfl⟩
    go_wp2
    go_ret3
    exact FIN.out _ _ rfl rfl
  · obtain ⟨⟨h1, h8⟩, h0, hl⟩ := entOk_iff.1 hok
    obtain ⟨m, rfl⟩ := Int.eq_ofNat_of_zero_le h0
    exact (spec_LossEntropy_yes w ad cap xs h xs.length rfl h1 h8 m (by omega)).mono fun e w' ⟨r, a', c', ys, he, hh⟩ => EntPost.yes rfl hok he hh h8
end Go.Proofs.Ytaocilimggpdjaa
