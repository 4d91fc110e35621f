/- The law of loss scales, walked. No condition. -/
import Derived.Test.YtnnefcakfaifmaaScp
import Derived.Test.YtnnefcakfaifmaaEat
namespace Go.Proofs.Ytnnefcakfaifmaa
open Go Go.RowKit
set_option linter.unusedVariables false
set_option maxHeartbeats 8000000 in
set_option maxRecDepth 100000 in
theorem fnScales_walk (w : World) (a0 : Option Addr) (c0 : Nat) (l0 : List Int) (A0 : Ints .u8 w a0 c0 l0) (a1 : Option Addr) (c1 : Nat) (l1 : List Int) (A1 : Ints .u8 w a1 c1 l1) :
    Calls Try.prog 4 #[.slice a0 l0.length c0, .slice a1 l1.length c1] w fun e w' => e = .returned (.bool true) ∧ Below w.heap.size w w' := by
  by_cases hlong : l0.length ≤ 48 ∧ l1.length ≤ 48
  rotate_left
  · go_enter Try.func4, Try.ntmps4
    go_wp2_with fail
    refine (r8Long_yes _ _ _ _ _ _ _ hlong).mono ?_
    rintro e w1 ⟨rfl, rfl⟩
    go_wp2
    go_ret
    exact ⟨rfl, Below.refl _ _⟩
  obtain ⟨hl0, hl1⟩ := hlong
  go_enter Try.func4, Try.ntmps4
  go_wp2_with fail
  refine (r8Long_no _ _ _ _ _ _ _ hl0 hl1).mono ?_
  rintro e w1 ⟨rfl, rfl⟩
  clear hl0 hl1 A1
  go_wp2_with fail
  refine (r8At_any _ _ _ _ A0 0 25 (by decide) (by decide) (by decide) (by decide)).mono ?_
  rintro e w1 ⟨x, rfl, hx, rfl⟩
  have hx := Int.ofNat_lt.1 hx
  go_wp2_with fail
  refine (r8At_any _ _ _ _ A0 1 6 (by decide) (by decide) (by decide) (by decide)).mono ?_
  rintro e w1 ⟨q, rfl, hq, rfl⟩
  have hq := Int.ofNat_lt.1 hq
  clear A0
  have hS := sc_word x hx
  obtain ⟨z0, z1, z2, z3, z4, z5, z6, z7, z8, z9, z10⟩ := sc_all x hx
  have q1 : ∀ w, fbits .quo .f32 (scW x) 1073741824 w = scH x := fun w => fbits_some z2 w
  have q2 := fdr_some z2
  have q3 : FloatKind.f32.format.order (scH x) (scH x) = some .eq := by rw [order_self, show isN .f32 (scH x) = false from z3]; rfl
  have q4 : FloatKind.f32.format.order (scW x) (scW x) = some .eq := by rw [order_self, z6]; rfl
  have q5 : ∀ w, fbits .mul .f32 (scW x) 1073741824 w = fop .mul .f32 (scW x) 1073741824 := fun w => fbits_some z7 w
  have q6 := fdr_some z7
  have q7 : FloatKind.f32.format.order (scT x) (scT x) = some .eq := by rw [order_self, show isN .f32 (scT x) = false from z9]; rfl
  have q8 : FloatKind.f32.format.order 947912704 947912704 = some .eq := by decide +kernel
  have hz := World.drewN_none
  have Z1 := Lib.hid z1; have Z4 : Hid (isScaleB (scH x) = true) := Lib.hid z4; have Z8 : Hid (isScaleB (scT x) = true) := Lib.hid z8; have Z10 : Hid (scT x = _) := Lib.hid z10
  clear z0 z1 z2 z3 z4 z5 z6 z7 z8 z9 z10
  go_wp2_with fail
  refine (next_bad x hx _ (by omega) (by omega) _).mono ?_
  rintro e w1 ⟨rfl, hb1⟩
  obtain ⟨hc1, hf1, hl1⟩ := bkeep w.heap.size hb1 (by simp)
  go_wp2_with fail
  refine (valid_yes _ _ _ Z1.out (by omega) (by omega) (by omega) (by omega) _).mono ?_
  rintro e w2 ⟨rfl, hb2⟩
  obtain ⟨hc2, hf2, hl2⟩ := bkeep w.heap.size hb2 (by simp; omega)
  obtain ⟨hc3, hf3, hl3⟩ := bkeep w1.heap.size hb2 (by simp)
  go_wp2_with fail
  refine (valid_yes _ _ _ Z4.out (by omega) (by omega) (by omega) (by omega) _).mono ?_
  rintro e w3 ⟨rfl, hb3⟩
  obtain ⟨hc4, hf4, hl4⟩ := bkeep w.heap.size hb3 (by omega)
  obtain ⟨hc5, hf5, hl5⟩ := bkeep w1.heap.size hb3 (by omega)
  go_wp2
  have hB : Below w.heap.size w w3 := bthen (bthen ((bthen (below1 _ _) hb1).alloc (by omega) _) hb2) hb3
  have hww : w.heap.size ≤ w3.heap.size := hB.size
  go_loopw [10] (fun i wr => ∃ k : Nat, i = .int .i64 k ∧ 1 ≤ k ∧ k ≤ q + 2 ∧ ∃ (g : Int) (s : Nat), Hid ((k ≤ q + 1 ∧ g = (k : Int) - 1 ∧ s = scW x) ∨ (k = q + 2 ∧ g = 0 ∧ s = scT x)) ∧ Below w.heap.size w wr ∧ w3.heap.size < wr.heap.size ∧
      (wr.cell? ⟨w.heap.size, 0, none⟩ = some (.float .f32 (scW x)) ∧ wr.cell? ⟨w.heap.size, 1, none⟩ = some (.int .i64 0) ∧ wr.cell? ⟨w.heap.size, 2, none⟩ = some (.int .i64 (1 + q))) ∧
      (wr.cell? ⟨w3.heap.size, 0, none⟩ = some (.float .f32 s) ∧ wr.cell? ⟨w3.heap.size, 1, none⟩ = some (.int .i64 g) ∧ wr.cell? ⟨w3.heap.size, 2, none⟩ = some (.int .i64 (1 + q))) ∧ (∀ o, wr.frozen? ⟨w3.heap.size, o, none⟩ = false)) (fun i _ => q + 2 - (intOf i).toNat)
  case atStart =>
    refine ⟨1, rfl, Nat.le_refl _, by omega, 0, scW x, Lib.hid (.inl ⟨by omega, by omega, rfl⟩), hB.alloc (by omega) _, by simp, ⟨?_, ?_, ?_⟩, ⟨?_, ?_, ?_⟩, ?_⟩
    all_goals go_simp
  case round =>
    clear hB hb1 hb2 hb3
    obtain ⟨k, rfl, hk1, hk2, g, s, HS, hb, hsz, ⟨d0, d1, d2⟩, ⟨e0, e1, e2⟩, hfz⟩ := hrel
    by_cases hk : k ≤ q
    · obtain ⟨rfl, rfl⟩ : g = (k : Int) - 1 ∧ s = scW x := by rcases HS.out with h | h <;> first | exact h.2 | omega
      have hb0 : 0 ≤ (k : Int) - 1 := by omega
      go_wp2_with fail
      refine (next_good x hx _ _ hb0 (by omega) (by omega) (by omega) _).mono ?_
      rintro e w4 ⟨rfl, hb4⟩
      obtain ⟨hc6, hf6, hl6⟩ := bkeep w.heap.size hb4 (by omega)
      obtain ⟨hc7, hf7, hl7⟩ := bkeep w3.heap.size hb4 hsz
      go_wp2_with fail
      refine (valid_yes _ _ _ Z1.out (by omega) (by omega) (by omega) (by omega) _).mono ?_
      rintro e w5 ⟨rfl, hb5⟩
      obtain ⟨hc8, hf8, hl8⟩ := bkeep w.heap.size hb5 (by simp; omega)
      obtain ⟨hc9, hf9, hl9⟩ := bkeep w3.heap.size hb5 (by simp; omega)
      obtain ⟨hca, hfa, hla⟩ := bkeep w4.heap.size hb5 (by simp)
      go_wp2
      go_roundw
      case rel =>
        refine ⟨k + 1, by go_num, by omega, by omega, (k : Int), scW x, Lib.hid (.inl ⟨by omega, by omega, rfl⟩), ((((bthen ((bthen hb hb4).alloc (by omega) _) hb5).setCell (by omega) _).setCell (by omega) _).setCell (by omega) _), by simp [World.setCell]; omega, ⟨?_, ?_, ?_⟩, ⟨?_, ?_, ?_⟩, ?_⟩
        all_goals go_simp
      case measure => simp [intOf]; omega
    · by_cases hk' : k = q + 1
      · obtain ⟨rfl, rfl⟩ : g = (k : Int) - 1 ∧ s = scW x := by rcases HS.out with h | h <;> first | exact h.2 | omega
        have hk1' : k ≤ q + 1 := by omega
        have hk2' : q + 1 ≤ k := by omega
        clear hk' hk
        have hb0 : 0 ≤ (k : Int) - 1 := by omega
        go_wp2_with fail
        refine (next_full x hx _ _ hb0 (by omega) (by omega) (by omega) _).mono ?_
        rintro e w4 ⟨rfl, hb4⟩
        obtain ⟨hc6, hf6, hl6⟩ := bkeep w.heap.size hb4 (by omega)
        obtain ⟨hc7, hf7, hl7⟩ := bkeep w3.heap.size hb4 hsz
        go_wp2_with fail
        refine (valid_yes _ _ _ Z8.out (by omega) (by omega) (by omega) (by omega) _).mono ?_
        rintro e w5 ⟨rfl, hb5⟩
        obtain ⟨hc8, hf8, hl8⟩ := bkeep w.heap.size hb5 (by simp; omega)
        obtain ⟨hc9, hf9, hl9⟩ := bkeep w3.heap.size hb5 (by simp; omega)
        obtain ⟨hca, hfa, hla⟩ := bkeep w4.heap.size hb5 (by simp)
        go_wp2
        go_roundw
        case rel =>
          refine ⟨k + 1, by go_num, by omega, by omega, 0, scT x, Lib.hid (.inr ⟨by omega, by omega, rfl⟩), ((((bthen ((bthen hb hb4).alloc (by omega) _) hb5).setCell (by omega) _).setCell (by omega) _).setCell (by omega) _), by simp [World.setCell]; omega, ⟨?_, ?_, ?_⟩, ⟨?_, ?_, ?_⟩, ?_⟩
          all_goals go_simp
        case measure => simp [intOf]; omega
      · obtain ⟨hk3, rfl, rfl⟩ : q + 2 ≤ k ∧ g = 0 ∧ s = scT x := by rcases HS.out with h | h <;> first | exact ⟨by omega, h.2⟩ | omega
        clear hk hk'
        by_cases hlt : FloatKind.f32.format.order (scW x) 1266679808 = some .lt
        · have hT : fop .mul .f32 (scW x) 1073741824 = scT x := by rw [Z10.out, if_pos (by rw [hlt]; rfl)]
          have q9 : FloatKind.f32.format.order (scT x) (fop .mul .f32 (scW x) 1073741824) = some .eq := by rw [hT]; exact q7
          clear hT q7
          go_wp2_with fail
          refine (next_low _).mono ?_
          rintro e w4 ⟨rfl, hb4⟩
          obtain ⟨hc6, hf6, hl6⟩ := bkeep w.heap.size hb4 (by omega)
          obtain ⟨hc7, hf7, hl7⟩ := bkeep w3.heap.size hb4 hsz
          go_wp2
          go_ret
          exact ⟨rfl, (bthen hb hb4).alloc (by omega) _⟩
        · have hT : scT x = 1266679808 := by rw [Z10.out, if_neg (by simpa using hlt)]
          have q9 : FloatKind.f32.format.order (scT x) 1266679808 = some .eq := by rw [← hT]; exact q7
          have hlt2 : (FloatKind.f32.format.order (scW x) 1266679808 == some .lt) = false := by simpa using hlt
          clear hT q7 hlt
          go_wp2_with fail
          refine (next_low _).mono ?_
          rintro e w4 ⟨rfl, hb4⟩
          obtain ⟨hc6, hf6, hl6⟩ := bkeep w.heap.size hb4 (by omega)
          obtain ⟨hc7, hf7, hl7⟩ := bkeep w3.heap.size hb4 hsz
          go_wp2
          go_ret
          exact ⟨rfl, (bthen hb hb4).alloc (by omega) _⟩
end Go.Proofs.Ytnnefcakfaifmaa
