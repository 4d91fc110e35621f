/- What the reference draws from a source of choices: numbers. No condition. -/
import Derived.Test.YtaocilimggpdjaaSrc
import Derived.Test.YtaocilimggpdjaaAbs
namespace Go.Proofs.Ytaocilimggpdjaa
open Go Go.RowKit
set_option linter.unusedVariables false
set_option linter.unusedSimpArgs false
def plainQ (d j : Nat) : Nat := fop .quo .f32 (floatOfInt .f32 ((j : Int) - 64)) d
def isPl (x : Nat) : Prop := ∃ j, j < 129 ∧ (x = plainQ 1088421888 j ∨ x = plainQ 1098907648 j)
theorem plain_some : ∀ j : Nat, j < 129 → floatBits .quo .f32 (floatOfInt .f32 ((j : Int) - 64)) 1088421888 = some (plainQ 1088421888 j) ∧ floatBits .quo .f32 (floatOfInt .f32 ((j : Int) - 64)) 1098907648 = some (plainQ 1098907648 j) := by decide +kernel
theorem isPl_lt {x : Nat} (h : isPl x) : x < 4294967296 := by
  obtain ⟨j, hj, h⟩ := h
  obtain ⟨h1, h2⟩ := plain_some j hj
  rcases h with rfl | rfl
  · have := floatBits_wf h1; simpa [Lit.wf] using this
  · have := floatBits_wf h2; simpa [Lit.wf] using this
theorem draw_plain (w : World) (g n : Nat) (h : Src w g n) (hn : n ≤ 800000000) :
    Calls Try.prog 95 #[.pointer (some ⟨g, 0, none⟩)] w fun e w' => ∃ x : Nat, e = .returned (.float .f32 x) ∧ Hid (isPl x) ∧ Src w' g (n + 4) ∧ Touch g (g + 1) w w' := by
  have hk := fun W m hW hm => src_pick W g m hW hm 129 (by decide) (by decide)
  have ho := fun W m hW hm => src_one W g m hW hm 4 (by decide) (by decide)
  have HK := Lib.hid hk; have HO := Lib.hid ho; have HS := Lib.hid h; clear hk ho h
  go_enter Try.func95, Try.ntmps95
  go_wp2_with fail
  refine (HK.out _ n HS.out (by omega)).mono ?_
  rintro e w1 ⟨j, rfl, hj, hs1, ht1⟩
  have hj := Int.ofNat_lt.1 hj
  have HS1 := Lib.hid hs1; have HT1 := Lib.hid ht1; clear hs1 ht1
  obtain ⟨h7, h16⟩ := plain_some j hj
  have q1 := fun w => fbits_some h7 w
  have q2 := fdr_some h7
  have q3 := fun w => fbits_some h16 w
  have q4 := fdr_some h16
  have hz := World.drewN_none
  clear h7 h16
  go_wp2_with fail
  refine (HO.out _ (n + 2) HS1.out (by omega)).mono ?_
  rintro e w2 ⟨b, rfl, hs2, ht2⟩
  have HS2 := Lib.hid hs2; have HT2 := Lib.hid ht2; clear hs2 ht2
  cases b
  · go_wp2
    go_ret
    exact ⟨_, rfl, Lib.hid ⟨j, hj, .inr rfl⟩, HS2.out, HT1.out.trans HT2.out⟩
  · go_wp2
    go_ret
    exact ⟨_, rfl, Lib.hid ⟨j, hj, .inl rfl⟩, HS2.out, HT1.out.trans HT2.out⟩
theorem strange_lt : ∀ i, i < 10 → ∃ m : Nat, ([0, 2147483648, 2139095040, 4286578688, 2143289344, 1, 2139095039, 8388608, 8388607, 2147483649] : List Int).getD i 0 = m ∧ m < 4294967296 := by
  intro i hi
  match i, hi with
  | 0, _ => exact ⟨0, rfl, by decide⟩
  | 1, _ => exact ⟨2147483648, rfl, by decide⟩
  | 2, _ => exact ⟨2139095040, rfl, by decide⟩
  | 3, _ => exact ⟨4286578688, rfl, by decide⟩
  | 4, _ => exact ⟨2143289344, rfl, by decide⟩
  | 5, _ => exact ⟨1, rfl, by decide⟩
  | 6, _ => exact ⟨2139095039, rfl, by decide⟩
  | 7, _ => exact ⟨8388608, rfl, by decide⟩
  | 8, _ => exact ⟨8388607, rfl, by decide⟩
  | 9, _ => exact ⟨2147483649, rfl, by decide⟩
theorem scales_lt : ∀ i, i < 4 → ∃ m : Nat, ([8388608, 2130706432, 1610612736, 536870912] : List Int).getD i 0 = m ∧ m < 4294967296 := by
  intro i hi
  match i, hi with
  | 0, _ => exact ⟨8388608, rfl, by decide⟩
  | 1, _ => exact ⟨2130706432, rfl, by decide⟩
  | 2, _ => exact ⟨1610612736, rfl, by decide⟩
  | 3, _ => exact ⟨536870912, rfl, by decide⟩
theorem arr_cell (w : World) (e : TypeId) (vs : List Int) (i : Nat) (hi : i < vs.length) : (w.alloc (.cells (vs.map (Value.int .i64)).toArray e)).cell? ⟨w.heap.size, i, none⟩ = some (.int .i64 (vs.getD i 0)) := by
  rw [World.cell?_alloc_at _ _ _ _ rfl]
  simp [List.getD_eq_getElem?_getD, List.getElem?_eq_getElem hi]
theorem draw_float (w : World) (g n : Nat) (h : Src w g n) (hn : n ≤ 700000000) :
    Calls Try.prog 103 #[.pointer (some ⟨g, 0, none⟩)] w fun e w' => ∃ x : Nat, e = .returned (.float .f32 x) ∧ x < 4294967296 ∧ Src w' g (n + 20) ∧ Touch g (g + 1) w w' := by
  have hk := fun W m hW hm N h1 h2 => src_pick W g m hW hm N h1 h2
  have ho := fun W m hW hm => src_one W g m hW hm 12 (by decide) (by decide)
  have hp := fun W m hW hm => draw_plain W g m hW hm
  have hgl : g < w.heap.size := by obtain ⟨_, _, _, _, _, h1, _⟩ := h; exact h1.lt
  have HK := Lib.hid hk; have HO := Lib.hid ho; have HP := Lib.hid hp; have HS := Lib.hid h; clear hk ho hp h
  go_enter Try.func103, Try.ntmps103
  go_wp2_with fail
  refine (HO.out _ n HS.out (by omega)).mono ?_
  rintro e w1 ⟨b, rfl, hs1, ht1⟩
  have z1 := ht1.size
  have HS1 := Lib.hid hs1; have HT1 := Lib.hid ht1; clear hs1 ht1
  cases b
  · go_wp2_with fail
    refine (HP.out _ (n + 2) HS1.out (by omega)).mono ?_
    rintro e w2 ⟨x, rfl, hx, hs2, ht2⟩
    have HS2 := Lib.hid hs2; have HT2 := Lib.hid ht2; clear hs2 ht2
    go_wp2
    go_ret
    exact ⟨x, rfl, isPl_lt hx.out, HS2.out.mono (by omega), HT1.out.trans HT2.out⟩
  go_wp2_with fail
  refine (HK.out _ (n + 2) HS1.out (by omega) 4 (by decide) (by decide)).mono ?_
  rintro e w2 ⟨c, rfl, hc, hs2, ht2⟩
  have hc := Int.ofNat_lt.1 hc
  have z2 := ht2.size
  have HS2 := Lib.hid hs2; have HT2 := Lib.hid (HT1.out.trans ht2); clear hs2 ht2
  by_cases h0 : c = 0
  · subst h0
    go_wp2_with fail
    refine (src_among _ g (n + 4) ((HS2.out.below (below1 _ _)).mono (by omega)) (by omega) w2.heap.size 10 10 [0, 2147483648, 2139095040, 4286578688, 2143289344, 1, 2139095039, 8388608, 8388607, 2147483649] (by omega) (by simp) ?_ (by decide) (by decide)).mono ?_
    · intro i hi
      exact arr_cell _ _ [0, 2147483648, 2139095040, 4286578688, 2143289344, 1, 2139095039, 8388608, 8388607, 2147483649] i hi
    rintro e w3 ⟨i, hi, rfl, hs3, ht3⟩
    obtain ⟨m, hm, hm2⟩ := strange_lt i hi
    rw [hm]
    have HS3 := Lib.hid hs3; have HT3 := Lib.hid ht3; clear hs3 ht3
    go_wp2_with fail
    refine (spec_l01From m hm2 _).mono ?_
    rintro e w4 ⟨rfl, rfl⟩
    go_wp2
    go_ret
    exact ⟨m, rfl, hm2, HS3.out.mono (by omega), (HT2.out.trans (Touch.of_below (below1 _ _))).trans HT3.out⟩
  by_cases h1 : c = 1
  · subst h1
    go_wp2_with fail
    refine (HK.out _ (n + 4) HS2.out (by omega) 65536 (by decide) (by decide)).mono ?_
    rintro e w3 ⟨a, rfl, ha, hs3, ht3⟩
    have HS3 := Lib.hid hs3; have HT3 := Lib.hid (HT2.out.trans ht3); clear hs3 ht3
    go_wp2_with fail
    refine (HK.out _ (n + 6) HS3.out (by omega) 65536 (by decide) (by decide)).mono ?_
    rintro e w4 ⟨d, rfl, hd, hs4, ht4⟩
    have HS4 := Lib.hid hs4; have HT4 := Lib.hid (HT3.out.trans ht4); clear hs4 ht4
    go_wp2_with fail
    refine (spec_l01From (a * 65536 + d) (by omega) _).mono ?_
    rintro e w5 ⟨rfl, rfl⟩
    go_wp2
    go_ret
    exact ⟨_, rfl, by omega, HS4.out.mono (by omega), HT4.out⟩
  by_cases h2 : c = 2
  · subst h2
    go_wp2_with fail
    refine (HK.out _ (n + 4) HS2.out (by omega) 65536 (by decide) (by decide)).mono ?_
    rintro e w3 ⟨a, rfl, ha, hs3, ht3⟩
    have HS3 := Lib.hid hs3; have HT3 := Lib.hid (HT2.out.trans ht3); clear hs3 ht3
    go_wp2_with fail
    refine (spec_l01From (a * 65536) (by omega) _).mono ?_
    rintro e w5 ⟨rfl, rfl⟩
    go_wp2
    go_ret
    exact ⟨_, rfl, by omega, HS3.out.mono (by omega), HT3.out⟩
  · have n0 : ((c : Int) == 0) = false := by simp; omega
    have n1 : ((c : Int) == 1) = false := by simp; omega
    have n2 : ((c : Int) == 2) = false := by simp; omega
    clear h0 h1 h2
    go_wp2_with fail
    refine (HP.out _ (n + 4) HS2.out (by omega)).mono ?_
    rintro e w3 ⟨x, rfl, hx, hs3, ht3⟩
    have z3 := ht3.size
    have HS3 := Lib.hid hs3; have HT3 := Lib.hid (HT2.out.trans ht3); clear hs3 ht3
    go_wp2_with fail
    refine (src_among _ g (n + 8) ((HS3.out.below (below1 _ _)).mono (by omega)) (by omega) w3.heap.size 4 4 [8388608, 2130706432, 1610612736, 536870912] (by omega) (by simp) ?_ (by decide) (by decide)).mono ?_
    · intro i hi
      exact arr_cell _ _ [8388608, 2130706432, 1610612736, 536870912] i hi
    rintro e w4 ⟨i, hi, rfl, hs4, ht4⟩
    obtain ⟨m, hm, hm2⟩ := scales_lt i hi
    rw [hm]
    have HS4 := Lib.hid hs4; have HT4 := Lib.hid ht4; clear hs4 ht4
    go_wp2_with fail
    refine (spec_l01From m hm2 _).mono ?_
    rintro e w5 ⟨rfl, rfl⟩
    go_wp2
    go_ret
    exact ⟨_, rfl, fbits_lt _ .f32 _ _ _, (HS4.out.below (below_drewN (Below.refl _ _) _)).mono (by omega), ((HT3.out.trans (Touch.of_below (below1 _ _))).trans HT4.out).trans (Touch.of_below (below_drewN (Below.refl _ _) _))⟩
end Go.Proofs.Ytaocilimggpdjaa
