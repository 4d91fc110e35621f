/- What bits, numbers of bits, and the next numbers are. No condition. -/
import Derived.Test.YtnnefcakfaifmaaKey
namespace Go.Proofs.Ytnnefcakfaifmaa
open Go Go.RowKit
set_option linter.unusedVariables false
set_option linter.unusedSimpArgs false
theorem impl_BitsOf (x : Nat) (hx : x < 4294967296) (w : World) : Calls Try.prog 36 #[.float .f32 x] w fun e w' => e = .returned (.int .i64 (cn .f32 x : Nat)) ∧ w = w' := by
  have hd := run_f32bits
  cases h : isN .f32 x
  · have ho : FloatKind.f32.format.order x x = some .eq := by rw [order_self, h]; rfl
    rw [cn_not h]
    clear h
    go_enter Try.func36, Try.ntmps36
    go_wp2
    go_ret
    exact ⟨rfl, rfl⟩
  · have ho : FloatKind.f32.format.order x x = none := by rw [order_self, h]; rfl
    rw [cn_nan h]
    clear h
    go_enter Try.func36, Try.ntmps36
    go_wp2
    go_ret
    exact ⟨rfl, rfl⟩
theorem impl_FromBits (n : Nat) (hn : n < 4294967296) (w : World) : Calls Try.prog 37 #[.int .i64 n] w fun e w' => e = .returned (.tuple #[.float .f32 n, .bool true]) ∧ w = w' := by
  have hd := run_f32from
  have hw := fun W => within_any n 0 4294967295 W
  rw [inB_iff.2 ⟨by omega, by omega⟩] at hw
  have HW := Lib.hid hw; clear hw
  go_enter Try.func37, Try.ntmps37
  go_wp2_with fail
  refine (HW.out _).mono ?_
  rintro e w1 ⟨rfl, rfl⟩
  go_wp2
  go_ret2
  exact ⟨rfl, rfl⟩
theorem spec_FromBits (n : Nat) (hn : n < 4294967296) (w : World) : Calls Try.prog 35 #[.int .i64 n] w fun e w' => e = .returned (.tuple #[.float .f32 n, .bool true]) ∧ w = w' := by
  have hw := fun W => l00In_any n 0 4294967295 W
  rw [inB_iff.2 ⟨by omega, by omega⟩] at hw
  have HW := Lib.hid hw; clear hw
  go_enter Try.func35, Try.ntmps35
  go_wp2_with fail
  refine (HW.out _).mono ?_
  rintro e w1 ⟨rfl, rfl⟩
  go_wp2_with fail
  refine (spec_l01From n hn _).mono ?_
  rintro e w1 ⟨rfl, rfl⟩
  go_wp2
  go_ret2
  exact ⟨rfl, rfl⟩
theorem math_Inf1 (w : World) : Calls Try.prog 120 #[.int .i64 1] w fun e w' => e = .returned (.float .f64 9218868437227405312) ∧ w = w' := by
  have hd := run_f64from
  go_enter Try.func120, Try.ntmps120
  go_wp2
  go_ret
  exact ⟨rfl, rfl⟩
theorem cv_inf (w : World) : cvbits .f64 9218868437227405312 .f32 w = 2139095040 := by
  unfold cvbits
  rw [if_neg (by decide)]
  have : FloatKind.f64.decode 9218868437227405312 = .infinity false := by decide +kernel
  rw [this]; show FloatKind.f32.encode (.infinity false) = _; decide +kernel
theorem impl_infinity (w : World) : Calls Try.prog 92 #[] w fun e w' => e = .returned (.float .f32 2139095040) ∧ Dr w w' := by
  have hc := cv_inf
  go_enter Try.func92, Try.ntmps92
  go_wp2_with fail
  refine (math_Inf1 _).mono ?_
  rintro e w1 ⟨rfl, rfl⟩
  go_wp2
  go_ret
  exact ⟨rfl, _, rfl⟩
theorem key_eq {a b : Int} (h : a = b) : (some (compare a b) == some Ordering.eq) = true := by rw [Int.compare_eq_eq.2 h]; rfl
theorem key_ne {a b : Int} (h : a ≠ b) : (some (compare a b) == some Ordering.eq) = false := by
  rcases Int.lt_trichotomy a b with h1 | h1 | h1
  · rw [Int.compare_eq_lt.2 h1]; rfl
  · exact absurd h1 h
  · rw [Int.compare_eq_gt.2 h1]; rfl
theorem ord_lt {x y : Nat} (hx : x < 4294967296) (hy : y < 4294967296) (nx : isN .f32 x = false) (ny : isN .f32 y = false) (h : kf x < kf y) : FloatKind.f32.format.order x y = some .lt := by
  rw [order_key hx hy nx ny, Int.compare_eq_lt.2 h]
theorem ord_gt {x y : Nat} (hx : x < 4294967296) (hy : y < 4294967296) (nx : isN .f32 x = false) (ny : isN .f32 y = false) (h : kf y < kf x) : FloatKind.f32.format.order x y = some .gt := by
  rw [order_key hx hy nx ny, Int.compare_eq_gt.2 h]
theorem ord_eq {x y : Nat} (hx : x < 4294967296) (hy : y < 4294967296) (nx : isN .f32 x = false) (ny : isN .f32 y = false) (h : kf x = kf y) : FloatKind.f32.format.order x y = some .eq := by
  rw [order_key hx hy nx ny, Int.compare_eq_eq.2 h]
theorem kf_zero : kf 0 = 0 := by decide
theorem n_zero : isN .f32 0 = false := by decide +kernel
theorem kf_inf : kf 2139095040 = 2139095040 := by decide
theorem n_inf : isN .f32 2139095040 = false := by decide +kernel
theorem impl_NextUp (x : Nat) (hx : x < 4294967296) (hn : isN .f32 x = false) (w : World) : Calls Try.prog 40 #[.float .f32 x] w fun e w' => e = .returned (.float .f32 (nup x)) ∧ Dr w w' := by
  have hd := run_f32bits
  have hd2 := run_f32from
  have ho := order_self2 hn
  have hk := (isN_iff hx).1 hn
  have HI := Lib.hid (fun W => impl_infinity W)
  by_cases e1 : kf x = 2139095040
  · have h1 := ord_eq hx (by decide) hn n_inf (e1.trans kf_inf.symm)
    have e : nup x = x := by unfold nup; rw [if_pos e1]
    rw [e]
    clear e1 e hk
    go_enter Try.func40, Try.ntmps40
    go_wp2_with fail
    refine (HI.out _).mono ?_
    rintro e w1 ⟨rfl, q, rfl⟩
    go_wp2
    go_ret
    exact ⟨rfl, _, rfl⟩
  have h1 := ord_lt hx (by decide) hn n_inf (show kf x < kf 2139095040 by rw [kf_inf]; omega)
  by_cases e2 : kf x = 0
  · have h2 := ord_eq hx (by decide) hn n_zero (e2.trans kf_zero.symm)
    have e : nup x = 1 := by unfold nup; rw [if_neg e1, if_pos e2]
    rw [e]
    clear e1 e2 e hk
    go_enter Try.func40, Try.ntmps40
    go_wp2_with fail
    refine (HI.out _).mono ?_
    rintro e w1 ⟨rfl, q, rfl⟩
    go_wp2
    go_ret
    exact ⟨rfl, _, rfl⟩
  by_cases e3 : 0 < kf x
  · have h2 := ord_gt hx (by decide) hn n_zero (show kf 0 < kf x by rw [kf_zero]; exact e3)
    have e : nup x = x + 1 := by unfold nup; rw [if_neg e1, if_neg e2, if_pos e3]
    have hx2 : x + 1 < 4294967296 := by have := (nup_ok hx hn).1; rw [e] at this; exact this
    rw [e]
    clear e1 e2 e3 e hk
    go_enter Try.func40, Try.ntmps40
    go_wp2_with fail
    refine (HI.out _).mono ?_
    rintro e w1 ⟨rfl, q, rfl⟩
    go_wp2
    go_ret
    exact ⟨by congr 2, _, rfl⟩
  · have h2 := ord_lt hx (by decide) hn n_zero (show kf x < kf 0 by rw [kf_zero]; omega)
    have e : nup x = x - 1 := by unfold nup; rw [if_neg e1, if_neg e2, if_neg e3]
    have hx2 : 1 ≤ x := by
      rcases Nat.eq_zero_or_pos x with h | h
      · subst h; exact absurd kf_zero e2
      · exact h
    rw [e]
    clear e1 e2 e3 e hk
    go_enter Try.func40, Try.ntmps40
    go_wp2_with fail
    refine (HI.out _).mono ?_
    rintro e w1 ⟨rfl, q, rfl⟩
    go_wp2
    go_ret
    exact ⟨by congr 2, _, rfl⟩
theorem impl_NextUp_nan (x : Nat) (hn : isN .f32 x = true) (w : World) : Calls Try.prog 40 #[.float .f32 x] w fun e w' => ∃ r, e = .returned (.float .f32 r) ∧ Hid (isN .f32 r = true ∧ r < 4294967296) ∧ Dr w w' := by
  have ho := order_nan hn
  have HI := Lib.hid (fun W => impl_noNumber W)
  clear hn
  go_enter Try.func40, Try.ntmps40
  go_wp2_with fail
  refine (HI.out _).mono ?_
  rintro e w1 ⟨r, rfl, hr, q, rfl⟩
  go_wp2
  go_ret
  exact ⟨r, rfl, Lib.hid ⟨by rw [← isN_cn, hr.out.1]; exact isN_nanOf _, hr.out.2⟩, _, rfl⟩
theorem isN_neg {x : Nat} (hx : x < 4294967296) : isN .f32 (Op.negFloat .f32 x) = isN .f32 x := by
  obtain ⟨h1, h2⟩ := kf_neg hx
  have a := isN_iff hx
  have b := isN_iff h1
  rw [h2] at b
  cases p : isN .f32 x <;> cases q : isN .f32 (Op.negFloat .f32 x)
  · rfl
  · exfalso; have := a.1 p; have := b.2 ⟨by omega, by omega⟩; rw [q] at this; cases this
  · exfalso; have := b.1 q; have := a.2 ⟨by omega, by omega⟩; rw [p] at this; cases this
  · rfl
theorem ndn_ok {x : Nat} (hx : x < 4294967296) (hn : isN .f32 x = false) : ndn x < 4294967296 ∧ kf (ndn x) = (if kf x = -2139095040 then -2139095040 else kf x - 1) := by
  obtain ⟨h1, h2⟩ := kf_neg hx
  obtain ⟨h3, h4⟩ := nup_ok h1 (by rw [isN_neg hx]; exact hn)
  obtain ⟨h5, h6⟩ := kf_neg h3
  refine ⟨h5, ?_⟩
  unfold ndn
  rw [h6, h4, h2]
  split <;> split <;> omega
theorem impl_NextDown (x : Nat) (hx : x < 4294967296) (hn : isN .f32 x = false) (w : World) : Calls Try.prog 41 #[.float .f32 x] w fun e w' => e = .returned (.float .f32 (ndn x)) ∧ Dr w w' := by
  have h := fun W => impl_NextUp (Op.negFloat .f32 x) (kf_neg hx).1 (by rw [isN_neg hx]; exact hn) W
  have H := Lib.hid h; clear h hn hx
  go_enter Try.func41, Try.ntmps41
  go_wp2_with fail
  refine (H.out _).mono ?_
  rintro e w1 ⟨rfl, q, rfl⟩
  go_wp2
  go_ret
  exact ⟨rfl, _, rfl⟩
theorem impl_NextDown_nan (x : Nat) (hx : x < 4294967296) (hn : isN .f32 x = true) (w : World) : Calls Try.prog 41 #[.float .f32 x] w fun e w' => ∃ r, e = .returned (.float .f32 r) ∧ Hid (isN .f32 r = true ∧ r < 4294967296) ∧ Dr w w' := by
  have h := fun W => impl_NextUp_nan (Op.negFloat .f32 x) (by rw [isN_neg hx]; exact hn) W
  have H := Lib.hid h; clear h hn hx
  go_enter Try.func41, Try.ntmps41
  go_wp2_with fail
  refine (H.out _).mono ?_
  rintro e w1 ⟨r, rfl, hr, q, rfl⟩
  go_wp2
  go_ret
  exact ⟨_, rfl, Lib.hid ⟨by rw [isN_neg hr.out.2]; exact hr.out.1, (kf_neg hr.out.2).1⟩, _, rfl⟩
theorem spec_l01Next (x : Nat) (hx : x < 4294967296) (hn : isN .f32 x = false) (w : World) : Calls Try.prog 83 #[.float .f32 x] w fun e w' => e = .returned (.float .f32 (nup x)) ∧ Dr w w' := by
  have hb := fun W => spec_l01Bits x hx W
  rw [cn_not hn] at hb
  have hf := fun n hn W => spec_l01From n hn W
  have ho := order_self2 hn
  have hk := (isN_iff hx).1 hn
  have HB := Lib.hid hb; have HF := Lib.hid hf; clear hb hf
  by_cases e1 : kf x = 2139095040
  · have e : nup x = x := by unfold nup; rw [if_pos e1]
    have hx2 : x = 2139095040 := by unfold kf at e1; split at e1 <;> omega
    rw [e]
    subst hx2
    clear e1 e hk
    go_enter Try.func83, Try.ntmps83
    go_wp2_with fail
    refine (HB.out _).mono ?_
    rintro e w1 ⟨rfl, rfl⟩
    go_wp2
    go_ret
    exact ⟨rfl, Dr.refl _⟩
  have hx3 : ((x : Int) == 2139095040) = false := by
    simp; intro h; apply e1; have : x = 2139095040 := by omega
    rw [this]; decide
  by_cases e2 : kf x = 0
  · have h2 := ord_eq hx (by decide) hn n_zero (e2.trans kf_zero.symm)
    have e : nup x = 1 := by unfold nup; rw [if_neg e1, if_pos e2]
    rw [e]
    clear e1 e2 e hk
    go_enter Try.func83, Try.ntmps83
    go_wp2_with fail
    refine (HB.out _).mono ?_
    rintro e w1 ⟨rfl, rfl⟩
    go_wp2_with fail
    refine (HF.out 1 (by decide) _).mono ?_
    rintro e w1 ⟨rfl, rfl⟩
    go_wp2
    go_ret
    exact ⟨rfl, Dr.refl _⟩
  by_cases e3 : 0 < kf x
  · have h2 := ord_gt hx (by decide) hn n_zero (show kf 0 < kf x by rw [kf_zero]; exact e3)
    have e : nup x = x + 1 := by unfold nup; rw [if_neg e1, if_neg e2, if_pos e3]
    have hx2 : x + 1 < 4294967296 := by have := (nup_ok hx hn).1; rw [e] at this; exact this
    rw [e]
    clear e1 e2 e3 e hk
    go_enter Try.func83, Try.ntmps83
    go_wp2_with fail
    refine (HB.out _).mono ?_
    rintro e w1 ⟨rfl, rfl⟩
    go_wp2_with fail
    refine (HF.out (x + 1) hx2 _).mono ?_
    rintro e w1 ⟨rfl, rfl⟩
    go_wp2
    go_ret
    exact ⟨rfl, Dr.refl _⟩
  · have h2 := ord_lt hx (by decide) hn n_zero (show kf x < kf 0 by rw [kf_zero]; omega)
    have e : nup x = x - 1 := by unfold nup; rw [if_neg e1, if_neg e2, if_neg e3]
    have hx2 : 1 ≤ x := by
      rcases Nat.eq_zero_or_pos x with h | h
      · subst h; exact absurd kf_zero e2
      · exact h
    have hx4 : ((x : Int) - 1) = ((x - 1 : Nat) : Int) := by omega
    rw [e]
    clear e1 e2 e3 e hk
    have HX := Lib.hid hx4; clear hx4
    go_enter Try.func83, Try.ntmps83
    go_wp2_with fail
    refine (HB.out _).mono ?_
    rintro e w1 ⟨rfl, rfl⟩
    go_wp2_with fail
    rw [HX.out]
    refine (HF.out (x - 1) (by omega) _).mono ?_
    rintro e w1 ⟨rfl, rfl⟩
    go_wp2
    go_ret
    exact ⟨rfl, Dr.refl _⟩
end Go.Proofs.Ytnnefcakfaifmaa
