/- The law of bfloats, walked. No condition. -/
import Derived.Test.YtnnefcakfaifmaaWNar
import Derived.Test.YtnnefcakfaifmaaBf
namespace Go.Proofs.Ytnnefcakfaifmaa
open Go Go.RowKit Ieee
set_option linter.unusedVariables false
set_option linter.unusedSimpArgs false
theorem and_low (c : Nat) (hc : c < 4294967296) : bits .and .i64 (c : Int) 65535 = ((c % 65536 : Nat) : Int) := by
  have h1 : (BitVec.ofInt 64 (c : Int)).toNat = c := by rw [BitVec.ofInt_natCast, BitVec.toNat_ofNat]; exact Nat.mod_eq_of_lt (by omega)
  have h2 : (BitVec.ofInt 64 65535).toNat = 65535 := by decide
  show IntKind.i64.wrap ((BitVec.ofInt 64 (c : Int) &&& BitVec.ofInt 64 65535).toNat : Int) = _
  rw [BitVec.toNat_and, h1, h2, show (65535 : Nat) = 2 ^ 16 - 1 from rfl, Nat.and_two_pow_sub_one_eq_mod]
  exact wrap_small _ (by omega) (by omega)
theorem and_bit (c : Nat) (hc : c < 4294967296) : bits .and .i64 (c : Int) 65536 = ((c / 65536 % 2 * 65536 : Nat) : Int) := by
  have h1 : (BitVec.ofInt 64 (c : Int)).toNat = c := by rw [BitVec.ofInt_natCast, BitVec.toNat_ofNat]; exact Nat.mod_eq_of_lt (by omega)
  have h2 : (BitVec.ofInt 64 65536).toNat = 65536 := by decide
  show IntKind.i64.wrap ((BitVec.ofInt 64 (c : Int) &&& BitVec.ofInt 64 65536).toNat : Int) = _
  rw [BitVec.toNat_and, h1, h2]
  have e : c &&& 65536 = c / 65536 % 2 * 65536 := by
    apply Nat.eq_of_testBit_eq
    intro i
    rw [Nat.testBit_and, show (65536 : Nat) = 2 ^ 16 from rfl, Nat.testBit_two_pow, Nat.testBit_mul_two_pow, show (2 : Nat) = 2 ^ 1 from rfl, Nat.testBit_mod_two_pow, Nat.testBit_div_two_pow]
    by_cases h : 16 = i
    · subst h; simp
    · by_cases h3 : 16 ≤ i
      · have : ¬ (i - 16 < 1) := by omega
        simp [h, this]
      · simp [h, h3]
  rw [e]
  exact wrap_small _ (by omega) (by omega)
theorem impl_BfloatBy_fin (x ch : Nat) (hx : x ≤ 4286578688) (hc : ch < 65536) (hf : finB x = true) (w : World) : Calls Try.prog 34 #[.float .f32 x, .int .i64 ch] w fun e w' => e = .returned (.tuple #[.float .f32 ((x + ch) / 65536 * 65536), .bool true]) ∧ Dr w w' := by
  have hd := run_f32bits
  have hd2 := run_f32from
  have hw := fun W => within_any ch 0 65535 W
  rw [inB_iff.2 ⟨by omega, by omega⟩] at hw
  have hi := fun W => impl_IsFinite x W
  rw [hf] at hi
  have ha := andNot_u32 (x + ch) (by omega)
  have e : ((x + ch : Nat) : Int) = (x : Int) + ch := by omega
  rw [e] at ha
  have HW := Lib.hid hw; have HI := Lib.hid hi; clear hw hi e hf
  go_enter Try.func34, Try.ntmps34
  go_wp2_with fail
  refine (HW.out _).mono ?_
  rintro e w1 ⟨rfl, rfl⟩
  go_wp2_with fail
  refine (HI.out _).mono ?_
  rintro e w1 ⟨rfl, q, rfl⟩
  go_wp2
  go_ret2
  exact ⟨rfl, _, rfl⟩
theorem impl_BfloatBy_not (x ch : Nat) (hc : ch < 65536) (hf : finB x = false) (w : World) : Calls Try.prog 34 #[.float .f32 x, .int .i64 ch] w fun e w' => e = .returned (.tuple #[.float .f32 x, .bool true]) ∧ Dr w w' := by
  have hw := fun W => within_any ch 0 65535 W
  rw [inB_iff.2 ⟨by omega, by omega⟩] at hw
  have hi := fun W => impl_IsFinite x W
  rw [hf] at hi
  have HW := Lib.hid hw; have HI := Lib.hid hi; clear hw hi hf
  go_enter Try.func34, Try.ntmps34
  go_wp2_with fail
  refine (HW.out _).mono ?_
  rintro e w1 ⟨rfl, rfl⟩
  go_wp2_with fail
  refine (HI.out _).mono ?_
  rintro e w1 ⟨rfl, q, rfl⟩
  go_wp2
  go_ret2
  exact ⟨rfl, _, rfl⟩
set_option maxHeartbeats 16000000 in
set_option maxRecDepth 100000 in
theorem fnBfloats_walk (w : World) (a0 : Option Addr) (c0 : Nat) (l0 : List Int) (A0 : Ints .u8 w a0 c0 l0) (a1 : Option Addr) (c1 : Nat) (l1 : List Int) (A1 : Ints .u8 w a1 c1 l1) :
    Calls Try.prog 7 #[.slice a0 l0.length c0, .slice a1 l1.length c1] w fun e w' => e = .returned (.bool true) ∧ Below w.heap.size w w' := by
  by_cases hlong : l0.length ≤ 1048576 ∧ l1.length ≤ 1048576
  rotate_left
  · go_enter Try.func7, Try.ntmps7
    go_wp2_with fail
    refine (b10Long_yes _ _ _ _ _ _ _ hlong).mono ?_
    rintro e w1 ⟨rfl, rfl⟩
    go_wp2
    go_ret
    exact ⟨rfl, Below.refl _ _⟩
  obtain ⟨hl0, hl1⟩ := hlong
  go_enter Try.func7, Try.ntmps7
  go_wp2_with fail
  refine (b10Long_no _ _ _ _ _ _ _ hl0 hl1).mono ?_
  rintro e w1 ⟨rfl, rfl⟩
  go_wp2_with fail
  refine (b10_number _ _ _ _ A0).mono ?_
  rintro e w1 ⟨x, rfl, hx, hb1⟩
  have A1 := A1.below hb1
  have HB := Lib.hid hb1
  clear A0 hb1 hl0 hl1
  go_wp2_with fail
  refine (impl_BfloatOf x hx _).mono ?_
  rintro e w2 ⟨nr, rfl, hnr, hd2⟩
  have A1 := A1.below hd2.below
  have HB := Lib.hid (bthen HB.out hd2.below)
  clear hd2
  go_wp2_with fail
  refine (b10At_any _ _ _ _ A1 0 256 (by decide) (by decide) (by decide) (by decide)).mono ?_
  rintro e w3 ⟨p, rfl, hp, rfl⟩
  have hp := Int.ofNat_lt.1 hp
  go_wp2_with fail
  refine (b10At_any _ _ _ _ A1 1 256 (by decide) (by decide) (by decide) (by decide)).mono ?_
  rintro e w3 ⟨q, rfl, hq, rfl⟩
  have hq := Int.ofNat_lt.1 hq
  clear A1
  cases hf : finB x
  · have HF := Lib.hid hf; clear hf
    have hs : decide (cn .f32 nr = cn .f32 x) = true := by
      rw [hnr.out.1, decide_eq_true_eq]
      unfold bfE
      rw [isN_cn]
      cases hn : isN .f32 x
      · rw [if_neg (by decide), cn_not hn]
        rw [bfW_inf (not_fin hx HF.out hn)]
        exact cn_not hn
      · rw [if_pos rfl, cn_nan hn]
    have HS := Lib.hid hs; clear hs
    have e1 : ((256 * p + q : Nat) : Int) = 256 * (p : Int) + q := by omega
    have hby := fun W => impl_BfloatBy_not x (256 * p + q) (by omega) HF.out W
    rw [e1] at hby
    have HBY := Lib.hid hby; clear hby e1
    go_wp2_with fail
    refine (HBY.out _).mono ?_
    rintro e w4 ⟨rfl, q4, rfl⟩
    go_wp2_with fail
    refine (spec_IsFinite x _).mono ?_
    rw [HF.out]
    rintro e w5 ⟨rfl, q5, rfl⟩
    go_wp2_with fail
    refine (spec_SameNumber nr x hnr.out.2 hx _).mono ?_
    rw [HS.out]
    rintro e w6 ⟨rfl, rfl⟩
    go_wp2_with fail
    refine (spec_SameNumber x x hx hx _).mono ?_
    rw [show decide (cn .f32 x = cn .f32 x) = true by simp]
    rintro e w7 ⟨rfl, rfl⟩
    go_wp2
    go_ret
    exact ⟨rfl, below_drewN HB.out _⟩
  have hn := finB_not hf
  have hle : x ≤ 4286578688 := not_nan_bd hx hn
  have hk := (finB_iff hx).1 hf
  have hle2 : x < 4286578688 := by unfold kf at hk; split at hk <;> omega
  have HF := Lib.hid hf; clear hf
  obtain ⟨ch, hch⟩ : ∃ ch, ch = 256 * p + q := ⟨_, rfl⟩
  have hch2 : ch < 65536 := by omega
  have e1 : 256 * (p : Int) + q = ch := by omega
  obtain ⟨lo, hlo⟩ : ∃ lo, lo = x / 65536 * 65536 := ⟨_, rfl⟩
  obtain ⟨rs, hrs⟩ : ∃ rs, rs = x % 65536 := ⟨_, rfl⟩
  have hsum : x = lo + rs := by omega
  have hlo2 : lo < 4286578688 := by omega
  have hrs2 : rs < 65536 := by omega
  have a1' := andNot_i64 x (by omega)
  have a2' := and_low x hx
  have a3' := and_bit lo (by omega)
  rw [← hlo] at a1'
  rw [← hrs] at a2'
  have hbit : lo / 65536 % 2 = x / 65536 % 2 := by omega
  have hnr1 : cn .f32 nr = cn .f32 (bfW x) := by
    rw [hnr.out.1]; unfold bfE
    rw [isN_cn, hn, if_neg (by decide), cn_not hn]
  have hbw : bfW x = if rs < 32768 ∨ (rs = 32768 ∧ lo / 65536 % 2 = 0) then lo else lo + 65536 := by
    unfold bfW
    have : x / 65536 % 2 < 2 := Nat.mod_lt _ (by decide)
    split <;> omega
  have hbyw : (x + ch) / 65536 * 65536 = if 65536 ≤ rs + ch then lo + 65536 else lo := by split <;> omega
  have hby := fun W => impl_BfloatBy_fin x ch hle hch2 HF.out W
  have hbits := fun W => spec_BitsOf x hx W
  rw [cn_not hn] at hbits
  have HBI := Lib.hid hbits; have HN1 := Lib.hid hnr1; have HE1 := Lib.hid e1
  have e2 : ((lo + 65536 : Nat) : Int) = (lo : Int) + 65536 := by omega
  obtain ⟨hw, hhw⟩ : ∃ hw, hw = lo + 65536 := ⟨_, rfl⟩
  have hfb := fun W => spec_FromBits (lo + 65536) (by omega) W
  rw [e2, ← hhw] at hfb
  rw [← hhw] at hbyw hbw
  have hw2 : hw < 4294967296 := by omega
  clear hhw
  have HFB := Lib.hid hfb
  clear hfb e2 hbits hnr1 hn hk hlo hrs hch hsum hbit
  have hb2 : lo / 65536 % 2 < 2 := Nat.mod_lt _ (by decide)
  generalize lo / 65536 % 2 = bt at hbw a3' hb2
  have hcase1 : (65536 : Int) ≤ (rs : Int) + ch ∨ (rs : Int) + ch < 65536 := by omega
  have hcase2 : (rs : Int) < 32768 ∨ (rs = 32768 ∧ bt = 0) ∨ (rs = 32768 ∧ bt = 1) ∨ (32768 : Int) < rs := by omega
  rcases hcase1 with h1 | h1
  · rw [hbyw, if_pos (by omega), ← e1] at hby
    have g1 : decide ((rs : Int) + ch < 65536) = false := by simp; omega
    have g2 : decide (65536 ≤ (rs : Int) + ch) = true := by simp; omega
    clear h1
    have HBY := Lib.hid hby; clear hby hbyw e1
    rcases hcase2 with h2 | ⟨h2, h3⟩ | ⟨h2, h3⟩ | h2
    · rw [if_pos (by omega)] at hbw
      have HBW := Lib.hid hbw; clear hbw
      have g3 : decide ((rs : Int) < 32768) = true := by simp; omega
      clear h2
      go_wp2_with fail
      refine (HBY.out _).mono ?_
      rintro e w4 ⟨rfl, q4, rfl⟩
      rw [HE1.out]
      go_wp2_with fail
      refine (spec_IsFinite x _).mono ?_
      rw [HF.out]
      rintro e w5 ⟨rfl, q5, rfl⟩
      go_wp2_with fail
      refine (HBI.out _).mono ?_
      rintro e w6 ⟨rfl, rfl⟩
      go_wp2_with fail
      refine (spec_FromBits lo (by omega) _).mono ?_
      rintro e w7 ⟨rfl, rfl⟩
      go_wp2_with fail
      refine (HFB.out _).mono ?_
      rintro e w8 ⟨rfl, rfl⟩
      go_wp2_with fail
      refine (spec_SameNumber hw hw (by omega) (by omega) _).mono ?_
      rw [show decide (cn .f32 hw = cn .f32 hw) = true by simp]
      rintro e w9 ⟨rfl, rfl⟩
      go_wp2_with fail
      refine (spec_SameNumber nr lo hnr.out.2 (by omega) _).mono ?_
      rw [show decide (cn .f32 nr = cn .f32 lo) = true by rw [HN1.out, HBW.out]; simp]
      rintro e w10 ⟨rfl, rfl⟩
      go_wp2
      go_ret
      exact ⟨rfl, below_drewN HB.out _⟩
    · rw [if_pos (by omega)] at hbw
      have HBW := Lib.hid hbw; clear hbw
      have g3 : decide ((rs : Int) < 32768) = false := by simp; omega
      have g4 : ((rs : Int) == 32768) = true := by simp; omega
      have g5 : bits .and .i64 (lo : Int) 65536 = 0 := by rw [a3', h3]; rfl
      clear a3'
      clear h2 h3
      go_wp2_with fail
      refine (HBY.out _).mono ?_
      rintro e w4 ⟨rfl, q4, rfl⟩
      rw [HE1.out]
      go_wp2_with fail
      refine (spec_IsFinite x _).mono ?_
      rw [HF.out]
      rintro e w5 ⟨rfl, q5, rfl⟩
      go_wp2_with fail
      refine (HBI.out _).mono ?_
      rintro e w6 ⟨rfl, rfl⟩
      go_wp2_with fail
      refine (spec_FromBits lo (by omega) _).mono ?_
      rintro e w7 ⟨rfl, rfl⟩
      go_wp2_with fail
      refine (HFB.out _).mono ?_
      rintro e w8 ⟨rfl, rfl⟩
      go_wp2_with fail
      refine (spec_SameNumber hw hw (by omega) (by omega) _).mono ?_
      rw [show decide (cn .f32 hw = cn .f32 hw) = true by simp]
      rintro e w9 ⟨rfl, rfl⟩
      go_wp2_with fail
      refine (spec_SameNumber nr lo hnr.out.2 (by omega) _).mono ?_
      rw [show decide (cn .f32 nr = cn .f32 lo) = true by rw [HN1.out, HBW.out]; simp]
      rintro e w10 ⟨rfl, rfl⟩
      go_wp2
      go_ret
      exact ⟨rfl, below_drewN HB.out _⟩
    · rw [if_neg (by omega)] at hbw
      have HBW := Lib.hid hbw; clear hbw
      have g3 : decide ((rs : Int) < 32768) = false := by simp; omega
      have g4 : ((rs : Int) == 32768) = true := by simp; omega
      have g5 : bits .and .i64 (lo : Int) 65536 = 65536 := by rw [a3', h3]; rfl
      clear a3'
      clear h2 h3
      go_wp2_with fail
      refine (HBY.out _).mono ?_
      rintro e w4 ⟨rfl, q4, rfl⟩
      rw [HE1.out]
      go_wp2_with fail
      refine (spec_IsFinite x _).mono ?_
      rw [HF.out]
      rintro e w5 ⟨rfl, q5, rfl⟩
      go_wp2_with fail
      refine (HBI.out _).mono ?_
      rintro e w6 ⟨rfl, rfl⟩
      go_wp2_with fail
      refine (spec_FromBits lo (by omega) _).mono ?_
      rintro e w7 ⟨rfl, rfl⟩
      go_wp2_with fail
      refine (HFB.out _).mono ?_
      rintro e w8 ⟨rfl, rfl⟩
      go_wp2_with fail
      refine (spec_SameNumber hw hw (by omega) (by omega) _).mono ?_
      rw [show decide (cn .f32 hw = cn .f32 hw) = true by simp]
      rintro e w9 ⟨rfl, rfl⟩
      go_wp2_with fail
      refine (spec_SameNumber nr hw hnr.out.2 (by omega) _).mono ?_
      rw [show decide (cn .f32 nr = cn .f32 hw) = true by rw [HN1.out, HBW.out]; simp]
      rintro e w10 ⟨rfl, rfl⟩
      go_wp2
      go_ret
      exact ⟨rfl, below_drewN HB.out _⟩
    · rw [if_neg (by omega)] at hbw
      have HBW := Lib.hid hbw; clear hbw
      have g3 : decide ((rs : Int) < 32768) = false := by simp; omega
      have g4 : ((rs : Int) == 32768) = false := by simp; omega
      clear h2
      go_wp2_with fail
      refine (HBY.out _).mono ?_
      rintro e w4 ⟨rfl, q4, rfl⟩
      rw [HE1.out]
      go_wp2_with fail
      refine (spec_IsFinite x _).mono ?_
      rw [HF.out]
      rintro e w5 ⟨rfl, q5, rfl⟩
      go_wp2_with fail
      refine (HBI.out _).mono ?_
      rintro e w6 ⟨rfl, rfl⟩
      go_wp2_with fail
      refine (spec_FromBits lo (by omega) _).mono ?_
      rintro e w7 ⟨rfl, rfl⟩
      go_wp2_with fail
      refine (HFB.out _).mono ?_
      rintro e w8 ⟨rfl, rfl⟩
      go_wp2_with fail
      refine (spec_SameNumber hw hw (by omega) (by omega) _).mono ?_
      rw [show decide (cn .f32 hw = cn .f32 hw) = true by simp]
      rintro e w9 ⟨rfl, rfl⟩
      go_wp2_with fail
      refine (spec_SameNumber nr hw hnr.out.2 (by omega) _).mono ?_
      rw [show decide (cn .f32 nr = cn .f32 hw) = true by rw [HN1.out, HBW.out]; simp]
      rintro e w10 ⟨rfl, rfl⟩
      go_wp2
      go_ret
      exact ⟨rfl, below_drewN HB.out _⟩
  · rw [hbyw, if_neg (by omega), ← e1] at hby
    have g1 : decide ((rs : Int) + ch < 65536) = true := by simp; omega
    have g2 : decide (65536 ≤ (rs : Int) + ch) = false := by simp; omega
    clear h1
    have HBY := Lib.hid hby; clear hby hbyw e1
    rcases hcase2 with h2 | ⟨h2, h3⟩ | ⟨h2, h3⟩ | h2
    · rw [if_pos (by omega)] at hbw
      have HBW := Lib.hid hbw; clear hbw
      have g3 : decide ((rs : Int) < 32768) = true := by simp; omega
      clear h2
      go_wp2_with fail
      refine (HBY.out _).mono ?_
      rintro e w4 ⟨rfl, q4, rfl⟩
      rw [HE1.out]
      go_wp2_with fail
      refine (spec_IsFinite x _).mono ?_
      rw [HF.out]
      rintro e w5 ⟨rfl, q5, rfl⟩
      go_wp2_with fail
      refine (HBI.out _).mono ?_
      rintro e w6 ⟨rfl, rfl⟩
      go_wp2_with fail
      refine (spec_FromBits lo (by omega) _).mono ?_
      rintro e w7 ⟨rfl, rfl⟩
      go_wp2_with fail
      refine (HFB.out _).mono ?_
      rintro e w8 ⟨rfl, rfl⟩
      go_wp2_with fail
      refine (spec_SameNumber lo lo (by omega) (by omega) _).mono ?_
      rw [show decide (cn .f32 lo = cn .f32 lo) = true by simp]
      rintro e w9 ⟨rfl, rfl⟩
      go_wp2_with fail
      refine (spec_SameNumber nr lo hnr.out.2 (by omega) _).mono ?_
      rw [show decide (cn .f32 nr = cn .f32 lo) = true by rw [HN1.out, HBW.out]; simp]
      rintro e w10 ⟨rfl, rfl⟩
      go_wp2
      go_ret
      exact ⟨rfl, below_drewN HB.out _⟩
    · rw [if_pos (by omega)] at hbw
      have HBW := Lib.hid hbw; clear hbw
      have g3 : decide ((rs : Int) < 32768) = false := by simp; omega
      have g4 : ((rs : Int) == 32768) = true := by simp; omega
      have g5 : bits .and .i64 (lo : Int) 65536 = 0 := by rw [a3', h3]; rfl
      clear a3'
      clear h2 h3
      go_wp2_with fail
      refine (HBY.out _).mono ?_
      rintro e w4 ⟨rfl, q4, rfl⟩
      rw [HE1.out]
      go_wp2_with fail
      refine (spec_IsFinite x _).mono ?_
      rw [HF.out]
      rintro e w5 ⟨rfl, q5, rfl⟩
      go_wp2_with fail
      refine (HBI.out _).mono ?_
      rintro e w6 ⟨rfl, rfl⟩
      go_wp2_with fail
      refine (spec_FromBits lo (by omega) _).mono ?_
      rintro e w7 ⟨rfl, rfl⟩
      go_wp2_with fail
      refine (HFB.out _).mono ?_
      rintro e w8 ⟨rfl, rfl⟩
      go_wp2_with fail
      refine (spec_SameNumber lo lo (by omega) (by omega) _).mono ?_
      rw [show decide (cn .f32 lo = cn .f32 lo) = true by simp]
      rintro e w9 ⟨rfl, rfl⟩
      go_wp2_with fail
      refine (spec_SameNumber nr lo hnr.out.2 (by omega) _).mono ?_
      rw [show decide (cn .f32 nr = cn .f32 lo) = true by rw [HN1.out, HBW.out]; simp]
      rintro e w10 ⟨rfl, rfl⟩
      go_wp2
      go_ret
      exact ⟨rfl, below_drewN HB.out _⟩
    · rw [if_neg (by omega)] at hbw
      have HBW := Lib.hid hbw; clear hbw
      have g3 : decide ((rs : Int) < 32768) = false := by simp; omega
      have g4 : ((rs : Int) == 32768) = true := by simp; omega
      have g5 : bits .and .i64 (lo : Int) 65536 = 65536 := by rw [a3', h3]; rfl
      clear a3'
      clear h2 h3
      go_wp2_with fail
      refine (HBY.out _).mono ?_
      rintro e w4 ⟨rfl, q4, rfl⟩
      rw [HE1.out]
      go_wp2_with fail
      refine (spec_IsFinite x _).mono ?_
      rw [HF.out]
      rintro e w5 ⟨rfl, q5, rfl⟩
      go_wp2_with fail
      refine (HBI.out _).mono ?_
      rintro e w6 ⟨rfl, rfl⟩
      go_wp2_with fail
      refine (spec_FromBits lo (by omega) _).mono ?_
      rintro e w7 ⟨rfl, rfl⟩
      go_wp2_with fail
      refine (HFB.out _).mono ?_
      rintro e w8 ⟨rfl, rfl⟩
      go_wp2_with fail
      refine (spec_SameNumber lo lo (by omega) (by omega) _).mono ?_
      rw [show decide (cn .f32 lo = cn .f32 lo) = true by simp]
      rintro e w9 ⟨rfl, rfl⟩
      go_wp2_with fail
      refine (spec_SameNumber nr hw hnr.out.2 (by omega) _).mono ?_
      rw [show decide (cn .f32 nr = cn .f32 hw) = true by rw [HN1.out, HBW.out]; simp]
      rintro e w10 ⟨rfl, rfl⟩
      go_wp2
      go_ret
      exact ⟨rfl, below_drewN HB.out _⟩
    · rw [if_neg (by omega)] at hbw
      have HBW := Lib.hid hbw; clear hbw
      have g3 : decide ((rs : Int) < 32768) = false := by simp; omega
      have g4 : ((rs : Int) == 32768) = false := by simp; omega
      clear h2
      go_wp2_with fail
      refine (HBY.out _).mono ?_
      rintro e w4 ⟨rfl, q4, rfl⟩
      rw [HE1.out]
      go_wp2_with fail
      refine (spec_IsFinite x _).mono ?_
      rw [HF.out]
      rintro e w5 ⟨rfl, q5, rfl⟩
      go_wp2_with fail
      refine (HBI.out _).mono ?_
      rintro e w6 ⟨rfl, rfl⟩
      go_wp2_with fail
      refine (spec_FromBits lo (by omega) _).mono ?_
      rintro e w7 ⟨rfl, rfl⟩
      go_wp2_with fail
      refine (HFB.out _).mono ?_
      rintro e w8 ⟨rfl, rfl⟩
      go_wp2_with fail
      refine (spec_SameNumber lo lo (by omega) (by omega) _).mono ?_
      rw [show decide (cn .f32 lo = cn .f32 lo) = true by simp]
      rintro e w9 ⟨rfl, rfl⟩
      go_wp2_with fail
      refine (spec_SameNumber nr hw hnr.out.2 (by omega) _).mono ?_
      rw [show decide (cn .f32 nr = cn .f32 hw) = true by rw [HN1.out, HBW.out]; simp]
      rintro e w10 ⟨rfl, rfl⟩
      go_wp2
      go_ret
      exact ⟨rfl, below_drewN HB.out _⟩
end Go.Proofs.Ytnnefcakfaifmaa
