/- Joined texts 2: Fl6 Abs Lab Hub Fl7 Clp Bat Tn0 Snm Tn1 Bx3 Tn2 Tn3 Tn5 Tn6. Each is told at its own head. No condition. -/
import Derived.Laws.BitsAllLaws
import Derived.Laws.Runes
import GoSem.Extern.MathSqrt
import Derived.Laws.AppendOwnNone
import Derived.Deep.RegionHeld3
import Derived.Deep.AppendLies
import Derived.Deep.RegionLaw
import Derived.Test.YtnkikigfpdngdaaMc1
/- Plain laws of floats, continued: absolute values. No condition. -/
namespace Go.Proofs.Ytnkikigfpdngdaa
open Go Go.RowKit Ieee
set_option linter.unusedVariables false
set_option linter.unusedSimpArgs false
@[go_sem] theorem run_neg_f {P : Program} (w : World) (k : FloatKind) (b : Nat) : (Op.unary .neg (.float k b)).run P w = .ok (.float k (Op.negFloat k b)) w := rfl
theorem word_lt (f : Format) (neg : Bool) {r : Nat} (h : r < f.signWeight) : f.word neg r < 2 * f.signWeight := by
  unfold Format.word; split <;> omega
/-- a conversion that does not fall out of the range gives a word of the kind -/
theorem cv_lt32 {b : Nat} (w : World) (h : cvWide .f64 b .f32 = false) : cvbits .f64 b .f32 w < 4294967296 := by
  have hk : 2 * single.signWeight = 4294967296 := by decide +kernel
  cases hd : FloatKind.f64.decode b with
  | nan s t =>
    unfold cvbits
    rw [if_neg (by decide), hd]
    exact drawn_lt .f32 0 0 _
  | infinity s =>
    unfold cvbits
    rw [if_neg (by decide), hd]
    show FloatKind.f32.encode (.infinity s) < _
    cases s <;> decide +kernel
  | number s m e =>
    rw [cv_num (k := .f64) (k2 := .f32) hd (by decide) h w]
    obtain ⟨q, hq, hle⟩ := nearest_word single s m e
    rw [show FloatKind.f32.format.nearest s m e = _ from hq, ← hk]
    exact word_lt single s (Nat.lt_of_le_of_lt hle single.infRung_lt)
theorem isN_mod (d : Nat) : isN .f64 (d % 9223372036854775808) = isN .f64 d := by
  have hs : double.signWeight = 9223372036854775808 := by decide +kernel
  unfold isN
  show (double.read (d % 9223372036854775808)).isNaN = (double.read d).isNaN
  rw [← hs]
  simp only [Format.read, Nat.mod_mod]
  split
  · rfl
  · split
    · rfl
    · split <;> rfl
theorem isN_mod32 (d : Nat) : isN .f32 (d % 2147483648) = isN .f32 d := by
  have hs : single.signWeight = 2147483648 := by decide +kernel
  unfold isN
  show (single.read (d % 2147483648)).isNaN = (single.read d).isNaN
  rw [← hs]
  simp only [Format.read, Nat.mod_mod]
  split
  · rfl
  · split
    · rfl
    · split <;> rfl
theorem isN_wide (x : Nat) (w : World) (h : isN .f32 x = true) : isN .f64 (cvbits .f32 x .f64 w) = true := by
  have := isN_of_cn ((cn_wide x w).trans (show fcv .f32 (cn .f32 x) .f64 = cn .f64 (nanOf .f64) by rw [cn_nan h]; decide +kernel))
  rw [this]; exact isN_nanOf .f64
theorem wide_nan {b : Nat} (h : isN .f64 b = true) : cvWide .f64 b .f32 = false := by
  unfold cvWide
  rw [if_neg (by decide)]
  unfold isN at h
  cases hd : FloatKind.f64.decode b with
  | nan s t => rfl
  | infinity s => rfl
  | number s m e => rw [show FloatKind.f64.format.read b = _ from hd] at h; cases h
/-- the absolute value, NaNs made one -/
def absW (c : Nat) : Nat := if isN .f32 c = true then nanOf .f32 else c % 2147483648
theorem word_mod32 (s : Bool) {r : Nat} (h : r < single.signWeight) : single.word s r % 2147483648 = r := by
  rw [← s_sw]; exact word_mod single s h
theorem abs_round {x : Nat} (hx : x < 4294967296) (w w' : World) : cvWide .f64 (cvbits .f32 x .f64 w % 9223372036854775808) .f32 = false ∧ cn .f32 (cvbits .f64 (cvbits .f32 x .f64 w % 9223372036854775808) .f32 w') = absW (cn .f32 x) := by
  cases hN : isN .f32 x
  · rw [cn_not hN]
    unfold absW
    rw [if_neg (by rw [hN]; decide)]
    obtain ⟨s, r, rfl, hr⟩ := word_of single (x := x) (by rw [s_sw]; omega)
    rw [word_mod32 s hr]
    rcases Nat.lt_trichotomy r single.infRung with h | h | h
    · obtain ⟨q, hq, hw, hv⟩ := wide_fin s h
      rw [hw w, ← d_sw, word_mod double s (Nat.lt_trans hq double.infRung_lt)]
      have hn := narrow_fin false h hq hv w'
      have e1 : double.word false q = q := rfl
      have e2 : single.word false r = r := rfl
      rw [e1, e2] at hn
      refine ⟨hn.2, ?_⟩
      rw [hn.1]
      exact cn_not (read_word_le single false (Nat.le_of_lt h))
    · subst h
      have e1 : cvbits .f32 (single.word s single.infRung) .f64 w = double.word s double.infRung := by
        unfold cvbits
        rw [if_neg (by decide), show FloatKind.f32.decode (single.word s single.infRung) = _ from read_inf single single_binade s]
        rfl
      rw [e1, ← d_sw, word_mod double s double.infRung_lt]
      have e2 : FloatKind.f64.decode double.infRung = .infinity false := read_inf double double_binade false
      refine ⟨by unfold cvWide; rw [if_neg (by decide), e2], ?_⟩
      have e3 : cvbits .f64 double.infRung .f32 w' = single.infRung := by
        unfold cvbits
        rw [if_neg (by decide), e2]
        rfl
      rw [e3]
      exact cn_not (read_word_le single false (Nat.le_refl _))
    · have := nan_word single single_binade s h hr
      have h2 : isN .f32 (single.word s r) = true := this
      rw [hN] at h2; cases h2
  · have h1 : isN .f64 (cvbits .f32 x .f64 w % 9223372036854775808) = true := by rw [isN_mod]; exact isN_wide x w hN
    refine ⟨wide_nan h1, ?_⟩
    rw [cn_cvbits w' (wide_nan h1), cn_nan h1, cn_nan hN]
    decide +kernel
theorem and_63 (b : Nat) (hb : b < 18446744073709551616) : bits .andNot .u64 (b : Int) 9223372036854775808 = ((b % 9223372036854775808 : Nat) : Int) := by
  have := u64_andNot_nat b 9223372036854775808 hb (by decide)
  rw [show ((9223372036854775808 : Nat) : Int) = 9223372036854775808 from rfl] at this
  rw [this, show 18446744073709551615 - 9223372036854775808 = 2 ^ 63 - 1 by decide, Nat.and_two_pow_sub_one_eq_mod]
theorem and_31 (a : Nat) (ha : a < 4294967296) : bits .andNot .i64 (a : Int) 2147483648 = ((a % 2147483648 : Nat) : Int) := by
  show IntKind.i64.wrap ((BitVec.ofInt 64 (a : Int) &&& ~~~BitVec.ofInt 64 2147483648).toNat : Int) = _
  have h1 : (BitVec.ofInt 64 2147483648).toNat = 2147483648 := by decide
  have h2 : (BitVec.ofInt 64 (a : Int)).toNat = a := by
    rw [BitVec.toNat_ofInt]; omega
  rw [BitVec.toNat_and, BitVec.toNat_not, h1, h2]
  have h3 : a &&& (2 ^ 64 - 1 - 2147483648) = a % 2147483648 := by
    apply Nat.eq_of_testBit_eq
    intro i
    rw [show 2 ^ 64 - 1 - 2147483648 = 2 ^ 64 - (2 ^ 31 + 1) by decide, show 2147483648 = 2 ^ 31 by decide, Nat.testBit_and, Nat.testBit_mod_two_pow, Nat.testBit_two_pow_sub_succ (by decide), Nat.testBit_two_pow]
    by_cases h : i < 32
    · by_cases h31 : i = 31
      · subst h31; simp
      · have : i < 31 := by omega
        have h64 : i < 64 := by omega
        have hne : ¬ (31 = i) := by omega
        simp [this, h64, hne]
    · have : a.testBit i = false := Nat.testBit_lt_two_pow (Nat.lt_of_lt_of_le (by omega : a < 2 ^ 32) (Nat.pow_le_pow_right (by decide) (by omega)))
      simp [this]
  rw [h3]
  have : ((a % 2147483648 : Nat) : Int) < 9223372036854775808 := by omega
  exact wrap_small _ (by omega) this
theorem cn_lt {x : Nat} (hx : x < 4294967296) : cn .f32 x < 4294967296 := by
  unfold cn; split
  · decide
  · exact hx
end Go.Proofs.Ytnkikigfpdngdaa
/- What absolute values, the greatest of two, a not-a-number are. No condition. -/
namespace Go.Proofs.Ytnkikigfpdngdaa
open Go Go.RowKit
set_option linter.unusedVariables false
set_option linter.unusedSimpArgs false
theorem run_f64from (x : Int) (w : World) : (callFunc 182 #[.int .u64 x]).run Try.prog w = .ok (.value (.float .f64 x.toNat)) w := by
  rw [run_callFunc_extern (show Try.prog.funcs[182]? = some Try.f182 by kernel_rfl) (by kernel_rfl) (by kernel_rfl) (by kernel_rfl) (e := Extern.MathFloatBits.float64frombits) (by kernel_rfl)]
  rfl
theorem run_f32from (x : Int) (w : World) : (callFunc 245 #[.int .u32 x]).run Try.prog w = .ok (.value (.float .f32 x.toNat)) w := by
  rw [run_callFunc_extern (show Try.prog.funcs[245]? = some Try.f245 by kernel_rfl) (by kernel_rfl) (by kernel_rfl) (by kernel_rfl) (e := Extern.MathFloatBits.float32frombits) (by kernel_rfl)]
  rfl
theorem math_Abs (b : Nat) (hb : b < 18446744073709551616) (w : World) : Calls Try.prog 114 #[.float .f64 b] w fun e w' => e = .returned (.float .f64 (b % 9223372036854775808)) ∧ w = w' := by
  have hd := run_f64bits
  have hd2 := run_f64from
  go_enter Try.func114, Try.ntmps114
  go_wp2
  go_ret
  exact ⟨by rw [and_63 b hb]; rfl, rfl⟩
theorem spec_l01From (n : Nat) (hn : n < 4294967296) (w : World) : Calls Try.prog 203 #[.int .i64 n] w fun e w' => e = .returned (.float .f32 n) ∧ w = w' := by
  have hd := run_f32from
  go_enter Try.func203, Try.ntmps203
  go_wp2
  go_ret
  exact ⟨rfl, rfl⟩
theorem math_NaN (w : World) : Calls Try.prog 115 #[] w fun e w' => e = .returned (.float .f64 9221120237041090561) ∧ w = w' := by
  have hd2 := run_f64from
  go_enter Try.func115, Try.ntmps115
  go_wp2
  go_ret
  exact ⟨rfl, rfl⟩
theorem impl_noNumber (w : World) : Calls Try.prog 243 #[] w fun e w' => ∃ r, e = .returned (.float .f32 r) ∧ Hid (cn .f32 r = nanOf .f32 ∧ r < 4294967296) ∧ Dr w w' := by
  go_enter Try.func243, Try.ntmps243
  go_wp2_with (go_at_call 115; refine (math_NaN _).mono ?_; rintro e w' ⟨rfl, rfl⟩)
  go_ret
  have hn : isN .f64 9221120237041090561 = true := by decide +kernel
  exact ⟨_, rfl, Lib.hid ⟨by rw [cn_cvbits _ (wide_nan hn), cn_nan hn]; decide +kernel, cv_lt32 _ (wide_nan hn)⟩, _, rfl⟩
end Go.Proofs.Ytnkikigfpdngdaa
/- What the mean of absolute values and its gradients are. No condition. -/
namespace Go.Proofs.Ytnkikigfpdngdaa
open Go Go.RowKit
set_option linter.unusedVariables false
set_option linter.unusedSimpArgs false
theorem RepF.belowHi {w w' : World} {lo hi B : Nat} {ad : Option Addr} {n cap : Nat} {xs : List Nat} (h : RepF w lo hi ad n cap xs) (hb : Below B w w') (hB : hi ≤ B) : RepF w' lo hi ad n cap xs :=
  h.touch (lo2 := B) (hi2 := w.heap.size) ⟨hb.os, hb.tape, hb.output, hb.size, fun k hk hd => hb.block k (by omega)⟩ (.inl hB)
theorem Touch.setCell {w : World} {lo hi g k : Nat} {v : Value} (h1 : lo ≤ g) (h2 : g < hi) : Touch lo hi w (w.setCell ⟨g, k, none⟩ v) :=
  ⟨rfl, rfl, rfl, by simp [World.setCell], fun j hj hd => Below.heap_setCell _ _ _ _ (by intro e; simp at e; omega)⟩
theorem own_set {w : World} {base g k n : Nat} {v u : Value} {cs : List Value} (h : w.ownsRow base 33 1 v n cs) (hg : g < base) : (w.setCell ⟨g, k, none⟩ u).ownsRow base 33 1 v n cs :=
  ((Row.mk' h).touch (Touch.setCell (lo := 0) (hi := base) (Nat.zero_le _) hg) (.inr (Nat.le_refl _))).own
theorem RepF.lt_hi {w : World} {lo hi g n cap : Nat} {xs : List Nat} (h : RepF w lo hi (some ⟨g, 0, none⟩) n cap xs) : g < hi := h.row.top g rfl
theorem mem_getD {xs : List Nat} {k : Nat} (h : k < xs.length) : xs.getD k 0 ∈ xs := by
  rw [List.getD_eq_getElem?_getD, List.getElem?_eq_getElem h]; exact List.getElem_mem h
def abG (D : Nat → Nat) (n i : Nat) : Nat := match FloatKind.f32.format.order (D i) 0 with
  | some .gt => fop .quo .f32 1065353216 (floatOfInt .f32 n)
  | some .lt => fop .quo .f32 3212836864 (floatOfInt .f32 n)
  | some .eq => 0
  | none => nanOf .f32
def abA (D : Nat → Nat) (i : Nat) : Nat := absW (D i)
def abL (D : Nat → Nat) (n : Nat) : Nat := fop .quo .f32 (sumS (listOf n (abA D)) n) (floatOfInt .f32 n)
theorem cn_one : cn .f32 1065353216 = 1065353216 := by decide +kernel
theorem cn_minus : cn .f32 3212836864 = 3212836864 := by decide +kernel
theorem order_at {x d : Nat} (h : cn .f32 x = d) : FloatKind.f32.format.order d 0 = FloatKind.f32.format.order x 0 := by
  rw [← h, show (0 : Nat) = cn .f32 0 from cn_zero.symm, order_cn, cn_zero]
theorem isN_none {x : Nat} (h : FloatKind.f32.format.order x 0 = none) : isN .f32 x = true := by
  cases hx : isN .f32 x
  · exfalso
    have h0 : isN .f32 0 = false := by decide +kernel
    unfold isN at hx h0
    have h1 : (FloatKind.f32.format.read x).order (FloatKind.f32.format.read 0) = none := h
    cases e1 : FloatKind.f32.format.read x with
    | nan s t => rw [e1] at hx; cases hx
    | infinity s => rw [e1] at h1; cases e2 : FloatKind.f32.format.read 0 with
      | nan s t => rw [e2] at h0; cases h0
      | infinity t => rw [e2] at h1; cases h1
      | number t m p => rw [e2] at h1; cases h1
    | number s m p => rw [e1] at h1; cases e2 : FloatKind.f32.format.read 0 with
      | nan s t => rw [e2] at h0; cases h0
      | infinity t => rw [e2] at h1; cases h1
      | number t m p => rw [e2] at h1; cases h1
  · rfl
end Go.Proofs.Ytnkikigfpdngdaa
/- What a loss that is bent and its gradients are. No condition. -/
namespace Go.Proofs.Ytnkikigfpdngdaa
open Go Go.RowKit
set_option linter.unusedVariables false
set_option linter.unusedSimpArgs false
def leF (a c : Nat) : Bool := FloatKind.f32.format.order a c == some .lt || FloatKind.f32.format.order a c == some .eq
def gtZ (a : Nat) : Bool := FloatKind.f32.format.order a 0 == some .gt
theorem leF_at {r a c : Nat} (h : cn .f32 r = a) : leF r c = leF a c := by
  unfold leF
  rw [← order_cn .f32 r c, ← order_cn .f32 a c, h, ← h, cn_cn]
theorem gtZ_at {r a : Nat} (h : cn .f32 r = a) : gtZ r = gtZ a := by
  unfold gtZ
  rw [← order_cn .f32 r 0, ← order_cn .f32 a 0, h, ← h, cn_cn]
def huG (c : Nat) (D : Nat → Nat) (n i : Nat) : Nat := if leF (absW (D i)) c = true then fop .quo .f32 (D i) (floatOfInt .f32 n) else if gtZ (D i) = true then fop .quo .f32 (cn .f32 c) (floatOfInt .f32 n) else fop .quo .f32 (cn .f32 (Op.negFloat .f32 c)) (floatOfInt .f32 n)
def huA (c : Nat) (D : Nat → Nat) (i : Nat) : Nat := if leF (absW (D i)) c = true then fop .quo .f32 (fop .mul .f32 (D i) (D i)) 1073741824 else fop .mul .f32 (cn .f32 c) (fop .sub .f32 (absW (D i)) (fop .quo .f32 (cn .f32 c) 1073741824))
def huL (c : Nat) (D : Nat → Nat) (n : Nat) : Nat := fop .quo .f32 (sumS (listOf n (huA c D)) n) (floatOfInt .f32 n)
end Go.Proofs.Ytnkikigfpdngdaa
/- Plain laws of floats, continued: how great a written number is; square roots. No condition. -/
namespace Go.Proofs.Ytnkikigfpdngdaa
open Go Go.RowKit Ieee
set_option linter.unusedVariables false
set_option linter.unusedSimpArgs false
theorem cut_le (neg : Bool) (n d : Nat) : Toward.even.cut neg n d ≤ n / (1 <<< min d (n.log2 + 2)) + 1 := by
  unfold Toward.cut
  exact Nat.add_le_add_left (Bool.toNat_le _) _
/-- the rung of a written number is not above a bound by its exponent -/
theorem nearest_bound (f : Format) (neg : Bool) {m : Nat} {p E : Int} (hE : p + m.log2 ≤ E) (hE2 : f.leastPlace ≤ E - f.fractionBits) :
    ∃ r, f.nearest neg m p = f.word neg r ∧ r ≤ (E - f.fractionBits - f.leastPlace).toNat * f.binade + 2 * f.binade ∧ r ≤ f.infRung := by
  have hB : f.binade = 2 ^ f.fractionBits := rfl
  by_cases hm : m = 0
  · subst hm
    unfold Format.nearest
    rw [if_pos rfl]
    exact ⟨0, rfl, Nat.zero_le _, Nat.zero_le _⟩
  obtain ⟨last, hlast⟩ : ∃ l, l = max (p + m.log2 - (f.fractionBits : Nat)) f.leastPlace := ⟨_, rfl⟩
  have h1 : last ≤ E - f.fractionBits := by omega
  have h2 : f.leastPlace ≤ last := by omega
  have h3 : p + m.log2 - (f.fractionBits : Nat) ≤ last := by omega
  unfold Format.nearest
  rw [if_neg hm]
  simp only [← hlast]
  refine ⟨_, rfl, Nat.le_trans (Nat.min_le_left _ _) ?_, Nat.min_le_right _ _⟩
  have hk : Toward.even.cut neg (m <<< (p - last).toNat) (last - p).toNat ≤ 2 * f.binade := by
    by_cases h : last ≤ p
    · have e : (last - p).toNat = 0 := by omega
      rw [e, cut_zero, Nat.shiftLeft_eq]
      have h4 : m.log2 + (p - last).toNat ≤ f.fractionBits := by omega
      have h5 := Nat.lt_log2_self (n := m)
      have h6 : m * 2 ^ (p - last).toNat < 2 ^ (m.log2 + 1) * 2 ^ (p - last).toNat := Nat.mul_lt_mul_of_pos_right h5 (Nat.two_pow_pos _)
      rw [← Nat.pow_add] at h6
      have h7 : 2 ^ (m.log2 + 1 + (p - last).toNat) ≤ 2 ^ (f.fractionBits + 1) := Nat.pow_le_pow_right (by decide) (by omega)
      rw [Nat.pow_succ] at h7
      omega
    · have e : (p - last).toNat = 0 := by omega
      rw [e, Nat.shiftLeft_zero]
      refine Nat.le_trans (cut_le _ _ _) ?_
      have h5 := Nat.lt_log2_self (n := m)
      by_cases h8 : (last - p).toNat ≤ m.log2 + 2
      · rw [Nat.min_eq_left h8, Nat.shiftLeft_eq, Nat.one_mul]
        have h9 : m < 2 ^ (f.fractionBits + 1) * 2 ^ (last - p).toNat := by
          rw [← Nat.pow_add]
          exact Nat.lt_of_lt_of_le h5 (Nat.pow_le_pow_right (by decide) (by omega))
        have h10 := Nat.div_lt_of_lt_mul (Nat.mul_comm _ _ ▸ h9)
        rw [Nat.pow_succ] at h10
        omega
      · rw [Nat.min_eq_right (by omega), Nat.shiftLeft_eq, Nat.one_mul]
        have h9 : m / 2 ^ (m.log2 + 2) = 0 := Nat.div_eq_of_lt (Nat.lt_of_lt_of_le h5 (Nat.pow_le_pow_right (by decide) (by omega)))
        rw [h9]
        have := Nat.two_pow_pos f.fractionBits
        omega
  have h4 : (last - f.leastPlace).toNat ≤ (E - f.fractionBits - f.leastPlace).toNat := by omega
  have := Nat.mul_le_mul_right f.binade h4
  omega
theorem s_bin : single.binade = 2 ^ 23 := by decide +kernel
theorem s_fb : single.fractionBits = 23 := rfl
theorem d_fb : double.fractionBits = 52 := rfl
/-- a wide number under 2 to the power of 127 is not too great for 32 bits -/
theorem narrow_small {b : Nat} {s : Bool} {m : Nat} {p : Int} (hd : FloatKind.f64.decode b = .number s m p) (h : p + m.log2 ≤ 126) : cvWide .f64 b .f32 = false := by
  unfold cvWide
  rw [if_neg (by decide), hd]
  show (single.read (single.nearest s m p)).isInfinity = false
  obtain ⟨r, e, hr, _⟩ := nearest_bound single s h (by rw [s_lp, s_fb]; decide)
  rw [e]
  apply not_inf_of_lt
  rw [s_lp, s_fb, s_bin] at hr
  rw [s_ir]
  have : (126 - (23 : Nat) - -149 : Int).toNat = 252 := by decide
  rw [this] at hr
  omega
/-- the exponent of a word, from its rung -/
theorem exp_of_rung (f : Format) {s : Bool} {r m : Nat} {p : Int} {E : Nat} (hr : r < f.infRung) (hd : f.read (f.word s r) = .number s m p) (hm : m ≠ 0) (hv : nval f r < 2 ^ (E + 1)) : p + m.log2 ≤ E + f.leastPlace := by
  obtain ⟨m', p', e1, e2, e3⟩ := read_fin f s hr
  rw [hd] at e1
  obtain ⟨_, rfl, rfl⟩ := Datum.number.inj e1
  rw [Nat.shiftLeft_eq] at e3
  have h1 : (nval f r).log2 < E + 1 := (Nat.log2_lt (by rw [← e3]; exact Nat.mul_ne_zero hm (by have := Nat.two_pow_pos (p - f.leastPlace).toNat; omega))).2 hv
  rw [← e3, log2_mul_pow hm] at h1
  omega
theorem rootFrom_lt (n : Nat) : ∀ todo root, Datum.rootFrom n todo root < root + 2 ^ todo
  | 0, root => by unfold Datum.rootFrom; simp
  | todo + 1, root => by
    unfold Datum.rootFrom
    have hs : root + 1 <<< todo = root + 2 ^ todo := by rw [Nat.shiftLeft_eq, Nat.one_mul]
    simp only [hs]
    split
    · have := rootFrom_lt n todo (root + 2 ^ todo)
      rw [Nat.pow_succ]; omega
    · have := rootFrom_lt n todo root
      rw [Nat.pow_succ]; have := Nat.two_pow_pos todo; omega

def sqbits (x : Nat) (w : World) : Nat := (double.sqrt x).getD ((Question.nanBits .f64 x x).cut (w.tape w.drawn (.nanBits .f64 x x)))
def sqdr (x : Nat) : Nat := if (double.sqrt x).isSome then 0 else 1
def fsq (x : Nat) : Nat := (double.sqrt x).getD (nanOf .f64)
theorem run_sqrt {P : Program} (w : World) (x : Nat) : (Extern.MathSqrt.sqrt #[.float .f64 x]).run P w = .ok (.float .f64 (sqbits x w)) (w.drewN (sqdr x)) := by
  unfold Extern.MathSqrt.sqrt sqbits sqdr
  show ((match double.sqrt x with
    | some r => (pure (.float .f64 r) : Sem Value)
    | none => do pure (.float .f64 (← choose (.nanBits .f64 x x)))).run P w) = _
  cases h : double.sqrt x with
  | some r => rfl
  | none => simp [choose, Sem.run, Question.forced, World.drewN]
theorem root_not {n : Nat} {a d : Datum} (h : a.root n = some d) : a.isNaN = false ∧ d.isNaN = false := by
  unfold Datum.root at h
  cases a with
  | nan s t => cases h
  | infinity s => cases s <;> simp at h; subst h; exact ⟨rfl, rfl⟩
  | number s m i =>
    refine ⟨rfl, ?_⟩
    simp only at h
    split at h
    · cases h; rfl
    · split at h
      · cases h
      · cases h; rfl
theorem sqrt_nan {x : Nat} (h : isN .f64 x = true) : double.sqrt x = none := by
  unfold Format.sqrt
  cases hr : (double.read x).root (double.fractionBits + 2) with
  | none => rfl
  | some d => have := (root_not hr).1; unfold isN at h; rw [show FloatKind.f64.format.read x = double.read x from rfl, this] at h; cases h
theorem sqrt_cn (x : Nat) : double.sqrt (cn .f64 x) = double.sqrt x := by
  cases h : isN .f64 x
  · rw [cn_not h]
  · rw [sqrt_nan h, sqrt_nan (by rw [isN_cn, h])]
theorem sqrt_not {x r : Nat} (h : double.sqrt x = some r) : isN .f64 r = false := by
  unfold Format.sqrt at h
  cases hr : (double.read x).root (double.fractionBits + 2) with
  | none => rw [hr] at h; cases h
  | some d =>
    rw [hr] at h
    have e : double.write d = r := by simpa using h
    rw [← e]
    exact write_not double (root_not hr).2
theorem cn_sqbits (x : Nat) (w : World) : cn .f64 (sqbits x w) = fsq (cn .f64 x) := by
  unfold sqbits fsq
  rw [sqrt_cn]
  cases h : double.sqrt x with
  | some r => exact cn_not (sqrt_not h)
  | none => exact cn_nan (drawn_nan .f64 x x _)
theorem d_ir2 : double.infRung = 2047 * 2 ^ 52 := by decide +kernel
theorem s_ir2 : single.infRung = 255 * 2 ^ 23 := by decide +kernel
theorem nval_top (f : Format) (k : Nat) (h : 1 ≤ k) : nval f (k * f.binade) = f.binade * 2 ^ (k - 1) := by
  have hB : 0 < f.binade := Nat.two_pow_pos _
  unfold nval
  have h1 : f.binade ≤ k * f.binade := Nat.le_mul_of_pos_left _ h
  rw [if_neg (by omega), Nat.mul_mod_left, Nat.mul_div_cancel _ hB, Nat.add_zero]
theorem nval_mono {f : Format} {x y : Nat} (h : x ≤ y) : nval f x ≤ nval f y := by
  rcases Nat.lt_or_eq_of_le h with h | h
  · exact Nat.le_of_lt (nval_lt h)
  · rw [h]; exact Nat.le_refl _
set_option exponentiation.threshold 2000 in
/-- a wide word that is not above 2 to the power of 67 is not too great for 32 bits -/
theorem narrow_rung (s : Bool) {q : Nat} (h : q ≤ 1090 * 2 ^ 52) : cvWide .f64 (double.word s q) .f32 = false := by
  have hq : q < double.infRung := by rw [d_ir2]; omega
  obtain ⟨m, p, e1, e2, e3⟩ := read_fin double s hq
  by_cases hm : m = 0
  · subst hm
    unfold cvWide
    rw [if_neg (by decide), show FloatKind.f64.decode (double.word s q) = _ from e1]
    show (single.read (single.nearest s 0 p)).isInfinity = false
    unfold Format.nearest
    rw [if_pos rfl]
    exact not_inf_of_lt _ _ (by rw [s_ir]; omega)
  · refine narrow_small (p := p) (m := m) (s := s) e1 ?_
    have hv : nval double q < 2 ^ (1141 + 1) := by
      have h1 : nval double q ≤ nval double (1090 * double.binade) := nval_mono (by rw [d_bin]; exact h)
      rw [nval_top double 1090 (by decide), d_bin, ← Nat.pow_add] at h1
      exact Nat.lt_of_le_of_lt h1 (Nat.pow_lt_pow_right (by decide) (by decide))
    have := exp_of_rung double hq e1 hm hv
    rw [d_lp] at this
    omega
set_option exponentiation.threshold 2000 in
/-- the square root of a wide 32-bit number is not too great for 32 bits -/
theorem root_small {x : Nat} (hx : x < 4294967296) (w w2 : World) : cvWide .f64 (sqbits (cvbits .f32 x .f64 w) w2) .f32 = false := by
  cases hr : double.sqrt (cvbits .f32 x .f64 w) with
  | none =>
    unfold sqbits
    rw [hr]
    exact wide_nan (drawn_nan .f64 (cvbits .f32 x .f64 w) (cvbits .f32 x .f64 w) _)
  | some t =>
    have ht : sqbits (cvbits .f32 x .f64 w) w2 = t := by unfold sqbits; rw [hr]; rfl
    rw [ht]
    have hN : isN .f32 x = false := by
      cases h : isN .f32 x
      · rfl
      · rw [sqrt_nan (isN_wide x w h)] at hr; cases hr
    obtain ⟨s, r, rfl, hrs⟩ := word_of single (x := x) (by rw [s_sw]; omega)
    rcases Nat.lt_trichotomy r single.infRung with h | h | h
    · obtain ⟨q, hq, hw, hv⟩ := wide_fin s h
      rw [hw w] at hr
      obtain ⟨m, i, e1, e2, e3⟩ := read_fin double s hq
      unfold Format.sqrt at hr
      rw [e1] at hr
      unfold Datum.root at hr
      simp only at hr
      by_cases hm : m = 0
      · subst hm
        rw [if_pos rfl] at hr
        have e : double.nearest s 0 i = t := by simpa [Format.write] using hr
        rw [← e]
        unfold Format.nearest
        rw [if_pos rfl]
        exact narrow_rung s (Nat.zero_le _)
      · rw [if_neg hm] at hr
        cases s
        · simp only [Bool.false_eq_true, if_false, Option.map_some, Option.some.injEq] at hr
          rw [← hr]
          have hvs : nval single r < 2 ^ 277 := by
            have h1 : nval single r < nval single (255 * single.binade) := nval_lt (by rw [s_bin, ← s_ir2]; exact h)
            rw [nval_top single 255 (by decide), s_bin, ← Nat.pow_add] at h1
            exact h1
          have hvd : nval double q < 2 ^ (1201 + 1) := by
            rw [hv]
            have := Nat.mul_lt_mul_of_pos_right hvs (Nat.two_pow_pos 925)
            rwa [← Nat.pow_add] at this
          have hb := exp_of_rung double hq e1 hm hvd
          rw [d_lp] at hb
          obtain ⟨mo, hmo⟩ : ∃ mo, mo = 2 * (double.fractionBits + 2) - m.log2 + ((i - ((2 * (double.fractionBits + 2) - m.log2 : Nat) : Int)) % 2).toNat := ⟨_, rfl⟩
          rw [← hmo]
          have hn : (m <<< mo).log2 = m.log2 + mo := by rw [Nat.shiftLeft_eq]; exact log2_mul_pow hm
          obtain ⟨W, hW⟩ : ∃ W, W = Datum.rootFrom (m <<< mo) ((m <<< mo).log2 / 2 + 1) 0 := ⟨_, rfl⟩
          have hWl := rootFrom_lt (m <<< mo) ((m <<< mo).log2 / 2 + 1) 0
          rw [← hW] at hWl ⊢
          rw [hn] at hWl
          obtain ⟨c, hc⟩ : ∃ c, c = (W * W != m <<< mo).toNat := ⟨_, rfl⟩
          have hc1 : c ≤ 1 := by rw [hc]; exact Bool.toNat_le _
          rw [← hc]
          have hM : (2 * W + c).log2 ≤ (m.log2 + mo) / 2 + 1 := by
            by_cases h0 : 2 * W + c = 0
            · rw [h0]; simp
            · have : (2 * W + c).log2 < (m.log2 + mo) / 2 + 1 + 1 := (Nat.log2_lt h0).2 (by rw [Nat.pow_succ]; omega)
              omega
          obtain ⟨r2, er, hr2, _⟩ := nearest_bound double false (m := 2 * W + c) (p := (i - (mo : Int)) / 2 - 1) (E := 66) (by omega) (by rw [d_lp, d_fb]; decide)
          rw [show double.write (.number false (2 * W + c) ((i - (mo : Int)) / 2 - 1)) = _ from er]
          refine narrow_rung false ?_
          rw [d_lp, d_fb, d_bin] at hr2
          have : (66 - (52 : Nat) - -1074 : Int).toNat = 1088 := by decide
          rw [this] at hr2
          omega
        · simp at hr
    · subst h
      have e1 : cvbits .f32 (single.word s single.infRung) .f64 w = double.word s double.infRung := by
        unfold cvbits
        rw [if_neg (by decide), show FloatKind.f32.decode (single.word s single.infRung) = _ from read_inf single single_binade s]
        rfl
      rw [e1] at hr
      unfold Format.sqrt at hr
      rw [read_inf double double_binade s] at hr
      cases s
      · have e : double.word false double.infRung = t := by simpa [Datum.root, Format.write] using hr
        rw [← e]
        unfold cvWide
        rw [if_neg (by decide), show FloatKind.f64.decode (double.word false double.infRung) = _ from read_inf double double_binade false]
      · simp [Datum.root] at hr
    · have := nan_word single single_binade s h hrs
      have h2 : isN .f32 (single.word s r) = true := this
      rw [hN] at h2; cases h2
def rootE (c : Nat) : Nat := fcv .f64 (fsq (fcv .f32 c .f64)) .f32
theorem cn_root {x : Nat} (hx : x < 4294967296) (w w2 w3 : World) : cn .f32 (cvbits .f64 (sqbits (cvbits .f32 x .f64 w) w2) .f32 w3) = rootE (cn .f32 x) ∧ cvbits .f64 (sqbits (cvbits .f32 x .f64 w) w2) .f32 w3 < 4294967296 := by
  have h := root_small hx w w2
  refine ⟨?_, cv_lt32 w3 h⟩
  rw [cn_cvbits w3 h, cn_sqbits, cn_wide]
  rfl
end Go.Proofs.Ytnkikigfpdngdaa
/- What square roots, copies of lists and gradients that are not too long are. No condition. -/
namespace Go.Proofs.Ytnkikigfpdngdaa
open Go Go.RowKit Ieee
set_option linter.unusedVariables false
set_option linter.unusedSimpArgs false
theorem RepF.nilcap {w : World} {lo hi : Nat} {ad : Option Addr} {n cap : Nat} {xs : List Nat} (h : RepF w lo hi ad n cap xs) : ad = none → cap = 0 := by
  intro e
  subst e
  rcases h.row.own.2 with ⟨h1, _⟩ | ⟨g, cap', cur, h1, _⟩
  · cases h1; rfl
  · cases h1
/-- a whole list is appended to a row of the call's own -/
theorem wp_cat {P : Program} {ops : Array Oper} {rest : List Oper} {o : Oper} {a : Act} {Q : Exit → Act → World → Prop} {e : TypeId} {W : World} (hgd : o.guard = none) (s x : Operand) (t : TypeId)
    (ho : o.op = .call { callee := .builtin .append, args := #[s, x], argTypes := #[t, t] })
    (base : Nat) (i : TypeInfo) (z : Value) (bytes : Nat) (ht : P.underlying t = some (.slice e)) (hi : P.info? e = some i) (hz : i.zero = some z)
    (hsize : i.size = 1) (hby : i.bytes = bytes) (hzs : z.cells.size = 1)
    (v : Value) (n : Nat) (xs : List Value) (hs : a.eval s = v) (hown : W.ownsRow base e 1 v n xs)
    (ad : Option Addr) (m c : Nat) (news : List Value) (hx : a.eval x = .slice ad m c) (hn : ad = none → c = 0) (hl : news.length = m) (hr : Rd W ad news) (h1 : ∀ u ∈ news, u.oneCell' = true)
    (h63 : n + m ≤ maxLen) (hbytes : (n + m) * bytes ≤ 140737488355328) (hbase : base ≤ W.heap.size)
    (h : ∀ v' w', w'.ownsRow base e 1 v' (n + m) (xs ++ news) → Below base W w' → base ≤ w'.heap.size → wpList P ops Q rest (a.put o.dst v') w') : wpList P ops Q (o :: rest) a W := by
  cases ad with
  | none =>
    obtain rfl := hn rfl
    have h0 : news = [] := by
      rcases hr with hr | ⟨b, off, hb, _⟩
      · exact hr
      · cases hb
    subst h0
    obtain rfl : m = 0 := hl.symm
    exact wpList_append_own_none hgd s x t ho base e i 1 ht hi v n xs hs hown hx (h v W (by simpa using hown) (Below.refl _ _) hbase)
  | some p =>
    refine wpList_append_own W hgd s x t ho base e i z 1 bytes ht hi hz hsize hby hzs (by decide) v n xs hs hown p m c news hx (by omega) ?_ h1 h63 hbytes hbase ?_
    · intro j u hj
      rcases hr with hr | ⟨b, off, hb, _, hc⟩
      · rw [hr] at hj; cases hj
      · cases hb
        have hlt : j < news.length := (List.getElem?_eq_some_iff.1 hj).1
        rw [Addr.add_lit]; exact (hc j hlt).trans hj
    · intro v' w' h2 hg _
      refine h v' w' h2 ((Below.refl _ _).grown hg hbase (fun j hj => (hown.lt j hj).1)) (Nat.le_trans hbase hg.size)
theorem run_sqrt_ext (x : Nat) (w : World) : (callFunc 247 #[.float .f64 x]).run Try.prog w = .ok (.value (.float .f64 (sqbits x w))) (w.drewN (sqdr x)) := by
  rw [run_callFunc_extern (show Try.prog.funcs[247]? = some Try.f247 by kernel_rfl) (by kernel_rfl) (by kernel_rfl) (by kernel_rfl) (e := Extern.MathSqrt.sqrt) (by kernel_rfl), run_sqrt]
  rfl
theorem math_Sqrt (x : Nat) (w : World) : Calls Try.prog 205 #[.float .f64 x] w fun e w' => e = .returned (.float .f64 (sqbits x w)) ∧ w' = w.drewN (sqdr x) := by
  have hd := run_sqrt_ext
  go_enter Try.func205, Try.ntmps205
  go_wp2
  go_ret
  exact ⟨rfl, rfl⟩
theorem impl_RootNumber (x : Nat) (hx : x < 4294967296) (w : World) : Calls Try.prog 147 #[.float .f32 x] w fun e w' => ∃ r, e = .returned (.float .f32 r) ∧ Hid (cn .f32 r = rootE (cn .f32 x) ∧ r < 4294967296) ∧ Dr w w' := by
  have ha := fun w1 w2 w3 => cn_root hx w1 w2 w3
  have HA := Lib.hid ha; clear ha
  go_enter Try.func147, Try.ntmps147
  go_wp2_with (go_at_call 205; refine (math_Sqrt _ _).mono ?_; rintro e w' ⟨rfl, rfl⟩)
  go_ret
  exact ⟨_, rfl, Lib.hid (HA.out _ _ _), _, rfl⟩
set_option maxRecDepth 100000 in
theorem spec_l02Own (w : World) (ad : Option Addr) (cap : Nat) (xs : List Nat) (h : F32s w ad cap xs) (hc : ad = none → cap = 0) (hn : xs.length ≤ 1048576) :
    Calls Try.prog 215 #[.slice ad xs.length cap] w fun e w' => ∃ (v : Value), e = .returned v ∧ w'.ownsRow w.heap.size 33 1 v xs.length (xs.map (Value.float .f32)) ∧ Below w.heap.size w w' := by
  obtain ⟨i0, hi, hz0, hz1, hz2⟩ := info_parts info_f32
  obtain ⟨n, hN⟩ : ∃ n, n = xs.length := ⟨_, rfl⟩
  have hr := h.rd
  have h1 : ∀ u ∈ xs.map (Value.float .f32), u.oneCell' = true := by intro u hu; obtain ⟨x, _, rfl⟩ := List.mem_map.1 hu; rfl
  have hl : (xs.map (Value.float .f32)).length = n := by rw [List.length_map, hN]
  rw [← hN] at hn ⊢
  have HL := Lib.hid hl; clear hN hl h
  go_enter Try.func215, Try.ntmps215
  go_wp2_with (at_builtin; refine wp_cat rfl _ _ 25 rfl w.heap.size i0 (.float .f32 0) 4 Try.underlying25 hi hz0 hz1 hz2 rfl _ 0 [] rfl (World.ownsRow_made _ _ _ (Nat.le_refl _) (Nat.zero_le _) rfl) ad n cap _ rfl hc HL.out (hr.below (below1 _ _) (Nat.le_refl _)) h1 ?c3 ?c4 ?c5 ?_)
  case c3 => unfold maxLen; omega
  case c4 => omega
  case c5 => simp
  intro v' w9 hown1 hb1 hbs1
  go_wp2
  go_ret
  exact ⟨_, rfl, by simpa using hown1, (below1 _ _).trans hb1⟩
set_option maxRecDepth 100000 in
theorem slices_Clone (w : World) (ad : Option Addr) (cap : Nat) (xs : List Nat) (h : F32s w ad cap xs) (hc : ad = none → cap = 0) (hn : xs.length ≤ 1048576) :
    Calls Try.prog 118 #[.slice ad xs.length cap] w fun e w' => ∃ (v : Value), e = .returned v ∧ w'.ownsRow w.heap.size 33 1 v xs.length (xs.map (Value.float .f32)) ∧ Below w.heap.size w w' := by
  obtain ⟨i0, hi, hz0, hz1, hz2⟩ := info_parts info_f32
  obtain ⟨n, hN⟩ : ∃ n, n = xs.length := ⟨_, rfl⟩
  have hr := h.rd
  have h1 : ∀ u ∈ xs.map (Value.float .f32), u.oneCell' = true := by intro u hu; obtain ⟨x, _, rfl⟩ := List.mem_map.1 hu; rfl
  have hl : (xs.map (Value.float .f32)).length = n := by rw [List.length_map, hN]
  rw [← hN] at hn ⊢
  have HL := Lib.hid hl; clear hN hl h
  cases ad with
  | none =>
    obtain rfl := hc rfl
    have h0 : xs = [] := by
      rcases hr with hr | ⟨b, off, hb, _⟩
      · simpa using hr
      · cases hb
    subst h0
    obtain rfl : n = 0 := HL.out.symm
    have he : ∀ w : World, (binOp .eql 25 (.slice none 0 0) (.slice none 0 0)).run Try.prog w = .ok (.bool true) w := fun _ => rfl
    go_enter Try.func118, Try.ntmps118
    go_wp2
    go_ret
    exact ⟨_, rfl, World.ownsRow_nil _ _ _ _, Below.refl _ _⟩
  | some p =>
    have he : ∀ w : World, (binOp .eql 25 (.slice (some p) n cap) (.slice none 0 0)).run Try.prog w = .ok (.bool false) w := fun _ => rfl
    go_enter Try.func118, Try.ntmps118
    go_wp2_with (at_builtin; refine wp_cat rfl _ _ 25 rfl w.heap.size i0 (.float .f32 0) 4 Try.underlying25 hi hz0 hz1 hz2 rfl _ 0 [] rfl (World.ownsRow_made _ _ _ (Nat.le_refl _) (Nat.zero_le _) rfl) (some p) n cap _ rfl (fun h => nomatch h) HL.out (hr.below (below1 _ _) (Nat.le_refl _)) h1 ?c3 ?c4 ?c5 ?_)
    case c3 => unfold maxLen; omega
    case c4 => omega
    case c5 => simp
    intro v' w9 hown1 hb1 hbs1
    go_wp2
    go_ret
    exact ⟨_, rfl, by simpa using hown1, (below1 _ _).trans hb1⟩
def gtC (a c : Nat) : Bool := FloatKind.f32.format.order a c == some .gt
theorem gtC_at {r a c : Nat} (h : cn .f32 r = a) : gtC r c = gtC a c := by
  unfold gtC
  rw [← order_cn .f32 r c, ← order_cn .f32 a c, h, ← h, cn_cn]
def clR (X : List Nat) (n : Nat) : Nat := rootE (dotS X X n)
def clG (c : Nat) (X : List Nat) (n i : Nat) : Nat := fop .mul .f32 (X.getD i 0) (fop .quo .f32 (cn .f32 c) (clR X n))
def clY (c : Nat) (X : List Nat) (n : Nat) : List Nat := if gtC (clR X n) c = true then listOf n (clG c X n) else X
theorem eq_listOf (X : List Nat) : X = listOf X.length (fun i => X.getD i 0) := by
  apply List.ext_getElem
  · simp [listOf]
  · intro i h1 h2
    simp [listOf, h1]
end Go.Proofs.Ytnkikigfpdngdaa
/- What batches are. No condition. -/
namespace Go.Proofs.Ytnkikigfpdngdaa
open Go Go.RowKit
set_option linter.unusedVariables false
set_option linter.unusedSimpArgs false
theorem impl_isTensorSide (n : Int) (w : World) : Calls Try.prog 104 #[.int .i64 n] w fun e w' => e = .returned (.bool (inB n 1 16)) ∧ w = w' := by
  have k1 := fun W => within_any n 1 16 W
  go_enter Try.func104, Try.ntmps104
  go_wp2_with fail
  refine (k1 _).mono ?_
  rintro e w1 ⟨rfl, rfl⟩
  go_wp2
  go_ret
  exact ⟨rfl, rfl⟩
end Go.Proofs.Ytnkikigfpdngdaa
/- What the tensors' first functions do. No condition. -/
namespace Go.Proofs.Ytnkikigfpdngdaa
open Go Go.RowKit
set_option linter.unusedVariables false
set_option linter.unusedSimpArgs false
/-- a tensor's sides fit its numbers -/
def tenB (r c : Int) (n : Nat) : Bool := inB r 1 16 && (inB c 1 16 && decide ((n : Int) = r * c))
theorem tenB_iff {r c : Int} {n : Nat} : tenB r c n = true ↔ (1 ≤ r ∧ r ≤ 16) ∧ (1 ≤ c ∧ c ≤ 16) ∧ (n : Int) = r * c := by
  unfold tenB; simp only [Bool.and_eq_true, inB_iff, decide_eq_true_eq]
set_option maxHeartbeats 1000000 in
theorem impl_ValidTensor (r c : Int) (ad : Option Addr) (n cap : Nat) (hn : n ≤ maxLen) (w : World) : Calls Try.prog 33 #[.agg #[.int .i64 r, .int .i64 c, .slice ad n cap]] w fun e w' => e = .returned (.bool (tenB r c n)) ∧ Below w.heap.size w w' := by
  unfold maxLen at hn
  have K1 := Lib.hid (fun W => impl_isTensorSide r W)
  have K2 := Lib.hid (fun W => impl_isTensorSide c W)
  have ht : tenB r c n = (inB r 1 16 && (inB c 1 16 && decide ((n : Int) = r * c))) := rfl
  rw [ht]
  clear ht
  cases h1 : inB r 1 16
  · rw [h1] at K1
    clear h1
    go_enter Try.func33, Try.ntmps33
    go_wp2_with fail
    refine (K1.out _).mono ?_
    rintro e w1 ⟨rfl, rfl⟩
    go_wp2
    go_ret
    exact ⟨rfl, below1 _ _⟩
  · rw [h1] at K1
    have ⟨a1, a2⟩ := inB_iff.1 h1
    clear h1
    cases h2 : inB c 1 16
    · rw [h2] at K2
      clear h2
      go_enter Try.func33, Try.ntmps33
      go_wp2_with fail
      refine (K1.out _).mono ?_
      rintro e w1 ⟨rfl, rfl⟩
      go_wp2_with fail
      refine (K2.out _).mono ?_
      rintro e w1 ⟨rfl, rfl⟩
      go_wp2
      go_ret
      exact ⟨rfl, below1 _ _⟩
    · rw [h2] at K2
      have ⟨b1, b2⟩ := inB_iff.1 h2
      clear h2
      obtain ⟨p, hp⟩ : ∃ p, p = r * c := ⟨_, rfl⟩
      have p1 : 0 ≤ p := by rw [hp]; exact Int.mul_nonneg (by omega) (by omega)
      have p2 : p ≤ 256 := by
        rw [hp]
        have h3 : r * c ≤ 16 * c := Int.mul_le_mul_of_nonneg_right a2 (by omega)
        omega
      rw [← hp]
      have hpw : wrap64 (r * c) = p := by rw [← hp]; unfold wrap64; omega
      clear hp
      go_enter Try.func33, Try.ntmps33
      go_wp2_with fail
      refine (K1.out _).mono ?_
      rintro e w1 ⟨rfl, rfl⟩
      go_wp2_with fail
      refine (K2.out _).mono ?_
      rintro e w1 ⟨rfl, rfl⟩
      go_wp2
      go_ret
      exact ⟨by congr 2, below1 _ _⟩
theorem impl_sameShape (r c r2 c2 : Int) (v v2 : Value) (w : World) (hv : v.oneCell' = true) (hv2 : v2.oneCell' = true) : Calls Try.prog 111 #[.agg #[.int .i64 r, .int .i64 c, v], .agg #[.int .i64 r2, .int .i64 c2, v2]] w fun e w' => e = .returned (.bool (decide (r = r2) && decide (c = c2))) ∧ Below w.heap.size w w' := by
  by_cases h : r = r2
  · subst h
    have hb : (r == r) = true := beq_self_eq_true r
    go_enter Try.func111, Try.ntmps111
    go_wp2
    go_ret
    exact ⟨by congr 2, below2 _ _ _⟩
  · have hb : (r == r2) = false := by simpa using h
    rw [decide_eq_false h]
    clear h
    go_enter Try.func111, Try.ntmps111
    go_wp2
    go_ret
    exact ⟨rfl, below2 _ _ _⟩
end Go.Proofs.Ytnkikigfpdngdaa
/- What comparing two numbers bit by bit computes. No condition. -/
namespace Go.Proofs.Ytnkikigfpdngdaa
open Go Go.RowKit Ieee
set_option linter.unusedVariables false
set_option linter.unusedSimpArgs false
theorem order_word_eq {x y : Nat} (hx : x < 4294967296) (hy : y < 4294967296) (h : FloatKind.f32.format.order x y = some .eq) (hs : decide (x < 2147483648) = decide (y < 2147483648)) : x = y := by
  obtain ⟨s, r, e1, hr⟩ := word_of single (x := x) (by rw [s_sw]; omega)
  obtain ⟨t, q, e2, hq⟩ := word_of single (x := y) (by rw [s_sw]; omega)
  have hst : s = t := by
    have a1 := word_sign single s hr
    have a2 := word_sign single t hq
    rw [← e1, s_sw] at a1
    rw [← e2, s_sw] at a2
    rw [hs, a2] at a1
    cases s <;> cases t <;> simp_all
  subst hst
  have n1 : isN .f32 x = false := by
    cases hn : isN .f32 x
    · rfl
    · rw [order_none (.inl hn)] at h; cases h
  have n2 : isN .f32 y = false := by
    cases hn : isN .f32 y
    · rfl
    · rw [order_none (.inr hn)] at h; cases h
  have hri : r ≤ single.infRung := by
    rcases Nat.lt_or_ge single.infRung r with h1 | h1
    · exact absurd (nan_word single single_binade s h1 hr) (by rw [← e1]; intro h2; unfold isN at n1; rw [show FloatKind.f32.format.read x = single.read x from rfl, h2] at n1; cases n1)
    · exact h1
  have hqi : q ≤ single.infRung := by
    rcases Nat.lt_or_ge single.infRung q with h1 | h1
    · exact absurd (nan_word single single_binade s h1 hq) (by rw [← e2]; intro h2; unfold isN at n2; rw [show FloatKind.f32.format.read y = single.read y from rfl, h2] at n2; cases n2)
    · exact h1
  have ho : (single.read x).order (single.read y) = some .eq := h
  rcases Nat.lt_or_ge r single.infRung with h1 | h1
  · rcases Nat.lt_or_ge q single.infRung with h2 | h2
    · have h3 : single.order (single.word s r) (single.word s q) = some .eq := by rw [← e1, ← e2]; exact h
      rw [order_fin single s s h1 h2] at h3
      have h4 := Int.compare_eq_eq.1 (Option.some.inj h3)
      unfold sval at h4
      have : r = q := by
        cases s
        · simp at h4; exact nval_inj (f := single) (Int.ofNat.inj h4)
        · simp at h4; exact nval_inj (f := single) (by omega)
      rw [e1, e2, this]
    · have hq2 : q = single.infRung := by omega
      obtain ⟨m, p, e3, _⟩ := read_fin single s h1
      rw [e1, e2, e3, hq2, read_inf single single_binade] at ho
      cases s <;> cases ho
  · have hr2 : r = single.infRung := by omega
    rcases Nat.lt_or_ge q single.infRung with h2 | h2
    · obtain ⟨m, p, e3, _⟩ := read_fin single s h2
      rw [e1, e2, e3, hr2, read_inf single single_binade] at ho
      cases s <;> cases ho
    · have hq2 : q = single.infRung := by omega
      rw [e1, e2, hr2, hq2]
theorem wide_sign2 {x : Nat} (hx : x < 4294967296) (hn : isN .f32 x = false) (w : World) : decide (cvbits .f32 x .f64 w < 9223372036854775808) = decide (x < 2147483648) := by
  cases hf : finB x
  · have : x = 2139095040 ∨ x = 4286578688 := by
      unfold finB at hf
      unfold isN at hn
      obtain ⟨s, r, e, hr⟩ := word_of single (x := x) (by rw [s_sw]; omega)
      rcases Nat.lt_or_ge r single.infRung with h1 | h1
      · obtain ⟨m, p, e2, _⟩ := read_fin single s h1
        rw [e, e2] at hf; cases hf
      · rcases Nat.lt_or_ge single.infRung r with h2 | h2
        · have := nan_word single single_binade s h2 hr
          rw [show FloatKind.f32.format.read x = single.read x from rfl, e, this] at hn; cases hn
        · have : r = single.infRung := by omega
          subst this
          cases s
          · left; rw [e, s_ir]; unfold Format.word; simp
          · right; rw [e]; unfold Format.word; rw [s_sw, s_ir]; simp
    rcases this with h | h
    · subst h
      have : cvbits .f32 2139095040 .f64 w = 9218868437227405312 := by
        unfold cvbits
        rw [if_neg (by decide)]
        have : FloatKind.f32.decode 2139095040 = .infinity false := by decide +kernel
        rw [this]; show FloatKind.f64.encode (.infinity false) = _; decide +kernel
      rw [this]; decide
    · subst h
      have : cvbits .f32 4286578688 .f64 w = 18442240474082181120 := by
        unfold cvbits
        rw [if_neg (by decide)]
        have : FloatKind.f32.decode 4286578688 = .infinity true := by decide +kernel
        rw [this]; show FloatKind.f64.encode (.infinity true) = _; decide +kernel
      rw [this]; decide
  · exact wide_sign hx hf w
theorem order_self2 {x : Nat} (hn : isN .f32 x = false) : FloatKind.f32.format.order x x = some .eq := by rw [order_self, hn]; rfl
theorem order_nan {x : Nat} (hn : isN .f32 x = true) : FloatKind.f32.format.order x x = none := by rw [order_self, hn]; rfl
set_option maxHeartbeats 2000000 in
theorem impl_SameNumber (a b : Nat) (ha : a < 4294967296) (hb : b < 4294967296) (w : World) :
    Calls Try.prog 32 #[.float .f32 a, .float .f32 b] w fun e w' => e = .returned (.bool (decide (cn .f32 a = cn .f32 b))) ∧ Dr w w' := by
  cases na : isN .f32 a
  · have o1 := order_self2 na
    cases nb : isN .f32 b
    · have o2 := order_self2 nb
      rw [cn_not na, cn_not nb]
      have s1 := fun w => wide_sign2 ha na w
      have s2 := fun w => wide_sign2 hb nb w
      have l1 := fun w => cv64_lt a w
      have l2 := fun w => cv64_lt b w
      have hS1 : ∀ w1 W, Calls Try.prog 126 #[.float .f64 (cvbits .f32 a .f64 w1)] W fun e w' => e = .returned (.bool !(decide (a < 2147483648))) ∧ W = w' := by
        intro w1 W; have := math_Signbit _ (l1 w1) W; rwa [s1] at this
      have hS2 : ∀ w1 W, Calls Try.prog 126 #[.float .f64 (cvbits .f32 b .f64 w1)] W fun e w' => e = .returned (.bool !(decide (b < 2147483648))) ∧ W = w' := by
        intro w1 W; have := math_Signbit _ (l2 w1) W; rwa [s2] at this
      have HS1 := Lib.hid hS1; have HS2 := Lib.hid hS2
      by_cases he : FloatKind.f32.format.order a b = some .eq
      · have hiff : decide (a = b) = (decide (a < 2147483648) == decide (b < 2147483648)) := by
          rw [Bool.eq_iff_iff, decide_eq_true_eq, beq_iff_eq]
          constructor
          · rintro rfl; rfl
          · exact order_word_eq ha hb he
        rw [hiff]
        have HI := Lib.hid hiff
        clear s1 s2 l1 l2 hS1 hS2 hiff na nb ha hb
        go_enter Try.func32, Try.ntmps32
        go_wp2_with fail
        refine (HS1.out _ _).mono ?_
        rintro e w1 ⟨rfl, rfl⟩
        go_wp2_with fail
        refine (HS2.out _ _).mono ?_
        rintro e w1 ⟨rfl, rfl⟩
        obtain ⟨p1, hp1⟩ : ∃ p, p = decide (a < 2147483648) := ⟨_, rfl⟩
        obtain ⟨p2, hp2⟩ : ∃ p, p = decide (b < 2147483648) := ⟨_, rfl⟩
        rw [← hp1, ← hp2]
        have HP1 := Lib.hid hp1; have HP2 := Lib.hid hp2
        clear hp1 hp2 HI
        cases p1 <;> cases p2
        all_goals
          go_wp2
          go_ret
          exact ⟨by rw [← HP1.out, ← HP2.out]; rfl, _, rfl⟩
      · have hne : decide (a = b) = false := by
          simp; rintro rfl; exact he o1
        rw [hne]
        have he2 : (FloatKind.f32.format.order a b == some .eq) = false := by simpa using he
        clear s1 s2 l1 l2 hS1 hS2 na nb ha hb he hne
        go_enter Try.func32, Try.ntmps32
        go_wp2
        go_ret
        exact ⟨rfl, Dr.refl _⟩
    · have o2 := order_nan nb
      have hne : decide (cn .f32 a = cn .f32 b) = false := by
        simp; intro h; have := isN_of_cn h; rw [na, nb] at this; cases this
      rw [hne]
      clear na nb ha hb hne
      go_enter Try.func32, Try.ntmps32
      go_wp2
      go_ret
      exact ⟨rfl, Dr.refl _⟩
  · have o1 := order_nan na
    cases nb : isN .f32 b
    · have o2 := order_self2 nb
      have hne : decide (cn .f32 a = cn .f32 b) = false := by
        simp; intro h; have := isN_of_cn h; rw [na, nb] at this; cases this
      rw [hne]
      clear na nb ha hb hne
      go_enter Try.func32, Try.ntmps32
      go_wp2
      go_ret
      exact ⟨rfl, Dr.refl _⟩
    · have o2 := order_nan nb
      rw [cn_nan na, cn_nan nb]
      clear na nb ha hb
      go_enter Try.func32, Try.ntmps32
      go_wp2
      go_ret
      exact ⟨rfl, Dr.refl _⟩
end Go.Proofs.Ytnkikigfpdngdaa
/- Lists and tensors that are the same. No condition. -/
namespace Go.Proofs.Ytnkikigfpdngdaa
open Go Go.RowKit
set_option linter.unusedVariables false
set_option linter.unusedSimpArgs false
theorem eq_take_next {xs ys : List Nat} {k : Nat} (hx : k < xs.length) (hy : k < ys.length) (h : (xs.take k).map (cn .f32) = (ys.take k).map (cn .f32)) (he : cn .f32 (xs.getD k 0) = cn .f32 (ys.getD k 0)) : (xs.take (k + 1)).map (cn .f32) = (ys.take (k + 1)).map (cn .f32) := by
  rw [List.getD_eq_getElem?_getD, List.getD_eq_getElem?_getD, List.getElem?_eq_getElem hx, List.getElem?_eq_getElem hy] at he
  rw [List.take_succ_eq_append_getElem hx, List.take_succ_eq_append_getElem hy, List.map_append, List.map_append, h]
  simpa using he
set_option maxHeartbeats 2000000 in
theorem eq_func (w : World) (a b : Option Addr) (ca cb : Nat) (xs ys : List Nat) (hx : F32s w a ca xs) (hy : F32s w b cb ys) :
    Calls Try.prog 181 #[.slice a xs.length ca, .slice b ys.length cb, .func (.func 32) #[] #[]] w fun e w' => e = .returned (.bool (decide (xs.map (cn .f32) = ys.map (cn .f32)))) ∧ Dr w w' := by
  have mx := Nat.le_trans hx.len hx.cap
  have my := Nat.le_trans hy.len hy.cap
  unfold maxLen at mx my
  by_cases hl : xs.length = ys.length
  · have X := Lib.hid hx; have Y := Lib.hid hy
    obtain ⟨n, hn⟩ : ∃ n, n = xs.length := ⟨_, rfl⟩
    have hn2 : n = ys.length := hn.trans hl
    rw [← hn] at mx ⊢
    rw [← hn2]
    have NX := Lib.hid hn; have NY := Lib.hid hn2
    clear hx hy hl hn hn2 my
    go_enter Try.func181, Try.ntmps181
    go_wp2
    go_loopw [17, 7, 8, 9] (fun i _ _ _ wt => ∃ k : Nat, i = .int .i64 k ∧ k ≤ n ∧ Hid ((xs.take k).map (cn .f32) = (ys.take k).map (cn .f32)) ∧ Dr w wt) (fun i _ _ _ _ => n - (intOf i).toNat)
    case atStart => exact ⟨0, rfl, Nat.zero_le _, Lib.hid rfl, Dr.refl _⟩
    case round =>
      obtain ⟨k, rfl, hk, HE, hd⟩ := hrel
      have HD := Lib.hid hd; clear hd
      by_cases hlt : k < n
      · have kx : k < xs.length := by rw [← NX.out]; exact hlt
        have ky : k < ys.length := by rw [← NY.out]; exact hlt
        have x2 := X.out.below HD.out.below
        have y2 := Y.out.below HD.out.below
        obtain ⟨b1, o1, rfl, _, c1⟩ := x2.spot (k := k) kx
        obtain ⟨b2, o2, rfl, _, c2⟩ := y2.spot (k := k) ky
        have c1 := c1 k kx
        have c2 := c2 k ky
        have l1 := x2.lt _ (mem_getD kx)
        have l2 := y2.lt _ (mem_getD ky)
        have hnext := eq_take_next kx ky HE.out
        have hstop : cn .f32 (xs.getD k 0) ≠ cn .f32 (ys.getD k 0) → decide (xs.map (cn .f32) = ys.map (cn .f32)) = false := by
          intro h1
          rw [decide_eq_false]
          intro h2
          apply h1
          rw [← cn_getD, ← cn_getD, h2]
        obtain ⟨x, hxx⟩ : ∃ x, x = xs.getD k 0 := ⟨_, rfl⟩
        obtain ⟨y, hyy⟩ : ∃ y, y = ys.getD k 0 := ⟨_, rfl⟩
        rw [← hxx] at c1 l1 hnext hstop
        rw [← hyy] at c2 l2 hnext hstop
        have K := Lib.hid (fun W => impl_SameNumber x y l1 l2 W)
        have HN := Lib.hid hnext; have HS := Lib.hid hstop
        clear x2 y2 l1 l2 hnext hstop hxx hyy kx ky
        by_cases he : cn .f32 x = cn .f32 y
        · have k2 := K.out
          rw [decide_eq_true he] at k2
          have K2 := Lib.hid k2; have HX := Lib.hid (HN.out he)
          clear k2 K he
          go_wp2_with fail
          refine (K2.out _).mono ?_
          rintro e w2 ⟨rfl, hd⟩
          have HD2 := Lib.hid (HD.out.trans hd); clear hd c1 c2
          go_wp2
          refine ⟨?rel, ?measure⟩
          case rel => exact ⟨k + 1, by go_num, hlt, HX, HD2.out⟩
          case measure => simp [intOf]; omega
        · have k2 := K.out
          rw [decide_eq_false he] at k2
          have K2 := Lib.hid k2; have HX := Lib.hid (HS.out he)
          clear k2 K he
          go_wp2_with fail
          refine (K2.out _).mono ?_
          rintro e w2 ⟨rfl, hd⟩
          have HD2 := Lib.hid (HD.out.trans hd); clear hd c1 c2
          go_wp2
          go_ret
          exact ⟨by rw [HX.out]; rfl, HD2.out⟩
      · have hkn : k = n := by omega
        subst hkn
        have he : decide (xs.map (cn .f32) = ys.map (cn .f32)) = true := by
          have h1 := HE.out
          rw [List.take_of_length_le (by rw [← NX.out]; exact Nat.le_refl _), List.take_of_length_le (by rw [← NY.out]; exact Nat.le_refl _)] at h1
          exact decide_eq_true h1
        have HX := Lib.hid he; clear he
        go_wp2
        go_ret
        exact ⟨by rw [HX.out]; rfl, HD.out⟩
  · have he : decide (xs.map (cn .f32) = ys.map (cn .f32)) = false := by
      rw [decide_eq_false]
      intro h
      apply hl
      have := congrArg List.length h
      simpa using this
    rw [he]
    obtain ⟨n, hn⟩ : ∃ n, n = xs.length := ⟨_, rfl⟩
    obtain ⟨m, hm⟩ : ∃ m, m = ys.length := ⟨_, rfl⟩
    rw [← hn, ← hm] at hl ⊢
    have h1 : ((n : Int) != (m : Int)) = true := by simp; omega
    have h2 : ((n : Int) == (m : Int)) = false := by simp; omega
    clear hl he hn hm hx hy mx my
    go_enter Try.func181, Try.ntmps181
    go_wp2
    go_ret
    exact ⟨rfl, Dr.refl _⟩
theorem impl_sameLists (w : World) (a b : Option Addr) (ca cb : Nat) (xs ys : List Nat) (hx : F32s w a ca xs) (hy : F32s w b cb ys) :
    Calls Try.prog 112 #[.slice a xs.length ca, .slice b ys.length cb] w fun e w' => e = .returned (.bool (decide (xs.map (cn .f32) = ys.map (cn .f32)))) ∧ Dr w w' := by
  have K := Lib.hid (eq_func w a b ca cb xs ys hx hy)
  clear hx hy
  go_enter Try.func112, Try.ntmps112
  go_wp2_with fail
  refine K.out.mono ?_
  rintro e w1 ⟨rfl, hd⟩
  go_wp2
  go_ret
  exact ⟨rfl, hd⟩
end Go.Proofs.Ytnkikigfpdngdaa
/- A block of three cells. No condition. -/
namespace Go.Proofs.Ytnkikigfpdngdaa
open Go Go.RowKit
set_option linter.unusedVariables false
set_option linter.unusedSimpArgs false
theorem touch_keep3 {w w' : World} {lo hi c : Nat} (ht : Touch lo hi w w') (hc : c < w.heap.size) (hd : c < lo ∨ hi ≤ c) (o : Nat) : w'.cell? ⟨c, o, none⟩ = w.cell? ⟨c, o, none⟩ ∧ w'.frozen? ⟨c, o, none⟩ = w.frozen? ⟨c, o, none⟩ :=
  ⟨World.cell?_of_block (w := w) (ht.block c hc hd), by unfold World.frozen?; rw [ht.block c hc hd]⟩
/-- a block of three cells that may be written -/
structure Box3 (w : World) (c : Nat) (a b d : Value) : Prop where
  lt : c < w.heap.size
  c0 : w.cell? ⟨c, 0, none⟩ = some a
  c1 : w.cell? ⟨c, 1, none⟩ = some b
  c2 : w.cell? ⟨c, 2, none⟩ = some d
  fz : ∀ o, w.frozen? ⟨c, o, none⟩ = false
theorem Box3.alloc (w : World) (a b d : Value) (t : TypeId) : Box3 (w.alloc (.cells #[a, b, d] t)) w.heap.size a b d :=
  ⟨by simp, by rw [World.cell?_alloc_at _ _ _ _ rfl]; rfl, by rw [World.cell?_alloc_at _ _ _ _ rfl]; rfl, by rw [World.cell?_alloc_at _ _ _ _ rfl]; rfl, fun o => World.frozen?_alloc_at _ _ _ _ rfl⟩
/-- the second of two blocks -/
theorem Box3.alloc2 (w : World) (o : Obj) (a b d : Value) (t : TypeId) : Box3 ((w.alloc o).alloc (.cells #[a, b, d] t)) (w.heap.size + 1) a b d := by
  have h := Box3.alloc (w.alloc o) a b d t
  rwa [show (w.alloc o).heap.size = w.heap.size + 1 by simp] at h
theorem Box3.touch {w w' : World} {c lo hi : Nat} {a b d : Value} (h : Box3 w c a b d) (ht : Touch lo hi w w') (hd : c < lo ∨ hi ≤ c) : Box3 w' c a b d :=
  ⟨Nat.lt_of_lt_of_le h.lt ht.size, (touch_keep3 ht h.lt hd 0).1.trans h.c0, (touch_keep3 ht h.lt hd 1).1.trans h.c1, (touch_keep3 ht h.lt hd 2).1.trans h.c2, fun o => (touch_keep3 ht h.lt hd o).2.trans (h.fz o)⟩
theorem Box3.below {w w' : World} {c : Nat} {a b d : Value} (h : Box3 w c a b d) (hb : Below w.heap.size w w') : Box3 w' c a b d := h.touch (lo := w'.heap.size) (hi := w'.heap.size) (Touch.of_below hb) (.inl (Nat.lt_of_lt_of_le h.lt hb.size))
theorem set_at3 {w : World} {c i j : Nat} {u v : Value} (h : w.cell? ⟨c, j, none⟩ = some u) : (w.setCell ⟨c, i, none⟩ v).cell? ⟨c, j, none⟩ = some (if i = j then v else u) := by
  by_cases e : i = j
  · subst e; rw [if_pos rfl]; exact World.cell?_setCell_same' _ _ _ (by rw [h]; rfl)
  · rw [if_neg e, World.cell?_setCell_other w ⟨c, i, none⟩ ⟨c, j, none⟩ v (by intro h; cases h; exact e rfl)]; exact h
theorem Box3.set {w : World} {c : Nat} {a b d : Value} (h : Box3 w c a b d) (i : Nat) (v : Value) : Box3 (w.setCell ⟨c, i, none⟩ v) c (if i = 0 then v else a) (if i = 1 then v else b) (if i = 2 then v else d) :=
  ⟨by simpa [World.setCell] using h.lt, set_at3 h.c0, set_at3 h.c1, set_at3 h.c2, fun o => by rw [World.frozen?_setCell]; exact h.fz o⟩
theorem Box3.far {w : World} {c : Nat} {a b d : Value} (h : Box3 w c a b d) (c' i : Nat) (v : Value) (hc : c' ≠ c) : Box3 (w.setCell ⟨c', i, none⟩ v) c a b d := by
  have hk : ∀ j, (w.setCell ⟨c', i, none⟩ v).cell? ⟨c, j, none⟩ = w.cell? ⟨c, j, none⟩ := fun j => World.cell?_setCell_other w ⟨c', i, none⟩ ⟨c, j, none⟩ v (by intro h; cases h; exact hc rfl)
  exact ⟨by simpa [World.setCell] using h.lt, (hk 0).trans h.c0, (hk 1).trans h.c1, (hk 2).trans h.c2, fun o => by rw [World.frozen?_setCell]; exact h.fz o⟩
theorem F32s.cut3 {w : World} {g off cap : Nat} {xs : List Nat} (h : F32s w (some ⟨g, off, none⟩) cap xs) (m : Nat) (hm : m ≤ xs.length) : F32s w (some ⟨g, off, none⟩) cap (xs.take m) ∧ F32s w (some ⟨g, off + m, none⟩) (cap - m) (xs.drop m) := by
  have h1 := h.len; have h2 := h.cap
  refine ⟨⟨by simp; omega, h2, ?_, fun x hx => h.lt x (List.mem_of_mem_take hx)⟩, ⟨by simp; omega, by omega, ?_, fun x hx => h.lt x (List.mem_of_mem_drop hx)⟩⟩
  · rcases h.rd with h3 | ⟨b, o, e, hb, hc⟩
    · left; rw [List.map_take, h3]; simp
    · right
      refine ⟨b, o, e, hb, fun j hj => ?_⟩
      simp only [List.length_map, List.length_take] at hj
      rw [hc j (by simp; omega), List.map_take, List.getElem?_take, if_pos (by omega)]
  · rcases h.rd with h3 | ⟨b, o, e, hb, hc⟩
    · left; rw [List.map_drop, h3]; simp
    · right
      cases e
      refine ⟨g, off + m, rfl, hb, fun j hj => ?_⟩
      simp only [List.length_map, List.length_drop] at hj
      rw [Nat.add_assoc, hc (m + j) (by simp; omega), List.map_drop, List.getElem?_drop]
end Go.Proofs.Ytnkikigfpdngdaa
/- Tensors that are the same; rows. No condition. -/
namespace Go.Proofs.Ytnkikigfpdngdaa
open Go Go.RowKit
set_option linter.unusedVariables false
set_option linter.unusedSimpArgs false
theorem below_dr {w w1 w2 : World} (h : Below w.heap.size w w1) (hd : Dr w1 w2) : Below w.heap.size w w2 := by obtain ⟨q, rfl⟩ := hd; exact below_drewN h q
set_option maxHeartbeats 2000000 in
theorem impl_SameTensors (w : World) (r c : Int) (a b : Option Addr) (ca cb : Nat) (xs ys : List Nat) (hx : F32s w a ca xs) (hy : F32s w b cb ys) (h1 : tenB r c xs.length = true) (h2 : tenB r c ys.length = true) :
    Calls Try.prog 22 #[.agg #[.int .i64 r, .int .i64 c, .slice a xs.length ca], .agg #[.int .i64 r, .int .i64 c, .slice b ys.length cb]] w fun e w' => e = .returned (.bool (decide (xs.map (cn .f32) = ys.map (cn .f32)))) ∧ Below w.heap.size w w' := by
  have mx := Nat.le_trans hx.len hx.cap
  have my := Nat.le_trans hy.len hy.cap
  have K1 := Lib.hid (fun W => impl_ValidTensor r c a xs.length ca mx W)
  have K2 := Lib.hid (fun W => impl_ValidTensor r c b ys.length cb my W)
  rw [h1] at K1
  rw [h2] at K2
  have K3 := Lib.hid (fun W => impl_sameShape r c r c (.slice a xs.length ca) (.slice b ys.length cb) W rfl rfl)
  rw [decide_eq_true rfl, decide_eq_true rfl] at K3
  have K4 := Lib.hid (fun W h1 h2 => impl_sameLists W a b ca cb xs ys h1 h2)
  obtain ⟨E, hE⟩ : ∃ E, E = decide (xs.map (cn .f32) = ys.map (cn .f32)) := ⟨_, rfl⟩
  rw [← hE] at K4 ⊢
  have X := Lib.hid hx; have Y := Lib.hid hy
  clear hE hx hy h1 h2 mx my
  have B1 := Lib.hid ((Box3.alloc w (.int .i64 r) (.int .i64 c) (.slice a xs.length ca) 27).below (below1 _ (.cells #[.int .i64 r, .int .i64 c, .slice b ys.length cb] 27)))
  have B2 := Lib.hid (Box3.alloc2 w (.cells #[.int .i64 r, .int .i64 c, .slice a xs.length ca] 27) (.int .i64 r) (.int .i64 c) (.slice b ys.length cb) 27)
  have B := Lib.hid (below2 w (.cells #[.int .i64 r, .int .i64 c, .slice a xs.length ca] 27) (.cells #[.int .i64 r, .int .i64 c, .slice b ys.length cb] 27))
  go_enter Try.func22, Try.ntmps22
  go_wp2_with fail
  refine (K1.out _).mono ?_
  rintro e w1 ⟨rfl, hb⟩
  have B := Lib.hid (bthen B.out hb); have B1 := Lib.hid (B1.out.below hb); have B2 := Lib.hid (B2.out.below hb); clear hb
  obtain ⟨-, p0, p1, p2, -⟩ := B1.out; obtain ⟨-, q0, q1, q2, -⟩ := B2.out
  go_wp2_with fail
  refine (K2.out _).mono ?_
  rintro e w2 ⟨rfl, hb⟩
  have B := Lib.hid (bthen B.out hb); have B1 := Lib.hid (B1.out.below hb); have B2 := Lib.hid (B2.out.below hb); clear hb p0 p1 p2 q0 q1 q2
  obtain ⟨-, p0, p1, p2, -⟩ := B1.out; obtain ⟨-, q0, q1, q2, -⟩ := B2.out
  go_wp2_with fail
  refine (K3.out _).mono ?_
  rintro e w3 ⟨rfl, hb⟩
  have B := Lib.hid (bthen B.out hb); have B1 := Lib.hid (B1.out.below hb); have B2 := Lib.hid (B2.out.below hb); clear hb p0 p1 p2 q0 q1 q2
  obtain ⟨-, p0, p1, p2, -⟩ := B1.out; obtain ⟨-, q0, q1, q2, -⟩ := B2.out
  go_wp2_with fail
  refine (K4.out _ (X.out.below B.out) (Y.out.below B.out)).mono ?_
  rintro e w4 ⟨rfl, hd⟩
  go_wp2
  go_ret
  exact ⟨rfl, below_dr B.out hd⟩
/-- a row of a tensor -/
theorem impl_row (w : World) (r c : Nat) (ad : Option Addr) (n cap : Nat) (hn : n = r * c) (hc1 : 1 ≤ c) (hc2 : c ≤ 16) (hr2 : r ≤ 16) (hcap : n ≤ cap) (i : Nat) (hi : i < r) (b off : Nat) (had : ad = some ⟨b, off, none⟩) :
    Calls Try.prog 124 #[.agg #[.int .i64 r, .int .i64 c, .slice ad n cap], .int .i64 i] w fun e w' => e = .returned (.slice (some ⟨b, off + i * c, none⟩) c (cap - i * c)) ∧ Below w.heap.size w w' := by
  subst had
  have h1 : i * c + c ≤ n := by
    rw [hn]
    have : (i + 1) * c ≤ r * c := Nat.mul_le_mul_right c (by omega)
    rw [Nat.succ_mul] at this; exact this
  have hnb : n ≤ 256 := by rw [hn]; exact Nat.le_trans (Nat.mul_le_mul hr2 hc2) (by decide)
  obtain ⟨p, hp⟩ : ∃ p, p = i * c := ⟨_, rfl⟩
  have e1 : ((i : Int) * (c : Int)) = (p : Int) := by rw [hp]; rfl
  have e2 : (((i : Int) + 1) * (c : Int)) = ((p + c : Nat) : Int) := by rw [hp, Int.add_mul, Int.one_mul]; rfl
  rw [← hp] at h1 ⊢
  clear hp hn
  go_enter Try.func124, Try.ntmps124
  go_wp2
  go_ret
  exact ⟨by rw [Nat.add_sub_cancel_left]; rfl, below1 _ _⟩
end Go.Proofs.Ytnkikigfpdngdaa
/- Rows of a tensor. No condition. -/
namespace Go.Proofs.Ytnkikigfpdngdaa
open Go Go.RowKit
set_option linter.unusedVariables false
set_option linter.unusedSimpArgs false
theorem slices_CloneF (w : World) (ad : Option Addr) (cap : Nat) (xs : List Nat) (h : F32s w ad cap xs) (hc : ad = none → cap = 0) (hn : xs.length ≤ 1048576) :
    Calls Try.prog 118 #[.slice ad xs.length cap] w fun e w' => ∃ ad' cap', e = .returned (.slice ad' xs.length cap') ∧ Hid (RepF w' w.heap.size w'.heap.size ad' xs.length cap' xs) ∧ Below w.heap.size w w' := by
  refine (slices_Clone w ad cap xs h hc hn).mono ?_
  rintro e w' ⟨v, rfl, ho, hb⟩
  obtain ⟨ad', cap', rfl, hr⟩ := RepF.of_owns ho h.lt
  exact ⟨ad', cap', rfl, Lib.hid hr, hb⟩
theorem wrap_ok {x : Int} (h1 : -1000000 ≤ x) (h2 : x ≤ 1000000) : IntKind.i64.wrap x = x := by rw [IntKind.wrap_i64]; omega
set_option maxHeartbeats 4000000 in
set_option maxRecDepth 100000 in
theorem impl_SliceRows (w : World) (r c : Nat) (ad : Option Addr) (cap : Nat) (xs : List Nat) (h : F32s w ad cap xs) (hr1 : 1 ≤ r) (hr2 : r ≤ 16) (hc1 : 1 ≤ c) (hc2 : c ≤ 16) (hl : xs.length = r * c) (f k : Nat) (hk : 1 ≤ k) (hfk : f + k ≤ r) :
    Calls Try.prog 25 #[.agg #[.int .i64 r, .int .i64 c, .slice ad xs.length cap], .int .i64 f, .int .i64 k] w fun e w' => ∃ ad' cap', e = .returned (.tuple #[.agg #[.int .i64 k, .int .i64 c, .slice ad' (k * c) cap'], .bool true]) ∧ Hid (RepF w' w.heap.size w'.heap.size ad' (k * c) cap' ((xs.drop (f * c)).take (k * c))) ∧ Below w.heap.size w w' := by
  have mx := Nat.le_trans h.len h.cap
  have hten : tenB r c xs.length = true := tenB_iff.2 ⟨⟨by omega, by omega⟩, ⟨by omega, by omega⟩, by rw [hl]; rfl⟩
  have K1 := Lib.hid (fun W => impl_ValidTensor r c ad xs.length cap mx W)
  rw [hten] at K1
  have K2 := Lib.hid (fun W => within_any f 0 ((r : Int) - 1) W)
  rw [inB_iff.2 ⟨by omega, by omega⟩] at K2
  have K3 := Lib.hid (fun W => within_any k 1 ((r : Int) - f) W)
  rw [inB_iff.2 ⟨by omega, by omega⟩] at K3
  have hle : f * c + k * c ≤ xs.length := by
    rw [hl, ← Nat.add_mul]; exact Nat.mul_le_mul_right c hfk
  have hkc : 1 ≤ k * c := Nat.mul_le_mul hk hc1
  have hrc : r * c ≤ 256 := Nat.mul_le_mul hr2 hc2
  obtain ⟨b, off, rfl, _, _⟩ := h.spot (k := 0) (by omega)
  have H1 := Lib.hid (((h.cut3 (f * c) (by omega)).2).cut3 (k * c) (by simp; omega)).1
  have hcl := h.len
  obtain ⟨n, hn⟩ : ∃ n, n = xs.length := ⟨_, rfl⟩
  obtain ⟨p, hp⟩ : ∃ p, p = f * c := ⟨_, rfl⟩
  obtain ⟨m, hm⟩ : ∃ m, m = k * c := ⟨_, rfl⟩
  have e1 : ((f : Int) * (c : Int)) = (p : Int) := by rw [hp]; rfl
  have e2 : (((f : Int) + (k : Int)) * (c : Int)) = (p : Int) + (m : Int) := by rw [hp, hm, Int.add_mul]; rfl
  have NX := Lib.hid hn
  rw [← hn] at K1 hle hcl ⊢
  rw [← hp, ← hm] at H1 ⊢
  rw [← hp, ← hm] at hle
  rw [← hm] at hkc
  have hn256 : n ≤ 256 := by rw [hn, hl]; exact hrc
  have B1 := Lib.hid ((Box3.alloc w (.int .i64 r) (.int .i64 c) (.slice (some ⟨b, off, none⟩) n cap) 27).below (below1 _ (.cells #[.int .i64 0, .int .i64 0, .slice none 0 0] 27)))
  have B2 := Lib.hid (Box3.alloc2 w (.cells #[.int .i64 r, .int .i64 c, .slice (some ⟨b, off, none⟩) n cap] 27) (.int .i64 0) (.int .i64 0) (.slice none 0 0) 27)
  have B := Lib.hid (below2 w (.cells #[.int .i64 r, .int .i64 c, .slice (some ⟨b, off, none⟩) n cap] 27) (.cells #[.int .i64 0, .int .i64 0, .slice none 0 0] 27))
  have t1 : IntKind.i64.wrap ((f : Int) + (k : Int)) = (f : Int) + (k : Int) := wrap_ok (by omega) (by omega)
  have t2 : IntKind.i64.wrap ((p : Int) + (m : Int)) = (p : Int) + (m : Int) := wrap_ok (by omega) (by omega)
  have t3 : IntKind.i64.wrap (p : Int) = (p : Int) := wrap_ok (by omega) (by omega)
  have t4 : (0 : Int) ≤ (p : Int) + (m : Int) := by omega
  have t5 : (p : Int) + (m : Int) ≤ (cap : Int) := by omega
  have t6 : (p : Int) ≤ max ((p : Int) + (m : Int)) 0 := by omega
  have t7 : ((p : Int) + (m : Int)).toNat = p + m := by omega
  have t8 : ¬ (cap = p) := by omega
  have t9 : p + m - p = m := by omega
  obtain ⟨ys, hys⟩ : ∃ ys, ys = (xs.drop p).take m := ⟨_, rfl⟩
  rw [← hys] at H1 ⊢
  have hyl : ys.length = m := by rw [hys, List.length_take, List.length_drop, ← NX.out]; omega
  clear hten hl hrc hn hp hm mx h hys
  go_enter Try.func25, Try.ntmps25
  go_wp2_with fail
  refine (K1.out _).mono ?_
  rintro e w1 ⟨rfl, hb⟩
  have B := Lib.hid (bthen B.out hb); have B1 := Lib.hid (B1.out.below hb); have B2 := Lib.hid (B2.out.below hb); clear hb
  obtain ⟨-, p0, p1, p2, -⟩ := B1.out; obtain ⟨-, q0, q1, q2, q4⟩ := B2.out
  go_wp2_with fail
  refine (K2.out _).mono ?_
  rintro e w2 ⟨rfl, rfl⟩
  go_wp2_with fail
  refine (K3.out _).mono ?_
  rintro e w2 ⟨rfl, rfl⟩
  have hbd : Below w1.heap.size w1 w1.drew := Below.drew (Below.refl _ _)
  have kc := slices_CloneF w1.drew _ _ ys ((H1.out.below B.out).below hbd) (fun h => nomatch h) (by omega)
  rw [hyl] at kc
  have KC := Lib.hid kc
  have YL := Lib.hid hyl
  have YB := Lib.hid H1.out.lt
  have BX1 := Lib.hid (B1.out.below hbd); have BX2 := Lib.hid (B2.out.below hbd)
  obtain ⟨hs1, -, -, -, -⟩ := B1.out
  obtain ⟨hs2, -, -, -, -⟩ := B2.out
  have hs1 : w.heap.size < w1.drew.heap.size := hs1
  have hs2 : w.heap.size + 1 < w1.drew.heap.size := hs2
  clear kc hyl hbd
  go_wp2
  go_region_held3 (fun w' => w'.cell? ⟨w.heap.size, 1, none⟩ = some (.int .i64 c) ∧ w'.cell? ⟨w.heap.size, 2, none⟩ = some (.slice (some ⟨b, off, none⟩) n cap)) (go_keep)
    (first
      | (go_at_call 118; with_reducible refine KC.out.mono ?_; rintro e w' ⟨ad2, cap2, rfl, RO, hb⟩; obtain ⟨-, u0, u1, u2, -⟩ := BX1.out.below hb; obtain ⟨-, u3, u4, u5, uf⟩ := BX2.out.below hb))
  have hbb := bthen (bthen B.out (Below.drew (Below.refl _ _))) hb
  have hbf : ∀ a b c : Value, Below w.heap.size w (((w'.setCell ⟨w.heap.size + 1, 0, none⟩ a).setCell ⟨w.heap.size + 1, 1, none⟩ b).setCell ⟨w.heap.size + 1, 2, none⟩ c) := fun a b c =>
    Below.setCell (p := ⟨w.heap.size + 1, 2, none⟩) (Below.setCell (p := ⟨w.heap.size + 1, 1, none⟩) (Below.setCell (p := ⟨w.heap.size + 1, 0, none⟩) hbb (by show w.heap.size ≤ w.heap.size + 1; omega) a) (by show w.heap.size ≤ w.heap.size + 1; omega) b) (by show w.heap.size ≤ w.heap.size + 1; omega) c
  have htf : ∀ a b c : Value, Touch (w.heap.size + 1) (w.heap.size + 2) w' (((w'.setCell ⟨w.heap.size + 1, 0, none⟩ a).setCell ⟨w.heap.size + 1, 1, none⟩ b).setCell ⟨w.heap.size + 1, 2, none⟩ c) := fun a b c =>
    ((Touch.setCell (Nat.le_refl _) (by omega)).trans (Touch.setCell (Nat.le_refl _) (by omega))).trans (Touch.setCell (Nat.le_refl _) (by omega))
  have HBF := Lib.hid hbf; have HTF := Lib.hid htf
  clear hbb hbf htf hb
  go_wp2
  try simp only [Exit.inBlock, Exit.then]
  refine bodyPost_ret (v := .tuple #[.agg #[.int .i64 k, .int .i64 c, .slice ad2 m cap2], .bool true]) (by simp [results, Try.results25, go_sem, u3, u4, u5]) rfl ⟨_, _, rfl, Lib.hid ?_, HBF.out _ _ _⟩
  have h1 := RO.out.touch (HTF.out (.int .i64 k) (.int .i64 c) (.slice ad2 m cap2)) (.inr (by omega))
  exact h1.bounds (by omega) (by simp [World.setCell])
end Go.Proofs.Ytnkikigfpdngdaa
/- A tensor of what a function makes of each number. No condition. -/
namespace Go.Proofs.Ytnkikigfpdngdaa
open Go Go.RowKit
set_option linter.unusedVariables false
set_option linter.unusedSimpArgs false
theorem owns_touch5 {w w' : World} {lo hi size base n : Nat} {e : TypeId} {v : Value} {cs : List Value} (h : w.ownsRow base e size v n cs) (ht : Touch lo hi w w') (hd : hi ≤ base) : w'.ownsRow base e size v n cs := ((Row.mk' h).touch ht (.inr hd)).own
theorem cell_after {w2 w9 : World} {o : Obj} {c j : Nat} {row : Option Nat} {v : Value} (hg : (w2.alloc o).grownBy w9 row) (hc : c < w2.heap.size) (hne : row ≠ some c) (hf : w2.cell? ⟨c, j, none⟩ = some v) : w9.cell? ⟨c, j, none⟩ = some v := by
  rw [hg.cell_far ⟨c, j, none⟩ (by simp; omega) (Ne.symm hne)]
  have h : (w2.alloc o).cell? ⟨c, j, none⟩ = w2.cell? ⟨c, j, none⟩ := World.cell?_of_block (heap_alloc_old _ _ hc)
  rw [h]; exact hf
/-- a call of a function value, as one step of a region that draws -/
theorem step_call_value {P : Program} {ops : Array Oper} {o : Oper} {a : Act} {w : World} {K : Act → World → Prop} {Q : Exit → Act → World → Prop} {E : Prop} (hg : o.guard = none) (f : FuncId) (args : Array Value)
    (he : (execOp a.eval o).run P w = .ok (.enter f args) w) (hC : Calls P f args w (fun e w' => ∃ v, e = .returned v ∧ K (a.put o.dst v) w')) : if Region.wanted o (yielded ops a.tmps) = true then Oper.wp P o a w K Q else E := by
  have hw : Region.wanted o (yielded ops a.tmps) = true := by simp [Region.wanted, hg]
  rw [if_pos hw]
  unfold Oper.wp
  rw [he]
  refine hC.mono fun e w' ⟨v, hv, hk⟩ => ?_
  subst hv
  exact hk
theorem frozen_after {w2 w9 : World} {o : Obj} {c j : Nat} {row : Option Nat} (hg : (w2.alloc o).grownBy w9 row) (hc : c < w2.heap.size) (hne : row ≠ some c) (hf : w2.frozen? ⟨c, j, none⟩ = false) : w9.frozen? ⟨c, j, none⟩ = false := by
  rw [hg.frozen_far ⟨c, j, none⟩ (by simp; omega) (Ne.symm hne)]
  have h : (w2.alloc o).frozen? ⟨c, j, none⟩ = w2.frozen? ⟨c, j, none⟩ := World.frozen?_of_block (heap_alloc_old _ _ hc)
  rw [h]; exact hf
/-- what is told of the numbers that the function makes -/
def Made (P : Nat → Nat → Nat → Prop) (xs ys : List Nat) : Prop := ∀ i, i < ys.length → P i (xs.getD i 0) (ys.getD i 0) ∧ ys.getD i 0 < 4294967296
theorem Made.snoc {P : Nat → Nat → Nat → Prop} {xs ys : List Nat} {y : Nat} (h : Made P xs ys) (hp : P ys.length (xs.getD ys.length 0) y) (hy : y < 4294967296) : Made P xs (ys ++ [y]) := by
  intro i hi
  rw [List.length_append] at hi
  simp at hi
  by_cases e : i = ys.length
  · subst e
    rw [List.getD_eq_getElem?_getD, List.getD_eq_getElem?_getD, List.getElem?_append_right (Nat.le_refl _)]
    rw [List.getD_eq_getElem?_getD] at hp
    simpa using ⟨hp, hy⟩
  · have h1 := h i (by omega)
    have e2 : (ys ++ [y]).getD i 0 = ys.getD i 0 := by
      rw [List.getD_eq_getElem?_getD, List.getD_eq_getElem?_getD, List.getElem?_append_left (by omega)]
    rw [e2]; exact h1
set_option maxHeartbeats 4000000 in
set_option maxRecDepth 100000 in
theorem ten_mapped (w : World) (r c : Nat) (ad : Option Addr) (cap : Nat) (xs : List Nat) (h : F32s w ad cap xs) (hl : xs.length ≤ 256) (G : Nat) (caps : Array Value) (P : Nat → Nat → Nat → Prop) (hG : ∀ (args : Array Value) (W : World), (callFunc G args).run Try.prog W = .ok (.enter G args) W)
    (hcl : ∀ W (i x : Nat), Below w.heap.size w W → i < xs.length → x = xs.getD i 0 → Calls Try.prog G (#[.int .i64 i, .float .f32 x] ++ caps) W fun e w' => ∃ y, e = .returned (.float .f32 y) ∧ Hid (P i x y ∧ y < 4294967296) ∧ Below W.heap.size W w') :
    Calls Try.prog 184 #[.agg #[.int .i64 r, .int .i64 c, .slice ad xs.length cap], .func (.func G) #[] caps] w fun e w' => ∃ ad' cap' ys, e = .returned (.agg #[.int .i64 r, .int .i64 c, .slice ad' xs.length cap']) ∧ Hid (RepF w' w.heap.size w'.heap.size ad' xs.length cap' ys) ∧ Hid (Made P xs ys) ∧ Below w.heap.size w w' := by
  obtain ⟨i0, hi0, hz0, hz1, hz2⟩ := info_parts info_f32
  obtain ⟨n, hn⟩ : ∃ n, n = xs.length := ⟨_, rfl⟩
  have NX := Lib.hid hn
  rw [← hn] at hl hcl ⊢
  have HC := Lib.hid hcl; have H := Lib.hid h
  have rb0 := (Box3.alloc2 w (.cells #[.int .i64 r, .int .i64 c, .slice ad n cap] 27) (.int .i64 0) (.int .i64 0) (.slice none 0 0) 27).below (below1 _ (.cells #[.int .i64 r, .int .i64 c, .slice none 0 0] 27))
  have ob0 := Box3.alloc2 (w.alloc (.cells #[.int .i64 r, .int .i64 c, .slice ad n cap] 27)) (.cells #[.int .i64 0, .int .i64 0, .slice none 0 0] 27) (.int .i64 r) (.int .i64 c) (.slice none 0 0) 27
  rw [show (w.alloc (.cells #[.int .i64 r, .int .i64 c, .slice ad n cap] 27)).heap.size = w.heap.size + 1 by simp] at ob0
  have b00 := below3 w (.cells #[.int .i64 r, .int .i64 c, .slice ad n cap] 27) (.cells #[.int .i64 0, .int .i64 0, .slice none 0 0] 27) (.cells #[.int .i64 r, .int .i64 c, .slice none 0 0] 27)
  have hsz : (((w.alloc (.cells #[.int .i64 r, .int .i64 c, .slice ad n cap] 27)).alloc (.cells #[.int .i64 0, .int .i64 0, .slice none 0 0] 27)).alloc (.cells #[.int .i64 r, .int .i64 c, .slice none 0 0] 27)).heap.size = w.heap.size + 3 := by simp
  have RB := Lib.hid rb0; have OB := Lib.hid ob0; have B0 := Lib.hid b00; have SZ := Lib.hid hsz
  clear hsz rb0 ob0 b00
  clear hcl h hn
  go_enter Try.func184, Try.ntmps184
  go_wp2
  generalize (((w.alloc (.cells #[.int .i64 r, .int .i64 c, .slice ad n cap] 27)).alloc (.cells #[.int .i64 0, .int .i64 0, .slice none 0 0] 27)).alloc (.cells #[.int .i64 r, .int .i64 c, .slice none 0 0] 27)) = W0 at RB OB B0 SZ ⊢
  obtain ⟨ob, hob⟩ : ∃ ob, ob = w.heap.size + 1 + 1 := ⟨_, rfl⟩
  rw [← hob] at OB ⊢
  have hob2 : ob = w.heap.size + 2 := hob
  have HOB := Lib.hid hob2
  have hob3 : ob < w.heap.size + 3 := by omega
  clear hob hob2
  go_loopw [16, 6, 7] (fun i _ _ wt => ∃ k : Nat, i = .int .i64 k ∧ k ≤ n ∧ ∃ (vv : Value) (ys : List Nat), Hid (Box3 wt (ob) (.int .i64 r) (.int .i64 c) vv) ∧ Hid (Box3 wt (w.heap.size + 1) (.int .i64 0) (.int .i64 0) (.slice none 0 0)) ∧ Hid (wt.ownsRow (w.heap.size + 3) 33 1 vv k (ys.map (Value.float .f32)) ∧ ys.length = k ∧ Made P xs ys) ∧ Hid (Below w.heap.size w wt) ∧ w.heap.size + 3 ≤ wt.heap.size) (fun i _ _ _ => n - (intOf i).toNat)
  case atStart => exact ⟨0, rfl, Nat.zero_le _, .slice none 0 0, [], Lib.hid OB.out, Lib.hid RB.out, Lib.hid ⟨⟨rfl, .inl ⟨rfl, rfl⟩⟩, rfl, fun i hi => by simp at hi⟩, Lib.hid B0.out, by rw [SZ.out]; exact Nat.le_refl _⟩
  case round =>
    clear RB OB B0 SZ
    obtain ⟨k, rfl, hk, vv, ys, OB, RB, OW, B, hsz⟩ := hrel
    by_cases hlt : k < n
    · have kx : k < xs.length := by rw [← NX.out]; exact hlt
      have h2 := H.out.below B.out
      obtain ⟨b, off, rfl, _, c1⟩ := h2.spot (k := k) kx
      have c1 := c1 k kx
      obtain ⟨x, hx⟩ : ∃ x, x = xs.getD k 0 := ⟨_, rfl⟩
      rw [← hx] at c1
      have KC := Lib.hid (HC.out wr.drew k x (Below.drew B.out) hlt hx); have HXS := Lib.hid hx
      obtain ⟨va, vc, rfl⟩ : ∃ va vc, vv = .slice va k vc := by
        obtain ⟨ad', cap', e, _⟩ := Rd.of_owns OW.out.1
        exact ⟨ad', cap', e⟩
      have hne : (Value.slice va k vc).ownBlock ≠ some (ob) := by
        intro e
        have := (OW.out.1.lt _ e).1
        omega
      have HO1 := Lib.hid (owns_below OW.out.1 (Below.drew (Below.refl _ _)))
      obtain ⟨q5, q0, q1, q2, qf⟩ := OB.out
      clear h2 hx kx
      go_wp2
      go_region_law
        (first
          | (refine step_call_value (by rfl) G (#[.int .i64 k, .float .f32 x] ++ caps) (by go_simp) ?_; refine KC.out.mono ?_; rintro e w2 ⟨y, rfl, hy, hb2⟩; refine ⟨_, rfl, ?_⟩; have hzz2 : wr.heap.size ≤ w2.heap.size := hb2.size; have HO2 := Lib.hid (owns_below HO1.out hb2); obtain ⟨p5, p0, p1, p2, pf⟩ := (OB.out.below (Below.drew (Below.refl _ _))).below hb2)
          | (refine step_append_lies _ (by rfl) _ _ _ (by rfl) (w.heap.size + 3) 33 i0 _ 1 4 Try.underlying25 hi0 hz0 hz1 hz2 rfl (by omega) (.slice va k vc) k (ys.map (Value.float .f32)) (by rfl) (HO2.out.alloc _)
              ⟨w2.heap.size, 0, none⟩ 1 1 [.float .f32 y] (by rfl) (by rfl) (World.news_of_block (cs := #[.float .f32 y]) (t := 33) (fr := (0, 0)) (heap_alloc_new w2 _)) (by simp [Value.oneCell'])
              (by omega) (by unfold maxLen; omega) (by omega) (by simp; omega) (w2.heap.size + 1) (by simp) ?_; intro gg cap9 w9 hown1 hgrow hat hlt9; have cf0 := cell_after hgrow p5 hne p0; have cf1 := cell_after hgrow p5 hne p1; have cf9 := cell_after hgrow p5 hne p2; have uf9 : w9.frozen? ⟨ob, 2, none⟩ = false := frozen_after hgrow p5 hne (pf 2)))
      all_goals
        have hs9 := hgrow.size
        simp at hs9
        have B9 : Box3 w9 ob (.int .i64 r) (.int .i64 c) (.slice va k vc) := ⟨by omega, cf0, cf1, cf9, fun o => frozen_after hgrow p5 hne (pf o)⟩
        have hne2 : (Value.slice va k vc).ownBlock ≠ some (w.heap.size + 1) := by
          intro e
          have := (OW.out.1.lt _ e).1
          omega
        obtain ⟨r5, r0, r1, r2, rf⟩ := (RB.out.below (Below.drew (Below.refl _ _))).below hb2
        have R9 : Box3 w9 (w.heap.size + 1) (.int .i64 0) (.int .i64 0) (.slice none 0 0) := ⟨by omega, cell_after hgrow r5 hne2 r0, cell_after hgrow r5 hne2 r1, cell_after hgrow r5 hne2 r2, fun o => frozen_after hgrow r5 hne2 (rf o)⟩
        have hbw : Below w.heap.size w w9 := Below.grown (Below.alloc (bthen (Below.drew B.out) hb2) (by omega) _) hgrow (by simp; omega) (fun g e => by have := (OW.out.1.lt g e).1; omega)
        have ho9 := owns_touch5 (lo := ob) (hi := ob + 1) hown1 (Touch.setCell (w := w9) (g := ob) (k := 2) (v := .slice (some ⟨gg, 0, none⟩) (k + 1) cap9) (Nat.le_refl _) (by omega)) (by omega)
        have hob1 : w.heap.size + 1 ≠ ob := by have := HOB.out; omega
        have hm := OW.out.2.2.snoc (y := y) (by rw [OW.out.2.1, ← HXS.out]; exact hy.out.1) hy.out.2
        have NB := Lib.hid (B9.set 2 (.slice (some ⟨gg, 0, none⟩) (k + 1) cap9)); have NR := Lib.hid (R9.far ob 2 (.slice (some ⟨gg, 0, none⟩) (k + 1) cap9) (Ne.symm hob1))
        have NO := Lib.hid ho9; have NM := Lib.hid hm; have NW := Lib.hid (Below.setCell (p := ⟨ob, 2, none⟩) hbw (by show w.heap.size ≤ ob; have := HOB.out; omega) (.slice (some ⟨gg, 0, none⟩) (k + 1) cap9))
        have hz9 : w.heap.size + 3 ≤ w9.heap.size := by omega
        clear B9 R9 hbw ho9 hm hown1 hgrow hat cf0 cf1 cf9 uf9 p0 p1 p2 pf r0 r1 r2 rf hb2 KC HO1 HO2
        go_wp2
        refine ⟨?rel, ?measure⟩
        case rel => exact ⟨k + 1, by go_num, hlt, _, ys ++ [y], Lib.hid NB.out, NR, Lib.hid ⟨by rw [List.map_append]; exact NO.out, by rw [List.length_append, OW.out.2.1]; rfl, NM.out⟩, NW, by simp [World.setCell]; omega⟩
        case measure => simp [intOf]; omega
    · have hkn : k = n := by omega
      subst hkn
      obtain ⟨va, vc, rfl⟩ : ∃ va vc, vv = .slice va k vc := by
        obtain ⟨ad', cap', e, _⟩ := Rd.of_owns OW.out.1
        exact ⟨ad', cap', e⟩
      obtain ⟨q5, q0, q1, q2, qf⟩ := OB.out
      obtain ⟨r5, r0, r1, r2, rf⟩ := RB.out
      have hbf : ∀ a b d : Value, Below w.heap.size w (((wr.setCell ⟨w.heap.size + 1, 0, none⟩ a).setCell ⟨w.heap.size + 1, 1, none⟩ b).setCell ⟨w.heap.size + 1, 2, none⟩ d) := fun a b d =>
        Below.setCell (p := ⟨w.heap.size + 1, 2, none⟩) (Below.setCell (p := ⟨w.heap.size + 1, 1, none⟩) (Below.setCell (p := ⟨w.heap.size + 1, 0, none⟩) B.out (by show w.heap.size ≤ w.heap.size + 1; omega) a) (by show w.heap.size ≤ w.heap.size + 1; omega) b) (by show w.heap.size ≤ w.heap.size + 1; omega) d
      have htf : ∀ a b d : Value, Touch (w.heap.size + 1) (w.heap.size + 2) wr (((wr.setCell ⟨w.heap.size + 1, 0, none⟩ a).setCell ⟨w.heap.size + 1, 1, none⟩ b).setCell ⟨w.heap.size + 1, 2, none⟩ d) := fun a b d =>
        ((Touch.setCell (Nat.le_refl _) (by omega)).trans (Touch.setCell (Nat.le_refl _) (by omega))).trans (Touch.setCell (Nat.le_refl _) (by omega))
      have HBF := Lib.hid hbf; have HTF := Lib.hid htf
      have hob1 : w.heap.size + 1 ≠ ob := by have := HOB.out; omega
      have hob2 : ob ≠ w.heap.size + 1 := Ne.symm hob1
      clear hbf htf HC
      go_wp2
      try simp only [Exit.inBlock, Exit.then]
      refine bodyPost_ret (v := .agg #[.int .i64 r, .int .i64 c, .slice va k vc]) (by simp [results, Try.results184, go_sem, r0, r1, r2]) rfl ⟨va, vc, ys, rfl, Lib.hid ?_, Lib.hid OW.out.2.2, HBF.out _ _ _⟩
      have h1 := owns_touch5 OW.out.1 (HTF.out (.int .i64 r) (.int .i64 c) (.slice va k vc)) (by omega)
      obtain ⟨a', c', e, h2⟩ := RepF.of_owns h1 (fun y hy => by
        obtain ⟨i, hi, rfl⟩ := List.getElem_of_mem hy
        have := (OW.out.2.2 i hi).2
        rwa [List.getD_eq_getElem?_getD, List.getElem?_eq_getElem hi] at this)
      cases e
      exact h2.bounds (by omega) (Nat.le_refl _)
end Go.Proofs.Ytnkikigfpdngdaa
/- What ReluTensor does. No condition. -/
namespace Go.Proofs.Ytnkikigfpdngdaa
open Go Go.RowKit
set_option linter.unusedVariables false
set_option linter.unusedSimpArgs false
/-- a number that is greater than 0 or none, and +0 for all others -/
def reluW (x : Nat) : Nat := if (FloatKind.f32.format.order x 0 == some .gt || isN .f32 x) = true then x else 0
theorem impl_relu (x : Nat) (w : World) : Calls Try.prog 186 #[.float .f32 x] w fun e w' => e = .returned (.float .f32 (reluW x)) ∧ w = w' := by
  have hs := order_self .f32 x
  unfold reluW
  cases h1 : (FloatKind.f32.format.order x 0 == some .gt)
  · cases h2 : isN .f32 x
    · rw [h2, if_neg (by decide)] at hs
      rw [if_neg (by decide)]
      have hs2 : (FloatKind.f32.format.order x x != some .eq) = false := by rw [hs]; rfl
      clear h2
      go_enter Try.func186, Try.ntmps186
      go_wp2
      go_ret
      exact ⟨rfl, rfl⟩
    · rw [h2, if_pos rfl] at hs
      rw [if_pos (by decide)]
      have hs2 : (FloatKind.f32.format.order x x != some .eq) = true := by rw [hs]; rfl
      clear h2
      go_enter Try.func186, Try.ntmps186
      go_wp2
      go_ret
      exact ⟨rfl, rfl⟩
  · rw [Bool.true_or, if_pos rfl]
    clear hs
    go_enter Try.func186, Try.ntmps186
    go_wp2
    go_ret
    exact ⟨rfl, rfl⟩
theorem reluW_lt {x : Nat} (h : x < 4294967296) : reluW x < 4294967296 := by unfold reluW; split <;> omega
theorem impl_reluTensor1 (i x : Nat) (w : World) : Calls Try.prog 185 #[.int .i64 i, .float .f32 x] w fun e w' => e = .returned (.float .f32 (reluW x)) ∧ w = w' := by
  have K := Lib.hid (fun W => impl_relu x W)
  go_enter Try.func185, Try.ntmps185
  go_wp2_with fail
  refine (K.out _).mono ?_
  rintro e w1 ⟨rfl, rfl⟩
  go_wp2
  go_ret
  exact ⟨rfl, rfl⟩
set_option maxHeartbeats 2000000 in
theorem impl_reluTensor (w : World) (r c : Nat) (ad : Option Addr) (cap : Nat) (xs : List Nat) (h : F32s w ad cap xs) (hl : xs.length ≤ 256) :
    Calls Try.prog 120 #[.agg #[.int .i64 r, .int .i64 c, .slice ad xs.length cap]] w fun e w' => ∃ ad' cap' ys, e = .returned (.agg #[.int .i64 r, .int .i64 c, .slice ad' xs.length cap']) ∧ Hid (RepF w' w.heap.size w'.heap.size ad' xs.length cap' ys) ∧ Hid (Made (fun _ x y => y = reluW x) xs ys) ∧ Below w.heap.size w w' := by
  have K := Lib.hid (fun W (hW : F32s W ad cap xs) => ten_mapped W r c ad cap xs hW hl 185 #[] (fun _ x y => y = reluW x) (fun args W => by kernel_rfl) (fun W' i x hb hi hx => (impl_reluTensor1 i x W').mono fun e w' ⟨he, hw⟩ => ⟨reluW x, he, Lib.hid ⟨rfl, reluW_lt (by rw [hx]; exact h.lt _ (mem_getD hi))⟩, by rw [← hw]; exact Below.refl _ _⟩))
  have hs1 := below2 w (.cells #[.int .i64 r, .int .i64 c, .slice ad xs.length cap] 27) (.cells #[.int .i64 0, .int .i64 0, .slice none 0 0] 27)
  have RB := Lib.hid (Box3.alloc2 w (.cells #[.int .i64 r, .int .i64 c, .slice ad xs.length cap] 27) (.int .i64 0) (.int .i64 0) (.slice none 0 0) 27)
  have B := Lib.hid hs1
  have H := Lib.hid (h.below hs1)
  obtain ⟨n, hn⟩ : ∃ n, n = xs.length := ⟨_, rfl⟩
  rw [← hn] at K RB B H ⊢
  clear hs1 h hn hl
  go_enter Try.func120, Try.ntmps120
  go_wp2_with fail
  refine (K.out _ H.out).mono ?_
  rintro e w' ⟨va, vc, ys, rfl, RO, RM, hb⟩
  obtain ⟨r5, r0, r1, r2, rf⟩ := RB.out.below hb
  have hbw := bthen B.out hb
  have hz := hb.size
  simp at hz
  have hbf : ∀ a b d : Value, Below w.heap.size w (((w'.setCell ⟨w.heap.size + 1, 0, none⟩ a).setCell ⟨w.heap.size + 1, 1, none⟩ b).setCell ⟨w.heap.size + 1, 2, none⟩ d) := fun a b d =>
    Below.setCell (p := ⟨w.heap.size + 1, 2, none⟩) (Below.setCell (p := ⟨w.heap.size + 1, 1, none⟩) (Below.setCell (p := ⟨w.heap.size + 1, 0, none⟩) hbw (by show w.heap.size ≤ w.heap.size + 1; omega) a) (by show w.heap.size ≤ w.heap.size + 1; omega) b) (by show w.heap.size ≤ w.heap.size + 1; omega) d
  have htf : ∀ a b d : Value, Touch (w.heap.size + 1) (w.heap.size + 2) w' (((w'.setCell ⟨w.heap.size + 1, 0, none⟩ a).setCell ⟨w.heap.size + 1, 1, none⟩ b).setCell ⟨w.heap.size + 1, 2, none⟩ d) := fun a b d =>
    ((Touch.setCell (Nat.le_refl _) (by omega)).trans (Touch.setCell (Nat.le_refl _) (by omega))).trans (Touch.setCell (Nat.le_refl _) (by omega))
  have HBF := Lib.hid hbf; have HTF := Lib.hid htf
  clear hbf htf hbw hb
  go_wp2
  try simp only [Exit.inBlock, Exit.then]
  refine bodyPost_ret (v := .agg #[.int .i64 r, .int .i64 c, .slice va n vc]) (by simp [results, Try.results120, go_sem, r0, r1, r2]) rfl ⟨va, vc, ys, rfl, Lib.hid ?_, RM, HBF.out _ _ _⟩
  have h1 := RO.out.touch (HTF.out (.int .i64 r) (.int .i64 c) (.slice va n vc)) (.inr (by simp))
  exact h1.bounds (by simp; omega) (by simp [World.setCell])
end Go.Proofs.Ytnkikigfpdngdaa
