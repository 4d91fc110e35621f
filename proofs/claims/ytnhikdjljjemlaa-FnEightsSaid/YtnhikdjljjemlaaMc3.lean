/- Joined texts 3: Qg Egt Evl Nar Src Drw Drl Ten WNar. Each is told at its own head. No condition. -/
import Derived.Deep.QuietTactic
import Derived.BigQuiet
import Derived.Laws.Bits64b
import Derived.Test.YtnhikdjljjemlaaMc1
import Derived.Test.YtnhikdjljjemlaaMc2
/- Plain laws of floats: numbers with few digits are written as they are. No condition. -/
namespace Go.Proofs.Ytnhikdjljjemlaa
open Go Ieee
set_option linter.unusedVariables false
theorem log2_bounds {m : Nat} (hm : m ≠ 0) : 2 ^ m.log2 ≤ m ∧ m < 2 ^ (m.log2 + 1) := ⟨Nat.log2_self_le hm, Nat.lt_log2_self⟩
/-- the rung of a number with few digits -/
theorem digits_rung (f : Format) {m d : Nat} (hm : m ≠ 0) (hb : m < 2 * f.binade) (hd : (d + 2) * f.binade ≤ f.infRung) : ∃ r, r < f.infRung ∧ nval f r = m * 2 ^ d := by
  have hB := binade_pos f
  have hfb : f.binade = 2 ^ f.fractionBits := rfl
  obtain ⟨l1, l2⟩ := log2_bounds hm
  have hL : m.log2 ≤ f.fractionBits := by
    have h1 : 2 ^ m.log2 < 2 ^ (f.fractionBits + 1) := by rw [Nat.pow_succ, ← hfb]; omega
    have := (Nat.pow_lt_pow_iff_right (by decide : 1 < 2)).1 h1
    omega
  by_cases hc : d ≤ f.fractionBits - m.log2
  · refine ⟨0 * f.binade + m * 2 ^ d, ?_, ?_⟩
    · have h1 : m * 2 ^ d < 2 ^ (m.log2 + 1) * 2 ^ d := Nat.mul_lt_mul_of_pos_right l2 (Nat.two_pow_pos _)
      have h2 : 2 ^ (m.log2 + 1) * 2 ^ d ≤ 2 ^ (f.fractionBits + 1) := by rw [← Nat.pow_add]; exact Nat.pow_le_pow_right (by decide) (by omega)
      have h3 : 2 ^ (f.fractionBits + 1) = 2 * f.binade := by rw [Nat.pow_succ, hfb]; omega
      have h4 : 2 * f.binade ≤ (d + 2) * f.binade := Nat.mul_le_mul_right _ (by omega)
      omega
    · rw [nval_rung f 0 (m * 2 ^ d) (.inl rfl) ?_]
      · simp
      · have h1 : m * 2 ^ d < 2 ^ (m.log2 + 1) * 2 ^ d := Nat.mul_lt_mul_of_pos_right l2 (Nat.two_pow_pos _)
        have h2 : 2 ^ (m.log2 + 1) * 2 ^ d ≤ 2 ^ (f.fractionBits + 1) := by rw [← Nat.pow_add]; exact Nat.pow_le_pow_right (by decide) (by omega)
        have h3 : 2 ^ (f.fractionBits + 1) = 2 * f.binade := by rw [Nat.pow_succ, hfb]; omega
        omega
  · obtain ⟨e, he⟩ : ∃ e, d = e + (f.fractionBits - m.log2) := ⟨d - (f.fractionBits - m.log2), by omega⟩
    obtain ⟨k, hk⟩ : ∃ k, k = m * 2 ^ (f.fractionBits - m.log2) := ⟨_, rfl⟩
    have k1 : f.binade ≤ k := by
      rw [hk, hfb]
      have h1 : 2 ^ m.log2 * 2 ^ (f.fractionBits - m.log2) ≤ m * 2 ^ (f.fractionBits - m.log2) := Nat.mul_le_mul_right _ l1
      rw [← Nat.pow_add, show m.log2 + (f.fractionBits - m.log2) = f.fractionBits by omega] at h1
      exact h1
    have k2 : k < 2 * f.binade := by
      rw [hk]
      have h1 : m * 2 ^ (f.fractionBits - m.log2) < 2 ^ (m.log2 + 1) * 2 ^ (f.fractionBits - m.log2) := Nat.mul_lt_mul_of_pos_right l2 (Nat.two_pow_pos _)
      rw [← Nat.pow_add, show m.log2 + 1 + (f.fractionBits - m.log2) = f.fractionBits + 1 by omega, Nat.pow_succ, ← hfb] at h1
      omega
    refine ⟨e * f.binade + k, ?_, ?_⟩
    · have h1 : (e + 2) * f.binade ≤ (d + 2) * f.binade := Nat.mul_le_mul_right _ (by omega)
      have h2 : (e + 2) * f.binade = e * f.binade + 2 * f.binade := Nat.add_mul _ _ _
      omega
    · rw [nval_rung f e k (.inr k1) (by omega), hk, he, Nat.pow_add, Nat.mul_assoc, Nat.mul_comm (2 ^ (f.fractionBits - m.log2))]
/-- a number with few digits has a word -/
theorem exact_num (f : Format) (s : Bool) (m : Nat) (p : Int) (hb : m < 2 * f.binade) (h1 : f.leastPlace ≤ p) (h2 : ((p - f.leastPlace).toNat + 2) * f.binade ≤ f.infRung) : ∃ w, Fin f w ∧ val f w = num s m p := by
  by_cases hm : m = 0
  · subst hm
    have h3 : 0 < f.infRung := by have := binade_pos f; have : 2 * f.binade ≤ ((p - f.leastPlace).toNat + 2) * f.binade := Nat.mul_le_mul_right _ (by omega); omega
    refine ⟨f.word s 0, ⟨s, 0, rfl, h3⟩, ?_⟩
    rw [val_word f s h3, nval_zero]
    unfold num
    grind
  · obtain ⟨r, hr, hv⟩ := digits_rung f hm hb h2
    refine ⟨f.word s r, ⟨s, r, rfl, hr⟩, ?_⟩
    rw [val_word f s hr, hv]
    unfold num
    rw [Rat.natCast_mul, ← pw_nat, Rat.mul_assoc, Rat.mul_assoc, ← pw_add, show (((p - f.leastPlace).toNat : Nat) : Int) + f.leastPlace = p by omega]
theorem Near.num {f : Format} {s : Bool} {m : Nat} {p : Int} {w : Nat} (h : Near f (num s m p) w) (hb : m < 2 * f.binade) (h1 : f.leastPlace ≤ p) (h2 : ((p - f.leastPlace).toNat + 2) * f.binade ≤ f.infRung) : Fin f w ∧ val f w = Go.Proofs.Ytnhikdjljjemlaa.num s m p := by
  obtain ⟨w0, e1, e2⟩ := exact_num f s m p hb h1 h2
  exact Near.val_exact e1 e2.symm h
theorem num_int (n : Int) : num (decide (n < 0)) n.natAbs 0 = (n : Rat) := by
  unfold num sg
  rw [pw_zero]
  rcases (by omega : n < 0 ∨ 0 ≤ n) with h | h
  · rw [if_pos (decide_eq_true h)]
    have : (n : Int) = -((n.natAbs : Nat) : Int) := by omega
    rw [show ((n : Int) : Rat) = ((-((n.natAbs : Nat) : Int) : Int) : Rat) by rw [← this], Rat.intCast_neg, Rat.intCast_natCast]
    grind
  · rw [if_neg (by simpa using h)]
    have : (n : Int) = ((n.natAbs : Nat) : Int) := by omega
    rw [show ((n : Int) : Rat) = ((((n.natAbs : Nat) : Int) : Int) : Rat) by rw [← this], Rat.intCast_natCast]
    grind
theorem Near.int32 {n : Int} {w : Nat} (h : Near single (n : Rat) w) (hn : n.natAbs < 16777216) : Fin single w ∧ val single w = n := by
  rw [← num_int n] at h ⊢
  exact Near.num h (by have : single.binade = 8388608 := by decide +kernel
                       omega) (by rw [s_lp]; decide) (by decide +kernel)
theorem Near.int64 {n : Int} {w : Nat} (h : Near double (n : Rat) w) (hn : n.natAbs < 9007199254740992) : Fin double w ∧ val double w = n := by
  rw [← num_int n] at h ⊢
  exact Near.num h (by have : double.binade = 4503599627370496 := by decide +kernel
                       omega) (by rw [d_lp]; decide) (by decide +kernel)
theorem int_exact32 (n : Int) (hn : n.natAbs < 16777216) : Fin single (floatOfInt .f32 n) ∧ val single (floatOfInt .f32 n) = n := Near.int32 (int_near .f32 n) hn
theorem int_exact64 (n : Int) (hn : n.natAbs < 9007199254740992) : Fin double (floatOfInt .f64 n) ∧ val double (floatOfInt .f64 n) = n := Near.int64 (int_near .f64 n) hn
/-- numbers that are equal are found equal -/
theorem eq_val {k : FloatKind} {x y : Nat} (hx : Fin k.format x) (hy : Fin k.format y) (h : val k.format x = val k.format y) : k.format.order x y = some .eq := (order_val hx hy).2.2.2 h
theorem Fin.cn {k : FloatKind} {x y : Nat} (hx : Fin k.format x) (h : cn k y = x) : y = x := by
  have h1 : isN k y = false := by
    have e := isN_cn k y
    rw [h, hx.not] at e
    exact e.symm
  rw [cn_not h1] at h
  exact h
theorem fop_some {op : BinOp} {k : FloatKind} {x y r : Nat} (h : floatBits op k x y = some r) : fop op k x y = r := by simp [fop, h]
theorem half32 : Fin single 1056964608 ∧ val single 1056964608 = 1 / 2 := ⟨⟨false, 1056964608, by decide +kernel, by decide +kernel⟩, by unfold val; decide +kernel⟩
theorem four32 : Fin single 1082130432 ∧ val single 1082130432 = 4 := ⟨⟨false, 1082130432, by decide +kernel, by decide +kernel⟩, by unfold val; decide +kernel⟩
/-- an integer that is not great, halved and multiplied by 4, is the double one -/
theorem twice_int (n : Int) (hn : n.natAbs < 1000000) : Fin single (fop .mul .f32 (fop .mul .f32 (floatOfInt .f32 n) 1056964608) 1082130432) ∧ val single (fop .mul .f32 (fop .mul .f32 (floatOfInt .f32 n) 1056964608) 1082130432) = ((2 * n : Int) : Rat) := by
  obtain ⟨f1, v1⟩ := int_exact32 n (by omega)
  obtain ⟨r, e1, n1⟩ := mul_near (k := .f32) f1 half32.1
  rw [fop_some e1]
  have e2 : val FloatKind.f32.format (floatOfInt .f32 n) * val FloatKind.f32.format 1056964608 = num (decide (n < 0)) n.natAbs (-1) := by
    show val single _ * val single _ = _
    rw [v1, half32.2, ← num_int n]
    unfold num
    rw [show (-1 : Int) = 0 + -1 by rfl, pw_add, pw_zero]
    have : (2 : Rat) ^ (-1 : Int) = 1 / 2 := by decide +kernel
    rw [this]; grind
  rw [e2] at n1
  obtain ⟨f2, v2⟩ := Near.num n1 (by show _ < 2 * single.binade; have : single.binade = 8388608 := by decide +kernel
                                     omega) (by show single.leastPlace ≤ _; rw [s_lp]; decide) (by decide +kernel)
  obtain ⟨q, e3, n2⟩ := mul_near (k := .f32) f2 four32.1
  rw [fop_some e3]
  have e4 : val FloatKind.f32.format r * val FloatKind.f32.format 1082130432 = ((2 * n : Int) : Rat) := by
    show val FloatKind.f32.format r * val single _ = _
    rw [v2, four32.2, Rat.intCast_mul, ← num_int n]
    unfold num
    rw [show (-1 : Int) = 0 + -1 by rfl, pw_add, pw_zero]
    have : (2 : Rat) ^ (-1 : Int) = 1 / 2 := by decide +kernel
    rw [this]
    have : ((2 : Int) : Rat) = 2 := rfl
    rw [this]; grind
  rw [e4] at n2
  exact Near.int32 n2 (by omega)
/-- a code with the spread 1 -/
def one32 : Nat := 1065353216
theorem code_number : ∀ j : Nat, j < 255 → fop .mul .f32 (floatOfInt .f32 ((j : Int) - 127)) one32 = floatOfInt .f32 ((j : Int) - 127) := by decide +kernel
end Go.Proofs.Ytnhikdjljjemlaa
/- What the nearest code in 8 bits is. No condition. -/
namespace Go.Proofs.Ytnhikdjljjemlaa
open Go Go.RowKit Ieee
set_option linter.unusedVariables false
set_option linter.unusedSimpArgs false
set_option maxRecDepth 1000000 in
theorem rVal_fin : ∀ k, k < 2 → ∀ rest, rest < 127 → rVal k rest < 9218868437227405312 := by decide +kernel
theorem rVal_Fin {k rest : Nat} (hk : k < 2) (hr : rest < 127) : Fin double (rVal k rest) := ⟨false, rVal k rest, rfl, by rw [d_ir]; exact rVal_fin k hk rest hr⟩
/-- a difference's word and its absolute value's -/
def sW (D R : Nat) : Nat := fop .sub .f64 D R
def gD (D R : Nat) : Nat := sW D R % 9223372036854775808
theorem sW_some {D R : Nat} (hD : Fin double D) (hR : Fin double R) : floatBits .sub .f64 D R = some (sW D R) := by
  obtain ⟨r, h1, h2⟩ := sub_near (k := .f64) hD hR
  unfold sW fop
  rw [h1]; rfl
def eC (a b n : Nat) : Bool := FloatKind.f64.format.order a b == some .lt || (FloatKind.f64.format.order a b == some .eq && n % 2 == 0)
def eBest (D k : Nat) : Nat → Nat
  | 0 => 0
  | n + 1 => if eC (gD D (rVal k (n + 1))) (gD D (rVal k (eBest D k n))) (n + 1) = true then n + 1 else eBest D k n
def eRest (D k : Nat) : Nat := if FloatKind.f64.format.order D (rVal k (rTop k)) = some .lt then eBest D k (rTop k) else rTop k
theorem eBest_le (D k : Nat) : ∀ n, eBest D k n ≤ n
  | 0 => Nat.le_refl _
  | n + 1 => by unfold eBest; split; exact Nat.le_refl _; have := eBest_le D k n; omega
theorem rTop_le (k : Nat) : rTop k ≤ 126 := by unfold rTop; split <;> omega
theorem rTop_ge (k : Nat) : 123 ≤ rTop k := by unfold rTop; split <;> omega
theorem eRest_le (D k : Nat) : eRest D k ≤ rTop k := by unfold eRest; split; exact eBest_le _ _ _; exact Nat.le_refl _
theorem sW_lt {D R : Nat} (hD : Fin double D) (hR : Fin double R) : sW D R < 18446744073709551616 := by
  have h := fbits_some (sW_some hD hR)
  rw [← h default]
  exact fbits_lt _ .f64 _ _ _
theorem cv_fin8 {x : Nat} (hx : Fin single x) (w : World) : cvbits .f32 x .f64 w = fcv .f32 x .f64 := by
  have h := cn_wide x w
  rw [cn_not (Fin.not (k := .f32) hx)] at h
  exact Fin.cn (k := .f64) (wide_val hx).1 h
/-- the size of a finite number, wide -/
def szD (x : Nat) : Nat := fcv .f32 x .f64 % 9223372036854775808
theorem fin64_lt {x : Nat} (h : Fin double x) : x < 18446744073709551616 := by
  obtain ⟨s, r, rfl, hr⟩ := h
  rw [d_ir] at hr
  unfold Format.word
  have : double.signWeight = 9223372036854775808 := by decide +kernel
  split <;> omega
theorem abs64_fin {x : Nat} (h : Fin double x) : Fin double (x % 9223372036854775808) := by
  obtain ⟨s, r, rfl, hr⟩ := h
  refine ⟨false, r, ?_, hr⟩
  rw [d_ir] at hr
  have : double.signWeight = 9223372036854775808 := by decide +kernel
  unfold Format.word
  rw [this]
  cases s
  · simp; omega
  · simp; omega
theorem szD_fin {x : Nat} (h : Fin single x) : Fin double (szD x) := abs64_fin (wide_val h).1
/-- the sign's part of a code -/
def sgC (x : Nat) : Nat := if x < 2147483648 then 0 else 128
set_option maxHeartbeats 4000000 in
set_option maxRecDepth 100000 in
theorem impl_EightOf_fin (k : Nat) (hk : k < 2) (x : Nat) (hx : Fin single x) (hx32 : x < 4294967296) (hsg : (fcv .f32 x .f64 < 9223372036854775808) ↔ x < 2147483648) (w : World) :
    Calls Try.prog 18 #[.int .i64 k, .float .f32 x] w fun e w' => e = .returned (.tuple #[.int .i64 (eRest (szD x) k + sgC x : Nat), .bool true]) ∧ Dr w w' := by
  have cw := cv_fin8 hx
  have fD := szD_fin hx
  have fl := fin64_lt (wide_val hx).1
  have ox : FloatKind.f32.format.order x x = some .eq := (order_val (k := .f32) hx hx).2.2.2 rfl
  have K1 := Lib.hid (fun W => impl_isEight k hk W)
  have K2 := Lib.hid (fun W => impl_greatestRest k hk W)
  have K3 := Lib.hid (fun r hr W => impl_restValue k r hk hr W)
  have k4 := fun W => math_Abs (fcv .f32 x .f64) fl W
  have k5 := fun W => math_Signbit (fcv .f32 x .f64) fl W
  have hsb : (!(decide (fcv .f32 x .f64 < 9223372036854775808))) = !(decide (x < 2147483648)) := by rw [decide_eq_decide.2 hsg]
  rw [hsb] at k5
  have eD : fcv .f32 x .f64 % 9223372036854775808 = szD x := rfl
  rw [eD] at k4
  obtain ⟨D, hD⟩ : ∃ D, D = szD x := ⟨_, rfl⟩
  rw [← hD] at k4 fD ⊢
  obtain ⟨D0, hD0⟩ : ∃ D, D = fcv .f32 x .f64 := ⟨_, rfl⟩
  rw [← hD0] at cw k4 k5
  have ht1 := rTop_le k
  have ht0 := rTop_ge k
  have hE := eRest_le D k
  have hEr : eRest D k = if FloatKind.f64.format.order D (rVal k (rTop k)) = some .lt then eBest D k (rTop k) else rTop k := rfl
  obtain ⟨T, hT⟩ : ∃ T, T = rTop k := ⟨_, rfl⟩
  rw [← hT] at K2 ht1 ht0 hE hEr
  obtain ⟨VT, hVT⟩ : ∃ V, V = rVal k T := ⟨_, rfl⟩
  rw [← hVT] at hEr
  have k6 := impl_restValue k T hk (by omega)
  rw [← hVT] at k6
  have K4 := Lib.hid k4; have K5 := Lib.hid k5; have K6 := Lib.hid k6; have HER := Lib.hid hEr; have FD := Lib.hid fD; have HT := Lib.hid hT
  clear k4 k5 k6 hEr fl hsb eD hD hD0 hVT hsg fD hT
  go_enter Try.func18, Try.ntmps18
  go_wp2_with fail
  refine (K1.out _).mono ?_
  rintro e w1 ⟨rfl, rfl⟩
  go_wp2_with fail
  refine (K4.out _).mono ?_
  rintro e w1 ⟨rfl, rfl⟩
  go_wp2_with fail
  refine (K2.out _).mono ?_
  rintro e w1 ⟨rfl, rfl⟩
  go_wp2_with fail
  refine (K6.out _).mono ?_
  rintro e w1 ⟨rfl, hd1⟩
  have HD1 := Lib.hid hd1; have CW := Lib.hid cw; clear hd1 cw
  by_cases hlt : FloatKind.f64.format.order D VT = some .lt
  · have eE := HER.out
    rw [if_pos hlt] at eE
    have EE := Lib.hid eE
    clear eE
    go_wp2
    go_loopw [7, 8, 9, 10] (fun b i _ _ wt => ∃ n : Nat, i = .int .i64 ((n : Int) + 1) ∧ n ≤ T ∧ ∃ e : Nat, b = .int .i64 e ∧ e ≤ n ∧ Hid (e = eBest D k n) ∧ Dr w wt) (fun _ i _ _ _ => T + 1 - (intOf i).toNat)
    case atStart => exact ⟨0, rfl, Nat.zero_le _, 0, rfl, Nat.le_refl _, Lib.hid rfl, by first | exact HD1.out | exact (Dr.refl _).drewN _ | (obtain ⟨q, hq⟩ := HD1.out; exact ⟨_, by rw [hq, World.drewN_drewN]⟩)⟩
    case round =>
      obtain ⟨n, rfl, hn, e, rfl, hen, HE, hd⟩ := hrel
      have HD := Lib.hid hd; clear hd
      by_cases hlt2 : n < T
      · have k7 := K3.out (n + 1) (by omega)
        rw [show ((n + 1 : Nat) : Int) = (n : Int) + 1 from rfl] at k7
        have k8 := K3.out e (by omega)
        have f1 := rVal_Fin hk (show n + 1 < 127 by omega)
        have f2 := rVal_Fin hk (show e < 127 by omega)
        have g1 := sW_some FD.out f1
        have g2 := sW_some FD.out f2
        have l1 := sW_lt FD.out f1
        have l2 := sW_lt FD.out f2
        have hnext : eBest D k (n + 1) = if eC (gD D (rVal k (n + 1))) (gD D (rVal k e)) (n + 1) = true then n + 1 else e := by rw [HE.out]; rfl
        unfold gD at hnext
        obtain ⟨V1, hV1⟩ : ∃ V, V = rVal k (n + 1) := ⟨_, rfl⟩
        obtain ⟨V2, hV2⟩ : ∃ V, V = rVal k e := ⟨_, rfl⟩
        rw [← hV1] at k7 g1 l1 hnext
        rw [← hV2] at k8 g2 l2 hnext
        obtain ⟨s1, hs1⟩ : ∃ s, s = sW D V1 := ⟨_, rfl⟩
        obtain ⟨s2, hs2⟩ : ∃ s, s = sW D V2 := ⟨_, rfl⟩
        rw [← hs1] at g1 l1 hnext
        rw [← hs2] at g2 l2 hnext
        have k9 := fun W => math_Abs s1 l1 W
        have k10 := fun W => math_Abs s2 l2 W
        obtain ⟨A, hA⟩ : ∃ A, A = s1 % 9223372036854775808 := ⟨_, rfl⟩
        obtain ⟨C, hC⟩ : ∃ C, C = s2 % 9223372036854775808 := ⟨_, rfl⟩
        rw [← hA] at k9 hnext
        rw [← hC] at k10 hnext
        have e1 := fbits_some g1
        have e2 := fdr_some g1
        have e3 := fbits_some g2
        have e4 := fdr_some g2
        have hz0 := World.drewN_none
        have hng : (n : Int) + 1 ≤ (T : Int) := by omega
        have K7 := Lib.hid k7; have K8 := Lib.hid k8; have K9 := Lib.hid k9; have K10 := Lib.hid k10
        have HNX := Lib.hid hnext
        clear k7 k8 k9 k10 g1 g2 l1 l2 hV1 hV2 hs1 hs2 hA hC hnext f1 f2
        go_wp2_with fail
        refine (K2.out _).mono ?_
        rintro e2 w8 ⟨rfl, rfl⟩
        go_wp2_with fail
        refine (K7.out _).mono ?_
        rintro e2 w8 ⟨rfl, hd8⟩
        have HD8 := Lib.hid hd8; clear hd8
        go_wp2_with fail
        refine (K9.out _).mono ?_
        rintro e2 w9 ⟨rfl, rfl⟩
        go_wp2_with fail
        refine (K8.out _).mono ?_
        rintro e2 w9 ⟨rfl, hd9⟩
        have HD9 := Lib.hid hd9; clear hd9
        go_wp2_with fail
        refine (K10.out _).mono ?_
        rintro e2 w10 ⟨rfl, rfl⟩
        by_cases c1 : FloatKind.f64.format.order A C = some .lt
        · have ol : (FloatKind.f64.format.order A C == some .lt) = true := by rw [c1]; rfl
          clear c1
          have hnx : eBest D k (n + 1) = n + 1 := by rw [HNX.out]; unfold eC; rw [ol]; rfl
          have HX := Lib.hid hnx
          have hd := (HD.out.trans HD8.out).trans HD9.out
          have HDD := Lib.hid hd
          clear hnx hd HNX K7 K8 K9 K10
          go_wp2
          refine ⟨?rel, ?measure⟩
          case rel => exact ⟨n + 1, rfl, by omega, n + 1, rfl, by omega, Lib.hid HX.out.symm, HDD.out⟩
          case measure => simp [intOf]; omega
        · have ol : (FloatKind.f64.format.order A C == some .lt) = false := by simpa using c1
          by_cases c2 : FloatKind.f64.format.order A C = some .eq
          · have oe : (FloatKind.f64.format.order A C == some .eq) = true := by rw [c2]; rfl
            by_cases c3 : (n + 1) % 2 = 0
            · have op : (((n : Int) + 1) % 2 == 0) = true := by rw [beq_iff_eq]; omega
              have oq : ((n + 1) % 2 == 0) = true := by rw [c3]; rfl
              clear c1 c2 c3
              have hnx : eBest D k (n + 1) = n + 1 := by rw [HNX.out]; unfold eC; rw [ol, oe, oq]; rfl
              clear oq
              have HX := Lib.hid hnx
              have hd := (HD.out.trans HD8.out).trans HD9.out
              have HDD := Lib.hid hd
              clear hnx hd HNX K7 K8 K9 K10
              go_wp2
              refine ⟨?rel, ?measure⟩
              case rel => exact ⟨n + 1, rfl, by omega, n + 1, rfl, by omega, Lib.hid HX.out.symm, HDD.out⟩
              case measure => simp [intOf]; omega
            · have op : (((n : Int) + 1) % 2 == 0) = false := by rw [beq_eq_false_iff_ne]; omega
              have oq : ((n + 1) % 2 == 0) = false := by simpa using c3
              clear c1 c2 c3
              have hnx : eBest D k (n + 1) = e := by rw [HNX.out]; unfold eC; rw [ol, oe, oq]; rfl
              clear oq
              have HX := Lib.hid hnx
              have hd := (HD.out.trans HD8.out).trans HD9.out
              have HDD := Lib.hid hd
              clear hnx hd HNX K7 K8 K9 K10
              go_wp2
              refine ⟨?rel, ?measure⟩
              case rel => exact ⟨n + 1, rfl, by omega, e, rfl, by omega, Lib.hid HX.out.symm, HDD.out⟩
              case measure => simp [intOf]; omega
          · have oe : (FloatKind.f64.format.order A C == some .eq) = false := by simpa using c2
            clear c1 c2
            have hnx : eBest D k (n + 1) = e := by rw [HNX.out]; unfold eC; rw [ol, oe]; rfl
            have HX := Lib.hid hnx
            have hd := (HD.out.trans HD8.out).trans HD9.out
            have HDD := Lib.hid hd
            clear hnx hd HNX K7 K8 K9 K10
            go_wp2
            refine ⟨?rel, ?measure⟩
            case rel => exact ⟨n + 1, rfl, by omega, e, rfl, by omega, Lib.hid HX.out.symm, HDD.out⟩
            case measure => simp [intOf]; omega
      · have hnT : n = T := by omega
        have eqn : eRest D k = e := EE.out.trans (by rw [← hnT]; exact HE.out.symm)
        have EQ := Lib.hid eqn
        have hng : ¬ ((n : Int) + 1 ≤ (T : Int)) := by omega
        clear eqn hnT
        go_wp2_with fail
        refine (K2.out _).mono ?_
        rintro e2 w8 ⟨rfl, rfl⟩
        have cw := CW.out
        have hfe := EQ.out
        by_cases hs : x < 2147483648
        · have k5 := K5.out
          rw [decide_eq_true hs] at k5
          have K7 := Lib.hid k5
          have hfin : ((eRest D k + sgC x : Nat) : Int) = (e : Int) := by rw [hfe, show sgC x = 0 from if_pos hs]; rfl
          have HF := Lib.hid hfin
          have HDR := Lib.hid HD.out
          clear hfin hfe k5 hs
          go_wp2_with fail
          refine (K7.out _).mono ?_
          rintro e w9 ⟨rfl, rfl⟩
          go_wp2
          go_ret2
          exact ⟨by rw [HF.out]; rfl, by first | exact HDR.out | exact HDR.out.drewN _⟩
        · have k5 := K5.out
          rw [decide_eq_false hs] at k5
          have K7 := Lib.hid k5
          have hfin : ((eRest D k + sgC x : Nat) : Int) = (e : Int) + 128 := by rw [hfe, show sgC x = 128 from if_neg hs]; omega
          have HF := Lib.hid hfin
          have HDR := Lib.hid HD.out
          clear hfin hfe k5 hs
          go_wp2_with fail
          refine (K7.out _).mono ?_
          rintro e w9 ⟨rfl, rfl⟩
          go_wp2
          go_ret2
          exact ⟨by rw [HF.out]; rfl, by first | exact HDR.out | exact HDR.out.drewN _⟩
  · have eE := HER.out
    rw [if_neg hlt] at eE
    have EE := Lib.hid eE
    have ol : (FloatKind.f64.format.order D VT == some .lt) = false := by simpa using hlt
    clear eE hlt
    have cw := CW.out
    have hfe := EE.out
    by_cases hs : x < 2147483648
    · have k5 := K5.out
      rw [decide_eq_true hs] at k5
      have K7 := Lib.hid k5
      have hfin : ((eRest D k + sgC x : Nat) : Int) = (T : Int) := by rw [hfe, show sgC x = 0 from if_pos hs]; rfl
      have HF := Lib.hid hfin
      have HDR := Lib.hid (show Dr w w1 from by first | exact HD1.out | (obtain ⟨q, hq⟩ := HD1.out; exact ⟨_, by rw [hq, World.drewN_drewN]⟩))
      clear hfin hfe k5 hs
      go_wp2_with fail
      refine (K7.out _).mono ?_
      rintro e w9 ⟨rfl, rfl⟩
      go_wp2
      go_ret2
      exact ⟨by rw [HF.out]; rfl, by first | exact HDR.out | exact HDR.out.drewN _⟩
    · have k5 := K5.out
      rw [decide_eq_false hs] at k5
      have K7 := Lib.hid k5
      have hfin : ((eRest D k + sgC x : Nat) : Int) = (T : Int) + 128 := by rw [hfe, show sgC x = 128 from if_neg hs]; omega
      have HF := Lib.hid hfin
      have HDR := Lib.hid (show Dr w w1 from by first | exact HD1.out | (obtain ⟨q, hq⟩ := HD1.out; exact ⟨_, by rw [hq, World.drewN_drewN]⟩))
      clear hfin hfe k5 hs
      go_wp2_with fail
      refine (K7.out _).mono ?_
      rintro e w9 ⟨rfl, rfl⟩
      go_wp2
      go_ret2
      exact ⟨by rw [HF.out]; rfl, by first | exact HDR.out | exact HDR.out.drewN _⟩
end Go.Proofs.Ytnhikdjljjemlaa
/- What a code in 8 bits is worth. No condition. -/
namespace Go.Proofs.Ytnhikdjljjemlaa
open Go Go.RowKit Ieee
set_option linter.unusedVariables false
set_option linter.unusedSimpArgs false
def nV (k r : Nat) : Nat := fcv .f64 (rVal k r) .f32
def evW (k c : Nat) : Nat := if c < 128 then nV k (c % 128) else nV k (c % 128) + 2147483648
def nvOk (k r : Nat) : Bool := !cvWide .f64 (rVal k r) .f32 && decide (nV k r < 2139095040) && decide (Op.negFloat .f32 (nV k r) = nV k r + 2147483648) && decide (fcv .f32 (nV k r) .f64 = rVal k r) && decide (fcv .f32 (nV k r + 2147483648) .f64 = rVal k r + 9223372036854775808)
set_option maxRecDepth 1000000 in
theorem nvOk_all : ∀ k, k < 2 → ∀ r, r < 127 → nvOk k r = true := by decide +kernel
theorem nv_facts {k r : Nat} (hk : k < 2) (hr : r < 127) : cvWide .f64 (rVal k r) .f32 = false ∧ nV k r < 2139095040 ∧ Op.negFloat .f32 (nV k r) = nV k r + 2147483648 ∧ fcv .f32 (nV k r) .f64 = rVal k r ∧ fcv .f32 (nV k r + 2147483648) .f64 = rVal k r + 9223372036854775808 := by
  have h := nvOk_all k hk r hr
  unfold nvOk at h
  simp only [Bool.and_eq_true, Bool.not_eq_true', decide_eq_true_eq] at h
  obtain ⟨⟨⟨⟨h1, h2⟩, h3⟩, h4⟩, h5⟩ := h
  exact ⟨h1, h2, h3, h4, h5⟩
theorem cvN {k r : Nat} (hk : k < 2) (hr : r < 127) (w : World) : cvbits .f64 (rVal k r) .f32 w = nV k r := by
  obtain ⟨h1, h2, -⟩ := nv_facts hk hr
  have h := cn_cvbits w h1
  rw [cn_not (Fin.not (k := .f64) (rVal_Fin hk hr))] at h
  exact Fin.cn (k := .f32) ⟨false, nV k r, rfl, by show nV k r < single.infRung; rw [s_ir]; exact h2⟩ h
theorem inf_notfin : (2139095040 : Nat) < 4294967296 ∧ ¬ Fin single 2139095040 := by
  refine ⟨by decide, ?_⟩
  rintro ⟨s, r, e, hr⟩
  rw [s_ir] at hr
  have : single.signWeight = 2147483648 := s_sw
  unfold Format.word at e
  rw [this] at e
  cases s <;> simp at e <;> omega
theorem minf_notfin : (4286578688 : Nat) < 4294967296 ∧ ¬ Fin single 4286578688 := by
  refine ⟨by decide, ?_⟩
  rintro ⟨s, r, e, hr⟩
  rw [s_ir] at hr
  have : single.signWeight = 2147483648 := s_sw
  unfold Format.word at e
  rw [this] at e
  cases s <;> simp at e <;> omega
theorem isN_of {r : Nat} (h : cn .f32 r = nanOf .f32) : isN .f32 r = true := by
  rw [← isN_cn, h]; exact isN_nanOf .f32
theorem nan_notfin {r : Nat} (h : cn .f32 r = nanOf .f32 ∧ r < 4294967296) : r < 4294967296 ∧ ¬ Fin single r := ⟨h.2, fun hf => by
  have h1 := Fin.not (k := .f32) hf
  rw [isN_of h.1] at h1; cases h1⟩
theorem nnan_notfin {r : Nat} (h : cn .f32 r = nanOf .f32 ∧ r < 4294967296) : Op.negFloat .f32 r < 4294967296 ∧ ¬ Fin single (Op.negFloat .f32 r) := by
  have e : Op.negFloat .f32 r = r ^^^ 2 ^ 31 := rfl
  have hm : Op.negFloat .f32 r % 2147483648 = r % 2147483648 := by
    rw [e, show (2147483648 : Nat) = 2 ^ 31 from rfl, Nat.xor_mod_two_pow, Nat.mod_self, Nat.xor_zero]
  refine ⟨?_, fun hf => ?_⟩
  · rw [e]; exact Nat.xor_lt_two_pow (n := 32) (by have := h.2; omega) (by decide)
  · have h1 := Fin.not (k := .f32) hf
    rw [← isN_mod32, hm, isN_mod32, isN_of h.1] at h1; cases h1
def evP (k c y : Nat) : Prop := y < 4294967296 ∧ (c % 128 ≤ rTop k → y = evW k c) ∧ (rTop k < c % 128 → ¬ Fin single y)
set_option maxHeartbeats 4000000 in
set_option maxRecDepth 100000 in
theorem impl_EightValue (k : Nat) (hk : k < 2) (c : Nat) (hc : c < 256) (w : World) :
    Calls Try.prog 19 #[.int .i64 k, .int .i64 c] w fun e w' => ∃ y, e = .returned (.tuple #[.float .f32 y, .bool true]) ∧ Hid (evP k c y) ∧ Dr w w' := by
  have K1 := Lib.hid (fun W => impl_isEight k hk W)
  have K2 := Lib.hid (fun W => impl_greatestRest k hk W)
  have k3 := fun W => within_any c 0 255 W
  rw [inB_iff.2 ⟨by omega, by omega⟩] at k3
  have K3 := Lib.hid k3; clear k3
  have K4 := Lib.hid (fun W => impl_noNumber W)
  have hm : (c : Int) % 128 = ((c % 128 : Nat) : Int) := by omega
  obtain ⟨r, hr⟩ : ∃ r, r = c % 128 := ⟨_, rfl⟩
  rw [← hr] at hm
  have hr128 : r < 128 := by omega
  have HRC := Lib.hid hr
  obtain ⟨T, hT⟩ : ∃ T, T = rTop k := ⟨_, rfl⟩
  have ht1 := rTop_le k
  rw [← hT] at K2 ht1
  have HT := Lib.hid hT
  clear hr hT
  go_enter Try.func19, Try.ntmps19
  go_wp2_with fail
  refine (K1.out _).mono ?_
  rintro e w1 ⟨rfl, rfl⟩
  go_wp2_with fail
  refine (K3.out _).mono ?_
  rintro e w1 ⟨rfl, rfl⟩
  go_wp2_with fail
  refine (K4.out _).mono ?_
  rintro e w1 ⟨nn, rfl, hnn, hd1⟩
  have HD1 := Lib.hid hd1; clear hd1
  go_wp2_with fail
  refine (K2.out _).mono ?_
  rintro e w2 ⟨rfl, rfl⟩
  by_cases hle : r ≤ T
  · have hr127 : r < 127 := by omega
    have k5 := fun W => impl_restValue k r hk hr127 W
    obtain ⟨f1, f2, f3, -, -⟩ := nv_facts hk hr127
    have f4 := cvN hk hr127
    obtain ⟨V, hV⟩ : ∃ V, V = rVal k r := ⟨_, rfl⟩
    obtain ⟨N, hN⟩ : ∃ N, N = nV k r := ⟨_, rfl⟩
    rw [← hV] at k5 f1 f4
    rw [← hN] at f2 f3 f4
    have K5 := Lib.hid k5
    have HN := Lib.hid hN
    clear k5 hV hN
    go_wp2_with fail
    refine (K5.out _).mono ?_
    rintro e w2 ⟨rfl, hd2⟩
    have HD2 := Lib.hid hd2; clear hd2
    have hfin : ∀ y, y = evW k c → y < 4294967296 → evP k c y := fun y h1 h2 => ⟨h2, fun _ => h1, fun h => by rw [← HRC.out, ← HT.out] at h; omega⟩
    have HF := Lib.hid hfin; clear hfin
    by_cases h128 : c < 128
    · have he : N = evW k c := by unfold evW; rw [if_pos h128, ← HRC.out]; exact HN.out
      have HE := Lib.hid (HF.out N he (by omega))
      clear he f2 f3 hm
      go_wp2
      go_ret2
      exact ⟨_, rfl, Lib.hid HE.out, by first | exact HD1.out.trans HD2.out | exact (HD1.out.trans HD2.out).drewN _⟩
    · have he : N + 2147483648 = evW k c := by unfold evW; rw [if_neg h128, ← HRC.out, ← HN.out]
      have HE := Lib.hid (HF.out _ he (by omega))
      obtain ⟨M, hM⟩ : ∃ M, M = N + 2147483648 := ⟨_, rfl⟩
      rw [← hM] at f3 HE
      clear he f2 hM hm
      go_wp2
      go_ret2
      exact ⟨_, rfl, Lib.hid HE.out, by first | exact HD1.out.trans HD2.out | exact (HD1.out.trans HD2.out).drewN _⟩
  · have hfin : ∀ y, y < 4294967296 ∧ ¬ Fin single y → evP k c y := fun y h => ⟨h.1, fun h1 => by rw [← HRC.out, ← HT.out] at h1; omega, fun _ => h.2⟩
    have HF := Lib.hid hfin; clear hfin
    by_cases hk0 : k = 0
    · subst hk0
      by_cases hr0 : r = 124
      · subst hr0
        have K6 := Lib.hid (fun W => impl_infinity W)
        have ng : Op.negFloat .f32 2139095040 = 4286578688 := by decide +kernel
        go_wp2_with fail
        refine (K6.out _).mono ?_
        rintro e w2 ⟨rfl, hd2⟩
        have HD2 := Lib.hid hd2; clear hd2
        by_cases h128 : c < 128
        · have HE := Lib.hid (HF.out (2139095040) inf_notfin)
          clear hm
          go_wp2
          go_ret2
          exact ⟨_, rfl, Lib.hid HE.out, by first | exact HD1.out.trans HD2.out | exact (HD1.out.trans HD2.out).drewN _⟩
        · have HE := Lib.hid (HF.out (4286578688) minf_notfin)
          clear hm
          go_wp2
          go_ret2
          exact ⟨_, rfl, Lib.hid HE.out, by first | exact HD1.out.trans HD2.out | exact (HD1.out.trans HD2.out).drewN _⟩
      · have hr1 : ((r : Int) == 124) = false := by rw [beq_eq_false_iff_ne]; omega
        clear hr0
        by_cases h128 : c < 128
        · have HE := Lib.hid (HF.out (nn) (nan_notfin hnn.out))
          clear hm
          go_wp2
          go_ret2
          exact ⟨_, rfl, Lib.hid HE.out, by first | exact HD1.out | exact (HD1.out).drewN _⟩
        · have HE := Lib.hid (HF.out (Op.negFloat .f32 nn) (nnan_notfin hnn.out))
          clear hm
          go_wp2
          go_ret2
          exact ⟨_, rfl, Lib.hid HE.out, by first | exact HD1.out | exact (HD1.out).drewN _⟩
    · have hk1 : k = 1 := by omega
      subst hk1
      by_cases h128 : c < 128
      · have HE := Lib.hid (HF.out (nn) (nan_notfin hnn.out))
        clear hm
        go_wp2
        go_ret2
        exact ⟨_, rfl, Lib.hid HE.out, by first | exact HD1.out | exact (HD1.out).drewN _⟩
      · have HE := Lib.hid (HF.out (Op.negFloat .f32 nn) (nnan_notfin hnn.out))
        clear hm
        go_wp2
        go_ret2
        exact ⟨_, rfl, Lib.hid HE.out, by first | exact HD1.out | exact (HD1.out).drewN _⟩
end Go.Proofs.Ytnhikdjljjemlaa
/- Plain laws: means of neighbours, made 32-bit numbers again. No condition. -/
namespace Go.Proofs.Ytnhikdjljjemlaa
open Go Go.RowKit Ieee
set_option linter.unusedVariables false
set_option linter.unusedSimpArgs false
theorem pw_half {a b : Int} (h : a = b + 1) : (2 : Rat) ^ a = 2 * (2 : Rat) ^ b := by
  subst h
  have e : (2 : Rat) ^ (1 : Int) = 2 := by decide +kernel
  rw [pw_add, e]; grind
theorem pw_quarter {a b : Int} (h : a = b + 2) : (2 : Rat) ^ a = 4 * (2 : Rat) ^ b := by
  subst h
  have e : (2 : Rat) ^ (2 : Int) = 4 := by decide +kernel
  rw [pw_add, e]; grind
/-- a rung for a number of few digits -/
theorem rep_rung (f : Format) (e : Nat) : ∀ n, n ≤ 2 * f.binade → ∃ q, nval f q = n * 2 ^ e := by
  induction e with
  | zero => intro n hn; exact ⟨n, by have := nval_rung f 0 n (.inl rfl) hn; simpa using this⟩
  | succ e ih =>
    intro n hn
    rcases Nat.lt_or_ge n f.binade with h | h
    · obtain ⟨q, hq⟩ := ih (2 * n) (by omega)
      exact ⟨q, by rw [hq, Nat.pow_succ, Nat.mul_comm 2 n, Nat.mul_assoc, Nat.mul_comm 2]⟩
    · exact ⟨(e + 1) * f.binade + n, nval_rung f (e + 1) n (.inr h) hn⟩
set_option exponentiation.threshold 4000 in
theorem rep_fin (s : Bool) (n : Nat) (z : Int) (hn : n ≤ 2 ^ 53) (h1 : -1074 ≤ z) (h2 : z ≤ 800) : ∃ w, Fin double w ∧ val double w = sg s * ((n : Rat) * (2 : Rat) ^ z) := by
  obtain ⟨e, he⟩ : ∃ e : Nat, z + 1074 = e := ⟨(z + 1074).toNat, by omega⟩
  obtain ⟨q, hq⟩ := rep_rung double e n (by rw [d_bin]; omega)
  have hlt : q < double.infRung := by
    rcases Nat.lt_or_ge q double.infRung with h | h
    · exact h
    · exfalso
      have a1 := nval_le (f := double) h
      rw [hq, d_ir2, ← d_bin, nval_top double 2047 (by decide), d_bin] at a1
      have a2 : n * 2 ^ e ≤ 2 ^ 53 * 2 ^ 1874 := Nat.mul_le_mul hn (Nat.pow_le_pow_right (by decide) (by omega))
      have a3 : 2 ^ 53 * 2 ^ 1874 < 2 ^ 52 * 2 ^ (2047 - 1) := by
        rw [← Nat.pow_add, ← Nat.pow_add]; exact Nat.pow_lt_pow_right (by decide) (by decide)
      omega
  refine ⟨double.word s q, ⟨s, q, rfl, hlt⟩, ?_⟩
  rw [val_word double s hlt, hq, d_lp, Rat.natCast_mul, ← pw_nat]
  have : (2 : Rat) ^ z = (2 : Rat) ^ (e : Int) * (2 : Rat) ^ (-1074 : Int) := by rw [← pw_add]; congr 1; omega
  rw [this]; grind
theorem val_two : Fin double 4611686018427387904 ∧ val double 4611686018427387904 = 2 := by
  refine ⟨⟨false, 4611686018427387904, rfl, by decide +kernel⟩, ?_⟩
  unfold val
  have : double.read 4611686018427387904 = .number false (2 ^ 52) (-51) := by decide +kernel
  rw [this]; decide +kernel
/-- the mean of two numbers -/
theorem half_sum {a b : Nat} (ha : Fin double a) (hb : Fin double b) {s : Bool} {n : Nat} {z : Int} (hn : n ≤ 2 ^ 53) (h1 : -1073 ≤ z) (h2 : z ≤ 800) (hv : val double a + val double b = sg s * ((n : Rat) * (2 : Rat) ^ z)) :
    ∃ m h, floatBits .add .f64 a b = some m ∧ floatBits .quo .f64 m 4611686018427387904 = some h ∧ Fin double h ∧ val double h = sg s * ((n : Rat) * (2 : Rat) ^ (z - 1)) := by
  obtain ⟨m, hm, nm⟩ := add_near (k := .f64) ha hb
  obtain ⟨w0, hw0, hv0⟩ := rep_fin s n z hn (by omega) h2
  obtain ⟨fm, vm⟩ := nm.val_exact (f := double) hw0 (by rw [hv0]; exact hv)
  obtain ⟨h, hh, nh⟩ := quo_nearW (k := .f64) fm val_two.1 (by show val double _ ≠ 0; rw [val_two.2]; decide)
  obtain ⟨w1, hw1, hv1⟩ := rep_fin s n (z - 1) hn (by omega) (by omega)
  have e : val double m / val double 4611686018427387904 = val double w1 := by
    rw [vm, val_two.2, hv1]
    rw [show val FloatKind.f64.format a + val FloatKind.f64.format b = _ from hv]
    have : (2 : Rat) ^ z = 2 * (2 : Rat) ^ (z - 1) := pw_half (by omega)
    rw [this]
    grind
  obtain ⟨fh, vh⟩ := nh.val_exact (f := double) hw1 e
  exact ⟨m, h, hm, hh, fh, by rw [vh]; exact e.trans hv1⟩
theorem near_at {f : Format} {q v : Rat} {w ρ : Nat} {s : Bool} (h : Near f q w) (hq : q = sg s * v) (hv : 0 < v) (hm : Mid f (v * (2 : Rat) ^ (-f.leastPlace)) ρ) : w = f.word s ρ := by
  obtain ⟨t, r, rfl, h1, h2, h3⟩ := h
  rw [hq, sg_abs s (Rat.le_of_lt hv)] at h1
  have e := h1.unique hm
  subst e
  have : t = s := by
    unfold sg at hq
    cases s
    · simp only [Bool.false_eq_true, if_false] at hq; exact h3 (by grind)
    · simp only [if_true] at hq; exact h2 (by grind)
  rw [this]
theorem narrow_step {h : Nat} (hf : Fin double h) {s : Bool} {v : Rat} (hv : val double h = sg s * v) (h0 : 0 < v) {ρ : Nat} (hρ : ρ < single.infRung) (hm : Mid single (v * (2 : Rat) ^ (149 : Int)) ρ) : ∀ w, cvbits .f64 h .f32 w = single.word s ρ := by
  have e := near_at (f := single) (narrow_near hf) hv h0 (by rw [s_lp]; exact hm)
  intro w
  obtain ⟨t, m, p, h1, _⟩ := hf.read
  have hw : cvWide .f64 h .f32 = false := by
    unfold cvWide
    rw [if_neg (by decide), show FloatKind.f64.decode h = _ from h1]
    show (single.read (single.nearest t m p)).isInfinity = false
    have : fcv .f64 h .f32 = single.nearest t m p := by
      unfold fcv; rw [if_neg (by decide), show FloatKind.f64.decode h = _ from h1]; rfl
    rw [← this, e]
    exact not_inf_of_lt _ _ hρ
  have := cn_cvbits w hw
  rw [cn_not (Fin.not (k := .f64) hf), e] at this
  have hn : isN .f32 (single.word s ρ) = false := read_word_le single s (Nat.le_of_lt hρ)
  exact (eq_of_cn (by rw [this, cn_not hn]) hn).symm
theorem nval_pair (f : Format) (r : Nat) : ∃ k e, nval f r = k * 2 ^ e ∧ nval f (r + 1) = (k + 1) * 2 ^ e ∧ k + 1 ≤ 2 * f.binade ∧ e * f.binade ≤ r := by
  have hB := binade_pos f
  rcases Nat.lt_or_ge r f.binade with h | h
  · refine ⟨r, 0, ?_, ?_, by omega, by omega⟩
    · have := nval_rung f 0 r (.inl rfl) (by omega); simpa using this
    · have := nval_rung f 0 (r + 1) (.inl rfl) (by omega); simpa using this
  · obtain ⟨e, he⟩ : ∃ e, r / f.binade = e + 1 := ⟨r / f.binade - 1, by have := (Nat.le_div_iff_mul_le hB).2 (show 1 * f.binade ≤ r by omega); omega⟩
    have hd := Nat.div_add_mod r f.binade
    have hm := Nat.mod_lt r hB
    have er : r = e * f.binade + (f.binade + r % f.binade) := by
      rw [he] at hd
      rw [Nat.mul_add, Nat.mul_one, Nat.mul_comm] at hd
      omega
    refine ⟨f.binade + r % f.binade, e, ?_, ?_, by omega, by omega⟩
    · conv => lhs; rw [er]
      exact nval_rung f e _ (.inr (by omega)) (by omega)
    · have e2 : r + 1 = e * f.binade + (f.binade + r % f.binade + 1) := by omega
      conv => lhs; rw [e2]
      exact nval_rung f e _ (.inr (by omega)) (by omega)
/-- what means of neighbours are -/
structure Means (a b : Nat) (s : Bool) (r : Nat) (P Q : Nat) : Prop where
  mid : ∃ m h, floatBits .add .f64 a b = some m ∧ floatBits .quo .f64 m 4611686018427387904 = some h ∧ isN .f64 h = false ∧ h < 18446744073709551616 ∧ (∀ w, cvbits .f64 h .f32 w = single.word s (if r % 2 = 0 then r else r + 1)) ∧
    (∃ m' h', floatBits .add .f64 a h = some m' ∧ floatBits .quo .f64 m' 4611686018427387904 = some h' ∧ ∀ w, cvbits .f64 h' .f32 w = single.word s P) ∧
    (∃ m' h', floatBits .add .f64 b h = some m' ∧ floatBits .quo .f64 m' 4611686018427387904 = some h' ∧ ∀ w, cvbits .f64 h' .f32 w = single.word s Q)
theorem means {a b : Nat} (ha : Fin double a) (hb : Fin double b) {s : Bool} {r : Nat} (hr : r + 1 < single.infRung) {flip : Bool}
    (va : val double a = sg s * ((nval single (if flip then r + 1 else r) : Rat) * (2 : Rat) ^ (-149 : Int))) (vb : val double b = sg s * ((nval single (if flip then r else r + 1) : Rat) * (2 : Rat) ^ (-149 : Int))) :
    Means a b s r (if flip then r + 1 else r) (if flip then r else r + 1) := by
  obtain ⟨k, e, h1, h2, h3, h4⟩ := nval_pair single r
  have hB : single.binade = 8388608 := by rw [s_bin]
  rw [hB] at h3 h4
  have hi := s_ir
  have he : e ≤ 254 := by omega
  have U0 := pw_pos (-149 : Int)
  have hk0 : (0 : Rat) ≤ k := Rat.natCast_nonneg
  have c2 : ((2 : Nat) : Rat) = 2 := rfl
  have c1 : ((1 : Nat) : Rat) = 1 := rfl
  have c3 : ((3 : Nat) : Rat) = 3 := rfl
  have c4 : ((4 : Nat) : Rat) = 4 := rfl
  have n1 : (nval single r : Rat) = (k : Rat) * (2 : Rat) ^ (e : Int) := by rw [h1, Rat.natCast_mul, ← pw_nat]
  have n2 : (nval single (r + 1) : Rat) = ((k : Rat) + 1) * (2 : Rat) ^ (e : Int) := by rw [h2, Rat.natCast_mul, ← pw_nat, Rat.natCast_add, c1]
  have p0 : (2 : Rat) ^ ((e : Int) - 149) = (2 : Rat) ^ (e : Int) * (2 : Rat) ^ (-149 : Int) := by rw [← pw_add]; congr 1
  have p1 : (2 : Rat) ^ ((e : Int) - 149) = 2 * (2 : Rat) ^ ((e : Int) - 149 - 1) := pw_half (by omega)
  have p2 : (2 : Rat) ^ ((e : Int) - 149 - 1) = 2 * (2 : Rat) ^ ((e : Int) - 149 - 1 - 1) := pw_half (by omega)
  have sum1 : val double a + val double b = sg s * (((2 * k + 1 : Nat) : Rat) * (2 : Rat) ^ ((e : Int) - 149)) := by
    rw [va, vb, Rat.natCast_add, Rat.natCast_mul, c2, c1, p0]
    cases flip
    · simp only [Bool.false_eq_true, if_false]; rw [n1, n2]; grind
    · simp only [if_true]; rw [n1, n2]; grind
  obtain ⟨m, h, hm, hh, fh, vh⟩ := half_sum ha hb (s := s) (n := 2 * k + 1) (z := (e : Int) - 149) (by omega) (by omega) (by omega) sum1
  -- in units of the narrow kind
  have unit : ∀ (n : Nat) (z : Int), (n : Rat) * (2 : Rat) ^ z * (2 : Rat) ^ (149 : Int) = (n : Rat) * (2 : Rat) ^ (z + 149) := by
    intro n z; rw [Rat.mul_assoc, ← pw_add]
  have q1 : (2 : Rat) ^ (e : Int) = 2 * (2 : Rat) ^ ((e : Int) - 149 - 1 + 149) := pw_half (by omega)
  have q2 : (2 : Rat) ^ (e : Int) = 4 * (2 : Rat) ^ ((e : Int) - 149 - 1 - 1 + 149) := pw_quarter (by omega)
  have lt12 : (nval single r : Rat) < nval single (r + 1) := nat_rat_lt (nval_lt (by omega))
  have midV : Mid single (((2 * k + 1 : Nat) : Rat) * (2 : Rat) ^ ((e : Int) - 149 - 1) * (2 : Rat) ^ (149 : Int)) (if r % 2 = 0 then r else r + 1) := by
    rw [unit]
    apply Mid.half_even (by omega)
    rw [n1, n2, q1, Rat.natCast_add, Rat.natCast_mul, c2, c1]; grind
  have posR : ∀ (n : Nat) (z : Int), 0 < n → (0 : Rat) < (n : Rat) * (2 : Rat) ^ z := by
    intro n z hn
    have : (0 : Rat) < n := by have := nat_rat_lt hn; simpa using this
    exact Rat.mul_pos this (pw_pos z)
  have inner : Mid single (((4 * k + 1 : Nat) : Rat) * (2 : Rat) ^ ((e : Int) - 149 - 1 - 1) * (2 : Rat) ^ (149 : Int)) r := by
    rw [unit, Rat.natCast_add, Rat.natCast_mul, c4, c1]
    have hp := pw_pos ((e : Int) - 149 - 1 - 1 + 149)
    refine ⟨by omega, ?_, .inr ?_⟩
    · rcases Nat.eq_zero_or_pos r with h0 | h0
      · exact .inl h0
      · right
        have : (nval single (r - 1) : Rat) < nval single r := nat_rat_lt (nval_lt (by omega))
        rw [n1, q2] at this ⊢
        exact ⟨by grind, fun _ => by grind⟩
    · rw [n1, n2, q2]
      exact ⟨by grind, fun _ => by grind⟩
  have outer : Mid single (((4 * k + 3 : Nat) : Rat) * (2 : Rat) ^ ((e : Int) - 149 - 1 - 1) * (2 : Rat) ^ (149 : Int)) (r + 1) := by
    rw [unit, Rat.natCast_add, Rat.natCast_mul, c4, c3]
    have hp := pw_pos ((e : Int) - 149 - 1 - 1 + 149)
    refine ⟨by omega, .inr ?_, .inr ?_⟩
    · rw [Nat.add_sub_cancel, n1, n2, q2]
      exact ⟨by grind, fun _ => by grind⟩
    · have : (nval single (r + 1) : Rat) < nval single (r + 1 + 1) := nat_rat_lt (nval_lt (by omega))
      rw [n2, q2] at this ⊢
      exact ⟨by grind, fun _ => by grind⟩
  have stepI : ∀ {c : Nat}, Fin double c → val double c = sg s * ((nval single r : Rat) * (2 : Rat) ^ (-149 : Int)) → ∃ m' h', floatBits .add .f64 c h = some m' ∧ floatBits .quo .f64 m' 4611686018427387904 = some h' ∧ ∀ w, cvbits .f64 h' .f32 w = single.word s r := by
    intro c hc vc
    obtain ⟨m', h', a1, a2, a3, a4⟩ := half_sum hc fh (s := s) (n := 4 * k + 1) (z := (e : Int) - 149 - 1) (by omega) (by omega) (by omega) (by
      rw [vc, vh, n1, Rat.natCast_add, Rat.natCast_mul, Rat.natCast_add, Rat.natCast_mul, c2, c1, c4]
      have : (k : Rat) * (2 : Rat) ^ (e : Int) * (2 : Rat) ^ (-149 : Int) = (k : Rat) * (2 * (2 : Rat) ^ ((e : Int) - 149 - 1)) := by rw [← p1, p0]; grind
      rw [this]; grind)
    exact ⟨m', h', a1, a2, narrow_step a3 a4 (posR _ _ (by omega)) (by omega) inner⟩
  have stepO : ∀ {c : Nat}, Fin double c → val double c = sg s * ((nval single (r + 1) : Rat) * (2 : Rat) ^ (-149 : Int)) → ∃ m' h', floatBits .add .f64 c h = some m' ∧ floatBits .quo .f64 m' 4611686018427387904 = some h' ∧ ∀ w, cvbits .f64 h' .f32 w = single.word s (r + 1) := by
    intro c hc vc
    obtain ⟨m', h', a1, a2, a3, a4⟩ := half_sum hc fh (s := s) (n := 4 * k + 3) (z := (e : Int) - 149 - 1) (by omega) (by omega) (by omega) (by
      rw [vc, vh, n2, Rat.natCast_add, Rat.natCast_mul, Rat.natCast_add, Rat.natCast_mul, c2, c1, c4, c3]
      have : ((k : Rat) + 1) * (2 : Rat) ^ (e : Int) * (2 : Rat) ^ (-149 : Int) = ((k : Rat) + 1) * (2 * (2 : Rat) ^ ((e : Int) - 149 - 1)) := by rw [← p1, p0]; grind
      rw [this]; grind)
    exact ⟨m', h', a1, a2, narrow_step a3 a4 (posR _ _ (by omega)) (by omega) outer⟩
  refine ⟨m, h, hm, hh, Fin.not (k := .f64) fh, ?_, narrow_step fh vh (posR _ _ (by omega)) (by split <;> omega) midV, ?_, ?_⟩
  · have := floatBits_wf hh; simpa [Lit.wf] using this
  · cases flip
    · exact stepI ha va
    · exact stepO ha va
  · cases flip
    · exact stepO hb vb
    · exact stepI hb vb
end Go.Proofs.Ytnhikdjljjemlaa
/- What the reference's source of choices gives. No condition. -/
namespace Go.Proofs.Ytnhikdjljjemlaa
open Go Go.RowKit
set_option linter.unusedVariables false
set_option linter.unusedSimpArgs false
/-- a source of choices: its block, where it stands at most -/
structure SrcAt (w : World) (g : Nat) (ad : Option Addr) (cap : Nat) (xs : List Int) (at_ : Nat) (seed : Int) : Prop where
  lt : g < w.heap.size
  code : w.cell? ⟨g, 0, none⟩ = some (.slice ad xs.length cap)
  at1 : w.cell? ⟨g, 1, none⟩ = some (.int .i64 at_)
  seed2 : w.cell? ⟨g, 2, none⟩ = some (.int .u64 seed)
  free : ∀ o, w.frozen? ⟨g, o, none⟩ = false
  ints : Ints .u8 w ad cap xs
  other : xs ≠ [] → ∀ b off, ad = some ⟨b, off, none⟩ → b < g
def Src (w : World) (g n : Nat) : Prop := ∃ ad cap xs at_ seed, SrcAt w g ad cap xs at_ seed ∧ at_ ≤ n
theorem Src.mono {w : World} {g n m : Nat} (h : Src w g n) (hm : n ≤ m) : Src w g m := by
  obtain ⟨ad, cap, xs, a, s, h1, h2⟩ := h; exact ⟨ad, cap, xs, a, s, h1, Nat.le_trans h2 hm⟩
theorem Src.kept {w w' : World} {g n : Nat} (h : Src w g n) (hs : w.heap.size ≤ w'.heap.size) (hb : ∀ k, k ≤ g → w'.heap[k]? = w.heap[k]?) : Src w' g n := by
  obtain ⟨ad, cap, xs, a, s, h1, h2⟩ := h
  have hg := hb g (Nat.le_refl _)
  refine ⟨ad, cap, xs, a, s, ⟨Nat.lt_of_lt_of_le h1.lt hs, ?_, ?_, ?_, ?_, ?_, h1.other⟩, h2⟩
  · rw [World.cell?_of_block (w := w) hg]; exact h1.code
  · rw [World.cell?_of_block (w := w) hg]; exact h1.at1
  · rw [World.cell?_of_block (w := w) hg]; exact h1.seed2
  · intro o; rw [World.frozen?_of_block (w := w) hg]; exact h1.free o
  · refine ⟨h1.ints.len, h1.ints.cap, ?_, h1.ints.wf⟩
    by_cases hx : xs = []
    · subst hx; exact .inl rfl
    · exact h1.ints.rd.kept hs (fun b off e _ => hb b (Nat.le_of_lt (h1.other hx b off e)))
theorem Src.below {w w' : World} {g n : Nat} (h : Src w g n) (hb : Below w.heap.size w w') : Src w' g n :=
  h.kept hb.size fun k hk => hb.block k (by obtain ⟨_, _, _, _, _, h1, _⟩ := h; exact Nat.lt_of_le_of_lt hk h1.lt)
theorem touch_cell {w : World} {g k : Nat} {v : Value} : Touch g (g + 1) w (w.setCell ⟨g, k, none⟩ v) :=
  ⟨rfl, rfl, rfl, by simp [World.setCell], fun j hj hd => Below.heap_setCell _ _ _ _ (by intro e; simp at e; omega)⟩
theorem src_after {w : World} {g n : Nat} {ad : Option Addr} {cap : Nat} {xs : List Int} {a : Nat} {s : Int} (h : SrcAt w g ad cap xs a s) (han : a ≤ n) (u : Int) (q1 q2 : Nat) :
    Src ((((w.drewN q1).setCell ⟨g, 1, none⟩ (.int .i64 ((a : Int) + 1))).setCell ⟨g, 2, none⟩ (.int .u64 u)).drewN q2) g (n + 1) ∧
    Touch g (g + 1) w ((((w.drewN q1).setCell ⟨g, 1, none⟩ (.int .i64 ((a : Int) + 1))).setCell ⟨g, 2, none⟩ (.int .u64 u)).drewN q2) := by
  obtain ⟨hg, h0, h1, h2, hf, hi, ho⟩ := h
  have hb : Below g w ((((w.drewN q1).setCell ⟨g, 1, none⟩ (.int .i64 ((a : Int) + 1))).setCell ⟨g, 2, none⟩ (.int .u64 u)).drewN q2) :=
    below_drewN (((below_drewN (Below.refl g w) q1).setCell (Nat.le_refl g) _).setCell (Nat.le_refl g) _) q2
  refine ⟨⟨ad, cap, xs, a + 1, u, ⟨by simpa [World.setCell] using hg, ?_, ?_, ?_, ?_, ⟨hi.len, hi.cap, by
    by_cases hx : xs = []
    · subst hx; exact .inl rfl
    · exact hi.rd.belowLt hb (ho hx), hi.wf⟩, ho⟩, by omega⟩, ?_⟩
  · go_simp
  · have e : ((a + 1 : Nat) : Int) = (a : Int) + 1 := by omega
    rw [e]
    go_simp
  · go_simp
  · intro o
    have := hf o
    go_simp
  · exact (((Touch.of_below (below_drewN (Below.refl _ _) _)).trans touch_cell).trans touch_cell).trans (Touch.of_below (below_drewN (Below.refl _ _) _))
theorem and255 (Z : Int) : ∃ r : Nat, wrap64 (bits .and .u64 (IntKind.u64.wrap Z / 1099511627776) 255) = r ∧ r < 256 := by
  have hw : 0 ≤ IntKind.u64.wrap Z ∧ IntKind.u64.wrap Z < 18446744073709551616 := by
    have := wf_wrap .u64 Z
    simp [Lit.wf, IntKind.min, IntKind.max, IntKind.signed, IntKind.bits] at this
    omega
  have h0 : 0 ≤ IntKind.u64.wrap Z / 1099511627776 := by omega
  obtain ⟨m, hm⟩ := Int.eq_ofNat_of_zero_le h0
  rw [hm]
  have := bits_and_u64_nat m 255 (by omega) (by decide)
  rw [show ((255 : Nat) : Int) = 255 from rfl] at this
  rw [this]
  have hl : m &&& 255 < 256 := Nat.lt_of_le_of_lt Nat.and_le_right (by decide)
  refine ⟨m &&& 255, ?_, hl⟩
  unfold wrap64
  omega
theorem src_next (w : World) (g n : Nat) (h : Src w g n) (hn : n ≤ 1000000000) :
    Calls Try.prog 82 #[.pointer (some ⟨g, 0, none⟩)] w fun e w' => ∃ r : Nat, e = .returned (.int .i64 r) ∧ r < 256 ∧ Src w' g (n + 1) ∧ Touch g (g + 1) w w' := by
  obtain ⟨ad, cap, xs, a, s, ⟨hg, h0, h1, h2, hf, hi, ho⟩, han⟩ := h
  have hm := Nat.le_trans hi.len hi.cap
  unfold maxLen at hm
  by_cases hlt : a < xs.length
  · obtain ⟨b, off, rfl, hb, hc⟩ := hi.spot (i := a) hlt
    have hcell := hc a hlt
    have hw := hi.wf (xs.getD a 0) (by rw [List.getD_eq_getElem?_getD, List.getElem?_eq_getElem hlt]; exact List.getElem_mem hlt)
    obtain ⟨x, hx⟩ : ∃ x, x = xs.getD a 0 := ⟨_, rfl⟩
    rw [← hx] at hcell hw
    obtain ⟨hb0, hb1⟩ := bounds_u8 hw
    obtain ⟨l, hl⟩ : ∃ l, l = xs.length := ⟨_, rfl⟩
    rw [← hl] at hlt hm h0
    have HI := Lib.hid hi; have HO := Lib.hid ho; have HL := Lib.hid hl
    clear hx hw hc hi ho hl
    go_enter Try.func82, Try.ntmps82
    go_wp2
    go_quiet (fail)
    go_wp2
    go_quiet (fail)
    go_wp2
    go_quiet (fail)
    go_wp2
    go_ret
    obtain ⟨y, rfl⟩ := Int.eq_ofNat_of_zero_le hb0
    have hsa := src_after (ad := some ⟨b, off, none⟩) (n := n) ⟨hg, by rw [← HL.out]; exact h0, h1, h2, hf, HI.out, HO.out⟩ han
    exact ⟨y, rfl, by omega, (hsa _ _ _).1, (hsa _ _ _).2⟩
  · have HI := Lib.hid hi; have HO := Lib.hid ho
    obtain ⟨l, hl⟩ : ∃ l, l = xs.length := ⟨_, rfl⟩
    rw [← hl] at hlt hm h0
    have HL := Lib.hid hl
    clear hi ho hl
    go_enter Try.func82, Try.ntmps82
    go_wp2
    go_quiet (fail)
    go_wp2
    go_quiet (fail)
    go_wp2
    go_ret
    have hsa := src_after (n := n) ⟨hg, by rw [← HL.out]; exact h0, h1, h2, hf, HI.out, HO.out⟩ han
    obtain ⟨r, hr, hr2⟩ := and255 (IntKind.u64.wrap (IntKind.u64.wrap (s * 6364136223846793005)) + 1442695040888963407)
    exact ⟨r, by rw [← hr]; rfl, hr2, (hsa _ _ _).1, (hsa _ _ _).2⟩
theorem src_pick (w : World) (g n : Nat) (h : Src w g n) (hn : n ≤ 900000000) (N : Int) (h1 : 1 ≤ N) (h2 : N ≤ 1000000) :
    Calls Try.prog 46 #[.pointer (some ⟨g, 0, none⟩), .int .i64 N] w fun e w' => ∃ r : Nat, e = .returned (.int .i64 r) ∧ (r : Int) < N ∧ Src w' g (n + 2) ∧ Touch g (g + 1) w w' := by
  have HS := Lib.hid h; clear h
  by_cases hN : N ≤ 1
  · go_enter Try.func46, Try.ntmps46
    go_wp2
    go_ret
    exact ⟨0, rfl, by omega, HS.out.mono (by omega), Touch.refl _ _ _⟩
  · have hk := fun W m hW hm => src_next W g m hW hm
    have HK := Lib.hid hk; clear hk
    by_cases h200 : 200 < N
    · go_enter Try.func46, Try.ntmps46
      go_wp2_with fail
      refine (HK.out _ n HS.out (by omega)).mono ?_
      rintro e w1 ⟨r, rfl, hr, hs1, ht1⟩
      have HS1 := Lib.hid hs1; have HT1 := Lib.hid ht1; clear hs1 ht1
      go_wp2_with fail
      refine (HK.out _ (n + 1) HS1.out (by omega)).mono ?_
      rintro e w2 ⟨q, rfl, hq, hs2, ht2⟩
      have HS2 := Lib.hid hs2; have HT2 := Lib.hid ht2; clear hs2 ht2
      go_wp2
      go_ret
      have g0 := Int.emod_nonneg ((r : Int) * 256 + q) (show N ≠ 0 by omega)
      have g1 := Int.emod_lt_of_pos ((r : Int) * 256 + q) (show 0 < N by omega)
      exact ⟨(((r : Int) * 256 + q) % N).toNat, by rw [Int.toNat_of_nonneg g0]; rfl, by omega, HS2.out, HT1.out.trans HT2.out⟩
    · go_enter Try.func46, Try.ntmps46
      go_wp2_with fail
      refine (HK.out _ n HS.out (by omega)).mono ?_
      rintro e w1 ⟨r, rfl, hr, hs1, ht1⟩
      have HS1 := Lib.hid hs1; have HT1 := Lib.hid ht1; clear hs1 ht1
      go_wp2
      go_ret
      have g0 := Int.emod_nonneg (r : Int) (show N ≠ 0 by omega)
      have g1 := Int.emod_lt_of_pos (r : Int) (show 0 < N by omega)
      exact ⟨((r : Int) % N).toNat, by rw [Int.toNat_of_nonneg g0]; rfl, by omega, HS1.out.mono (by omega), HT1.out⟩
theorem src_one (w : World) (g n : Nat) (h : Src w g n) (hn : n ≤ 900000000) (N : Int) (h1 : 1 ≤ N) (h2 : N ≤ 1000000) :
    Calls Try.prog 45 #[.pointer (some ⟨g, 0, none⟩), .int .i64 N] w fun e w' => ∃ b : Bool, e = .returned (.bool b) ∧ Src w' g (n + 2) ∧ Touch g (g + 1) w w' := by
  have hk := src_pick w g n h hn N h1 h2
  have HK := Lib.hid hk; clear hk h
  go_enter Try.func45, Try.ntmps45
  go_wp2_with fail
  refine HK.out.mono ?_
  rintro e w1 ⟨r, rfl, hr, hs1, ht1⟩
  have HS1 := Lib.hid hs1; have HT1 := Lib.hid ht1; clear hs1 ht1
  go_wp2
  go_ret
  exact ⟨_, rfl, HS1.out, HT1.out⟩
theorem src_among (w : World) (g n : Nat) (h : Src w g n) (hn : n ≤ 900000000) (b : Nat) (len cap : Nat) (vs : List Int) (hb : b ≠ g) (hbl : b < w.heap.size) (hc : ∀ i, i < len → w.cell? ⟨b, i, none⟩ = some (.int .i64 (vs.getD i 0))) (h1 : 1 ≤ len) (h2 : len ≤ 1000) :
    Calls Try.prog 84 #[.pointer (some ⟨g, 0, none⟩), .slice (some ⟨b, 0, none⟩) len cap] w fun e w' => ∃ i : Nat, i < len ∧ e = .returned (.int .i64 (vs.getD i 0)) ∧ Src w' g (n + 2) ∧ Touch g (g + 1) w w' := by
  have hk := src_pick w g n h hn len (by omega) (by omega)
  have HK := Lib.hid hk; have HC := Lib.hid hc; clear hk h hc
  go_enter Try.func84, Try.ntmps84
  go_wp2_with fail
  refine HK.out.mono ?_
  rintro e w1 ⟨r, rfl, hr, hs1, ht1⟩
  have hr := Int.ofNat_lt.1 hr
  have hcell : w1.cell? ⟨b, r, none⟩ = some (.int .i64 (vs.getD r 0)) := by
    rw [World.cell?_of_block (w := w) (ht1.block b hbl (by omega))]; exact HC.out r hr
  have HS1 := Lib.hid hs1; have HT1 := Lib.hid ht1; clear hs1 ht1
  go_wp2
  go_ret
  exact ⟨r, hr, rfl, HS1.out, HT1.out⟩
theorem src_from (w : World) (ad : Option Addr) (cap : Nat) (xs : List Int) (h : Ints .u8 w ad cap xs) :
    Calls Try.prog 37 #[.slice ad xs.length cap] w fun e w' => e = .returned (.pointer (some ⟨w.heap.size, 0, none⟩)) ∧ Src w' w.heap.size 0 ∧ Below w.heap.size w w' ∧ w.heap.size < w'.heap.size := by
  obtain ⟨l, hl⟩ : ∃ l, l = xs.length := ⟨_, rfl⟩
  have hother : xs ≠ [] → ∀ b off, ad = some ⟨b, off, none⟩ → b < w.heap.size := by
    intro hne b off e
    rcases h.rd with h1 | ⟨b', off', e', hb', _⟩
    · exact absurd (by simpa using h1) hne
    · rw [e] at e'; cases e'; exact hb'
  rw [← hl]
  have HL := Lib.hid hl; have HI := Lib.hid h; have HO := Lib.hid hother; clear hl h hother
  go_enter Try.func37, Try.ntmps37
  go_wp2
  go_ret
  refine ⟨rfl, ⟨ad, cap, xs, 0, 0, ⟨by simp, ?_, ?_, ?_, ?_, HI.out.below (below1 _ _), HO.out⟩, Nat.le_refl _⟩, below1 _ _, by simp⟩
  · rw [← HL.out]; go_simp
  · go_simp
  · go_simp
  · intro o; go_simp
end Go.Proofs.Ytnhikdjljjemlaa
/- What the reference draws from a source of choices: numbers. No condition. -/
namespace Go.Proofs.Ytnhikdjljjemlaa
open Go Go.RowKit
set_option linter.unusedVariables false
set_option linter.unusedSimpArgs false
def plainQ (d j : Nat) : Nat := fop .quo .f32 (floatOfInt .f32 ((j : Int) - 64)) d
def isPl (x : Nat) : Prop := ∃ j, j < 129 ∧ (x = plainQ 1088421888 j ∨ x = plainQ 1098907648 j)
theorem plain_some : ∀ j : Nat, j < 129 → floatBits .quo .f32 (floatOfInt .f32 ((j : Int) - 64)) 1088421888 = some (plainQ 1088421888 j) ∧ floatBits .quo .f32 (floatOfInt .f32 ((j : Int) - 64)) 1098907648 = some (plainQ 1098907648 j) := by decide +kernel
theorem isPl_lt {x : Nat} (h : isPl x) : x < 4294967296 := by
  obtain ⟨j, hj, h⟩ := h
  obtain ⟨h1, h2⟩ := plain_some j hj
  rcases h with rfl | rfl
  · have := floatBits_wf h1; simpa [Lit.wf] using this
  · have := floatBits_wf h2; simpa [Lit.wf] using this
theorem draw_plain (w : World) (g n : Nat) (h : Src w g n) (hn : n ≤ 800000000) :
    Calls Try.prog 49 #[.pointer (some ⟨g, 0, none⟩)] w fun e w' => ∃ x : Nat, e = .returned (.float .f32 x) ∧ Hid (isPl x) ∧ Src w' g (n + 4) ∧ Touch g (g + 1) w w' := by
  have hk := fun W m hW hm => src_pick W g m hW hm 129 (by decide) (by decide)
  have ho := fun W m hW hm => src_one W g m hW hm 4 (by decide) (by decide)
  have HK := Lib.hid hk; have HO := Lib.hid ho; have HS := Lib.hid h; clear hk ho h
  go_enter Try.func49, Try.ntmps49
  go_wp2_with fail
  refine (HK.out _ n HS.out (by omega)).mono ?_
  rintro e w1 ⟨j, rfl, hj, hs1, ht1⟩
  have hj := Int.ofNat_lt.1 hj
  have HS1 := Lib.hid hs1; have HT1 := Lib.hid ht1; clear hs1 ht1
  obtain ⟨h7, h16⟩ := plain_some j hj
  have q1 := fun w => fbits_some h7 w
  have q2 := fdr_some h7
  have q3 := fun w => fbits_some h16 w
  have q4 := fdr_some h16
  have hz := World.drewN_none
  clear h7 h16
  go_wp2_with fail
  refine (HO.out _ (n + 2) HS1.out (by omega)).mono ?_
  rintro e w2 ⟨b, rfl, hs2, ht2⟩
  have HS2 := Lib.hid hs2; have HT2 := Lib.hid ht2; clear hs2 ht2
  cases b
  · go_wp2
    go_ret
    exact ⟨_, rfl, Lib.hid ⟨j, hj, .inr rfl⟩, HS2.out, HT1.out.trans HT2.out⟩
  · go_wp2
    go_ret
    exact ⟨_, rfl, Lib.hid ⟨j, hj, .inl rfl⟩, HS2.out, HT1.out.trans HT2.out⟩
theorem strange_lt : ∀ i, i < 10 → ∃ m : Nat, ([0, 2147483648, 2139095040, 4286578688, 2143289344, 1, 2139095039, 8388608, 8388607, 2147483649] : List Int).getD i 0 = m ∧ m < 4294967296 := by
  intro i hi
  match i, hi with
  | 0, _ => exact ⟨0, rfl, by decide⟩
  | 1, _ => exact ⟨2147483648, rfl, by decide⟩
  | 2, _ => exact ⟨2139095040, rfl, by decide⟩
  | 3, _ => exact ⟨4286578688, rfl, by decide⟩
  | 4, _ => exact ⟨2143289344, rfl, by decide⟩
  | 5, _ => exact ⟨1, rfl, by decide⟩
  | 6, _ => exact ⟨2139095039, rfl, by decide⟩
  | 7, _ => exact ⟨8388608, rfl, by decide⟩
  | 8, _ => exact ⟨8388607, rfl, by decide⟩
  | 9, _ => exact ⟨2147483649, rfl, by decide⟩
theorem scales_lt : ∀ i, i < 4 → ∃ m : Nat, ([8388608, 2130706432, 1610612736, 536870912] : List Int).getD i 0 = m ∧ m < 4294967296 := by
  intro i hi
  match i, hi with
  | 0, _ => exact ⟨8388608, rfl, by decide⟩
  | 1, _ => exact ⟨2130706432, rfl, by decide⟩
  | 2, _ => exact ⟨1610612736, rfl, by decide⟩
  | 3, _ => exact ⟨536870912, rfl, by decide⟩
theorem arr_cell (w : World) (e : TypeId) (vs : List Int) (i : Nat) (hi : i < vs.length) : (w.alloc (.cells (vs.map (Value.int .i64)).toArray e)).cell? ⟨w.heap.size, i, none⟩ = some (.int .i64 (vs.getD i 0)) := by
  rw [World.cell?_alloc_at _ _ _ _ rfl]
  simp [List.getD_eq_getElem?_getD, List.getElem?_eq_getElem hi]
theorem draw_float (w : World) (g n : Nat) (h : Src w g n) (hn : n ≤ 700000000) :
    Calls Try.prog 48 #[.pointer (some ⟨g, 0, none⟩)] w fun e w' => ∃ x : Nat, e = .returned (.float .f32 x) ∧ x < 4294967296 ∧ Src w' g (n + 20) ∧ Touch g (g + 1) w w' := by
  have hk := fun W m hW hm N h1 h2 => src_pick W g m hW hm N h1 h2
  have ho := fun W m hW hm => src_one W g m hW hm 12 (by decide) (by decide)
  have hp := fun W m hW hm => draw_plain W g m hW hm
  have hgl : g < w.heap.size := by obtain ⟨_, _, _, _, _, h1, _⟩ := h; exact h1.lt
  have HK := Lib.hid hk; have HO := Lib.hid ho; have HP := Lib.hid hp; have HS := Lib.hid h; clear hk ho hp h
  go_enter Try.func48, Try.ntmps48
  go_wp2_with fail
  refine (HO.out _ n HS.out (by omega)).mono ?_
  rintro e w1 ⟨b, rfl, hs1, ht1⟩
  have z1 := ht1.size
  have HS1 := Lib.hid hs1; have HT1 := Lib.hid ht1; clear hs1 ht1
  cases b
  · go_wp2_with fail
    refine (HP.out _ (n + 2) HS1.out (by omega)).mono ?_
    rintro e w2 ⟨x, rfl, hx, hs2, ht2⟩
    have HS2 := Lib.hid hs2; have HT2 := Lib.hid ht2; clear hs2 ht2
    go_wp2
    go_ret
    exact ⟨x, rfl, isPl_lt hx.out, HS2.out.mono (by omega), HT1.out.trans HT2.out⟩
  go_wp2_with fail
  refine (HK.out _ (n + 2) HS1.out (by omega) 4 (by decide) (by decide)).mono ?_
  rintro e w2 ⟨c, rfl, hc, hs2, ht2⟩
  have hc := Int.ofNat_lt.1 hc
  have z2 := ht2.size
  have HS2 := Lib.hid hs2; have HT2 := Lib.hid (HT1.out.trans ht2); clear hs2 ht2
  by_cases h0 : c = 0
  · subst h0
    go_wp2_with fail
    refine (src_among _ g (n + 4) ((HS2.out.below (below1 _ _)).mono (by omega)) (by omega) w2.heap.size 10 10 [0, 2147483648, 2139095040, 4286578688, 2143289344, 1, 2139095039, 8388608, 8388607, 2147483649] (by omega) (by simp) ?_ (by decide) (by decide)).mono ?_
    · intro i hi
      exact arr_cell _ _ [0, 2147483648, 2139095040, 4286578688, 2143289344, 1, 2139095039, 8388608, 8388607, 2147483649] i hi
    rintro e w3 ⟨i, hi, rfl, hs3, ht3⟩
    obtain ⟨m, hm, hm2⟩ := strange_lt i hi
    rw [hm]
    have HS3 := Lib.hid hs3; have HT3 := Lib.hid ht3; clear hs3 ht3
    go_wp2_with fail
    refine (spec_l01From m hm2 _).mono ?_
    rintro e w4 ⟨rfl, rfl⟩
    go_wp2
    go_ret
    exact ⟨m, rfl, hm2, HS3.out.mono (by omega), (HT2.out.trans (Touch.of_below (below1 _ _))).trans HT3.out⟩
  by_cases h1 : c = 1
  · subst h1
    go_wp2_with fail
    refine (HK.out _ (n + 4) HS2.out (by omega) 65536 (by decide) (by decide)).mono ?_
    rintro e w3 ⟨a, rfl, ha, hs3, ht3⟩
    have HS3 := Lib.hid hs3; have HT3 := Lib.hid (HT2.out.trans ht3); clear hs3 ht3
    go_wp2_with fail
    refine (HK.out _ (n + 6) HS3.out (by omega) 65536 (by decide) (by decide)).mono ?_
    rintro e w4 ⟨d, rfl, hd, hs4, ht4⟩
    have HS4 := Lib.hid hs4; have HT4 := Lib.hid (HT3.out.trans ht4); clear hs4 ht4
    go_wp2_with fail
    refine (spec_l01From (a * 65536 + d) (by omega) _).mono ?_
    rintro e w5 ⟨rfl, rfl⟩
    go_wp2
    go_ret
    exact ⟨_, rfl, by omega, HS4.out.mono (by omega), HT4.out⟩
  by_cases h2 : c = 2
  · subst h2
    go_wp2_with fail
    refine (HK.out _ (n + 4) HS2.out (by omega) 65536 (by decide) (by decide)).mono ?_
    rintro e w3 ⟨a, rfl, ha, hs3, ht3⟩
    have HS3 := Lib.hid hs3; have HT3 := Lib.hid (HT2.out.trans ht3); clear hs3 ht3
    go_wp2_with fail
    refine (spec_l01From (a * 65536) (by omega) _).mono ?_
    rintro e w5 ⟨rfl, rfl⟩
    go_wp2
    go_ret
    exact ⟨_, rfl, by omega, HS3.out.mono (by omega), HT3.out⟩
  · have n0 : ((c : Int) == 0) = false := by simp; omega
    have n1 : ((c : Int) == 1) = false := by simp; omega
    have n2 : ((c : Int) == 2) = false := by simp; omega
    clear h0 h1 h2
    go_wp2_with fail
    refine (HP.out _ (n + 4) HS2.out (by omega)).mono ?_
    rintro e w3 ⟨x, rfl, hx, hs3, ht3⟩
    have z3 := ht3.size
    have HS3 := Lib.hid hs3; have HT3 := Lib.hid (HT2.out.trans ht3); clear hs3 ht3
    go_wp2_with fail
    refine (src_among _ g (n + 8) ((HS3.out.below (below1 _ _)).mono (by omega)) (by omega) w3.heap.size 4 4 [8388608, 2130706432, 1610612736, 536870912] (by omega) (by simp) ?_ (by decide) (by decide)).mono ?_
    · intro i hi
      exact arr_cell _ _ [8388608, 2130706432, 1610612736, 536870912] i hi
    rintro e w4 ⟨i, hi, rfl, hs4, ht4⟩
    obtain ⟨m, hm, hm2⟩ := scales_lt i hi
    rw [hm]
    have HS4 := Lib.hid hs4; have HT4 := Lib.hid ht4; clear hs4 ht4
    go_wp2_with fail
    refine (spec_l01From m hm2 _).mono ?_
    rintro e w5 ⟨rfl, rfl⟩
    go_wp2
    go_ret
    exact ⟨_, rfl, fbits_lt _ .f32 _ _ _, (HS4.out.below (below_drewN (Below.refl _ _) _)).mono (by omega), ((HT3.out.trans (Touch.of_below (below1 _ _))).trans HT4.out).trans (Touch.of_below (below_drewN (Below.refl _ _) _))⟩
end Go.Proofs.Ytnhikdjljjemlaa
/- What the reference draws from a source of choices: lists. No condition. -/
namespace Go.Proofs.Ytnhikdjljjemlaa
open Go Go.RowKit
set_option linter.unusedVariables false
set_option linter.unusedSimpArgs false
theorem touch_below' {lo hi : Nat} {w W w' : World} (ht : Touch lo hi w W) (hb : Below w.heap.size W w') : Touch lo hi w w' :=
  ⟨hb.os.trans ht.os, hb.tape.trans ht.tape, hb.output.trans ht.output, Nat.le_trans ht.size hb.size, fun k hk hd => (hb.block k hk).trans (ht.block k hk hd)⟩
theorem src_lt {w : World} {g n : Nat} (h : Src w g n) : g < w.heap.size := by obtain ⟨_, _, _, _, _, h1, _⟩ := h; exact h1.lt
theorem src_belowB {B : Nat} {w w' : World} {g n : Nat} (h : Src w g n) (hb : Below B w w') (hg : g < B) : Src w' g n := h.kept hb.size fun k hk => hb.block k (Nat.lt_of_le_of_lt hk hg)
theorem owns_touch {w w' : World} {lo2 hi2 e size base n : Nat} {v : Value} {cs : List Value} (h : w.ownsRow base e size v n cs) (ht : Touch lo2 hi2 w w') (hd : hi2 ≤ base) : w'.ownsRow base e size v n cs := ((Row.mk' h).touch ht (.inr hd)).own
theorem touch_from {w w1 w' : World} {g : Nat} (hb : Below w.heap.size w w1) (hg : w.heap.size ≤ g) (ht : Touch g (g + 1) w1 w') : Below w.heap.size w w' := touch_below hb ht hg
set_option maxRecDepth 100000 in
set_option maxHeartbeats 2000000 in
theorem draw_floats (w : World) (g n : Nat) (h : Src w g n) (hn : n ≤ 600000000) (N : Nat) (hN : N ≤ 100000) :
    Calls Try.prog 39 #[.pointer (some ⟨g, 0, none⟩), .int .i64 N] w fun e w' => ∃ (ad : Option Addr) (cap : Nat) (ys : List Nat), e = .returned (.slice ad N cap) ∧ RepF w' w.heap.size w'.heap.size ad N cap ys ∧ Src w' g (n + 2 + 20 * N) ∧ Touch g (g + 1) w w' := by
  obtain ⟨i0, hi, hz0, hz1, hz2⟩ := info_parts info_f32
  have ho := fun W m hW hm => src_one W g m hW hm 4 (by decide) (by decide)
  have hp := fun W m hW hm => draw_plain W g m hW hm
  have hq := fun W m hW hm => draw_float W g m hW hm
  have hgl := src_lt h
  have HO := Lib.hid ho; have HP := Lib.hid hp; have HQ := Lib.hid hq; have HS := Lib.hid h; clear ho hp hq h
  go_enter Try.func39, Try.ntmps39
  go_wp2_with fail
  refine (HO.out _ n ((HS.out.below (below1 _ _)).mono (Nat.le_refl _)) (by omega)).mono ?_
  rintro e w1 ⟨b, rfl, hs1, ht1⟩
  have z1 := ht1.size
  have ho1 : w1.ownsRow w.heap.size 24 1 (.slice (some ⟨w.heap.size, 0, none⟩) 0 0) 0 [] := owns_touch (World.ownsRow_made _ _ _ (Nat.le_refl _) (Nat.zero_le _) rfl) ht1 (by omega)
  have hT1 : Touch g (g + 1) w w1 := (Touch.of_below (below1 _ _)).trans ht1
  clear ht1
  go_wp2
  go_loopw [5, 1] (fun v i wr => ∃ k : Nat, i = .int .i64 ((N : Int) - k) ∧ k ≤ N ∧ ∃ ys : List Nat, wr.ownsRow w.heap.size 24 1 v k (ys.map (Value.float .f32)) ∧ (∀ y ∈ ys, (fun y => y < 4294967296) y) ∧ Src wr g (n + 2 + 20 * k) ∧ Touch g (g + 1) w wr) (fun _ i _ => (intOf i).toNat)
  case atStart => exact ⟨0, by simp, Nat.zero_le _, [], ho1, (fun y hy => nomatch hy), hs1.mono (by omega), hT1⟩
  case round =>
    clear ho1 hs1 hT1
    obtain ⟨k, rfl, hk, ys, hown, hys, hs, ht⟩ := hrel
    have hwz := ht.size
    have HLT := Lib.hid hys; have HWN := Lib.hid hown; have HS1 := Lib.hid hs; have HT1 := Lib.hid ht; clear hys hown hs ht
    by_cases hlt : k < N
    · have hp : 0 < (N : Int) - k := by omega
      cases b
      · go_wp2_with fail
        refine (HP.out _ (n + 2 + 20 * k) HS1.out (by omega)).mono ?_
        rintro e w2 ⟨x, rfl, hx, hs2, ht2⟩
        have hx := isPl_lt hx.out
        have hwz2 := ht2.size
        have hown2 := owns_touch HWN.out ht2 (by omega)
        have HT2 := Lib.hid (HT1.out.trans ht2); have HS2 := Lib.hid hs2; have HWN := Lib.hid hown2
        clear ht2 hs2 hown2
        go_wp2_with (at_builtin; refine wp_app rfl _ _ 29 rfl w.heap.size i0 (.float .f32 0) 1 4 Try.underlying29 hi hz0 hz1 hz2 rfl (by decide) rfl (one_cell _ rfl) _ _ _ rfl HWN.out rfl ?c3 ?c4 ?c5 ?_)
        case c3 => unfold maxLen; omega
        case c4 => omega
        case c5 => omega
        intro v' w9 hown1 hb9 hbs1
        have hs9 := src_belowB HS2.out hb9 (by omega)
        have ht9 := touch_below' HT2.out (hb9.mono (by omega))
        have HS9 := Lib.hid hs9; have HT9 := Lib.hid ht9
        clear hs9 ht9 hb9
        go_wp2
        go_roundw
        case rel =>
          refine ⟨k + 1, by congr 1; omega, hlt, ys ++ [x], by simpa using hown1, ?_, HS9.out.mono (by omega), HT9.out⟩
          intro z hz
          rcases List.mem_append.1 hz with hz | hz
          · exact HLT.out z hz
          · simp at hz; rw [hz]; exact hx
        case measure => simp [intOf]; omega
      · go_wp2_with fail
        refine (HQ.out _ (n + 2 + 20 * k) HS1.out (by omega)).mono ?_
        rintro e w2 ⟨x, rfl, hx, hs2, ht2⟩
        have hwz2 := ht2.size
        have hown2 := owns_touch HWN.out ht2 (by omega)
        have HT2 := Lib.hid (HT1.out.trans ht2); have HS2 := Lib.hid hs2; have HWN := Lib.hid hown2
        clear ht2 hs2 hown2
        go_wp2_with (at_builtin; refine wp_app rfl _ _ 29 rfl w.heap.size i0 (.float .f32 0) 1 4 Try.underlying29 hi hz0 hz1 hz2 rfl (by decide) rfl (one_cell _ rfl) _ _ _ rfl HWN.out rfl ?c3 ?c4 ?c5 ?_)
        case c3 => unfold maxLen; omega
        case c4 => omega
        case c5 => omega
        intro v' w9 hown1 hb9 hbs1
        have hs9 := src_belowB HS2.out hb9 (by omega)
        have ht9 := touch_below' HT2.out (hb9.mono (by omega))
        have HS9 := Lib.hid hs9; have HT9 := Lib.hid ht9
        clear hs9 ht9 hb9
        go_wp2
        go_roundw
        case rel =>
          refine ⟨k + 1, by congr 1; omega, hlt, ys ++ [x], by simpa using hown1, ?_, HS9.out.mono (by omega), HT9.out⟩
          intro z hz
          rcases List.mem_append.1 hz with hz | hz
          · exact HLT.out z hz
          · simp at hz; rw [hz]; exact hx
        case measure => simp [intOf]; omega
    · have hkn : k = N := by omega
      subst hkn
      have hp : (k : Int) - k ≤ 0 := by omega
      go_wp2
      go_ret
      obtain ⟨ad, cap, rfl, hr⟩ := RepF.of_owns HWN.out HLT.out
      exact ⟨ad, cap, rfl, ⟨ys, hr⟩, HS1.out.mono (by omega), HT1.out⟩
set_option maxRecDepth 100000 in
set_option maxHeartbeats 2000000 in
theorem b10_small (w : World) (a0 : Option Addr) (c0 : Nat) (l0 : List Int) (h : Ints .u8 w a0 c0 l0) (N : Nat) (hN : N ≤ 100000) :
    Calls Try.prog 24 #[.slice a0 l0.length c0, .int .i64 N] w fun e w' => ∃ (ad : Option Addr) (cap : Nat) (ys : List Nat), e = .returned (.slice ad N cap) ∧ RepF w' w.heap.size w'.heap.size ad N cap ys ∧ Hid (∀ y ∈ ys, isPl y) ∧ Below w.heap.size w w' := by
  obtain ⟨i0, hi, hz0, hz1, hz2⟩ := info_parts info_f32
  have hp := fun W m hW hm => draw_plain W w.heap.size m hW hm
  have hf := src_from w a0 c0 l0 h
  have HP := Lib.hid hp; have HF := Lib.hid hf; clear hp hf h
  go_enter Try.func24, Try.ntmps24
  go_wp2_with fail
  refine HF.out.mono ?_
  rintro e w1 ⟨rfl, hs, hb1, hz⟩
  obtain ⟨g, hg⟩ : ∃ g, g = w.heap.size := ⟨_, rfl⟩
  rw [← hg] at hs hz HP ⊢
  obtain ⟨n, hn⟩ : ∃ n, n = 0 := ⟨_, rfl⟩
  rw [← hn] at hs
  have hn0 : n ≤ 0 := by omega
  have hgl : w.heap.size ≤ g := by omega
  have HG := Lib.hid hg; have HB1 := Lib.hid hb1; clear hn hg hb1
  have hS1 := src_belowB hs (below1 w1 (.cells #[] 24)) hz
  have HS1 := Lib.hid hS1; clear hS1
  go_wp2
  go_loopw [6, 1] (fun v i wr => ∃ k : Nat, i = .int .i64 ((N : Int) - k) ∧ k ≤ N ∧ ∃ ys : List Nat, wr.ownsRow w1.heap.size 24 1 v k (ys.map (Value.float .f32)) ∧ (∀ y ∈ ys, isPl y) ∧ Src wr g (n + 0 + 4 * k) ∧ Touch g (g + 1) w1 wr) (fun _ i _ => (intOf i).toNat)
  case atStart => exact ⟨0, by simp, Nat.zero_le _, [], World.ownsRow_made _ _ _ (Nat.le_refl _) (Nat.zero_le _) rfl, (fun y hy => nomatch hy), (hs.below (below1 _ _)).mono (by omega), Touch.of_below (below1 _ _)⟩
  case round =>
    clear hs HS1
    obtain ⟨k, rfl, hk, ys, hown, hys, hs, ht⟩ := hrel
    have hwz := ht.size
    have HLT := Lib.hid hys; have HWN := Lib.hid hown; have HS1 := Lib.hid hs; have HT1 := Lib.hid ht; clear hys hown hs ht
    by_cases hlt : k < N
    · have hp : 0 < (N : Int) - k := by omega
      go_wp2_with fail
      refine (HP.out _ (n + 0 + 4 * k) HS1.out (by omega)).mono ?_
      rintro e w2 ⟨x, rfl, hx, hs2, ht2⟩
      have hx := hx.out
      have HXX := Lib.hid hx; clear hx
      have hwz2 := ht2.size
      have hown2 := owns_touch HWN.out ht2 (by omega)
      have HT2 := Lib.hid (HT1.out.trans ht2); have HS2 := Lib.hid hs2; have HWN := Lib.hid hown2
      clear ht2 hs2 hown2
      go_wp2_with (at_builtin; refine wp_app rfl _ _ 29 rfl w1.heap.size i0 (.float .f32 0) 1 4 Try.underlying29 hi hz0 hz1 hz2 rfl (by decide) rfl (one_cell _ rfl) _ _ _ rfl HWN.out rfl ?c3 ?c4 ?c5 ?_)
      case c3 => unfold maxLen; omega
      case c4 => omega
      case c5 => omega
      intro v' w9 hown1 hb9 hbs1
      have hs9 := src_belowB HS2.out hb9 (by omega)
      have ht9 := touch_below' HT2.out (hb9.mono (by omega))
      have HS9 := Lib.hid hs9; have HT9 := Lib.hid ht9
      clear hs9 ht9 hb9
      go_wp2
      go_roundw
      case rel =>
        refine ⟨k + 1, by congr 1; omega, hlt, ys ++ [x], by simpa using hown1, ?_, HS9.out.mono (by omega), HT9.out⟩
        intro z hz
        rcases List.mem_append.1 hz with hz | hz
        · exact HLT.out z hz
        · simp at hz; rw [hz]; exact HXX.out
      case measure => simp [intOf]; omega
    · have hkn : k = N := by omega
      subst hkn
      have hp : (k : Int) - k ≤ 0 := by omega
      go_wp2
      go_ret
      obtain ⟨ad, cap, rfl, hr⟩ := RepF.of_owns HWN.out (fun x hx => isPl_lt (HLT.out x hx))
      refine ⟨ad, cap, ys, rfl, ?_, HLT, ?_⟩
      · exact hr.bounds (by omega) (Nat.le_refl _)
      · exact touch_from HB1.out hgl HT1.out
theorem b10_plain (w : World) (a0 : Option Addr) (c0 : Nat) (l0 : List Int) (h : Ints .u8 w a0 c0 l0) :
    Calls Try.prog 17 #[.slice a0 l0.length c0] w fun e w' => ∃ x : Nat, e = .returned (.float .f32 x) ∧ Hid (isPl x) ∧ Below w.heap.size w w' := by
  have hp := fun W m hW hm => draw_plain W w.heap.size m hW hm
  have hf := src_from w a0 c0 l0 h
  have HP := Lib.hid hp; have HF := Lib.hid hf; clear hp hf h
  go_enter Try.func17, Try.ntmps17
  go_wp2_with fail
  refine HF.out.mono ?_
  rintro e w1 ⟨rfl, hs, hb1, hz⟩
  have HS := Lib.hid hs; have HB := Lib.hid hb1; clear hs hb1
  go_wp2_with fail
  refine (HP.out _ 0 HS.out (by decide)).mono ?_
  rintro e w2 ⟨x, rfl, hx, hs2, ht2⟩
  have HT := Lib.hid ht2; clear hs2 ht2
  go_wp2
  go_ret
  exact ⟨x, rfl, hx, touch_from HB.out (Nat.le_refl _) HT.out⟩
theorem b10_number (w : World) (a0 : Option Addr) (c0 : Nat) (l0 : List Int) (h : Ints .u8 w a0 c0 l0) :
    Calls Try.prog 16 #[.slice a0 l0.length c0] w fun e w' => ∃ x : Nat, e = .returned (.float .f32 x) ∧ x < 4294967296 ∧ Below w.heap.size w w' := by
  have hp := fun W m hW hm => draw_float W w.heap.size m hW hm
  have hk := fun W m hW hm => src_pick W w.heap.size m hW hm 65536 (by decide) (by decide)
  have ho := fun W m hW hm => src_one W w.heap.size m hW hm 2 (by decide) (by decide)
  have hf := src_from w a0 c0 l0 h
  have HP := Lib.hid hp; have HF := Lib.hid hf; have HK := Lib.hid hk; have HO := Lib.hid ho; clear hp hf h hk ho
  go_enter Try.func16, Try.ntmps16
  go_wp2_with fail
  refine HF.out.mono ?_
  rintro e w1 ⟨rfl, hs, hb1, hz⟩
  have HS := Lib.hid hs; have HB := Lib.hid hb1; clear hs hb1
  go_wp2_with fail
  refine (HO.out _ 0 HS.out (by decide)).mono ?_
  rintro e w2 ⟨b, rfl, hs2, ht2⟩
  have HS2 := Lib.hid hs2; have HT2 := Lib.hid ht2; clear hs2 ht2
  cases b
  · go_wp2_with fail
    refine (HP.out _ _ HS2.out (by decide)).mono ?_
    rintro e w3 ⟨x, rfl, hx, hs3, ht3⟩
    have HT := Lib.hid ht3; clear hs3 ht3
    go_wp2
    go_ret
    exact ⟨x, rfl, hx, touch_from HB.out (Nat.le_refl _) (HT2.out.trans HT.out)⟩
  · go_wp2_with fail
    refine (HK.out _ _ HS2.out (by decide)).mono ?_
    rintro e w3 ⟨a, rfl, ha, hs3, ht3⟩
    have HS3 := Lib.hid hs3; have HT3 := Lib.hid ht3; clear hs3 ht3
    go_wp2_with fail
    refine (HK.out _ _ HS3.out (by decide)).mono ?_
    rintro e w4 ⟨d, rfl, hd, hs4, ht4⟩
    have HT4 := Lib.hid ht4; clear hs4 ht4
    go_wp2_with fail
    refine (spec_l01From (a * 65536 + d) (by omega) _).mono ?_
    rintro e w5 ⟨rfl, rfl⟩
    go_wp2
    go_ret
    exact ⟨_, rfl, by omega, touch_from HB.out (Nat.le_refl _) ((HT2.out.trans HT3.out).trans HT4.out)⟩
theorem b10_numbers (w : World) (a0 : Option Addr) (c0 : Nat) (l0 : List Int) (h : Ints .u8 w a0 c0 l0) (N : Nat) (hN : N ≤ 100000) :
    Calls Try.prog 10 #[.slice a0 l0.length c0, .int .i64 N] w fun e w' => ∃ (ad : Option Addr) (cap : Nat) (ys : List Nat), e = .returned (.slice ad N cap) ∧ RepF w' w.heap.size w'.heap.size ad N cap ys ∧ Below w.heap.size w w' := by
  have hp := fun W m hW hm => draw_floats W w.heap.size m hW hm N hN
  have hf := src_from w a0 c0 l0 h
  have HP := Lib.hid hp; have HF := Lib.hid hf; clear hp hf h
  go_enter Try.func10, Try.ntmps10
  go_wp2_with fail
  refine HF.out.mono ?_
  rintro e w1 ⟨rfl, hs, hb1, hz⟩
  have HS := Lib.hid hs; have HB := Lib.hid hb1; clear hs hb1
  go_wp2_with fail
  refine (HP.out _ 0 HS.out (by decide)).mono ?_
  rintro e w2 ⟨ad, cap, ys, rfl, hr, hs2, ht2⟩
  have HT := Lib.hid ht2; have HR := Lib.hid hr; clear hs2 ht2 hr
  go_wp2
  go_ret
  exact ⟨ad, cap, ys, rfl, HR.out.bounds (by omega) (Nat.le_refl _), touch_from HB.out (Nat.le_refl _) HT.out⟩
end Go.Proofs.Ytnhikdjljjemlaa
/- What the laws choose by the bytes that they get. No condition. -/
namespace Go.Proofs.Ytnhikdjljjemlaa
open Go Go.RowKit
set_option linter.unusedVariables false
theorem b10Long_no (a1 a2 : Option Addr) (n1 n2 c1 c2 : Nat) (w : World) (h1 : n1 ≤ 1048576) (h2 : n2 ≤ 1048576) :
    Calls Try.prog 7 #[.slice a1 n1 c1, .slice a2 n2 c2] w fun e w' => e = .returned (.bool false) ∧ w = w' := by
  go_enter Try.func7, Try.ntmps7
  go_wp2
  go_ret
  refine ⟨?_, rfl⟩
  simp
  omega
theorem b10Long_yes (a1 a2 : Option Addr) (n1 n2 c1 c2 : Nat) (w : World) (h : ¬ (n1 ≤ 1048576 ∧ n2 ≤ 1048576)) :
    Calls Try.prog 7 #[.slice a1 n1 c1, .slice a2 n2 c2] w fun e w' => e = .returned (.bool true) ∧ w = w' := by
  by_cases h1 : 1048576 < n1
  · clear h
    go_enter Try.func7, Try.ntmps7
    go_wp2
    go_ret
    exact ⟨rfl, rfl⟩
  · have h2 : 1048576 < n2 := by omega
    clear h
    go_enter Try.func7, Try.ntmps7
    go_wp2
    go_ret
    refine ⟨?_, rfl⟩
    simp
    omega
theorem b10At_any (w : World) (ad : Option Addr) (cap : Nat) (xs : List Int) (h : Ints .u8 w ad cap xs) (i n : Int) (h0 : 0 ≤ i) (h1 : i ≤ 1000000) (hn : 1 ≤ n) (hn2 : n ≤ 1000000) :
    Calls Try.prog 9 #[.slice ad xs.length cap, .int .i64 i, .int .i64 n] w fun e w' => ∃ r : Nat, e = .returned (.int .i64 r) ∧ (r : Int) < n ∧ w = w' := by
  have hm := Nat.le_trans h.len h.cap
  unfold maxLen at hm
  obtain ⟨i, rfl⟩ := Int.eq_ofNat_of_zero_le h0
  by_cases hn1 : n ≤ 1
  · go_enter Try.func9, Try.ntmps9
    go_wp2
    go_ret
    exact ⟨0, rfl, by omega, rfl⟩
  · by_cases hi : i < xs.length
    · obtain ⟨b, off, rfl, _, hc⟩ := h.spot (i := i) hi
      have hcell := hc i hi
      have hw := h.wf (xs.getD i 0) (by rw [List.getD_eq_getElem?_getD, List.getElem?_eq_getElem hi]; exact List.getElem_mem hi)
      obtain ⟨x, hx⟩ : ∃ x, x = xs.getD i 0 := ⟨_, rfl⟩
      rw [← hx] at hcell hw
      have hb := bounds_u8 hw
      obtain ⟨hb0, hb1⟩ := hb
      obtain ⟨l, hl⟩ : ∃ l, l = xs.length := ⟨_, rfl⟩
      rw [← hl] at hi hm ⊢
      clear hx hw hc h hl
      go_enter Try.func9, Try.ntmps9
      go_wp2
      go_ret
      have g0 := Int.emod_nonneg x (show n ≠ 0 by omega)
      have g1 := Int.emod_lt_of_pos x (show 0 < n by omega)
      exact ⟨(x % n).toNat, by rw [Int.toNat_of_nonneg g0]; rfl, by omega, rfl⟩
    · clear h
      obtain ⟨l, hl⟩ : ∃ l, l = xs.length := ⟨_, rfl⟩
      rw [← hl] at hi hm ⊢
      clear hl
      go_enter Try.func9, Try.ntmps9
      go_wp2
      go_ret
      have g0 := Int.emod_nonneg ((i : Int) * 37 + 11) (show n ≠ 0 by omega)
      have g1 := Int.emod_lt_of_pos ((i : Int) * 37 + 11) (show 0 < n by omega)
      exact ⟨(((i : Int) * 37 + 11) % n).toNat, by rw [Int.toNat_of_nonneg g0]; rfl, by omega, rfl⟩
end Go.Proofs.Ytnhikdjljjemlaa
/- The law of narrowed numbers, walked. No condition. -/
namespace Go.Proofs.Ytnhikdjljjemlaa
open Go Go.RowKit Ieee
set_option linter.unusedVariables false
set_option linter.unusedSimpArgs false
theorem fin_of_finB {x : Nat} (hx : x < 4294967296) (h : finB x = true) : Fin single x := by
  obtain ⟨s, r, e, hr⟩ := word_of single (x := x) (by rw [s_sw]; omega)
  subst e
  exact ⟨s, r, rfl, fin_rung hr h⟩
theorem wide_word {x : Nat} (h : Fin single x) : ∀ w, cvbits .f32 x .f64 w = fcv .f32 x .f64 := by
  intro w
  have hn := Fin.not (k := .f32) h
  have e := cn_wide x w
  rw [cn_not hn] at e
  have hf := (wide_val h).1
  exact (eq_of_cn (by rw [e, cn_not (Fin.not (k := .f64) hf)]) (Fin.not (k := .f64) hf)).symm
set_option exponentiation.threshold 2000 in
theorem narrow_wide {x : Nat} (hx : x < 4294967296) (w w' : World) : cvWide .f64 (cvbits .f32 x .f64 w) .f32 = false ∧ cn .f32 (cvbits .f64 (cvbits .f32 x .f64 w) .f32 w') = cn .f32 x := by
  cases hn : isN .f32 x
  · cases hf : finB x
    · have hk := (isN_iff hx).1 hn
      have : x = 2139095040 ∨ x = 4286578688 := by
        have h1 := finB_iff hx
        rw [hf] at h1
        have h2 : ¬ (-2139095040 < kf x ∧ kf x < 2139095040) := fun h => by have := h1.2 h; cases this
        have h3 : kf x = 2139095040 ∨ kf x = -2139095040 := by omega
        unfold kf at h3
        split at h3 <;> omega
      rcases this with h | h
      · subst h
        have e : cvbits .f32 2139095040 .f64 w = 9218868437227405312 := by
          unfold cvbits
          rw [if_neg (by decide)]
          have : FloatKind.f32.decode 2139095040 = .infinity false := by decide +kernel
          rw [this]; show FloatKind.f64.encode (.infinity false) = _; decide +kernel
        rw [e, cv_inf]
        exact ⟨by decide +kernel, rfl⟩
      · subst h
        have e : cvbits .f32 4286578688 .f64 w = 18442240474082181120 := by
          unfold cvbits
          rw [if_neg (by decide)]
          have : FloatKind.f32.decode 4286578688 = .infinity true := by decide +kernel
          rw [this]; show FloatKind.f64.encode (.infinity true) = _; decide +kernel
        rw [e]
        have e2 : cvbits .f64 18442240474082181120 .f32 w' = 4286578688 := by
          unfold cvbits
          rw [if_neg (by decide)]
          have : FloatKind.f64.decode 18442240474082181120 = .infinity true := by decide +kernel
          rw [this]; show FloatKind.f32.encode (.infinity true) = _; decide +kernel
        rw [e2]
        exact ⟨by decide +kernel, rfl⟩
    · obtain ⟨s, r, e, hr⟩ := fin_of_finB hx hf
      subst e
      obtain ⟨q, h1, h2, h3⟩ := wide_fin s hr
      rw [h2]
      obtain ⟨h4, h5⟩ := narrow_fin s hr h1 h3 w'
      exact ⟨h5, by rw [h4]⟩
  · have h1 := isN_wide x w hn
    have h2 := wide_nan h1
    refine ⟨h2, ?_⟩
    rw [cn_cvbits w' h2, cn_nan h1, cn_nan hn]
    decide +kernel
theorem spec_l01Same (a b : Nat) (ha : a < 4294967296) (hb : b < 4294967296) (w : World) : Calls Try.prog 44 #[.float .f32 a, .float .f32 b] w fun e w' => e = .returned (.bool (decide (cn .f32 a = cn .f32 b))) ∧ w = w' := by
  have h1 := fun W => spec_l01Bits a ha W
  have h2 := fun W => spec_l01Bits b hb W
  obtain ⟨c, hc⟩ : ∃ c, c = cn .f32 a := ⟨_, rfl⟩
  obtain ⟨d, hd⟩ : ∃ c, c = cn .f32 b := ⟨_, rfl⟩
  rw [← hc] at h1 ⊢
  rw [← hd] at h2 ⊢
  have H1 := Lib.hid h1; have H2 := Lib.hid h2; clear h1 h2 hc hd
  go_enter Try.func44, Try.ntmps44
  go_wp2_with fail
  refine (H1.out _).mono ?_
  rintro e w1 ⟨rfl, rfl⟩
  go_wp2_with fail
  refine (H2.out _).mono ?_
  rintro e w1 ⟨rfl, rfl⟩
  go_wp2
  go_ret
  have e : ((c : Int) == (d : Int)) = decide (c = d) := by rw [Bool.eq_iff_iff]; simp; omega
  exact ⟨by rw [← e]; rfl, rfl⟩
theorem spec_SameNumber (a b : Nat) (ha : a < 4294967296) (hb : b < 4294967296) (w : World) : Calls Try.prog 14 #[.float .f32 a, .float .f32 b] w fun e w' => e = .returned (.bool (decide (cn .f32 a = cn .f32 b))) ∧ w = w' := by
  have h1 := fun W => spec_l01Same a b ha hb W
  have H1 := Lib.hid h1; clear h1
  go_enter Try.func14, Try.ntmps14
  go_wp2_with fail
  refine (H1.out _).mono ?_
  rintro e w1 ⟨rfl, rfl⟩
  go_wp2
  go_ret
  exact ⟨rfl, rfl⟩
theorem spec_BitsOf (x : Nat) (hx : x < 4294967296) (w : World) : Calls Try.prog 21 #[.float .f32 x] w fun e w' => e = .returned (.int .i64 (cn .f32 x : Nat)) ∧ w = w' := by
  have h := fun W => spec_l01Bits x hx W
  have H := Lib.hid h; clear h hx
  go_enter Try.func21, Try.ntmps21
  go_wp2_with fail
  refine (H.out _).mono ?_
  rintro e w1 ⟨rfl, rfl⟩
  go_wp2
  go_ret
  exact ⟨rfl, rfl⟩
theorem spec_IsFinite (x : Nat) (w : World) : Calls Try.prog 22 #[.float .f32 x] w fun e w' => e = .returned (.bool (finB x)) ∧ Dr w w' := by
  have h := fun W => spec_l01Finite x W
  have H := Lib.hid h; clear h
  go_enter Try.func22, Try.ntmps22
  go_wp2_with fail
  refine (H.out _).mono ?_
  rintro e w1 ⟨rfl, q, rfl⟩
  go_wp2
  go_ret
  exact ⟨rfl, _, rfl⟩
end Go.Proofs.Ytnhikdjljjemlaa
