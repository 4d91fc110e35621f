/- What codes, spreads and finite numbers are. No condition. -/
import Derived.Test.YtaocilimggpdjaaSlI
import Derived.Test.YtaocilimggpdjaaFl3
namespace Go.Proofs.Ytaocilimggpdjaa
open Go Go.RowKit Ieee
set_option linter.unusedVariables false
set_option linter.unusedSimpArgs false
/-- a finite number -/
def finB (x : Nat) : Bool := match single.read x with
  | .number .. => true
  | _ => false
theorem finB_not {x : Nat} (h : finB x = true) : isN .f32 x = false := by
  unfold finB at h
  unfold isN
  show (single.read x).isNaN = false
  cases hd : single.read x with
  | nan s t => rw [hd] at h; cases h
  | infinity s => rw [hd] at h; cases h
  | number s m p => rfl
theorem sub_self_fin {x : Nat} (h : finB x = true) : floatBits .sub .f32 x x = some 0 := by
  show ((single.read x).sum (single.read x).opposite).map single.write = some 0
  unfold finB at h
  cases hd : single.read x with
  | nan s t => rw [hd] at h; cases h
  | infinity s => rw [hd] at h; cases h
  | number s m p =>
    have hs : ∀ k, signed s m k + signed (!s) m k = 0 := by intro k; unfold signed; cases s <;> simp <;> omega
    simp only [Datum.sum, Datum.opposite, hs, Option.map_some]
    cases s <;> simp [Format.write, Format.nearest, Format.word]
theorem sub_self_not {x : Nat} (h : finB x = false) : floatBits .sub .f32 x x = none := by
  show ((single.read x).sum (single.read x).opposite).map single.write = none
  unfold finB at h
  cases hd : single.read x with
  | nan s t => rfl
  | infinity s => cases s <;> rfl
  | number s m p => rw [hd] at h; cases h
/-- 'x - x == 0' -/
theorem order_sub_self (x : Nat) (w : World) : (FloatKind.f32.format.order (fbits .sub .f32 x x w) 0 == some .eq) = finB x := by
  cases h : finB x
  · have hn : isN .f32 (fbits .sub .f32 x x w) = true := by
      unfold fbits
      rw [sub_self_not h]
      exact drawn_nan .f32 x x _
    rw [order_none (.inl hn)]; rfl
  · rw [fbits_some (sub_self_fin h)]
    have : FloatKind.f32.format.order 0 0 = some .eq := by decide +kernel
    rw [this]; rfl
def geF (x y : Nat) : Bool := FloatKind.f32.format.order x y == some .gt || FloatKind.f32.format.order x y == some .eq
def spreadOk (x : Nat) : Bool := finB x && geF x 0 && decide (x ≠ 2147483648)
def codesOk (xs : List Int) : Bool := decide (xs.length ≤ 256) && xs.all fun n => inB n (-127) 127
def fewFin (xs : List Nat) : Bool := decide (xs.length ≤ 256) && xs.all finB
theorem few_of {xs : List Nat} (h : fewFin xs = true) : xs.length ≤ 256 ∧ ∀ x ∈ xs, finB x = true := by
  simp only [fewFin, Bool.and_eq_true, decide_eq_true_eq, List.all_eq_true] at h; exact h

/-- the sign of a number made wider -/
theorem cv_number {k k2 : FloatKind} {b : Nat} {s : Bool} {m : Nat} {e : Int} (hd : k.decode b = .number s m e) (hne : k ≠ k2) (hi : cvWide k b k2 = false) (w : World) : cvbits k b k2 w = k2.format.nearest s m e := by
  unfold cvWide at hi
  rw [if_neg hne, hd] at hi
  simp only at hi
  unfold cvbits
  rw [if_neg hne, hd]
  simp only
  rw [hi]
  rfl
theorem fin_rung {neg : Bool} {r : Nat} (hr : r < single.signWeight) (hf : finB (single.word neg r) = true) : r < single.infRung := by
  rcases Nat.lt_trichotomy r single.infRung with h | h | h
  · exact h
  · subst h; unfold finB at hf; rw [read_inf single single_binade neg] at hf; cases hf
  · have hn : isN .f32 (single.word neg r) = true := nan_word single single_binade neg h hr
    rw [finB_not hf] at hn; cases hn
theorem word_sign (f : Format) (neg : Bool) {r : Nat} (h : r < f.signWeight) : decide (f.word neg r < f.signWeight) = !neg := by
  unfold Format.word
  cases neg
  · simpa using h
  · simp
theorem wide_sign {x : Nat} (hx : x < 4294967296) (hf : finB x = true) (w : World) : (decide (cvbits .f32 x .f64 w < 9223372036854775808) = decide (x < 2147483648)) := by
  have hsw : single.signWeight = 2147483648 := by decide +kernel
  have hdw : double.signWeight = 9223372036854775808 := by decide +kernel
  obtain ⟨neg, r, rfl, hr⟩ := word_of single (x := x) (by rw [hsw]; omega)
  obtain ⟨m, p, e1, _, _⟩ := read_fin single neg (fin_rung hr hf)
  rw [cv_number (k := .f32) (k2 := .f64) e1 (by decide) (wide_ok _) w]
  obtain ⟨q, hq, hle⟩ := nearest_word double neg m p
  rw [show FloatKind.f64.format.nearest neg m p = _ from hq, ← hdw, ← hsw, word_sign single neg hr, word_sign double neg (Nat.lt_of_le_of_lt hle double.infRung_lt)]
theorem cv64_lt (x : Nat) (w : World) : cvbits .f32 x .f64 w < 18446744073709551616 := by
  by_cases hN : ∃ s m e, FloatKind.f32.decode x = .number s m e
  · obtain ⟨s, m, e, hd⟩ := hN
    rw [cv_number (k := .f32) (k2 := .f64) hd (by decide) (wide_ok _) w]
    obtain ⟨q, hq, hle⟩ := nearest_word double s m e
    rw [show FloatKind.f64.format.nearest s m e = _ from hq]
    have hdw : double.signWeight = 9223372036854775808 := by decide +kernel
    have := double.infRung_lt
    unfold Format.word
    rw [hdw]
    rw [hdw] at this
    cases s
    · simp only [Bool.false_eq_true, if_false]; omega
    · simp only [if_true]; omega
  · unfold cvbits
    rw [if_neg (by decide)]
    cases hd : FloatKind.f32.decode x with
    | nan s t => exact drawn_lt .f64 0 0 _
    | infinity s => show FloatKind.f64.encode (.infinity s) < _; cases s <;> decide +kernel
    | number s m e => exact absurd ⟨s, m, e, hd⟩ hN
/-- a number that is not less than 0 has a sign only if it is -0 -/
theorem ge_zero_sign {x : Nat} (hx : x < 4294967296) (hg : geF x 0 = true) : decide (x < 2147483648) = decide (x ≠ 2147483648) := by
  obtain ⟨neg, r, rfl, hr⟩ := word_of single (x := x) (by have : single.signWeight = 2147483648 := by decide +kernel
                                                          omega)
  have hsw : single.signWeight = 2147483648 := by decide +kernel
  cases neg
  · have : single.word false r = r := rfl
    rw [this]; rw [hsw] at hr
    rw [decide_eq_true (by omega), decide_eq_true (by omega)]
  · have e : single.word true r = 2147483648 + r := by unfold Format.word; rw [hsw]; rfl
    have h0 : r = 0 := by
      rcases Nat.lt_trichotomy r single.infRung with h | h | h
      · have ho := order_fin single true false h (y := 0) (by decide +kernel)
        unfold geF at hg
        rw [show FloatKind.f32.format.order (single.word true r) 0 = _ from ho] at hg
        simp only [sval, if_true, Bool.false_eq_true, if_false, nval_zero] at hg
        rcases Nat.eq_zero_or_pos r with h1 | h1
        · exact h1
        · exfalso
          have hp : 0 < nval single r := by have := nval_lt (f := single) h1; rw [nval_zero] at this; exact this
          have hlt : -(nval single r : Int) < 0 := by omega
          rw [show compare (-(nval single r : Int)) ((0 : Nat) : Int) = .lt from by simp [compare, compareOfLessAndEq]; omega] at hg
          simp at hg
      · exfalso
        subst h
        unfold geF at hg
        have e1 := read_inf single single_binade true
        have e2 : single.read 0 = .number false 0 (-149) := by decide +kernel
        rw [show FloatKind.f32.format.order (single.word true single.infRung) 0 = (single.read (single.word true single.infRung)).order (single.read 0) from rfl, e1, e2] at hg
        simp [Datum.order] at hg
      · exfalso
        have hn : isN .f32 (single.word true r) = true := nan_word single single_binade true h hr
        unfold geF at hg
        rw [order_none (.inl hn)] at hg
        simp at hg
    rw [e, h0]
    rw [decide_eq_false (by omega), decide_eq_false (by omega)]
theorem impl_IsFinite (x : Nat) (w : World) : Calls Try.prog 46 #[.float .f32 x] w fun e w' => e = .returned (.bool (finB x)) ∧ Dr w w' := by
  have h := fun w => order_sub_self x w
  go_enter Try.func46, Try.ntmps46
  go_wp2
  go_ret
  exact ⟨rfl, _, rfl⟩
theorem spec_l01Finite (x : Nat) (w : World) : Calls Try.prog 110 #[.float .f32 x] w fun e w' => e = .returned (.bool (finB x)) ∧ Dr w w' := by
  have h := fun w => order_sub_self x w
  go_enter Try.func110, Try.ntmps110
  go_wp2
  go_ret
  exact ⟨rfl, _, rfl⟩
theorem run_f64bits (x : Nat) (w : World) : (callFunc 151 #[.float .f64 x]).run Try.prog w = .ok (.value (.int .u64 (x : Nat))) w := by
  rw [run_callFunc_extern (show Try.prog.funcs[151]? = some Try.f151 by kernel_rfl) (by kernel_rfl) (by kernel_rfl) (by kernel_rfl) (e := Extern.MathFloatBits.float64bits) (by kernel_rfl)]
  rfl
theorem run_f32bits (x : Nat) (w : World) : (callFunc 153 #[.float .f32 x]).run Try.prog w = .ok (.value (.int .u32 (x : Nat))) w := by
  rw [run_callFunc_extern (show Try.prog.funcs[153]? = some Try.f153 by kernel_rfl) (by kernel_rfl) (by kernel_rfl) (by kernel_rfl) (e := Extern.MathFloatBits.float32bits) (by kernel_rfl)]
  rfl
theorem math_Signbit (b : Nat) (hb : b < 18446744073709551616) (w : World) : Calls Try.prog 108 #[.float .f64 b] w fun e w' => e = .returned (.bool !(decide (b < 9223372036854775808))) ∧ w = w' := by
  have hd := run_f64bits
  by_cases hs : b < 9223372036854775808
  · rw [decide_eq_true hs]
    go_enter Try.func108, Try.ntmps108
    go_wp2
    go_ret
    exact ⟨by rw [decide_eq_false (show ¬ ((b : Int) < 0) by omega)]; rfl, rfl⟩
  · rw [decide_eq_false hs]
    have hw : wrap64 (b : Int) < 0 := by unfold wrap64; omega
    go_enter Try.func108, Try.ntmps108
    go_wp2
    go_ret
    exact ⟨rfl, rfl⟩
theorem spec_l01Bits (x : Nat) (hx : x < 4294967296) (w : World) : Calls Try.prog 109 #[.float .f32 x] w fun e w' => e = .returned (.int .i64 (cn .f32 x : Nat)) ∧ w = w' := by
  have hd := run_f32bits
  cases h : isN .f32 x
  · have ho : FloatKind.f32.format.order x x = some .eq := by rw [order_self, h]; rfl
    rw [cn_not h]
    clear h
    go_enter Try.func109, Try.ntmps109
    go_wp2
    go_ret
    exact ⟨rfl, rfl⟩
  · have ho : FloatKind.f32.format.order x x = none := by rw [order_self, h]; rfl
    rw [cn_nan h]
    clear h
    go_enter Try.func109, Try.ntmps109
    go_wp2
    go_ret
    exact ⟨rfl, rfl⟩
theorem impl_isSpread (x : Nat) (hx : x < 4294967296) (w : World) : Calls Try.prog 112 #[.float .f32 x] w fun e w' => e = .returned (.bool (spreadOk x)) ∧ Dr w w' := by
  unfold spreadOk
  cases h1 : finB x
  · go_enter Try.func112, Try.ntmps112
    go_wp2_with (go_at_call 46; refine (impl_IsFinite _ _).mono ?_; rintro e w' ⟨rfl, ⟨q, rfl⟩⟩)
    go_ret
    exact ⟨rfl, _, rfl⟩
  · cases h2 : geF x 0
    · have h2' := h2
      unfold geF at h2'
      simp only [Bool.or_eq_false_iff] at h2'
      obtain ⟨o1, o2⟩ := h2'
      go_enter Try.func112, Try.ntmps112
      go_wp2_with (go_at_call 46; refine (impl_IsFinite _ _).mono ?_; rintro e w' ⟨rfl, ⟨q, rfl⟩⟩)
      go_ret
      exact ⟨by simp_all, _, rfl⟩
    · have h3 := ge_zero_sign hx h2
      have h4 := fun w => wide_sign hx h1 w
      have h5 := fun w => cv64_lt x w
      have h2' := h2
      unfold geF at h2'
      have H2 := Lib.hid h2; have H3 := Lib.hid h3; have H4 := Lib.hid h4; clear h3 h4 h2
      go_enter Try.func112, Try.ntmps112
      go_wp2_with (first | (go_at_call 46; refine (impl_IsFinite _ _).mono ?_; rintro e w' ⟨rfl, ⟨q, rfl⟩⟩) | (go_at_call 108; refine (math_Signbit _ (h5 _) _).mono ?_; rintro e w' ⟨rfl, rfl⟩))
      go_ret
      refine ⟨?_, _, rfl⟩
      have h4 := H4.out; have h3 := H3.out
      rw [h4, h3]
      simp
theorem impl_areCodes_1 (n : Int) (w : World) : Calls Try.prog 154 #[.int .i64 n] w fun e w' => e = .returned (.bool !(inB n (-127) 127)) ∧ w = w' := by
  go_enter Try.func154, Try.ntmps154
  go_wp2_with (go_at_call 81; refine (within_any _ _ _ _).mono ?_; rintro e w' ⟨rfl, rfl⟩)
  go_ret
  exact ⟨rfl, rfl⟩
/-- an index that is not negative exactly if some element holds -/
def IdxPost (p : Int → Bool) (xs : List Int) (w : World) (e : Ending) (w' : World) : Prop := ∃ i : Int, e = .returned (.int .i64 i) ∧ decide (0 ≤ i) = xs.any p ∧ w = w'
theorem idx_codes (w : World) (ad : Option Addr) (cap : Nat) (xs : List Int) (h : Ints .i64 w ad cap xs) (hn : xs.length ≤ 1048576) :
    Calls Try.prog 156 #[.slice ad xs.length cap, .func (.func 154) #[] #[]] w (IdxPost (fun n => !(inB n (-127) 127)) xs w) := by
  obtain ⟨n, hN⟩ : ∃ n, n = xs.length := ⟨_, rfl⟩
  rw [← hN] at hn ⊢
  have HN := Lib.hid hN; clear hN
  go_enter Try.func156, Try.ntmps156
  go_wp2
  go_loop [8] (fun i => ∃ k : Nat, i = .int .i64 k ∧ k ≤ n ∧ (xs.take k).any (fun n => !(inB n (-127) 127)) = false) (fun i => n - (intOf i).toNat)
  case atStart => exact ⟨0, rfl, Nat.zero_le _, rfl⟩
  case round =>
    obtain ⟨k, rfl, hk, hno⟩ := hrel
    have HO := Lib.hid hno; clear hno
    by_cases hlt : k < n
    · have hkx : k < xs.length := by rw [← HN.out]; exact hlt
      obtain ⟨b, off, rfl, _, hc⟩ := h.spot (i := k) hkx
      have hc1 := hc k hkx
      obtain ⟨x, hx⟩ : ∃ x, x = xs.getD k 0 := ⟨_, rfl⟩
      rw [← hx] at hc1
      have HX := Lib.hid hx; clear hx hc
      cases hb : inB x (-127) 127
      · go_wp2_with (go_at_call 154; refine (impl_areCodes_1 _ _).mono ?_; rintro e w' ⟨rfl, rfl⟩)
        go_ret
        refine ⟨k, rfl, ?_, rfl⟩
        have : (xs.any fun n => !(inB n (-127) 127)) = true := by
          rw [List.any_eq_true]
          exact ⟨xs.getD k 0, by rw [List.getD_eq_getElem?_getD, List.getElem?_eq_getElem hkx]; exact List.getElem_mem hkx, by rw [← HX.out, hb]; rfl⟩
        rw [this]; simp
      · go_wp2_with (go_at_call 154; refine (impl_areCodes_1 _ _).mono ?_; rintro e w' ⟨rfl, rfl⟩)
        go_round
        case rel =>
          refine ⟨k + 1, by go_num, hlt, ?_⟩
          rw [List.take_succ_eq_append_getElem hkx, List.any_append, HO.out]
          have : xs[k] = x := by rw [HX.out, List.getD_eq_getElem?_getD, List.getElem?_eq_getElem hkx]; rfl
          simp [this, hb]
        case measure => simp [intOf]; omega
    · have hkn : k = n := by omega
      subst hkn
      go_wp2
      go_ret
      refine ⟨-1, rfl, ?_, rfl⟩
      have := HO.out
      rw [HN.out, List.take_length] at this
      rw [this]; rfl
theorem contains_codes (w : World) (ad : Option Addr) (cap : Nat) (xs : List Int) (h : Ints .i64 w ad cap xs) (hn : xs.length ≤ 1048576) :
    Calls Try.prog 124 #[.slice ad xs.length cap, .func (.func 154) #[] #[]] w fun e w' => e = .returned (.bool (xs.any (fun n => !(inB n (-127) 127)))) ∧ w = w' := by
  have hc := idx_codes w ad cap xs h hn
  have HC := Lib.hid hc; clear hc
  go_enter Try.func124, Try.ntmps124
  go_wp2_with fail
  refine HC.out.mono ?_
  rintro e w' ⟨i, rfl, hi, rfl⟩
  have HI := Lib.hid hi; clear hi
  go_wp2
  go_ret
  exact ⟨by rw [← HI.out]; rfl, rfl⟩
theorem impl_areCodes (w : World) (ad : Option Addr) (cap : Nat) (xs : List Int) (h : Ints .i64 w ad cap xs) :
    Calls Try.prog 111 #[.slice ad xs.length cap] w fun e w' => e = .returned (.bool (codesOk xs)) ∧ w = w' := by
  unfold codesOk
  by_cases hn : xs.length ≤ 256
  · rw [decide_eq_true hn]
    have hc := contains_codes w ad cap xs h (by omega)
    have HC := Lib.hid hc; clear hc
    go_enter Try.func111, Try.ntmps111
    go_wp2_with (refine HC.out.mono ?_; rintro e w' ⟨rfl, rfl⟩)
    go_ret
    exact ⟨by simp [List.all_eq_not_any_not], rfl⟩
  · rw [decide_eq_false hn]
    go_enter Try.func111, Try.ntmps111
    go_wp2
    go_ret
    exact ⟨rfl, rfl⟩
end Go.Proofs.Ytaocilimggpdjaa
