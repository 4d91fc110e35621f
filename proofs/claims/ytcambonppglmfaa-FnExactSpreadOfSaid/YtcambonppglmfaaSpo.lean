/- What SpreadOf computes. No condition. -/
import Derived.Test.YtcambonppglmfaaSpr
namespace Go.Proofs.Ytcambonppglmfaa
open Go Go.RowKit Ieee
set_option linter.unusedVariables false
set_option linter.unusedSimpArgs false
theorem neg_word31 {r : Nat} (h : r < 2147483648) : Op.negFloat .f32 (2147483648 + r) = r := by
  show (2 ^ 31 + r) ^^^ 2 ^ 31 = r
  apply Nat.eq_of_testBit_eq
  intro j
  rw [Nat.testBit_xor, Nat.testBit_two_pow]
  rcases Nat.lt_trichotomy j 31 with hj | hj | hj
  · rw [Nat.testBit_two_pow_add_gt hj]; have hne : ¬ (31 = j) := by omega
    simp [hne]
  · subst hj
    rw [Nat.testBit_two_pow_add_eq, Nat.testBit_lt_two_pow (by omega : r < 2 ^ 31)]; rfl
  · have h1 : (2 ^ 31 + r).testBit j = false := Nat.testBit_lt_two_pow (Nat.lt_of_lt_of_le (by omega : 2 ^ 31 + r < 2 ^ 32) (Nat.pow_le_pow_right (by decide) (by omega)))
    have h2 : r.testBit j = false := Nat.testBit_lt_two_pow (Nat.lt_of_lt_of_le (by omega : r < 2 ^ 32) (Nat.pow_le_pow_right (by decide) (by omega)))
    have hne : ¬ (31 = j) := by omega
    rw [h1, h2]; simp [hne]
/-- a finite word: its sign and its rung -/
theorem fin_parts {x : Nat} (hx : x < 4294967296) (hf : finB x = true) : x % 2147483648 < 2139095040 ∧ isN .f32 x = false ∧
    ((x = 0 ∨ x = 2147483648) ∧ FloatKind.f32.format.order x 0 = some .eq ∧ x % 2147483648 = 0 ∨
     (0 < x ∧ x < 2147483648 ∧ FloatKind.f32.format.order x 0 = some .gt ∧ x % 2147483648 = x) ∨
     (FloatKind.f32.format.order x 0 = some .lt ∧ Op.negFloat .f32 x = x % 2147483648)) := by
  obtain ⟨neg, r, rfl, hr⟩ := word_of single (x := x) (by rw [s_sw]; omega)
  have hfr := fin_rung hr hf
  rw [word_mod32 neg hr]
  have hir := s_ir
  refine ⟨by omega, finB_not hf, ?_⟩
  have ho := order_fin single neg false hfr (y := 0) (by rw [s_ir]; omega)
  have h0 : single.word false 0 = 0 := rfl
  rw [h0] at ho
  have hs0 : sval single false 0 = 0 := by simp [sval, nval_zero]
  rw [hs0] at ho
  rw [s_sw] at hr
  rcases Nat.eq_zero_or_pos r with e | e
  · subst e
    left
    refine ⟨?_, ?_, rfl⟩
    · cases neg
      · left; rfl
      · right; unfold Format.word; rw [s_sw]; rfl
    · rw [show FloatKind.f32.format.order _ 0 = _ from ho]
      cases neg <;> simp [sval, nval_zero] <;> rfl
  · right
    have hp : 0 < nval single r := by have := nval_lt (f := single) e; rw [nval_zero] at this; exact this
    cases neg
    · left
      have e1 : single.word false r = r := rfl
      rw [e1] at ho ⊢
      refine ⟨e, hr, ?_, rfl⟩
      have hv : sval single false r = ((nval single r : Nat) : Int) := rfl
      rw [show FloatKind.f32.format.order _ 0 = _ from ho, hv, show (0 : Int) = ((0 : Nat) : Int) from rfl, compare_nat, Nat.compare_eq_gt.2 hp]
    · right
      refine ⟨?_, ?_⟩
      · have hv : sval single true r = -((nval single r : Nat) : Int) := rfl
        rw [show FloatKind.f32.format.order _ 0 = _ from ho, hv, show compare (-((nval single r : Nat) : Int)) 0 = .lt from by simp [compare, compareOfLessAndEq]; omega]
      · have e1 : single.word true r = 2147483648 + r := by unfold Format.word; rw [s_sw]; rfl
        rw [e1]
        exact neg_word31 hr
theorem rung_not {r : Nat} (h : r < 2139095040) : isN .f32 r = false := read_word_le single false (by rw [s_ir]; omega)
theorem max_rung {m a : Nat} (hm : m < 2139095040) (ha : a < 2139095040) : maxF .f32 m a = some (max m a) := by
  unfold maxF
  rw [show FloatKind.f32.format.order m a = _ from order_pos single (by rw [s_ir]; omega) (by rw [s_ir]; omega)]
  rcases Nat.lt_trichotomy m a with h | h | h
  · rw [Nat.compare_eq_lt.2 h, Nat.max_eq_right (Nat.le_of_lt h)]
  · subst h
    rw [Nat.compare_eq_eq.2 rfl]
    simp only [show (FloatKind.f32.decode m).neg = false from neg_le_inf (by rw [s_ir]; omega), Nat.max_self]
    rfl
  · rw [Nat.compare_eq_gt.2 h, Nat.max_eq_left (Nat.le_of_lt h)]
theorem gt_rung {m a : Nat} (hm : m < 2139095040) (ha : a < 2139095040) : (FloatKind.f32.format.order a m == some .gt) = decide (m < a) := by
  rw [show FloatKind.f32.format.order a m = _ from order_pos single (by rw [s_ir]; omega) (by rw [s_ir]; omega)]
  rcases Nat.lt_trichotomy m a with h | h | h
  · rw [Nat.compare_eq_gt.2 h, decide_eq_true h]; rfl
  · subst h
    rw [Nat.compare_eq_eq.2 rfl, decide_eq_false (Nat.lt_irrefl _)]; rfl
  · rw [Nat.compare_eq_lt.2 h, decide_eq_false (by omega)]; rfl
def mostN (xs : List Nat) : Nat → Nat
  | 0 => 0
  | k + 1 => max (mostN xs k) (xs.getD k 0 % 2147483648)
def sprE (xs : List Nat) : Nat := if fewFin xs = true then fop .quo .f32 (mostN xs xs.length) 1123942400 else 0
theorem cn_127 : cn .f32 1123942400 = 1123942400 := by decide +kernel
theorem fin_at {xs : List Nat} (h : fewFin xs = true) {k : Nat} (hk : k < xs.length) : finB (xs.getD k 0) = true := by
  have := (few_of h).2 (xs.getD k 0)
  rw [List.getD_eq_getElem?_getD, List.getElem?_eq_getElem hk] at this ⊢
  exact this (List.getElem_mem hk)
theorem spec_l06Abs (x : Nat) (hx : x < 4294967296) (hf : finB x = true) (w : World) : Calls Try.prog 55 #[.float .f32 x] w fun e w' => e = .returned (.float .f32 (x % 2147483648)) ∧ w = w' := by
  obtain ⟨_, _, h | h | h⟩ := fin_parts hx hf
  · obtain ⟨_, ho, hr⟩ := h
    rw [hr]
    clear hr
    go_enter Try.func55, Try.ntmps55
    go_wp2
    go_ret
    exact ⟨rfl, rfl⟩
  · obtain ⟨_, _, ho, hr⟩ := h
    rw [hr]
    clear hr
    go_enter Try.func55, Try.ntmps55
    go_wp2
    go_ret
    exact ⟨rfl, rfl⟩
  · obtain ⟨ho, hr⟩ := h
    rw [← hr]
    clear hr
    go_enter Try.func55, Try.ntmps55
    go_wp2
    go_ret
    exact ⟨rfl, rfl⟩
theorem impl_size_fin (x : Nat) (hx : x < 4294967296) (hf : finB x = true) (w : World) : Calls Try.prog 57 #[.float .f32 x] w fun e w' => e = .returned (.float .f32 (x % 2147483648)) ∧ Dr w w' := by
  refine (impl_size x hx w).mono ?_
  rintro e w' ⟨r, rfl, hr, hd⟩
  refine ⟨?_, hd⟩
  obtain ⟨h1, h2, _⟩ := fin_parts hx hf
  have h3 := hr.out.1
  rw [cn_not h2] at h3
  unfold absW at h3
  rw [if_neg (by rw [h2]; decide)] at h3
  have h4 : isN .f32 (x % 2147483648) = false := rung_not h1
  have h5 : isN .f32 r = false := by rw [← isN_cn, h3, h4]
  rw [cn_not h5] at h3
  rw [h3]
theorem impl_SpreadOf_yes (w : World) (ad : Option Addr) (cap : Nat) (xs : List Nat) (h : F32s w ad cap xs) (hok : fewFin xs = true) :
    Calls Try.prog 17 #[.slice ad xs.length cap] w fun e w' => ∃ r, e = .returned (.tuple #[.float .f32 r, .bool true]) ∧ cn .f32 r = sprE xs ∧ Dr w w' := by
  have k1 := impl_areFew w ad cap xs h
  have hn := (few_of hok).1
  rw [hok] at k1
  have hE : sprE xs = fop .quo .f32 (mostN xs xs.length) 1123942400 := by unfold sprE; rw [if_pos hok]
  rw [hE]; clear hE
  obtain ⟨n, hN⟩ : ∃ n, n = xs.length := ⟨_, rfl⟩
  rw [← hN] at hn k1 ⊢
  have HN := Lib.hid hN; have C1 := Lib.hid k1; have HOK := Lib.hid hok; clear hN k1 hok
  go_enter Try.func17, Try.ntmps17
  go_wp2_with fail
  refine C1.out.mono ?_
  rintro e w1 ⟨rfl, q, rfl⟩
  clear C1
  go_wp2
  go_loopw [4, 12] (fun v i wr => ∃ k : Nat, i = .int .i64 k ∧ k ≤ n ∧ v = .float .f32 (mostN xs k) ∧ mostN xs k < 2139095040 ∧ Dr w wr) (fun _ i _ => n - (intOf i).toNat)
  case atStart => exact ⟨0, rfl, Nat.zero_le _, rfl, by simp [mostN], _, rfl⟩
  case round =>
    obtain ⟨k, rfl, hk, rfl, hml, hdr⟩ := hrel
    have h := h.below hdr.below
    have HD := Lib.hid hdr; clear hdr
    by_cases hlt : k < n
    · have hkx : k < xs.length := by rw [← HN.out]; exact hlt
      obtain ⟨b, off, rfl, _, hc⟩ := h.spot (k := k) hkx
      have hc1 := hc k hkx
      have hxl : xs.getD k 0 < 4294967296 := h.lt _ (by rw [List.getD_eq_getElem?_getD, List.getElem?_eq_getElem hkx]; exact List.getElem_mem hkx)
      have hxf := fin_at HOK.out hkx
      have hnext : mostN xs (k + 1) = max (mostN xs k) (xs.getD k 0 % 2147483648) := rfl
      obtain ⟨x, hx⟩ : ∃ x, x = xs.getD k 0 := ⟨_, rfl⟩
      rw [← hx] at hc1 hxl hxf hnext
      obtain ⟨h1, _, _⟩ := fin_parts hxl hxf
      obtain ⟨m, hm⟩ : ∃ m, m = mostN xs k := ⟨_, rfl⟩
      rw [← hm] at hml hnext ⊢
      have h3 := fun w A T => run_max_f (P := Try.prog) w A T .f32 m (x % 2147483648) _ (max_rung hml h1)
      have hbd : max m (x % 2147483648) < 2139095040 := Nat.max_lt.2 ⟨hml, h1⟩
      have HX := Lib.hid hnext; have HB := Lib.hid hbd; clear hx hc h hm hnext hbd
      go_wp2_with (go_at_call 57; refine (impl_size_fin _ hxl hxf _).mono ?_; rintro e w' ⟨rfl, ⟨q, rfl⟩⟩)
      go_roundw
      case rel => exact ⟨k + 1, by go_num, hlt, by rw [HX.out], by rw [HX.out]; exact HB.out, HD.out.drewN _⟩
      case measure => simp [intOf]; omega
    · have hkn : k = n := by omega
      subst hkn
      go_wp2
      go_ret2
      exact ⟨_, rfl, by rw [cn_fbits, cn_127, cn_not (rung_not hml)], HD.out.drewN _⟩
theorem impl_SpreadOf_no (w : World) (ad : Option Addr) (cap : Nat) (xs : List Nat) (h : F32s w ad cap xs) (hok : fewFin xs = false) :
    Calls Try.prog 17 #[.slice ad xs.length cap] w fun e w' => e = .returned (.tuple #[.float .f32 0, .bool false]) ∧ Dr w w' := by
  have k1 := impl_areFew w ad cap xs h
  rw [hok] at k1
  have C1 := Lib.hid k1; clear k1 hok
  go_enter Try.func17, Try.ntmps17
  go_wp2_with fail
  refine C1.out.mono ?_
  rintro e w1 ⟨rfl, q, rfl⟩
  go_wp2
  go_ret2
  exact ⟨rfl, _, rfl⟩
theorem spec_SpreadOf_no (w : World) (ad : Option Addr) (cap : Nat) (xs : List Nat) (h : F32s w ad cap xs) (hok : fewFin xs = false) :
    Calls Try.prog 15 #[.slice ad xs.length cap] w fun e w' => e = .returned (.tuple #[.float .f32 0, .bool false]) ∧ Dr w w' := by
  have k1 := spec_l06List w ad cap xs h
  rw [hok] at k1
  have C1 := Lib.hid k1; clear k1 hok
  go_enter Try.func15, Try.ntmps15
  go_wp2_with fail
  refine C1.out.mono ?_
  rintro e w1 ⟨rfl, q, rfl⟩
  go_wp2
  go_ret2
  exact ⟨rfl, _, rfl⟩
theorem spec_SpreadOf_yes (w : World) (ad : Option Addr) (cap : Nat) (xs : List Nat) (h : F32s w ad cap xs) (hok : fewFin xs = true) :
    Calls Try.prog 15 #[.slice ad xs.length cap] w fun e w' => ∃ r, e = .returned (.tuple #[.float .f32 r, .bool true]) ∧ cn .f32 r = sprE xs ∧ Dr w w' := by
  have k1 := spec_l06List w ad cap xs h
  have hn := (few_of hok).1
  rw [hok] at k1
  have hE : sprE xs = fop .quo .f32 (mostN xs xs.length) 1123942400 := by unfold sprE; rw [if_pos hok]
  rw [hE]; clear hE
  obtain ⟨n, hN⟩ : ∃ n, n = xs.length := ⟨_, rfl⟩
  rw [← hN] at hn k1 ⊢
  have HN := Lib.hid hN; have C1 := Lib.hid k1; have HOK := Lib.hid hok; clear hN k1 hok
  go_enter Try.func15, Try.ntmps15
  go_wp2_with fail
  refine C1.out.mono ?_
  rintro e w1 ⟨rfl, q, rfl⟩
  clear C1
  go_wp2
  go_loopw [4, 5] (fun v i wr => ∃ k : Nat, i = .int .i64 k ∧ k ≤ n ∧ v = .float .f32 (mostN xs k) ∧ mostN xs k < 2139095040 ∧ Dr w wr) (fun _ i _ => n - (intOf i).toNat)
  case atStart => exact ⟨0, rfl, Nat.zero_le _, rfl, by simp [mostN], _, rfl⟩
  case round =>
    obtain ⟨k, rfl, hk, rfl, hml, hdr⟩ := hrel
    have h := h.below hdr.below
    have HD := Lib.hid hdr; clear hdr
    by_cases hlt : k < n
    · have hkx : k < xs.length := by rw [← HN.out]; exact hlt
      obtain ⟨b, off, rfl, _, hc⟩ := h.spot (k := k) hkx
      have hc1 := hc k hkx
      have hxl : xs.getD k 0 < 4294967296 := h.lt _ (by rw [List.getD_eq_getElem?_getD, List.getElem?_eq_getElem hkx]; exact List.getElem_mem hkx)
      have hxf := fin_at HOK.out hkx
      have hnext : mostN xs (k + 1) = max (mostN xs k) (xs.getD k 0 % 2147483648) := rfl
      obtain ⟨x, hx⟩ : ∃ x, x = xs.getD k 0 := ⟨_, rfl⟩
      rw [← hx] at hc1 hxl hxf hnext
      obtain ⟨h1, _, _⟩ := fin_parts hxl hxf
      obtain ⟨m, hm⟩ : ∃ m, m = mostN xs k := ⟨_, rfl⟩
      rw [← hm] at hml hnext ⊢
      have hbd : max m (x % 2147483648) < 2139095040 := Nat.max_lt.2 ⟨hml, h1⟩
      have hg := gt_rung hml h1
      obtain ⟨a, ha⟩ : ∃ a, a = x % 2147483648 := ⟨_, rfl⟩
      have c2 := spec_l06Abs x hxl hxf
      rw [← ha] at hnext hbd hg c2
      have HX := Lib.hid hnext; have HB := Lib.hid hbd; have C2 := Lib.hid c2; clear hx hc h hm hnext hbd ha h1 c2
      by_cases hgt : m < a
      · rw [decide_eq_true hgt] at hg
        go_wp2_with (go_at_call 55; refine (C2.out _).mono ?_; rintro e w' ⟨rfl, rfl⟩)
        go_roundw
        case rel => exact ⟨k + 1, by go_num, hlt, by rw [HX.out, Nat.max_eq_right (Nat.le_of_lt hgt)], by rw [HX.out]; exact HB.out, HD.out⟩
        case measure => simp [intOf]; omega
      · rw [decide_eq_false hgt] at hg
        go_wp2_with (go_at_call 55; refine (C2.out _).mono ?_; rintro e w' ⟨rfl, rfl⟩)
        go_roundw
        case rel => exact ⟨k + 1, by go_num, hlt, by rw [HX.out, Nat.max_eq_left (by omega)], by rw [HX.out]; exact HB.out, HD.out⟩
        case measure => simp [intOf]; omega
    · have hkn : k = n := by omega
      subst hkn
      go_wp2
      go_ret2
      exact ⟨_, rfl, by rw [cn_fbits, cn_127, cn_not (rung_not hml)], HD.out.drewN _⟩
theorem spec_SpreadOf (w : World) (ad : Option Addr) (cap : Nat) (xs : List Nat) (h : F32s w ad cap xs) :
    Calls Try.prog 15 #[.slice ad xs.length cap] w fun e w' => ∃ (r : Nat) (b : Bool), e = .returned (.tuple #[.float .f32 r, .bool b]) ∧ cn .f32 r = sprE xs ∧ b = fewFin xs ∧ Below w.heap.size w w' := by
  cases hok : fewFin xs
  · exact (spec_SpreadOf_no w ad cap xs h hok).mono fun e w' ⟨he, hd⟩ => ⟨0, false, he, by unfold sprE; rw [if_neg (by rw [hok]; decide)]; exact cn_zero, rfl, hd.below⟩
  · exact (spec_SpreadOf_yes w ad cap xs h hok).mono fun e w' ⟨r, he, hr, hd⟩ => ⟨r, true, he, hr, rfl, hd.below⟩
theorem impl_SpreadOf (w : World) (ad : Option Addr) (cap : Nat) (xs : List Nat) (h : F32s w ad cap xs) :
    Calls Try.prog 17 #[.slice ad xs.length cap] w fun e w' => ∃ (r : Nat) (b : Bool), e = .returned (.tuple #[.float .f32 r, .bool b]) ∧ cn .f32 r = sprE xs ∧ b = fewFin xs ∧ Below w.heap.size w w' := by
  cases hok : fewFin xs
  · exact (impl_SpreadOf_no w ad cap xs h hok).mono fun e w' ⟨he, hd⟩ => ⟨0, false, he, by unfold sprE; rw [if_neg (by rw [hok]; decide)]; exact cn_zero, rfl, hd.below⟩
  · exact (impl_SpreadOf_yes w ad cap xs h hok).mono fun e w' ⟨r, he, hr, hd⟩ => ⟨r, true, he, hr, rfl, hd.below⟩
end Go.Proofs.Ytcambonppglmfaa
