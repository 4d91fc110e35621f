/- What a dot of codes is. No condition. -/
import Derived.Test.YtaocilimggpdjaaCode
namespace Go.Proofs.Ytaocilimggpdjaa
open Go Go.RowKit Ieee
set_option linter.unusedVariables false
set_option linter.unusedSimpArgs false
def sumI (xs ys : List Int) : Nat → Int
  | 0 => 0
  | k + 1 => sumI xs ys k + xs.getD k 0 * ys.getD k 0
theorem codes_parts {xs : List Int} (h : codesOk xs = true) : xs.length ≤ 256 ∧ ∀ k, -127 ≤ xs.getD k 0 ∧ xs.getD k 0 ≤ 127 := by
  simp only [codesOk, Bool.and_eq_true, decide_eq_true_eq, List.all_eq_true] at h
  refine ⟨h.1, fun k => ?_⟩
  by_cases hk : k < xs.length
  · have : xs.getD k 0 = xs[k] := by simp [hk]
    rw [this]; exact inB_iff.1 (h.2 _ (List.getElem_mem hk))
  · have : xs.getD k 0 = 0 := by simp [hk]
    rw [this]; omega
theorem mul_bd {a b : Int} (h1 : -127 ≤ a) (h2 : a ≤ 127) (h3 : -127 ≤ b) (h4 : b ≤ 127) : -16129 ≤ a * b ∧ a * b ≤ 16129 := by
  have : (a * b).natAbs ≤ 16129 := by
    rw [Int.natAbs_mul]
    exact Nat.le_trans (Nat.mul_le_mul (show a.natAbs ≤ 127 by omega) (show b.natAbs ≤ 127 by omega)) (by decide)
  omega
theorem sumI_bd {xs ys : List Int} (hx : ∀ k, -127 ≤ xs.getD k 0 ∧ xs.getD k 0 ≤ 127) (hy : ∀ k, -127 ≤ ys.getD k 0 ∧ ys.getD k 0 ≤ 127) : ∀ k : Nat, -16129 * (k : Int) ≤ sumI xs ys k ∧ sumI xs ys k ≤ 16129 * (k : Int)
  | 0 => by simp [sumI]
  | k + 1 => by
    have := sumI_bd hx hy k
    have := mul_bd (hx k).1 (hx k).2 (hy k).1 (hy k).2
    simp only [sumI]
    omega
def dotOk (xs ys : List Int) (x y : Nat) : Bool := codesOk xs && codesOk ys && decide (xs.length = ys.length) && spreadOk x && spreadOk y
def dotE (xs ys : List Int) (x y : Nat) : Nat := if dotOk xs ys x y = true then fop .mul .f32 (fop .mul .f32 (floatOfInt .f32 (sumI xs ys xs.length)) (cn .f32 x)) (cn .f32 y) else 0
theorem wrap_fit {n : Int} (h1 : -9223372036854775808 ≤ n) (h2 : n < 9223372036854775808) : IntKind.i64.wrap n = n := by
  have e1 : (2 : Int) ^ 64 = 18446744073709551616 := by decide
  have e2 : (2 : Int) ^ (64 - 1) = 9223372036854775808 := by decide
  by_cases h : n % 18446744073709551616 ≥ 9223372036854775808
  · simp only [IntKind.wrap, IntKind.bits, IntKind.signed, e1, e2, h, decide_true, Bool.and_self, if_true]; omega
  · simp only [IntKind.wrap, IntKind.bits, IntKind.signed, e1, e2, h, decide_false, Bool.and_false, Bool.false_eq_true, if_false]; omega
theorem Dr.drewN {w w' : World} (h : Dr w w') (n : Nat) : Dr w (w'.drewN n) := by
  obtain ⟨m, rfl⟩ := h
  exact ⟨m + n, by simp [World.drewN, Nat.add_assoc]⟩
theorem Dr.trans {a b c : World} (h : Dr a b) (h2 : Dr b c) : Dr a c := by obtain ⟨m, rfl⟩ := h2; exact h.drewN m
set_option maxHeartbeats 2000000 in
theorem impl_DotOfCodes_no (w : World) (a1 : Option Addr) (c1 : Nat) (xs : List Int) (h1 : Ints .i64 w a1 c1 xs) (a2 : Option Addr) (c2 : Nat) (ys : List Int) (h2 : Ints .i64 w a2 c2 ys) (x y : Nat) (hx : x < 4294967296) (hy : y < 4294967296) (hok : dotOk xs ys x y = false) :
    Calls Try.prog 53 #[.slice a1 xs.length c1, .slice a2 ys.length c2, .float .f32 x, .float .f32 y] w fun e w' => e = .returned (.tuple #[.float .f32 0, .bool false]) ∧ Dr w w' := by
  have hm := Nat.le_trans h1.len h1.cap
  have hm2 := Nat.le_trans h2.len h2.cap
  unfold maxLen at hm hm2
  have k1 := fun W hW => impl_areCodes W a1 c1 xs hW
  have k2 := fun W hW => impl_areCodes W a2 c2 ys hW
  have k3 := fun W => impl_isSpread x hx W
  have k4 := fun W => impl_isSpread y hy W
  unfold dotOk at hok
  obtain ⟨n1, e1⟩ : ∃ n, n = xs.length := ⟨_, rfl⟩
  obtain ⟨n2, e2⟩ : ∃ n, n = ys.length := ⟨_, rfl⟩
  have J1 := Lib.hid h1; have J2 := Lib.hid h2
  rw [← e1] at k1 hm hok ⊢
  rw [← e2] at k2 hm2 hok ⊢
  have C1 := Lib.hid k1; have C2 := Lib.hid k2; have C3 := Lib.hid k3; have C4 := Lib.hid k4
  clear k1 k2 k3 k4 e1 e2
  cases b1 : codesOk xs
  · clear hok
    go_enter Try.func53, Try.ntmps53
    go_wp2_with fail
    refine (C1.out _ J1.out).mono ?_
    rintro e w1 ⟨rfl, rfl⟩
    go_wp2
    go_ret2
    exact ⟨rfl, Dr.refl _⟩
  cases b2 : codesOk ys
  · clear hok
    go_enter Try.func53, Try.ntmps53
    go_wp2_with fail
    refine (C1.out _ J1.out).mono ?_
    rintro e w1 ⟨rfl, rfl⟩
    go_wp2_with fail
    refine (C2.out _ J2.out).mono ?_
    rintro e w1 ⟨rfl, rfl⟩
    go_wp2
    go_ret2
    exact ⟨rfl, Dr.refl _⟩
  by_cases b3 : n1 = n2
  rotate_left
  · clear hok
    have b3' : ¬ ((n1 : Int) = (n2 : Int)) := by omega
    go_enter Try.func53, Try.ntmps53
    go_wp2_with fail
    refine (C1.out _ J1.out).mono ?_
    rintro e w1 ⟨rfl, rfl⟩
    go_wp2_with fail
    refine (C2.out _ J2.out).mono ?_
    rintro e w1 ⟨rfl, rfl⟩
    go_wp2
    go_ret2
    exact ⟨rfl, Dr.refl _⟩
  subst b3
  cases b4 : spreadOk x
  · clear hok
    go_enter Try.func53, Try.ntmps53
    go_wp2_with fail
    refine (C1.out _ J1.out).mono ?_
    rintro e w1 ⟨rfl, rfl⟩
    go_wp2_with fail
    refine (C2.out _ J2.out).mono ?_
    rintro e w1 ⟨rfl, rfl⟩
    go_wp2_with fail
    refine (C3.out _).mono ?_
    rintro e w1 ⟨rfl, ⟨q, rfl⟩⟩
    go_wp2
    go_ret2
    exact ⟨rfl, _, rfl⟩
  have b5 : spreadOk y = false := by simpa [b1, b2, b4] using hok
  clear hok
  go_enter Try.func53, Try.ntmps53
  go_wp2_with fail
  refine (C1.out _ J1.out).mono ?_
  rintro e w1 ⟨rfl, rfl⟩
  go_wp2_with fail
  refine (C2.out _ J2.out).mono ?_
  rintro e w1 ⟨rfl, rfl⟩
  go_wp2_with fail
  refine (C3.out _).mono ?_
  rintro e w1 ⟨rfl, ⟨q, rfl⟩⟩
  go_wp2_with fail
  refine (C4.out _).mono ?_
  rintro e w1 ⟨rfl, ⟨q2, rfl⟩⟩
  go_wp2
  go_ret2
  exact ⟨rfl, _, rfl⟩
set_option maxHeartbeats 2000000 in
theorem impl_DotOfCodes_yes (w : World) (a1 : Option Addr) (c1 : Nat) (xs : List Int) (h1 : Ints .i64 w a1 c1 xs) (a2 : Option Addr) (c2 : Nat) (ys : List Int) (h2 : Ints .i64 w a2 c2 ys) (x y : Nat) (hx : x < 4294967296) (hy : y < 4294967296) (hok : dotOk xs ys x y = true) :
    Calls Try.prog 53 #[.slice a1 xs.length c1, .slice a2 ys.length c2, .float .f32 x, .float .f32 y] w fun e w' => ∃ r, e = .returned (.tuple #[.float .f32 r, .bool true]) ∧ Hid (cn .f32 r = dotE xs ys x y) ∧ Dr w w' := by
  have k1 := fun W hW => impl_areCodes W a1 c1 xs hW
  have k2 := fun W hW => impl_areCodes W a2 c2 ys hW
  have k3 := fun W => impl_isSpread x hx W
  have k4 := fun W => impl_isSpread y hy W
  have hE : dotE xs ys x y = fop .mul .f32 (fop .mul .f32 (floatOfInt .f32 (sumI xs ys xs.length)) (cn .f32 x)) (cn .f32 y) := by unfold dotE; rw [if_pos hok]
  rw [hE]; clear hE
  unfold dotOk at hok
  simp only [Bool.and_eq_true, decide_eq_true_eq] at hok
  obtain ⟨⟨⟨⟨b1, b2⟩, b3⟩, b4⟩, b5⟩ := hok
  obtain ⟨m1, bd1⟩ := codes_parts b1
  obtain ⟨m2, bd2⟩ := codes_parts b2
  have sb := sumI_bd bd1 bd2
  obtain ⟨n, e1⟩ : ∃ n, n = xs.length := ⟨_, rfl⟩
  have e2 : n = ys.length := e1.trans b3
  have J1 := Lib.hid h1; have J2 := Lib.hid h2; have SB := Lib.hid sb; have D1 := Lib.hid bd1; have D2 := Lib.hid bd2
  clear b3 m2 sb bd1 bd2
  rw [← e1] at k1 m1 ⊢
  rw [← e2] at k2 ⊢
  have E1 := Lib.hid e1; have E2 := Lib.hid e2
  have C1 := Lib.hid k1; have C2 := Lib.hid k2; have C3 := Lib.hid k3; have C4 := Lib.hid k4
  clear k1 k2 k3 k4 e1 e2
  go_enter Try.func53, Try.ntmps53
  go_wp2_with fail
  refine (C1.out _ J1.out).mono ?_
  rintro e w1 ⟨rfl, rfl⟩
  go_wp2_with fail
  refine (C2.out _ J2.out).mono ?_
  rintro e w1 ⟨rfl, rfl⟩
  go_wp2_with fail
  refine (C3.out _).mono ?_
  rintro e w1 ⟨rfl, ⟨q, rfl⟩⟩
  go_wp2_with fail
  refine (C4.out _).mono ?_
  rintro e w1 ⟨rfl, ⟨q2, rfl⟩⟩
  go_wp2
  go_loopw [10, 39] (fun v i wr => ∃ k : Nat, i = .int .i64 k ∧ k ≤ n ∧ ∃ s : Int, v = .int .i64 s ∧ s = sumI xs ys k ∧ Dr w wr) (fun _ i _ => n - (intOf i).toNat)
  case atStart => exact ⟨0, rfl, Nat.zero_le _, 0, rfl, rfl, _, rfl⟩
  case round =>
    obtain ⟨k, rfl, hk, s, rfl, hs, hdr⟩ := hrel
    have hb := SB.out k
    rw [← hs] at hb
    obtain ⟨sb1, sb2⟩ := hb
    have HS := Lib.hid hs; clear hs
    have h1 := h1.below hdr.below
    have h2 := h2.below hdr.below
    have HD := Lib.hid hdr; clear hdr
    by_cases hlt : k < n
    · obtain ⟨b, off, rfl, _, hc⟩ := h1.spot (i := k) (by rw [← E1.out]; exact hlt)
      obtain ⟨b', off', rfl, _, hc'⟩ := h2.spot (i := k) (by rw [← E2.out]; exact hlt)
      have hc1 := hc k (by rw [← E1.out]; exact hlt)
      have hc2 := hc' k (by rw [← E2.out]; exact hlt)
      obtain ⟨x1, p1⟩ : ∃ x, x = xs.getD k 0 := ⟨_, rfl⟩
      obtain ⟨y1, p2⟩ : ∃ x, x = ys.getD k 0 := ⟨_, rfl⟩
      rw [← p1] at hc1
      rw [← p2] at hc2
      have d1 := D1.out k
      have d2 := D2.out k
      rw [← p1] at d1
      rw [← p2] at d2
      have hmul := mul_bd d1.1 d1.2 d2.1 d2.2
      have P1 := Lib.hid p1; have P2 := Lib.hid p2
      obtain ⟨mu, hmu⟩ : ∃ m, m = x1 * y1 := ⟨_, rfl⟩
      rw [← hmu] at hmul
      obtain ⟨mb1, mb2⟩ := hmul
      have MU := Lib.hid hmu
      have hw1 : IntKind.i64.wrap (x1 * y1) = mu := by rw [← hmu]; exact wrap_fit (by omega) (by omega)
      have hw2 : IntKind.i64.wrap (s + mu) = s + mu := wrap_fit (by omega) (by omega)
      have HW1 := Lib.hid hw1; have HW2 := Lib.hid hw2; clear hw1 hw2
      clear hc hc' p1 p2 d1 d2 hmu h1 h2
      go_wp2
      refine wp_region_drawn (fun f args v => False) (by kernel_rfl) (by kernel_rfl) ?_
      repeat (refine wset_step (fun K hK nq => ?_); go_simp; refine hK _ ?_; clear hK K)
      refine wset_nil ?_
      rintro w' ⟨q, rfl⟩
      go_wp2
      go_roundw
      case rel => exact ⟨k + 1, by go_num, hlt, s + mu, by rw [HW1.out, HW2.out], by rw [sumI, ← HS.out, MU.out, P1.out, P2.out], HD.out.drewN _⟩
      case measure => simp [intOf]; omega
    · have hkn : k = n := by omega
      subst hkn
      go_wp2
      go_ret2
      refine ⟨_, rfl, ?_, ?_⟩
      · exact Lib.hid (by rw [cn_fbits, cn_fbits, cn_floatOfInt, HS.out])
      · exact HD.out.drewN _
theorem impl_DotOfCodes (w : World) (a1 : Option Addr) (c1 : Nat) (xs : List Int) (h1 : Ints .i64 w a1 c1 xs) (a2 : Option Addr) (c2 : Nat) (ys : List Int) (h2 : Ints .i64 w a2 c2 ys) (x y : Nat) (hx : x < 4294967296) (hy : y < 4294967296) :
    Calls Try.prog 53 #[.slice a1 xs.length c1, .slice a2 ys.length c2, .float .f32 x, .float .f32 y] w fun e w' => ∃ (r : Nat) (b : Bool), e = .returned (.tuple #[.float .f32 r, .bool b]) ∧ cn .f32 r = dotE xs ys x y ∧ b = dotOk xs ys x y ∧ Below w.heap.size w w' := by
  cases hok : dotOk xs ys x y
  · exact (impl_DotOfCodes_no w a1 c1 xs h1 a2 c2 ys h2 x y hx hy hok).mono fun e w' ⟨he, hd⟩ => ⟨0, false, he, by unfold dotE; rw [if_neg (by rw [hok]; decide)]; decide +kernel, rfl, hd.below⟩
  · exact (impl_DotOfCodes_yes w a1 c1 xs h1 a2 c2 ys h2 x y hx hy hok).mono fun e w' ⟨r, he, hr, hd⟩ => ⟨r, true, he, hr.out, rfl, hd.below⟩
end Go.Proofs.Ytaocilimggpdjaa
