/- Joined texts 4: Tp3 Tp5 Tw0 Tu0 Tu1 App Tp2 Tu2. Each is told at its own head. No condition. -/
import Derived.Maps.AppendAt
import Derived.Deep.CutRange
import Derived.Deep.CutBlock
import Derived.Deep.DeepCutAuto
import Derived.Test.YtmkfcaahdmdpaaaMc1
import Derived.Test.YtmkfcaahdmdpaaaMc3
/- Whether the fields of an operation fit: the program. No condition. -/
namespace Go.Proofs.Ytmkfcaahdmdpaaa
open Go Go.RowKit
set_option linter.unusedVariables false
set_option linter.unusedSimpArgs false
theorem fitsB_in {i : Int} {o : OpP} (h : fitsB i o = true) : 0 ≤ o.k ∧ o.k ≤ 10 := by
  unfold fitsB at h
  simp only [Bool.and_eq_true] at h
  exact inB_iff.1 h.1
theorem fitsB_args {i : Int} {o : OpP} (h : fitsB i o = true) (h0 : o.k ≠ 0) : (0 ≤ o.a ∧ o.a ≤ i - 1) ∧ (0 ≤ o.b ∧ o.b ≤ i - 1) ∧ (o.r = 0 ∧ o.c = 0 ∧ o.xs = []) := by
  unfold fitsB at h
  rw [if_neg h0] at h
  simp only [Bool.and_eq_true, beq_iff_eq, decide_eq_true_eq] at h
  obtain ⟨_, _, h1, h2, h3, h4, h5⟩ := h
  have ⟨a1, a2⟩ := inB_iff.1 h4
  refine ⟨⟨a1, a2⟩, ?_, h1, h2, List.eq_nil_of_length_eq_zero h3⟩
  split at h5
  · exact inB_iff.1 h5
  · have : o.b = 0 := by simpa using h5
    omega
theorem fitsB_input {i : Int} {o : OpP} (h : fitsB i o = true) (h0 : o.k = 0) : o.a = 0 ∧ o.b = 0 ∧ tenB o.r o.c o.xs.length = true := by
  unfold fitsB at h
  rw [if_pos h0] at h
  simp only [Bool.and_eq_true, beq_iff_eq] at h
  exact ⟨h.2.2.1, h.2.2.2.1, h.2.2.2.2⟩
theorem fitsB_single {i : Int} {o : OpP} (h : fitsB i o = true) (h0 : twoB o.k = false) : o.b = 0 := by
  by_cases hk : o.k = 0
  · exact (fitsB_input h hk).2.1
  · unfold fitsB at h
    rw [if_neg hk, h0] at h
    simp only [Bool.and_eq_true, beq_iff_eq] at h
    simpa using h.2.2.2.2.2.2
set_option maxHeartbeats 8000000 in
set_option maxRecDepth 100000 in
theorem impl_fieldsFit (w : World) (o : OpD) (i : Nat) (hi : i ≤ 100) (hm : o.xs.length ≤ maxLen) (hok : o.num < 4294967296) : Calls Try.prog 207 #[o.val, .int .i64 i] w fun e w' => e = .returned (.bool (fitsB i o.toOpP)) ∧ Below w.heap.size w w' := by
  obtain ⟨⟨kk, a, b, q, r, c, xs⟩, ad, cap⟩ := o
  show Calls Try.prog 207 #[.agg #[.int .i64 kk, .int .i64 a, .int .i64 b, .float .f32 q, .int .i64 r, .int .i64 c, .slice ad xs.length cap], .int .i64 i] w fun e w' => e = .returned (.bool (fitsB i ⟨kk, a, b, q, r, c, xs⟩)) ∧ Below w.heap.size w w'
  have hm : xs.length ≤ maxLen := hm
  have hok : q < 4294967296 := hok
  obtain ⟨n, hN⟩ : ∃ n, n = xs.length := ⟨_, rfl⟩
  have hf : fitsB i ⟨kk, a, b, q, r, c, xs⟩ = (inB kk 0 10 && ((kk == 5 || zeroB q) && (if kk = 0 then (a == 0 && (b == 0 && tenB r c n)) else ((r == 0 && (c == 0 && decide (n = 0))) && (inB a 0 (i - 1) && (if twoB kk = true then inB b 0 (i - 1) else b == 0)))))) := by
    rw [hN]; unfold fitsB; simp only [Bool.and_assoc]
  rw [hf, ← hN]
  rw [← hN] at hm
  clear hf hN
  obtain ⟨R, hR⟩ : ∃ R, R = (inB kk 0 10 && ((kk == 5 || zeroB q) && (if kk = 0 then (a == 0 && (b == 0 && tenB r c n)) else ((r == 0 && (c == 0 && decide (n = 0))) && (inB a 0 (i - 1) && (if twoB kk = true then inB b 0 (i - 1) else b == 0)))))) := ⟨_, rfl⟩
  rw [← hR]
  have HE := Lib.hid hR
  clear hR
  have K1 := Lib.hid (fun W => within_any kk 0 10 W)
  have K2 := Lib.hid (fun W => impl_SameNumber q 0 hok (by decide) W)
  have ez : decide (cn .f32 q = cn .f32 0) = zeroB q := rfl
  rw [ez] at K2
  have K3 := Lib.hid (fun W => impl_ValidTensor r c ad n cap hm W)
  have K4 := Lib.hid (fun W => within_any a 0 (i - 1) W)
  have K5 := Lib.hid (fun W => within_any b 0 (i - 1) W)
  have K6 := Lib.hid (fun W => impl_takesTwo kk W)
  clear ez
  unfold maxLen at hm
  have B := Lib.hid (below1 w (.cells #[.int .i64 kk, .int .i64 a, .int .i64 b, .float .f32 q, .int .i64 r, .int .i64 c, .slice ad n cap] 111))
  cases e1 : inB kk 0 10
  · rw [e1] at K1
    have E1 := Lib.hid e1
    clear e1
    go_enter Try.func207, Try.ntmps207
    go_wp2_with fail
    refine (K1.out _).mono ?_
    rintro e w1 ⟨rfl, rfl⟩
    go_wp2
    go_ret
    refine ⟨?_, B.out⟩
    rw [HE.out, E1.out]; rfl
  rw [e1] at K1
  have E1 := Lib.hid e1
  clear e1
  by_cases h0 : kk = 0
  · subst h0
    cases e2 : zeroB q
    · rw [e2] at K2
      have He2 := Lib.hid e2
      clear e2
      go_enter Try.func207, Try.ntmps207
      go_wp2_with fail
      refine (K1.out _).mono ?_
      rintro e w1 ⟨rfl, rfl⟩
      go_wp2_with fail
      refine (K2.out _).mono ?_
      rintro e w1 ⟨rfl, qd, rfl⟩
      have B1 := Lib.hid (below_drewN B.out qd)
      go_wp2
      go_ret
      refine ⟨?_, B1.out⟩
      rw [HE.out, E1.out, if_pos trivial, He2.out]; rfl
    rw [e2] at K2
    have He2 := Lib.hid e2
    clear e2
    cases e4 : (a == 0)
    · have He4 := Lib.hid e4
      go_enter Try.func207, Try.ntmps207
      go_wp2_with fail
      refine (K1.out _).mono ?_
      rintro e w1 ⟨rfl, rfl⟩
      go_wp2_with fail
      refine (K2.out _).mono ?_
      rintro e w1 ⟨rfl, qd, rfl⟩
      have B1 := Lib.hid (below_drewN B.out qd)
      go_wp2
      go_ret
      refine ⟨?_, B1.out⟩
      rw [HE.out, E1.out, if_pos trivial, He2.out, He4.out]; rfl
    have He4 := Lib.hid e4
    cases e5 : (b == 0)
    · have He5 := Lib.hid e5
      go_enter Try.func207, Try.ntmps207
      go_wp2_with fail
      refine (K1.out _).mono ?_
      rintro e w1 ⟨rfl, rfl⟩
      go_wp2_with fail
      refine (K2.out _).mono ?_
      rintro e w1 ⟨rfl, qd, rfl⟩
      have B1 := Lib.hid (below_drewN B.out qd)
      go_wp2
      go_ret
      refine ⟨?_, B1.out⟩
      rw [HE.out, E1.out, if_pos trivial, He2.out, He4.out, He5.out]; rfl
    have He5 := Lib.hid e5
    obtain ⟨T, hT⟩ : ∃ T, T = tenB r c n := ⟨_, rfl⟩
    rw [← hT] at K3
    have HT := Lib.hid hT
    clear hT
    go_enter Try.func207, Try.ntmps207
    go_wp2_with fail
    refine (K1.out _).mono ?_
    rintro e w1 ⟨rfl, rfl⟩
    go_wp2_with fail
    refine (K2.out _).mono ?_
    rintro e w1 ⟨rfl, qd, rfl⟩
    have B1 := Lib.hid (below_drewN B.out qd)
    go_wp2_with fail
    refine (K3.out _).mono ?_
    rintro e w2 ⟨rfl, hb2⟩
    have B2 := Lib.hid (bthen B1.out hb2); clear hb2
    go_wp2
    go_ret
    refine ⟨?_, B2.out⟩
    rw [HE.out, E1.out, if_pos trivial, He2.out, He4.out, He5.out, ← HT.out]; rfl
  by_cases h5 : kk = 5
  · subst h5
    cases f1 : (r == 0)
    · have g1 : (r != 0) = true := by simpa [bne] using f1
      have Hf1 := Lib.hid f1
      go_enter Try.func207, Try.ntmps207
      go_wp2_with fail
      refine (K1.out _).mono ?_
      rintro e w1 ⟨rfl, rfl⟩
      have B1 := B
      go_wp2
      go_ret
      refine ⟨?_, B1.out⟩
      rw [HE.out, E1.out, if_neg (show ¬ ((5 : Int) = 0) by decide), Hf1.out]; rfl
    have g1 : (r != 0) = false := by simpa [bne] using f1
    have Hf1 := Lib.hid f1
    cases f2 : (c == 0)
    · have g2 : (c != 0) = true := by simpa [bne] using f2
      have Hf2 := Lib.hid f2
      go_enter Try.func207, Try.ntmps207
      go_wp2_with fail
      refine (K1.out _).mono ?_
      rintro e w1 ⟨rfl, rfl⟩
      have B1 := B
      go_wp2
      go_ret
      refine ⟨?_, B1.out⟩
      rw [HE.out, E1.out, if_neg (show ¬ ((5 : Int) = 0) by decide), Hf1.out, Hf2.out]; rfl
    have g2 : (c != 0) = false := by simpa [bne] using f2
    have Hf2 := Lib.hid f2
    by_cases f3 : n = 0
    rotate_left
    · have g3 : (decide (n = 0)) = false := decide_eq_false f3
      have Hf3 := Lib.hid g3
      have g4 : 0 < n := by omega
      go_enter Try.func207, Try.ntmps207
      go_wp2_with fail
      refine (K1.out _).mono ?_
      rintro e w1 ⟨rfl, rfl⟩
      have B1 := B
      go_wp2
      go_ret
      refine ⟨?_, B1.out⟩
      rw [HE.out, E1.out, if_neg (show ¬ ((5 : Int) = 0) by decide), Hf1.out, Hf2.out, Hf3.out]; rfl
    subst f3
    have Hf3 : Hid (decide (0 = 0) = true) := Lib.hid rfl
    cases f4 : inB a 0 (i - 1)
    · rw [f4] at K4
      have Hf4 := Lib.hid f4
      clear f4
      go_enter Try.func207, Try.ntmps207
      go_wp2_with fail
      refine (K1.out _).mono ?_
      rintro e w1 ⟨rfl, rfl⟩
      have B1 := B
      go_wp2_with fail
      refine (K4.out _).mono ?_
      rintro e w1 ⟨rfl, rfl⟩
      go_wp2
      go_ret
      refine ⟨?_, B1.out⟩
      rw [HE.out, E1.out, if_neg (show ¬ ((5 : Int) = 0) by decide), Hf1.out, Hf2.out, Hf4.out]; rfl
    rw [f4] at K4
    have Hf4 := Lib.hid f4
    clear f4
    cases f5 : twoB 5
    · rw [f5] at K6
      have Hf5 := Lib.hid f5
      clear f5
      go_enter Try.func207, Try.ntmps207
      go_wp2_with fail
      refine (K1.out _).mono ?_
      rintro e w1 ⟨rfl, rfl⟩
      have B1 := B
      go_wp2_with fail
      refine (K4.out _).mono ?_
      rintro e w1 ⟨rfl, rfl⟩
      go_wp2_with fail
      refine (K6.out _).mono ?_
      rintro e w1 ⟨rfl, rfl⟩
      go_wp2
      go_ret
      refine ⟨?_, B1.out⟩
      rw [HE.out, E1.out, if_neg (show ¬ ((5 : Int) = 0) by decide), Hf1.out, Hf2.out, Hf4.out, Hf5.out]; rfl
    rw [f5] at K6
    have Hf5 := Lib.hid f5
    clear f5
    obtain ⟨T, hT⟩ : ∃ T, T = inB b 0 (i - 1) := ⟨_, rfl⟩
    rw [← hT] at K5
    have HT := Lib.hid hT
    clear hT
    go_enter Try.func207, Try.ntmps207
    go_wp2_with fail
    refine (K1.out _).mono ?_
    rintro e w1 ⟨rfl, rfl⟩
    have B1 := B
    go_wp2_with fail
    refine (K4.out _).mono ?_
    rintro e w1 ⟨rfl, rfl⟩
    go_wp2_with fail
    refine (K6.out _).mono ?_
    rintro e w1 ⟨rfl, rfl⟩
    go_wp2_with fail
    refine (K5.out _).mono ?_
    rintro e w1 ⟨rfl, rfl⟩
    go_wp2
    go_ret
    refine ⟨?_, B1.out⟩
    rw [HE.out, E1.out, if_neg (show ¬ ((5 : Int) = 0) by decide), Hf1.out, Hf2.out, Hf4.out, Hf5.out, ← HT.out]; rfl
  have t0 : (kk == 0) = false := by simpa using h0
  have t5 : (kk == 5) = false := by simpa using h5
  have H0 := Lib.hid h0; have H5 := Lib.hid t5
  cases e2 : zeroB q
  · rw [e2] at K2
    have He2 := Lib.hid e2
    clear e2
    go_enter Try.func207, Try.ntmps207
    go_wp2_with fail
    refine (K1.out _).mono ?_
    rintro e w1 ⟨rfl, rfl⟩
    go_wp2_with fail
    refine (K2.out _).mono ?_
    rintro e w1 ⟨rfl, qd, rfl⟩
    have B1 := Lib.hid (below_drewN B.out qd)
    go_wp2
    go_ret
    refine ⟨?_, B1.out⟩
    rw [HE.out, E1.out, H5.out, He2.out]; rfl
  rw [e2] at K2
  have He2 := Lib.hid e2
  clear e2
  cases f1 : (r == 0)
  · have g1 : (r != 0) = true := by simpa [bne] using f1
    have Hf1 := Lib.hid f1
    go_enter Try.func207, Try.ntmps207
    go_wp2_with fail
    refine (K1.out _).mono ?_
    rintro e w1 ⟨rfl, rfl⟩
    go_wp2_with fail
    refine (K2.out _).mono ?_
    rintro e w1 ⟨rfl, qd, rfl⟩
    have B1 := Lib.hid (below_drewN B.out qd)
    go_wp2
    go_ret
    refine ⟨?_, B1.out⟩
    rw [HE.out, E1.out, if_neg H0.out, H5.out, He2.out, Hf1.out]; rfl
  have g1 : (r != 0) = false := by simpa [bne] using f1
  have Hf1 := Lib.hid f1
  cases f2 : (c == 0)
  · have g2 : (c != 0) = true := by simpa [bne] using f2
    have Hf2 := Lib.hid f2
    go_enter Try.func207, Try.ntmps207
    go_wp2_with fail
    refine (K1.out _).mono ?_
    rintro e w1 ⟨rfl, rfl⟩
    go_wp2_with fail
    refine (K2.out _).mono ?_
    rintro e w1 ⟨rfl, qd, rfl⟩
    have B1 := Lib.hid (below_drewN B.out qd)
    go_wp2
    go_ret
    refine ⟨?_, B1.out⟩
    rw [HE.out, E1.out, if_neg H0.out, H5.out, He2.out, Hf1.out, Hf2.out]; rfl
  have g2 : (c != 0) = false := by simpa [bne] using f2
  have Hf2 := Lib.hid f2
  by_cases f3 : n = 0
  rotate_left
  · have g3 : (decide (n = 0)) = false := decide_eq_false f3
    have Hf3 := Lib.hid g3
    have g4 : 0 < n := by omega
    go_enter Try.func207, Try.ntmps207
    go_wp2_with fail
    refine (K1.out _).mono ?_
    rintro e w1 ⟨rfl, rfl⟩
    go_wp2_with fail
    refine (K2.out _).mono ?_
    rintro e w1 ⟨rfl, qd, rfl⟩
    have B1 := Lib.hid (below_drewN B.out qd)
    go_wp2
    go_ret
    refine ⟨?_, B1.out⟩
    rw [HE.out, E1.out, if_neg H0.out, H5.out, He2.out, Hf1.out, Hf2.out, Hf3.out]; rfl
  subst f3
  have Hf3 : Hid (decide (0 = 0) = true) := Lib.hid rfl
  cases f4 : inB a 0 (i - 1)
  · rw [f4] at K4
    have Hf4 := Lib.hid f4
    clear f4
    go_enter Try.func207, Try.ntmps207
    go_wp2_with fail
    refine (K1.out _).mono ?_
    rintro e w1 ⟨rfl, rfl⟩
    go_wp2_with fail
    refine (K2.out _).mono ?_
    rintro e w1 ⟨rfl, qd, rfl⟩
    have B1 := Lib.hid (below_drewN B.out qd)
    go_wp2_with fail
    refine (K4.out _).mono ?_
    rintro e w1 ⟨rfl, rfl⟩
    go_wp2
    go_ret
    refine ⟨?_, B1.out⟩
    rw [HE.out, E1.out, if_neg H0.out, H5.out, He2.out, Hf1.out, Hf2.out, Hf4.out]; rfl
  rw [f4] at K4
  have Hf4 := Lib.hid f4
  clear f4
  cases f5 : twoB kk
  · rw [f5] at K6
    have Hf5 := Lib.hid f5
    clear f5
    go_enter Try.func207, Try.ntmps207
    go_wp2_with fail
    refine (K1.out _).mono ?_
    rintro e w1 ⟨rfl, rfl⟩
    go_wp2_with fail
    refine (K2.out _).mono ?_
    rintro e w1 ⟨rfl, qd, rfl⟩
    have B1 := Lib.hid (below_drewN B.out qd)
    go_wp2_with fail
    refine (K4.out _).mono ?_
    rintro e w1 ⟨rfl, rfl⟩
    go_wp2_with fail
    refine (K6.out _).mono ?_
    rintro e w1 ⟨rfl, rfl⟩
    go_wp2
    go_ret
    refine ⟨?_, B1.out⟩
    rw [HE.out, E1.out, if_neg H0.out, H5.out, He2.out, Hf1.out, Hf2.out, Hf4.out, Hf5.out]; rfl
  rw [f5] at K6
  have Hf5 := Lib.hid f5
  clear f5
  obtain ⟨T, hT⟩ : ∃ T, T = inB b 0 (i - 1) := ⟨_, rfl⟩
  rw [← hT] at K5
  have HT := Lib.hid hT
  clear hT
  go_enter Try.func207, Try.ntmps207
  go_wp2_with fail
  refine (K1.out _).mono ?_
  rintro e w1 ⟨rfl, rfl⟩
  go_wp2_with fail
  refine (K2.out _).mono ?_
  rintro e w1 ⟨rfl, qd, rfl⟩
  have B1 := Lib.hid (below_drewN B.out qd)
  go_wp2_with fail
  refine (K4.out _).mono ?_
  rintro e w1 ⟨rfl, rfl⟩
  go_wp2_with fail
  refine (K6.out _).mono ?_
  rintro e w1 ⟨rfl, rfl⟩
  go_wp2_with fail
  refine (K5.out _).mono ?_
  rintro e w1 ⟨rfl, rfl⟩
  go_wp2
  go_ret
  refine ⟨?_, B1.out⟩
  rw [HE.out, E1.out, if_neg H0.out, H5.out, He2.out, Hf1.out, Hf2.out, Hf4.out, Hf5.out, ← HT.out]; rfl
end Go.Proofs.Ytmkfcaahdmdpaaa
/- Bounds of the shapes of a tape. No condition. -/
namespace Go.Proofs.Ytmkfcaahdmdpaaa
open Go Go.RowKit
set_option linter.unusedVariables false
set_option linter.unusedSimpArgs false
def sideP (s : Sh) : Prop := (1 ≤ s.1 ∧ s.1 ≤ 16) ∧ (1 ≤ s.2 ∧ s.2 ≤ 16)
theorem shGet_mem {S : List Sh} {i : Int} (h0 : 0 ≤ i) (h1 : i ≤ S.length - 1) : shGet S i ∈ S := by
  have hl : i.toNat < S.length := by omega
  unfold shGet
  rw [List.getD_eq_getElem?_getD, List.getElem?_eq_getElem hl]
  exact List.getElem_mem hl
theorem shapeOf_side {k : Int} {v w s : Sh} (hv : sideP v) (hw : sideP w) (h : shapeOf k v w = some s) : sideP s := by
  unfold shapeOf at h
  unfold sideP at hv hw ⊢
  split at h
  · split at h
    · cases h; exact hv
    · cases h
  · split at h
    · split at h
      · cases h; exact hv
      · cases h
    · split at h
      · split at h
        · cases h; exact ⟨hv.1, hw.2⟩
        · cases h
      · split at h
        · cases h; exact ⟨hv.2, hv.1⟩
        · split at h
          · cases h; exact ⟨⟨by decide, by decide⟩, ⟨by decide, by decide⟩⟩
          · cases h; exact hv
theorem stepSh_side {S S' : List Sh} {o : OpP} (hS : ∀ s ∈ S, sideP s) (h : stepSh S o = some S') : ∀ s ∈ S', sideP s := by
  unfold stepSh at h
  split at h
  · rename_i hf
    by_cases hk : o.k = 0
    · rw [if_pos hk] at h
      cases h
      intro s hs
      rcases List.mem_append.1 hs with hs | hs
      · exact hS s hs
      · have e : s = (o.r, o.c) := by simpa using hs
        subst e
        have := tenB_iff.1 (fitsB_input hf hk).2.2
        exact ⟨this.1, this.2.1⟩
    · rw [if_neg hk] at h
      have ha := fitsB_args hf hk
      cases e : shapeOf o.k (shGet S o.a) (shGet S o.b) with
      | none => rw [e] at h; cases h
      | some t =>
        rw [e] at h
        cases h
        intro s hs
        rcases List.mem_append.1 hs with hs | hs
        · exact hS s hs
        · have e2 : s = t := by simpa using hs
          subst e2
          exact shapeOf_side (hS _ (shGet_mem ha.1.1 ha.1.2)) (hS _ (shGet_mem ha.2.1.1 ha.2.1.2)) e
  · cases h
theorem shapesN_side {os : List OpP} {k : Nat} {S : List Sh} (hk : k ≤ os.length) (h : shapesN os k = some S) : ∀ s ∈ S, sideP s := by
  induction k generalizing S with
  | zero => unfold shapesN at h; simp at h; subst h; intro s hs; cases hs
  | succ k ih =>
    obtain ⟨o, ho⟩ := getElem?_lt (show k < os.length by omega)
    rw [shapesN_succ ho] at h
    cases e : shapesN os k with
    | none => rw [e] at h; cases h
    | some S0 => rw [e] at h; exact stepSh_side (ih (by omega) e) h
theorem shapesP_some {os : List OpP} {S : List Sh} (h : shapesP os = some S) : (1 ≤ os.length ∧ os.length ≤ 48) ∧ shapesN os os.length = some S ∧ S.length = os.length ∧ ∀ s ∈ S, sideP s := by
  unfold shapesP at h
  split at h
  · rename_i hl
    exact ⟨hl, h, shapesN_length (Nat.le_refl _) h, shapesN_side (Nat.le_refl _) h⟩
  · cases h
/-- the rows of shapes that a valid tape has -/
def shRows (os : List OpP) : List (List Int) := match shapesP os with
  | some S => S.map fun s => [s.1, s.2]
  | none => []
theorem shRows_some {os : List OpP} {S : List Sh} (h : shapesP os = some S) : shRows os = S.map fun s => [s.1, s.2] := by unfold shRows; rw [h]
theorem shRows_none {os : List OpP} (h : shapesP os = none) : shRows os = [] := by unfold shRows; rw [h]
end Go.Proofs.Ytmkfcaahdmdpaaa
/- Bounds for the walks of laws over tapes. No condition. -/
namespace Go.Proofs.Ytmkfcaahdmdpaaa
open Go Go.RowKit
set_option linter.unusedVariables false
set_option linter.unusedSimpArgs false
theorem left_bounds {os : List OpD} {L R : Int} (h : L = leftBy OpD.n os R) (h0 : 0 ≤ L) (h1 : R ≤ 1048576) : os.length ≤ 1048576 ∧ L ≤ 1048576 ∧ (∀ o ∈ os, o.xs.length ≤ 1048576) ∧ totO os ≤ 8000000 := by
  unfold leftBy at h
  split at h
  · rename_i hle
    have ht : totO os = 6 * os.length + sumBy OpD.n os os.length := by
      unfold totO sumBy
      rw [List.take_length]
      clear h hle h0 h1
      induction os with
      | nil => rfl
      | cons o os ih => rw [List.map_cons, List.sum_cons, ih, List.map_cons, List.sum_cons, List.length_cons]; unfold OpD.w OpD.n; omega
    refine ⟨by omega, by omega, fun o ho => ?_, by omega⟩
    have := sumBy_mem OpD.n ho
    unfold OpD.n at *
    omega
  · omega
theorem left_bound1 {n : Nat} {L R : Int} (h : L = if (n : Int) ≤ R then R - n else -1) (h0 : 0 ≤ L) (h1 : R ≤ 1048576) : n ≤ 1048576 ∧ L ≤ 1048576 := by
  split at h <;> omega
theorem tot_of {us os : List OpD} (h : us.map OpD.toOpP = os.map OpD.toOpP) : totO us = totO os := by
  have h1 : ∀ l : List OpD, totO l = ((l.map OpD.toOpP).map (fun p : OpP => 6 + p.xs.length)).sum := by
    intro l; unfold totO; rw [List.map_map]; rfl
  rw [h1, h1, h]
theorem lens_of {us os : List OpD} (h : us.map OpD.toOpP = os.map OpD.toOpP) (hb : ∀ o ∈ os, o.xs.length ≤ 1048576) : ∀ o ∈ us, o.xs.length ≤ 1048576 := by
  intro o ho
  have h1 : o.toOpP ∈ os.map OpD.toOpP := by rw [← h]; exact List.mem_map_of_mem ho
  obtain ⟨p, hp, e⟩ := List.mem_map.1 h1
  have := hb p hp
  rw [← e]; exact this
theorem can_of {us os : List OpD} (h : us.map OpD.toOpP = os.map OpD.toOpP) : us.map (fun o => o.toOpP.can) = os.map (fun o => o.toOpP.can) := by
  have h1 : ∀ l : List OpD, l.map (fun o => o.toOpP.can) = (l.map OpD.toOpP).map OpP.can := by intro l; rw [List.map_map]; rfl
  rw [h1, h1, h]
end Go.Proofs.Ytmkfcaahdmdpaaa
/- Which operations a tape's last value depends on. No condition. -/
namespace Go.Proofs.Ytmkfcaahdmdpaaa
open Go Go.RowKit
set_option linter.unusedVariables false
set_option linter.unusedSimpArgs false
/-- what an operation that is used makes used -/
def stepU (U : List Bool) (i : Nat) (o : OpP) : List Bool :=
  if U.getD i false = true ∧ o.k ≠ 0 then (if twoB o.k = true then (U.set o.a.toNat true).set o.b.toNat true else U.set o.a.toNat true) else U
def opAtP (os : List OpP) (i : Nat) : OpP := os.getD i ⟨0, 0, 0, 0, 0, 0, []⟩
/-- behind the last m operations -/
def usedM (os : List OpP) : Nat → List Bool
  | 0 => (List.replicate os.length false).set (os.length - 1) true
  | m + 1 => stepU (usedM os m) (os.length - 1 - m) (opAtP os (os.length - 1 - m))
theorem stepU_length (U : List Bool) (i : Nat) (o : OpP) : (stepU U i o).length = U.length := by
  unfold stepU; split
  · split <;> simp
  · rfl
theorem usedM_length (os : List OpP) (m : Nat) : (usedM os m).length = os.length := by
  induction m with
  | zero => simp [usedM]
  | succ m ih => rw [usedM, stepU_length, ih]
theorem opAtP_some {os : List OpP} {i : Nat} {o : OpP} (h : os[i]? = some o) : opAtP os i = o := by
  unfold opAtP; rw [List.getD_eq_getElem?_getD, h]; rfl
/-- the fields of a valid tape's operations fit -/
theorem shapesN_fit {os : List OpP} {k : Nat} {S : List Sh} (hk : k ≤ os.length) (h : shapesN os k = some S) : ∀ i o, i < k → os[i]? = some o → fitsB i o = true := by
  induction k generalizing S with
  | zero => intro i o hi; omega
  | succ k ih =>
    obtain ⟨o, ho⟩ := getElem?_lt (show k < os.length by omega)
    rw [shapesN_succ ho] at h
    cases e : shapesN os k with
    | none => rw [e] at h; cases h
    | some S0 =>
      rw [e] at h
      intro i p hi hp
      by_cases hik : i = k
      · subst hik
        rw [ho] at hp; cases hp
        have hl := shapesN_length (by omega) e
        have h2 : stepSh S0 o = some S := h
        unfold stepSh at h2
        split at h2
        · rename_i hf; rw [hl] at hf; exact hf
        · cases h2
      · exact ih (by omega) e i p (by omega) hp
theorem valid_fit {os : List OpP} {S : List Sh} (h : shapesP os = some S) {i : Nat} {o : OpP} (ho : os[i]? = some o) : fitsB i o = true :=
  shapesN_fit (Nat.le_refl _) (shapesP_some h).2.1 i o (List.getElem?_eq_some_iff.1 ho).1 ho
/-- what stands behind stays -/
theorem stepU_keep {U : List Bool} {i j : Nat} {o : OpP} (hf : fitsB i o = true) (hij : i ≤ j) : (stepU U i o).getD j false = U.getD j false := by
  unfold stepU
  split
  · rename_i h
    have ha := fitsB_args hf h.2
    have e1 : ∀ (V : List Bool) (a : Nat), a < i → (V.set a true).getD j false = V.getD j false := by
      intro V a ha
      rw [List.getD_eq_getElem?_getD, List.getD_eq_getElem?_getD, List.getElem?_set_ne (by omega)]
    split
    · rw [e1 _ _ (by omega), e1 _ _ (by omega)]
    · rw [e1 _ _ (by omega)]
  · rfl
theorem usedM_keep {os : List OpP} {S : List Sh} (h : shapesP os = some S) {m m' j : Nat} (hm : m ≤ m') (hm2 : m' ≤ os.length) (hj : os.length - m ≤ j + 1) : (usedM os m').getD j false = (usedM os m).getD j false := by
  induction m' with
  | zero => have : m = 0 := by omega
            subst this; rfl
  | succ q ih =>
    by_cases e : m = q + 1
    · subst e; rfl
    · obtain ⟨o, ho⟩ := getElem?_lt (show os.length - 1 - q < os.length by omega)
      rw [usedM, opAtP_some ho, stepU_keep (valid_fit h ho) (by omega), ih (by omega) (by omega)]
/-- the operations that are used, rising -/
def usedP (os : List OpP) : List Int := ((List.range os.length).filter fun i => (usedM os os.length).getD i false).map (fun i : Nat => (i : Int))
/-- those from j on -/
def usedF (U : List Bool) (j n : Nat) : List Int := ((List.range' j (n - j)).filter fun i => U.getD i false).map (fun i : Nat => (i : Int))
theorem usedF_nil (U : List Bool) (n : Nat) : usedF U n n = [] := by simp [usedF]
theorem usedF_cons (U : List Bool) {j n : Nat} (h : j < n) : usedF U j n = (if U.getD j false = true then [(j : Int)] else []) ++ usedF U (j + 1) n := by
  unfold usedF
  rw [show n - j = (n - (j + 1)) + 1 by omega, List.range'_succ, List.filter_cons]
  split <;> simp
theorem usedF_congr {U V : List Bool} {j n : Nat} (h : ∀ i, j ≤ i → i < n → U.getD i false = V.getD i false) : usedF U j n = usedF V j n := by
  unfold usedF
  congr 1
  apply List.filter_congr
  intro i hi
  have := List.mem_range'_1.1 hi
  rw [h i (by omega) (by omega)]
theorem usedF_gt (U : List Bool) (j n : Nat) : ∀ x ∈ usedF U j n, (j : Int) ≤ x ∧ x < n := by
  intro x hx
  unfold usedF at hx
  obtain ⟨i, hi, rfl⟩ := List.mem_map.1 hx
  have := List.mem_range'_1.1 (List.mem_filter.1 hi).1
  omega
theorem usedP_eq (os : List OpP) : usedP os = usedF (usedM os os.length) 0 os.length := by
  unfold usedP usedF
  rw [Nat.sub_zero, List.range_eq_range']
theorem usedF_snoc (U : List Bool) (i : Nat) : usedF U 0 (i + 1) = usedF U 0 i ++ (if U.getD i false = true then [(i : Int)] else []) := by
  unfold usedF
  rw [Nat.sub_zero, Nat.sub_zero, ← List.range_eq_range', ← List.range_eq_range', List.range_succ, List.filter_append, List.map_append]
  congr 1
  rw [List.filter_cons, List.filter_nil]
  split <;> rfl
theorem usedF_length (U : List Bool) (j n : Nat) : (usedF U j n).length ≤ n - j := by
  unfold usedF
  rw [List.length_map]
  exact Nat.le_trans (List.length_filter_le _ _) (by simp)
end Go.Proofs.Ytmkfcaahdmdpaaa
/- What putting a number to its place ahead of greater ones does. No condition. -/
namespace Go.Proofs.Ytmkfcaahdmdpaaa
open Go Go.RowKit
set_option linter.unusedVariables false
set_option linter.unusedSimpArgs false
end Go.Proofs.Ytmkfcaahdmdpaaa
/- Rows of the call's own that grow by turns. No condition. -/
namespace Go.Proofs.Ytmkfcaahdmdpaaa
open Go Go.RowKit
set_option linter.unusedVariables false
set_option linter.unusedSimpArgs false
/-- an element is appended to a row of the call's own; where it lies then is told -/
theorem wp_appA {P : Program} {ops : Array Oper} {rest : List Oper} {o : Oper} {a : Act} {Q : Exit → Act → World → Prop} {e : TypeId} {W : World} {cs : Array Value} (hgd : o.guard = none) (s x : Operand) (t : TypeId)
    (ho : o.op = .call { callee := .builtin .append, args := #[s, x], argTypes := #[t, t] })
    (base : Nat) (i : TypeInfo) (z : Value) (size bytes : Nat) (ht : P.underlying t = some (.slice e)) (hi : P.info? e = some i) (hz : i.zero = some z)
    (hsize : i.size = size) (hby : i.bytes = bytes) (hzs : z.cells.size = size) (hsz : 0 < size)
    (hcs : cs.size = size) (h1 : ∀ u ∈ cs.toList, u.oneCell' = true)
    (v : Value) (n : Nat) (xs : List Value) (hs : a.eval s = v) (hown : W.ownsRow base e size v n xs) (hx : a.eval x = .slice (some ⟨W.heap.size, 0, none⟩) 1 1)
    (h63 : n + 1 ≤ maxLen) (hbytes : (n + 1) * bytes ≤ 140737488355328) (hbase : base ≤ W.heap.size)
    (h : ∀ v' w', w'.ownsRow base e size v' (n + 1) (xs ++ cs.toList) → (W.alloc (.cells cs e)).grownBy w' v.ownBlock → (v'.ownBlock = v.ownBlock ∨ v'.ownBlock = some (W.heap.size + 1)) → Below base W w' → base ≤ w'.heap.size → wpList P ops Q rest (a.put o.dst v') w') : wpList P ops Q (o :: rest) a (W.alloc (.cells cs e)) := by
  refine wpList_append_own_at (W.alloc (.cells cs e)) hgd s x t ho base e i z size bytes ht hi hz hsize hby hzs hsz v n xs hs (hown.alloc _) ⟨W.heap.size, 0, none⟩ 1 1 cs.toList hx (by simpa using hcs) ?_ h1 h63 hbytes (by simp; omega) ?_
  · intro j u hj
    rw [Addr.add_lit, World.cell?_alloc_at _ _ _ _ rfl]
    simpa using hj
  · intro v' w' h2 hg _ hat
    have hb : Below base W w' := ((Below.refl _ _).alloc hbase _).grown hg (by simp; omega) (fun j hj => (hown.lt j hj).1)
    refine h v' w' h2 hg (by simpa using hat) hb ?_
    have := hg.size
    simp at this
    omega
/-- two rows of the call's own in blocks of their own -/
structure Two (w : World) (base : Nat) (e1 : TypeId) (v1 : Value) (n1 : Nat) (c1 : List Value) (e2 : TypeId) (v2 : Value) (n2 : Nat) (c2 : List Value) : Prop where
  one : w.ownsRow base e1 1 v1 n1 c1
  two : w.ownsRow base e2 1 v2 n2 c2
  sep : ∀ g, v1.ownBlock = some g → v2.ownBlock ≠ some g
theorem Two.swap {w : World} {base : Nat} {e1 e2 : TypeId} {v1 v2 : Value} {n1 n2 : Nat} {c1 c2 : List Value} (h : Two w base e1 v1 n1 c1 e2 v2 n2 c2) : Two w base e2 v2 n2 c2 e1 v1 n1 c1 := ⟨h.two, h.one, fun g e1 e2 => h.sep g e2 e1⟩
theorem Two.below {w w' : World} {base : Nat} {e1 e2 : TypeId} {v1 v2 : Value} {n1 n2 : Nat} {c1 c2 : List Value} (h : Two w base e1 v1 n1 c1 e2 v2 n2 c2) (hb : Below w.heap.size w w') : Two w' base e1 v1 n1 c1 e2 v2 n2 c2 := ⟨owns_below h.one hb, owns_below h.two hb, h.sep⟩
/-- the first row has grown -/
theorem Two.grow {w w' : World} {base : Nat} {e1 e2 : TypeId} {v1 v2 v' : Value} {n1 n2 n' : Nat} {c1 c2 c' : List Value} {o : Obj} (h : Two w base e1 v1 n1 c1 e2 v2 n2 c2)
    (h1 : w'.ownsRow base e1 1 v' n' c') (hg : (w.alloc o).grownBy w' v1.ownBlock) (hat : v'.ownBlock = v1.ownBlock ∨ v'.ownBlock = some (w.heap.size + 1)) : Two w' base e1 v' n' c' e2 v2 n2 c2 := by
  refine ⟨h1, (h.two.alloc o).kept hg ?_, ?_⟩
  · cases hv : v2.ownBlock with
    | none => exact .inl rfl
    | some g =>
      right
      intro e
      exact h.sep g e.symm hv
  · intro g e1 e2
    rcases hat with hat | hat
    · exact h.sep g (hat.symm.trans e1) e2
    · have := (h.two.lt g e2).2
      rw [hat] at e1
      cases e1
      omega
theorem getD_snoc_left {xs : List Int} {x : Int} {i : Nat} (h : i < xs.length) : (xs ++ [x]).getD i 0 = xs.getD i 0 := by
  rw [List.getD_eq_getElem?_getD, List.getD_eq_getElem?_getD, List.getElem?_append_left h]
theorem getD_snoc_at {xs : List Int} {x : Int} {i : Nat} (h : i = xs.length) : (xs ++ [x]).getD i 0 = x := by
  subst h; simp
end Go.Proofs.Ytmkfcaahdmdpaaa
/- The shapes of the values of a tape: the reference. No condition. -/
namespace Go.Proofs.Ytmkfcaahdmdpaaa
open Go Go.RowKit
set_option linter.unusedVariables false
set_option linter.unusedSimpArgs false
def shTenR : RecT Sh := ⟨27, 3, fun s => [.int .i64 s.1, .int .i64 s.2, .slice none 0 0], fun _ => [], fun _ => True, fun _ => rfl⟩
theorem shapesP_eq {os : List OpP} {n : Nat} (h : n = os.length) (h1 : 1 ≤ n) (h2 : n ≤ 48) : shapesP os = shapesN os n := by
  unfold shapesP; rw [← h, if_pos ⟨h1, h2⟩]
theorem shapesP_no {os : List OpP} {n : Nat} (h : n = os.length) (h1 : ¬(1 ≤ n ∧ n ≤ 48)) : shapesP os = none := by
  unfold shapesP; rw [← h, if_neg h1]
theorem twoB_in {k : Int} (h : twoB k = true) : k = 1 ∨ k = 2 ∨ k = 3 ∨ k = 4 ∨ k = 6 := by
  unfold twoB at h
  simpa using h
theorem oneB_in {k : Int} (h : twoB k = false) : k ≠ 1 ∧ k ≠ 2 ∧ k ≠ 3 ∧ k ≠ 4 ∧ k ≠ 6 := by
  unfold twoB at h
  simp at h
  omega
theorem BoxN.alloc4 (w : World) (o o2 o3 : Obj) (cs : Array Value) (t : TypeId) : BoxN ((((w.alloc o).alloc o2).alloc o3).alloc (.cells cs t)) (w.heap.size + 1 + 1 + 1) cs.toList := by
  have h := BoxN.alloc3 (w.alloc o) o2 o3 cs t
  rwa [show (w.alloc o).heap.size + 2 = w.heap.size + 1 + 1 + 1 by simp] at h
/-- a shape that does not fit -/
theorem shapes_stop {os : List OpP} {n k : Nat} {o : OpP} {S : List Sh} (hn : n = os.length) (h1 : 1 ≤ n) (h2 : n ≤ 48) (ho : os[k]? = some o) (hS : shapesN os k = some S) (h : stepSh S o = none) : shapesP os = none := by
  have hk : k < os.length := (List.getElem?_eq_some_iff.1 ho).1
  rw [shapesP_eq hn h1 h2]
  refine shapesN_none (k := k + 1) ?_ (by omega) (by omega)
  rw [shapesN_succ ho, hS]; exact h
theorem step_unfit {S : List Sh} {o : OpP} (h : fitsB S.length o = false) : stepSh S o = none := by
  unfold stepSh; rw [h]; rfl
theorem shGet_some {S : List Sh} {i : Nat} (h : i < S.length) : S[i]? = some (shGet S (i : Int)) := by
  unfold shGet
  rw [List.getD_eq_getElem?_getD, Int.toNat_natCast, List.getElem?_eq_getElem h]; rfl
/-- what the reference tells of the shapes -/
def ShOut (os : List OpP) (w w' : World) (v : Value) (b : Bool) : Prop := b = (shapesP os).isSome ∧ ∀ S, shapesP os = some S → ∃ ad cap, v = .slice ad S.length cap ∧ OwnR shTenR w' w.heap.size w'.heap.size ad S.length cap S
theorem ShOut.no {os : List OpP} {w w' : World} {v : Value} (h : shapesP os = none) : ShOut os w w' v false := ⟨by rw [h]; rfl, fun S hS => by rw [h] at hS; cases hS⟩
/-- a shape is appended -/
theorem sh_snoc {w W w9 : World} {B k cap : Nat} {ad : Option Addr} {S : List Sh} {s : Sh} {v' : Value} {o : Obj} (h : OwnR shTenR w B w.heap.size ad k cap S) (hB : B ≤ w.heap.size) (hb : Below w.heap.size w W)
    (ho : w9.ownsRow B 27 3 v' (k + 1) (S.flatMap shTenR.cells ++ [.int .i64 s.1, .int .i64 s.2, .slice none 0 0])) (hg : (W.alloc o).grownBy w9 (Value.slice ad k cap).ownBlock) (hat : v'.ownBlock = (Value.slice ad k cap).ownBlock ∨ v'.ownBlock = some (W.heap.size + 1)) :
    ∃ ad' cap', v' = .slice ad' (k + 1) cap' ∧ OwnR shTenR w9 B w9.heap.size ad' (k + 1) cap' (S ++ [s]) :=
  h.snoc hB hb trivial (Own.nil W _ W.heap.size) (Nat.le_refl _) hb.size ho hg hat
theorem sh_row {w W : World} {B k cap : Nat} {ad : Option Addr} {S : List Sh} (h : OwnR shTenR w B w.heap.size ad k cap S) (hb : Below w.heap.size w W) : W.ownsRow B 27 3 (.slice ad k cap) k (S.flatMap shTenR.cells) := (h.below hb).own.head.own
set_option maxHeartbeats 16000000 in
set_option maxRecDepth 100000 in
theorem spec_l04Shapes (w : World) (ad : Option Addr) (cap : Nat) (os : List OpD) (h : SeeR opR w ad cap os) :
    Calls Try.prog 157 #[.slice ad os.length cap] w fun e w' => ∃ v b, e = .returned (.tuple #[v, .bool b]) ∧ Hid (ShOut (os.map OpD.toOpP) w w' v b) ∧ Below w.heap.size w w' := by
  obtain ⟨i0, hi0, hz0, hzs, hz2⟩ := info_parts info_ten
  have hm := Nat.le_trans h.le h.cap
  unfold maxLen at hm
  obtain ⟨n, hN⟩ : ∃ n, n = os.length := ⟨_, rfl⟩
  have hP : n = (os.map OpD.toOpP).length := by rw [List.length_map]; exact hN
  rw [← hN] at hm ⊢
  have HN := Lib.hid hN; have HP := Lib.hid hP; have H := Lib.hid h; clear hN hP h
  by_cases hr : (1 ≤ n ∧ n ≤ 48)
  rotate_left
  · have K := Lib.hid (fun W => l00In_any n 1 48 W)
    have hb : inB n 1 48 = false := by
      cases e : inB (n : Int) 1 48 with
      | false => rfl
      | true => have := inB_iff.1 e; omega
    rw [hb] at K
    have HS := Lib.hid (shapesP_no HP.out hr)
    clear hb hr
    go_enter Try.func157, Try.ntmps157
    go_wp2_with fail
    refine (K.out _).mono ?_
    rintro e w1 ⟨rfl, rfl⟩
    go_wp2
    go_ret2
    exact ⟨_, _, rfl, Lib.hid (ShOut.no HS.out), below1 _ _⟩
  obtain ⟨hn1, hn2⟩ := hr
  have K := Lib.hid (fun W => l00In_any n 1 48 W)
  rw [inB_iff.2 ⟨by omega, by omega⟩] at K
  go_enter Try.func157, Try.ntmps157
  go_wp2_with fail
  refine (K.out _).mono ?_
  rintro e w1 ⟨rfl, rfl⟩
  clear K
  go_wp2
  go_loopw [4, 5] (fun v i wt => ∃ k : Nat, i = .int .i64 k ∧ k ≤ n ∧ ∃ (S : List Sh) (ad' : Option Addr) (cap' : Nat), v = .slice ad' k cap' ∧ Hid (shapesN (os.map OpD.toOpP) k = some S ∧ OwnR shTenR wt w.heap.size wt.heap.size ad' k cap' S) ∧ Hid (Below w.heap.size w wt)) (fun _ i _ => n - (intOf i).toNat)
  case atStart =>
    refine ⟨0, rfl, Nat.zero_le _, [], _, _, rfl, Lib.hid ⟨rfl, ?_⟩, Lib.hid (below1 _ _)⟩
    exact ⟨Own.one (Row.mk' (World.ownsRow_made _ _ _ (Nat.le_refl _) (Nat.zero_le _) rfl)), rfl, fun a ha => (nomatch ha)⟩
  case round =>
    obtain ⟨k, rfl, hk, S, ad', cap', rfl, HS, HB⟩ := hrel
    by_cases hlt : k < n
    · obtain ⟨o, ho⟩ := getElem?_lt (show k < os.length by rw [← HN.out]; exact hlt)
      obtain ⟨b, off, rfl, hbl, ⟨p0, p1, p2, p3, p4, p5, p6⟩, hf, hok⟩ := op_spot (H.out.below HB.out) ho
      have hop : (os.map OpD.toOpP)[k]? = some o.toOpP := by rw [List.getElem?_map, ho]; rfl
      have hSl := shapesN_length (by rw [← HP.out]; omega) HS.out.1
      have hxm : o.xs.length ≤ maxLen := Nat.le_trans hf.len hf.cap
      have hno : ∀ (W : World) (v : Value), fitsB k o.toOpP = false → ShOut (os.map OpD.toOpP) w W v false := fun _ _ h1 => ShOut.no (shapes_stop HP.out hn1 hn2 hop HS.out.1 (step_unfit (by rw [hSl]; exact h1)))
      have hyes : fitsB k o.toOpP = true → shapesN (os.map OpD.toOpP) (k + 1) = (if o.k = 0 then some (S ++ [(o.r, o.c)]) else (shapeOf o.k (shGet S o.a) (shGet S o.b)).map fun s => S ++ [s]) := by
        intro h1
        rw [shapesN_succ hop, HS.out.1]
        show stepSh S o.toOpP = _
        unfold stepSh
        rw [hSl, if_pos h1]
      have hnoS : ∀ (W : World) (v : Value), fitsB k o.toOpP = true → o.k ≠ 0 → shapeOf o.k (shGet S o.a) (shGet S o.b) = none → ShOut (os.map OpD.toOpP) w W v false := fun _ _ h1 h2 h3 => ShOut.no (shapes_stop HP.out hn1 hn2 hop HS.out.1 (by unfold stepSh; rw [hSl, if_pos h1, if_neg h2, h3]; rfl))
      obtain ⟨hok1, hok2, hok3, hok4, hok5, hok6, hok7⟩ := hok
      have HNO := Lib.hid hno; have HY := Lib.hid hyes; have HNS := Lib.hid hnoS; have HSL := Lib.hid hSl
      clear hno hyes hnoS hop ho hf hSl hok1 hok4 hok5 hok6 hok7
      obtain ⟨⟨kk, a, b', q, r, c, xs⟩, adx, capx⟩ := o
      simp only at p0 p1 p2 p3 p4 p5 p6 HY HNO HNS hxm hok2 hok3
      obtain ⟨m, hM⟩ : ∃ m, m = xs.length := ⟨_, rfl⟩
      have hxm : m ≤ maxLen := by rw [hM]; exact hxm
      have HFB : Hid (fitsB k ⟨kk, a, b', q, r, c, xs⟩ = (inB kk 0 10 && ((kk == 5 || zeroB q) && (if kk = 0 then (a == 0 && (b' == 0 && tenB r c m)) else ((r == 0 && (c == 0 && decide (m = 0))) && (inB a 0 (k - 1) && (if twoB kk = true then inB b' 0 (k - 1) else b' == 0))))))) := by
        rw [hM]; unfold fitsB; simp only [Bool.and_assoc]; exact Lib.hid trivial
      rw [← hM] at p6
      clear hM
      have K1 := Lib.hid (fun W => l00In_any kk 0 10 W)
      have K2 := Lib.hid (fun W => spec_l01Same q 0 hok2 (by decide) W)
      cases e1 : inB kk 0 10
      · rw [e1] at K1
        go_wp2_with fail
        refine (K1.out _).mono ?_
        rintro e w1 ⟨rfl, rfl⟩
        have HF := Lib.hid (fun W v => HNO.out W v (by rw [HFB.out, e1]; rfl))
        clear HNO HY HNS HFB e1 K2
        go_wp2
        go_ret2
        exact ⟨_, _, rfl, Lib.hid (HF.out _ _), HB.out.alloc HB.out.size _⟩
      clear K1 K2
      by_cases hk0 : kk = 0
      · as_aux_lemma =>
          subst hk0
          have K1 := Lib.hid (fun W => l00In_any 0 0 10 W)
          rw [show inB (0 : Int) 0 10 = true by decide] at K1
          have K2 := Lib.hid (fun W => spec_l01Same q 0 hok2 (by decide) W)
          have ez : decide (cn .f32 q = cn .f32 0) = zeroB q := rfl
          rw [ez] at K2
          go_wp2_with fail
          refine (K1.out _).mono ?_
          rintro e w1 ⟨rfl, rfl⟩
          cases e2 : zeroB q
          · rw [e2] at K2
            go_wp2_with fail
            refine (K2.out _).mono ?_
            rintro e w1 ⟨rfl, rfl⟩
            have HF := Lib.hid (fun W v => HNO.out W v (by rw [HFB.out, e2]; rfl))
            clear HNO HY HNS HFB HS H
            go_wp2
            go_ret2
            exact ⟨_, _, rfl, Lib.hid (HF.out _ _), HB.out.alloc HB.out.size _⟩
          rw [e2] at K2
          go_wp2_with fail
          refine (K2.out _).mono ?_
          rintro e w1 ⟨rfl, rfl⟩
          cases e4 : (a == 0)
          · have e7 : (a != 0) = true := by simpa [bne] using e4
            have HF := Lib.hid (fun W v => HNO.out W v (by rw [HFB.out, e2, e4]; rfl))
            clear HNO HY HNS HFB HS H
            go_wp2
            go_ret2
            exact ⟨_, _, rfl, Lib.hid (HF.out _ _), HB.out.alloc HB.out.size _⟩
          cases e5 : (b' == 0)
          · obtain rfl : a = 0 := by simpa using e4
            have e7 : (b' != 0) = true := by simpa [bne] using e5
            have HF := Lib.hid (fun W v => HNO.out W v (by rw [HFB.out, e2, e4, e5]; rfl))
            clear HNO HY HNS HFB HS H
            go_wp2
            go_ret2
            exact ⟨_, _, rfl, Lib.hid (HF.out _ _), HB.out.alloc HB.out.size _⟩
          have K3 := Lib.hid (fun W h1 h2 h3 => spec_l02Is W wr.heap.size 4 r c adx m capx hxm h1 h2 h3)
          cases e6 : tenB r c m
          · rw [e6] at K3
            obtain rfl : a = 0 := by simpa using e4
            obtain rfl : b' = 0 := by simpa using e5
            go_wp2_with fail
            refine (K3.out _ (by go_simp) (by go_simp) (by go_simp)).mono ?_
            rintro e w1 ⟨rfl, qd, rfl⟩
            have HF := Lib.hid (fun W v => HNO.out W v (by rw [HFB.out, e2, e6]; rfl))
            clear HNO HY HNS HFB HS H
            go_wp2
            go_ret2
            exact ⟨_, _, rfl, Lib.hid (HF.out _ _), below_drewN (HB.out.alloc HB.out.size _) _⟩
          rw [e6] at K3
          have hfit : fitsB k ⟨0, a, b', q, r, c, xs⟩ = true := by rw [HFB.out, e2, e4, e5, e6]; rfl
          have hya := HY.out hfit
          rw [if_pos (by first | trivial | rfl)] at hya
          obtain rfl : a = 0 := by simpa using e4
          obtain rfl : b' = 0 := by simpa using e5
          clear HNO HY HNS HFB e4 e5 e6 hfit e2
          go_wp2_with fail
          refine (K3.out _ (by go_simp) (by go_simp) (by go_simp)).mono ?_
          rintro e w1 ⟨rfl, qd, rfl⟩
          have HR := Lib.hid (fun W hb => sh_row HS.out.2 (W := W) hb)
          go_wp2_with (at_builtin; refine wp_appA rfl _ _ 41 rfl w.heap.size i0 (.agg #[.int .i64 0, .int .i64 0, .slice none 0 0]) 3 40 Try.underlying41 hi0 hz0 hzs hz2 rfl (by decide) rfl (by intro u hu; simp at hu; rcases hu with rfl | rfl | rfl <;> rfl) _ _ _ rfl (HR.out _ (below_drewN (below1 _ _) _)) (by go_simp) ?c3 ?c4 ?c5 ?_)
          case c3 => unfold maxLen; omega
          case c4 => omega
          case c5 => have := HB.out.size; simp; omega
          intro v' w9 ho9 hg9 hat9 hb9 hs9
          obtain ⟨ad9, cap9, rfl, hown9⟩ := sh_snoc (s := (r, c)) HS.out.2 HB.out.size (below_drewN (below1 _ _) _) ho9 hg9 (by simpa using hat9)
          have HO9 := Lib.hid (And.intro hya hown9); have HB9 := Lib.hid ((below_drewN (HB.out.alloc HB.out.size _) _).trans hb9)
          clear ho9 hg9 hat9 hb9 hya hown9 HR HS HB p0 p1 p2 p3 p4 p5 p6
          go_wp2
          go_roundw
          case rel => exact ⟨k + 1, by go_num, hlt, _, _, _, rfl, HO9, HB9⟩
          case measure => simp [intOf]; omega
      have hk0' : (kk == 0) = false := by simpa using hk0
      by_cases h5 : kk = 5
      · as_aux_lemma =>
          subst h5
          have KT := Lib.hid (fun W => spec_l04Two 5 W)
          rw [show twoB 5 = false by decide] at KT
          have K1 := Lib.hid (fun W => l00In_any 5 0 10 W)
          rw [e1] at K1
          go_wp2_with fail
          refine (K1.out _).mono ?_
          rintro e w1 ⟨rfl, rfl⟩
          have K4 := Lib.hid (fun W h1 h2 h3 => spec_l04None W wr.heap.size 4 r c adx m capx h1 h2 h3)
          cases e4 : (r == 0 && (c == 0 && decide (m = 0)))
          · rw [e4] at K4
            go_wp2_with fail
            refine (K4.out _ (by go_simp) (by go_simp) (by go_simp)).mono ?_
            rintro e w1 ⟨rfl, rfl⟩
            have HF := Lib.hid (fun W v => HNO.out W v (by rw [HFB.out, e1, e4]; rfl))
            clear HNO HY HNS HFB HS H
            go_wp2
            go_ret2
            exact ⟨_, _, rfl, Lib.hid (HF.out _ _), HB.out.alloc HB.out.size _⟩
          rw [e4] at K4
          go_wp2_with fail
          refine (K4.out _ (by go_simp) (by go_simp) (by go_simp)).mono ?_
          rintro e w1 ⟨rfl, rfl⟩
          have K5 := Lib.hid (fun W => l00In_any a 0 (k - 1) W)
          cases e5 : inB a 0 (k - 1)
          · rw [e5] at K5
            go_wp2_with fail
            refine (K5.out _).mono ?_
            rintro e w1 ⟨rfl, rfl⟩
            have HF := Lib.hid (fun W v => HNO.out W v (by rw [HFB.out, e1, e4, e5]; rfl))
            clear HNO HY HNS HFB HS H
            go_wp2
            go_ret2
            exact ⟨_, _, rfl, Lib.hid (HF.out _ _), HB.out.alloc HB.out.size _⟩
          rw [e5] at K5
          go_wp2_with fail
          refine (K5.out _).mono ?_
          rintro e w1 ⟨rfl, rfl⟩
          go_wp2_with fail
          refine (KT.out _).mono ?_
          rintro e w1 ⟨rfl, rfl⟩
          go_wp2_with fail
          refine (KT.out _).mono ?_
          rintro e w1 ⟨rfl, rfl⟩
          cases e6 : (b' == 0)
          · have e7 : (b' != 0) = true := by simpa [bne] using e6
            have HF := Lib.hid (fun W v => HNO.out W v (by rw [HFB.out, e1, e4, e5, e6]; rfl))
            clear HNO HY HNS HFB HS H
            go_wp2
            go_ret2
            exact ⟨_, _, rfl, Lib.hid (HF.out _ _), HB.out.alloc HB.out.size _⟩
          obtain rfl : b' = 0 := by simpa using e6
          have ⟨a1, a2⟩ := inB_iff.1 e5
          obtain ⟨A, rfl⟩ : ∃ A : Nat, a = A := ⟨a.toNat, by omega⟩
          have hfit : fitsB k ⟨5, A, 0, q, r, c, xs⟩ = true := by rw [HFB.out, e1, e4, e5]; rfl
          have hAk : A < k := by omega
          have hBk : 0 < k := by omega
          have hya := HY.out hfit
          rw [if_neg (by decide)] at hya
          have hns := fun W v => HNS.out W v hfit (by decide)
          clear HNO HY HNS HFB e4 e5 e6 K1 K4 K5 KT hfit
          have hsa := shGet_some (S := S) (i := A) (by rw [HSL.out]; exact hAk)
          have hsb := shGet_some (S := S) (i := 0) (by rw [HSL.out]; exact hBk)
          obtain ⟨⟨v1, v2⟩, hv⟩ : ∃ v, v = shGet S A := ⟨_, rfl⟩
          obtain ⟨⟨u1, u2⟩, hu⟩ : ∃ v, v = shGet S 0 := ⟨_, rfl⟩
          rw [← hv] at hsa hya hns
          rw [show ((0 : Nat) : Int) = 0 by rfl, ← hu] at hsb
          rw [← hu] at hya hns
          obtain ⟨g, rfl, hgr, ca, hfz⟩ := HS.out.2.spot hsa (by decide)
          obtain ⟨g', eg, -, cb, -⟩ := HS.out.2.spot hsb (by decide)
          cases eg
          have ca0 : wr.cell? ⟨g, A * 3, none⟩ = some (.int .i64 v1) := ca 0 (by decide)
          have ca1 : wr.cell? ⟨g, A * 3 + 1, none⟩ = some (.int .i64 v2) := ca 1 (by decide)
          have ca2 : wr.cell? ⟨g, A * 3 + 2, none⟩ = some (.slice none 0 0) := ca 2 (by decide)
          have cb0 : wr.cell? ⟨g, 0 * 3, none⟩ = some (.int .i64 u1) := cb 0 (by decide)
          have cb1 : wr.cell? ⟨g, 0 * 3 + 1, none⟩ = some (.int .i64 u2) := cb 1 (by decide)
          have cb2 : wr.cell? ⟨g, 0 * 3 + 2, none⟩ = some (.slice none 0 0) := cb 2 (by decide)
          have hgl := hgr.2.2
          have HGR := Lib.hid hgr
          have HR := Lib.hid (fun W hb => sh_row HS.out.2 (W := W) hb)
          clear ca cb hsa hsb hv hu hgr
          go_upto_block 2 with fail
          go_cut [9] (fun f wx => ∃ b1 : Bool, ∃ s1 s2 : Int, f = .bool b1 ∧ Hid ((b1 = true ∧ shapeOf 5 (v1, v2) (u1, u2) = some (s1, s2)) ∨ (b1 = false ∧ shapeOf 5 (v1, v2) (u1, u2) = none)) ∧ Hid (BoxN wx (wr.heap.size + 1 + 1 + 1) [.int .i64 s1, .int .i64 s2, .slice none 0 0] ∧ Below wr.heap.size wr wx))
          case first =>
            clear hya hns HS HR HB
            go_wp2_with fail
            go_meet
            refine ⟨true, v1, v2, rfl, Lib.hid (.inl ⟨rfl, by simp [shapeOf]⟩), Lib.hid ⟨?_, ?_⟩⟩
            · exact BoxN.alloc4 wr _ _ _ #[.int .i64 v1, .int .i64 v2, .slice none 0 0] 27
            · repeat (first | exact Below.refl _ _ | refine Below.alloc ?_ (by simp; try omega) _)
          case rest =>
            obtain ⟨b1, s1, s2, rfl, HSH, HBX⟩ := hcut
            obtain ⟨bx, hb2⟩ := HBX.out
            obtain ⟨l9, t0, t1, t2, tf⟩ := bx.three
            have HB2 := Lib.hid hb2
            clear bx hb2 HBX p0 p1 p2 p3 p4 p5 p6 ca0 ca1 ca2 cb0 cb1 cb2 hfz
            cases b1
            · have hf : ∀ W v, ShOut (os.map OpD.toOpP) w W v false := fun W v => hns W v (by rcases HSH.out with h | h; exact absurd h.1 (by decide); exact h.2)
              have HF := Lib.hid hf
              clear hns hya hf HSH
              go_wp2
              go_ret2
              exact ⟨_, _, rfl, Lib.hid (HF.out _ _), HB.out.trans (HB2.out.mono HB.out.size)⟩
            · have hsh : shapeOf 5 (v1, v2) (u1, u2) = some (s1, s2) := by
                rcases HSH.out with h | h
                · exact h.2
                · exact absurd h.1 (by decide)
              rw [hsh] at hya
              have HYA := Lib.hid hya
              clear hns hya hsh HSH
              go_wp2_with (at_builtin; refine wp_appA rfl _ _ 41 rfl w.heap.size i0 (.agg #[.int .i64 0, .int .i64 0, .slice none 0 0]) 3 40 Try.underlying41 hi0 hz0 hzs hz2 rfl (by decide) rfl (by intro u hu; simp at hu; rcases hu with rfl | rfl | rfl <;> rfl) _ _ _ rfl (HR.out _ HB2.out) (by go_simp) ?c3 ?c4 ?c5 ?_)
              case c3 => unfold maxLen; omega
              case c4 => omega
              case c5 => exact Nat.le_trans HB.out.size HB2.out.size
              intro v' w9 ho9 hg9 hat9 hb9 hs9
              obtain ⟨ad9, cap9, rfl, hown9⟩ := sh_snoc (s := (s1, s2)) HS.out.2 HB.out.size HB2.out ho9 hg9 (by simpa using hat9)
              have HO9 := Lib.hid (And.intro HYA.out hown9); have HB9 := Lib.hid ((HB.out.trans (HB2.out.mono HB.out.size)).trans hb9)
              clear ho9 hg9 hat9 hb9 HYA hown9 HR HS HB HB2
              go_wp2
              go_roundw
              case rel => exact ⟨k + 1, by go_num, hlt, _, _, _, rfl, HO9, HB9⟩
              case measure => simp [intOf]; omega
      have k5 : (kk == 5) = false := by simpa using h5
      cases hT : twoB kk
      · as_aux_lemma =>
          have KT := Lib.hid (fun W => spec_l04Two kk W)
          rw [hT] at KT
          have K1 := Lib.hid (fun W => l00In_any kk 0 10 W)
          rw [e1] at K1
          go_wp2_with fail
          refine (K1.out _).mono ?_
          rintro e w1 ⟨rfl, rfl⟩
          have K2 := Lib.hid (fun W => spec_l01Same q 0 hok2 (by decide) W)
          have ez : decide (cn .f32 q = cn .f32 0) = zeroB q := rfl
          rw [ez] at K2
          cases e2 : zeroB q
          · rw [e2] at K2
            go_wp2_with fail
            refine (K2.out _).mono ?_
            rintro e w1 ⟨rfl, rfl⟩
            have HF := Lib.hid (fun W v => HNO.out W v (by rw [HFB.out, e1, k5, e2]; rfl))
            clear HNO HY HNS HFB HS H
            go_wp2
            go_ret2
            exact ⟨_, _, rfl, Lib.hid (HF.out _ _), HB.out.alloc HB.out.size _⟩
          rw [e2] at K2
          go_wp2_with fail
          refine (K2.out _).mono ?_
          rintro e w1 ⟨rfl, rfl⟩
          have K4 := Lib.hid (fun W h1 h2 h3 => spec_l04None W wr.heap.size 4 r c adx m capx h1 h2 h3)
          cases e4 : (r == 0 && (c == 0 && decide (m = 0)))
          · rw [e4] at K4
            go_wp2_with fail
            refine (K4.out _ (by go_simp) (by go_simp) (by go_simp)).mono ?_
            rintro e w1 ⟨rfl, rfl⟩
            have HF := Lib.hid (fun W v => HNO.out W v (by rw [HFB.out, e1, k5, e2, if_neg hk0, e4]; rfl))
            clear HNO HY HNS HFB HS H
            go_wp2
            go_ret2
            exact ⟨_, _, rfl, Lib.hid (HF.out _ _), HB.out.alloc HB.out.size _⟩
          rw [e4] at K4
          go_wp2_with fail
          refine (K4.out _ (by go_simp) (by go_simp) (by go_simp)).mono ?_
          rintro e w1 ⟨rfl, rfl⟩
          have K5 := Lib.hid (fun W => l00In_any a 0 (k - 1) W)
          cases e5 : inB a 0 (k - 1)
          · rw [e5] at K5
            go_wp2_with fail
            refine (K5.out _).mono ?_
            rintro e w1 ⟨rfl, rfl⟩
            have HF := Lib.hid (fun W v => HNO.out W v (by rw [HFB.out, e1, k5, e2, if_neg hk0, e4, e5]; rfl))
            clear HNO HY HNS HFB HS H
            go_wp2
            go_ret2
            exact ⟨_, _, rfl, Lib.hid (HF.out _ _), HB.out.alloc HB.out.size _⟩
          rw [e5] at K5
          go_wp2_with fail
          refine (K5.out _).mono ?_
          rintro e w1 ⟨rfl, rfl⟩
          go_wp2_with fail
          refine (KT.out _).mono ?_
          rintro e w1 ⟨rfl, rfl⟩
          go_wp2_with fail
          refine (KT.out _).mono ?_
          rintro e w1 ⟨rfl, rfl⟩
          cases e6 : (b' == 0)
          · have e7 : (b' != 0) = true := by simpa [bne] using e6
            have HF := Lib.hid (fun W v => HNO.out W v (by rw [HFB.out, e1, k5, e2, if_neg hk0, e4, e5, hT, e6]; rfl))
            clear HNO HY HNS HFB HS H
            go_wp2
            go_ret2
            exact ⟨_, _, rfl, Lib.hid (HF.out _ _), HB.out.alloc HB.out.size _⟩
          obtain rfl : b' = 0 := by simpa using e6
          have ⟨a1, a2⟩ := inB_iff.1 e5
          obtain ⟨A, rfl⟩ : ∃ A : Nat, a = A := ⟨a.toNat, by omega⟩
          have hfit : fitsB k ⟨kk, A, 0, q, r, c, xs⟩ = true := by rw [HFB.out, e1, k5, e2, if_neg hk0, e4, e5, hT]; rfl
          have hAk : A < k := by omega
          have hBk : 0 < k := by omega
          have hya := HY.out hfit
          rw [if_neg hk0] at hya
          have hns := fun W v => HNS.out W v hfit hk0
          clear HNO HY HNS HFB e4 e5 e6 K1 K4 K5 KT K2 e2 ez hfit
          have hsa := shGet_some (S := S) (i := A) (by rw [HSL.out]; exact hAk)
          have hsb := shGet_some (S := S) (i := 0) (by rw [HSL.out]; exact hBk)
          obtain ⟨⟨v1, v2⟩, hv⟩ : ∃ v, v = shGet S A := ⟨_, rfl⟩
          obtain ⟨⟨u1, u2⟩, hu⟩ : ∃ v, v = shGet S 0 := ⟨_, rfl⟩
          rw [← hv] at hsa hya hns
          rw [show ((0 : Nat) : Int) = 0 by rfl, ← hu] at hsb
          rw [← hu] at hya hns
          obtain ⟨g, rfl, hgr, ca, hfz⟩ := HS.out.2.spot hsa (by decide)
          obtain ⟨g', eg, -, cb, -⟩ := HS.out.2.spot hsb (by decide)
          cases eg
          have ca0 : wr.cell? ⟨g, A * 3, none⟩ = some (.int .i64 v1) := ca 0 (by decide)
          have ca1 : wr.cell? ⟨g, A * 3 + 1, none⟩ = some (.int .i64 v2) := ca 1 (by decide)
          have ca2 : wr.cell? ⟨g, A * 3 + 2, none⟩ = some (.slice none 0 0) := ca 2 (by decide)
          have cb0 : wr.cell? ⟨g, 0 * 3, none⟩ = some (.int .i64 u1) := cb 0 (by decide)
          have cb1 : wr.cell? ⟨g, 0 * 3 + 1, none⟩ = some (.int .i64 u2) := cb 1 (by decide)
          have cb2 : wr.cell? ⟨g, 0 * 3 + 2, none⟩ = some (.slice none 0 0) := cb 2 (by decide)
          have hgl := hgr.2.2
          have HGR := Lib.hid hgr
          have HR := Lib.hid (fun W hb => sh_row HS.out.2 (W := W) hb)
          clear ca cb hsa hsb hv hu hgr
          go_upto_block 2 with fail
          go_cut [9] (fun f wx => ∃ b1 : Bool, ∃ s1 s2 : Int, f = .bool b1 ∧ Hid ((b1 = true ∧ shapeOf kk (v1, v2) (u1, u2) = some (s1, s2)) ∨ (b1 = false ∧ shapeOf kk (v1, v2) (u1, u2) = none)) ∧ Hid (BoxN wx (wr.heap.size + 1 + 1 + 1) [.int .i64 s1, .int .i64 s2, .slice none 0 0] ∧ Below wr.heap.size wr wx))
          case first =>
            clear hya hns HS HR HB
            rcases (by have := oneB_in hT; have := inB_iff.1 e1; omega : kk = 7 ∨ kk = 8 ∨ kk = 9 ∨ kk = 10) with rfl | rfl | rfl | rfl
            · as_aux_lemma =>
                go_wp2_with fail
                go_meet
                refine ⟨true, v2, v1, rfl, Lib.hid (.inl ⟨rfl, by simp [shapeOf]⟩), Lib.hid ⟨?_, ?_⟩⟩
                · exact BoxN.alloc4 wr _ _ _ #[.int .i64 v2, .int .i64 v1, .slice none 0 0] 27
                · repeat (first | exact Below.refl _ _ | refine Below.alloc ?_ (by simp; try omega) _)
            · as_aux_lemma =>
                go_wp2_with fail
                go_meet
                refine ⟨true, v1, v2, rfl, Lib.hid (.inl ⟨rfl, by simp [shapeOf]⟩), Lib.hid ⟨?_, ?_⟩⟩
                · exact BoxN.alloc4 wr _ _ _ #[.int .i64 v1, .int .i64 v2, .slice none 0 0] 27
                · repeat (first | exact Below.refl _ _ | refine Below.alloc ?_ (by simp; try omega) _)
            · as_aux_lemma =>
                go_wp2_with fail
                go_meet
                refine ⟨true, v1, v2, rfl, Lib.hid (.inl ⟨rfl, by simp [shapeOf]⟩), Lib.hid ⟨?_, ?_⟩⟩
                · exact BoxN.alloc4 wr _ _ _ #[.int .i64 v1, .int .i64 v2, .slice none 0 0] 27
                · repeat (first | exact Below.refl _ _ | refine Below.alloc ?_ (by simp; try omega) _)
            · as_aux_lemma =>
                go_wp2_with fail
                go_meet
                refine ⟨true, 1, 1, rfl, Lib.hid (.inl ⟨rfl, by simp [shapeOf]⟩), Lib.hid ⟨?_, ?_⟩⟩
                · exact BoxN.alloc4 wr _ _ _ #[.int .i64 1, .int .i64 1, .slice none 0 0] 27
                · repeat (first | exact Below.refl _ _ | refine Below.alloc ?_ (by simp; try omega) _)
          case rest =>
            obtain ⟨b1, s1, s2, rfl, HSH, HBX⟩ := hcut
            obtain ⟨bx, hb2⟩ := HBX.out
            obtain ⟨l9, t0, t1, t2, tf⟩ := bx.three
            have HB2 := Lib.hid hb2
            clear bx hb2 HBX p0 p1 p2 p3 p4 p5 p6 ca0 ca1 ca2 cb0 cb1 cb2 hfz
            cases b1
            · have hf : ∀ W v, ShOut (os.map OpD.toOpP) w W v false := fun W v => hns W v (by rcases HSH.out with h | h; exact absurd h.1 (by decide); exact h.2)
              have HF := Lib.hid hf
              clear hns hya hf HSH
              go_wp2
              go_ret2
              exact ⟨_, _, rfl, Lib.hid (HF.out _ _), HB.out.trans (HB2.out.mono HB.out.size)⟩
            · have hsh : shapeOf kk (v1, v2) (u1, u2) = some (s1, s2) := by
                rcases HSH.out with h | h
                · exact h.2
                · exact absurd h.1 (by decide)
              rw [hsh] at hya
              have HYA := Lib.hid hya
              clear hns hya hsh HSH
              go_wp2_with (at_builtin; refine wp_appA rfl _ _ 41 rfl w.heap.size i0 (.agg #[.int .i64 0, .int .i64 0, .slice none 0 0]) 3 40 Try.underlying41 hi0 hz0 hzs hz2 rfl (by decide) rfl (by intro u hu; simp at hu; rcases hu with rfl | rfl | rfl <;> rfl) _ _ _ rfl (HR.out _ HB2.out) (by go_simp) ?c3 ?c4 ?c5 ?_)
              case c3 => unfold maxLen; omega
              case c4 => omega
              case c5 => exact Nat.le_trans HB.out.size HB2.out.size
              intro v' w9 ho9 hg9 hat9 hb9 hs9
              obtain ⟨ad9, cap9, rfl, hown9⟩ := sh_snoc (s := (s1, s2)) HS.out.2 HB.out.size HB2.out ho9 hg9 (by simpa using hat9)
              have HO9 := Lib.hid (And.intro HYA.out hown9); have HB9 := Lib.hid ((HB.out.trans (HB2.out.mono HB.out.size)).trans hb9)
              clear ho9 hg9 hat9 hb9 HYA hown9 HR HS HB HB2
              go_wp2
              go_roundw
              case rel => exact ⟨k + 1, by go_num, hlt, _, _, _, rfl, HO9, HB9⟩
              case measure => simp [intOf]; omega
      · as_aux_lemma =>
          have KT := Lib.hid (fun W => spec_l04Two kk W)
          rw [hT] at KT
          have K1 := Lib.hid (fun W => l00In_any kk 0 10 W)
          rw [e1] at K1
          go_wp2_with fail
          refine (K1.out _).mono ?_
          rintro e w1 ⟨rfl, rfl⟩
          have K2 := Lib.hid (fun W => spec_l01Same q 0 hok2 (by decide) W)
          have ez : decide (cn .f32 q = cn .f32 0) = zeroB q := rfl
          rw [ez] at K2
          cases e2 : zeroB q
          · rw [e2] at K2
            go_wp2_with fail
            refine (K2.out _).mono ?_
            rintro e w1 ⟨rfl, rfl⟩
            have HF := Lib.hid (fun W v => HNO.out W v (by rw [HFB.out, e1, k5, e2]; rfl))
            clear HNO HY HNS HFB HS H
            go_wp2
            go_ret2
            exact ⟨_, _, rfl, Lib.hid (HF.out _ _), HB.out.alloc HB.out.size _⟩
          rw [e2] at K2
          go_wp2_with fail
          refine (K2.out _).mono ?_
          rintro e w1 ⟨rfl, rfl⟩
          have K4 := Lib.hid (fun W h1 h2 h3 => spec_l04None W wr.heap.size 4 r c adx m capx h1 h2 h3)
          cases e4 : (r == 0 && (c == 0 && decide (m = 0)))
          · rw [e4] at K4
            go_wp2_with fail
            refine (K4.out _ (by go_simp) (by go_simp) (by go_simp)).mono ?_
            rintro e w1 ⟨rfl, rfl⟩
            have HF := Lib.hid (fun W v => HNO.out W v (by rw [HFB.out, e1, k5, e2, if_neg hk0, e4]; rfl))
            clear HNO HY HNS HFB HS H
            go_wp2
            go_ret2
            exact ⟨_, _, rfl, Lib.hid (HF.out _ _), HB.out.alloc HB.out.size _⟩
          rw [e4] at K4
          go_wp2_with fail
          refine (K4.out _ (by go_simp) (by go_simp) (by go_simp)).mono ?_
          rintro e w1 ⟨rfl, rfl⟩
          have K5 := Lib.hid (fun W => l00In_any a 0 (k - 1) W)
          cases e5 : inB a 0 (k - 1)
          · rw [e5] at K5
            go_wp2_with fail
            refine (K5.out _).mono ?_
            rintro e w1 ⟨rfl, rfl⟩
            have HF := Lib.hid (fun W v => HNO.out W v (by rw [HFB.out, e1, k5, e2, if_neg hk0, e4, e5]; rfl))
            clear HNO HY HNS HFB HS H
            go_wp2
            go_ret2
            exact ⟨_, _, rfl, Lib.hid (HF.out _ _), HB.out.alloc HB.out.size _⟩
          rw [e5] at K5
          go_wp2_with fail
          refine (K5.out _).mono ?_
          rintro e w1 ⟨rfl, rfl⟩
          go_wp2_with fail
          refine (KT.out _).mono ?_
          rintro e w1 ⟨rfl, rfl⟩
          have K6 := Lib.hid (fun W => l00In_any b' 0 (k - 1) W)
          cases e6 : inB b' 0 (k - 1)
          · rw [e6] at K6
            go_wp2_with fail
            refine (K6.out _).mono ?_
            rintro e w1 ⟨rfl, rfl⟩
            have HF := Lib.hid (fun W v => HNO.out W v (by rw [HFB.out, e1, k5, e2, if_neg hk0, e4, e5, hT, if_pos rfl, e6]; rfl))
            clear HNO HY HNS HFB HS H
            go_wp2
            go_ret2
            exact ⟨_, _, rfl, Lib.hid (HF.out _ _), HB.out.alloc HB.out.size _⟩
          rw [e6] at K6
          go_wp2_with fail
          refine (K6.out _).mono ?_
          rintro e w1 ⟨rfl, rfl⟩
          go_wp2_with fail
          refine (KT.out _).mono ?_
          rintro e w1 ⟨rfl, rfl⟩
          have ⟨a1, a2⟩ := inB_iff.1 e5
          have ⟨b1, b2⟩ := inB_iff.1 e6
          obtain ⟨A, rfl⟩ : ∃ A : Nat, a = A := ⟨a.toNat, by omega⟩
          obtain ⟨B, rfl⟩ : ∃ B : Nat, b' = B := ⟨b'.toNat, by omega⟩
          have hfit : fitsB k ⟨kk, A, B, q, r, c, xs⟩ = true := by rw [HFB.out, e1, k5, e2, if_neg hk0, e4, e5, hT, if_pos rfl, e6]; rfl
          have hAk : A < k := by omega
          have hBk : B < k := by omega
          have hya := HY.out hfit
          rw [if_neg hk0] at hya
          have hns := fun W v => HNS.out W v hfit hk0
          clear HNO HY HNS HFB e4 e5 e6 K1 K4 K5 K6 KT K2 e2 ez hfit
          have hsa := shGet_some (S := S) (i := A) (by rw [HSL.out]; exact hAk)
          have hsb := shGet_some (S := S) (i := B) (by rw [HSL.out]; exact hBk)
          obtain ⟨⟨v1, v2⟩, hv⟩ : ∃ v, v = shGet S A := ⟨_, rfl⟩
          obtain ⟨⟨u1, u2⟩, hu⟩ : ∃ v, v = shGet S B := ⟨_, rfl⟩
          rw [← hv] at hsa hya hns
          rw [← hu] at hsb hya hns
          obtain ⟨g, rfl, hgr, ca, hfz⟩ := HS.out.2.spot hsa (by decide)
          obtain ⟨g', eg, -, cb, -⟩ := HS.out.2.spot hsb (by decide)
          cases eg
          have ca0 : wr.cell? ⟨g, A * 3, none⟩ = some (.int .i64 v1) := ca 0 (by decide)
          have ca1 : wr.cell? ⟨g, A * 3 + 1, none⟩ = some (.int .i64 v2) := ca 1 (by decide)
          have ca2 : wr.cell? ⟨g, A * 3 + 2, none⟩ = some (.slice none 0 0) := ca 2 (by decide)
          have cb0 : wr.cell? ⟨g, B * 3, none⟩ = some (.int .i64 u1) := cb 0 (by decide)
          have cb1 : wr.cell? ⟨g, B * 3 + 1, none⟩ = some (.int .i64 u2) := cb 1 (by decide)
          have cb2 : wr.cell? ⟨g, B * 3 + 2, none⟩ = some (.slice none 0 0) := cb 2 (by decide)
          have hgl := hgr.2.2
          have HGR := Lib.hid hgr
          have HR := Lib.hid (fun W hb => sh_row HS.out.2 (W := W) hb)
          clear ca cb hsa hsb hv hu hgr
          go_upto_block 2 with fail
          go_cut [9] (fun f wx => ∃ b1 : Bool, ∃ s1 s2 : Int, f = .bool b1 ∧ Hid ((b1 = true ∧ shapeOf kk (v1, v2) (u1, u2) = some (s1, s2)) ∨ (b1 = false ∧ shapeOf kk (v1, v2) (u1, u2) = none)) ∧ Hid (BoxN wx (wr.heap.size + 1 + 1 + 1) [.int .i64 s1, .int .i64 s2, .slice none 0 0] ∧ Below wr.heap.size wr wx))
          case first =>
            clear hya hns HS HR HB
            rcases (twoB_in hT) with rfl | rfl | rfl | rfl | rfl
            · as_aux_lemma =>
                by_cases hf3 : v1 = u1
                · subst hf3
                  by_cases hf2 : v2 = u2
                  · subst hf2
                    have t1 : (v1 == v1) = true := beq_self_eq_true _
                    have t2 : (v2 == v2) = true := beq_self_eq_true _
                    go_wp2_with fail
                    go_meet
                    refine ⟨true, v1, v2, rfl, Lib.hid (.inl ⟨rfl, by simp [shapeOf]⟩), Lib.hid ⟨?_, ?_⟩⟩
                    · exact BoxN.alloc4 wr _ _ _ #[.int .i64 v1, .int .i64 v2, .slice none 0 0] 27
                    · repeat (first | exact Below.refl _ _ | refine Below.alloc ?_ (by simp; try omega) _)
                  · have t1 : (v1 == v1) = true := beq_self_eq_true _
                    have t2 : (v2 == u2) = false := by simpa using hf2
                    go_wp2_with fail
                    go_meet
                    refine ⟨false, v1, v2, rfl, Lib.hid (.inr ⟨rfl, by simp [shapeOf, hf2]⟩), Lib.hid ⟨?_, ?_⟩⟩
                    · exact BoxN.alloc4 wr _ _ _ #[.int .i64 v1, .int .i64 v2, .slice none 0 0] 27
                    · repeat (first | exact Below.refl _ _ | refine Below.alloc ?_ (by simp; try omega) _)
                · have t1 : (v1 == u1) = false := by simpa using hf3
                  go_wp2_with fail
                  go_meet
                  refine ⟨false, v1, v2, rfl, Lib.hid (.inr ⟨rfl, by simp [shapeOf, hf3]⟩), Lib.hid ⟨?_, ?_⟩⟩
                  · exact BoxN.alloc4 wr _ _ _ #[.int .i64 v1, .int .i64 v2, .slice none 0 0] 27
                  · repeat (first | exact Below.refl _ _ | refine Below.alloc ?_ (by simp; try omega) _)
            · as_aux_lemma =>
                by_cases hf3 : u1 = 1
                · subst hf3
                  by_cases hf2 : v2 = u2
                  · subst hf2
                    have t2 : (v2 == v2) = true := beq_self_eq_true _
                    go_wp2_with fail
                    go_meet
                    refine ⟨true, v1, v2, rfl, Lib.hid (.inl ⟨rfl, by simp [shapeOf]⟩), Lib.hid ⟨?_, ?_⟩⟩
                    · exact BoxN.alloc4 wr _ _ _ #[.int .i64 v1, .int .i64 v2, .slice none 0 0] 27
                    · repeat (first | exact Below.refl _ _ | refine Below.alloc ?_ (by simp; try omega) _)
                  · have t2 : (v2 == u2) = false := by simpa using hf2
                    go_wp2_with fail
                    go_meet
                    refine ⟨false, v1, v2, rfl, Lib.hid (.inr ⟨rfl, by simp [shapeOf, Ne.symm hf2]⟩), Lib.hid ⟨?_, ?_⟩⟩
                    · exact BoxN.alloc4 wr _ _ _ #[.int .i64 v1, .int .i64 v2, .slice none 0 0] 27
                    · repeat (first | exact Below.refl _ _ | refine Below.alloc ?_ (by simp; try omega) _)
                · have t1 : (u1 == 1) = false := by simpa using hf3
                  go_wp2_with fail
                  go_meet
                  refine ⟨false, v1, v2, rfl, Lib.hid (.inr ⟨rfl, by simp [shapeOf, hf3]⟩), Lib.hid ⟨?_, ?_⟩⟩
                  · exact BoxN.alloc4 wr _ _ _ #[.int .i64 v1, .int .i64 v2, .slice none 0 0] 27
                  · repeat (first | exact Below.refl _ _ | refine Below.alloc ?_ (by simp; try omega) _)
            · as_aux_lemma =>
                by_cases hf3 : v1 = u1
                · subst hf3
                  by_cases hf2 : v2 = u2
                  · subst hf2
                    have t1 : (v1 == v1) = true := beq_self_eq_true _
                    have t2 : (v2 == v2) = true := beq_self_eq_true _
                    go_wp2_with fail
                    go_meet
                    refine ⟨true, v1, v2, rfl, Lib.hid (.inl ⟨rfl, by simp [shapeOf]⟩), Lib.hid ⟨?_, ?_⟩⟩
                    · exact BoxN.alloc4 wr _ _ _ #[.int .i64 v1, .int .i64 v2, .slice none 0 0] 27
                    · repeat (first | exact Below.refl _ _ | refine Below.alloc ?_ (by simp; try omega) _)
                  · have t1 : (v1 == v1) = true := beq_self_eq_true _
                    have t2 : (v2 == u2) = false := by simpa using hf2
                    go_wp2_with fail
                    go_meet
                    refine ⟨false, v1, v2, rfl, Lib.hid (.inr ⟨rfl, by simp [shapeOf, hf2]⟩), Lib.hid ⟨?_, ?_⟩⟩
                    · exact BoxN.alloc4 wr _ _ _ #[.int .i64 v1, .int .i64 v2, .slice none 0 0] 27
                    · repeat (first | exact Below.refl _ _ | refine Below.alloc ?_ (by simp; try omega) _)
                · have t1 : (v1 == u1) = false := by simpa using hf3
                  go_wp2_with fail
                  go_meet
                  refine ⟨false, v1, v2, rfl, Lib.hid (.inr ⟨rfl, by simp [shapeOf, hf3]⟩), Lib.hid ⟨?_, ?_⟩⟩
                  · exact BoxN.alloc4 wr _ _ _ #[.int .i64 v1, .int .i64 v2, .slice none 0 0] 27
                  · repeat (first | exact Below.refl _ _ | refine Below.alloc ?_ (by simp; try omega) _)
            · as_aux_lemma =>
                by_cases hf3 : u1 = 1
                · subst hf3
                  by_cases hf2 : v2 = u2
                  · subst hf2
                    have t2 : (v2 == v2) = true := beq_self_eq_true _
                    go_wp2_with fail
                    go_meet
                    refine ⟨true, v1, v2, rfl, Lib.hid (.inl ⟨rfl, by simp [shapeOf]⟩), Lib.hid ⟨?_, ?_⟩⟩
                    · exact BoxN.alloc4 wr _ _ _ #[.int .i64 v1, .int .i64 v2, .slice none 0 0] 27
                    · repeat (first | exact Below.refl _ _ | refine Below.alloc ?_ (by simp; try omega) _)
                  · have t2 : (v2 == u2) = false := by simpa using hf2
                    go_wp2_with fail
                    go_meet
                    refine ⟨false, v1, v2, rfl, Lib.hid (.inr ⟨rfl, by simp [shapeOf, Ne.symm hf2]⟩), Lib.hid ⟨?_, ?_⟩⟩
                    · exact BoxN.alloc4 wr _ _ _ #[.int .i64 v1, .int .i64 v2, .slice none 0 0] 27
                    · repeat (first | exact Below.refl _ _ | refine Below.alloc ?_ (by simp; try omega) _)
                · have t1 : (u1 == 1) = false := by simpa using hf3
                  go_wp2_with fail
                  go_meet
                  refine ⟨false, v1, v2, rfl, Lib.hid (.inr ⟨rfl, by simp [shapeOf, hf3]⟩), Lib.hid ⟨?_, ?_⟩⟩
                  · exact BoxN.alloc4 wr _ _ _ #[.int .i64 v1, .int .i64 v2, .slice none 0 0] 27
                  · repeat (first | exact Below.refl _ _ | refine Below.alloc ?_ (by simp; try omega) _)
            · as_aux_lemma =>
                by_cases hf3 : v2 = u1
                · subst hf3
                  have t2 : (v2 == v2) = true := beq_self_eq_true _
                  go_wp2_with fail
                  go_meet
                  refine ⟨true, v1, u2, rfl, Lib.hid (.inl ⟨rfl, by simp [shapeOf]⟩), Lib.hid ⟨?_, ?_⟩⟩
                  · exact BoxN.alloc4 wr _ _ _ #[.int .i64 v1, .int .i64 u2, .slice none 0 0] 27
                  · repeat (first | exact Below.refl _ _ | refine Below.alloc ?_ (by simp; try omega) _)
                · have t1 : (v2 == u1) = false := by simpa using hf3
                  go_wp2_with fail
                  go_meet
                  refine ⟨false, v1, u2, rfl, Lib.hid (.inr ⟨rfl, by simp [shapeOf, hf3]⟩), Lib.hid ⟨?_, ?_⟩⟩
                  · exact BoxN.alloc4 wr _ _ _ #[.int .i64 v1, .int .i64 u2, .slice none 0 0] 27
                  · repeat (first | exact Below.refl _ _ | refine Below.alloc ?_ (by simp; try omega) _)
          case rest =>
            obtain ⟨b1, s1, s2, rfl, HSH, HBX⟩ := hcut
            obtain ⟨bx, hb2⟩ := HBX.out
            obtain ⟨l9, t0, t1, t2, tf⟩ := bx.three
            have HB2 := Lib.hid hb2
            clear bx hb2 HBX p0 p1 p2 p3 p4 p5 p6 ca0 ca1 ca2 cb0 cb1 cb2 hfz
            cases b1
            · have hf : ∀ W v, ShOut (os.map OpD.toOpP) w W v false := fun W v => hns W v (by rcases HSH.out with h | h; exact absurd h.1 (by decide); exact h.2)
              have HF := Lib.hid hf
              clear hns hya hf HSH
              go_wp2
              go_ret2
              exact ⟨_, _, rfl, Lib.hid (HF.out _ _), HB.out.trans (HB2.out.mono HB.out.size)⟩
            · have hsh : shapeOf kk (v1, v2) (u1, u2) = some (s1, s2) := by
                rcases HSH.out with h | h
                · exact h.2
                · exact absurd h.1 (by decide)
              rw [hsh] at hya
              have HYA := Lib.hid hya
              clear hns hya hsh HSH
              go_wp2_with (at_builtin; refine wp_appA rfl _ _ 41 rfl w.heap.size i0 (.agg #[.int .i64 0, .int .i64 0, .slice none 0 0]) 3 40 Try.underlying41 hi0 hz0 hzs hz2 rfl (by decide) rfl (by intro u hu; simp at hu; rcases hu with rfl | rfl | rfl <;> rfl) _ _ _ rfl (HR.out _ HB2.out) (by go_simp) ?c3 ?c4 ?c5 ?_)
              case c3 => unfold maxLen; omega
              case c4 => omega
              case c5 => exact Nat.le_trans HB.out.size HB2.out.size
              intro v' w9 ho9 hg9 hat9 hb9 hs9
              obtain ⟨ad9, cap9, rfl, hown9⟩ := sh_snoc (s := (s1, s2)) HS.out.2 HB.out.size HB2.out ho9 hg9 (by simpa using hat9)
              have HO9 := Lib.hid (And.intro HYA.out hown9); have HB9 := Lib.hid ((HB.out.trans (HB2.out.mono HB.out.size)).trans hb9)
              clear ho9 hg9 hat9 hb9 HYA hown9 HR HS HB HB2
              go_wp2
              go_roundw
              case rel => exact ⟨k + 1, by go_num, hlt, _, _, _, rfl, HO9, HB9⟩
              case measure => simp [intOf]; omega
    · have hkn : k = n := by omega
      subst hkn
      have hf : ShOut (os.map OpD.toOpP) w wr (.slice ad' k cap') true := by
        have hl := shapesN_length (by rw [← HP.out]; exact Nat.le_refl _) HS.out.1
        have he := (shapesP_eq HP.out hn1 hn2).trans HS.out.1
        refine ⟨by rw [he]; rfl, fun S' hS' => ?_⟩
        rw [he] at hS'; cases hS'
        rw [hl]
        exact ⟨_, _, rfl, HS.out.2⟩
      have HF := Lib.hid hf; clear hf
      go_wp2
      go_ret2
      exact ⟨_, _, rfl, HF, HB.out⟩
end Go.Proofs.Ytmkfcaahdmdpaaa
/- Which operations a tape's last value depends on: the reference. No condition. -/
namespace Go.Proofs.Ytmkfcaahdmdpaaa
open Go Go.RowKit
set_option linter.unusedVariables false
set_option linter.unusedSimpArgs false
theorem spec_l04Is (w : World) (ad : Option Addr) (cap : Nat) (os : List OpD) (h : SeeR opR w ad cap os) :
    Calls Try.prog 172 #[.slice ad os.length cap] w fun e w' => e = .returned (.bool (shapesP (os.map OpD.toOpP)).isSome) ∧ Below w.heap.size w w' := by
  have K := Lib.hid (spec_l04Shapes w ad cap os h)
  clear h
  go_enter Try.func172, Try.ntmps172
  go_wp2_with fail
  refine K.out.mono ?_
  rintro e w1 ⟨v, b, rfl, hs, hb⟩
  have HS := Lib.hid hs.out.1
  clear hs
  go_wp2
  go_ret
  exact ⟨by rw [HS.out]; rfl, hb⟩
end Go.Proofs.Ytmkfcaahdmdpaaa
