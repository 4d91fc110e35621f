/- What the exponential functions of both sides compute. No condition. -/
import Derived.Test.YtaocilimggpdjaaClp
import Derived.Test.YtaocilimggpdjaaQg
namespace Go.Proofs.Ytaocilimggpdjaa
open Go Go.RowKit
set_option linter.unusedVariables false
set_option linter.unusedSimpArgs false
def O64 : Nat := 4607182418800017408
def kW (j : Nat) : Nat := floatOfInt .f64 ((12 - j : Nat) : Int)
def hornE (t : Nat) : Nat → Nat
  | 0 => O64
  | j + 1 => fop .add .f64 O64 (fop .quo .f64 (fop .mul .f64 t (hornE t j)) (kW j))
def sqE (p : Nat) : Nat → Nat
  | 0 => p
  | j + 1 => fop .mul .f64 (sqE p j) (sqE p j)
/-- the exponential function in 64 bits -/
def expW (x : Nat) : Nat := sqE (hornE (fop .quo .f64 x 4643211215818981376) 12) 8
theorem kW_facts : ∀ j, j < 12 → (floatBits .sub .f64 (kW j) O64 = some (kW (j + 1)) ∧ (FloatKind.f64.format.order (kW j) O64 = some .gt ∨ FloatKind.f64.format.order (kW j) O64 = some .eq) ∧ kW (j + 1) < kW j) := by decide +kernel
theorem kW_end : FloatKind.f64.format.order (kW 12) O64 = some .lt := by decide +kernel
theorem kW_zero : kW 0 = 4622945017495814144 := by decide +kernel
theorem cn_O64 : cn .f64 O64 = O64 := by decide +kernel
theorem cn_kW (j : Nat) : cn .f64 (kW j) = kW j := cn_floatOfInt _ _
theorem cn_256 : cn .f64 4643211215818981376 = 4643211215818981376 := by decide +kernel
def fltOf : Value → Nat
  | .float _ b => b
  | _ => 0
theorem cn_horn {a t k j : Nat} (T : Nat) (hk : k = kW j) (ha : cn .f64 a = hornE T j) (ht : cn .f64 t = T) (w1 w2 w3 : World) : cn .f64 (fbits .add .f64 4607182418800017408 (fbits .quo .f64 (fbits .mul .f64 t a w1) k w2) w3) = hornE T (j + 1) := by
  rw [cn_fbits, cn_fbits, cn_fbits, ha, ht, hk, cn_kW]
  show fop .add .f64 (cn .f64 O64) _ = _
  rw [cn_O64]; rfl
theorem cn_sq {a p j : Nat} (ha : cn .f64 a = sqE p j) (w1 : World) : cn .f64 (fbits .mul .f64 a a w1) = sqE p (j + 1) := by
  rw [cn_fbits, ha]; rfl
set_option maxRecDepth 100000 in
set_option maxHeartbeats 1000000 in
theorem impl_exp64 (x : Nat) (w : World) : Calls Try.prog 97 #[.float .f64 x] w fun e w' => ∃ r, e = .returned (.float .f64 r) ∧ Hid (cn .f64 r = expW (cn .f64 x)) ∧ Dr w w' := by
  go_enter Try.func97, Try.ntmps97
  go_wp2
  generalize ht : fbits BinOp.quo FloatKind.f64 x 4643211215818981376 _ = t
  have htc : cn .f64 t = fop .quo .f64 (cn .f64 x) 4643211215818981376 := by rw [← ht, cn_fbits, cn_256]
  clear ht
  obtain ⟨T, hT⟩ : ∃ T, T = fop .quo .f64 (cn .f64 x) 4643211215818981376 := ⟨_, rfl⟩
  rw [← hT] at htc
  have HT := Lib.hid hT; have HTC := Lib.hid htc
  clear hT htc
  go_loopw [4, 5] (fun p k wr => ∃ j : Nat, j ≤ 12 ∧ ∃ a kv, k = .float .f64 kv ∧ p = .float .f64 a ∧ Hid (kv = kW j ∧ cn .f64 a = hornE T j) ∧ Dr w wr) (fun _ k _ => fltOf k)
  case atStart => exact ⟨0, by omega, _, _, rfl, rfl, Lib.hid ⟨kW_zero.symm, cn_O64⟩, (Dr.refl _).drewN _⟩
  case round =>
    obtain ⟨j, hj, a, kv, rfl, rfl, HK, hd⟩ := hrel
    have HD := Lib.hid hd; clear hd
    by_cases hlt : j < 12
    · obtain ⟨f1, f2, f3⟩ := kW_facts j hlt
      rw [← HK.out.1] at f1 f2 f3
      obtain ⟨kn, hkn⟩ : ∃ kn, kn = kW (j + 1) := ⟨_, rfl⟩
      rw [← hkn] at f1 f3
      have HKN := Lib.hid hkn
      have g1 := fun w => fbits_some f1 w
      have g2 := fdr_some f1
      unfold O64 at f2 g1 g2
      clear hkn f1
      rcases f2 with f2 | f2
      all_goals
        go_wp2
        go_roundw
        case rel => exact ⟨j + 1, hlt, _, _, rfl, rfl, Lib.hid ⟨HKN.out, cn_horn T HK.out.1 HK.out.2 HTC.out _ _ _⟩, HD.out.drewN _⟩
        case measure => simp [fltOf]; omega
    · have hj12 : j = 12 := by omega
      subst hj12
      have f2 := kW_end
      rw [← HK.out.1] at f2
      unfold O64 at f2
      obtain ⟨wo, hwo⟩ : ∃ wo : World, wo = wr := ⟨_, rfl⟩
      subst hwo
      go_wp2
      go_loopw [4, 18] (fun p i wr => ∃ j : Nat, i = .int .i64 j ∧ j ≤ 8 ∧ ∃ a, p = .float .f64 a ∧ Hid (cn .f64 a = sqE (hornE T 12) j) ∧ Dr wo wr) (fun _ i _ => 8 - (intOf i).toNat)
      case atStart => exact ⟨0, rfl, by omega, _, rfl, Lib.hid HK.out.2, Dr.refl _⟩
      case round =>
        obtain ⟨j, rfl, hj, b, rfl, HB, hd⟩ := hrel
        have HD2 := Lib.hid hd; clear hd
        by_cases hlt : j < 8
        · go_wp2
          go_roundw
          case rel => exact ⟨j + 1, by go_num, hlt, _, rfl, Lib.hid (cn_sq HB.out _), HD2.out.drewN _⟩
          case measure => simp [intOf]; omega
        · have hj8 : j = 8 := by omega
          subst hj8
          go_wp2
          go_ret
          exact ⟨_, rfl, Lib.hid (by rw [HB.out, HT.out]; rfl), HD.out.trans HD2.out⟩
def INF64 : Nat := 9218868437227405312
def expS (y : Nat) : Nat := if isN .f64 y = true then nanOf .f64 else if FloatKind.f64.format.order y 4641240890982006784 = some .gt then INF64 else if FloatKind.f64.format.order y 13864612927836782592 = some .lt then 0 else expW y
set_option maxRecDepth 100000 in
set_option maxHeartbeats 1000000 in
theorem spec_l01ExpWide (x : Nat) (hgt : FloatKind.f64.format.order x 4641240890982006784 ≠ some .gt) (w : World) : Calls Try.prog 142 #[.float .f64 x] w fun e w' => ∃ r, e = .returned (.float .f64 r) ∧ Hid (cn .f64 r = expS (cn .f64 x)) ∧ Dr w w' := by
  cases hn : isN .f64 x
  · have ho : FloatKind.f64.format.order x x = some .eq := by rw [order_self, hn]; rfl
    have hcx : cn .f64 x = x := cn_not hn
    have b1 : (FloatKind.f64.format.order x 4641240890982006784 == some .gt) = false := by simpa using hgt
    by_cases hlt : FloatKind.f64.format.order x 13864612927836782592 = some .lt
    · have hE : expS (cn .f64 x) = 0 := by unfold expS; rw [hcx, hn, if_neg (by decide), if_neg hgt, if_pos hlt]
      rw [hE]
      clear hgt
      go_enter Try.func142, Try.ntmps142
      go_wp2
      go_ret
      exact ⟨0, rfl, Lib.hid (by decide +kernel), Dr.refl _⟩
    · have hE : expS (cn .f64 x) = expW (cn .f64 x) := by unfold expS; rw [hcx, hn, if_neg (by decide), if_neg hgt, if_neg hlt]
      rw [hE]
      have b2 : (FloatKind.f64.format.order x 13864612927836782592 == some .lt) = false := by simpa using hlt
      clear hE hcx hlt hgt
      go_enter Try.func142, Try.ntmps142
      go_wp2
      generalize ht : fbits BinOp.quo FloatKind.f64 x 4643211215818981376 _ = t
      have htc : cn .f64 t = fop .quo .f64 (cn .f64 x) 4643211215818981376 := by rw [← ht, cn_fbits, cn_256]
      clear ht
      obtain ⟨T, hT⟩ : ∃ T, T = fop .quo .f64 (cn .f64 x) 4643211215818981376 := ⟨_, rfl⟩
      rw [← hT] at htc
      have HT := Lib.hid hT; have HTC := Lib.hid htc
      clear hT htc
      go_loopw [4, 5] (fun p k wr => ∃ j : Nat, k = .int .i64 ((12 - j : Nat) : Int) ∧ j ≤ 12 ∧ ∃ a, p = .float .f64 a ∧ Hid (cn .f64 a = hornE T j) ∧ Dr w wr) (fun _ k _ => (intOf k).toNat)
      case atStart => exact ⟨0, rfl, by omega, _, rfl, Lib.hid cn_O64, (Dr.refl _).drewN _⟩
      case round =>
        obtain ⟨j, rfl, hj, a, rfl, HK, hd⟩ := hrel
        have HD := Lib.hid hd; clear hd
        obtain ⟨q, hq⟩ : ∃ q : Nat, q = 12 - j := ⟨_, rfl⟩
        rw [← hq]
        by_cases hl : j < 12
        · have hq1 : (1 : Int) ≤ q := by omega
          have hq12 : q ≤ 12 := by omega
          have hf : floatOfInt .f64 (q : Int) = kW j := by rw [hq]; rfl
          have HQ := Lib.hid hq; have HF := Lib.hid hf
          clear hq hf
          go_wp2
          go_roundw
          case rel => exact ⟨j + 1, by have := HQ.out; go_num, hl, _, rfl, Lib.hid (cn_horn T HF.out HK.out HTC.out _ _ _), HD.out.drewN _⟩
          case measure => simp [intOf]; omega
        · have hj12 : j = 12 := by omega
          have hq0 : q = 0 := by omega
          subst hj12 hq0
          clear hq
          obtain ⟨wo, hwo⟩ : ∃ wo : World, wo = wr := ⟨_, rfl⟩
          subst hwo
          go_wp2
          go_loopw [4, 6] (fun p i wr => ∃ j : Nat, i = .int .i64 j ∧ j ≤ 8 ∧ ∃ a, p = .float .f64 a ∧ Hid (cn .f64 a = sqE (hornE T 12) j) ∧ Dr wo wr) (fun _ i _ => 8 - (intOf i).toNat)
          case atStart => exact ⟨0, rfl, by omega, _, rfl, HK, Dr.refl _⟩
          case round =>
            obtain ⟨j, rfl, hj, b, rfl, HB, hd⟩ := hrel
            have HD2 := Lib.hid hd; clear hd
            by_cases hlt : j < 8
            · go_wp2
              go_roundw
              case rel => exact ⟨j + 1, by go_num, hlt, _, rfl, Lib.hid (cn_sq HB.out _), HD2.out.drewN _⟩
              case measure => simp [intOf]; omega
            · have hj8 : j = 8 := by omega
              subst hj8
              go_wp2
              go_ret
              exact ⟨_, rfl, Lib.hid (by rw [HB.out, HT.out]; rfl), HD.out.trans HD2.out⟩
  · have ho : FloatKind.f64.format.order x x = none := by rw [order_self, hn]; rfl
    go_enter Try.func142, Try.ntmps142
    go_wp2
    go_ret
    exact ⟨x, rfl, Lib.hid (by unfold expS; rw [isN_cn, hn, if_pos rfl, cn_nan hn]), Dr.refl _⟩
end Go.Proofs.Ytaocilimggpdjaa
