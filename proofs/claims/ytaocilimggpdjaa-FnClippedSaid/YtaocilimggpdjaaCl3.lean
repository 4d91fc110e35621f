/- Plain laws of FnClipped, and what it calls. No condition. -/
import Derived.Test.YtaocilimggpdjaaCl2
import Derived.Test.YtaocilimggpdjaaDrl
import Derived.Test.YtaocilimggpdjaaTen
import Derived.Test.YtaocilimggpdjaaDecay
import Derived.Test.YtaocilimggpdjaaRate
import Derived.Test.YtaocilimggpdjaaWSum
import Derived.Test.YtaocilimggpdjaaEnt
namespace Go.Proofs.Ytaocilimggpdjaa
open Go Go.RowKit Ieee
set_option linter.unusedVariables false
set_option linter.unusedSimpArgs false
/-- plain numbers -/
def okGb (x : Nat) : Bool := decide (x % 2147483648 < 2139095040) && decide (val single x * val single x = 0 ∨ 1 / 256 ≤ val single x * val single x) && decide (val single x * val single x ≤ 90)
theorem pl_facts : ∀ j, j < 129 → okGb (plainQ 1088421888 j) = true ∧ okGb (plainQ 1098907648 j) = true := by decide +kernel
theorem pl_same : ∀ j, j < 129 → FloatKind.f32.format.order (decF 0 (plainQ 1088421888 j)) (plainQ 1088421888 j) = some .eq ∧ FloatKind.f32.format.order (decF 0 (plainQ 1098907648 j)) (plainQ 1098907648 j) = some .eq := by decide +kernel
def powOk (b : Nat) : Nat → Nat → Bool
  | 0, a => !isN .f32 a
  | k + 1, a => !isN .f32 a && powOk b k (fop .mul .f32 a b)
theorem pl_pow : ∀ j, j < 129 → powOk (plainQ 1088421888 j) 20 1065353216 = true ∧ powOk (plainQ 1098907648 j) 20 1065353216 = true := by decide +kernel
theorem fin_of {x : Nat} (hx : x < 4294967296) (h : x % 2147483648 < 2139095040) : Fin single x := by
  obtain ⟨s, r, rfl, hr⟩ := word_of single (x := x) (by rw [s_sw]; omega)
  refine ⟨s, r, rfl, ?_⟩
  rw [s_ir]
  rw [s_sw] at hr
  have e : single.word s r % 2147483648 = r := by
    unfold Format.word
    rw [s_sw]
    cases s <;> simp <;> omega
  omega
theorem okGb_ok {x : Nat} (hx : x < 4294967296) (h : okGb x = true) : okG x := by
  unfold okGb at h
  simp only [Bool.and_eq_true, decide_eq_true_eq] at h
  exact ⟨fin_of hx h.1.1, h.1.2, h.2⟩
theorem isPl.ok {x : Nat} (h : isPl x) : okG x := by
  refine okGb_ok (isPl_lt h) ?_
  obtain ⟨j, hj, h⟩ := h
  rcases h with rfl | rfl
  · exact (pl_facts j hj).1
  · exact (pl_facts j hj).2
theorem isPl.same {x : Nat} (h : isPl x) : FloatKind.f32.format.order (decF 0 x) x = some .eq := by
  obtain ⟨j, hj, h⟩ := h
  rcases h with rfl | rfl
  · exact (pl_same j hj).1
  · exact (pl_same j hj).2
theorem isPl.cn {x : Nat} (h : isPl x) : cn .f32 x = x := cn_not (Fin.not (k := .f32) h.ok.1)
theorem powOk_at {b : Nat} : ∀ n m, powOk b n (powF b m) = true → ∀ k, k ≤ n → isN .f32 (powF b (m + k)) = false
  | 0, m, h, k, hk => by
    have : k = 0 := by omega
    subst this
    simpa [powOk] using h
  | n + 1, m, h, k, hk => by
    unfold powOk at h
    simp only [Bool.and_eq_true, Bool.not_eq_true'] at h
    cases k with
    | zero => exact h.1
    | succ k =>
      have := powOk_at n (m + 1) h.2 k (by omega)
      rw [show m + (k + 1) = m + 1 + k by omega]; exact this
theorem isPl.pow {x : Nat} (h : isPl x) {k : Nat} (hk : k ≤ 20) : isN .f32 (powF x k) = false := by
  have hp : powOk x 20 (powF x 0) = true := by
    obtain ⟨j, hj, h⟩ := h
    rcases h with rfl | rfl
    · exact (pl_pow j hj).1
    · exact (pl_pow j hj).2
  have := powOk_at 20 0 hp k hk
  rwa [Nat.zero_add] at this
theorem powF_lt (b k : Nat) : powF b k < 4294967296 := by
  cases k with
  | zero => unfold powF; decide
  | succ k => exact fop_lt _ _
theorem cn_word {x y : Nat} (h : cn .f32 y = x) (hx : isN .f32 x = false) : y = x := by
  have h1 : isN .f32 y = false := by rw [← isN_cn, h]; exact hx
  rwa [cn_not h1] at h
/-- the greatest length -/
def mW (j : Nat) : Nat := fop .quo .f32 (floatOfInt .f32 (1 + (j : Int))) 1090519040
def mP (j : Nat) : Nat := fop .mul .f64 (fcv .f32 (mW j) .f64) 4607182463836013682
theorem mW_facts : ∀ j : Nat, j < 64 → floatBits .quo .f32 (floatOfInt .f32 (1 + (j : Int))) 1090519040 = some (mW j) ∧ floatBits .mul .f64 (fcv .f32 (mW j) .f64) 4607182463836013682 = some (mP j) ∧ mW j < 2139095040 ∧ mP j < 9218868437227405312 ∧ 1 / 8 ≤ val single (mW j) ∧ cLim * val single (mW j) ≤ val double (mP j) := by decide +kernel
theorem mW_fin {j : Nat} (hj : j < 64) : Fin single (mW j) := ⟨false, mW j, rfl, by rw [s_ir]; exact (mW_facts j hj).2.2.1⟩
theorem mP_fin {j : Nat} (hj : j < 64) : Fin double (mP j) := ⟨false, mP j, rfl, by have := (mW_facts j hj).2.2.2.1; exact Nat.lt_of_lt_of_le this (by decide +kernel)⟩
/-- the length behind clipping -/
theorem second_ok {X : List Nat} (h : ∀ i, okG (X.getD i 0)) {n j : Nat} (hn : n ≤ 8) (hj : j < 64) : Fin single (clR (clY (mW j) X n) n) ∧ val single (clR (clY (mW j) X n) n) ≤ cLim * val single (mW j) := by
  have hc := mW_fin hj
  have c1 := (mW_facts j hj).2.2.2.2.1
  have hl := len_rel (fun i => (h i).ok) hn
  cases hg : gtC (clR X n) (mW j)
  · have hY : clY (mW j) X n = X := by unfold clY; rw [if_neg (by rw [hg]; decide)]
    rw [hY]
    refine ⟨hl.1, ?_⟩
    have hle : val single (clR X n) ≤ val single (mW j) := by
      rcases rat_tri (val single (clR X n)) (val single (mW j)) with h1 | h1 | h1
      · exact Rat.le_of_lt h1
      · rw [h1]; exact Rat.le_refl
      · exfalso
        have := (order_val (k := .f32) hl.1 hc).2.1.2 h1
        unfold gtC at hg
        rw [this] at hg
        exact absurd hg (by decide)
    have h0 : (0 : Rat) ≤ val single (mW j) := Rat.le_trans (by decide +kernel) c1
    have h2 : 1 * val single (mW j) ≤ cLim * val single (mW j) := Rat.mul_le_mul_of_nonneg_right (by decide +kernel) h0
    rw [Rat.one_mul] at h2
    exact Rat.le_trans hle h2
  · have hY : clY (mW j) X n = listOf n (clG (mW j) X n) := by unfold clY; rw [if_pos hg]
    rw [hY]
    have hgt : val single (mW j) < val single (clR X n) := by
      refine (order_val (k := .f32) hl.1 hc).2.1.1 ?_
      unfold gtC at hg
      simpa using hg
    obtain ⟨h1, h2⟩ := clip_bound h hn hc c1 hgt
    exact ⟨(len_rel h1 hn).1, h2⟩
theorem second_cmp {X : List Nat} (h : ∀ i, okG (X.getD i 0)) {n j : Nat} (hn : n ≤ 8) (hj : j < 64) {r : Nat} (hr : cn .f32 r = clR (clY (mW j) X n) n) :
    FloatKind.f64.format.order (fcv .f32 r .f64) (mP j) ≠ some .gt := by
  obtain ⟨f, l⟩ := second_ok h hn hj
  have e := Fin.cn (k := .f32) f hr
  subst e
  intro hgt
  have hw := wide_val f
  have h1 := (order_val (k := .f64) hw.1 (mP_fin hj)).2.1.1 hgt
  have h2 : val double (mP j) < val single (clR (clY (mW j) X n) n) := by rw [← hw.2]; exact h1
  have h3 := (mW_facts j hj).2.2.2.2.2
  exact absurd (Rat.le_trans l h3) (Rat.not_le.mpr h2)
theorem long_ge {X : List Nat} (h : ∀ i, okG (X.getD i 0)) {n : Nat} (hn : n ≤ 8) {r : Nat} (hr : cn .f32 r = clR X n) : (FloatKind.f32.format.order r 0 = some .gt ∨ FloatKind.f32.format.order r 0 = some .eq) ∧ Fin single r := by
  have hl := len_rel (fun i => (h i).ok) hn
  have e := Fin.cn (k := .f32) hl.1 hr
  subst e
  refine ⟨?_, hl.1⟩
  rcases rat_tri (val single (clR X n)) 0 with h1 | h1 | h1
  · exact absurd hl.2.1 (Rat.not_le.mpr h1)
  · right
    exact (order_val (k := .f32) hl.1 zero_fin.1).2.2.2 (by show val single _ = val single 0; rw [zero_fin.2]; exact h1)
  · left
    exact (order_val (k := .f32) hl.1 zero_fin.1).2.1.2 (by show val single 0 < val single _; rw [zero_fin.2]; exact h1)
set_option maxHeartbeats 4000000 in
theorem b10_same (w : World) (a b : Option Addr) (ca cb : Nat) (xs ys : List Nat) (hx : F32s w a ca xs) (hy : F32s w b cb ys) (n : Nat) (h1 : xs.length = n) (h2 : ys.length = n) (he : xs.map (cn .f32) = ys.map (cn .f32)) :
    Calls Try.prog 36 #[.slice a n ca, .slice b n cb] w fun e w' => e = .returned (.bool true) ∧ Dr w w' := by
  have HX := Lib.hid hx; have HY := Lib.hid hy; have L1 := Lib.hid h1; have L2 := Lib.hid h2
  have hm := Nat.le_trans hx.len hx.cap
  rw [h1] at hm
  unfold maxLen at hm
  have HE : Hid (∀ k, cn .f32 (xs.getD k 0) = cn .f32 (ys.getD k 0)) := Lib.hid (fun k => by rw [← cn_getD, ← cn_getD, he])
  have LX := Lib.hid (fun k (hk : k < n) => hx.lt (xs.getD k 0) (by rw [List.getD_eq_getElem?_getD, List.getElem?_eq_getElem (by omega)]; exact List.getElem_mem (by omega)))
  have LY := Lib.hid (fun k (hk : k < n) => hy.lt (ys.getD k 0) (by rw [List.getD_eq_getElem?_getD, List.getElem?_eq_getElem (by omega)]; exact List.getElem_mem (by omega)))
  clear hx hy h1 h2 he
  go_enter Try.func36, Try.ntmps36
  go_wp2
  go_loopw [5] (fun i wr => ∃ k : Nat, i = .int .i64 k ∧ k ≤ n ∧ Dr w wr) (fun i _ => n - (intOf i).toNat)
  case atStart => exact ⟨0, rfl, Nat.zero_le _, Dr.refl _⟩
  case round =>
    obtain ⟨k, rfl, hk, hd⟩ := hrel
    by_cases hlt : k < n
    · have h3 := HX.out.below hd.below
      have h4 := HY.out.below hd.below
      obtain ⟨b1, o1, rfl, _, hc1⟩ := h3.spot (k := k) (by rw [L1.out]; exact hlt)
      obtain ⟨b2, o2, rfl, _, hc2⟩ := h4.spot (k := k) (by rw [L2.out]; exact hlt)
      have hk1 := hc1 k (by rw [L1.out]; exact hlt)
      have hk2 := hc2 k (by rw [L2.out]; exact hlt)
      have l1 := LX.out k hlt
      have l2 := LY.out k hlt
      have he := HE.out k
      obtain ⟨x, hx⟩ : ∃ x, x = xs.getD k 0 := ⟨_, rfl⟩
      obtain ⟨y, hy⟩ : ∃ y, y = ys.getD k 0 := ⟨_, rfl⟩
      rw [← hx] at hk1 l1 he
      rw [← hy] at hk2 l2 he
      have C := Lib.hid (fun W => spec_SameNumber x y l1 l2 W)
      have hdt : decide (cn .f32 x = cn .f32 y) = true := decide_eq_true he
      rw [hdt] at C
      clear h3 h4 hc1 hc2 l1 l2 he hdt hx hy
      have HD := Lib.hid hd
      clear hd
      go_wp2
      refine wp_region_drawn (fun f args u => Hid (u = .bool true)) (by kernel_rfl) (by kernel_rfl) ?_
      repeat (refine wset_step (fun K hK nq => ?_); go_simp; refine hK _ ?_; clear hK K)
      refine wset_step (fun K hK nq => ?_)
      go_simp
      refine ⟨(C.out _).mono ?_, ?_⟩
      · rintro e w' ⟨rfl, q, rfl⟩
        exact ⟨_, rfl, ⟨_, World.drewN_drewN _ _ _⟩, Lib.hid rfl⟩
      rintro u hu
      obtain rfl := hu.out
      clear hu
      refine hK _ ?_
      clear hK K
      repeat (refine wset_step (fun K hK nq => ?_); go_simp; refine hK _ ?_; clear hK K)
      refine wset_nil ?_
      rintro w' ⟨q, rfl⟩
      go_wp2
      go_roundw
      case rel => exact ⟨k + 1, by go_num, hlt, HD.out.drewN _⟩
      case measure => simp [intOf]; omega
    · go_wp2
      go_ret
      exact ⟨rfl, hd⟩
end Go.Proofs.Ytaocilimggpdjaa
