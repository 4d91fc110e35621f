/- Plain laws of sums: orders, products with 1, sums of small integers. No condition. -/
import Derived.Test.YtaocilimggpdjaaBtw
import Derived.Test.YtaocilimggpdjaaLst
import Derived.Test.YtaocilimggpdjaaEnb
namespace Go.Proofs.Ytaocilimggpdjaa
open Go Ieee
set_option linter.unusedVariables false
set_option linter.unusedSimpArgs false
/-- the sum of both halves -/
def pairE (X : List Nat) : Nat :=
  if h : X.length ≤ 1 then X.getD 0 0 else fop .add .f32 (pairE (X.take ((X.length + 1) / 2))) (pairE (X.drop ((X.length + 1) / 2)))
  termination_by X.length
  decreasing_by
    all_goals simp
    all_goals omega
theorem pairE_few {X : List Nat} (h : X.length ≤ 1) : pairE X = X.getD 0 0 := by rw [pairE, dif_pos h]
theorem pairE_many {X : List Nat} (h : ¬ X.length ≤ 1) : pairE X = fop .add .f32 (pairE (X.take ((X.length + 1) / 2))) (pairE (X.drop ((X.length + 1) / 2))) := by rw [pairE, dif_neg h]
/-- a sum with a carry -/
def carS (X : List Nat) : Nat → Nat × Nat
  | 0 => (0, 0)
  | k + 1 =>
    let y := fop .sub .f32 (X.getD k 0) (carS X k).2
    let t := fop .add .f32 (carS X k).1 y
    (t, fop .sub .f32 (fop .sub .f32 t (carS X k).1) y)
/-- a dot in 64 bits -/
def widS (X Y : List Nat) : Nat → Nat
  | 0 => 0
  | k + 1 => fop .add .f64 (widS X Y k) (fop .mul .f64 (fcv .f32 (X.getD k 0) .f64) (fcv .f32 (Y.getD k 0) .f64))
def ONE32 : Nat := 1065353216
theorem one_btw : Fin single ONE32 ∧ val single ONE32 = 1 := by
  obtain ⟨f, v⟩ := int_exact32 1 (by decide)
  have e : floatOfInt .f32 1 = ONE32 := by decide +kernel
  rw [e] at f v
  exact ⟨f, v⟩
/-- a product with 1 -/
theorem mul_one32 {x : Nat} (hx : x < 4294967296) : fop .mul .f32 (cn .f32 x) ONE32 = cn .f32 x := by
  rcases nan_word_of hx with hn | hn | hn | hf
  · rw [cn_nan hn]; decide +kernel
  · subst hn; decide +kernel
  · subst hn; decide +kernel
  · have hn : isN .f32 x = false := Fin.not (k := .f32) hf
    rw [cn_not hn]
    by_cases h0 : val single x = 0
    · obtain ⟨s, r, rfl, hr⟩ := hf
      rw [val_word single s hr] at h0
      have h1 : nval single r = 0 := by
        rcases Nat.eq_zero_or_pos (nval single r) with h | h
        · exact h
        · exfalso
          have h2 : (0 : Rat) < (nval single r : Rat) := by have := nat_rat_lt h; simpa using this
          have h3 := Rat.mul_pos h2 (pw_pos single.leastPlace)
          cases s <;> unfold sg at h0 <;> simp at h0 <;> grind
      have h2 : r = 0 := by
        rcases Nat.eq_zero_or_pos r with h | h
        · exact h
        · have := nval_lt (f := single) h
          rw [nval_zero] at this; omega
      subst h2
      cases s <;> decide +kernel
    · have hm := fop_mul (k := .f32) hf one_btw.1
      have e : val FloatKind.f32.format x * val FloatKind.f32.format ONE32 = val single x := by
        show val single x * val single ONE32 = _
        rw [one_btw.2]; grind
      rw [e] at hm
      exact Near.exact (f := single) hf rfl h0 hm
theorem dot_ones {X : List Nat} (hX : ∀ i, cn .f32 (X.getD i 0) = X.getD i 0 ∧ X.getD i 0 < 4294967296) {n : Nat} {O : List Nat} (hO : ∀ i, i < n → O.getD i 0 = ONE32) : ∀ k, k ≤ n → dotS X O k = sumS X k
  | 0, _ => rfl
  | k + 1, h => by
    unfold dotS sumS
    rw [dot_ones hX hO k (by omega), hO k (by omega)]
    have e := mul_one32 (hX k).2
    rw [(hX k).1] at e
    rw [e]
/-- just an integer -/
def At (k : FloatKind) (z : Int) (w : Nat) : Prop := Fin k.format w ∧ val k.format w = (z : Rat)
theorem At.near {k : FloatKind} {z : Int} {w : Nat} (h : Near k.format (z : Rat) w) (hs : smallI z) : At k z w := by
  unfold smallI at hs
  cases k
  · exact Near.int32 h hs
  · exact Near.int64 h (by omega)
theorem At.int {k : FloatKind} {z : Int} (hs : smallI z) : At k z (floatOfInt k z) := int_exactK k hs
theorem At.add {k : FloatKind} {a b : Int} {x y : Nat} (hx : At k a x) (hy : At k b y) (hs : smallI (a + b)) : At k (a + b) (fop .add k x y) :=
  At.near (by have h := fop_add hx.1 hy.1; rw [hx.2, hy.2, ← Rat.intCast_add] at h; exact h) hs
theorem At.sub {k : FloatKind} {a b : Int} {x y : Nat} (hx : At k a x) (hy : At k b y) (hs : smallI (a - b)) : At k (a - b) (fop .sub k x y) :=
  At.near (by have h := fop_sub hx.1 hy.1; rw [hx.2, hy.2, ← Rat.intCast_sub] at h; exact h) hs
theorem At.mul {k : FloatKind} {a b : Int} {x y : Nat} (hx : At k a x) (hy : At k b y) (hs : smallI (a * b)) : At k (a * b) (fop .mul k x y) :=
  At.near (by have h := fop_mul hx.1 hy.1; rw [hx.2, hy.2, ← Rat.intCast_mul] at h; exact h) hs
theorem At.wide {a : Int} {x : Nat} (hx : At .f32 a x) : At .f64 a (fcv .f32 x .f64) := by
  have h := wide_val hx.1
  exact ⟨h.1, h.2.trans hx.2⟩
theorem At.btw {k : FloatKind} {a : Int} {x : Nat} (hx : At k a x) : Btw k a a x := ⟨hx.1, by rw [hx.2]; exact Rat.le_refl, by rw [hx.2]; exact Rat.le_refl⟩
theorem At.narrow {a : Int} {x : Nat} (hx : At .f64 a x) (hs : smallI a) : cvWide .f64 x .f32 = false ∧ At .f32 a (fcv .f64 x .f32) := by
  obtain ⟨h1, h2⟩ := hx.btw.narrow hs hs
  refine ⟨h1, At.near ?_ hs⟩
  have h := narrow_near hx.1
  rw [show val double x = (a : Rat) from hx.2] at h
  exact h
theorem At.eq {a : Int} {x y : Nat} (hx : At .f32 a x) (hy : At .f32 a y) : FloatKind.f32.format.order x y = some .eq := eq_val (k := .f32) hx.1 hy.1 (hx.2.trans hy.2.symm)
theorem At.cn {a : Int} {x y : Nat} (hx : At .f32 a x) (h : cn .f32 y = x) : At .f32 a y := by rw [Fin.cn (k := .f32) hx.1 h]; exact hx
/-- sums of integers -/
def zS (Z : List Int) : Nat → Int
  | 0 => 0
  | k + 1 => zS Z k + Z.getD k 0
def qS (Z : List Int) : Nat → Int
  | 0 => 0
  | k + 1 => qS Z k + Z.getD k 0 * Z.getD k 0
def hun (Z : List Int) : Prop := ∀ i, -100 ≤ Z.getD i 0 ∧ Z.getD i 0 ≤ 100
theorem zS_bd {Z : List Int} (h : hun Z) : ∀ k : Nat, -100 * (k : Int) ≤ zS Z k ∧ zS Z k ≤ 100 * (k : Int)
  | 0 => by simp [zS]
  | k + 1 => by have := zS_bd h k; have := h k; simp only [zS]; omega
theorem sq_bd {a : Int} (h : -100 ≤ a ∧ a ≤ 100) : 0 ≤ a * a ∧ a * a ≤ 10000 := by
  have : (a * a).natAbs ≤ 10000 := by
    rw [Int.natAbs_mul]
    exact Nat.le_trans (Nat.mul_le_mul (show a.natAbs ≤ 100 by omega) (show a.natAbs ≤ 100 by omega)) (by decide)
  have h0 : 0 ≤ a * a := by
    rcases (by omega : 0 ≤ a ∨ a ≤ 0) with h1 | h1
    · exact Int.mul_nonneg h1 h1
    · have := Int.mul_nonneg (show 0 ≤ -a by omega) (show 0 ≤ -a by omega); rw [Int.neg_mul_neg] at this; exact this
  omega
theorem qS_bd {Z : List Int} (h : hun Z) : ∀ k : Nat, 0 ≤ qS Z k ∧ qS Z k ≤ 10000 * (k : Int)
  | 0 => by simp [qS]
  | k + 1 => by have := qS_bd h k; have := sq_bd (h k); simp only [qS]; omega
def flo (Z : List Int) : List Nat := Z.map (floatOfInt .f32)
theorem flo_at {Z : List Int} (h : hun Z) (i : Nat) : At .f32 (Z.getD i 0) ((flo Z).getD i 0) := by
  have hz := h i
  by_cases hi : i < Z.length
  · have e : (flo Z).getD i 0 = floatOfInt .f32 (Z.getD i 0) := by simp [flo, hi]
    rw [e]; exact At.int (by unfold smallI; omega)
  · have e : (flo Z).getD i 0 = 0 := by simp [flo, hi]
    have e2 : Z.getD i 0 = 0 := by simp [hi]
    rw [e, e2]; exact ⟨zero_fin.1, zero_fin.2⟩
theorem zero_at (k : FloatKind) : At k 0 0 := by
  have h := At.int (k := k) (z := 0) (by unfold smallI; decide)
  have e : floatOfInt k 0 = 0 := by cases k <;> decide +kernel
  rw [e] at h; exact h
theorem sumS_at {Z : List Int} (h : hun Z) : ∀ k : Nat, k ≤ 1000 → At .f32 (zS Z k) (sumS (flo Z) k)
  | 0, _ => zero_at .f32
  | k + 1, hk => (sumS_at h k (by omega)).add (flo_at h k) (by have := zS_bd h (k + 1); simp only [zS] at this; unfold smallI; omega)
theorem dotS_at {Z : List Int} (h : hun Z) : ∀ k : Nat, k ≤ 1000 → At .f32 (qS Z k) (dotS (flo Z) (flo Z) k)
  | 0, _ => zero_at .f32
  | k + 1, hk => (dotS_at h k (by omega)).add ((flo_at h k).mul (flo_at h k) (by have := sq_bd (h k); unfold smallI; omega)) (by have := qS_bd h (k + 1); simp only [qS] at this; unfold smallI; omega)
theorem widS_at {Z : List Int} (h : hun Z) : ∀ k : Nat, k ≤ 1000 → At .f64 (qS Z k) (widS (flo Z) (flo Z) k)
  | 0, _ => zero_at .f64
  | k + 1, hk => (widS_at h k (by omega)).add ((flo_at h k).wide.mul (flo_at h k).wide (by have := sq_bd (h k); unfold smallI; omega)) (by have := qS_bd h (k + 1); simp only [qS] at this; unfold smallI; omega)
theorem carS_at {Z : List Int} (h : hun Z) : ∀ k : Nat, k ≤ 1000 → At .f32 (zS Z k) (carS (flo Z) k).1 ∧ At .f32 0 (carS (flo Z) k).2
  | 0, _ => ⟨zero_at .f32, zero_at .f32⟩
  | k + 1, hk => by
    obtain ⟨h1, h2⟩ := carS_at h k (by omega)
    have hz := h k
    have b1 := zS_bd h k
    have y := (flo_at h k).sub h2 (by unfold smallI; omega)
    rw [Int.sub_zero] at y
    have t := h1.add y (by unfold smallI; omega)
    have d := t.sub h1 (by unfold smallI; omega)
    have e1 : zS Z k + Z.getD k 0 - zS Z k = Z.getD k 0 := by omega
    rw [e1] at d
    have c := d.sub y (by unfold smallI; omega)
    rw [Int.sub_self] at c
    exact ⟨t, c⟩
theorem zS_take {Z : List Int} {m : Nat} : ∀ k, k ≤ m → zS (Z.take m) k = zS Z k
  | 0, _ => rfl
  | k + 1, h => by
    unfold zS
    rw [zS_take k (by omega)]
    congr 1
    rw [List.getD_eq_getElem?_getD, List.getD_eq_getElem?_getD, List.getElem?_take, if_pos (by omega)]
theorem zS_drop {Z : List Int} {m : Nat} : ∀ k, zS (Z.drop m) k + zS Z m = zS Z (m + k)
  | 0 => by simp [zS]
  | k + 1 => by
    have ih := zS_drop (Z := Z) (m := m) k
    have e : (Z.drop m).getD k 0 = Z.getD (m + k) 0 := by rw [List.getD_eq_getElem?_getD, List.getD_eq_getElem?_getD, List.getElem?_drop]
    rw [show m + (k + 1) = (m + k) + 1 by omega]
    simp only [zS]
    rw [e]; omega
theorem hun_take {Z : List Int} (h : hun Z) (m : Nat) : hun (Z.take m) := by
  intro i
  rw [List.getD_eq_getElem?_getD, List.getElem?_take]
  split
  · have := h i; rwa [List.getD_eq_getElem?_getD] at this
  · simp
theorem hun_drop {Z : List Int} (h : hun Z) (m : Nat) : hun (Z.drop m) := by
  intro i
  have := h (m + i)
  rw [List.getD_eq_getElem?_getD] at this ⊢
  rwa [List.getElem?_drop]
theorem pairE_at : ∀ (n : Nat) (Z : List Int), Z.length = n → n ≤ 1000 → hun Z → At .f32 (zS Z n) (pairE (flo Z)) := by
  intro n
  induction n using Nat.strongRecOn with
  | ind n ih =>
    intro Z hZ hn h
    have hl : (flo Z).length = n := by simp [flo, hZ]
    by_cases h1 : n ≤ 1
    · rw [pairE_few (by omega)]
      have hz := flo_at h 0
      rcases (by omega : n = 0 ∨ n = 1) with e | e
      · subst e
        have : Z = [] := List.eq_nil_of_length_eq_zero hZ
        subst this
        exact zero_at .f32
      · subst e
        have e2 : zS Z 1 = Z.getD 0 0 := by simp [zS]
        rw [e2]; exact hz
    · rw [pairE_many (by omega), hl]
      obtain ⟨m, hm⟩ : ∃ m, m = (n + 1) / 2 := ⟨_, rfl⟩
      rw [← hm]
      have hm1 : m < n := by omega
      have hm2 : n - m < n := by omega
      have a := ih m hm1 (Z.take m) (by simp; omega) (by omega) (hun_take h m)
      have b := ih (n - m) hm2 (Z.drop m) (by simp; omega) (by omega) (hun_drop h m)
      rw [zS_take m (Nat.le_refl _)] at a
      have e := zS_drop (Z := Z) (m := m) (n - m)
      rw [show m + (n - m) = n by omega] at e
      have bd := zS_bd h n
      have s := a.add b (by unfold smallI; omega)
      rw [show zS Z m + zS (Z.drop m) (n - m) = zS Z n by omega] at s
      have e1 : (flo Z).take m = flo (Z.take m) := by simp [flo]
      have e2 : (flo Z).drop m = flo (Z.drop m) := by simp [flo]
      rw [e1, e2]; exact s
theorem int_back : ∀ j : Nat, j < 201 → floatToIntVal .f32 (floatOfInt .f32 ((j : Int) - 100)) .i64 = some ((j : Int) - 100) := by decide +kernel
theorem int_back2 {z : Int} (h : -100 ≤ z ∧ z ≤ 100) : floatToIntVal .f32 (floatOfInt .f32 z) .i64 = some z := by
  have e := int_back ((z + 100).toNat) (by omega)
  rw [show ((((z + 100).toNat : Nat) : Int) - 100) = z by omega] at e
  exact e
theorem flo_cn (Z : List Int) : (flo Z).map (cn .f32) = flo Z := by
  unfold flo
  rw [List.map_map]
  apply List.map_congr_left
  intro z _
  exact cn_floatOfInt _ _
end Go.Proofs.Ytaocilimggpdjaa
