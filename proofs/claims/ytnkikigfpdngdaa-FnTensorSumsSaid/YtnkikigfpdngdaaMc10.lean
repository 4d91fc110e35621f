/- Joined texts 10: Sup Suc Tx1 Tx2 Tx3 Src Drw Drl Tn4 Tx4 Ten Eat. Each is told at its own head. No condition. -/
import Derived.Deep.QuietTactic
import Derived.BigQuiet
import Derived.Maps.AppendAt
import Derived.Laws.Bits64b
import Derived.Test.YtnkikigfpdngdaaMc1
import Derived.Test.YtnkikigfpdngdaaMc2
import Derived.Test.YtnkikigfpdngdaaMc3
import Derived.Test.YtnkikigfpdngdaaMc5
import Derived.Test.YtnkikigfpdngdaaMc8
import Derived.Test.YtnkikigfpdngdaaMc9
/- Plain laws of sums: orders, products with 1, sums of small integers. No condition. -/
namespace Go.Proofs.Ytnkikigfpdngdaa
open Go Ieee
set_option linter.unusedVariables false
set_option linter.unusedSimpArgs false
/-- the sum of both halves -/
def pairE (X : List Nat) : Nat :=
  if h : X.length ≤ 1 then X.getD 0 0 else fop .add .f32 (pairE (X.take ((X.length + 1) / 2))) (pairE (X.drop ((X.length + 1) / 2)))
  termination_by X.length
  decreasing_by
    all_goals simp
    all_goals omega
theorem pairE_few {X : List Nat} (h : X.length ≤ 1) : pairE X = X.getD 0 0 := by rw [pairE, dif_pos h]
theorem pairE_many {X : List Nat} (h : ¬ X.length ≤ 1) : pairE X = fop .add .f32 (pairE (X.take ((X.length + 1) / 2))) (pairE (X.drop ((X.length + 1) / 2))) := by rw [pairE, dif_neg h]
/-- a sum with a carry -/
def carS (X : List Nat) : Nat → Nat × Nat
  | 0 => (0, 0)
  | k + 1 =>
    let y := fop .sub .f32 (X.getD k 0) (carS X k).2
    let t := fop .add .f32 (carS X k).1 y
    (t, fop .sub .f32 (fop .sub .f32 t (carS X k).1) y)
/-- a dot in 64 bits -/
def widS (X Y : List Nat) : Nat → Nat
  | 0 => 0
  | k + 1 => fop .add .f64 (widS X Y k) (fop .mul .f64 (fcv .f32 (X.getD k 0) .f64) (fcv .f32 (Y.getD k 0) .f64))
def ONE32 : Nat := 1065353216
theorem one_btw : Fin single ONE32 ∧ val single ONE32 = 1 := by
  obtain ⟨f, v⟩ := int_exact32 1 (by decide)
  have e : floatOfInt .f32 1 = ONE32 := by decide +kernel
  rw [e] at f v
  exact ⟨f, v⟩
/-- a product with 1 -/
theorem mul_one32 {x : Nat} (hx : x < 4294967296) : fop .mul .f32 (cn .f32 x) ONE32 = cn .f32 x := by
  rcases nan_word_of hx with hn | hn | hn | hf
  · rw [cn_nan hn]; decide +kernel
  · subst hn; decide +kernel
  · subst hn; decide +kernel
  · have hn : isN .f32 x = false := Fin.not (k := .f32) hf
    rw [cn_not hn]
    by_cases h0 : val single x = 0
    · obtain ⟨s, r, rfl, hr⟩ := hf
      rw [val_word single s hr] at h0
      have h1 : nval single r = 0 := by
        rcases Nat.eq_zero_or_pos (nval single r) with h | h
        · exact h
        · exfalso
          have h2 : (0 : Rat) < (nval single r : Rat) := by have := nat_rat_lt h; simpa using this
          have h3 := Rat.mul_pos h2 (pw_pos single.leastPlace)
          cases s <;> unfold sg at h0 <;> simp at h0 <;> grind
      have h2 : r = 0 := by
        rcases Nat.eq_zero_or_pos r with h | h
        · exact h
        · have := nval_lt (f := single) h
          rw [nval_zero] at this; omega
      subst h2
      cases s <;> decide +kernel
    · have hm := fop_mul (k := .f32) hf one_btw.1
      have e : val FloatKind.f32.format x * val FloatKind.f32.format ONE32 = val single x := by
        show val single x * val single ONE32 = _
        rw [one_btw.2]; grind
      rw [e] at hm
      exact Near.exact (f := single) hf rfl h0 hm
theorem dot_ones {X : List Nat} (hX : ∀ i, cn .f32 (X.getD i 0) = X.getD i 0 ∧ X.getD i 0 < 4294967296) {n : Nat} {O : List Nat} (hO : ∀ i, i < n → O.getD i 0 = ONE32) : ∀ k, k ≤ n → dotS X O k = sumS X k
  | 0, _ => rfl
  | k + 1, h => by
    unfold dotS sumS
    rw [dot_ones hX hO k (by omega), hO k (by omega)]
    have e := mul_one32 (hX k).2
    rw [(hX k).1] at e
    rw [e]
/-- just an integer -/
def At (k : FloatKind) (z : Int) (w : Nat) : Prop := Fin k.format w ∧ val k.format w = (z : Rat)
theorem At.near {k : FloatKind} {z : Int} {w : Nat} (h : Near k.format (z : Rat) w) (hs : smallI z) : At k z w := by
  unfold smallI at hs
  cases k
  · exact Near.int32 h hs
  · exact Near.int64 h (by omega)
theorem At.int {k : FloatKind} {z : Int} (hs : smallI z) : At k z (floatOfInt k z) := int_exactK k hs
theorem At.add {k : FloatKind} {a b : Int} {x y : Nat} (hx : At k a x) (hy : At k b y) (hs : smallI (a + b)) : At k (a + b) (fop .add k x y) :=
  At.near (by have h := fop_add hx.1 hy.1; rw [hx.2, hy.2, ← Rat.intCast_add] at h; exact h) hs
theorem At.sub {k : FloatKind} {a b : Int} {x y : Nat} (hx : At k a x) (hy : At k b y) (hs : smallI (a - b)) : At k (a - b) (fop .sub k x y) :=
  At.near (by have h := fop_sub hx.1 hy.1; rw [hx.2, hy.2, ← Rat.intCast_sub] at h; exact h) hs
theorem At.mul {k : FloatKind} {a b : Int} {x y : Nat} (hx : At k a x) (hy : At k b y) (hs : smallI (a * b)) : At k (a * b) (fop .mul k x y) :=
  At.near (by have h := fop_mul hx.1 hy.1; rw [hx.2, hy.2, ← Rat.intCast_mul] at h; exact h) hs
theorem At.wide {a : Int} {x : Nat} (hx : At .f32 a x) : At .f64 a (fcv .f32 x .f64) := by
  have h := wide_val hx.1
  exact ⟨h.1, h.2.trans hx.2⟩
theorem At.btw {k : FloatKind} {a : Int} {x : Nat} (hx : At k a x) : Btw k a a x := ⟨hx.1, by rw [hx.2]; exact Rat.le_refl, by rw [hx.2]; exact Rat.le_refl⟩
theorem At.narrow {a : Int} {x : Nat} (hx : At .f64 a x) (hs : smallI a) : cvWide .f64 x .f32 = false ∧ At .f32 a (fcv .f64 x .f32) := by
  obtain ⟨h1, h2⟩ := hx.btw.narrow hs hs
  refine ⟨h1, At.near ?_ hs⟩
  have h := narrow_near hx.1
  rw [show val double x = (a : Rat) from hx.2] at h
  exact h
theorem At.eq {a : Int} {x y : Nat} (hx : At .f32 a x) (hy : At .f32 a y) : FloatKind.f32.format.order x y = some .eq := eq_val (k := .f32) hx.1 hy.1 (hx.2.trans hy.2.symm)
theorem At.cn {a : Int} {x y : Nat} (hx : At .f32 a x) (h : cn .f32 y = x) : At .f32 a y := by rw [Fin.cn (k := .f32) hx.1 h]; exact hx
/-- sums of integers -/
def zS (Z : List Int) : Nat → Int
  | 0 => 0
  | k + 1 => zS Z k + Z.getD k 0
def qS (Z : List Int) : Nat → Int
  | 0 => 0
  | k + 1 => qS Z k + Z.getD k 0 * Z.getD k 0
def hun (Z : List Int) : Prop := ∀ i, -100 ≤ Z.getD i 0 ∧ Z.getD i 0 ≤ 100
theorem zS_bd {Z : List Int} (h : hun Z) : ∀ k : Nat, -100 * (k : Int) ≤ zS Z k ∧ zS Z k ≤ 100 * (k : Int)
  | 0 => by simp [zS]
  | k + 1 => by have := zS_bd h k; have := h k; simp only [zS]; omega
theorem sq_bd {a : Int} (h : -100 ≤ a ∧ a ≤ 100) : 0 ≤ a * a ∧ a * a ≤ 10000 := by
  have : (a * a).natAbs ≤ 10000 := by
    rw [Int.natAbs_mul]
    exact Nat.le_trans (Nat.mul_le_mul (show a.natAbs ≤ 100 by omega) (show a.natAbs ≤ 100 by omega)) (by decide)
  have h0 : 0 ≤ a * a := by
    rcases (by omega : 0 ≤ a ∨ a ≤ 0) with h1 | h1
    · exact Int.mul_nonneg h1 h1
    · have := Int.mul_nonneg (show 0 ≤ -a by omega) (show 0 ≤ -a by omega); rw [Int.neg_mul_neg] at this; exact this
  omega
theorem qS_bd {Z : List Int} (h : hun Z) : ∀ k : Nat, 0 ≤ qS Z k ∧ qS Z k ≤ 10000 * (k : Int)
  | 0 => by simp [qS]
  | k + 1 => by have := qS_bd h k; have := sq_bd (h k); simp only [qS]; omega
def flo (Z : List Int) : List Nat := Z.map (floatOfInt .f32)
theorem flo_at {Z : List Int} (h : hun Z) (i : Nat) : At .f32 (Z.getD i 0) ((flo Z).getD i 0) := by
  have hz := h i
  by_cases hi : i < Z.length
  · have e : (flo Z).getD i 0 = floatOfInt .f32 (Z.getD i 0) := by simp [flo, hi]
    rw [e]; exact At.int (by unfold smallI; omega)
  · have e : (flo Z).getD i 0 = 0 := by simp [flo, hi]
    have e2 : Z.getD i 0 = 0 := by simp [hi]
    rw [e, e2]; exact ⟨zero_fin.1, zero_fin.2⟩
theorem zero_at (k : FloatKind) : At k 0 0 := by
  have h := At.int (k := k) (z := 0) (by unfold smallI; decide)
  have e : floatOfInt k 0 = 0 := by cases k <;> decide +kernel
  rw [e] at h; exact h
theorem sumS_at {Z : List Int} (h : hun Z) : ∀ k : Nat, k ≤ 1000 → At .f32 (zS Z k) (sumS (flo Z) k)
  | 0, _ => zero_at .f32
  | k + 1, hk => (sumS_at h k (by omega)).add (flo_at h k) (by have := zS_bd h (k + 1); simp only [zS] at this; unfold smallI; omega)
theorem dotS_at {Z : List Int} (h : hun Z) : ∀ k : Nat, k ≤ 1000 → At .f32 (qS Z k) (dotS (flo Z) (flo Z) k)
  | 0, _ => zero_at .f32
  | k + 1, hk => (dotS_at h k (by omega)).add ((flo_at h k).mul (flo_at h k) (by have := sq_bd (h k); unfold smallI; omega)) (by have := qS_bd h (k + 1); simp only [qS] at this; unfold smallI; omega)
theorem widS_at {Z : List Int} (h : hun Z) : ∀ k : Nat, k ≤ 1000 → At .f64 (qS Z k) (widS (flo Z) (flo Z) k)
  | 0, _ => zero_at .f64
  | k + 1, hk => (widS_at h k (by omega)).add ((flo_at h k).wide.mul (flo_at h k).wide (by have := sq_bd (h k); unfold smallI; omega)) (by have := qS_bd h (k + 1); simp only [qS] at this; unfold smallI; omega)
theorem carS_at {Z : List Int} (h : hun Z) : ∀ k : Nat, k ≤ 1000 → At .f32 (zS Z k) (carS (flo Z) k).1 ∧ At .f32 0 (carS (flo Z) k).2
  | 0, _ => ⟨zero_at .f32, zero_at .f32⟩
  | k + 1, hk => by
    obtain ⟨h1, h2⟩ := carS_at h k (by omega)
    have hz := h k
    have b1 := zS_bd h k
    have y := (flo_at h k).sub h2 (by unfold smallI; omega)
    rw [Int.sub_zero] at y
    have t := h1.add y (by unfold smallI; omega)
    have d := t.sub h1 (by unfold smallI; omega)
    have e1 : zS Z k + Z.getD k 0 - zS Z k = Z.getD k 0 := by omega
    rw [e1] at d
    have c := d.sub y (by unfold smallI; omega)
    rw [Int.sub_self] at c
    exact ⟨t, c⟩
theorem zS_take {Z : List Int} {m : Nat} : ∀ k, k ≤ m → zS (Z.take m) k = zS Z k
  | 0, _ => rfl
  | k + 1, h => by
    unfold zS
    rw [zS_take k (by omega)]
    congr 1
    rw [List.getD_eq_getElem?_getD, List.getD_eq_getElem?_getD, List.getElem?_take, if_pos (by omega)]
theorem zS_drop {Z : List Int} {m : Nat} : ∀ k, zS (Z.drop m) k + zS Z m = zS Z (m + k)
  | 0 => by simp [zS]
  | k + 1 => by
    have ih := zS_drop (Z := Z) (m := m) k
    have e : (Z.drop m).getD k 0 = Z.getD (m + k) 0 := by rw [List.getD_eq_getElem?_getD, List.getD_eq_getElem?_getD, List.getElem?_drop]
    rw [show m + (k + 1) = (m + k) + 1 by omega]
    simp only [zS]
    rw [e]; omega
theorem hun_take {Z : List Int} (h : hun Z) (m : Nat) : hun (Z.take m) := by
  intro i
  rw [List.getD_eq_getElem?_getD, List.getElem?_take]
  split
  · have := h i; rwa [List.getD_eq_getElem?_getD] at this
  · simp
theorem hun_drop {Z : List Int} (h : hun Z) (m : Nat) : hun (Z.drop m) := by
  intro i
  have := h (m + i)
  rw [List.getD_eq_getElem?_getD] at this ⊢
  rwa [List.getElem?_drop]
theorem pairE_at : ∀ (n : Nat) (Z : List Int), Z.length = n → n ≤ 1000 → hun Z → At .f32 (zS Z n) (pairE (flo Z)) := by
  intro n
  induction n using Nat.strongRecOn with
  | ind n ih =>
    intro Z hZ hn h
    have hl : (flo Z).length = n := by simp [flo, hZ]
    by_cases h1 : n ≤ 1
    · rw [pairE_few (by omega)]
      have hz := flo_at h 0
      rcases (by omega : n = 0 ∨ n = 1) with e | e
      · subst e
        have : Z = [] := List.eq_nil_of_length_eq_zero hZ
        subst this
        exact zero_at .f32
      · subst e
        have e2 : zS Z 1 = Z.getD 0 0 := by simp [zS]
        rw [e2]; exact hz
    · rw [pairE_many (by omega), hl]
      obtain ⟨m, hm⟩ : ∃ m, m = (n + 1) / 2 := ⟨_, rfl⟩
      rw [← hm]
      have hm1 : m < n := by omega
      have hm2 : n - m < n := by omega
      have a := ih m hm1 (Z.take m) (by simp; omega) (by omega) (hun_take h m)
      have b := ih (n - m) hm2 (Z.drop m) (by simp; omega) (by omega) (hun_drop h m)
      rw [zS_take m (Nat.le_refl _)] at a
      have e := zS_drop (Z := Z) (m := m) (n - m)
      rw [show m + (n - m) = n by omega] at e
      have bd := zS_bd h n
      have s := a.add b (by unfold smallI; omega)
      rw [show zS Z m + zS (Z.drop m) (n - m) = zS Z n by omega] at s
      have e1 : (flo Z).take m = flo (Z.take m) := by simp [flo]
      have e2 : (flo Z).drop m = flo (Z.drop m) := by simp [flo]
      rw [e1, e2]; exact s
theorem int_back : ∀ j : Nat, j < 201 → floatToIntVal .f32 (floatOfInt .f32 ((j : Int) - 100)) .i64 = some ((j : Int) - 100) := by decide +kernel
theorem int_back2 {z : Int} (h : -100 ≤ z ∧ z ≤ 100) : floatToIntVal .f32 (floatOfInt .f32 z) .i64 = some z := by
  have e := int_back ((z + 100).toNat) (by omega)
  rw [show ((((z + 100).toNat : Nat) : Int) - 100) = z by omega] at e
  exact e
theorem flo_cn (Z : List Int) : (flo Z).map (cn .f32) = flo Z := by
  unfold flo
  rw [List.map_map]
  apply List.map_congr_left
  intro z _
  exact cn_floatOfInt _ _
end Go.Proofs.Ytnkikigfpdngdaa
/- What sums and dots of lists are. No condition. -/
namespace Go.Proofs.Ytnkikigfpdngdaa
open Go Go.RowKit Ieee
set_option linter.unusedVariables false
set_option linter.unusedSimpArgs false
def VS (c : Nat) (v : Value) : Prop := ∃ r, v = .float .f32 r ∧ cn .f32 r = c
theorem F32s.cut {w : World} {g off cap : Nat} {xs : List Nat} (h : F32s w (some ⟨g, off, none⟩) cap xs) (m : Nat) (hm : m ≤ xs.length) : F32s w (some ⟨g, off, none⟩) cap (xs.take m) ∧ F32s w (some ⟨g, off + m, none⟩) (cap - m) (xs.drop m) := by
  have h1 := h.len; have h2 := h.cap
  refine ⟨⟨by simp; omega, h2, ?_, fun x hx => h.lt x (List.mem_of_mem_take hx)⟩, ⟨by simp; omega, by omega, ?_, fun x hx => h.lt x (List.mem_of_mem_drop hx)⟩⟩
  · rcases h.rd with h3 | ⟨b, o, e, hb, hc⟩
    · left; rw [List.map_take, h3]; simp
    · right
      refine ⟨b, o, e, hb, fun j hj => ?_⟩
      simp only [List.length_map, List.length_take] at hj
      rw [hc j (by simp; omega), List.map_take, List.getElem?_take, if_pos (by omega)]
  · rcases h.rd with h3 | ⟨b, o, e, hb, hc⟩
    · left; rw [List.map_drop, h3]; simp
    · right
      cases e
      refine ⟨g, off + m, rfl, hb, fun j hj => ?_⟩
      simp only [List.length_map, List.length_drop] at hj
      rw [Nat.add_assoc, hc (m + j) (by simp; omega), List.map_drop, List.getElem?_drop]
theorem impl_SumNumbers (w : World) (ad : Option Addr) (cap : Nat) (xs : List Nat) (h : F32s w ad cap xs) (n : Nat) (hl : xs.length = n) (hn : n ≤ 256) :
    Calls Try.prog 40 #[.slice ad n cap] w fun e w' => ∃ r, e = .returned (.tuple #[.float .f32 r, .bool true]) ∧ Hid (cn .f32 r = sumS (xs.map (cn .f32)) n ∧ r < 4294967296) ∧ Dr w w' := by
  have k := impl_sumOf w ad cap xs h
  rw [hl] at k
  have K1 := Lib.hid k
  clear k h
  have hn2 : (n : Int) ≤ 256 := by omega
  go_enter Try.func40, Try.ntmps40
  go_wp2_with fail
  refine K1.out.mono ?_
  rintro e w1 ⟨r, rfl, hr, hd⟩
  have HD := Lib.hid hd
  clear hd
  go_wp2
  go_ret2
  exact ⟨r, rfl, hr, HD.out⟩
set_option maxRecDepth 100000 in
theorem impl_DotWide (w : World) (a1 : Option Addr) (c1 : Nat) (xs : List Nat) (h1 : F32s w a1 c1 xs) (a2 : Option Addr) (c2 : Nat) (ys : List Nat) (h2 : F32s w a2 c2 ys) (n : Nat) (hl1 : xs.length = n) (hl2 : ys.length = n) (hn : n ≤ 256) (hw : cvWide .f64 (widS (xs.map (cn .f32)) (ys.map (cn .f32)) n) .f32 = false) :
    Calls Try.prog 109 #[.slice a1 n c1, .slice a2 n c2] w fun e w' => ∃ r, e = .returned (.tuple #[.float .f32 r, .bool true]) ∧ Hid (cn .f32 r = fcv .f64 (widS (xs.map (cn .f32)) (ys.map (cn .f32)) n) .f32 ∧ r < 4294967296) ∧ Dr w w' := by
  obtain ⟨X, hX⟩ : ∃ X, X = xs.map (cn .f32) := ⟨_, rfl⟩
  obtain ⟨Y, hY⟩ : ∃ X, X = ys.map (cn .f32) := ⟨_, rfl⟩
  rw [← hX, ← hY] at hw ⊢
  have fin : ∀ s w, cn .f64 s = widS X Y n → cn .f32 (cvbits .f64 s .f32 w) = fcv .f64 (widS X Y n) .f32 ∧ cvbits .f64 s .f32 w < 4294967296 := by
    intro s w h
    have h2 := hw
    rw [← h, cvWide_cn] at h2
    exact ⟨by rw [cn_cvbits w h2, h], cv_lt32 w h2⟩
  have HX := Lib.hid hX; have HY := Lib.hid hY; have HL1 := Lib.hid hl1; have HL2 := Lib.hid hl2; have H1 := Lib.hid h1; have H2 := Lib.hid h2; have FI := Lib.hid fin
  clear hX hY hl1 hl2 h1 h2 fin hw
  have hn2 : (n : Int) ≤ 256 := by omega
  go_enter Try.func109, Try.ntmps109
  go_wp2
  go_loopw [6, 20] (fun sv i wr => ∃ k : Nat, i = .int .i64 k ∧ k ≤ n ∧ ∃ s : Nat, sv = .float .f64 s ∧ Hid (cn .f64 s = widS X Y k) ∧ Dr w wr) (fun _ i _ => n - (intOf i).toNat)
  case atStart => exact ⟨0, rfl, Nat.zero_le _, 0, rfl, Lib.hid (show cn .f64 0 = 0 by decide +kernel), Dr.refl _⟩
  case round =>
    obtain ⟨k, rfl, hk, s, rfl, HS, hd⟩ := hrel
    have HD := Lib.hid hd
    have h1 := H1.out.below hd.below
    have h2 := H2.out.below hd.below
    clear hd
    by_cases hlt : k < n
    · obtain ⟨b, off, rfl, _, hc⟩ := h1.spot (k := k) (by rw [HL1.out]; exact hlt)
      obtain ⟨b', off', rfl, _, hc'⟩ := h2.spot (k := k) (by rw [HL2.out]; exact hlt)
      have hck := hc k (by rw [HL1.out]; exact hlt)
      have hck' := hc' k (by rw [HL2.out]; exact hlt)
      obtain ⟨x, hx⟩ : ∃ x, x = xs.getD k 0 := ⟨_, rfl⟩
      obtain ⟨y, hy⟩ : ∃ x, x = ys.getD k 0 := ⟨_, rfl⟩
      rw [← hx] at hck
      rw [← hy] at hck'
      have HXX := Lib.hid (show cn .f32 x = X.getD k 0 by rw [hx, HX.out, cn_getD])
      have HYY := Lib.hid (show cn .f32 y = Y.getD k 0 by rw [hy, HY.out, cn_getD])
      clear hx hy hc hc' h1 h2
      go_wp2
      refine wp_region_drawn (fun f args u => False) (by kernel_rfl) (by kernel_rfl) ?_
      repeat (refine wset_step (fun K hK nq => ?_); go_simp; refine hK _ ?_; clear hK K)
      generalize ht : fbits BinOp.add FloatKind.f64 s (fbits BinOp.mul FloatKind.f64 (cvbits FloatKind.f32 x FloatKind.f64 _) (cvbits FloatKind.f32 y FloatKind.f64 _) _) _ = t
      have htc : cn .f64 t = widS X Y (k + 1) := by
        rw [← ht, cn_fbits, cn_fbits, cn_wide, cn_wide, HS.out, HXX.out, HYY.out]; rfl
      have HT := Lib.hid htc
      clear ht htc
      refine wset_nil ?_
      rintro w' ⟨q, rfl⟩
      go_wp2
      go_roundw
      case rel => exact ⟨k + 1, by go_num, hlt, _, rfl, HT, HD.out.drewN _⟩
      case measure => simp [intOf]; omega
    · have hkn : k = n := by omega
      subst hkn
      go_wp2
      go_ret2
      exact ⟨_, rfl, Lib.hid (FI.out _ _ HS.out), HD.out.drewN _⟩
end Go.Proofs.Ytnkikigfpdngdaa
/- Rows and sums of tensors: the program. No condition. -/
namespace Go.Proofs.Ytnkikigfpdngdaa
open Go Go.RowKit
set_option linter.unusedVariables false
set_option linter.unusedSimpArgs false
def colS (X : List Nat) (c : Nat) : Nat → Nat → Nat
  | 0, _ => 0
  | k + 1, j => if j = k % c then fop .add .f32 (colS X c k j) (X.getD k 0) else colS X c k j
theorem set_listOf2 {n k : Nat} {f g : Nat → Nat} {y : Nat} {zs : List Nat} (h : zs.map (cn .f32) = listOf n f) (hy : cn .f32 y = g k) (hg : ∀ i, i ≠ k → g i = f i) : (zs.set k y).map (cn .f32) = listOf n g := by
  rw [List.map_set, h, hy]
  apply List.ext_getElem
  · simp [listOf]
  · intro i h1 h2
    simp only [List.getElem_set]
    split
    · next e => subst e; simp [listOf]
    · next e => simp [listOf, hg i (Ne.symm e)]
set_option maxRecDepth 100000 in
set_option maxHeartbeats 4000000 in
theorem impl_RowOf (w : World) (r c : Nat) (ad : Option Addr) (cap n : Nat) (xs : List Nat) (h : F32s w ad cap xs) (hx : xs.length = n) (hr1 : 1 ≤ r) (hr : r ≤ 16) (hc1 : 1 ≤ c) (hc : c ≤ 16) (hn : n = r * c) (i : Nat) (hi : i < r) :
    Calls Try.prog 41 #[.agg #[.int .i64 r, .int .i64 c, .slice ad n cap], .int .i64 i] w fun e w' => ∃ ad' cap', e = .returned (.tuple #[.slice ad' c cap', .bool true]) ∧ Hid (RepF w' w.heap.size w'.heap.size ad' c cap' ((xs.drop (i * c)).take c)) ∧ Below w.heap.size w w' := by
  have hn6 : n ≤ 256 := by rw [hn]; exact Nat.mul_le_mul hr hc
  have hv := tenB_nat hr1 hr hc1 hc hn
  have hmx : n ≤ maxLen := by unfold maxLen; omega
  have hpos : 1 ≤ n := by rw [hn]; exact Nat.mul_le_mul hr1 hc1
  have hcap : n ≤ cap := by rw [← hx]; exact h.len
  obtain ⟨b, off, rfl, _, _⟩ := h.spot (k := 0) (by omega)
  have K1 := Lib.hid (fun W => impl_ValidTensor r c (some ⟨b, off, none⟩) n cap hmx W)
  rw [hv] at K1
  have K2 := Lib.hid (fun W => within_any i 0 ((r : Int) - 1) W)
  rw [inB_iff.2 ⟨by omega, by omega⟩] at K2
  have K3 := Lib.hid (fun W => impl_row W r c (some ⟨b, off, none⟩) n cap hn hc1 hc hr hcap i hi b off rfl)
  have hle : i * c + c ≤ xs.length := by
    rw [hx, hn]
    have := Nat.mul_le_mul_right c (show i + 1 ≤ r by omega)
    rwa [Nat.succ_mul] at this
  have h1 := (((h.cut3 (i * c) (by omega)).2).cut3 c (by simp; omega)).1
  obtain ⟨ys, hys⟩ : ∃ ys, ys = (xs.drop (i * c)).take c := ⟨_, rfl⟩
  have hyl : ys.length = c := by rw [hys, List.length_take, List.length_drop]; omega
  rw [← hys] at h1 ⊢
  have K4 := Lib.hid (fun W (hb : Below w.heap.size w W) => slices_CloneF W _ _ ys (h1.below hb) (fun h => nomatch h) (by omega))
  rw [hyl] at K4
  have t1 : IntKind.i64.wrap ((r : Int) - 1) = (r : Int) - 1 := wrap_ok (by omega) (by omega)
  have XB := Lib.hid (BoxN.alloc w #[.int .i64 r, .int .i64 c, .slice (some ⟨b, off, none⟩) n cap] 27)
  have B := Lib.hid (below1 w (.cells #[.int .i64 r, .int .i64 c, .slice (some ⟨b, off, none⟩) n cap] 27))
  clear h h1 hys hyl hle hv hn hx
  go_enter Try.func41, Try.ntmps41
  go_wp2_with fail
  refine (K1.out _).mono ?_
  rintro e w1 ⟨rfl, hb⟩
  have HB := Lib.hid (bthen B.out hb); have XB := Lib.hid (XB.out.below hb)
  clear hb
  obtain ⟨-, x0, x1, x2, xf⟩ := XB.out.three
  go_wp2_with fail
  refine (K2.out _).mono ?_
  rintro e w2 ⟨rfl, rfl⟩
  go_wp2_with fail
  refine (K3.out _).mono ?_
  rintro e w2 ⟨rfl, hb⟩
  replace HB := Lib.hid (bthen HB.out hb); clear hb
  go_wp2_with fail
  refine (K4.out _ HB.out).mono ?_
  rintro e w3 ⟨ad2, cap2, rfl, RO, hb⟩
  have hz := HB.out.size
  have HB := Lib.hid (bthen HB.out hb)
  have HF := Lib.hid (RO.out.bounds hz (Nat.le_refl _))
  clear hb
  go_wp2
  go_ret2
  exact ⟨_, _, rfl, HF, HB.out⟩
set_option maxRecDepth 100000 in
set_option maxHeartbeats 4000000 in
theorem impl_SumAll (w : World) (r c : Nat) (ad : Option Addr) (cap n : Nat) (xs : List Nat) (h : F32s w ad cap xs) (hx : xs.length = n) (hr1 : 1 ≤ r) (hr : r ≤ 16) (hc1 : 1 ≤ c) (hc : c ≤ 16) (hn : n = r * c) :
    Calls Try.prog 39 #[.agg #[.int .i64 r, .int .i64 c, .slice ad n cap]] w fun e w' => ∃ s, e = .returned (.tuple #[.float .f32 s, .bool true]) ∧ Hid (cn .f32 s = sumS (xs.map (cn .f32)) n ∧ s < 4294967296) ∧ Below w.heap.size w w' := by
  have hn6 : n ≤ 256 := by rw [hn]; exact Nat.mul_le_mul hr hc
  have hv := tenB_nat hr1 hr hc1 hc hn
  have hmx : n ≤ maxLen := by unfold maxLen; omega
  have K1 := Lib.hid (fun W => impl_ValidTensor r c ad n cap hmx W)
  rw [hv] at K1
  have K2 := Lib.hid (fun W (hb : Below w.heap.size w W) => impl_sumOf W ad cap xs (h.below hb))
  rw [hx] at K2
  have XB := Lib.hid (BoxN.alloc w #[.int .i64 r, .int .i64 c, .slice ad n cap] 27)
  have B := Lib.hid (below1 w (.cells #[.int .i64 r, .int .i64 c, .slice ad n cap] 27))
  clear h hv hn hx
  go_enter Try.func39, Try.ntmps39
  go_wp2_with fail
  refine (K1.out _).mono ?_
  rintro e w1 ⟨rfl, hb⟩
  have HB := Lib.hid (bthen B.out hb); have XB := Lib.hid (XB.out.below hb)
  clear hb
  obtain ⟨-, x0, x1, x2, xf⟩ := XB.out.three
  go_wp2_with fail
  refine (K2.out _ HB.out).mono ?_
  rintro e w2 ⟨s, rfl, hs, hd⟩
  have HB := Lib.hid (bthen HB.out hd.below)
  clear hd
  go_wp2
  go_ret2
  exact ⟨_, rfl, hs, HB.out⟩
set_option maxRecDepth 100000 in
set_option maxHeartbeats 8000000 in
theorem impl_sumRowsT (w : World) (r c : Nat) (ad : Option Addr) (cap n : Nat) (xs : List Nat) (h : F32s w ad cap xs) (hx : xs.length = n) (hn6 : n ≤ 256) (hc1 : 1 ≤ c) (hc : c ≤ 16) :
    Calls Try.prog 132 #[.agg #[.int .i64 r, .int .i64 c, .slice ad n cap]] w fun e w' => ∃ ad' cap' zs, e = .returned (.slice ad' c cap') ∧ Hid (RepF w' w.heap.size w'.heap.size ad' c cap' zs) ∧ Hid (zs.map (cn .f32) = listOf c (colS (xs.map (cn .f32)) c n)) ∧ Below w.heap.size w w' := by
  obtain ⟨i0, hi0, hz0, hz1, hz2⟩ := info_parts info_f32
  obtain ⟨X, hX⟩ : ∃ X, X = xs.map (cn .f32) := ⟨_, rfl⟩
  rw [← hX]
  have HX := Lib.hid hX; have HXL := Lib.hid hx; have H0 := Lib.hid h
  have XB := Lib.hid (BoxN.alloc w #[.int .i64 r, .int .i64 c, .slice ad n cap] 27)
  have hB := below1 w (.cells #[.int .i64 r, .int .i64 c, .slice ad n cap] 27)
  have B := Lib.hid hB
  have hsz := hB.size
  clear hX hx h hB
  go_enter Try.func132, Try.ntmps132
  obtain ⟨w0, hw0⟩ : ∃ w0, w0 = w.alloc (.cells #[.int .i64 r, .int .i64 c, .slice ad n cap] 27) := ⟨_, rfl⟩
  rw [← hw0] at XB B hsz
  go_wp2_with (at_make; refine wpList_make_full _ rfl _ _ 25 rfl (w.heap.size + 1) 33 i0 (.float .f32 0) 1 Try.underlying25 hi0 hz0 hz1 .i64 .i64 _ _ c rfl rfl rfl rfl ?c1 ?c2 ?c3 ?_)
  case c1 => omega
  case c2 => unfold maxLen; omega
  intro w1 hown1 hg1
  rw [← hw0] at hg1
  have hw1 : w0.heap.size = w.heap.size + 1 := by rw [hw0]; simp
  have hb1 : Below (w.heap.size + 1) w0 w1 := (Below.refl _ _).grown hg1 (by omega) (fun k e => by cases e)
  have hs1 := hb1.size
  have hS := zeros_rep hown1
  have B0 := B
  have HW1 := Lib.hid hw1
  have hne : ¬ c = 0 := by omega
  clear hown1 hg1 hw0 B
  have XB1 := Lib.hid (XB.out.below (HW1.out.symm ▸ hb1))
  obtain ⟨-, y0, y1, y2, yf⟩ := XB1.out.three
  go_wp2
  go_loopw [13] (fun i wr => ∃ k : Nat, i = .int .i64 k ∧ k ≤ n ∧ ∃ zs : List Nat, RepF wr (w.heap.size + 1) w1.heap.size (some ⟨w.heap.size + 1, 0, none⟩) c c zs ∧ Hid (zs.map (cn .f32) = listOf c (colS X c k)) ∧ Below (w.heap.size + 1) w0 wr ∧ w1.heap.size ≤ wr.heap.size) (fun i _ => n - (intOf i).toNat)
  case atStart => exact ⟨0, rfl, Nat.zero_le _, _, hS, Lib.hid (by rw [zeros_listOf]; rfl), hb1, Nat.le_refl _⟩
  case round =>
    obtain ⟨k, rfl, hk, zs, hz, HZ, hb, hbs⟩ := hrel
    have hx := H0.out.below (bthen B0.out (HW1.out.symm ▸ hb))
    obtain ⟨-, x0, x1, x2, xf⟩ := (XB.out.below (HW1.out.symm ▸ hb)).three
    by_cases hlt : k < n
    · have hk1 : k < xs.length := by rw [HXL.out]; exact hlt
      obtain ⟨bx, offx, rfl, _, hqx⟩ := F32s.spot hx (k := k) hk1
      have hcx := hqx k hk1
      obtain ⟨x, px⟩ : ∃ x, x = xs.getD k 0 := ⟨_, rfl⟩
      rw [← px] at hcx
      have Px := Lib.hid px; clear px hqx hx
      have hmod : k % c < c := Nat.mod_lt _ hc1
      have ht : (k : Int).tmod (c : Int) = ((k % c : Nat) : Int) := (Int.ofNat_tmod k c).symm
      obtain ⟨j, hj⟩ : ∃ j, j = k % c := ⟨_, rfl⟩
      rw [← hj] at hmod ht
      have HJ := Lib.hid hj; clear hj
      obtain ⟨g, hg, hlo, hcell, hfr, _⟩ := hz.open (by omega)
      cases hg
      have hc2 := hcell j hmod
      have hf := hfr j
      obtain ⟨z, hzz⟩ : ∃ z, z = zs.getD j 0 := ⟨_, rfl⟩
      rw [← hzz] at hc2
      have HZZ := Lib.hid hzz
      clear hcell hfr hzz
      go_wp2
      go_roundw
      case rel =>
        refine ⟨k + 1, by go_num, hlt, zs.set j _, RepF.setAt (hz.below (below_drewN (Below.refl _ _) _)) j _ (fbits_lt _ .f32 _ _ _) (by omega), Lib.hid (set_listOf2 HZ.out ?_ ?_), (below_drewN hb _).setCell (Nat.le_refl _) _, by simpa [World.setCell] using hbs⟩
        · rw [cn_fbits, HZZ.out, cn_at HZ.out hmod, Px.out, ← cn_getD, ← HX.out]
          show _ = if j = k % c then _ else _
          rw [if_pos HJ.out]
        · intro i hi
          show (if i = k % c then _ else _) = _
          rw [if_neg (by rw [← HJ.out]; exact hi)]
      case measure => simp [intOf]; omega
    · have hkn : k = n := by omega
      subst hkn
      go_wp2
      go_ret
      exact ⟨_, _, zs, rfl, Lib.hid (hz.bounds (by omega) hbs), HZ, bthen B0.out (HW1.out.symm ▸ hb)⟩
set_option maxRecDepth 100000 in
set_option maxHeartbeats 4000000 in
theorem impl_SumRows (w : World) (r c : Nat) (ad : Option Addr) (cap n : Nat) (xs : List Nat) (h : F32s w ad cap xs) (hx : xs.length = n) (hr1 : 1 ≤ r) (hr : r ≤ 16) (hc1 : 1 ≤ c) (hc : c ≤ 16) (hn : n = r * c) :
    Calls Try.prog 38 #[.agg #[.int .i64 r, .int .i64 c, .slice ad n cap]] w fun e w' => ∃ ad' cap' zs, e = .returned (.tuple #[.slice ad' c cap', .bool true]) ∧ Hid (RepF w' w.heap.size w'.heap.size ad' c cap' zs) ∧ Hid (zs.map (cn .f32) = listOf c (colS (xs.map (cn .f32)) c n)) ∧ Below w.heap.size w w' := by
  have hn6 : n ≤ 256 := by rw [hn]; exact Nat.mul_le_mul hr hc
  have hv := tenB_nat hr1 hr hc1 hc hn
  have hmx : n ≤ maxLen := by unfold maxLen; omega
  have K1 := Lib.hid (fun W => impl_ValidTensor r c ad n cap hmx W)
  rw [hv] at K1
  have K2 := Lib.hid (fun W (hb : Below w.heap.size w W) => impl_sumRowsT W r c ad cap n xs (h.below hb) hx hn6 hc1 hc)
  have XB := Lib.hid (BoxN.alloc w #[.int .i64 r, .int .i64 c, .slice ad n cap] 27)
  have B := Lib.hid (below1 w (.cells #[.int .i64 r, .int .i64 c, .slice ad n cap] 27))
  clear h hv hn hx
  go_enter Try.func38, Try.ntmps38
  go_wp2_with fail
  refine (K1.out _).mono ?_
  rintro e w1 ⟨rfl, hb⟩
  have HB := Lib.hid (bthen B.out hb); have XB := Lib.hid (XB.out.below hb)
  clear hb
  obtain ⟨-, x0, x1, x2, xf⟩ := XB.out.three
  go_wp2_with fail
  refine (K2.out _ HB.out).mono ?_
  rintro e w2 ⟨ad2, cap2, zs, rfl, RO, HZ, hb⟩
  have hz := HB.out.size
  have HB := Lib.hid (bthen HB.out hb)
  have HF := Lib.hid (RO.out.bounds hz (Nat.le_refl _))
  clear hb
  go_wp2
  go_ret2
  exact ⟨_, _, zs, rfl, HF, HZ, HB.out⟩
end Go.Proofs.Ytnkikigfpdngdaa
/- Tensors laid one under another: the program. No condition. -/
namespace Go.Proofs.Ytnkikigfpdngdaa
open Go Go.RowKit
set_option linter.unusedVariables false
set_option linter.unusedSimpArgs false
def catZ (Z : Nat → List Nat) : Nat → List Nat
  | 0 => []
  | k + 1 => catZ Z k ++ Z k
def sumN (R : Nat → Nat) : Nat → Nat
  | 0 => 0
  | k + 1 => sumN R k + R k
theorem sumN_mono {R : Nat → Nat} {a b : Nat} (h : a ≤ b) : sumN R a ≤ sumN R b := by
  induction h with
  | refl => exact Nat.le_refl _
  | step h ih => exact Nat.le_trans ih (Nat.le_add_right _ _)
theorem sumN_le {R : Nat → Nat} (hR : ∀ i, 1 ≤ R i) : ∀ k, k ≤ sumN R k
  | 0 => Nat.zero_le _
  | k + 1 => Nat.add_le_add (sumN_le hR k) (hR k)
section
variable {w0 wt : World} {rb ob : Nat} {r c : Int} {va : Option Addr} {k vc : Nat} {ys : List Nat}
/-- a whole list more -/
theorem Bld.cat (h : Bld w0 wt rb ob r c va k vc ys) {W w9 : World} {zs : List Nat} {m : Nat} {v' : Value} (hz : okF zs) (hm : zs.length = m) (hb : Below wt.heap.size wt W) (ho : w9.ownsRow w0.heap.size 33 1 v' (k + m) (ys.map (Value.float .f32) ++ zs.map (Value.float .f32)))
    (hg : W.grownBy w9 (Value.slice va k vc).ownBlock) (hat : v'.ownBlock = (Value.slice va k vc).ownBlock ∨ v'.ownBlock = some W.heap.size) :
    ∃ va' vc', v' = .slice va' (k + m) vc' ∧ w9.cell? ⟨ob, 2, none⟩ = some (.slice va k vc) ∧ w9.frozen? ⟨ob, 2, none⟩ = false ∧ Below w0.heap.size w0 w9 ∧ Bld w0 (w9.setCell ⟨ob, 2, none⟩ (.slice va' (k + m) vc')) rb ob r c va' (k + m) vc' (ys ++ zs) := by
  obtain ⟨va', vc', rfl, _⟩ := Rd.of_owns ho
  have h1 := h.own.below hb
  have hs := hg.size
  have hbs := hb.size
  have hB := h.below.size
  have hbel : Below w0.heap.size w0 w9 := by
    refine Below.grown (h.below.trans (hb.mono hB)) hg (by omega) (fun j e => (h.row.lt j e).1)
  have h2 := h1.grown (w' := w9) (hi' := w9.heap.size) (y := tRow va' (k + m) vc' (ys ++ zs)) hg (by
    refine Row.mk' ?_
    show w9.ownsRow w0.heap.size 33 1 (.slice va' (k + m) vc') (k + m) ((ys ++ zs).map (Value.float .f32))
    rw [List.map_append]; exact ho) (fun g e => by
      rcases hat with e1 | e1
      · exact .inl (e1.symm.trans e)
      · right
        have e2 : some g = some W.heap.size := e.symm.trans e1
        cases e2
        omega) (by omega)
  have hbl := h.out.lt
  have hcell : w9.cell? ⟨ob, 2, none⟩ = some (.slice va k vc) := by
    rw [hg.cell_far ⟨ob, 2, none⟩ (by show ob < W.heap.size; omega) (Ne.symm h.apart)]
    exact ((h.move hb).out).three.2.2.2.1
  have hfz : w9.frozen? ⟨ob, 2, none⟩ = false := by
    rw [hg.frozen_far ⟨ob, 2, none⟩ (by show ob < W.heap.size; omega) (Ne.symm h.apart)]
    exact ((h.move hb).out).fz 2
  refine ⟨va', vc', rfl, hcell, hfz, hbel, ?_⟩
  have p1 : [tRow va' (k + m) vc' (ys ++ zs), bRow ob [.int .i64 r, .int .i64 c, .slice va k vc], bRow rb [.int .i64 0, .int .i64 0, .slice none 0 0]].Perm [bRow ob [.int .i64 r, .int .i64 c, .slice va k vc], tRow va' (k + m) vc' (ys ++ zs), bRow rb [.int .i64 0, .int .i64 0, .slice none 0 0]] := List.Perm.swap _ _ _
  have h3 := (h2.perm p1).store 2 (.slice va' (k + m) vc')
  have h4 := h3.perm (M := [tRow va' (k + m) vc' (ys ++ zs), bRow ob [.int .i64 r, .int .i64 c, .slice va' (k + m) vc'], bRow rb [.int .i64 0, .int .i64 0, .slice none 0 0]]) (List.Perm.swap _ _ _)
  refine ⟨h4.bounds (Nat.le_refl _) (by simp [World.setCell]), by simp [h.len, hm], fun y hy => ?_, hbel.setCell (p := ⟨ob, 2, none⟩) ?_ _⟩
  · rcases List.mem_append.1 hy with hy | hy
    · exact h.ok y hy
    · exact hz y hy
  · exact (h.own.cell (List.mem_cons_of_mem _ (List.mem_cons_self ..))).2.1.1
/-- the number of rows is laid anew -/
theorem Bld.rows (h : Bld w0 wt rb ob r c va k vc ys) (r' : Int) : Bld w0 (wt.setCell ⟨ob, 0, none⟩ (.int .i64 r')) rb ob r' c va k vc ys := by
  have p1 : [tRow va k vc ys, bRow ob [.int .i64 r, .int .i64 c, .slice va k vc], bRow rb [.int .i64 0, .int .i64 0, .slice none 0 0]].Perm [bRow ob [.int .i64 r, .int .i64 c, .slice va k vc], tRow va k vc ys, bRow rb [.int .i64 0, .int .i64 0, .slice none 0 0]] := List.Perm.swap _ _ _
  have h3 := (h.own.perm p1).store 0 (.int .i64 r')
  have h4 := h3.perm (M := [tRow va k vc ys, bRow ob [.int .i64 r', .int .i64 c, .slice va k vc], bRow rb [.int .i64 0, .int .i64 0, .slice none 0 0]]) (List.Perm.swap _ _ _)
  exact ⟨h4.bounds (Nat.le_refl _) (by simp [World.setCell]), h.len, h.ok, h.below.setCell (p := ⟨ob, 0, none⟩) (h.own.cell (List.mem_cons_of_mem _ (List.mem_cons_self ..))).2.1.1 _⟩
end
set_option maxRecDepth 100000 in
set_option maxHeartbeats 4000000 in
theorem impl_ifTensor (w : World) (r c : Nat) (a1 : Option Addr) (k1 n : Nat) (hr1 : 1 ≤ r) (hr : r ≤ 16) (hc1 : 1 ≤ c) (hc : c ≤ 16) (hn : n = r * c) :
    Calls Try.prog 119 #[.agg #[.int .i64 r, .int .i64 c, .slice a1 n k1]] w fun e w' => e = .returned (.tuple #[.agg #[.int .i64 r, .int .i64 c, .slice a1 n k1], .bool true]) ∧ Below w.heap.size w w' := by
  have hn6 : n ≤ 256 := by rw [hn]; exact Nat.mul_le_mul hr hc
  have hv := tenB_nat hr1 hr hc1 hc hn
  have hmx : n ≤ maxLen := by unfold maxLen; omega
  have K1 := Lib.hid (fun W => impl_ValidTensor r c a1 n k1 hmx W)
  rw [hv] at K1
  have XB := Lib.hid (BoxN.alloc w #[.int .i64 r, .int .i64 c, .slice a1 n k1] 27)
  have XB := Lib.hid (XB.out.below (below1 _ (.cells #[.int .i64 0, .int .i64 0, .slice none 0 0] 27)))
  have RB := Lib.hid (BoxN.alloc2 w (.cells #[.int .i64 r, .int .i64 c, .slice a1 n k1] 27) #[.int .i64 0, .int .i64 0, .slice none 0 0] 27)
  have B := Lib.hid (below2 w (.cells #[.int .i64 r, .int .i64 c, .slice a1 n k1] 27) (.cells #[.int .i64 0, .int .i64 0, .slice none 0 0] 27))
  clear hv hn
  go_enter Try.func119, Try.ntmps119
  go_wp2_with fail
  refine (K1.out _).mono ?_
  rintro e w1 ⟨rfl, hb⟩
  have HB := Lib.hid (bthen B.out hb); have XB := Lib.hid (XB.out.below hb); have RB := Lib.hid (RB.out.below hb)
  clear hb
  obtain ⟨-, x0, x1, x2, xf⟩ := XB.out.three
  obtain ⟨rl, r0, r1, r2, rf⟩ := RB.out.three
  have hbf := setCs_below HB.out (g := (w.heap.size + 1)) (by omega) 0 [.int .i64 r, .int .i64 c, .slice a1 n k1]
  have HBF := Lib.hid hbf
  clear hbf
  go_wp2
  try simp only [Exit.inBlock, Exit.then]
  refine bodyPost_ret (v := .tuple #[.agg #[.int .i64 r, .int .i64 c, .slice a1 n k1], .bool true]) (by simp [results, Try.results119, go_sem, r0, r1, r2]) rfl ⟨rfl, HBF.out⟩
end Go.Proofs.Ytnkikigfpdngdaa
/- Tensors laid one under another: the program. No condition. -/
namespace Go.Proofs.Ytnkikigfpdngdaa
open Go Go.RowKit
set_option linter.unusedVariables false
set_option linter.unusedSimpArgs false
theorem Bld.start0 (w : World) (r c : Int) : Bld w ((w.alloc (.cells #[.int .i64 0, .int .i64 0, .slice none 0 0] 27)).alloc (.cells #[.int .i64 r, .int .i64 c, .slice none 0 0] 27)) w.heap.size (w.heap.size + 1) r c none 0 0 [] := by
  refine ⟨?_, rfl, fun x hx => (nomatch hx), below2 w _ _⟩
  have h1 := (Own.nil w w.heap.size w.heap.size).alloc (Nat.le_refl _) (Nat.le_refl _) #[.int .i64 0, .int .i64 0, .slice none 0 0] 27
  have h2 := h1.alloc (by simp) (by simp) #[.int .i64 r, .int .i64 c, .slice none 0 0] 27
  have e0 : (w.alloc (.cells #[.int .i64 0, .int .i64 0, .slice none 0 0] 27)).heap.size = w.heap.size + 1 := by simp
  rw [e0] at h2
  exact (Own.cons (x := tRow none 0 0 []) (Row.nil _ _ _ _) h2 (fun y hy g e1 e2 => nomatch e1)).bounds (Nat.le_refl _) (by simp)
set_option maxRecDepth 100000 in
set_option maxHeartbeats 8000000 in
theorem impl_StackRows (w : World) (q c : Nat) (lb lo lcap : Nat) (R : Nat → Nat) (A : Nat → Option Addr) (K : Nat → Nat) (Z : Nat → List Nat)
    (hl : ∀ i, i < q → w.cell? ⟨lb, lo + i * 3, none⟩ = some (.int .i64 (R i)) ∧ w.cell? ⟨lb, lo + i * 3 + 1, none⟩ = some (.int .i64 c) ∧ w.cell? ⟨lb, lo + i * 3 + 2, none⟩ = some (.slice (A i) (R i * c) (K i)))
    (hf : ∀ i, i < q → F32s w (A i) (K i) (Z i) ∧ (Z i).length = R i * c) (hR : ∀ i, 1 ≤ R i)
    (hq1 : 1 ≤ q) (hq : q ≤ 16) (hc1 : 1 ≤ c) (hc : c ≤ 16) (hs : sumN R q ≤ 16) :
    Calls Try.prog 26 #[.slice (some ⟨lb, lo, none⟩) q lcap] w (TenOk (sumN R q) c (sumN R q * c) ((catZ Z q).map (cn .f32)) w) := by
  obtain ⟨i0, hi0, hz0, hzs, hz2⟩ := info_parts info_f32
  have hlb : lb < w.heap.size := by
    have := World.block_lt_of_cell? w _ (hl 0 (by omega)).1
    exact this
  have h00 := (hl 0 (by omega)).2.1
  rw [show lo + 0 * 3 + 1 = lo + 1 by omega] at h00
  have HL := Lib.hid hl; have HF := Lib.hid hf; have HR := Lib.hid hR; have HS := Lib.hid hs
  clear hl hf hR hs
  obtain ⟨S, hS⟩ : ∃ S, S = sumN R q := ⟨_, rfl⟩
  obtain ⟨P, hP⟩ : ∃ P, P = sumN R q * c := ⟨_, rfl⟩
  rw [← hP, ← hS]
  have HSS := Lib.hid hS; have HPP := Lib.hid hP
  clear hS hP
  have KS := Lib.hid (Bld.start0 w ((0 : Nat) : Int) c)
  go_enter Try.func26, Try.ntmps26
  go_upto_region 4 with fail
  go_wp2
  go_loopw [23] (fun i wt => ∃ k : Nat, i = .int .i64 k ∧ k ≤ q ∧ ∃ (s p : Nat) (va : Option Addr) (vc : Nat), Hid (s = sumN R k ∧ p = sumN R k * c) ∧ Hid (Bld w wt w.heap.size (w.heap.size + 1) (s : Int) c va p vc (catZ Z k))) (fun i _ => q - (intOf i).toNat)
  case atStart => exact ⟨0, rfl, Nat.zero_le _, 0, 0, none, 0, Lib.hid ⟨rfl, (Nat.zero_mul _).symm⟩, KS⟩
  case round =>
    clear KS
    obtain ⟨k, rfl, hk, s, p, va, vc, HSP, HB⟩ := hrel
    have hbb := HB.out.below
    by_cases hlt : k < q
    · have hsk : s + R k ≤ 16 := by
        rw [HSP.out.1]; exact Nat.le_trans (sumN_mono (R := R) (a := k + 1) hlt) HS.out
      have hrk := HR.out k
      obtain ⟨f1, f2⟩ := HF.out k hlt
      obtain ⟨l0, l1, l2⟩ := HL.out k hlt
      have l0 := (hbb.cell (p := ⟨lb, lo + k * 3, none⟩) hlb).trans l0
      have l1 := (hbb.cell (p := ⟨lb, lo + k * 3 + 1, none⟩) hlb).trans l1
      have l2 := (hbb.cell (p := ⟨lb, lo + k * 3 + 2, none⟩) hlb).trans l2
      have hsp := HSP.out
      obtain ⟨rk, erk⟩ : ∃ rk, rk = R k := ⟨_, rfl⟩
      obtain ⟨zk, ezk⟩ : ∃ zk, zk = Z k := ⟨_, rfl⟩
      obtain ⟨m, em⟩ : ∃ m, m = R k * c := ⟨_, rfl⟩
      rw [← em] at l2 f2
      rw [← erk] at l0 hrk hsk em
      rw [← ezk] at f1 f2
      have hm6 : m ≤ 256 := by rw [em]; exact Nat.mul_le_mul (show rk ≤ 16 by omega) hc
      have hm1 : 1 ≤ m := by rw [em]; exact Nat.mul_le_mul hrk hc1
      have hp6 : p ≤ 256 := by rw [hsp.2, ← hsp.1]; exact Nat.mul_le_mul (show s ≤ 16 by omega) hc
      have hpm : p + m = (s + rk) * c := by rw [hsp.2, ← hsp.1, em, Nat.add_mul]
      obtain ⟨bk, ok, eA, _, _⟩ := f1.spot (k := 0) (by omega)
      rw [eA] at f1 l2
      obtain ⟨kk, ekk⟩ : ∃ kk, kk = K k := ⟨_, rfl⟩
      rw [← ekk] at f1 l2
      have hv := tenB_nat hrk (by omega) hc1 hc em
      have hmx : m ≤ maxLen := by unfold maxLen; omega
      have K1 := Lib.hid (fun W => impl_ValidTensor rk c (some ⟨bk, ok, none⟩) m kk hmx W)
      rw [hv] at K1
      have F1 := Lib.hid f1; have F2 := Lib.hid f2
      have E1 := Lib.hid (And.intro erk (And.intro ezk (And.intro em hpm)))
      have XB := Lib.hid (BoxN.alloc wr #[.int .i64 rk, .int .i64 c, .slice (some ⟨bk, ok, none⟩) m kk] 27)
      have B1 := Lib.hid (below1 wr (.cells #[.int .i64 rk, .int .i64 c, .slice (some ⟨bk, ok, none⟩) m kk] 27))
      have t1 : IntKind.i64.wrap ((s : Int) + (rk : Int)) = ((s + rk : Nat) : Int) := wrap_ok (by omega) (by omega)
      clear f1 f2 eA ekk erk ezk em hsp hpm hv hmx hbb
      go_wp2_with fail
      refine (K1.out _).mono ?_
      rintro e w1 ⟨rfl, hb⟩
      have HB1 := Lib.hid (HB.out.move (bthen B1.out hb)); have XB := Lib.hid (XB.out.below hb)
      obtain ⟨-, x0, x1, x2, xf⟩ := XB.out.three
      obtain ⟨-, o0, o1, o2, of'⟩ := HB1.out.out.three
      clear hb l0 l1 l2
      go_upto_region 10 with fail
      have hB2 := HB1.out.rows ((s + rk : Nat) : Int)
      have hx2 : (w1.setCell ⟨w.heap.size + 1, 0, none⟩ (.int .i64 ((s + rk : Nat) : Int))).cell? ⟨wr.heap.size, 2, none⟩ = some (.slice (some ⟨bk, ok, none⟩) m kk) := by
        rw [World.cell?_setCell_far _ _ _ _ (by have h9 := HB.out.out.lt; show w.heap.size + 1 ≠ wr.heap.size; omega)]
        exact x2
      obtain ⟨W2, hW2⟩ : ∃ W2, W2 = w1.setCell ⟨w.heap.size + 1, 0, none⟩ (.int .i64 ((s + rk : Nat) : Int)) := ⟨_, rfl⟩
      rw [show ((s : Int) + (rk : Int)) = ((s + rk : Nat) : Int) from rfl]
      rw [← hW2] at hB2 hx2 ⊢
      have HB2 := Lib.hid hB2
      have hF := F1.out.below HB2.out.below
      obtain ⟨-, q0, q1, q2, qf⟩ := hB2.out.three
      have hbs := hB2.below.size
      clear hW2 hB2 x0 x1 x2 xf o0 o1 o2 of' HB1 XB B1
      go_wp2_with (at_builtin; refine wpList_append_own_at _ rfl _ _ 25 rfl w.heap.size 33 i0 (.float .f32 0) 1 4 Try.underlying25 hi0 hz0 hzs hz2 rfl (by decide) _ p ((catZ Z k).map (Value.float .f32)) rfl HB2.out.row ⟨bk, ok, none⟩ m kk (zk.map (Value.float .f32)) rfl ?a1 ?a2 ?a3 ?a4 ?a5 ?a6 ?_)
      case a1 => simp [F2.out]
      case a2 =>
        intro j u hj
        rcases hF.rd with hr | ⟨b, off, hb, hc9⟩
        · rw [hr] at hj; cases hj
        · cases hb
          have hlt9 : j < (zk.map (Value.float .f32)).length := (List.getElem?_eq_some_iff.1 hj).1
          rw [Addr.add_lit]; exact (hc9.2 j hlt9).trans hj
      case a3 => intro u hu; obtain ⟨y, _, rfl⟩ := List.mem_map.1 hu; rfl
      case a4 => unfold maxLen; omega
      case a5 => omega
      case a6 => exact hbs
      intro v' w9 ho hg _ hat
      have HO := Lib.hid (HB2.out.cat F1.out.lt F2.out (Below.refl _ _) ho hg hat)
      clear ho hg hat
      obtain ⟨va', vc', rfl, hcell, hfz, hbel, hB3⟩ := HO.out
      have HB3 := Lib.hid hB3
      clear HO hB3 q0 q1 q2 qf hF hx2
      go_wp2
      go_roundw
      trace_state
      case rel => exact ⟨k + 1, by go_num, hlt, s + rk, p + m, va', vc', Lib.hid ⟨by rw [E1.out.1, HSP.out.1]; rfl, by rw [E1.out.2.2.2, HSP.out.1, E1.out.1]; rfl⟩, by rw [show catZ Z (k + 1) = catZ Z k ++ zk by rw [E1.out.2.1]; rfl]; exact HB3⟩
      case measure => simp [intOf]; omega
    · have hkn : k = q := by omega
      subst hkn
      obtain ⟨-, o0, o1, o2, of'⟩ := HB.out.out.three
      have hsp := HSP.out
      have hs1 : 1 ≤ s := by rw [hsp.1]; exact Nat.le_trans hq1 (sumN_le HR.out k)
      have hs6 : s ≤ 16 := by rw [hsp.1]; exact HS.out
      have K2 := Lib.hid (fun W => impl_ifTensor W s c va vc p hs1 hs6 hc1 hc (by rw [hsp.2, hsp.1]))
      obtain rfl : s = S := hsp.1.trans HSS.out.symm
      obtain rfl : p = P := hsp.2.trans HPP.out.symm
      clear hsp
      go_wp2_with fail
      refine (K2.out _).mono ?_
      rintro e w1 ⟨rfl, hb⟩
      have HB1 := Lib.hid (HB.out.move hb)
      obtain ⟨-, r0, r1, r2, rf⟩ := HB1.out.res.three
      have HFIN := Lib.hid HB1.out.fin
      clear hb o0 o1 o2 of' hbb
      go_wp2
      try simp only [Exit.inBlock, Exit.then]
      refine bodyPost_ret (v := .tuple #[.agg #[.int .i64 s, .int .i64 c, .slice va p vc], .bool true]) (by simp [results, Try.results26, go_sem, r0, r1, r2]) rfl ⟨_, _, catZ Z k, rfl, Lib.hid HFIN.out.1, Lib.hid rfl, HFIN.out.2⟩
end Go.Proofs.Ytnkikigfpdngdaa
/- What the reference's source of choices gives. No condition. -/
namespace Go.Proofs.Ytnkikigfpdngdaa
open Go Go.RowKit
set_option linter.unusedVariables false
set_option linter.unusedSimpArgs false
/-- a source of choices: its block, where it stands at most -/
structure SrcAt (w : World) (g : Nat) (ad : Option Addr) (cap : Nat) (xs : List Int) (at_ : Nat) (seed : Int) : Prop where
  lt : g < w.heap.size
  code : w.cell? ⟨g, 0, none⟩ = some (.slice ad xs.length cap)
  at1 : w.cell? ⟨g, 1, none⟩ = some (.int .i64 at_)
  seed2 : w.cell? ⟨g, 2, none⟩ = some (.int .u64 seed)
  free : ∀ o, w.frozen? ⟨g, o, none⟩ = false
  ints : Ints .u8 w ad cap xs
  other : xs ≠ [] → ∀ b off, ad = some ⟨b, off, none⟩ → b < g
def Src (w : World) (g n : Nat) : Prop := ∃ ad cap xs at_ seed, SrcAt w g ad cap xs at_ seed ∧ at_ ≤ n
theorem Src.mono {w : World} {g n m : Nat} (h : Src w g n) (hm : n ≤ m) : Src w g m := by
  obtain ⟨ad, cap, xs, a, s, h1, h2⟩ := h; exact ⟨ad, cap, xs, a, s, h1, Nat.le_trans h2 hm⟩
theorem Src.kept {w w' : World} {g n : Nat} (h : Src w g n) (hs : w.heap.size ≤ w'.heap.size) (hb : ∀ k, k ≤ g → w'.heap[k]? = w.heap[k]?) : Src w' g n := by
  obtain ⟨ad, cap, xs, a, s, h1, h2⟩ := h
  have hg := hb g (Nat.le_refl _)
  refine ⟨ad, cap, xs, a, s, ⟨Nat.lt_of_lt_of_le h1.lt hs, ?_, ?_, ?_, ?_, ?_, h1.other⟩, h2⟩
  · rw [World.cell?_of_block (w := w) hg]; exact h1.code
  · rw [World.cell?_of_block (w := w) hg]; exact h1.at1
  · rw [World.cell?_of_block (w := w) hg]; exact h1.seed2
  · intro o; rw [World.frozen?_of_block (w := w) hg]; exact h1.free o
  · refine ⟨h1.ints.len, h1.ints.cap, ?_, h1.ints.wf⟩
    by_cases hx : xs = []
    · subst hx; exact .inl rfl
    · exact h1.ints.rd.kept hs (fun b off e _ => hb b (Nat.le_of_lt (h1.other hx b off e)))
theorem Src.below {w w' : World} {g n : Nat} (h : Src w g n) (hb : Below w.heap.size w w') : Src w' g n :=
  h.kept hb.size fun k hk => hb.block k (by obtain ⟨_, _, _, _, _, h1, _⟩ := h; exact Nat.lt_of_le_of_lt hk h1.lt)
theorem touch_cell {w : World} {g k : Nat} {v : Value} : Touch g (g + 1) w (w.setCell ⟨g, k, none⟩ v) :=
  ⟨rfl, rfl, rfl, by simp [World.setCell], fun j hj hd => Below.heap_setCell _ _ _ _ (by intro e; simp at e; omega)⟩
theorem src_after {w : World} {g n : Nat} {ad : Option Addr} {cap : Nat} {xs : List Int} {a : Nat} {s : Int} (h : SrcAt w g ad cap xs a s) (han : a ≤ n) (u : Int) (q1 q2 : Nat) :
    Src ((((w.drewN q1).setCell ⟨g, 1, none⟩ (.int .i64 ((a : Int) + 1))).setCell ⟨g, 2, none⟩ (.int .u64 u)).drewN q2) g (n + 1) ∧
    Touch g (g + 1) w ((((w.drewN q1).setCell ⟨g, 1, none⟩ (.int .i64 ((a : Int) + 1))).setCell ⟨g, 2, none⟩ (.int .u64 u)).drewN q2) := by
  obtain ⟨hg, h0, h1, h2, hf, hi, ho⟩ := h
  have hb : Below g w ((((w.drewN q1).setCell ⟨g, 1, none⟩ (.int .i64 ((a : Int) + 1))).setCell ⟨g, 2, none⟩ (.int .u64 u)).drewN q2) :=
    below_drewN (((below_drewN (Below.refl g w) q1).setCell (Nat.le_refl g) _).setCell (Nat.le_refl g) _) q2
  refine ⟨⟨ad, cap, xs, a + 1, u, ⟨by simpa [World.setCell] using hg, ?_, ?_, ?_, ?_, ⟨hi.len, hi.cap, by
    by_cases hx : xs = []
    · subst hx; exact .inl rfl
    · exact hi.rd.belowLt hb (ho hx), hi.wf⟩, ho⟩, by omega⟩, ?_⟩
  · go_simp
  · have e : ((a + 1 : Nat) : Int) = (a : Int) + 1 := by omega
    rw [e]
    go_simp
  · go_simp
  · intro o
    have := hf o
    go_simp
  · exact (((Touch.of_below (below_drewN (Below.refl _ _) _)).trans touch_cell).trans touch_cell).trans (Touch.of_below (below_drewN (Below.refl _ _) _))
theorem and255 (Z : Int) : ∃ r : Nat, wrap64 (bits .and .u64 (IntKind.u64.wrap Z / 1099511627776) 255) = r ∧ r < 256 := by
  have hw : 0 ≤ IntKind.u64.wrap Z ∧ IntKind.u64.wrap Z < 18446744073709551616 := by
    have := wf_wrap .u64 Z
    simp [Lit.wf, IntKind.min, IntKind.max, IntKind.signed, IntKind.bits] at this
    omega
  have h0 : 0 ≤ IntKind.u64.wrap Z / 1099511627776 := by omega
  obtain ⟨m, hm⟩ := Int.eq_ofNat_of_zero_le h0
  rw [hm]
  have := bits_and_u64_nat m 255 (by omega) (by decide)
  rw [show ((255 : Nat) : Int) = 255 from rfl] at this
  rw [this]
  have hl : m &&& 255 < 256 := Nat.lt_of_le_of_lt Nat.and_le_right (by decide)
  refine ⟨m &&& 255, ?_, hl⟩
  unfold wrap64
  omega
theorem src_next (w : World) (g n : Nat) (h : Src w g n) (hn : n ≤ 1000000000) :
    Calls Try.prog 179 #[.pointer (some ⟨g, 0, none⟩)] w fun e w' => ∃ r : Nat, e = .returned (.int .i64 r) ∧ r < 256 ∧ Src w' g (n + 1) ∧ Touch g (g + 1) w w' := by
  obtain ⟨ad, cap, xs, a, s, ⟨hg, h0, h1, h2, hf, hi, ho⟩, han⟩ := h
  have hm := Nat.le_trans hi.len hi.cap
  unfold maxLen at hm
  by_cases hlt : a < xs.length
  · obtain ⟨b, off, rfl, hb, hc⟩ := hi.spot (i := a) hlt
    have hcell := hc a hlt
    have hw := hi.wf (xs.getD a 0) (by rw [List.getD_eq_getElem?_getD, List.getElem?_eq_getElem hlt]; exact List.getElem_mem hlt)
    obtain ⟨x, hx⟩ : ∃ x, x = xs.getD a 0 := ⟨_, rfl⟩
    rw [← hx] at hcell hw
    obtain ⟨hb0, hb1⟩ := bounds_u8 hw
    obtain ⟨l, hl⟩ : ∃ l, l = xs.length := ⟨_, rfl⟩
    rw [← hl] at hlt hm h0
    have HI := Lib.hid hi; have HO := Lib.hid ho; have HL := Lib.hid hl
    clear hx hw hc hi ho hl
    go_enter Try.func179, Try.ntmps179
    go_wp2
    go_quiet (fail)
    go_wp2
    go_quiet (fail)
    go_wp2
    go_quiet (fail)
    go_wp2
    go_ret
    obtain ⟨y, rfl⟩ := Int.eq_ofNat_of_zero_le hb0
    have hsa := src_after (ad := some ⟨b, off, none⟩) (n := n) ⟨hg, by rw [← HL.out]; exact h0, h1, h2, hf, HI.out, HO.out⟩ han
    exact ⟨y, rfl, by omega, (hsa _ _ _).1, (hsa _ _ _).2⟩
  · have HI := Lib.hid hi; have HO := Lib.hid ho
    obtain ⟨l, hl⟩ : ∃ l, l = xs.length := ⟨_, rfl⟩
    rw [← hl] at hlt hm h0
    have HL := Lib.hid hl
    clear hi ho hl
    go_enter Try.func179, Try.ntmps179
    go_wp2
    go_quiet (fail)
    go_wp2
    go_quiet (fail)
    go_wp2
    go_ret
    have hsa := src_after (n := n) ⟨hg, by rw [← HL.out]; exact h0, h1, h2, hf, HI.out, HO.out⟩ han
    obtain ⟨r, hr, hr2⟩ := and255 (IntKind.u64.wrap (IntKind.u64.wrap (s * 6364136223846793005)) + 1442695040888963407)
    exact ⟨r, by rw [← hr]; rfl, hr2, (hsa _ _ _).1, (hsa _ _ _).2⟩
theorem src_pick (w : World) (g n : Nat) (h : Src w g n) (hn : n ≤ 900000000) (N : Int) (h1 : 1 ≤ N) (h2 : N ≤ 1000000) :
    Calls Try.prog 101 #[.pointer (some ⟨g, 0, none⟩), .int .i64 N] w fun e w' => ∃ r : Nat, e = .returned (.int .i64 r) ∧ (r : Int) < N ∧ Src w' g (n + 2) ∧ Touch g (g + 1) w w' := by
  have HS := Lib.hid h; clear h
  by_cases hN : N ≤ 1
  · go_enter Try.func101, Try.ntmps101
    go_wp2
    go_ret
    exact ⟨0, rfl, by omega, HS.out.mono (by omega), Touch.refl _ _ _⟩
  · have hk := fun W m hW hm => src_next W g m hW hm
    have HK := Lib.hid hk; clear hk
    by_cases h200 : 200 < N
    · go_enter Try.func101, Try.ntmps101
      go_wp2_with fail
      refine (HK.out _ n HS.out (by omega)).mono ?_
      rintro e w1 ⟨r, rfl, hr, hs1, ht1⟩
      have HS1 := Lib.hid hs1; have HT1 := Lib.hid ht1; clear hs1 ht1
      go_wp2_with fail
      refine (HK.out _ (n + 1) HS1.out (by omega)).mono ?_
      rintro e w2 ⟨q, rfl, hq, hs2, ht2⟩
      have HS2 := Lib.hid hs2; have HT2 := Lib.hid ht2; clear hs2 ht2
      go_wp2
      go_ret
      have g0 := Int.emod_nonneg ((r : Int) * 256 + q) (show N ≠ 0 by omega)
      have g1 := Int.emod_lt_of_pos ((r : Int) * 256 + q) (show 0 < N by omega)
      exact ⟨(((r : Int) * 256 + q) % N).toNat, by rw [Int.toNat_of_nonneg g0]; rfl, by omega, HS2.out, HT1.out.trans HT2.out⟩
    · go_enter Try.func101, Try.ntmps101
      go_wp2_with fail
      refine (HK.out _ n HS.out (by omega)).mono ?_
      rintro e w1 ⟨r, rfl, hr, hs1, ht1⟩
      have HS1 := Lib.hid hs1; have HT1 := Lib.hid ht1; clear hs1 ht1
      go_wp2
      go_ret
      have g0 := Int.emod_nonneg (r : Int) (show N ≠ 0 by omega)
      have g1 := Int.emod_lt_of_pos (r : Int) (show 0 < N by omega)
      exact ⟨((r : Int) % N).toNat, by rw [Int.toNat_of_nonneg g0]; rfl, by omega, HS1.out.mono (by omega), HT1.out⟩
theorem src_one (w : World) (g n : Nat) (h : Src w g n) (hn : n ≤ 900000000) (N : Int) (h1 : 1 ≤ N) (h2 : N ≤ 1000000) :
    Calls Try.prog 187 #[.pointer (some ⟨g, 0, none⟩), .int .i64 N] w fun e w' => ∃ b : Bool, e = .returned (.bool b) ∧ Src w' g (n + 2) ∧ Touch g (g + 1) w w' := by
  have hk := src_pick w g n h hn N h1 h2
  have HK := Lib.hid hk; clear hk h
  go_enter Try.func187, Try.ntmps187
  go_wp2_with fail
  refine HK.out.mono ?_
  rintro e w1 ⟨r, rfl, hr, hs1, ht1⟩
  have HS1 := Lib.hid hs1; have HT1 := Lib.hid ht1; clear hs1 ht1
  go_wp2
  go_ret
  exact ⟨_, rfl, HS1.out, HT1.out⟩
theorem src_among (w : World) (g n : Nat) (h : Src w g n) (hn : n ≤ 900000000) (b : Nat) (len cap : Nat) (vs : List Int) (hb : b ≠ g) (hbl : b < w.heap.size) (hc : ∀ i, i < len → w.cell? ⟨b, i, none⟩ = some (.int .i64 (vs.getD i 0))) (h1 : 1 ≤ len) (h2 : len ≤ 1000) :
    Calls Try.prog 195 #[.pointer (some ⟨g, 0, none⟩), .slice (some ⟨b, 0, none⟩) len cap] w fun e w' => ∃ i : Nat, i < len ∧ e = .returned (.int .i64 (vs.getD i 0)) ∧ Src w' g (n + 2) ∧ Touch g (g + 1) w w' := by
  have hk := src_pick w g n h hn len (by omega) (by omega)
  have HK := Lib.hid hk; have HC := Lib.hid hc; clear hk h hc
  go_enter Try.func195, Try.ntmps195
  go_wp2_with fail
  refine HK.out.mono ?_
  rintro e w1 ⟨r, rfl, hr, hs1, ht1⟩
  have hr := Int.ofNat_lt.1 hr
  have hcell : w1.cell? ⟨b, r, none⟩ = some (.int .i64 (vs.getD r 0)) := by
    rw [World.cell?_of_block (w := w) (ht1.block b hbl (by omega))]; exact HC.out r hr
  have HS1 := Lib.hid hs1; have HT1 := Lib.hid ht1; clear hs1 ht1
  go_wp2
  go_ret
  exact ⟨r, hr, rfl, HS1.out, HT1.out⟩
theorem src_from (w : World) (ad : Option Addr) (cap : Nat) (xs : List Int) (h : Ints .u8 w ad cap xs) :
    Calls Try.prog 100 #[.slice ad xs.length cap] w fun e w' => e = .returned (.pointer (some ⟨w.heap.size, 0, none⟩)) ∧ Src w' w.heap.size 0 ∧ Below w.heap.size w w' ∧ w.heap.size < w'.heap.size := by
  obtain ⟨l, hl⟩ : ∃ l, l = xs.length := ⟨_, rfl⟩
  have hother : xs ≠ [] → ∀ b off, ad = some ⟨b, off, none⟩ → b < w.heap.size := by
    intro hne b off e
    rcases h.rd with h1 | ⟨b', off', e', hb', _⟩
    · exact absurd (by simpa using h1) hne
    · rw [e] at e'; cases e'; exact hb'
  rw [← hl]
  have HL := Lib.hid hl; have HI := Lib.hid h; have HO := Lib.hid hother; clear hl h hother
  go_enter Try.func100, Try.ntmps100
  go_wp2
  go_ret
  refine ⟨rfl, ⟨ad, cap, xs, 0, 0, ⟨by simp, ?_, ?_, ?_, ?_, HI.out.below (below1 _ _), HO.out⟩, Nat.le_refl _⟩, below1 _ _, by simp⟩
  · rw [← HL.out]; go_simp
  · go_simp
  · go_simp
  · intro o; go_simp
end Go.Proofs.Ytnkikigfpdngdaa
/- What the reference draws from a source of choices: numbers. No condition. -/
namespace Go.Proofs.Ytnkikigfpdngdaa
open Go Go.RowKit
set_option linter.unusedVariables false
set_option linter.unusedSimpArgs false
def plainQ (d j : Nat) : Nat := fop .quo .f32 (floatOfInt .f32 ((j : Int) - 64)) d
def isPl (x : Nat) : Prop := ∃ j, j < 129 ∧ (x = plainQ 1088421888 j ∨ x = plainQ 1098907648 j)
theorem plain_some : ∀ j : Nat, j < 129 → floatBits .quo .f32 (floatOfInt .f32 ((j : Int) - 64)) 1088421888 = some (plainQ 1088421888 j) ∧ floatBits .quo .f32 (floatOfInt .f32 ((j : Int) - 64)) 1098907648 = some (plainQ 1098907648 j) := by decide +kernel
theorem isPl_lt {x : Nat} (h : isPl x) : x < 4294967296 := by
  obtain ⟨j, hj, h⟩ := h
  obtain ⟨h1, h2⟩ := plain_some j hj
  rcases h with rfl | rfl
  · have := floatBits_wf h1; simpa [Lit.wf] using this
  · have := floatBits_wf h2; simpa [Lit.wf] using this
theorem draw_plain (w : World) (g n : Nat) (h : Src w g n) (hn : n ≤ 800000000) :
    Calls Try.prog 121 #[.pointer (some ⟨g, 0, none⟩)] w fun e w' => ∃ x : Nat, e = .returned (.float .f32 x) ∧ Hid (isPl x) ∧ Src w' g (n + 4) ∧ Touch g (g + 1) w w' := by
  have hk := fun W m hW hm => src_pick W g m hW hm 129 (by decide) (by decide)
  have ho := fun W m hW hm => src_one W g m hW hm 4 (by decide) (by decide)
  have HK := Lib.hid hk; have HO := Lib.hid ho; have HS := Lib.hid h; clear hk ho h
  go_enter Try.func121, Try.ntmps121
  go_wp2_with fail
  refine (HK.out _ n HS.out (by omega)).mono ?_
  rintro e w1 ⟨j, rfl, hj, hs1, ht1⟩
  have hj := Int.ofNat_lt.1 hj
  have HS1 := Lib.hid hs1; have HT1 := Lib.hid ht1; clear hs1 ht1
  obtain ⟨h7, h16⟩ := plain_some j hj
  have q1 := fun w => fbits_some h7 w
  have q2 := fdr_some h7
  have q3 := fun w => fbits_some h16 w
  have q4 := fdr_some h16
  have hz := World.drewN_none
  clear h7 h16
  go_wp2_with fail
  refine (HO.out _ (n + 2) HS1.out (by omega)).mono ?_
  rintro e w2 ⟨b, rfl, hs2, ht2⟩
  have HS2 := Lib.hid hs2; have HT2 := Lib.hid ht2; clear hs2 ht2
  cases b
  · go_wp2
    go_ret
    exact ⟨_, rfl, Lib.hid ⟨j, hj, .inr rfl⟩, HS2.out, HT1.out.trans HT2.out⟩
  · go_wp2
    go_ret
    exact ⟨_, rfl, Lib.hid ⟨j, hj, .inl rfl⟩, HS2.out, HT1.out.trans HT2.out⟩
theorem strange_lt : ∀ i, i < 10 → ∃ m : Nat, ([0, 2147483648, 2139095040, 4286578688, 2143289344, 1, 2139095039, 8388608, 8388607, 2147483649] : List Int).getD i 0 = m ∧ m < 4294967296 := by
  intro i hi
  match i, hi with
  | 0, _ => exact ⟨0, rfl, by decide⟩
  | 1, _ => exact ⟨2147483648, rfl, by decide⟩
  | 2, _ => exact ⟨2139095040, rfl, by decide⟩
  | 3, _ => exact ⟨4286578688, rfl, by decide⟩
  | 4, _ => exact ⟨2143289344, rfl, by decide⟩
  | 5, _ => exact ⟨1, rfl, by decide⟩
  | 6, _ => exact ⟨2139095039, rfl, by decide⟩
  | 7, _ => exact ⟨8388608, rfl, by decide⟩
  | 8, _ => exact ⟨8388607, rfl, by decide⟩
  | 9, _ => exact ⟨2147483649, rfl, by decide⟩
theorem scales_lt : ∀ i, i < 4 → ∃ m : Nat, ([8388608, 2130706432, 1610612736, 536870912] : List Int).getD i 0 = m ∧ m < 4294967296 := by
  intro i hi
  match i, hi with
  | 0, _ => exact ⟨8388608, rfl, by decide⟩
  | 1, _ => exact ⟨2130706432, rfl, by decide⟩
  | 2, _ => exact ⟨1610612736, rfl, by decide⟩
  | 3, _ => exact ⟨536870912, rfl, by decide⟩
theorem arr_cell (w : World) (e : TypeId) (vs : List Int) (i : Nat) (hi : i < vs.length) : (w.alloc (.cells (vs.map (Value.int .i64)).toArray e)).cell? ⟨w.heap.size, i, none⟩ = some (.int .i64 (vs.getD i 0)) := by
  rw [World.cell?_alloc_at _ _ _ _ rfl]
  simp [List.getD_eq_getElem?_getD, List.getElem?_eq_getElem hi]
theorem draw_float (w : World) (g n : Nat) (h : Src w g n) (hn : n ≤ 700000000) :
    Calls Try.prog 204 #[.pointer (some ⟨g, 0, none⟩)] w fun e w' => ∃ x : Nat, e = .returned (.float .f32 x) ∧ x < 4294967296 ∧ Src w' g (n + 20) ∧ Touch g (g + 1) w w' := by
  have hk := fun W m hW hm N h1 h2 => src_pick W g m hW hm N h1 h2
  have ho := fun W m hW hm => src_one W g m hW hm 12 (by decide) (by decide)
  have hp := fun W m hW hm => draw_plain W g m hW hm
  have hgl : g < w.heap.size := by obtain ⟨_, _, _, _, _, h1, _⟩ := h; exact h1.lt
  have HK := Lib.hid hk; have HO := Lib.hid ho; have HP := Lib.hid hp; have HS := Lib.hid h; clear hk ho hp h
  go_enter Try.func204, Try.ntmps204
  go_wp2_with fail
  refine (HO.out _ n HS.out (by omega)).mono ?_
  rintro e w1 ⟨b, rfl, hs1, ht1⟩
  have z1 := ht1.size
  have HS1 := Lib.hid hs1; have HT1 := Lib.hid ht1; clear hs1 ht1
  cases b
  · go_wp2_with fail
    refine (HP.out _ (n + 2) HS1.out (by omega)).mono ?_
    rintro e w2 ⟨x, rfl, hx, hs2, ht2⟩
    have HS2 := Lib.hid hs2; have HT2 := Lib.hid ht2; clear hs2 ht2
    go_wp2
    go_ret
    exact ⟨x, rfl, isPl_lt hx.out, HS2.out.mono (by omega), HT1.out.trans HT2.out⟩
  go_wp2_with fail
  refine (HK.out _ (n + 2) HS1.out (by omega) 4 (by decide) (by decide)).mono ?_
  rintro e w2 ⟨c, rfl, hc, hs2, ht2⟩
  have hc := Int.ofNat_lt.1 hc
  have z2 := ht2.size
  have HS2 := Lib.hid hs2; have HT2 := Lib.hid (HT1.out.trans ht2); clear hs2 ht2
  by_cases h0 : c = 0
  · subst h0
    go_wp2_with fail
    refine (src_among _ g (n + 4) ((HS2.out.below (below1 _ _)).mono (by omega)) (by omega) w2.heap.size 10 10 [0, 2147483648, 2139095040, 4286578688, 2143289344, 1, 2139095039, 8388608, 8388607, 2147483649] (by omega) (by simp) ?_ (by decide) (by decide)).mono ?_
    · intro i hi
      exact arr_cell _ _ [0, 2147483648, 2139095040, 4286578688, 2143289344, 1, 2139095039, 8388608, 8388607, 2147483649] i hi
    rintro e w3 ⟨i, hi, rfl, hs3, ht3⟩
    obtain ⟨m, hm, hm2⟩ := strange_lt i hi
    rw [hm]
    have HS3 := Lib.hid hs3; have HT3 := Lib.hid ht3; clear hs3 ht3
    go_wp2_with fail
    refine (spec_l01From m hm2 _).mono ?_
    rintro e w4 ⟨rfl, rfl⟩
    go_wp2
    go_ret
    exact ⟨m, rfl, hm2, HS3.out.mono (by omega), (HT2.out.trans (Touch.of_below (below1 _ _))).trans HT3.out⟩
  by_cases h1 : c = 1
  · subst h1
    go_wp2_with fail
    refine (HK.out _ (n + 4) HS2.out (by omega) 65536 (by decide) (by decide)).mono ?_
    rintro e w3 ⟨a, rfl, ha, hs3, ht3⟩
    have HS3 := Lib.hid hs3; have HT3 := Lib.hid (HT2.out.trans ht3); clear hs3 ht3
    go_wp2_with fail
    refine (HK.out _ (n + 6) HS3.out (by omega) 65536 (by decide) (by decide)).mono ?_
    rintro e w4 ⟨d, rfl, hd, hs4, ht4⟩
    have HS4 := Lib.hid hs4; have HT4 := Lib.hid (HT3.out.trans ht4); clear hs4 ht4
    go_wp2_with fail
    refine (spec_l01From (a * 65536 + d) (by omega) _).mono ?_
    rintro e w5 ⟨rfl, rfl⟩
    go_wp2
    go_ret
    exact ⟨_, rfl, by omega, HS4.out.mono (by omega), HT4.out⟩
  by_cases h2 : c = 2
  · subst h2
    go_wp2_with fail
    refine (HK.out _ (n + 4) HS2.out (by omega) 65536 (by decide) (by decide)).mono ?_
    rintro e w3 ⟨a, rfl, ha, hs3, ht3⟩
    have HS3 := Lib.hid hs3; have HT3 := Lib.hid (HT2.out.trans ht3); clear hs3 ht3
    go_wp2_with fail
    refine (spec_l01From (a * 65536) (by omega) _).mono ?_
    rintro e w5 ⟨rfl, rfl⟩
    go_wp2
    go_ret
    exact ⟨_, rfl, by omega, HS3.out.mono (by omega), HT3.out⟩
  · have n0 : ((c : Int) == 0) = false := by simp; omega
    have n1 : ((c : Int) == 1) = false := by simp; omega
    have n2 : ((c : Int) == 2) = false := by simp; omega
    clear h0 h1 h2
    go_wp2_with fail
    refine (HP.out _ (n + 4) HS2.out (by omega)).mono ?_
    rintro e w3 ⟨x, rfl, hx, hs3, ht3⟩
    have z3 := ht3.size
    have HS3 := Lib.hid hs3; have HT3 := Lib.hid (HT2.out.trans ht3); clear hs3 ht3
    go_wp2_with fail
    refine (src_among _ g (n + 8) ((HS3.out.below (below1 _ _)).mono (by omega)) (by omega) w3.heap.size 4 4 [8388608, 2130706432, 1610612736, 536870912] (by omega) (by simp) ?_ (by decide) (by decide)).mono ?_
    · intro i hi
      exact arr_cell _ _ [8388608, 2130706432, 1610612736, 536870912] i hi
    rintro e w4 ⟨i, hi, rfl, hs4, ht4⟩
    obtain ⟨m, hm, hm2⟩ := scales_lt i hi
    rw [hm]
    have HS4 := Lib.hid hs4; have HT4 := Lib.hid ht4; clear hs4 ht4
    go_wp2_with fail
    refine (spec_l01From m hm2 _).mono ?_
    rintro e w5 ⟨rfl, rfl⟩
    go_wp2
    go_ret
    exact ⟨_, rfl, fbits_lt _ .f32 _ _ _, (HS4.out.below (below_drewN (Below.refl _ _) _)).mono (by omega), ((HT3.out.trans (Touch.of_below (below1 _ _))).trans HT4.out).trans (Touch.of_below (below_drewN (Below.refl _ _) _))⟩
end Go.Proofs.Ytnkikigfpdngdaa
/- What the reference draws from a source of choices: lists. No condition. -/
namespace Go.Proofs.Ytnkikigfpdngdaa
open Go Go.RowKit
set_option linter.unusedVariables false
set_option linter.unusedSimpArgs false
theorem touch_below' {lo hi : Nat} {w W w' : World} (ht : Touch lo hi w W) (hb : Below w.heap.size W w') : Touch lo hi w w' :=
  ⟨hb.os.trans ht.os, hb.tape.trans ht.tape, hb.output.trans ht.output, Nat.le_trans ht.size hb.size, fun k hk hd => (hb.block k hk).trans (ht.block k hk hd)⟩
theorem src_lt {w : World} {g n : Nat} (h : Src w g n) : g < w.heap.size := by obtain ⟨_, _, _, _, _, h1, _⟩ := h; exact h1.lt
theorem src_belowB {B : Nat} {w w' : World} {g n : Nat} (h : Src w g n) (hb : Below B w w') (hg : g < B) : Src w' g n := h.kept hb.size fun k hk => hb.block k (Nat.lt_of_le_of_lt hk hg)
theorem owns_touch {w w' : World} {lo2 hi2 e size base n : Nat} {v : Value} {cs : List Value} (h : w.ownsRow base e size v n cs) (ht : Touch lo2 hi2 w w') (hd : hi2 ≤ base) : w'.ownsRow base e size v n cs := ((Row.mk' h).touch ht (.inr hd)).own
theorem touch_from {w w1 w' : World} {g : Nat} (hb : Below w.heap.size w w1) (hg : w.heap.size ≤ g) (ht : Touch g (g + 1) w1 w') : Below w.heap.size w w' := touch_below hb ht hg
set_option maxRecDepth 100000 in
set_option maxHeartbeats 2000000 in
theorem draw_floats (w : World) (g n : Nat) (h : Src w g n) (hn : n ≤ 600000000) (N : Nat) (hN : N ≤ 100000) :
    Calls Try.prog 141 #[.pointer (some ⟨g, 0, none⟩), .int .i64 N] w fun e w' => ∃ (ad : Option Addr) (cap : Nat) (ys : List Nat), e = .returned (.slice ad N cap) ∧ RepF w' w.heap.size w'.heap.size ad N cap ys ∧ Src w' g (n + 2 + 20 * N) ∧ Touch g (g + 1) w w' := by
  obtain ⟨i0, hi, hz0, hz1, hz2⟩ := info_parts info_f32
  have ho := fun W m hW hm => src_one W g m hW hm 4 (by decide) (by decide)
  have hp := fun W m hW hm => draw_plain W g m hW hm
  have hq := fun W m hW hm => draw_float W g m hW hm
  have hgl := src_lt h
  have HO := Lib.hid ho; have HP := Lib.hid hp; have HQ := Lib.hid hq; have HS := Lib.hid h; clear ho hp hq h
  go_enter Try.func141, Try.ntmps141
  go_wp2_with fail
  refine (HO.out _ n ((HS.out.below (below1 _ _)).mono (Nat.le_refl _)) (by omega)).mono ?_
  rintro e w1 ⟨b, rfl, hs1, ht1⟩
  have z1 := ht1.size
  have ho1 : w1.ownsRow w.heap.size 33 1 (.slice (some ⟨w.heap.size, 0, none⟩) 0 0) 0 [] := owns_touch (World.ownsRow_made _ _ _ (Nat.le_refl _) (Nat.zero_le _) rfl) ht1 (by omega)
  have hT1 : Touch g (g + 1) w w1 := (Touch.of_below (below1 _ _)).trans ht1
  clear ht1
  go_wp2
  go_loopw [5, 1] (fun v i wr => ∃ k : Nat, i = .int .i64 ((N : Int) - k) ∧ k ≤ N ∧ ∃ ys : List Nat, wr.ownsRow w.heap.size 33 1 v k (ys.map (Value.float .f32)) ∧ (∀ y ∈ ys, (fun y => y < 4294967296) y) ∧ Src wr g (n + 2 + 20 * k) ∧ Touch g (g + 1) w wr) (fun _ i _ => (intOf i).toNat)
  case atStart => exact ⟨0, by simp, Nat.zero_le _, [], ho1, (fun y hy => nomatch hy), hs1.mono (by omega), hT1⟩
  case round =>
    clear ho1 hs1 hT1
    obtain ⟨k, rfl, hk, ys, hown, hys, hs, ht⟩ := hrel
    have hwz := ht.size
    have HLT := Lib.hid hys; have HWN := Lib.hid hown; have HS1 := Lib.hid hs; have HT1 := Lib.hid ht; clear hys hown hs ht
    by_cases hlt : k < N
    · have hp : 0 < (N : Int) - k := by omega
      cases b
      · go_wp2_with fail
        refine (HP.out _ (n + 2 + 20 * k) HS1.out (by omega)).mono ?_
        rintro e w2 ⟨x, rfl, hx, hs2, ht2⟩
        have hx := isPl_lt hx.out
        have hwz2 := ht2.size
        have hown2 := owns_touch HWN.out ht2 (by omega)
        have HT2 := Lib.hid (HT1.out.trans ht2); have HS2 := Lib.hid hs2; have HWN := Lib.hid hown2
        clear ht2 hs2 hown2
        go_wp2_with (at_builtin; refine wp_app rfl _ _ 25 rfl w.heap.size i0 (.float .f32 0) 1 4 Try.underlying25 hi hz0 hz1 hz2 rfl (by decide) rfl (one_cell _ rfl) _ _ _ rfl HWN.out rfl ?c3 ?c4 ?c5 ?_)
        case c3 => unfold maxLen; omega
        case c4 => omega
        case c5 => omega
        intro v' w9 hown1 hb9 hbs1
        have hs9 := src_belowB HS2.out hb9 (by omega)
        have ht9 := touch_below' HT2.out (hb9.mono (by omega))
        have HS9 := Lib.hid hs9; have HT9 := Lib.hid ht9
        clear hs9 ht9 hb9
        go_wp2
        go_roundw
        case rel =>
          refine ⟨k + 1, by congr 1; omega, hlt, ys ++ [x], by simpa using hown1, ?_, HS9.out.mono (by omega), HT9.out⟩
          intro z hz
          rcases List.mem_append.1 hz with hz | hz
          · exact HLT.out z hz
          · simp at hz; rw [hz]; exact hx
        case measure => simp [intOf]; omega
      · go_wp2_with fail
        refine (HQ.out _ (n + 2 + 20 * k) HS1.out (by omega)).mono ?_
        rintro e w2 ⟨x, rfl, hx, hs2, ht2⟩
        have hwz2 := ht2.size
        have hown2 := owns_touch HWN.out ht2 (by omega)
        have HT2 := Lib.hid (HT1.out.trans ht2); have HS2 := Lib.hid hs2; have HWN := Lib.hid hown2
        clear ht2 hs2 hown2
        go_wp2_with (at_builtin; refine wp_app rfl _ _ 25 rfl w.heap.size i0 (.float .f32 0) 1 4 Try.underlying25 hi hz0 hz1 hz2 rfl (by decide) rfl (one_cell _ rfl) _ _ _ rfl HWN.out rfl ?c3 ?c4 ?c5 ?_)
        case c3 => unfold maxLen; omega
        case c4 => omega
        case c5 => omega
        intro v' w9 hown1 hb9 hbs1
        have hs9 := src_belowB HS2.out hb9 (by omega)
        have ht9 := touch_below' HT2.out (hb9.mono (by omega))
        have HS9 := Lib.hid hs9; have HT9 := Lib.hid ht9
        clear hs9 ht9 hb9
        go_wp2
        go_roundw
        case rel =>
          refine ⟨k + 1, by congr 1; omega, hlt, ys ++ [x], by simpa using hown1, ?_, HS9.out.mono (by omega), HT9.out⟩
          intro z hz
          rcases List.mem_append.1 hz with hz | hz
          · exact HLT.out z hz
          · simp at hz; rw [hz]; exact hx
        case measure => simp [intOf]; omega
    · have hkn : k = N := by omega
      subst hkn
      have hp : (k : Int) - k ≤ 0 := by omega
      go_wp2
      go_ret
      obtain ⟨ad, cap, rfl, hr⟩ := RepF.of_owns HWN.out HLT.out
      exact ⟨ad, cap, rfl, ⟨ys, hr⟩, HS1.out.mono (by omega), HT1.out⟩
set_option maxRecDepth 100000 in
set_option maxHeartbeats 2000000 in
theorem b10_small (w : World) (a0 : Option Addr) (c0 : Nat) (l0 : List Int) (h : Ints .u8 w a0 c0 l0) (N : Nat) (hN : N ≤ 100000) :
    Calls Try.prog 53 #[.slice a0 l0.length c0, .int .i64 N] w fun e w' => ∃ (ad : Option Addr) (cap : Nat) (ys : List Nat), e = .returned (.slice ad N cap) ∧ RepF w' w.heap.size w'.heap.size ad N cap ys ∧ Hid (∀ y ∈ ys, isPl y) ∧ Below w.heap.size w w' := by
  obtain ⟨i0, hi, hz0, hz1, hz2⟩ := info_parts info_f32
  have hp := fun W m hW hm => draw_plain W w.heap.size m hW hm
  have hf := src_from w a0 c0 l0 h
  have HP := Lib.hid hp; have HF := Lib.hid hf; clear hp hf h
  go_enter Try.func53, Try.ntmps53
  go_wp2_with fail
  refine HF.out.mono ?_
  rintro e w1 ⟨rfl, hs, hb1, hz⟩
  obtain ⟨g, hg⟩ : ∃ g, g = w.heap.size := ⟨_, rfl⟩
  rw [← hg] at hs hz HP ⊢
  obtain ⟨n, hn⟩ : ∃ n, n = 0 := ⟨_, rfl⟩
  rw [← hn] at hs
  have hn0 : n ≤ 0 := by omega
  have hgl : w.heap.size ≤ g := by omega
  have HG := Lib.hid hg; have HB1 := Lib.hid hb1; clear hn hg hb1
  have hS1 := src_belowB hs (below1 w1 (.cells #[] 33)) hz
  have HS1 := Lib.hid hS1; clear hS1
  go_wp2
  go_loopw [6, 1] (fun v i wr => ∃ k : Nat, i = .int .i64 ((N : Int) - k) ∧ k ≤ N ∧ ∃ ys : List Nat, wr.ownsRow w1.heap.size 33 1 v k (ys.map (Value.float .f32)) ∧ (∀ y ∈ ys, isPl y) ∧ Src wr g (n + 0 + 4 * k) ∧ Touch g (g + 1) w1 wr) (fun _ i _ => (intOf i).toNat)
  case atStart => exact ⟨0, by simp, Nat.zero_le _, [], World.ownsRow_made _ _ _ (Nat.le_refl _) (Nat.zero_le _) rfl, (fun y hy => nomatch hy), (hs.below (below1 _ _)).mono (by omega), Touch.of_below (below1 _ _)⟩
  case round =>
    clear hs HS1
    obtain ⟨k, rfl, hk, ys, hown, hys, hs, ht⟩ := hrel
    have hwz := ht.size
    have HLT := Lib.hid hys; have HWN := Lib.hid hown; have HS1 := Lib.hid hs; have HT1 := Lib.hid ht; clear hys hown hs ht
    by_cases hlt : k < N
    · have hp : 0 < (N : Int) - k := by omega
      go_wp2_with fail
      refine (HP.out _ (n + 0 + 4 * k) HS1.out (by omega)).mono ?_
      rintro e w2 ⟨x, rfl, hx, hs2, ht2⟩
      have hx := hx.out
      have HXX := Lib.hid hx; clear hx
      have hwz2 := ht2.size
      have hown2 := owns_touch HWN.out ht2 (by omega)
      have HT2 := Lib.hid (HT1.out.trans ht2); have HS2 := Lib.hid hs2; have HWN := Lib.hid hown2
      clear ht2 hs2 hown2
      go_wp2_with (at_builtin; refine wp_app rfl _ _ 25 rfl w1.heap.size i0 (.float .f32 0) 1 4 Try.underlying25 hi hz0 hz1 hz2 rfl (by decide) rfl (one_cell _ rfl) _ _ _ rfl HWN.out rfl ?c3 ?c4 ?c5 ?_)
      case c3 => unfold maxLen; omega
      case c4 => omega
      case c5 => omega
      intro v' w9 hown1 hb9 hbs1
      have hs9 := src_belowB HS2.out hb9 (by omega)
      have ht9 := touch_below' HT2.out (hb9.mono (by omega))
      have HS9 := Lib.hid hs9; have HT9 := Lib.hid ht9
      clear hs9 ht9 hb9
      go_wp2
      go_roundw
      case rel =>
        refine ⟨k + 1, by congr 1; omega, hlt, ys ++ [x], by simpa using hown1, ?_, HS9.out.mono (by omega), HT9.out⟩
        intro z hz
        rcases List.mem_append.1 hz with hz | hz
        · exact HLT.out z hz
        · simp at hz; rw [hz]; exact HXX.out
      case measure => simp [intOf]; omega
    · have hkn : k = N := by omega
      subst hkn
      have hp : (k : Int) - k ≤ 0 := by omega
      go_wp2
      go_ret
      obtain ⟨ad, cap, rfl, hr⟩ := RepF.of_owns HWN.out (fun x hx => isPl_lt (HLT.out x hx))
      refine ⟨ad, cap, ys, rfl, ?_, HLT, ?_⟩
      · exact hr.bounds (by omega) (Nat.le_refl _)
      · exact touch_from HB1.out hgl HT1.out
theorem b10_numbers (w : World) (a0 : Option Addr) (c0 : Nat) (l0 : List Int) (h : Ints .u8 w a0 c0 l0) (N : Nat) (hN : N ≤ 100000) :
    Calls Try.prog 50 #[.slice a0 l0.length c0, .int .i64 N] w fun e w' => ∃ (ad : Option Addr) (cap : Nat) (ys : List Nat), e = .returned (.slice ad N cap) ∧ RepF w' w.heap.size w'.heap.size ad N cap ys ∧ Below w.heap.size w w' := by
  have hp := fun W m hW hm => draw_floats W w.heap.size m hW hm N hN
  have hf := src_from w a0 c0 l0 h
  have HP := Lib.hid hp; have HF := Lib.hid hf; clear hp hf h
  go_enter Try.func50, Try.ntmps50
  go_wp2_with fail
  refine HF.out.mono ?_
  rintro e w1 ⟨rfl, hs, hb1, hz⟩
  have HS := Lib.hid hs; have HB := Lib.hid hb1; clear hs hb1
  go_wp2_with fail
  refine (HP.out _ 0 HS.out (by decide)).mono ?_
  rintro e w2 ⟨ad, cap, ys, rfl, hr, hs2, ht2⟩
  have HT := Lib.hid ht2; have HR := Lib.hid hr; clear hs2 ht2 hr
  go_wp2
  go_ret
  exact ⟨ad, cap, ys, rfl, HR.out.bounds (by omega) (Nat.le_refl _), touch_from HB.out (Nat.le_refl _) HT.out⟩
end Go.Proofs.Ytnkikigfpdngdaa
/- Tensors that are drawn. No condition. -/
namespace Go.Proofs.Ytnkikigfpdngdaa
open Go Go.RowKit
set_option linter.unusedVariables false
set_option linter.unusedSimpArgs false
set_option maxHeartbeats 2000000 in
theorem draw_sized (w : World) (g n : Nat) (h : Src w g n) (hn : n ≤ 100000000) (r c : Nat) (hr : r ≤ 16) (hc : c ≤ 16) :
    Calls Try.prog 116 #[.pointer (some ⟨g, 0, none⟩), .int .i64 r, .int .i64 c] w fun e w' => ∃ ad cap ys, e = .returned (.agg #[.int .i64 r, .int .i64 c, .slice ad (r * c) cap]) ∧ Hid (RepF w' w.heap.size w'.heap.size ad (r * c) cap ys) ∧ Touch g (g + 1) w w' := by
  have hgl : g < w.heap.size := by obtain ⟨_, _, _, _, _, h1, _⟩ := h; exact h1.lt
  have hrc : r * c ≤ 256 := Nat.mul_le_mul hr hc
  obtain ⟨p, hp⟩ : ∃ p, p = r * c := ⟨_, rfl⟩
  have e1 : ((r : Int) * (c : Int)) = (p : Int) := by rw [hp]; rfl
  rw [← hp] at hrc ⊢
  have K := Lib.hid (draw_floats (w.alloc (.cells #[.int .i64 0, .int .i64 0, .slice none 0 0] 27)) g n (h.below (below1 _ _)) (by omega) p (by omega))
  have BX := Lib.hid (Box3.alloc w (.int .i64 0) (.int .i64 0) (.slice none 0 0) 27)
  clear hp h
  go_enter Try.func116, Try.ntmps116
  go_wp2_with fail
  refine K.out.mono ?_
  rintro e w' ⟨ad, cap, ys, rfl, hr, -, ht⟩
  obtain ⟨-, u0, u1, u2, uf⟩ := BX.out.touch ht (.inr (by omega))
  have ht2 := (Touch.of_below (below1 w (.cells #[.int .i64 0, .int .i64 0, .slice none 0 0] 27))).trans ht
  have hz := ht2.size
  have RO := Lib.hid hr; have HT := Lib.hid ht2
  have hbf : ∀ a b c : Value, Below w.heap.size w' (((w'.setCell ⟨w.heap.size, 0, none⟩ a).setCell ⟨w.heap.size, 1, none⟩ b).setCell ⟨w.heap.size, 2, none⟩ c) := fun a b c =>
    Below.setCell (p := ⟨w.heap.size, 2, none⟩) (Below.setCell (p := ⟨w.heap.size, 1, none⟩) (Below.setCell (p := ⟨w.heap.size, 0, none⟩) (Below.refl _ _) (Nat.le_refl _) a) (Nat.le_refl _) b) (Nat.le_refl _) c
  have htf : ∀ a b c : Value, Touch w.heap.size (w.heap.size + 1) w' (((w'.setCell ⟨w.heap.size, 0, none⟩ a).setCell ⟨w.heap.size, 1, none⟩ b).setCell ⟨w.heap.size, 2, none⟩ c) := fun a b c =>
    ((Touch.setCell (Nat.le_refl _) (by omega)).trans (Touch.setCell (Nat.le_refl _) (by omega))).trans (Touch.setCell (Nat.le_refl _) (by omega))
  have HBF := Lib.hid hbf; have HTF := Lib.hid htf
  clear hr ht ht2 hbf htf
  go_wp2
  try simp only [Exit.inBlock, Exit.then]
  refine bodyPost_ret (v := .agg #[.int .i64 r, .int .i64 c, .slice ad p cap]) (by simp [results, Try.results116, go_sem, u0, u1, u2]) rfl ⟨_, _, ys, rfl, Lib.hid ?_, touch_below' HT.out (HBF.out _ _ _)⟩
  have h1 := RO.out.touch (HTF.out (.int .i64 r) (.int .i64 c) (.slice ad p cap)) (.inr (by simp))
  exact h1.bounds (by simp) (by simp [World.setCell])
set_option maxHeartbeats 2000000 in
theorem r8_tensor (w : World) (a0 : Option Addr) (c0 : Nat) (l0 : List Int) (h : Ints .u8 w a0 c0 l0) (r c : Nat) (hr : r ≤ 16) (hc : c ≤ 16) :
    Calls Try.prog 24 #[.slice a0 l0.length c0, .int .i64 r, .int .i64 c] w fun e w' => ∃ ad cap ys, e = .returned (.agg #[.int .i64 r, .int .i64 c, .slice ad (r * c) cap]) ∧ Hid (RepF w' w.heap.size w'.heap.size ad (r * c) cap ys) ∧ Below w.heap.size w w' := by
  have hf := src_from (w.alloc (.cells #[.int .i64 0, .int .i64 0, .slice none 0 0] 27)) a0 c0 l0 (h.below (below1 _ _))
  have HP := Lib.hid (fun W m hW hm => draw_sized W (w.heap.size + 1) m hW hm r c hr hc)
  have HF := Lib.hid hf
  have BX := Lib.hid (Box3.alloc w (.int .i64 0) (.int .i64 0) (.slice none 0 0) 27)
  obtain ⟨p, hp⟩ : ∃ p, p = r * c := ⟨_, rfl⟩
  rw [← hp] at HP ⊢
  clear hf h hp
  go_enter Try.func24, Try.ntmps24
  go_wp2_with fail
  refine HF.out.mono ?_
  rintro e w1 ⟨rfl, hs, hb1, hz⟩
  have BX := Lib.hid (BX.out.below hb1)
  simp at hz hs hb1
  have HS := Lib.hid hs; have HB := Lib.hid hb1; clear hs hb1
  go_wp2_with fail
  refine (HP.out _ 0 HS.out (by decide)).mono ?_
  rintro e w' ⟨ad, cap, ys, rfl, RO, ht⟩
  obtain ⟨-, u0, u1, u2, uf⟩ := BX.out.touch ht (.inl (by omega))
  have hb : Below w.heap.size w w' := touch_below ((below1 w (.cells #[.int .i64 0, .int .i64 0, .slice none 0 0] 27)).trans (HB.out.mono (by simp))) ht (by omega)
  have hbf : ∀ a b c : Value, Below w.heap.size w (((w'.setCell ⟨w.heap.size, 0, none⟩ a).setCell ⟨w.heap.size, 1, none⟩ b).setCell ⟨w.heap.size, 2, none⟩ c) := fun a b c =>
    Below.setCell (p := ⟨w.heap.size, 2, none⟩) (Below.setCell (p := ⟨w.heap.size, 1, none⟩) (Below.setCell (p := ⟨w.heap.size, 0, none⟩) hb (Nat.le_refl _) a) (Nat.le_refl _) b) (Nat.le_refl _) c
  have htf : ∀ a b c : Value, Touch w.heap.size (w.heap.size + 1) w' (((w'.setCell ⟨w.heap.size, 0, none⟩ a).setCell ⟨w.heap.size, 1, none⟩ b).setCell ⟨w.heap.size, 2, none⟩ c) := fun a b c =>
    ((Touch.setCell (Nat.le_refl _) (by omega)).trans (Touch.setCell (Nat.le_refl _) (by omega))).trans (Touch.setCell (Nat.le_refl _) (by omega))
  have HBF := Lib.hid hbf; have HTF := Lib.hid htf
  clear hb ht hbf htf
  go_wp2
  try simp only [Exit.inBlock, Exit.then]
  refine bodyPost_ret (v := .agg #[.int .i64 r, .int .i64 c, .slice ad p cap]) (by simp [results, Try.results24, go_sem, u0, u1, u2]) rfl ⟨_, _, ys, rfl, Lib.hid ?_, HBF.out _ _ _⟩
  have h1 := RO.out.touch (HTF.out (.int .i64 r) (.int .i64 c) (.slice ad p cap)) (.inr (by omega))
  exact h1.bounds (by omega) (by simp [World.setCell])
end Go.Proofs.Ytnkikigfpdngdaa
/- Tensors that are held at once. No condition. -/
namespace Go.Proofs.Ytnkikigfpdngdaa
open Go Go.RowKit
set_option linter.unusedVariables false
set_option linter.unusedSimpArgs false
structure Held (w : World) (L : List (Nat × List Value)) (M : List (Option Addr × Nat × List Nat)) : Prop where
  box : ∀ x ∈ L, BoxN w x.1 x.2
  nums : ∀ y ∈ M, F32s w y.1 y.2.1 y.2.2
section
variable {w w' : World} {L : List (Nat × List Value)} {M : List (Option Addr × Nat × List Nat)}
theorem Held.nil (w : World) : Held w [] [] := ⟨fun x hx => (nomatch hx), fun x hx => (nomatch hx)⟩
theorem Held.below (h : Held w L M) (hb : Below w.heap.size w w') : Held w' L M := ⟨fun x hx => (h.box x hx).below hb, fun x hx => (h.nums x hx).below hb⟩
theorem Held.add (h : Held w L M) (hb : Below w.heap.size w w') (cs : Array Value) (t : TypeId) {a : Option Addr} {k : Nat} {xs : List Nat} (hf : F32s w' a k xs) : Held (w'.alloc (.cells cs t)) ((w'.heap.size, cs.toList) :: L) ((a, k, xs) :: M) := by
  have h1 := (h.below hb).below (below1 w' (.cells cs t))
  refine ⟨fun x hx => ?_, fun x hx => ?_⟩
  · rcases List.mem_cons.1 hx with rfl | hx
    · exact BoxN.alloc w' cs t
    · exact h1.box x hx
  · rcases List.mem_cons.1 hx with rfl | hx
    · exact hf.below (below1 w' (.cells cs t))
    · exact h1.nums x hx
theorem Held.b (h : Held w L M) (i : Nat) {b : Nat} {vs : List Value} (hi : L[i]? = some (b, vs)) : BoxN w b vs := h.box (b, vs) (List.mem_of_getElem? hi)
theorem Held.n (h : Held w L M) (i : Nat) {a : Option Addr} {k : Nat} {xs : List Nat} (hi : M[i]? = some (a, k, xs)) : F32s w a k xs := h.nums (a, k, xs) (List.mem_of_getElem? hi)
end
theorem ten_len {w : World} {lo hi : Nat} {ad : Option Addr} {n cap : Nat} {xs : List Nat} (h : Hid (RepF w lo hi ad n cap xs)) : xs.length = n := h.out.len
theorem impl_SameTensors_yes (w : World) (r c n : Nat) (a b : Option Addr) (ca cb : Nat) (xs ys : List Nat) (hx : F32s w a ca xs) (hy : F32s w b cb ys) (h1 : xs.length = n) (h2 : ys.length = n) (hr1 : 1 ≤ r) (hr : r ≤ 16) (hc1 : 1 ≤ c) (hc : c ≤ 16) (hn : n = r * c) (he : xs.map (cn .f32) = ys.map (cn .f32)) :
    Calls Try.prog 22 #[.agg #[.int .i64 r, .int .i64 c, .slice a n ca], .agg #[.int .i64 r, .int .i64 c, .slice b n cb]] w fun e w' => e = .returned (.bool true) ∧ Below w.heap.size w w' := by
  have h := impl_SameTensors w r c a b ca cb xs ys hx hy (by rw [h1]; exact tenB_nat hr1 hr hc1 hc hn) (by rw [h2]; exact tenB_nat hr1 hr hc1 hc hn)
  rw [decide_eq_true he, h1, h2] at h
  exact h
theorem repl3 (cs : List Value) (h3 : cs.length = 3) (j : Nat) (hj : j < 3) : ∀ (k i : Nat), i < k → (List.replicate k cs).flatten[i * 3 + j]? = cs[j]?
  | 0, i, hi => by omega
  | k + 1, 0, _ => by
    rw [List.replicate_succ, List.flatten_cons, List.getElem?_append_left (by omega)]
    simp
  | k + 1, i + 1, hi => by
    rw [List.replicate_succ, List.flatten_cons, List.getElem?_append_right (by omega), ← repl3 cs h3 j hj k i (by omega)]
    congr 1; omega
theorem repl3_snoc (cs : List Value) (k : Nat) : (List.replicate k cs).flatten ++ cs = (List.replicate (k + 1) cs).flatten := by
  rw [List.replicate_succ', List.flatten_append]; simp
theorem repl3_len (cs : List Value) (h3 : cs.length = 3) (k : Nat) : (List.replicate k cs).flatten.length = k * 3 := by
  simp [h3]
theorem sumN_one : ∀ k, sumN (fun _ => 1) k = k
  | 0 => rfl
  | k + 1 => by rw [sumN, sumN_one k]
end Go.Proofs.Ytnkikigfpdngdaa
/- What the laws choose by the bytes that they get. No condition. -/
namespace Go.Proofs.Ytnkikigfpdngdaa
open Go Go.RowKit
set_option linter.unusedVariables false
theorem b10Long_no (a1 a2 : Option Addr) (n1 n2 c1 c2 : Nat) (w : World) (h1 : n1 ≤ 1048576) (h2 : n2 ≤ 1048576) :
    Calls Try.prog 42 #[.slice a1 n1 c1, .slice a2 n2 c2] w fun e w' => e = .returned (.bool false) ∧ w = w' := by
  go_enter Try.func42, Try.ntmps42
  go_wp2
  go_ret
  refine ⟨?_, rfl⟩
  simp
  omega
theorem b10Long_yes (a1 a2 : Option Addr) (n1 n2 c1 c2 : Nat) (w : World) (h : ¬ (n1 ≤ 1048576 ∧ n2 ≤ 1048576)) :
    Calls Try.prog 42 #[.slice a1 n1 c1, .slice a2 n2 c2] w fun e w' => e = .returned (.bool true) ∧ w = w' := by
  by_cases h1 : 1048576 < n1
  · clear h
    go_enter Try.func42, Try.ntmps42
    go_wp2
    go_ret
    exact ⟨rfl, rfl⟩
  · have h2 : 1048576 < n2 := by omega
    clear h
    go_enter Try.func42, Try.ntmps42
    go_wp2
    go_ret
    refine ⟨?_, rfl⟩
    simp
    omega
theorem b10At_any (w : World) (ad : Option Addr) (cap : Nat) (xs : List Int) (h : Ints .u8 w ad cap xs) (i n : Int) (h0 : 0 ≤ i) (h1 : i ≤ 1000000) (hn : 1 ≤ n) (hn2 : n ≤ 1000000) :
    Calls Try.prog 49 #[.slice ad xs.length cap, .int .i64 i, .int .i64 n] w fun e w' => ∃ r : Nat, e = .returned (.int .i64 r) ∧ (r : Int) < n ∧ w = w' := by
  have hm := Nat.le_trans h.len h.cap
  unfold maxLen at hm
  obtain ⟨i, rfl⟩ := Int.eq_ofNat_of_zero_le h0
  by_cases hn1 : n ≤ 1
  · go_enter Try.func49, Try.ntmps49
    go_wp2
    go_ret
    exact ⟨0, rfl, by omega, rfl⟩
  · by_cases hi : i < xs.length
    · obtain ⟨b, off, rfl, _, hc⟩ := h.spot (i := i) hi
      have hcell := hc i hi
      have hw := h.wf (xs.getD i 0) (by rw [List.getD_eq_getElem?_getD, List.getElem?_eq_getElem hi]; exact List.getElem_mem hi)
      obtain ⟨x, hx⟩ : ∃ x, x = xs.getD i 0 := ⟨_, rfl⟩
      rw [← hx] at hcell hw
      have hb := bounds_u8 hw
      obtain ⟨hb0, hb1⟩ := hb
      obtain ⟨l, hl⟩ : ∃ l, l = xs.length := ⟨_, rfl⟩
      rw [← hl] at hi hm ⊢
      clear hx hw hc h hl
      go_enter Try.func49, Try.ntmps49
      go_wp2
      go_ret
      have g0 := Int.emod_nonneg x (show n ≠ 0 by omega)
      have g1 := Int.emod_lt_of_pos x (show 0 < n by omega)
      exact ⟨(x % n).toNat, by rw [Int.toNat_of_nonneg g0]; rfl, by omega, rfl⟩
    · clear h
      obtain ⟨l, hl⟩ : ∃ l, l = xs.length := ⟨_, rfl⟩
      rw [← hl] at hi hm ⊢
      clear hl
      go_enter Try.func49, Try.ntmps49
      go_wp2
      go_ret
      have g0 := Int.emod_nonneg ((i : Int) * 37 + 11) (show n ≠ 0 by omega)
      have g1 := Int.emod_lt_of_pos ((i : Int) * 37 + 11) (show 0 < n by omega)
      exact ⟨(((i : Int) * 37 + 11) % n).toNat, by rw [Int.toNat_of_nonneg g0]; rfl, by omega, rfl⟩
end Go.Proofs.Ytnkikigfpdngdaa
/- What the laws of the later layers choose by the bytes that they get. No condition. -/
namespace Go.Proofs.Ytnkikigfpdngdaa
open Go Go.RowKit
set_option linter.unusedVariables false
theorem r8Long_no (a1 a2 : Option Addr) (n1 n2 c1 c2 : Nat) (w : World) (h1 : n1 ≤ 48) (h2 : n2 ≤ 48) :
    Calls Try.prog 15 #[.slice a1 n1 c1, .slice a2 n2 c2] w fun e w' => e = .returned (.bool false) ∧ w = w' := by
  go_enter Try.func15, Try.ntmps15
  go_wp2
  go_ret
  refine ⟨?_, rfl⟩
  simp
  omega
theorem r8Long_yes (a1 a2 : Option Addr) (n1 n2 c1 c2 : Nat) (w : World) (h : ¬ (n1 ≤ 48 ∧ n2 ≤ 48)) :
    Calls Try.prog 15 #[.slice a1 n1 c1, .slice a2 n2 c2] w fun e w' => e = .returned (.bool true) ∧ w = w' := by
  by_cases h1 : 48 < n1
  · clear h
    go_enter Try.func15, Try.ntmps15
    go_wp2
    go_ret
    exact ⟨rfl, rfl⟩
  · have h2 : 48 < n2 := by omega
    clear h
    go_enter Try.func15, Try.ntmps15
    go_wp2
    go_ret
    refine ⟨?_, rfl⟩
    simp
    omega
theorem r8At_any (w : World) (ad : Option Addr) (cap : Nat) (xs : List Int) (h : Ints .u8 w ad cap xs) (i n : Int) (h0 : 0 ≤ i) (h1 : i ≤ 1000000) (hn : 1 ≤ n) (hn2 : n ≤ 1000000) :
    Calls Try.prog 16 #[.slice ad xs.length cap, .int .i64 i, .int .i64 n] w fun e w' => ∃ r : Nat, e = .returned (.int .i64 r) ∧ (r : Int) < n ∧ w = w' := by
  have hm := Nat.le_trans h.len h.cap
  unfold maxLen at hm
  obtain ⟨i, rfl⟩ := Int.eq_ofNat_of_zero_le h0
  by_cases hn1 : n ≤ 1
  · clear h
    obtain ⟨l, hl⟩ : ∃ l, l = xs.length := ⟨_, rfl⟩
    rw [← hl] at hm ⊢
    clear hl
    go_enter Try.func16, Try.ntmps16
    go_wp2
    go_ret
    exact ⟨0, rfl, by omega, rfl⟩
  · by_cases hi : i < xs.length
    · obtain ⟨b, off, rfl, _, hc⟩ := h.spot (i := i) hi
      have hcell := hc i hi
      have hw := h.wf (xs.getD i 0) (by rw [List.getD_eq_getElem?_getD, List.getElem?_eq_getElem hi]; exact List.getElem_mem hi)
      obtain ⟨x, hx⟩ : ∃ x, x = xs.getD i 0 := ⟨_, rfl⟩
      rw [← hx] at hcell hw
      have hb := bounds_u8 hw
      obtain ⟨hb0, hb1⟩ := hb
      obtain ⟨l, hl⟩ : ∃ l, l = xs.length := ⟨_, rfl⟩
      rw [← hl] at hi hm ⊢
      clear hx hw hc h hl
      go_enter Try.func16, Try.ntmps16
      go_wp2
      go_ret
      have g0 := Int.emod_nonneg x (show n ≠ 0 by omega)
      have g1 := Int.emod_lt_of_pos x (show 0 < n by omega)
      exact ⟨(x % n).toNat, by rw [Int.toNat_of_nonneg g0]; rfl, by omega, rfl⟩
    · clear h
      obtain ⟨l, hl⟩ : ∃ l, l = xs.length := ⟨_, rfl⟩
      rw [← hl] at hi hm ⊢
      clear hl
      go_enter Try.func16, Try.ntmps16
      go_wp2
      go_ret
      exact ⟨0, rfl, by omega, rfl⟩
end Go.Proofs.Ytnkikigfpdngdaa
