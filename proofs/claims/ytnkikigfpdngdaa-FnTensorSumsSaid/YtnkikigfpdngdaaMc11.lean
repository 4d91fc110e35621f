/- Joined texts 11: Tx5 Tx6 WSum. Each is told at its own head. No condition. -/
import Derived.Test.YtnkikigfpdngdaaMc5
import Derived.Test.YtnkikigfpdngdaaMc10
/- Tensors that are read. No condition. -/
namespace Go.Proofs.Ytnkikigfpdngdaa
open Go Go.RowKit
set_option linter.unusedVariables false
set_option linter.unusedSimpArgs false
theorem R8R (w : World) (a0 : Option Addr) (c0 : Nat) (l0 : List Int) (h : Ints .u8 w a0 c0 l0) (r c : Nat) (hr : r ≤ 16) (hc : c ≤ 16) (n : Nat) (hn : n = r * c) :
    Calls Try.prog 24 #[.slice a0 l0.length c0, .int .i64 r, .int .i64 c] w fun e w' => ∃ ad cap ys, e = .returned (.agg #[.int .i64 r, .int .i64 c, .slice ad n cap]) ∧ Hid (RepF w' w.heap.size w'.heap.size ad n cap ys) ∧ Below w.heap.size w w' := by
  subst hn
  exact r8_tensor w a0 c0 l0 h r c hr hc
theorem impl_StackSame (w : World) (q c lb lo lcap : Nat) (a : Option Addr) (k : Nat) (z : List Nat) (n : Nat) (hl : Rd w (some ⟨lb, lo, none⟩) (List.replicate q [Value.int .i64 (1 : Nat), .int .i64 c, .slice a c k]).flatten)
    (hf : F32s w a k z) (hz : z.length = c) (hq1 : 1 ≤ q) (hq : q ≤ 16) (hc1 : 1 ≤ c) (hc : c ≤ 16) (hn : n = q * c) :
    Calls Try.prog 26 #[.slice (some ⟨lb, lo, none⟩) q lcap] w (TenOk q c n ((catZ (fun _ => z) q).map (cn .f32)) w) := by
  have hcell : ∀ i j, i < q → j < 3 → w.cell? ⟨lb, lo + i * 3 + j, none⟩ = [Value.int .i64 (1 : Nat), .int .i64 c, .slice a c k][j]? := by
    intro i j hi hj
    rcases hl with h | ⟨b, off, hb, _, h⟩
    · have := congrArg List.length h
      rw [repl3_len _ rfl] at this
      simp at this; omega
    · cases hb
      have h2 := h (i * 3 + j) (by rw [repl3_len _ rfl]; omega)
      rw [repl3 _ rfl j hj q i hi, ← Nat.add_assoc] at h2
      exact h2
  have h := impl_StackRows w q c lb lo lcap (fun _ => 1) (fun _ => a) (fun _ => k) (fun _ => z)
    (fun i hi => ⟨hcell i 0 hi (by omega), hcell i 1 hi (by omega), by rw [Nat.one_mul]; exact hcell i 2 hi (by omega)⟩)
    (fun i hi => ⟨hf, by rw [Nat.one_mul]; exact hz⟩) (fun _ => Nat.le_refl _) hq1 hq hc1 hc (by rw [sumN_one]; exact hq)
  rw [sumN_one, ← hn] at h
  exact h
theorem catZ_len (z : List Nat) (c : Nat) (hz : z.length = c) : ∀ q, (catZ (fun _ => z) q).length = q * c
  | 0 => by simp [catZ]
  | q + 1 => by rw [catZ, List.length_append, catZ_len z c hz q, hz, Nat.succ_mul]
theorem catZ_at (z : List Nat) (c : Nat) (hz : z.length = c) (hc : 1 ≤ c) : ∀ q i, i < q * c → (catZ (fun _ => z) q).getD i 0 = z.getD (i % c) 0
  | 0, i, h => by omega
  | q + 1, i, h => by
    rw [catZ]
    have hl := catZ_len z c hz q
    by_cases h1 : i < q * c
    · rw [List.getD_eq_getElem?_getD, List.getElem?_append_left (by omega), ← List.getD_eq_getElem?_getD]
      exact catZ_at z c hz hc q i h1
    · rw [List.getD_eq_getElem?_getD, List.getElem?_append_right (by omega), ← List.getD_eq_getElem?_getD, hl]
      rw [Nat.succ_mul] at h
      have e : i = c * q + (i - q * c) := by rw [Nat.mul_comm c q]; omega
      have e2 : i % c = i - q * c := by
        rw [e, Nat.mul_add_mod, Nat.mod_eq_of_lt (by omega)]; omega
      rw [e2]
theorem ten_stack (op : BinOp) (X z : List Nat) (c q n : Nat) (hz : z.length = c) (hc : 1 ≤ c) (hn : n = q * c) : tenE op X ((catZ (fun _ => z) q).map (cn .f32)) n = rowE op X (z.map (cn .f32)) c n :=
  listOf_congr fun i hi => by rw [cn_getD, cn_getD, catZ_at z c hz hc q i (by omega)]
theorem colS_sum (X : List Nat) (c : Nat) (Y : List Nat) (j : Nat) (hj : j < c) (hY : ∀ i, Y.getD i 0 = X.getD (i * c + j) 0) : ∀ m t, t ≤ c → colS X c (m * c + t) j = sumS Y (if j < t then m + 1 else m)
  | 0, 0, _ => by rw [Nat.zero_mul, if_neg (by omega)]; rfl
  | m + 1, 0, _ => by
    have h := colS_sum X c Y j hj hY m c (Nat.le_refl _)
    rw [if_pos hj] at h
    rw [if_neg (by omega), Nat.add_zero, Nat.succ_mul]; exact h
  | m, t + 1, ht => by
    have h := colS_sum X c Y j hj hY m t (by omega)
    have e : (m * c + t) % c = t := by rw [Nat.mul_comm, Nat.mul_add_mod, Nat.mod_eq_of_lt (by omega)]
    show (if j = (m * c + t) % c then fop .add .f32 (colS X c (m * c + t) j) (X.getD (m * c + t) 0) else colS X c (m * c + t) j) = _
    rw [e]
    by_cases h1 : j = t
    · subst h1
      rw [if_pos rfl, h, if_neg (by omega), if_pos (by omega)]
      show _ = fop .add .f32 (sumS Y m) (Y.getD m 0)
      rw [hY m]
    · rw [if_neg h1, h]
      by_cases h2 : j < t
      · rw [if_pos h2, if_pos (by omega)]
      · rw [if_neg h2, if_neg (by omega)]
end Go.Proofs.Ytnkikigfpdngdaa
/- Sums and products of floats do not mind the order. No condition. -/
namespace Go.Proofs.Ytnkikigfpdngdaa
open Go Go.RowKit Ieee
set_option linter.unusedVariables false
set_option linter.unusedSimpArgs false
theorem sum_comm (d e : Datum) : d.sum e = e.sum d := by
  cases d <;> cases e <;> simp only [Datum.sum]
  case infinity.infinity s t =>
    by_cases h : s = t
    · subst h; rfl
    · rw [if_neg h, if_neg (Ne.symm h)]
  case number.number s m i t n j =>
    rw [Int.min_comm j i, Int.add_comm (signed t n _) (signed s m _), Bool.and_comm t s]
theorem product_comm (d e : Datum) : d.product e = e.product d := by
  cases d <;> cases e <;> simp only [Datum.product]
  case infinity.infinity s t => rw [Bool.xor_comm]
  case number.number s m i t n j => rw [Bool.xor_comm, Nat.mul_comm, Int.add_comm]
  all_goals (try (split <;> first | rfl | rw [Bool.xor_comm]))
  all_goals (try rw [Bool.xor_comm])
theorem add_comm' (x y : Nat) : fop .add .f32 x y = fop .add .f32 y x := by
  unfold fop floatBits Format.add
  simp only
  rw [sum_comm]
theorem mul_comm' (x y : Nat) : fop .mul .f32 x y = fop .mul .f32 y x := by
  unfold fop floatBits Format.mul
  simp only
  rw [product_comm]
theorem ten_add_comm (X Y : List Nat) (n : Nat) : tenE .add X Y n = tenE .add Y X n := listOf_congr fun i hi => add_comm' _ _
theorem ten_mul_comm (X Y : List Nat) (n : Nat) : tenE .mul X Y n = tenE .mul Y X n := listOf_congr fun i hi => mul_comm' _ _
theorem col_law {X : List Nat} {k c n j : Nat} (hX : X.length = n) (hn : n = k * c) (hj : j < c) {ys z : List Nat} (hz : z.map (cn .f32) = turnE X k c n) (hys : ys = (z.drop (j * k)).take k) : sumS (ys.map (cn .f32)) k = colS X c n j := by
  have e : ys.map (cn .f32) = ((turnE X k c n).drop (j * k)).take k := by rw [hys, List.map_take, List.map_drop, hz]
  rw [e]
  have hY : ∀ i, (((turnE X k c n).drop (j * k)).take k).getD i 0 = X.getD (i * c + j) 0 := by
    intro i
    by_cases hi : i < k
    · have h1 : j * k + i < n := by
        rw [hn, Nat.mul_comm k c]
        have := Nat.mul_le_mul_right k (show j + 1 ≤ c by omega)
        rw [Nat.succ_mul] at this; omega
      rw [List.getD_eq_getElem?_getD, List.getElem?_take, if_pos hi, List.getElem?_drop, ← List.getD_eq_getElem?_getD]
      unfold turnE
      rw [listOf_getD _ h1]
      exact turn_at X hi
    · have h1 : n ≤ i * c + j := by
        rw [hn]
        have := Nat.mul_le_mul_right c (show k ≤ i by omega)
        omega
      rw [List.getD_eq_getElem?_getD, List.getElem?_take, if_neg hi, List.getD_eq_getElem?_getD, List.getElem?_eq_none (by omega)]
  have h := colS_sum X c _ j hj hY k 0 (Nat.zero_le _)
  rw [if_neg (by omega), Nat.add_zero, ← hn] at h
  exact h.symm
end Go.Proofs.Ytnkikigfpdngdaa
/- The law of sums of tensors, walked. No condition. -/
namespace Go.Proofs.Ytnkikigfpdngdaa
open Go Go.RowKit
set_option linter.unusedVariables false
set_option linter.unusedSimpArgs false
set_option maxHeartbeats 40000000 in
set_option maxRecDepth 100000 in
theorem fnTensorSums_walk (w : World) (a0 : Option Addr) (c0 : Nat) (l0 : List Int) (A0 : Ints .u8 w a0 c0 l0) (a1 : Option Addr) (c1 : Nat) (l1 : List Int) (A1 : Ints .u8 w a1 c1 l1) :
    Calls Try.prog 5 #[.slice a0 l0.length c0, .slice a1 l1.length c1] w fun e w' => e = .returned (.bool true) ∧ Below w.heap.size w w' := by
  by_cases hlong : l0.length ≤ 48 ∧ l1.length ≤ 48
  rotate_left
  · go_enter Try.func5, Try.ntmps5
    go_wp2_with fail
    refine (r8Long_yes _ _ _ _ _ _ _ hlong).mono ?_
    rintro e w1 ⟨rfl, rfl⟩
    go_wp2
    go_ret
    exact ⟨rfl, Below.refl _ _⟩
  obtain ⟨hl0, hl1⟩ := hlong
  obtain ⟨i0, hi0, hz0, hzs, hz2⟩ := info_parts info_ten
  have AA0 := Lib.hid A0; have AA1 := Lib.hid A1
  clear A0 A1
  go_enter Try.func5, Try.ntmps5
  go_wp2_with fail
  refine (r8Long_no _ _ _ _ _ _ _ hl0 hl1).mono ?_
  rintro e w1 ⟨rfl, rfl⟩
  clear hl0 hl1
  go_wp2_with fail
  refine (r8At_any _ _ _ _ AA0.out 40 4 (by decide) (by decide) (by decide) (by decide)).mono ?_
  rintro e w1 ⟨r0, rfl, hr0, rfl⟩
  have e1 : IntKind.i64.wrap (1 + (r0 : Int)) = ((1 + r0 : Nat) : Int) := wrap_ok (by omega) (by omega)
  obtain ⟨r, hr⟩ : ∃ r, r = 1 + r0 := ⟨_, rfl⟩
  have hr1 : 1 ≤ r := by omega
  have hr4 : r ≤ 4 := by omega
  rw [← hr] at e1
  go_wp2_with fail
  refine (r8At_any _ _ _ _ AA0.out 41 4 (by decide) (by decide) (by decide) (by decide)).mono ?_
  rintro e w1 ⟨q0, rfl, hq0, rfl⟩
  have e2 : IntKind.i64.wrap (1 + (q0 : Int)) = ((1 + q0 : Nat) : Int) := wrap_ok (by omega) (by omega)
  obtain ⟨c, hc⟩ : ∃ c, c = 1 + q0 := ⟨_, rfl⟩
  have hc1 : 1 ≤ c := by omega
  have hc4 : c ≤ 4 := by omega
  rw [← hc] at e2
  obtain ⟨n, hn⟩ : ∃ n, n = r * c := ⟨_, rfl⟩
  have hn6 : n ≤ 16 := by rw [hn]; exact Nat.mul_le_mul hr4 hc4
  have HN := Lib.hid hn
  have hr6 : r ≤ 16 := by omega
  have hc6 : c ≤ 16 := by omega
  have B := Lib.hid (Below.refl w.heap.size w)
  have H := Lib.hid (Held.nil w)
  have HRC := Lib.hid (And.intro hr hc)
  clear hr hc hn
  go_upto_region 5 with fail
  have e3 : (1 : Int) + (r0 : Int) = ((r : Nat) : Int) := by have := HRC.out.1; omega
  have e4 : (1 : Int) + (q0 : Int) = ((c : Nat) : Int) := by have := HRC.out.2; omega
  try rw [e3]
  try rw [e4]
  clear hr0 hq0 e1 e2 e3 e4 HRC
  go_wp2_with fail
  refine (R8R _ _ _ _ (AA0.out.below B.out) r c hr6 hc6 n HN.out).mono ?_
  rintro e w1 ⟨d7, k7, z7, rfl, RO, hb⟩
  have N7 := ten_len RO
  go_upto_region 6 with fail
  replace H := Lib.hid (H.out.add hb #[.int .i64 r, .int .i64 c, .slice d7 n k7] 27 RO.out.arg)
  replace B := Lib.hid (bthen (bthen B.out hb) (below1 w1 (.cells #[.int .i64 r, .int .i64 c, .slice d7 n k7] 27)))
  clear RO hb
  generalize w1.alloc (.cells #[.int .i64 r, .int .i64 c, .slice d7 n k7] 27) = W7 at H B ⊢
  generalize w1.heap.size = b7 at H ⊢
  clear w1
  go_wp2_with fail
  refine (R8R _ _ _ _ (AA1.out.below B.out) r c hr6 hc6 n HN.out).mono ?_
  rintro e w1 ⟨d8, k8, z8, rfl, RO, hb⟩
  have N8 := ten_len RO
  go_upto_region 7 with fail
  replace H := Lib.hid (H.out.add hb #[.int .i64 r, .int .i64 c, .slice d8 n k8] 27 RO.out.arg)
  replace B := Lib.hid (bthen (bthen B.out hb) (below1 w1 (.cells #[.int .i64 r, .int .i64 c, .slice d8 n k8] 27)))
  clear RO hb
  generalize w1.alloc (.cells #[.int .i64 r, .int .i64 c, .slice d8 n k8] 27) = W8 at H B ⊢
  generalize w1.heap.size = b8 at H ⊢
  clear w1
  go_wp2_with fail
  refine (R8R _ _ _ _ (AA1.out.below B.out) 1 c (by decide) hc6 c (Nat.one_mul c).symm).mono ?_
  rintro e w1 ⟨d9, k9, z9, rfl, RO, hb⟩
  have N9 := ten_len RO
  go_upto_region 8 with fail
  replace H := Lib.hid (H.out.add hb #[.int .i64 (1 : Nat), .int .i64 c, .slice d9 c k9] 27 RO.out.arg)
  replace B := Lib.hid (bthen (bthen B.out hb) (below1 w1 (.cells #[.int .i64 (1 : Nat), .int .i64 c, .slice d9 c k9] 27)))
  clear RO hb
  generalize w1.alloc (.cells #[.int .i64 (1 : Nat), .int .i64 c, .slice d9 c k9] 27) = W9 at H B ⊢
  generalize w1.heap.size = b9 at H ⊢
  clear w1
  obtain ⟨-, x70, x71, x72, x7f⟩ := (H.out.b 2 (b := b7) (vs := [.int .i64 r, .int .i64 c, .slice d7 n k7]) rfl).three
  obtain ⟨-, x80, x81, x82, x8f⟩ := (H.out.b 1 (b := b8) (vs := [.int .i64 r, .int .i64 c, .slice d8 n k8]) rfl).three
  go_wp2_with fail
  refine (impl_AddTensors _ r c d7 k7 n z7 (H.out.n 2 (a := d7) (k := k7) (xs := z7) rfl) N7 hr1 hr6 hc1 hc6 HN.out d8 k8 z8 (H.out.n 1 (a := d8) (k := k8) (xs := z8) rfl) N8).mono ?_
  rintro e w1 ⟨d10, k10, z10, rfl, RO, M10, hb⟩
  clear x70 x71 x72 x7f
  clear x80 x81 x82 x8f
  have N10 := ten_len RO
  go_upto_region 9 with fail
  replace H := Lib.hid (H.out.add hb #[.int .i64 r, .int .i64 c, .slice d10 n k10] 27 RO.out.arg)
  replace B := Lib.hid (bthen (bthen B.out hb) (below1 w1 (.cells #[.int .i64 r, .int .i64 c, .slice d10 n k10] 27)))
  clear RO hb
  generalize w1.alloc (.cells #[.int .i64 r, .int .i64 c, .slice d10 n k10] 27) = W10 at H B ⊢
  generalize w1.heap.size = b10 at H ⊢
  clear w1
  obtain ⟨-, x80, x81, x82, x8f⟩ := (H.out.b 2 (b := b8) (vs := [.int .i64 r, .int .i64 c, .slice d8 n k8]) rfl).three
  obtain ⟨-, x70, x71, x72, x7f⟩ := (H.out.b 3 (b := b7) (vs := [.int .i64 r, .int .i64 c, .slice d7 n k7]) rfl).three
  go_wp2_with fail
  refine (impl_AddTensors _ r c d8 k8 n z8 (H.out.n 2 (a := d8) (k := k8) (xs := z8) rfl) N8 hr1 hr6 hc1 hc6 HN.out d7 k7 z7 (H.out.n 3 (a := d7) (k := k7) (xs := z7) rfl) N7).mono ?_
  rintro e w1 ⟨d12, k12, z12, rfl, RO, M12, hb⟩
  clear x80 x81 x82 x8f
  clear x70 x71 x72 x7f
  have N12 := ten_len RO
  go_upto_region 10 with fail
  replace H := Lib.hid (H.out.add hb #[.int .i64 r, .int .i64 c, .slice d12 n k12] 27 RO.out.arg)
  replace B := Lib.hid (bthen (bthen B.out hb) (below1 w1 (.cells #[.int .i64 r, .int .i64 c, .slice d12 n k12] 27)))
  clear RO hb
  generalize w1.alloc (.cells #[.int .i64 r, .int .i64 c, .slice d12 n k12] 27) = W12 at H B ⊢
  generalize w1.heap.size = b12 at H ⊢
  clear w1
  obtain ⟨-, x70, x71, x72, x7f⟩ := (H.out.b 4 (b := b7) (vs := [.int .i64 r, .int .i64 c, .slice d7 n k7]) rfl).three
  obtain ⟨-, x80, x81, x82, x8f⟩ := (H.out.b 3 (b := b8) (vs := [.int .i64 r, .int .i64 c, .slice d8 n k8]) rfl).three
  go_wp2_with fail
  refine (impl_MulTensors _ r c d7 k7 n z7 (H.out.n 4 (a := d7) (k := k7) (xs := z7) rfl) N7 hr1 hr6 hc1 hc6 HN.out d8 k8 z8 (H.out.n 3 (a := d8) (k := k8) (xs := z8) rfl) N8).mono ?_
  rintro e w1 ⟨d14, k14, z14, rfl, RO, M14, hb⟩
  clear x70 x71 x72 x7f
  clear x80 x81 x82 x8f
  have N14 := ten_len RO
  go_upto_region 11 with fail
  replace H := Lib.hid (H.out.add hb #[.int .i64 r, .int .i64 c, .slice d14 n k14] 27 RO.out.arg)
  replace B := Lib.hid (bthen (bthen B.out hb) (below1 w1 (.cells #[.int .i64 r, .int .i64 c, .slice d14 n k14] 27)))
  clear RO hb
  generalize w1.alloc (.cells #[.int .i64 r, .int .i64 c, .slice d14 n k14] 27) = W14 at H B ⊢
  generalize w1.heap.size = b14 at H ⊢
  clear w1
  obtain ⟨-, x80, x81, x82, x8f⟩ := (H.out.b 4 (b := b8) (vs := [.int .i64 r, .int .i64 c, .slice d8 n k8]) rfl).three
  obtain ⟨-, x70, x71, x72, x7f⟩ := (H.out.b 5 (b := b7) (vs := [.int .i64 r, .int .i64 c, .slice d7 n k7]) rfl).three
  go_wp2_with fail
  refine (impl_MulTensors _ r c d8 k8 n z8 (H.out.n 4 (a := d8) (k := k8) (xs := z8) rfl) N8 hr1 hr6 hc1 hc6 HN.out d7 k7 z7 (H.out.n 5 (a := d7) (k := k7) (xs := z7) rfl) N7).mono ?_
  rintro e w1 ⟨d16, k16, z16, rfl, RO, M16, hb⟩
  clear x80 x81 x82 x8f
  clear x70 x71 x72 x7f
  have N16 := ten_len RO
  go_upto_region 12 with fail
  replace H := Lib.hid (H.out.add hb #[.int .i64 r, .int .i64 c, .slice d16 n k16] 27 RO.out.arg)
  replace B := Lib.hid (bthen (bthen B.out hb) (below1 w1 (.cells #[.int .i64 r, .int .i64 c, .slice d16 n k16] 27)))
  clear RO hb
  generalize w1.alloc (.cells #[.int .i64 r, .int .i64 c, .slice d16 n k16] 27) = W16 at H B ⊢
  generalize w1.heap.size = b16 at H ⊢
  clear w1
  go_upto_region 13 with fail
  have O9 := Lib.hid (World.ownsRow_made (base := W16.heap.size) (e := 27) (size := 3) W16 #[] 0 (Nat.le_refl _) (Nat.zero_le _) rfl)
  have B9 := Lib.hid (below1 W16 (.cells #[] 27))
  generalize W16.alloc (.cells #[] 27) = V0 at B9 O9 ⊢
  go_wp2
  go_loopw [18, 19] (fun v i wr => ∃ k : Nat, i = .int .i64 k ∧ k ≤ r ∧ Hid (wr.ownsRow W16.heap.size 27 3 v k (List.replicate k [Value.int .i64 (1 : Nat), .int .i64 c, .slice d9 c k9]).flatten) ∧ Hid (Below W16.heap.size W16 wr)) (fun _ i _ => r - (intOf i).toNat)
  case atStart => exact ⟨0, rfl, Nat.zero_le _, O9, B9⟩
  case round =>
    clear O9 B9
    obtain ⟨k, rfl, hk, HO, HB⟩ := hrel
    replace H := Lib.hid (H.out.below HB.out)
    replace B := Lib.hid (bthen B.out HB.out)
    by_cases hlt : k < r
    · obtain ⟨-, x90, x91, x92, x9f⟩ := (H.out.b 4 (b := b9) (vs := [.int .i64 (1 : Nat), .int .i64 c, .slice d9 c k9]) rfl).three
      go_wp2_with (at_builtin; refine wp_appA rfl _ _ 41 rfl W16.heap.size i0 (.agg #[.int .i64 0, .int .i64 0, .slice none 0 0]) 3 40 Try.underlying41 hi0 hz0 hzs hz2 rfl (by decide) rfl (by intro u hu; simp at hu; rcases hu with rfl | rfl | rfl <;> rfl) _ k _ rfl HO.out (by go_simp) ?c3 ?c4 ?c5 ?_)
      case c3 => unfold maxLen; omega
      case c4 => omega
      case c5 => exact HB.out.size
      intro v' w9 ho9 hg9 hat9 hb9 hs9
      have HO9 := Lib.hid ho9
      have HB9 := Lib.hid (HB.out.trans hb9)
      clear ho9 hg9 hat9 hb9 hs9 x90 x91 x92 x9f
      go_wp2
      go_roundw
      case rel => exact ⟨k + 1, by go_num, hlt, Lib.hid (by rw [← repl3_snoc]; exact HO9.out), HB9⟩
      case measure => simp [intOf]; omega
    · have hkr : k = r := by omega
      subst hkr
      obtain ⟨al, kl, rfl, _, _, hrd, _⟩ := Rd.of_owns HO.out
      obtain ⟨lb, lo, rfl⟩ : ∃ lb lo, al = some ⟨lb, lo, none⟩ := by
        rcases hrd with h | ⟨b, o, e, _⟩
        · have := congrArg List.length h
          rw [repl3_len _ rfl] at this; simp at this; omega
        · exact ⟨b, o, e⟩
      have RD := Lib.hid hrd
      clear hrd HO HB
      go_wp2_with fail
      refine (impl_StackSame _ k c lb lo kl d9 k9 z9 n RD.out (H.out.n 4 (a := d9) (k := k9) (xs := z9) rfl) N9 hr1 hr6 hc1 hc6 HN.out).mono ?_
      rintro e w1 ⟨d20, k20, z20, rfl, RO, M20, hb⟩
      have N20 := ten_len RO
      go_upto_region 18 with fail
      replace H := Lib.hid (H.out.add hb #[.int .i64 k, .int .i64 c, .slice d20 n k20] 27 RO.out.arg)
      replace B := Lib.hid (bthen (bthen B.out hb) (below1 w1 (.cells #[.int .i64 k, .int .i64 c, .slice d20 n k20] 27)))
      clear RO hb
      generalize w1.alloc (.cells #[.int .i64 k, .int .i64 c, .slice d20 n k20] 27) = W20 at H B ⊢
      generalize w1.heap.size = b20 at H ⊢
      clear w1
      clear RD
      obtain ⟨-, x70, x71, x72, x7f⟩ := (H.out.b 7 (b := b7) (vs := [.int .i64 k, .int .i64 c, .slice d7 n k7]) rfl).three
      obtain ⟨-, x90, x91, x92, x9f⟩ := (H.out.b 5 (b := b9) (vs := [.int .i64 (1 : Nat), .int .i64 c, .slice d9 c k9]) rfl).three
      go_wp2_with fail
      refine (impl_AddRow _ k c d7 k7 n z7 (H.out.n 7 (a := d7) (k := k7) (xs := z7) rfl) N7 hr1 hr6 hc1 hc6 HN.out d9 k9 z9 (H.out.n 5 (a := d9) (k := k9) (xs := z9) rfl) N9).mono ?_
      rintro e w1 ⟨d22, k22, z22, rfl, RO, M22, hb⟩
      clear x70 x71 x72 x7f
      clear x90 x91 x92 x9f
      have N22 := ten_len RO
      go_upto_region 19 with fail
      replace H := Lib.hid (H.out.add hb #[.int .i64 k, .int .i64 c, .slice d22 n k22] 27 RO.out.arg)
      replace B := Lib.hid (bthen (bthen B.out hb) (below1 w1 (.cells #[.int .i64 k, .int .i64 c, .slice d22 n k22] 27)))
      clear RO hb
      generalize w1.alloc (.cells #[.int .i64 k, .int .i64 c, .slice d22 n k22] 27) = W22 at H B ⊢
      generalize w1.heap.size = b22 at H ⊢
      clear w1
      obtain ⟨-, x70, x71, x72, x7f⟩ := (H.out.b 8 (b := b7) (vs := [.int .i64 k, .int .i64 c, .slice d7 n k7]) rfl).three
      obtain ⟨-, x200, x201, x202, x20f⟩ := (H.out.b 1 (b := b20) (vs := [.int .i64 k, .int .i64 c, .slice d20 n k20]) rfl).three
      go_wp2_with fail
      refine (impl_AddTensors _ k c d7 k7 n z7 (H.out.n 8 (a := d7) (k := k7) (xs := z7) rfl) N7 hr1 hr6 hc1 hc6 HN.out d20 k20 z20 (H.out.n 1 (a := d20) (k := k20) (xs := z20) rfl) N20).mono ?_
      rintro e w1 ⟨d24, k24, z24, rfl, RO, M24, hb⟩
      clear x70 x71 x72 x7f
      clear x200 x201 x202 x20f
      have N24 := ten_len RO
      go_upto_region 20 with fail
      replace H := Lib.hid (H.out.add hb #[.int .i64 k, .int .i64 c, .slice d24 n k24] 27 RO.out.arg)
      replace B := Lib.hid (bthen (bthen B.out hb) (below1 w1 (.cells #[.int .i64 k, .int .i64 c, .slice d24 n k24] 27)))
      clear RO hb
      generalize w1.alloc (.cells #[.int .i64 k, .int .i64 c, .slice d24 n k24] 27) = W24 at H B ⊢
      generalize w1.heap.size = b24 at H ⊢
      clear w1
      obtain ⟨-, x70, x71, x72, x7f⟩ := (H.out.b 9 (b := b7) (vs := [.int .i64 k, .int .i64 c, .slice d7 n k7]) rfl).three
      obtain ⟨-, x90, x91, x92, x9f⟩ := (H.out.b 7 (b := b9) (vs := [.int .i64 (1 : Nat), .int .i64 c, .slice d9 c k9]) rfl).three
      go_wp2_with fail
      refine (impl_MulRow _ k c d7 k7 n z7 (H.out.n 9 (a := d7) (k := k7) (xs := z7) rfl) N7 hr1 hr6 hc1 hc6 HN.out d9 k9 z9 (H.out.n 7 (a := d9) (k := k9) (xs := z9) rfl) N9).mono ?_
      rintro e w1 ⟨d26, k26, z26, rfl, RO, M26, hb⟩
      clear x70 x71 x72 x7f
      clear x90 x91 x92 x9f
      have N26 := ten_len RO
      go_upto_region 21 with fail
      replace H := Lib.hid (H.out.add hb #[.int .i64 k, .int .i64 c, .slice d26 n k26] 27 RO.out.arg)
      replace B := Lib.hid (bthen (bthen B.out hb) (below1 w1 (.cells #[.int .i64 k, .int .i64 c, .slice d26 n k26] 27)))
      clear RO hb
      generalize w1.alloc (.cells #[.int .i64 k, .int .i64 c, .slice d26 n k26] 27) = W26 at H B ⊢
      generalize w1.heap.size = b26 at H ⊢
      clear w1
      obtain ⟨-, x70, x71, x72, x7f⟩ := (H.out.b 10 (b := b7) (vs := [.int .i64 k, .int .i64 c, .slice d7 n k7]) rfl).three
      obtain ⟨-, x200, x201, x202, x20f⟩ := (H.out.b 3 (b := b20) (vs := [.int .i64 k, .int .i64 c, .slice d20 n k20]) rfl).three
      go_wp2_with fail
      refine (impl_MulTensors _ k c d7 k7 n z7 (H.out.n 10 (a := d7) (k := k7) (xs := z7) rfl) N7 hr1 hr6 hc1 hc6 HN.out d20 k20 z20 (H.out.n 3 (a := d20) (k := k20) (xs := z20) rfl) N20).mono ?_
      rintro e w1 ⟨d28, k28, z28, rfl, RO, M28, hb⟩
      clear x70 x71 x72 x7f
      clear x200 x201 x202 x20f
      have N28 := ten_len RO
      go_upto_region 22 with fail
      replace H := Lib.hid (H.out.add hb #[.int .i64 k, .int .i64 c, .slice d28 n k28] 27 RO.out.arg)
      replace B := Lib.hid (bthen (bthen B.out hb) (below1 w1 (.cells #[.int .i64 k, .int .i64 c, .slice d28 n k28] 27)))
      clear RO hb
      generalize w1.alloc (.cells #[.int .i64 k, .int .i64 c, .slice d28 n k28] 27) = W28 at H B ⊢
      generalize w1.heap.size = b28 at H ⊢
      clear w1
      have E1 := Lib.hid (M10.out.trans ((ten_add_comm _ _ _).trans M12.out.symm))
      have E2 := Lib.hid (M14.out.trans ((ten_mul_comm _ _ _).trans M16.out.symm))
      have E3 : Hid (z22.map (cn .f32) = z24.map (cn .f32)) := Lib.hid (by rw [M22.out, M24.out, M20.out, ten_stack .add _ _ c k n N9 hc1 HN.out])
      have E4 : Hid (z26.map (cn .f32) = z28.map (cn .f32)) := Lib.hid (by rw [M26.out, M28.out, M20.out, ten_stack .mul _ _ c k n N9 hc1 HN.out])
      obtain ⟨-, x100, x101, x102, x10f⟩ := (H.out.b 8 (b := b10) (vs := [.int .i64 k, .int .i64 c, .slice d10 n k10]) rfl).three
      obtain ⟨-, x120, x121, x122, x12f⟩ := (H.out.b 7 (b := b12) (vs := [.int .i64 k, .int .i64 c, .slice d12 n k12]) rfl).three
      go_wp2_with fail
      refine (impl_SameTensors_yes _ k c n d10 d12 k10 k12 z10 z12 (H.out.n 8 (a := d10) (k := k10) (xs := z10) rfl) (H.out.n 7 (a := d12) (k := k12) (xs := z12) rfl) N10 N12 hr1 hr6 hc1 hc6 HN.out E1.out).mono ?_
      rintro e w1 ⟨rfl, hb⟩
      clear x100 x101 x102 x10f
      clear x120 x121 x122 x12f
      replace H := Lib.hid (H.out.below hb)
      replace B := Lib.hid (bthen B.out hb)
      clear hb
      obtain ⟨-, x140, x141, x142, x14f⟩ := (H.out.b 6 (b := b14) (vs := [.int .i64 k, .int .i64 c, .slice d14 n k14]) rfl).three
      obtain ⟨-, x160, x161, x162, x16f⟩ := (H.out.b 5 (b := b16) (vs := [.int .i64 k, .int .i64 c, .slice d16 n k16]) rfl).three
      go_wp2_with fail
      refine (impl_SameTensors_yes _ k c n d14 d16 k14 k16 z14 z16 (H.out.n 6 (a := d14) (k := k14) (xs := z14) rfl) (H.out.n 5 (a := d16) (k := k16) (xs := z16) rfl) N14 N16 hr1 hr6 hc1 hc6 HN.out E2.out).mono ?_
      rintro e w1 ⟨rfl, hb⟩
      clear x140 x141 x142 x14f
      clear x160 x161 x162 x16f
      replace H := Lib.hid (H.out.below hb)
      replace B := Lib.hid (bthen B.out hb)
      clear hb
      obtain ⟨-, x220, x221, x222, x22f⟩ := (H.out.b 3 (b := b22) (vs := [.int .i64 k, .int .i64 c, .slice d22 n k22]) rfl).three
      obtain ⟨-, x240, x241, x242, x24f⟩ := (H.out.b 2 (b := b24) (vs := [.int .i64 k, .int .i64 c, .slice d24 n k24]) rfl).three
      go_wp2_with fail
      refine (impl_SameTensors_yes _ k c n d22 d24 k22 k24 z22 z24 (H.out.n 3 (a := d22) (k := k22) (xs := z22) rfl) (H.out.n 2 (a := d24) (k := k24) (xs := z24) rfl) N22 N24 hr1 hr6 hc1 hc6 HN.out E3.out).mono ?_
      rintro e w1 ⟨rfl, hb⟩
      clear x220 x221 x222 x22f
      clear x240 x241 x242 x24f
      replace H := Lib.hid (H.out.below hb)
      replace B := Lib.hid (bthen B.out hb)
      clear hb
      obtain ⟨-, x260, x261, x262, x26f⟩ := (H.out.b 1 (b := b26) (vs := [.int .i64 k, .int .i64 c, .slice d26 n k26]) rfl).three
      obtain ⟨-, x280, x281, x282, x28f⟩ := (H.out.b 0 (b := b28) (vs := [.int .i64 k, .int .i64 c, .slice d28 n k28]) rfl).three
      go_wp2_with fail
      refine (impl_SameTensors_yes _ k c n d26 d28 k26 k28 z26 z28 (H.out.n 1 (a := d26) (k := k26) (xs := z26) rfl) (H.out.n 0 (a := d28) (k := k28) (xs := z28) rfl) N26 N28 hr1 hr6 hc1 hc6 HN.out E4.out).mono ?_
      rintro e w1 ⟨rfl, hb⟩
      clear x260 x261 x262 x26f
      clear x280 x281 x282 x28f
      replace H := Lib.hid (H.out.below hb)
      replace B := Lib.hid (bthen B.out hb)
      clear hb
      obtain ⟨-, x70, x71, x72, x7f⟩ := (H.out.b 11 (b := b7) (vs := [.int .i64 k, .int .i64 c, .slice d7 n k7]) rfl).three
      go_wp2_with fail
      refine (impl_SumRows _ k c d7 k7 n z7 (H.out.n 11 (a := d7) (k := k7) (xs := z7) rfl) N7 hr1 hr6 hc1 hc6 HN.out).mono ?_
      rintro e w2 ⟨d30, k30, z30, rfl, RO, M30, hb⟩
      clear x70 x71 x72 x7f
      replace H := Lib.hid (H.out.below hb)
      replace B := Lib.hid (bthen B.out hb)
      have F30 := Lib.hid RO.out.arg
      have N30 := ten_len RO
      clear hb RO
      obtain ⟨-, x70, x71, x72, x7f⟩ := (H.out.b 11 (b := b7) (vs := [.int .i64 k, .int .i64 c, .slice d7 n k7]) rfl).three
      go_wp2_with fail
      refine (impl_TransposeTensor _ k c d7 k7 n z7 (H.out.n 11 (a := d7) (k := k7) (xs := z7) rfl) N7 hr1 hr6 hc1 hc6 HN.out).mono ?_
      rintro e w1 ⟨d32, k32, z32, rfl, RO, M32, hb⟩
      clear x70 x71 x72 x7f
      have N32 := ten_len RO
      replace F30 := Lib.hid ((F30.out.below hb).below (below1 w1 (.cells #[.int .i64 c, .int .i64 k, .slice d32 n k32] 27)))
      go_upto_region 26 with fail
      replace H := Lib.hid (H.out.add hb #[.int .i64 c, .int .i64 k, .slice d32 n k32] 27 RO.out.arg)
      replace B := Lib.hid (bthen (bthen B.out hb) (below1 w1 (.cells #[.int .i64 c, .int .i64 k, .slice d32 n k32] 27)))
      clear RO hb
      generalize w1.alloc (.cells #[.int .i64 c, .int .i64 k, .slice d32 n k32] 27) = W32 at H B F30 ⊢
      generalize w1.heap.size = b32 at H ⊢
      clear w1
      obtain ⟨-, x90, x91, x92, x9f⟩ := (H.out.b 10 (b := b9) (vs := [.int .i64 (1 : Nat), .int .i64 c, .slice d9 c k9]) rfl).three
      go_wp2_with fail
      refine (impl_SumAll _ 1 c d9 k9 c z9 (H.out.n 10 (a := d9) (k := k9) (xs := z9) rfl) N9 (by decide) (by decide) hc1 hc6 (Nat.one_mul c).symm).mono ?_
      rintro e w3 ⟨s, rfl, hs, hb⟩
      clear x90 x91 x92 x9f
      replace H := Lib.hid (H.out.below hb)
      replace B := Lib.hid (bthen B.out hb)
      replace F30 := Lib.hid (F30.out.below hb)
      clear hb
      obtain ⟨-, x90, x91, x92, x9f⟩ := (H.out.b 10 (b := b9) (vs := [.int .i64 (1 : Nat), .int .i64 c, .slice d9 c k9]) rfl).three
      go_wp2_with fail
      refine (impl_SumNumbers _ d9 k9 z9 (H.out.n 10 (a := d9) (k := k9) (xs := z9) rfl) c N9 (by omega)).mono ?_
      rintro e w4 ⟨s2, rfl, hs2, hd⟩
      clear x90 x91 x92 x9f
      replace H := Lib.hid (H.out.below hd.below)
      replace B := Lib.hid (bthen B.out hd.below)
      replace F30 := Lib.hid (F30.out.below hd.below)
      clear hd
      have K1 := Lib.hid (fun W => impl_SameNumber s s2 hs.out.2 hs2.out.2 W)
      rw [decide_eq_true (hs.out.1.trans hs2.out.1.symm)] at K1
      go_wp2_with fail
      refine (K1.out _).mono ?_
      rintro e w5 ⟨rfl, hd⟩
      replace H := Lib.hid (H.out.below hd.below)
      replace B := Lib.hid (bthen B.out hd.below)
      replace F30 := Lib.hid (F30.out.below hd.below)
      clear hd K1 hs hs2
      have BV := Lib.hid (Below.refl w5.heap.size w5)
      go_wp2
      go_loopw [38] (fun i wr => ∃ j : Nat, i = .int .i64 j ∧ j ≤ c ∧ Hid (Below w5.heap.size w5 wr)) (fun i _ => c - (intOf i).toNat)
      case atStart => exact ⟨0, rfl, Nat.zero_le _, BV⟩
      case round =>
        clear BV
        obtain ⟨j, rfl, hj, HB⟩ := hrel
        replace H := Lib.hid (H.out.below HB.out)
        replace B := Lib.hid (bthen B.out HB.out)
        replace F30 := Lib.hid (F30.out.below HB.out)
        by_cases hlt : j < c
        · skip
          obtain ⟨-, x320, x321, x322, x32f⟩ := (H.out.b 0 (b := b32) (vs := [.int .i64 c, .int .i64 k, .slice d32 n k32]) rfl).three
          go_wp2_with fail
          refine (impl_RowOf _ c k d32 k32 n z32 (H.out.n 0 (a := d32) (k := k32) (xs := z32) rfl) N32 hc1 hc6 hr1 hr6 (HN.out.trans (Nat.mul_comm k c)) j hlt).mono ?_
          rintro e w6 ⟨dl, kl2, rfl, RO, hb⟩
          clear x320 x321 x322 x32f
          obtain ⟨ys, hys⟩ : ∃ ys, ys = (z32.drop (j * k)).take k := ⟨_, rfl⟩
          rw [← hys] at RO
          have HYS := Lib.hid hys
          have FY := Lib.hid RO.out.arg
          have NY := ten_len RO
          replace HB := Lib.hid (bthen HB.out hb)
          replace B := Lib.hid (bthen B.out hb)
          replace F30 := Lib.hid (F30.out.below hb)
          clear hb RO hys
          go_wp2_with fail
          refine (impl_SumNumbers _ dl kl2 ys FY.out k NY (by omega)).mono ?_
          rintro e w7 ⟨s, rfl, hs, hd⟩
          replace HB := Lib.hid (bthen HB.out hd.below)
          replace B := Lib.hid (bthen B.out hd.below)
          replace F30 := Lib.hid (F30.out.below hd.below)
          clear hd
          have hes : cn .f32 s = cn .f32 (z30.getD j 0) := by
            rw [hs.out.1, cn_at M30.out hlt]
            exact col_law (by rw [List.length_map]; exact N7) HN.out hlt M32.out HYS.out
          obtain ⟨b3, o3, e3, _, hc3⟩ := F30.out.spot (k := j) (by rw [N30]; exact hlt)
          have d3 := hc3 j (by rw [N30]; exact hlt)
          have hlt3 : z30.getD j 0 < 4294967296 := by
            rw [List.getD_eq_getElem?_getD, List.getElem?_eq_getElem (by rw [N30]; exact hlt)]
            exact F30.out.lt _ (List.getElem_mem _)
          have K1 := Lib.hid (fun W => impl_SameNumber s (z30.getD j 0) hs.out.2 hlt3 W)
          rw [decide_eq_true hes] at K1
          obtain ⟨y, hy⟩ : ∃ y, y = z30.getD j 0 := ⟨_, rfl⟩
          rw [← hy] at d3 K1
          subst e3
          clear hc3 hes hlt3 hy hs
          go_wp2_with fail
          refine (K1.out _).mono ?_
          rintro e w8 ⟨rfl, hd⟩
          replace HB := Lib.hid (bthen HB.out hd.below)
          clear hd d3
          go_wp2
          go_roundw
          case rel => exact ⟨j + 1, by go_num, hlt, HB⟩
          case measure => simp [intOf]; omega
        · have hjc : j = c := by omega
          subst hjc
          go_wp2
          go_ret
          exact ⟨rfl, B.out⟩
end Go.Proofs.Ytnkikigfpdngdaa
