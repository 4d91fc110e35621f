/- The law of codes, walked. No condition. -/
import Derived.Test.YtaocilimggpdjaaApp
import Derived.Test.YtaocilimggpdjaaNum
import Derived.Test.YtaocilimggpdjaaDot
import Derived.Test.YtaocilimggpdjaaCo3
import Derived.Test.YtaocilimggpdjaaEat
import Derived.Test.YtaocilimggpdjaaQg
import Derived.Test.YtaocilimggpdjaaSnm
import Derived.Deep.QuietTactic
import Derived.BigQuiet
namespace Go.Proofs.Ytaocilimggpdjaa
open Go Go.RowKit
set_option linter.unusedVariables false
set_option linter.unusedSimpArgs false
theorem sumI_snoc {xs ys : List Int} {x y : Int} {k : Nat} (hx : xs.length = k) (hy : ys.length = k) : sumI (xs ++ [x]) (ys ++ [y]) (k + 1) = sumI xs ys k + x * y := by
  have key : ∀ j, j ≤ k → sumI (xs ++ [x]) (ys ++ [y]) j = sumI xs ys j := by
    intro j
    induction j with
    | zero => intro _; rfl
    | succ j ih =>
      intro hj
      simp only [sumI]
      rw [ih (by omega), getD_snoc_left (by omega), getD_snoc_left (by omega)]
  simp only [sumI]
  rw [key k (Nat.le_refl _), getD_snoc_at hx.symm, getD_snoc_at hy.symm]
def inC (x : Int) : Prop := -127 ≤ x ∧ x ≤ 127
theorem codesOk_of {xs : List Int} (hl : xs.length ≤ 8) (h : ∀ x ∈ xs, inC x) : codesOk xs = true := by
  simp only [codesOk, Bool.and_eq_true, decide_eq_true_eq, List.all_eq_true]
  exact ⟨by omega, fun x hx => inB_iff.2 (h x hx)⟩
theorem fin_code : ∀ j : Nat, j < 255 → finB (floatOfInt .f32 ((j : Int) - 127)) = true := by decide +kernel
theorem back_code : ∀ j : Nat, j < 255 → clampI (whole .even (qE (floatOfInt .f32 ((j : Int) - 127)) one32)) = (j : Int) - 127 := by decide +kernel
theorem code_nat {x : Int} (h : inC x) : ∃ j : Nat, j < 255 ∧ x = (j : Int) - 127 := by obtain ⟨h1, h2⟩ := h; exact ⟨(x + 127).toNat, by omega, by omega⟩
theorem spread_one : spreadOk one32 = true := by decide +kernel
theorem spread_zero : spreadOk 0 = true := by decide +kernel
theorem spread_half : spreadOk 1056964608 = true := by decide +kernel
theorem spread_four : spreadOk 1082130432 = true := by decide +kernel
theorem cn_one : cn .f32 one32 = one32 := by decide +kernel
theorem getD_inC {xs : List Int} (h : ∀ x ∈ xs, inC x) {i : Nat} (hi : i < xs.length) : inC (xs.getD i 0) := by
  rw [List.getD_eq_getElem?_getD, List.getElem?_eq_getElem hi]; exact h _ (List.getElem_mem hi)
/-- the numbers of codes with the spread 1 -/
theorem numbers_one {xs : List Int} {ys : List Nat} (h : ∀ x ∈ xs, inC x) (hy : ys.map (cn .f32) = listOf xs.length (numG xs one32)) : ys = xs.map (floatOfInt .f32) := by
  have hl := len_of hy
  apply List.ext_getElem (by rw [hl, List.length_map])
  intro i h1 h2
  have hi : i < xs.length := by omega
  have e := cn_at hy hi
  unfold numG at e
  obtain ⟨j, hj, hx⟩ := code_nat (getD_inC h hi)
  rw [hx, code_number j hj, ← hx] at e
  have e2 : ys.getD i 0 = ys[i] := by simp [h1]
  have e3 : xs.getD i 0 = xs[i] := by simp [hi]
  rw [e2, e3] at e
  rw [List.getElem_map]
  exact eq_of_cn (e.trans (cn_floatOfInt _ _).symm) (isN_of_cn (e.trans (cn_floatOfInt _ _).symm) |>.trans (isN_floatOfInt _ _))
theorem few_numbers {xs : List Int} (hl : xs.length ≤ 8) (h : ∀ x ∈ xs, inC x) : fewFin (xs.map (floatOfInt .f32)) = true := by
  simp only [fewFin, Bool.and_eq_true, decide_eq_true_eq, List.all_eq_true, List.length_map]
  refine ⟨by omega, fun y hy => ?_⟩
  obtain ⟨x, hx, rfl⟩ := List.mem_map.1 hy
  obtain ⟨j, hj, rfl⟩ := code_nat (h x hx)
  exact fin_code j hj
theorem codes_one {xs : List Int} (h : ∀ x ∈ xs, inC x) : lsI xs.length (codeE WOf (xs.map (floatOfInt .f32)) one32) = xs := by
  apply List.ext_getElem (by rw [lsI_length])
  intro i h1 h2
  obtain ⟨j, hj, hx⟩ := code_nat (getD_inC h h2)
  have e3 : xs.getD i 0 = xs[i] := by simp [h2]
  have e4 : (xs.map (floatOfInt .f32)).getD i 0 = floatOfInt .f32 (xs.getD i 0) := by simp [h2]
  rw [← e3]
  have e5 : (lsI xs.length (codeE WOf (xs.map (floatOfInt .f32)) one32))[i] = codeE WOf (xs.map (floatOfInt .f32)) one32 i := by simp [lsI]
  rw [e5]
  unfold codeE
  rw [if_neg (by decide), e4, hx]
  exact back_code j hj
theorem codes_zero (n : Nat) (f : Nat → Nat → Nat) (ys : List Nat) : lsI n (codeE f ys 0) = List.replicate n 0 := by
  apply List.ext_getElem (by rw [lsI_length]; simp)
  intro i h1 h2
  simp [lsI, codeE]
theorem dot_val {xs ys : List Int} (hl : xs.length = ys.length) (h8 : xs.length ≤ 8) (hx : ∀ x ∈ xs, inC x) (hy : ∀ x ∈ ys, inC x) {r : Nat} (hr : cn .f32 r = dotE xs ys 1056964608 1082130432) (w : World) :
    FloatKind.f32.format.order r (floatOfInt .f32 (2 * sumI xs ys xs.length)) = some .eq := by
  have h1 := codesOk_of h8 hx
  have h2 := codesOk_of (by omega) hy
  have bd := sumI_bd (codes_parts h1).2 (codes_parts h2).2 xs.length
  unfold dotE at hr
  rw [if_pos (by unfold dotOk; rw [h1, h2, spread_half, spread_four]; simpa using hl), show cn .f32 1056964608 = 1056964608 by decide +kernel, show cn .f32 1082130432 = 1082130432 by decide +kernel] at hr
  obtain ⟨f1, v1⟩ := twice_int (sumI xs ys xs.length) (by omega)
  obtain ⟨f2, v2⟩ := int_exact32 (2 * sumI xs ys xs.length) (by omega)
  have hrr : r = fop .mul .f32 (fop .mul .f32 (floatOfInt .f32 (sumI xs ys xs.length)) 1056964608) 1082130432 := Fin.cn (k := .f32) f1 hr
  rw [hrr]
  exact eq_val (k := .f32) f1 f2 (v1.trans v2.symm)
set_option maxHeartbeats 8000000 in
set_option maxRecDepth 100000 in
theorem fnCodes_walk (w : World) (a0 : Option Addr) (c0 : Nat) (l0 : List Int) (A0 : Ints .u8 w a0 c0 l0) (a1 : Option Addr) (c1 : Nat) (l1 : List Int) (A1 : Ints .u8 w a1 c1 l1) :
    Calls Try.prog 8 #[.slice a0 l0.length c0, .slice a1 l1.length c1] w fun e w' => e = .returned (.bool true) ∧ Below w.heap.size w w' := by
  by_cases hlong : l0.length ≤ 48 ∧ l1.length ≤ 48
  rotate_left
  · go_enter Try.func8, Try.ntmps8
    go_wp2_with fail
    refine (r8Long_yes _ _ _ _ _ _ _ hlong).mono ?_
    rintro e w1 ⟨rfl, rfl⟩
    go_wp2
    go_ret
    exact ⟨rfl, Below.refl _ _⟩
  obtain ⟨hl0, hl1⟩ := hlong
  obtain ⟨i0, hi, hz0, hz1, hz2⟩ := info_parts info_i64
  have AA0 := Lib.hid A0; have AA1 := Lib.hid A1
  clear A0 A1
  go_enter Try.func8, Try.ntmps8
  go_wp2_with fail
  refine (r8Long_no _ _ _ _ _ _ _ hl0 hl1).mono ?_
  rintro e w1 ⟨rfl, rfl⟩
  clear hl0 hl1
  go_wp2_with fail
  refine (r8At_any _ _ _ _ AA0.out 40 9 (by decide) (by decide) (by decide) (by decide)).mono ?_
  rintro e w1 ⟨n, rfl, hn, rfl⟩
  have hn8 : n ≤ 8 := by omega
  go_wp2
  go_loopw [6, 7, 8, 9] (fun va vb vs i wr => ∃ k : Nat, i = .int .i64 k ∧ k ≤ n ∧ ∃ (xa xb : List Int) (S : Int), vs = .int .i64 S ∧ Hid (S = sumI xa xb k ∧ Two wr w.heap.size 2 va k (xa.map (Value.int .i64)) 2 vb k (xb.map (Value.int .i64)) ∧ xa.length = k ∧ xb.length = k ∧ (∀ x ∈ xa, inC x) ∧ ∀ x ∈ xb, inC x) ∧ Hid (Below w.heap.size w wr) ∧ w.heap.size ≤ wr.heap.size ∧ (-16129 * (k : Int) ≤ S ∧ S ≤ 16129 * (k : Int))) (fun _ _ _ i _ => n - (intOf i).toNat)
  case atStart =>
    refine ⟨0, rfl, Nat.zero_le _, [], [], 0, rfl, Lib.hid ⟨rfl, ⟨(World.ownsRow_made _ _ _ (Nat.le_refl _) (Nat.zero_le _) rfl).alloc _, by simpa using World.ownsRow_made (e := 2) (w.alloc (.cells #[] 2)) _ 0 (below1 w (.cells #[] 2)).size (Nat.zero_le _) rfl, ?_⟩, rfl, rfl, fun x hx => (nomatch hx), fun x hx => (nomatch hx)⟩, Lib.hid (below2 _ _ _), (below2 _ _ _).size, by omega⟩
    intro g h1 h2
    simp [Value.ownBlock] at h1 h2
    omega
  case round =>
    obtain ⟨k, rfl, hk, xa, xb, S, rfl, HF, HB, hbs, hS⟩ := hrel
    by_cases hlt : k < n
    · have B0 := AA0.out.below (HB.out.mono (Nat.le_refl _))
      have B1 := AA1.out.below (HB.out.mono (Nat.le_refl _))
      go_wp2_with fail
      refine (r8At_any _ _ _ _ B0 k 255 (by omega) (by omega) (by decide) (by decide)).mono ?_
      rintro e w1 ⟨x, rfl, hx, rfl⟩
      go_wp2_with fail
      refine (r8At_any _ _ _ _ B1 k 255 (by omega) (by omega) (by decide) (by decide)).mono ?_
      rintro e w1 ⟨y, rfl, hy, rfl⟩
      clear B0 B1
      obtain ⟨X, hX⟩ : ∃ X : Int, (x : Int) - 127 = X := ⟨_, rfl⟩
      obtain ⟨Y, hY⟩ : ∃ Y : Int, (y : Int) - 127 = Y := ⟨_, rfl⟩
      have hXc : inC X := ⟨by omega, by omega⟩
      have hYc : inC Y := ⟨by omega, by omega⟩
      have hXY := mul_bd hXc.1 hXc.2 hYc.1 hYc.2
      have HXc := Lib.hid hXc; have HYc := Lib.hid hYc; clear hXc hYc
      have ho1 := HF.out.2.1.one
      have HO1 := Lib.hid ho1; clear ho1
      go_wp2_with (at_builtin; refine wp_appA rfl _ _ 61 rfl w.heap.size i0 (.int .i64 0) 1 8 Try.underlying61 hi hz0 hz1 hz2 rfl (by decide) rfl (one_cell _ rfl) _ _ _ rfl HO1.out rfl ?c3 ?c4 ?c5 ?_)
      case c3 => unfold maxLen; omega
      case c4 => omega
      case c5 => omega
      intro v' w9 hown1 hg1 hat1 hb1 hbs1
      have ht := HF.out.2.1.grow hown1 hg1 hat1
      have HT := Lib.hid ht; have HB1 := Lib.hid (HB.out.trans hb1)
      clear hown1 hg1 hat1 hb1 ht HO1
      have HO2 := Lib.hid HT.out.two
      go_wp2_with (at_builtin; refine wp_appA rfl _ _ 61 rfl w.heap.size i0 (.int .i64 0) 1 8 Try.underlying61 hi hz0 hz1 hz2 rfl (by decide) rfl (one_cell _ rfl) _ _ _ rfl HO2.out rfl ?c3 ?c4 ?c5 ?_)
      case c3 => unfold maxLen; omega
      case c4 => omega
      case c5 => omega
      intro v2 w10 hown1 hg1 hat1 hb1 hbs2
      have ht := (HT.out.swap.grow hown1 hg1 hat1).swap
      have HT2 := Lib.hid ht; have HB2 := Lib.hid (HB1.out.trans hb1)
      clear hown1 hg1 hat1 hb1 ht HO2 HT
      go_wp2
      go_roundw
      case rel =>
        refine ⟨k + 1, by go_num, hlt, xa ++ [X], xb ++ [Y], S + X * Y, ?_, Lib.hid ⟨?_, ?_, by simp [HF.out.2.2.1], by simp [HF.out.2.2.2.1], ?_, ?_⟩, HB2, hbs2, by omega⟩
        · rfl
        · rw [sumI_snoc HF.out.2.2.1 HF.out.2.2.2.1, ← HF.out.1]
        · rw [List.map_append, List.map_append]; exact HT2.out
        · intro z hz
          rcases List.mem_append.1 hz with h | h
          · exact HF.out.2.2.2.2.1 z h
          · simp at h; rw [h]; exact HXc.out
        · intro z hz
          rcases List.mem_append.1 hz with h | h
          · exact HF.out.2.2.2.2.2 z h
          · simp at h; rw [h]; exact HYc.out
      case measure => simp [intOf]; omega
    · have hkn : k = n := by omega
      subst hkn
      clear AA0 AA1
      obtain ⟨fS, fT, fa, fb, fA, fB⟩ := HF.out
      have wfA : ∀ x ∈ xa, (Lit.int .i64 x).wf = true := fun x hx => wf_code (fA x hx)
      have wfB : ∀ x ∈ xb, (Lit.int .i64 x).wf = true := fun x hx => wf_code (fB x hx)
      obtain ⟨ada, capa, rfl, RA⟩ := RepI.of_owns fT.one wfA
      obtain ⟨adb, capb, rfl, RB⟩ := RepI.of_owns fT.two wfB
      have hok := codesOk_of (by omega) fA
      have hN := fun W (h : RepI W w.heap.size wr.heap.size ada k capa xa) => impl_NumbersOf W ada capa xa h.arg one32 (by decide)
      have hD := fun W (h : RepI W w.heap.size wr.heap.size ada k capa xa) (h2 : RepI W w.heap.size wr.heap.size adb k capb xb) => impl_DotOfCodes W ada capa xa h.arg adb capb xb h2.arg 1056964608 1082130432 (by decide) (by decide)
      rw [show numOk xa one32 = true by unfold numOk; rw [hok, spread_one]; rfl] at hN
      rw [show dotOk xa xb 1056964608 1082130432 = true by unfold dotOk; rw [hok, codesOk_of (by omega) fB, spread_half, spread_four]; simp; omega] at hD
      rw [cn_one, if_pos rfl, fa] at hN
      rw [fa, fb] at hD
      have hval := fun r (h : cn .f32 r = dotE xa xb 1056964608 1082130432) => dot_val (fa.trans fb.symm) (by omega) fA fB h wr
      rw [fa, ← fS] at hval
      have hnum := fun ys h => numbers_one (ys := ys) fA (by rw [fa]; exact h)
      have hfew := few_numbers (by omega) fA
      have hco := codes_one fA
      rw [fa] at hco
      have NA := Lib.hid hN; have ND := Lib.hid hD; have NV := Lib.hid hval; have NN := Lib.hid hnum; have NF := Lib.hid hfew; have NC := Lib.hid hco
      have HRA := Lib.hid RA; have HRB := Lib.hid RB
      have FA := Lib.hid fA; have FL := Lib.hid fa
      clear hN hD hval hnum hfew hco RA RB fS fT fa fb fA fB wfA wfB hok HF
      go_wp2_with fail
      refine (NA.out _ HRA.out).mono ?_
      rintro e w2 ⟨ad, m, cap, ys, b, rfl, hr, hy, hm, rfl, hb2⟩
      obtain rfl : m = k := by rw [← hr.len]; exact len_of hy
      obtain rfl := NN.out ys hy
      have R2 := Lib.hid hr; have BW2 := Lib.hid (HB.out.trans (hb2.mono hbs))
      have HRA := Lib.hid (HRA.out.below hb2); have HRB := Lib.hid (HRB.out.below hb2)
      clear hr hy hb2 NN NA
      have hc1 := impl_CodesOf w2 ad cap _ R2.out.arg one32 (by decide)
      rw [show cdOk (xa.map (floatOfInt .f32)) one32 = true by unfold cdOk; rw [NF.out, spread_one]; rfl, if_pos rfl, List.length_map, FL.out, NC.out] at hc1
      have HC1 := Lib.hid hc1; clear hc1 NC
      go_wp2_with fail
      refine HC1.out.mono ?_
      rintro e w3 ⟨ad3, m3, cap3, ys3, b, rfl, hr, hy3, hm3, rfl, hb3⟩
      have hy3 := hy3.symm
      subst hy3
      obtain rfl : m3 = m := by rw [← hr.len, FL.out]
      have R3 := Lib.hid hr; have BW3 := Lib.hid (bthen BW2.out hb3)
      have HRA := Lib.hid (HRA.out.below hb3); have HRB := Lib.hid (HRB.out.below hb3); have R2 := Lib.hid (R2.out.below hb3)
      clear hr hb3 HC1 BW2
      have hc1 := impl_CodesOf w3 ad cap _ R2.out.arg 0 (by decide)
      rw [show cdOk (xa.map (floatOfInt .f32)) 0 = true by unfold cdOk; rw [NF.out, spread_zero]; rfl, if_pos rfl, List.length_map, FL.out, codes_zero] at hc1
      have HC1 := Lib.hid hc1; clear hc1
      go_wp2_with fail
      refine HC1.out.mono ?_
      rintro e w4 ⟨ad4, m4, cap4, ys4, b, rfl, hr, rfl, hm4, rfl, hb4⟩
      obtain rfl : m4 = m3 := by rw [← hr.len, List.length_replicate]
      have R4 := Lib.hid hr; have BW4 := Lib.hid (bthen BW3.out hb4)
      have HRA := Lib.hid (HRA.out.below hb4); have HRB := Lib.hid (HRB.out.below hb4); have R2 := Lib.hid (R2.out.below hb4); have R3 := Lib.hid (R3.out.below hb4)
      clear hr hb4 HC1 BW3
      go_wp2_with fail
      refine (ND.out _ HRA.out HRB.out).mono ?_
      rintro e w5 ⟨r, b, rfl, hre, rfl, hb5⟩
      have hv := NV.out r hre
      have BW5 := Lib.hid (bthen BW4.out hb5)
      have HRA := Lib.hid (HRA.out.below hb5); have R2 := Lib.hid (R2.out.below hb5); have R3 := Lib.hid (R3.out.below hb5); have R4 := Lib.hid (R4.out.below hb5)
      clear hre hb5 NV ND BW4 NF HRB
      go_wp2
      go_loopw [20] (fun i wr => ∃ k : Nat, i = .int .i64 k ∧ k ≤ m4 ∧ Dr w5 wr) (fun i _ => m4 - (intOf i).toNat)
      case atStart => exact ⟨0, rfl, Nat.zero_le _, Dr.refl _⟩
      case round =>
        obtain ⟨k, rfl, hk, hd⟩ := hrel
        by_cases hlt : k < m4
        · have hl := FL.out
          have h2 := R2.out.arg.below hd.below
          have h3 := R3.out.arg.below hd.below
          have h4 := R4.out.arg.below hd.below
          have h5 := HRA.out.arg.below hd.below
          obtain ⟨b2, o2, rfl, _, q2⟩ := h2.spot (k := k) (by simpa using (by omega : k < xa.length))
          obtain ⟨b3, o3, rfl, _, q3⟩ := h3.spot (i := k) (by omega)
          obtain ⟨b4, o4, rfl, _, q4⟩ := h4.spot (i := k) (by simpa using hlt)
          obtain ⟨b5, o5, rfl, _, q5⟩ := h5.spot (i := k) (by omega)
          have d2 := q2 k (by simpa using (by omega : k < xa.length))
          have d3 := q3 k (by omega)
          have d4 := q4 k (by simpa using hlt)
          have d5 := q5 k (by omega)
          rw [show (xa.map (floatOfInt .f32)).getD k 0 = floatOfInt .f32 (xa.getD k 0) by simp [show k < xa.length by omega]] at d2
          rw [show (List.replicate m4 (0 : Int)).getD k 0 = 0 by simp [hlt]] at d4
          obtain ⟨x, hx⟩ : ∃ x, x = xa.getD k 0 := ⟨_, rfl⟩
          rw [← hx] at d2 d3 d5
          have hoo : FloatKind.f32.format.order (floatOfInt .f32 x) (floatOfInt .f32 x) = some .eq := order_self2 (isN_floatOfInt _ _)
          have HD := Lib.hid hd
          clear hx q2 q3 q4 q5 h2 h3 h4 h5 hd hl
          go_wp2
          go_quiet (fail)
          go_wp2
          go_roundw
          case rel => exact ⟨k + 1, by go_num, hlt, HD.out.drewN _⟩
          case measure => simp [intOf]; omega
        · have hkn : k = m4 := by omega
          subst hkn
          go_wp2
          go_ret
          exact ⟨rfl, BW5.out.trans (hd.below.mono BW5.out.size)⟩
end Go.Proofs.Ytaocilimggpdjaa
