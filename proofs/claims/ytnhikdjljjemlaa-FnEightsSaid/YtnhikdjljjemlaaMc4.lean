/- Joined texts 4: Egu Lsq Lab Hub Clp Exp Ex2 Log Lo2 Fnd. Each is told at its own head. No condition. -/
import Derived.Laws.AppendOwnNone
import Derived.Test.YtnhikdjljjemlaaMc1
import Derived.Test.YtnhikdjljjemlaaMc2
import Derived.Test.YtnhikdjljjemlaaMc3
/- What the nearest code in 8 bits is, of what is no finite number. No condition. -/
namespace Go.Proofs.Ytnhikdjljjemlaa
open Go Go.RowKit Ieee
set_option linter.unusedVariables false
set_option linter.unusedSimpArgs false
set_option maxHeartbeats 4000000 in
set_option maxRecDepth 100000 in
theorem impl_EightOf_top (k : Nat) (hk : k < 2) (x : Nat) (ox : FloatKind.f32.format.order x x = some .eq) (D0 : Nat) (cw : ∀ w, cvbits .f32 x .f64 w = D0) (fl : D0 < 18446744073709551616) (hsg : D0 < 9223372036854775808 ↔ x < 2147483648)
    (ol0 : (FloatKind.f64.format.order (D0 % 9223372036854775808) (rVal k (rTop k)) == some .lt) = false) (w : World) :
    Calls Try.prog 18 #[.int .i64 k, .float .f32 x] w fun e w' => e = .returned (.tuple #[.int .i64 (rTop k + sgC x : Nat), .bool true]) ∧ Dr w w' := by
  have K1 := Lib.hid (fun W => impl_isEight k hk W)
  have K2 := Lib.hid (fun W => impl_greatestRest k hk W)
  have k4 := fun W => math_Abs D0 fl W
  have k5 := fun W => math_Signbit D0 fl W
  have hsb : (!(decide (D0 < 9223372036854775808))) = !(decide (x < 2147483648)) := by rw [decide_eq_decide.2 hsg]
  rw [hsb] at k5
  obtain ⟨D, hD⟩ : ∃ D, D = D0 % 9223372036854775808 := ⟨_, rfl⟩
  rw [← hD] at k4 ol0
  have ht1 := rTop_le k
  obtain ⟨T, hT⟩ : ∃ T, T = rTop k := ⟨_, rfl⟩
  rw [← hT] at K2 ht1 ol0 ⊢
  obtain ⟨VT, hVT⟩ : ∃ V, V = rVal k T := ⟨_, rfl⟩
  have k6 := impl_restValue k T hk (by omega)
  rw [← hVT] at k6 ol0
  have K4 := Lib.hid k4; have K5 := Lib.hid k5; have K6 := Lib.hid k6
  clear k4 k5 k6 fl hsb hD hVT hsg hT
  go_enter Try.func18, Try.ntmps18
  go_wp2_with fail
  refine (K1.out _).mono ?_
  rintro e w1 ⟨rfl, rfl⟩
  go_wp2_with fail
  refine (K4.out _).mono ?_
  rintro e w1 ⟨rfl, rfl⟩
  go_wp2_with fail
  refine (K2.out _).mono ?_
  rintro e w1 ⟨rfl, rfl⟩
  go_wp2_with fail
  refine (K6.out _).mono ?_
  rintro e w1 ⟨rfl, hd1⟩
  have HD1 := Lib.hid hd1; have CW := Lib.hid cw; clear hd1 cw
  have cw := CW.out
  by_cases hs : x < 2147483648
  · have k5 := K5.out
    rw [decide_eq_true hs] at k5
    have K7 := Lib.hid k5
    have hfin : ((T + sgC x : Nat) : Int) = (T : Int) := by rw [show sgC x = 0 from if_pos hs]; rfl
    have HF := Lib.hid hfin
    have HDR := Lib.hid (show Dr w w1 from by first | exact HD1.out | (obtain ⟨q, hq⟩ := HD1.out; exact ⟨_, by rw [hq, World.drewN_drewN]⟩))
    clear hfin k5 hs
    go_wp2_with fail
    refine (K7.out _).mono ?_
    rintro e w9 ⟨rfl, rfl⟩
    go_wp2
    go_ret2
    exact ⟨by rw [HF.out]; rfl, by first | exact HDR.out | exact HDR.out.drewN _⟩
  · have k5 := K5.out
    rw [decide_eq_false hs] at k5
    have K7 := Lib.hid k5
    have hfin : ((T + sgC x : Nat) : Int) = (T : Int) + 128 := by rw [show sgC x = 128 from if_neg hs]; omega
    have HF := Lib.hid hfin
    have HDR := Lib.hid (show Dr w w1 from by first | exact HD1.out | (obtain ⟨q, hq⟩ := HD1.out; exact ⟨_, by rw [hq, World.drewN_drewN]⟩))
    clear hfin k5 hs
    go_wp2_with fail
    refine (K7.out _).mono ?_
    rintro e w9 ⟨rfl, rfl⟩
    go_wp2
    go_ret2
    exact ⟨by rw [HF.out]; rfl, by first | exact HDR.out | exact HDR.out.drewN _⟩
set_option maxRecDepth 100000 in
theorem impl_EightOf_nan (k : Nat) (hk : k < 2) (x : Nat) (ox : (FloatKind.f32.format.order x x == some .eq) = false) (w : World) :
    Calls Try.prog 18 #[.int .i64 k, .float .f32 x] w fun e w' => e = .returned (.tuple #[.int .i64 127, .bool true]) ∧ Dr w w' := by
  have K1 := Lib.hid (fun W => impl_isEight k hk W)
  have ox2 : (FloatKind.f32.format.order x x != some .eq) = true := by unfold bne; rw [ox]; rfl
  go_enter Try.func18, Try.ntmps18
  go_wp2_with fail
  refine (K1.out _).mono ?_
  rintro e w1 ⟨rfl, rfl⟩
  go_wp2
  go_ret2
  exact ⟨rfl, Dr.refl _⟩
theorem finB_of_fin {x : Nat} (h : Fin single x) : finB x = true := by
  obtain ⟨s, m, p, e, -⟩ := h.read
  unfold finB; rw [e]
theorem wide_sg {x : Nat} (hx : Fin single x) : fcv .f32 x .f64 < 9223372036854775808 ↔ x < 2147483648 := by
  have hw := cv_fin8 hx default
  obtain ⟨s, r, rfl, hr⟩ := hx
  obtain ⟨q, h1, h2, -⟩ := wide_fin s hr
  rw [h2] at hw
  rw [← hw]
  rw [s_ir] at hr
  rw [d_ir] at h1
  have e1 : single.signWeight = 2147483648 := s_sw
  have e2 : double.signWeight = 9223372036854775808 := by decide +kernel
  unfold Format.word
  rw [e1, e2]
  cases s <;> simp <;> omega
def eR (k x : Nat) : Nat := if finB x = true then eRest (szD x) k else rTop k
theorem eR_le (k x : Nat) : eR k x ≤ rTop k := by unfold eR; split; exact eRest_le _ _; exact Nat.le_refl _
theorem inf_cases {x : Nat} (hx : x < 4294967296) (hn : isN .f32 x = false) (hf : ¬ Fin single x) : x = 2139095040 ∨ x = 4286578688 := by
  obtain ⟨s, r, e1, hr⟩ := word_of single (x := x) (by rw [s_sw]; omega)
  by_cases h1 : r < single.infRung
  · exact absurd ⟨s, r, e1, h1⟩ hf
  · by_cases h2 : r = single.infRung
    · subst h2
      cases s
      · left; rw [e1]; decide +kernel
      · right; rw [e1]; decide +kernel
    · exfalso
      have hb : single.binade ≤ single.infRung := by decide +kernel
      have h3 : isN .f32 x = (single.read x).isNaN := rfl
      rw [h3, e1, read_word single s hr, if_neg (by omega), if_neg h1, if_neg h2] at hn
      cases hn
set_option maxRecDepth 100000 in
theorem top_inf : ∀ k, k < 2 → (FloatKind.f64.format.order 9218868437227405312 (rVal k (rTop k)) == some .lt) = false := by decide +kernel
theorem cvi {x : Nat} {y : Nat} (h : fcv .f32 (cn .f32 x) .f64 = y) (hy : isN .f64 y = false) (w : World) : cvbits .f32 x .f64 w = y := by
  have h1 := cn_wide x w
  rw [h] at h1
  have h2 : isN .f64 (cvbits .f32 x .f64 w) = false := by rw [← isN_cn, h1]; exact hy
  rwa [cn_not h2] at h1
theorem impl_EightOf_num (k : Nat) (hk : k < 2) (x : Nat) (hx : x < 4294967296) (hn : isN .f32 x = false) (w : World) :
    Calls Try.prog 18 #[.int .i64 k, .float .f32 x] w fun e w' => e = .returned (.tuple #[.int .i64 (eR k x + sgC x : Nat), .bool true]) ∧ Dr w w' := by
  by_cases hf : finB x = true
  · have h1 := fin_of_finB hx hf
    unfold eR
    rw [if_pos hf]
    exact impl_EightOf_fin k hk x h1 hx (wide_sg h1) w
  · unfold eR
    rw [if_neg hf]
    have hnf : ¬ Fin single x := fun h => hf (finB_of_fin h)
    rcases inf_cases hx hn hnf with rfl | rfl
    · exact impl_EightOf_top k hk _ (by decide +kernel) 9218868437227405312 (cvi (by decide +kernel) (by decide +kernel)) (by decide) (by decide) (top_inf k hk) w
    · exact impl_EightOf_top k hk _ (by decide +kernel) 18442240474082181120 (cvi (by decide +kernel) (by decide +kernel)) (by decide) (by decide) (top_inf k hk) w
end Go.Proofs.Ytnhikdjljjemlaa
/- What the mean of squares and its gradients are. No condition. -/
namespace Go.Proofs.Ytnhikdjljjemlaa
open Go Go.RowKit
set_option linter.unusedVariables false
set_option linter.unusedSimpArgs false
/-- a list that has been changed in its first k places -/
def stepf (k : Nat) (g f : Nat → Nat) (i : Nat) : Nat := if i < k then g i else f i
theorem stepf_zero (g f : Nat → Nat) : stepf 0 g f = f := by funext i; simp [stepf]
theorem stepf_at (k : Nat) (g f : Nat → Nat) : stepf k g f k = f k := by simp [stepf]
theorem listOf_done (n : Nat) (g f : Nat → Nat) : listOf n (stepf n g f) = listOf n g := listOf_congr fun i hi => by simp [stepf, hi]
theorem set_listOf {n k : Nat} {g f : Nat → Nat} {y : Nat} {zs : List Nat} (h : zs.map (cn .f32) = listOf n (stepf k g f)) (hy : cn .f32 y = g k) : (zs.set k y).map (cn .f32) = listOf n (stepf (k + 1) g f) := by
  rw [List.map_set, h, hy]
  apply List.ext_getElem
  · simp [listOf]
  · intro i h1 h2
    simp only [listOf, List.getElem_set, List.getElem_map, List.getElem_range, stepf]
    by_cases e : k = i
    · subst e; simp
    · rw [if_neg e]
      by_cases e2 : i < k
      · rw [if_pos e2, if_pos (by omega)]
      · rw [if_neg e2, if_neg (by omega)]
theorem RepF.open {w : World} {lo hi : Nat} {ad : Option Addr} {n cap : Nat} {zs : List Nat} (h : RepF w lo hi ad n cap zs) (hp : 0 < n) :
    ∃ g, ad = some ⟨g, 0, none⟩ ∧ lo ≤ g ∧ (∀ k, k < n → w.cell? ⟨g, k, none⟩ = some (.float .f32 (zs.getD k 0))) ∧ (∀ k, w.frozen? ⟨g, k, none⟩ = false) ∧
      (∀ k y, y < 4294967296 → RepF (w.setCell ⟨g, k, none⟩ (.float .f32 y)) lo hi (some ⟨g, 0, none⟩) n cap (zs.set k y)) := by
  obtain ⟨hrow, hlen, hlt⟩ := h
  obtain ⟨g, cap', hform⟩ := Joins.ownsRow_form hrow.own hp
  have had : ad = some ⟨g, 0, none⟩ := by cases hform; rfl
  clear hform
  subst had
  refine ⟨g, rfl, (hrow.own.lt g rfl).1, fun k hk => ?_, fun k => hrow.own.frozenAt k, fun k y hy => ⟨⟨?_, ?_⟩, ?_, ?_⟩⟩
  · rw [hrow.own.cellAt k (by omega), List.getElem?_map, List.getD_eq_getElem?_getD, List.getElem?_eq_getElem (by omega)]; rfl
  · rw [List.map_set]; exact (hrow.own.stored k (.float .f32 y)).1
  · exact hrow.top
  · rw [List.length_set]; exact hlen
  · intro x hx
    rcases List.mem_or_eq_of_mem_set hx with hx | rfl
    · exact hlt x hx
    · exact hy
theorem RepF.setAt {w : World} {lo hi g n cap : Nat} {zs : List Nat} (h : RepF w lo hi (some ⟨g, 0, none⟩) n cap zs) (k y : Nat) (hy : y < 4294967296) (hp : 0 < n) : RepF (w.setCell ⟨g, k, none⟩ (.float .f32 y)) lo hi (some ⟨g, 0, none⟩) n cap (zs.set k y) := by
  obtain ⟨g', hg, _, _, _, hs⟩ := h.open hp
  obtain rfl : g = g' := by simpa using hg
  exact hs k y hy
def sqG (D : Nat → Nat) (n i : Nat) : Nat := fop .quo .f32 (fop .mul .f32 1073741824 (D i)) (floatOfInt .f32 n)
def sqL (D : Nat → Nat) (n : Nat) : Nat := fop .quo .f32 (dotS (listOf n D) (listOf n D) n) (floatOfInt .f32 n)
theorem cn_two : cn .f32 1073741824 = 1073741824 := by decide +kernel
set_option maxRecDepth 100000 in
set_option maxHeartbeats 2000000 in
theorem impl_LossSquares_yes (w : World) (a1 : Option Addr) (c1 : Nat) (xs : List Nat) (h1 : F32s w a1 c1 xs) (a2 : Option Addr) (c2 : Nat) (zs : List Nat) (h2 : F32s w a2 c2 zs) (hb : both xs.length zs.length = true) :
    Calls Try.prog 25 #[.slice a1 xs.length c1, .slice a2 zs.length c2] w fun e w' => ∃ (r : Nat) (ad : Option Addr) (n cap : Nat) (ys : List Nat), e = .returned (.tuple #[.float .f32 r, .slice ad n cap, .bool true]) ∧
      cn .f32 r = sqL (subE (xs.map (cn .f32)) (zs.map (cn .f32))) xs.length ∧ RepF w' w.heap.size w'.heap.size ad n cap ys ∧ ys.map (cn .f32) = listOf xs.length (sqG (subE (xs.map (cn .f32)) (zs.map (cn .f32))) xs.length) ∧ n ≤ 1048576 ∧ Below w.heap.size w w' := by
  obtain ⟨i0, hi, hz0, hz1, hz2⟩ := info_parts info_f32
  have c1 := fun W k1 k2 => impl_differences W a1 c1 xs k1 a2 c2 zs k2 hb
  obtain ⟨D, hD⟩ : ∃ D, D = subE (xs.map (cn .f32)) (zs.map (cn .f32)) := ⟨_, rfl⟩
  simp only [← hD] at c1 ⊢
  clear hD
  simp only [both, Bool.and_eq_true, decide_eq_true_eq] at hb
  obtain ⟨⟨hn1, hn⟩, hl⟩ := hb
  obtain ⟨n, e1⟩ : ∃ n, n = xs.length := ⟨_, rfl⟩
  have e2 : n = zs.length := e1.trans hl
  simp only [← e1] at c1 hn hn1 ⊢
  simp only [← e2] at c1 ⊢
  have C1 := Lib.hid c1; clear c1 e1 e2 hl
  go_enter Try.func25, Try.ntmps25
  go_wp2_with fail
  refine (C1.out _ h1 h2).mono ?_
  rintro e w1 ⟨v1, ds, rfl, hown1, hD, hDl, hb1⟩
  obtain ⟨ad, cap, rfl, hr⟩ := RepF.of_owns hown1 hDl.out
  have HD := hD.out
  have hdl := len_of HD
  have hra := hr.arg
  clear hD hDl hown1 C1 h1 h2
  have hs1 := hb1.size
  go_wp2
  go_loopw [10, 25] (fun v i wr => ∃ k : Nat, i = .int .i64 k ∧ k ≤ n ∧ ∃ ys : List Nat, wr.ownsRow w1.heap.size 24 1 v k (ys.map (Value.float .f32)) ∧ ys.length = k ∧ ys.map (cn .f32) = listOf k (sqG D n) ∧ (∀ y ∈ ys, y < 4294967296) ∧ Below w1.heap.size w1 wr ∧ w1.heap.size ≤ wr.heap.size) (fun _ i _ => n - (intOf i).toNat)
  case atStart => exact ⟨0, rfl, Nat.zero_le _, [], World.ownsRow_made _ _ _ (Nat.le_refl _) (Nat.zero_le _) rfl, rfl, rfl, (fun y hy => nomatch hy), below1 _ _, by simp⟩
  case round =>
    obtain ⟨k, rfl, hk, ys, hown, hyl, hye, hylt, hb, hbs⟩ := hrel
    have HL := Lib.hid hyl; have HE := Lib.hid hye; have HLT := Lib.hid hylt; clear hyl hye hylt
    have h1 := hra.below hb
    by_cases hlt : k < n
    · have hk1 : k < ds.length := by rw [hdl]; exact hlt
      obtain ⟨bx1, offx1, rfl, _, hqx1⟩ := F32s.spot h1 (k := k) hk1
      have hcx := hqx1 k hk1
      obtain ⟨x1, px1⟩ : ∃ x, x = ds.getD k 0 := ⟨_, rfl⟩
      rw [← px1] at hcx
      have Px1 := Lib.hid px1; clear px1 hqx1
      clear h1
      go_wp2_with (at_builtin; refine wp_app rfl _ _ 29 rfl w1.heap.size i0 (.float .f32 0) 1 4 Try.underlying29 hi hz0 hz1 hz2 rfl (by decide) rfl (one_cell _ rfl) _ _ _ rfl hown rfl ?c3 ?c4 ?c5 ?_)
      case c3 => unfold maxLen; omega
      case c4 => omega
      case c5 => exact hbs
      intro v' w9 hown1 hb1 hbs1
      have hb1 := (below_drewN hb _).trans hb1
      clear hown hb hbs
      generalize hy : fbits BinOp.quo FloatKind.f32 _ _ _ = y at hown1
      have hyc : cn .f32 y = sqG D n k := by rw [← hy, cn_fbits, cn_fbits, cn_two, cn_floatOfInt, Px1.out, cn_at HD hlt]; rfl
      have hyl : y < 4294967296 := by rw [← hy]; exact fbits_lt _ .f32 _ _ _
      have HY := Lib.hid hyc; clear hyc hy
      go_wp2
      go_roundw
      case rel =>
        refine ⟨k + 1, by go_num, hlt, ys ++ [y], by simpa using hown1, by simp [HL.out], ?_, ?_, hb1, hbs1⟩
        · rw [List.map_append, List.map_cons, List.map_nil, HE.out, HY.out, listOf_succ]
        · intro z hz
          rcases List.mem_append.1 hz with hz | hz
          · exact HLT.out z hz
          · simp at hz; rw [hz]; exact hyl
      case measure => simp [intOf]; omega
    · have hkn : k = n := by omega
      subst hkn
      have c2 := impl_dot wr ad cap ds h1 ad cap ds h1 rfl
      rw [hdl, HD] at c2
      have C2 := Lib.hid c2; clear c2
      go_wp2_with fail
      refine C2.out.mono ?_
      rintro e w2 ⟨r, rfl, hr2, q, rfl⟩
      go_wp2
      go_ret3
      obtain ⟨ad', cap', rfl, hro⟩ := RepF.of_owns hown HLT.out
      exact ⟨_, ad', _, cap', ys, rfl, by rw [cn_fbits, cn_floatOfInt, hr2.out.1]; rfl, ((hro.below (below_drewN (Below.refl _ _) _)).bounds hs1 (Nat.le_refl _)), HE.out, by omega, (hb1.trans (hb.mono hs1)).trans (below_drewN (Below.refl _ _) _)⟩
theorem impl_LossSquares (w : World) (a1 : Option Addr) (c1 : Nat) (xs : List Nat) (h1 : F32s w a1 c1 xs) (a2 : Option Addr) (c2 : Nat) (zs : List Nat) (h2 : F32s w a2 c2 zs) :
    Calls Try.prog 25 #[.slice a1 xs.length c1, .slice a2 zs.length c2] w fun e w' => ∃ (r : Nat) (ad : Option Addr) (n cap : Nat) (ys : List Nat) (b : Bool), e = .returned (.tuple #[.float .f32 r, .slice ad n cap, .bool b]) ∧
      cn .f32 r = (if both xs.length zs.length = true then sqL (subE (xs.map (cn .f32)) (zs.map (cn .f32))) xs.length else 0) ∧ RepF w' w.heap.size w'.heap.size ad n cap ys ∧ ys.map (cn .f32) = (if both xs.length zs.length = true then listOf xs.length (sqG (subE (xs.map (cn .f32)) (zs.map (cn .f32))) xs.length) else []) ∧ n ≤ 1048576 ∧ b = both xs.length zs.length ∧ Below w.heap.size w w' := by
  cases hb : both xs.length zs.length
  · have m1 := Nat.le_trans h1.len h1.cap
    have m2 := Nat.le_trans h2.len h2.cap
    unfold maxLen at m1 m2
    have c := fun W => impl_differences_no W a1 c1 xs.length zs.length a2 c2 (by omega) (by omega) hb
    have C := Lib.hid c; clear c
    simp only [Bool.false_eq_true, if_false]
    have F : Calls Try.prog 25 #[.slice a1 xs.length c1, .slice a2 zs.length c2] w fun e w' => e = .returned (.tuple #[.float .f32 0, .slice none 0 0, .bool false]) ∧ w = w' := by
      clear hb
      go_enter Try.func25, Try.ntmps25
      go_wp2_with fail
      refine (C.out _).mono ?_
      rintro e w1 ⟨rfl, rfl⟩
      go_wp2
      go_ret3
      exact ⟨rfl, rfl⟩
    refine F.mono fun e w' ⟨he, hw⟩ => ?_
    subst hw
    exact ⟨0, none, 0, 0, [], false, he, cn_zero, RepF.nil _ _ _, rfl, by omega, rfl, Below.refl _ _⟩
  · simp only [if_true]
    exact (impl_LossSquares_yes w a1 c1 xs h1 a2 c2 zs h2 hb).mono fun e w' ⟨r, ad, n, cap, ys, he, hx⟩ => ⟨r, ad, n, cap, ys, true, he, hx.1, hx.2.1, hx.2.2.1, hx.2.2.2.1, rfl, hx.2.2.2.2⟩
end Go.Proofs.Ytnhikdjljjemlaa
/- What the mean of absolute values and its gradients are. No condition. -/
namespace Go.Proofs.Ytnhikdjljjemlaa
open Go Go.RowKit
set_option linter.unusedVariables false
set_option linter.unusedSimpArgs false
theorem RepF.belowHi {w w' : World} {lo hi B : Nat} {ad : Option Addr} {n cap : Nat} {xs : List Nat} (h : RepF w lo hi ad n cap xs) (hb : Below B w w') (hB : hi ≤ B) : RepF w' lo hi ad n cap xs :=
  h.touch (lo2 := B) (hi2 := w.heap.size) ⟨hb.os, hb.tape, hb.output, hb.size, fun k hk hd => hb.block k (by omega)⟩ (.inl hB)
theorem Touch.setCell {w : World} {lo hi g k : Nat} {v : Value} (h1 : lo ≤ g) (h2 : g < hi) : Touch lo hi w (w.setCell ⟨g, k, none⟩ v) :=
  ⟨rfl, rfl, rfl, by simp [World.setCell], fun j hj hd => Below.heap_setCell _ _ _ _ (by intro e; simp at e; omega)⟩
theorem own_set {w : World} {base g k n : Nat} {v u : Value} {cs : List Value} (h : w.ownsRow base 24 1 v n cs) (hg : g < base) : (w.setCell ⟨g, k, none⟩ u).ownsRow base 24 1 v n cs :=
  ((Row.mk' h).touch (Touch.setCell (lo := 0) (hi := base) (Nat.zero_le _) hg) (.inr (Nat.le_refl _))).own
theorem RepF.lt_hi {w : World} {lo hi g n cap : Nat} {xs : List Nat} (h : RepF w lo hi (some ⟨g, 0, none⟩) n cap xs) : g < hi := h.row.top g rfl
theorem mem_getD {xs : List Nat} {k : Nat} (h : k < xs.length) : xs.getD k 0 ∈ xs := by
  rw [List.getD_eq_getElem?_getD, List.getElem?_eq_getElem h]; exact List.getElem_mem h
def abG (D : Nat → Nat) (n i : Nat) : Nat := match FloatKind.f32.format.order (D i) 0 with
  | some .gt => fop .quo .f32 1065353216 (floatOfInt .f32 n)
  | some .lt => fop .quo .f32 3212836864 (floatOfInt .f32 n)
  | some .eq => 0
  | none => nanOf .f32
def abA (D : Nat → Nat) (i : Nat) : Nat := absW (D i)
def abL (D : Nat → Nat) (n : Nat) : Nat := fop .quo .f32 (sumS (listOf n (abA D)) n) (floatOfInt .f32 n)
theorem cn_one : cn .f32 1065353216 = 1065353216 := by decide +kernel
theorem cn_minus : cn .f32 3212836864 = 3212836864 := by decide +kernel
theorem order_at {x d : Nat} (h : cn .f32 x = d) : FloatKind.f32.format.order d 0 = FloatKind.f32.format.order x 0 := by
  rw [← h, show (0 : Nat) = cn .f32 0 from cn_zero.symm, order_cn, cn_zero]
theorem isN_none {x : Nat} (h : FloatKind.f32.format.order x 0 = none) : isN .f32 x = true := by
  cases hx : isN .f32 x
  · exfalso
    have h0 : isN .f32 0 = false := by decide +kernel
    unfold isN at hx h0
    have h1 : (FloatKind.f32.format.read x).order (FloatKind.f32.format.read 0) = none := h
    cases e1 : FloatKind.f32.format.read x with
    | nan s t => rw [e1] at hx; cases hx
    | infinity s => rw [e1] at h1; cases e2 : FloatKind.f32.format.read 0 with
      | nan s t => rw [e2] at h0; cases h0
      | infinity t => rw [e2] at h1; cases h1
      | number t m p => rw [e2] at h1; cases h1
    | number s m p => rw [e1] at h1; cases e2 : FloatKind.f32.format.read 0 with
      | nan s t => rw [e2] at h0; cases h0
      | infinity t => rw [e2] at h1; cases h1
      | number t m p => rw [e2] at h1; cases h1
  · rfl
set_option maxRecDepth 100000 in
set_option maxHeartbeats 4000000 in
theorem impl_LossAbsolute_yes (w : World) (a1 : Option Addr) (c1 : Nat) (xs : List Nat) (h1 : F32s w a1 c1 xs) (a2 : Option Addr) (c2 : Nat) (zs : List Nat) (h2 : F32s w a2 c2 zs) (hb : both xs.length zs.length = true) :
    Calls Try.prog 26 #[.slice a1 xs.length c1, .slice a2 zs.length c2] w fun e w' => ∃ (r : Nat) (ad : Option Addr) (n cap : Nat) (ys : List Nat), e = .returned (.tuple #[.float .f32 r, .slice ad n cap, .bool true]) ∧
      cn .f32 r = abL (subE (xs.map (cn .f32)) (zs.map (cn .f32))) xs.length ∧ RepF w' w.heap.size w'.heap.size ad n cap ys ∧ ys.map (cn .f32) = listOf xs.length (abG (subE (xs.map (cn .f32)) (zs.map (cn .f32))) xs.length) ∧ n ≤ 1048576 ∧ Below w.heap.size w w' := by
  obtain ⟨i0, hi, hz0, hz1, hz2⟩ := info_parts info_f32
  have c1 := fun W k1 k2 => impl_differences W a1 c1 xs k1 a2 c2 zs k2 hb
  obtain ⟨D, hD⟩ : ∃ D, D = subE (xs.map (cn .f32)) (zs.map (cn .f32)) := ⟨_, rfl⟩
  simp only [← hD] at c1 ⊢
  clear hD
  simp only [both, Bool.and_eq_true, decide_eq_true_eq] at hb
  obtain ⟨⟨hn1, hn⟩, hl⟩ := hb
  obtain ⟨n, e1⟩ : ∃ n, n = xs.length := ⟨_, rfl⟩
  have e2 : n = zs.length := e1.trans hl
  simp only [← e1] at c1 hn hn1 ⊢
  simp only [← e2] at c1 ⊢
  have C1 := Lib.hid c1; clear c1 e1 e2 hl
  go_enter Try.func26, Try.ntmps26
  go_wp2_with fail
  refine (C1.out _ h1 h2).mono ?_
  rintro e w1 ⟨v1, ds, rfl, hown1, hD, hDl, hb1⟩
  obtain ⟨ad, cap, rfl, hr⟩ := RepF.of_owns hown1 hDl.out
  have HD := hD.out
  have hdl := len_of HD
  have hra := hr.arg
  clear hD hown1 C1 h1 h2
  have hs1 := hb1.size
  go_wp2
  go_loopw [10, 11, 26] (fun t v i wr => ∃ k : Nat, i = .int .i64 k ∧ k ≤ n ∧ ∃ s : Nat, t = .float .f32 s ∧ s < 4294967296 ∧ cn .f32 s = sumS (listOf n (abA D)) k ∧ ∃ ys : List Nat, wr.ownsRow w1.heap.size 24 1 v k (ys.map (Value.float .f32)) ∧ ys.length = k ∧ ys.map (cn .f32) = listOf k (abG D n) ∧ (∀ y ∈ ys, y < 4294967296) ∧ Below w1.heap.size w1 wr ∧ w1.heap.size ≤ wr.heap.size) (fun _ _ i _ => n - (intOf i).toNat)
  case atStart => exact ⟨0, rfl, Nat.zero_le _, 0, rfl, by decide, cn_zero, [], World.ownsRow_made _ _ _ (Nat.le_refl _) (Nat.zero_le _) rfl, rfl, rfl, (fun y hy => nomatch hy), below1 _ _, by simp⟩
  case round =>
    obtain ⟨k, rfl, hk, s, rfl, hsl, hs, ys, hown, hyl, hye, hylt, hb, hbs⟩ := hrel
    have HL := Lib.hid hyl; have HE := Lib.hid hye; have HLT := Lib.hid hylt; have HS := Lib.hid hs; clear hyl hye hylt hs
    have h1 := hra.below hb
    by_cases hlt : k < n
    · have hk1 : k < ds.length := by rw [hdl]; exact hlt
      have hx1 : ds.getD k 0 < 4294967296 := hDl.out _ (mem_getD hk1)
      obtain ⟨bx1, offx1, rfl, _, hqx1⟩ := F32s.spot h1 (k := k) hk1
      have hcx := hqx1 k hk1
      obtain ⟨x1, px1⟩ : ∃ x, x = ds.getD k 0 := ⟨_, rfl⟩
      rw [← px1] at hcx
      have Px1 := Lib.hid px1; clear px1 hqx1
      rw [← Px1.out] at hx1
      clear h1
      rcases ho : FloatKind.f32.format.order x1 0 with _ | c
      · have ho : FloatKind.f32.format.order x1 0 = none := ho
        have o1 : FloatKind.f32.format.order x1 0 = none := ho
        go_wp2_with fail
        refine (impl_size _ hx1 _).mono ?_
        rintro e w2 ⟨r, rfl, hr, q, rfl⟩
        go_wp2_with fail
        refine (impl_noNumber _).mono ?_
        rintro e w3 ⟨y, rfl, hy, q2, rfl⟩
        go_wp2_with (at_builtin; refine wp_app rfl _ _ 29 rfl w1.heap.size i0 (.float .f32 0) 1 4 Try.underlying29 hi hz0 hz1 hz2 rfl (by decide) rfl (one_cell _ rfl) _ _ _ rfl hown rfl ?c3 ?c4 ?c5 ?_)
        case c3 => unfold maxLen; omega
        case c4 => omega
        case c5 => exact hbs
        intro v' w9 hown1 hb1 hbs1
        have hb1 : Below w1.heap.size w1 w9 := (below_drewN hb _).trans hb1
        clear hown hb hbs
        have hyc : cn .f32 y = abG D n k := by rw [hy.out.1]; unfold abG; rw [order_at (Px1.out ▸ cn_at HD hlt), o1]
        have hyl : y < 4294967296 := hy.out.2
        have HY := Lib.hid hyc; clear hyc hy
        go_wp2
        go_roundw
        case rel =>
          refine ⟨k + 1, by go_num, hlt, _, rfl, fbits_lt _ .f32 _ _ _, ?_, ys ++ [y], by simpa using hown1, by simp [HL.out], ?_, ?_, hb1, hbs1⟩
          · rw [cn_fbits, HS.out, hr.out.1, Px1.out, cn_at HD hlt]
            show _ = fop .add .f32 _ ((listOf n (abA D)).getD k 0)
            rw [listOf_getD _ hlt]; rfl
          · rw [List.map_append, List.map_cons, List.map_nil, HE.out, HY.out, listOf_succ]
          · intro z hz
            rcases List.mem_append.1 hz with hz | hz
            · exact HLT.out z hz
            · simp at hz; rw [hz]; exact hyl
        case measure => simp [intOf]; omega
      cases c
      · have ho : FloatKind.f32.format.order x1 0 = some .lt := ho
        have o1 : FloatKind.f32.format.order x1 0 = some .lt := ho
        go_wp2_with fail
        refine (impl_size _ hx1 _).mono ?_
        rintro e w2 ⟨r, rfl, hr, q, rfl⟩
        go_wp2_with (at_builtin; refine wp_app rfl _ _ 29 rfl w1.heap.size i0 (.float .f32 0) 1 4 Try.underlying29 hi hz0 hz1 hz2 rfl (by decide) rfl (one_cell _ rfl) _ _ _ rfl hown rfl ?c3 ?c4 ?c5 ?_)
        case c3 => unfold maxLen; omega
        case c4 => omega
        case c5 => exact hbs
        intro v' w9 hown1 hb1 hbs1
        have hb1 : Below w1.heap.size w1 w9 := (below_drewN hb _).trans hb1
        clear hown hb hbs
        generalize hy : fbits BinOp.quo FloatKind.f32 3212836864 _ _ = y at hown1
        have hyc : cn .f32 y = abG D n k := by rw [← hy, cn_fbits, cn_minus, cn_floatOfInt]; unfold abG; rw [order_at (Px1.out ▸ cn_at HD hlt), o1]
        have hyl : y < 4294967296 := by rw [← hy]; exact fbits_lt _ .f32 _ _ _
        have HY := Lib.hid hyc; clear hyc hy
        go_wp2
        go_roundw
        case rel =>
          refine ⟨k + 1, by go_num, hlt, _, rfl, fbits_lt _ .f32 _ _ _, ?_, ys ++ [y], by simpa using hown1, by simp [HL.out], ?_, ?_, hb1, hbs1⟩
          · rw [cn_fbits, HS.out, hr.out.1, Px1.out, cn_at HD hlt]
            show _ = fop .add .f32 _ ((listOf n (abA D)).getD k 0)
            rw [listOf_getD _ hlt]; rfl
          · rw [List.map_append, List.map_cons, List.map_nil, HE.out, HY.out, listOf_succ]
          · intro z hz
            rcases List.mem_append.1 hz with hz | hz
            · exact HLT.out z hz
            · simp at hz; rw [hz]; exact hyl
        case measure => simp [intOf]; omega
      · have ho : FloatKind.f32.format.order x1 0 = some .eq := ho
        have o1 : FloatKind.f32.format.order x1 0 = some .eq := ho
        go_wp2_with fail
        refine (impl_size _ hx1 _).mono ?_
        rintro e w2 ⟨r, rfl, hr, q, rfl⟩
        go_wp2_with (at_builtin; refine wp_app rfl _ _ 29 rfl w1.heap.size i0 (.float .f32 0) 1 4 Try.underlying29 hi hz0 hz1 hz2 rfl (by decide) rfl (one_cell _ rfl) _ _ _ rfl hown rfl ?c3 ?c4 ?c5 ?_)
        case c3 => unfold maxLen; omega
        case c4 => omega
        case c5 => exact hbs
        intro v' w9 hown1 hb1 hbs1
        have hb1 : Below w1.heap.size w1 w9 := (below_drewN hb _).trans hb1
        clear hown hb hbs
        obtain ⟨y, hy⟩ : ∃ y, y = 0 := ⟨_, rfl⟩
        rw [← hy] at hown1
        have hyc : cn .f32 y = abG D n k := by rw [hy, cn_zero]; unfold abG; rw [order_at (Px1.out ▸ cn_at HD hlt), o1]
        have hyl : y < 4294967296 := by omega
        have HY := Lib.hid hyc; clear hyc hy
        go_wp2
        go_roundw
        case rel =>
          refine ⟨k + 1, by go_num, hlt, _, rfl, fbits_lt _ .f32 _ _ _, ?_, ys ++ [y], by simpa using hown1, by simp [HL.out], ?_, ?_, hb1, hbs1⟩
          · rw [cn_fbits, HS.out, hr.out.1, Px1.out, cn_at HD hlt]
            show _ = fop .add .f32 _ ((listOf n (abA D)).getD k 0)
            rw [listOf_getD _ hlt]; rfl
          · rw [List.map_append, List.map_cons, List.map_nil, HE.out, HY.out, listOf_succ]
          · intro z hz
            rcases List.mem_append.1 hz with hz | hz
            · exact HLT.out z hz
            · simp at hz; rw [hz]; exact hyl
        case measure => simp [intOf]; omega
      · have ho : FloatKind.f32.format.order x1 0 = some .gt := ho
        have o1 : FloatKind.f32.format.order x1 0 = some .gt := ho
        go_wp2_with fail
        refine (impl_size _ hx1 _).mono ?_
        rintro e w2 ⟨r, rfl, hr, q, rfl⟩
        go_wp2_with (at_builtin; refine wp_app rfl _ _ 29 rfl w1.heap.size i0 (.float .f32 0) 1 4 Try.underlying29 hi hz0 hz1 hz2 rfl (by decide) rfl (one_cell _ rfl) _ _ _ rfl hown rfl ?c3 ?c4 ?c5 ?_)
        case c3 => unfold maxLen; omega
        case c4 => omega
        case c5 => exact hbs
        intro v' w9 hown1 hb1 hbs1
        have hb1 : Below w1.heap.size w1 w9 := (below_drewN hb _).trans hb1
        clear hown hb hbs
        generalize hy : fbits BinOp.quo FloatKind.f32 1065353216 _ _ = y at hown1
        have hyc : cn .f32 y = abG D n k := by rw [← hy, cn_fbits, cn_one, cn_floatOfInt]; unfold abG; rw [order_at (Px1.out ▸ cn_at HD hlt), o1]
        have hyl : y < 4294967296 := by rw [← hy]; exact fbits_lt _ .f32 _ _ _
        have HY := Lib.hid hyc; clear hyc hy
        go_wp2
        go_roundw
        case rel =>
          refine ⟨k + 1, by go_num, hlt, _, rfl, fbits_lt _ .f32 _ _ _, ?_, ys ++ [y], by simpa using hown1, by simp [HL.out], ?_, ?_, hb1, hbs1⟩
          · rw [cn_fbits, HS.out, hr.out.1, Px1.out, cn_at HD hlt]
            show _ = fop .add .f32 _ ((listOf n (abA D)).getD k 0)
            rw [listOf_getD _ hlt]; rfl
          · rw [List.map_append, List.map_cons, List.map_nil, HE.out, HY.out, listOf_succ]
          · intro z hz
            rcases List.mem_append.1 hz with hz | hz
            · exact HLT.out z hz
            · simp at hz; rw [hz]; exact hyl
        case measure => simp [intOf]; omega
    · have hkn : k = n := by omega
      subst hkn
      go_wp2
      go_ret3
      obtain ⟨ad', cap', rfl, hro⟩ := RepF.of_owns hown HLT.out
      exact ⟨_, ad', _, cap', ys, rfl, by rw [cn_fbits, cn_floatOfInt, HS.out]; rfl, ((hro.below (below_drewN (Below.refl _ _) _)).bounds hs1 (Nat.le_refl _)), HE.out, by omega, (hb1.trans (hb.mono hs1)).trans (below_drewN (Below.refl _ _) _)⟩
theorem impl_LossAbsolute (w : World) (a1 : Option Addr) (c1 : Nat) (xs : List Nat) (h1 : F32s w a1 c1 xs) (a2 : Option Addr) (c2 : Nat) (zs : List Nat) (h2 : F32s w a2 c2 zs) :
    Calls Try.prog 26 #[.slice a1 xs.length c1, .slice a2 zs.length c2] w fun e w' => ∃ (r : Nat) (ad : Option Addr) (n cap : Nat) (ys : List Nat) (b : Bool), e = .returned (.tuple #[.float .f32 r, .slice ad n cap, .bool b]) ∧
      cn .f32 r = (if both xs.length zs.length = true then abL (subE (xs.map (cn .f32)) (zs.map (cn .f32))) xs.length else 0) ∧ RepF w' w.heap.size w'.heap.size ad n cap ys ∧ ys.map (cn .f32) = (if both xs.length zs.length = true then listOf xs.length (abG (subE (xs.map (cn .f32)) (zs.map (cn .f32))) xs.length) else []) ∧ n ≤ 1048576 ∧ b = both xs.length zs.length ∧ Below w.heap.size w w' := by
  cases hb : both xs.length zs.length
  · have m1 := Nat.le_trans h1.len h1.cap
    have m2 := Nat.le_trans h2.len h2.cap
    unfold maxLen at m1 m2
    have c := fun W => impl_differences_no W a1 c1 xs.length zs.length a2 c2 (by omega) (by omega) hb
    skip
    have C := Lib.hid c; clear c
    simp only [Bool.false_eq_true, if_false]
    have F : Calls Try.prog 26 #[.slice a1 xs.length c1, .slice a2 zs.length c2] w fun e w' => e = .returned (.tuple #[.float .f32 0, .slice none 0 0, .bool false]) ∧ w = w' := by
      clear hb
      go_enter Try.func26, Try.ntmps26
      go_wp2_with fail
      refine (C.out _).mono ?_
      rintro e w1 ⟨rfl, rfl⟩
      go_wp2
      go_ret3
      exact ⟨rfl, rfl⟩
    refine F.mono fun e w' ⟨he, hw⟩ => ?_
    subst hw
    exact ⟨0, none, 0, 0, [], false, he, cn_zero, RepF.nil _ _ _, rfl, by omega, rfl, Below.refl _ _⟩
  · simp only [if_true]
    exact (impl_LossAbsolute_yes w a1 c1 xs h1 a2 c2 zs h2  hb).mono fun e w' ⟨r, ad, n, cap, ys, he, hx⟩ => ⟨r, ad, n, cap, ys, true, he, hx.1, hx.2.1, hx.2.2.1, hx.2.2.2.1, rfl, hx.2.2.2.2⟩
end Go.Proofs.Ytnhikdjljjemlaa
/- What a loss that is bent and its gradients are. No condition. -/
namespace Go.Proofs.Ytnhikdjljjemlaa
open Go Go.RowKit
set_option linter.unusedVariables false
set_option linter.unusedSimpArgs false
def leF (a c : Nat) : Bool := FloatKind.f32.format.order a c == some .lt || FloatKind.f32.format.order a c == some .eq
def gtZ (a : Nat) : Bool := FloatKind.f32.format.order a 0 == some .gt
theorem leF_at {r a c : Nat} (h : cn .f32 r = a) : leF r c = leF a c := by
  unfold leF
  rw [← order_cn .f32 r c, ← order_cn .f32 a c, h, ← h, cn_cn]
theorem gtZ_at {r a : Nat} (h : cn .f32 r = a) : gtZ r = gtZ a := by
  unfold gtZ
  rw [← order_cn .f32 r 0, ← order_cn .f32 a 0, h, ← h, cn_cn]
def huG (c : Nat) (D : Nat → Nat) (n i : Nat) : Nat := if leF (absW (D i)) c = true then fop .quo .f32 (D i) (floatOfInt .f32 n) else if gtZ (D i) = true then fop .quo .f32 (cn .f32 c) (floatOfInt .f32 n) else fop .quo .f32 (cn .f32 (Op.negFloat .f32 c)) (floatOfInt .f32 n)
def huA (c : Nat) (D : Nat → Nat) (i : Nat) : Nat := if leF (absW (D i)) c = true then fop .quo .f32 (fop .mul .f32 (D i) (D i)) 1073741824 else fop .mul .f32 (cn .f32 c) (fop .sub .f32 (absW (D i)) (fop .quo .f32 (cn .f32 c) 1073741824))
def huL (c : Nat) (D : Nat → Nat) (n : Nat) : Nat := fop .quo .f32 (sumS (listOf n (huA c D)) n) (floatOfInt .f32 n)
set_option maxRecDepth 100000 in
set_option maxHeartbeats 4000000 in
theorem impl_LossHuber_yes (w : World) (a1 : Option Addr) (c1 : Nat) (xs : List Nat) (h1 : F32s w a1 c1 xs) (a2 : Option Addr) (c2 : Nat) (zs : List Nat) (h2 : F32s w a2 c2 zs) (c : Nat) (hb : both xs.length zs.length = true) :
    Calls Try.prog 27 #[.slice a1 xs.length c1, .slice a2 zs.length c2, .float .f32 c] w fun e w' => ∃ (r : Nat) (ad : Option Addr) (n cap : Nat) (ys : List Nat), e = .returned (.tuple #[.float .f32 r, .slice ad n cap, .bool true]) ∧
      cn .f32 r = huL c (subE (xs.map (cn .f32)) (zs.map (cn .f32))) xs.length ∧ RepF w' w.heap.size w'.heap.size ad n cap ys ∧ ys.map (cn .f32) = listOf xs.length (huG c (subE (xs.map (cn .f32)) (zs.map (cn .f32))) xs.length) ∧ n ≤ 1048576 ∧ Below w.heap.size w w' := by
  obtain ⟨i0, hi, hz0, hz1, hz2⟩ := info_parts info_f32
  have c1 := fun W k1 k2 => impl_differences W a1 c1 xs k1 a2 c2 zs k2 hb
  obtain ⟨D, hD⟩ : ∃ D, D = subE (xs.map (cn .f32)) (zs.map (cn .f32)) := ⟨_, rfl⟩
  simp only [← hD] at c1 ⊢
  clear hD
  simp only [both, Bool.and_eq_true, decide_eq_true_eq] at hb
  obtain ⟨⟨hn1, hn⟩, hl⟩ := hb
  obtain ⟨n, e1⟩ : ∃ n, n = xs.length := ⟨_, rfl⟩
  have e2 : n = zs.length := e1.trans hl
  simp only [← e1] at c1 hn hn1 ⊢
  simp only [← e2] at c1 ⊢
  have C1 := Lib.hid c1; clear c1 e1 e2 hl
  go_enter Try.func27, Try.ntmps27
  go_wp2_with fail
  refine (C1.out _ h1 h2).mono ?_
  rintro e w1 ⟨v1, ds, rfl, hown1, hD, hDl, hb1⟩
  obtain ⟨ad, cap, rfl, hr⟩ := RepF.of_owns hown1 hDl.out
  have HD := hD.out
  have hdl := len_of HD
  have hra := hr.arg
  clear hD hown1 C1 h1 h2
  have hs1 := hb1.size
  go_wp2
  go_loopw [12, 13, 28] (fun t v i wr => ∃ k : Nat, i = .int .i64 k ∧ k ≤ n ∧ ∃ s : Nat, t = .float .f32 s ∧ s < 4294967296 ∧ cn .f32 s = sumS (listOf n (huA c D)) k ∧ ∃ ys : List Nat, wr.ownsRow w1.heap.size 24 1 v k (ys.map (Value.float .f32)) ∧ ys.length = k ∧ ys.map (cn .f32) = listOf k (huG c D n) ∧ (∀ y ∈ ys, y < 4294967296) ∧ Below w1.heap.size w1 wr ∧ w1.heap.size ≤ wr.heap.size) (fun _ _ i _ => n - (intOf i).toNat)
  case atStart => exact ⟨0, rfl, Nat.zero_le _, 0, rfl, by decide, cn_zero, [], World.ownsRow_made _ _ _ (Nat.le_refl _) (Nat.zero_le _) rfl, rfl, rfl, (fun y hy => nomatch hy), below1 _ _, by simp⟩
  case round =>
    obtain ⟨k, rfl, hk, s, rfl, hsl, hs, ys, hown, hyl, hye, hylt, hb, hbs⟩ := hrel
    have HL := Lib.hid hyl; have HE := Lib.hid hye; have HLT := Lib.hid hylt; have HS := Lib.hid hs; clear hyl hye hylt hs
    have h1 := hra.below hb
    by_cases hlt : k < n
    · have hk1 : k < ds.length := by rw [hdl]; exact hlt
      have hx1 : ds.getD k 0 < 4294967296 := hDl.out _ (mem_getD hk1)
      obtain ⟨bx1, offx1, rfl, _, hqx1⟩ := F32s.spot h1 (k := k) hk1
      have hcx := hqx1 k hk1
      obtain ⟨x1, px1⟩ : ∃ x, x = ds.getD k 0 := ⟨_, rfl⟩
      rw [← px1] at hcx
      have Px1 := Lib.hid px1; clear px1 hqx1
      rw [← Px1.out] at hx1
      have hD1 : cn .f32 x1 = D k := by rw [Px1.out, cn_at HD hlt]
      clear h1
      cases hle : leF (absW (D k)) c
      · cases hgt : gtZ (D k)
        · go_wp2_with fail
          refine (impl_size _ hx1 _).mono ?_
          rintro e w2 ⟨r, rfl, hr, q, rfl⟩
          have hra := hr.out.1
          rw [hD1] at hra
          have o1 := (leF_at hra).trans hle
          unfold leF at o1
          simp only [Bool.or_eq_false_iff] at o1
          obtain ⟨o1, o2⟩ := o1
          have o3 : (FloatKind.f32.format.order x1 0 == some .gt) = false := (gtZ_at hD1).trans hgt
          go_wp2_with fail
          refine (impl_size _ hx1 _).mono ?_
          rintro e w3 ⟨r2, rfl, hr2, q2, rfl⟩
          have hra2 := hr2.out.1
          rw [hD1] at hra2
          have HRA := Lib.hid hra; clear hra
          go_wp2_with (at_builtin; refine wp_app rfl _ _ 29 rfl w1.heap.size i0 (.float .f32 0) 1 4 Try.underlying29 hi hz0 hz1 hz2 rfl (by decide) rfl (one_cell _ rfl) _ _ _ rfl hown rfl ?c3 ?c4 ?c5 ?_)
          case c3 => unfold maxLen; omega
          case c4 => omega
          case c5 => exact hbs
          intro v' w9 hown1 hb1 hbs1
          have hb1 : Below w1.heap.size w1 w9 := (below_drewN hb _).trans hb1
          clear hown hb hbs
          generalize hy : fbits BinOp.quo FloatKind.f32 (Op.negFloat FloatKind.f32 c) _ _ = y at hown1
          have hyc : cn .f32 y = huG c D n k := by rw [← hy]; rw [cn_fbits, cn_floatOfInt]; unfold huG; rw [if_neg (by rw [hle]; decide), if_neg (by rw [hgt]; decide)]
          have hyl : y < 4294967296 := by rw [← hy]; exact fbits_lt _ .f32 _ _ _
          have HY := Lib.hid hyc; clear hyc hy
          go_wp2
          go_roundw
          case rel =>
            refine ⟨k + 1, by go_num, hlt, _, rfl, fbits_lt _ .f32 _ _ _, ?_, ys ++ [y], by simpa using hown1, by simp [HL.out], ?_, ?_, hb1, hbs1⟩
            · rw [cn_fbits, HS.out]
              show _ = fop .add .f32 _ ((listOf n (huA c D)).getD k 0)
              rw [listOf_getD _ hlt]
              unfold huA; rw [if_neg (by rw [hle]; decide)]
              rw [cn_fbits, cn_fbits, cn_fbits, hra2, cn_two]
            · rw [List.map_append, List.map_cons, List.map_nil, HE.out, HY.out, listOf_succ]
            · intro z hz
              rcases List.mem_append.1 hz with hz | hz
              · exact HLT.out z hz
              · simp at hz; rw [hz]; exact hyl
          case measure => simp [intOf]; omega
        · go_wp2_with fail
          refine (impl_size _ hx1 _).mono ?_
          rintro e w2 ⟨r, rfl, hr, q, rfl⟩
          have hra := hr.out.1
          rw [hD1] at hra
          have o1 := (leF_at hra).trans hle
          unfold leF at o1
          simp only [Bool.or_eq_false_iff] at o1
          obtain ⟨o1, o2⟩ := o1
          have o3 : (FloatKind.f32.format.order x1 0 == some .gt) = true := (gtZ_at hD1).trans hgt
          go_wp2_with fail
          refine (impl_size _ hx1 _).mono ?_
          rintro e w3 ⟨r2, rfl, hr2, q2, rfl⟩
          have hra2 := hr2.out.1
          rw [hD1] at hra2
          have HRA := Lib.hid hra; clear hra
          go_wp2_with (at_builtin; refine wp_app rfl _ _ 29 rfl w1.heap.size i0 (.float .f32 0) 1 4 Try.underlying29 hi hz0 hz1 hz2 rfl (by decide) rfl (one_cell _ rfl) _ _ _ rfl hown rfl ?c3 ?c4 ?c5 ?_)
          case c3 => unfold maxLen; omega
          case c4 => omega
          case c5 => exact hbs
          intro v' w9 hown1 hb1 hbs1
          have hb1 : Below w1.heap.size w1 w9 := (below_drewN hb _).trans hb1
          clear hown hb hbs
          generalize hy : fbits BinOp.quo FloatKind.f32 c _ _ = y at hown1
          have hyc : cn .f32 y = huG c D n k := by rw [← hy]; rw [cn_fbits, cn_floatOfInt]; unfold huG; rw [if_neg (by rw [hle]; decide), if_pos hgt]
          have hyl : y < 4294967296 := by rw [← hy]; exact fbits_lt _ .f32 _ _ _
          have HY := Lib.hid hyc; clear hyc hy
          go_wp2
          go_roundw
          case rel =>
            refine ⟨k + 1, by go_num, hlt, _, rfl, fbits_lt _ .f32 _ _ _, ?_, ys ++ [y], by simpa using hown1, by simp [HL.out], ?_, ?_, hb1, hbs1⟩
            · rw [cn_fbits, HS.out]
              show _ = fop .add .f32 _ ((listOf n (huA c D)).getD k 0)
              rw [listOf_getD _ hlt]
              unfold huA; rw [if_neg (by rw [hle]; decide)]
              rw [cn_fbits, cn_fbits, cn_fbits, hra2, cn_two]
            · rw [List.map_append, List.map_cons, List.map_nil, HE.out, HY.out, listOf_succ]
            · intro z hz
              rcases List.mem_append.1 hz with hz | hz
              · exact HLT.out z hz
              · simp at hz; rw [hz]; exact hyl
          case measure => simp [intOf]; omega
      · go_wp2_with fail
        refine (impl_size _ hx1 _).mono ?_
        rintro e w2 ⟨r, rfl, hr, q, rfl⟩
        have hra := hr.out.1
        rw [hD1] at hra
        have o1 := (leF_at hra).trans hle
        unfold leF at o1
        have HRA := Lib.hid hra; clear hra
        go_wp2_with (at_builtin; refine wp_app rfl _ _ 29 rfl w1.heap.size i0 (.float .f32 0) 1 4 Try.underlying29 hi hz0 hz1 hz2 rfl (by decide) rfl (one_cell _ rfl) _ _ _ rfl hown rfl ?c3 ?c4 ?c5 ?_)
        case c3 => unfold maxLen; omega
        case c4 => omega
        case c5 => exact hbs
        intro v' w9 hown1 hb1 hbs1
        have hb1 : Below w1.heap.size w1 w9 := (below_drewN hb _).trans hb1
        clear hown hb hbs
        generalize hy : fbits BinOp.quo FloatKind.f32 x1 _ _ = y at hown1
        have hyc : cn .f32 y = huG c D n k := by rw [← hy]; rw [cn_fbits, hD1, cn_floatOfInt]; unfold huG; rw [if_pos hle]
        have hyl : y < 4294967296 := by rw [← hy]; exact fbits_lt _ .f32 _ _ _
        have HY := Lib.hid hyc; clear hyc hy
        go_wp2
        go_roundw
        case rel =>
          refine ⟨k + 1, by go_num, hlt, _, rfl, fbits_lt _ .f32 _ _ _, ?_, ys ++ [y], by simpa using hown1, by simp [HL.out], ?_, ?_, hb1, hbs1⟩
          · rw [cn_fbits, HS.out]
            show _ = fop .add .f32 _ ((listOf n (huA c D)).getD k 0)
            rw [listOf_getD _ hlt]
            unfold huA; rw [if_pos hle]
            rw [cn_fbits, cn_fbits, hD1, cn_two]
          · rw [List.map_append, List.map_cons, List.map_nil, HE.out, HY.out, listOf_succ]
          · intro z hz
            rcases List.mem_append.1 hz with hz | hz
            · exact HLT.out z hz
            · simp at hz; rw [hz]; exact hyl
        case measure => simp [intOf]; omega
    · have hkn : k = n := by omega
      subst hkn
      go_wp2
      go_ret3
      obtain ⟨ad', cap', rfl, hro⟩ := RepF.of_owns hown HLT.out
      exact ⟨_, ad', _, cap', ys, rfl, by rw [cn_fbits, cn_floatOfInt, HS.out]; rfl, ((hro.below (below_drewN (Below.refl _ _) _)).bounds hs1 (Nat.le_refl _)), HE.out, by omega, (hb1.trans (hb.mono hs1)).trans (below_drewN (Below.refl _ _) _)⟩
theorem impl_LossHuber (w : World) (a1 : Option Addr) (c1 : Nat) (xs : List Nat) (h1 : F32s w a1 c1 xs) (a2 : Option Addr) (c2 : Nat) (zs : List Nat) (h2 : F32s w a2 c2 zs) (c : Nat) :
    Calls Try.prog 27 #[.slice a1 xs.length c1, .slice a2 zs.length c2, .float .f32 c] w fun e w' => ∃ (r : Nat) (ad : Option Addr) (n cap : Nat) (ys : List Nat) (b : Bool), e = .returned (.tuple #[.float .f32 r, .slice ad n cap, .bool b]) ∧
      cn .f32 r = (if both xs.length zs.length = true then huL c (subE (xs.map (cn .f32)) (zs.map (cn .f32))) xs.length else 0) ∧ RepF w' w.heap.size w'.heap.size ad n cap ys ∧ ys.map (cn .f32) = (if both xs.length zs.length = true then listOf xs.length (huG c (subE (xs.map (cn .f32)) (zs.map (cn .f32))) xs.length) else []) ∧ n ≤ 1048576 ∧ b = both xs.length zs.length ∧ Below w.heap.size w w' := by
  cases hb : both xs.length zs.length
  · have m1 := Nat.le_trans h1.len h1.cap
    have m2 := Nat.le_trans h2.len h2.cap
    unfold maxLen at m1 m2
    have c := fun W => impl_differences_no W a1 c1 xs.length zs.length a2 c2 (by omega) (by omega) hb
    skip
    have C := Lib.hid c; clear c
    simp only [Bool.false_eq_true, if_false]
    have F : Calls Try.prog 27 #[.slice a1 xs.length c1, .slice a2 zs.length c2, .float .f32 c] w fun e w' => e = .returned (.tuple #[.float .f32 0, .slice none 0 0, .bool false]) ∧ w = w' := by
      clear hb
      go_enter Try.func27, Try.ntmps27
      go_wp2_with fail
      refine (C.out _).mono ?_
      rintro e w1 ⟨rfl, rfl⟩
      go_wp2
      go_ret3
      exact ⟨rfl, rfl⟩
    refine F.mono fun e w' ⟨he, hw⟩ => ?_
    subst hw
    exact ⟨0, none, 0, 0, [], false, he, cn_zero, RepF.nil _ _ _, rfl, by omega, rfl, Below.refl _ _⟩
  · simp only [if_true]
    exact (impl_LossHuber_yes w a1 c1 xs h1 a2 c2 zs h2 c hb).mono fun e w' ⟨r, ad, n, cap, ys, he, hx⟩ => ⟨r, ad, n, cap, ys, true, he, hx.1, hx.2.1, hx.2.2.1, hx.2.2.2.1, rfl, hx.2.2.2.2⟩
end Go.Proofs.Ytnhikdjljjemlaa
/- What square roots, copies of lists and gradients that are not too long are. No condition. -/
namespace Go.Proofs.Ytnhikdjljjemlaa
open Go Go.RowKit Ieee
set_option linter.unusedVariables false
set_option linter.unusedSimpArgs false
theorem RepF.nilcap {w : World} {lo hi : Nat} {ad : Option Addr} {n cap : Nat} {xs : List Nat} (h : RepF w lo hi ad n cap xs) : ad = none → cap = 0 := by
  intro e
  subst e
  rcases h.row.own.2 with ⟨h1, _⟩ | ⟨g, cap', cur, h1, _⟩
  · cases h1; rfl
  · cases h1
/-- a whole list is appended to a row of the call's own -/
theorem wp_cat {P : Program} {ops : Array Oper} {rest : List Oper} {o : Oper} {a : Act} {Q : Exit → Act → World → Prop} {e : TypeId} {W : World} (hgd : o.guard = none) (s x : Operand) (t : TypeId)
    (ho : o.op = .call { callee := .builtin .append, args := #[s, x], argTypes := #[t, t] })
    (base : Nat) (i : TypeInfo) (z : Value) (bytes : Nat) (ht : P.underlying t = some (.slice e)) (hi : P.info? e = some i) (hz : i.zero = some z)
    (hsize : i.size = 1) (hby : i.bytes = bytes) (hzs : z.cells.size = 1)
    (v : Value) (n : Nat) (xs : List Value) (hs : a.eval s = v) (hown : W.ownsRow base e 1 v n xs)
    (ad : Option Addr) (m c : Nat) (news : List Value) (hx : a.eval x = .slice ad m c) (hn : ad = none → c = 0) (hl : news.length = m) (hr : Rd W ad news) (h1 : ∀ u ∈ news, u.oneCell' = true)
    (h63 : n + m ≤ maxLen) (hbytes : (n + m) * bytes ≤ 140737488355328) (hbase : base ≤ W.heap.size)
    (h : ∀ v' w', w'.ownsRow base e 1 v' (n + m) (xs ++ news) → Below base W w' → base ≤ w'.heap.size → wpList P ops Q rest (a.put o.dst v') w') : wpList P ops Q (o :: rest) a W := by
  cases ad with
  | none =>
    obtain rfl := hn rfl
    have h0 : news = [] := by
      rcases hr with hr | ⟨b, off, hb, _⟩
      · exact hr
      · cases hb
    subst h0
    obtain rfl : m = 0 := hl.symm
    exact wpList_append_own_none hgd s x t ho base e i 1 ht hi v n xs hs hown hx (h v W (by simpa using hown) (Below.refl _ _) hbase)
  | some p =>
    refine wpList_append_own W hgd s x t ho base e i z 1 bytes ht hi hz hsize hby hzs (by decide) v n xs hs hown p m c news hx (by omega) ?_ h1 h63 hbytes hbase ?_
    · intro j u hj
      rcases hr with hr | ⟨b, off, hb, _, hc⟩
      · rw [hr] at hj; cases hj
      · cases hb
        have hlt : j < news.length := (List.getElem?_eq_some_iff.1 hj).1
        rw [Addr.add_lit]; exact (hc j hlt).trans hj
    · intro v' w' h2 hg _
      refine h v' w' h2 ((Below.refl _ _).grown hg hbase (fun j hj => (hown.lt j hj).1)) (Nat.le_trans hbase hg.size)
theorem run_sqrt_ext (x : Nat) (w : World) : (callFunc 117 #[.float .f64 x]).run Try.prog w = .ok (.value (.float .f64 (sqbits x w))) (w.drewN (sqdr x)) := by
  rw [run_callFunc_extern (show Try.prog.funcs[117]? = some Try.f117 by kernel_rfl) (by kernel_rfl) (by kernel_rfl) (by kernel_rfl) (e := Extern.MathSqrt.sqrt) (by kernel_rfl), run_sqrt]
  rfl
theorem math_Sqrt (x : Nat) (w : World) : Calls Try.prog 114 #[.float .f64 x] w fun e w' => e = .returned (.float .f64 (sqbits x w)) ∧ w' = w.drewN (sqdr x) := by
  have hd := run_sqrt_ext
  go_enter Try.func114, Try.ntmps114
  go_wp2
  go_ret
  exact ⟨rfl, rfl⟩
theorem impl_RootNumber (x : Nat) (hx : x < 4294967296) (w : World) : Calls Try.prog 109 #[.float .f32 x] w fun e w' => ∃ r, e = .returned (.float .f32 r) ∧ Hid (cn .f32 r = rootE (cn .f32 x) ∧ r < 4294967296) ∧ Dr w w' := by
  have ha := fun w1 w2 w3 => cn_root hx w1 w2 w3
  have HA := Lib.hid ha; clear ha
  go_enter Try.func109, Try.ntmps109
  go_wp2_with (go_at_call 114; refine (math_Sqrt _ _).mono ?_; rintro e w' ⟨rfl, rfl⟩)
  go_ret
  exact ⟨_, rfl, Lib.hid (HA.out _ _ _), _, rfl⟩
set_option maxRecDepth 100000 in
theorem slices_Clone (w : World) (ad : Option Addr) (cap : Nat) (xs : List Nat) (h : F32s w ad cap xs) (hc : ad = none → cap = 0) (hn : xs.length ≤ 1048576) :
    Calls Try.prog 98 #[.slice ad xs.length cap] w fun e w' => ∃ (v : Value), e = .returned v ∧ w'.ownsRow w.heap.size 24 1 v xs.length (xs.map (Value.float .f32)) ∧ Below w.heap.size w w' := by
  obtain ⟨i0, hi, hz0, hz1, hz2⟩ := info_parts info_f32
  obtain ⟨n, hN⟩ : ∃ n, n = xs.length := ⟨_, rfl⟩
  have hr := h.rd
  have h1 : ∀ u ∈ xs.map (Value.float .f32), u.oneCell' = true := by intro u hu; obtain ⟨x, _, rfl⟩ := List.mem_map.1 hu; rfl
  have hl : (xs.map (Value.float .f32)).length = n := by rw [List.length_map, hN]
  rw [← hN] at hn ⊢
  have HL := Lib.hid hl; clear hN hl h
  cases ad with
  | none =>
    obtain rfl := hc rfl
    have h0 : xs = [] := by
      rcases hr with hr | ⟨b, off, hb, _⟩
      · simpa using hr
      · cases hb
    subst h0
    obtain rfl : n = 0 := HL.out.symm
    have he : ∀ w : World, (binOp .eql 29 (.slice none 0 0) (.slice none 0 0)).run Try.prog w = .ok (.bool true) w := fun _ => rfl
    go_enter Try.func98, Try.ntmps98
    go_wp2
    go_ret
    exact ⟨_, rfl, World.ownsRow_nil _ _ _ _, Below.refl _ _⟩
  | some p =>
    have he : ∀ w : World, (binOp .eql 29 (.slice (some p) n cap) (.slice none 0 0)).run Try.prog w = .ok (.bool false) w := fun _ => rfl
    go_enter Try.func98, Try.ntmps98
    go_wp2_with (at_builtin; refine wp_cat rfl _ _ 29 rfl w.heap.size i0 (.float .f32 0) 4 Try.underlying29 hi hz0 hz1 hz2 rfl _ 0 [] rfl (World.ownsRow_made _ _ _ (Nat.le_refl _) (Nat.zero_le _) rfl) (some p) n cap _ rfl (fun h => nomatch h) HL.out (hr.below (below1 _ _) (Nat.le_refl _)) h1 ?c3 ?c4 ?c5 ?_)
    case c3 => unfold maxLen; omega
    case c4 => omega
    case c5 => simp
    intro v' w9 hown1 hb1 hbs1
    go_wp2
    go_ret
    exact ⟨_, rfl, by simpa using hown1, (below1 _ _).trans hb1⟩
def gtC (a c : Nat) : Bool := FloatKind.f32.format.order a c == some .gt
theorem gtC_at {r a c : Nat} (h : cn .f32 r = a) : gtC r c = gtC a c := by
  unfold gtC
  rw [← order_cn .f32 r c, ← order_cn .f32 a c, h, ← h, cn_cn]
def clR (X : List Nat) (n : Nat) : Nat := rootE (dotS X X n)
def clG (c : Nat) (X : List Nat) (n i : Nat) : Nat := fop .mul .f32 (X.getD i 0) (fop .quo .f32 (cn .f32 c) (clR X n))
def clY (c : Nat) (X : List Nat) (n : Nat) : List Nat := if gtC (clR X n) c = true then listOf n (clG c X n) else X
theorem eq_listOf (X : List Nat) : X = listOf X.length (fun i => X.getD i 0) := by
  apply List.ext_getElem
  · simp [listOf]
  · intro i h1 h2
    simp [listOf, h1]
end Go.Proofs.Ytnhikdjljjemlaa
/- What the exponential functions of both sides compute. No condition. -/
namespace Go.Proofs.Ytnhikdjljjemlaa
open Go Go.RowKit
set_option linter.unusedVariables false
set_option linter.unusedSimpArgs false
def O64 : Nat := 4607182418800017408
def kW (j : Nat) : Nat := floatOfInt .f64 ((12 - j : Nat) : Int)
def hornE (t : Nat) : Nat → Nat
  | 0 => O64
  | j + 1 => fop .add .f64 O64 (fop .quo .f64 (fop .mul .f64 t (hornE t j)) (kW j))
def sqE (p : Nat) : Nat → Nat
  | 0 => p
  | j + 1 => fop .mul .f64 (sqE p j) (sqE p j)
/-- the exponential function in 64 bits -/
def expW (x : Nat) : Nat := sqE (hornE (fop .quo .f64 x 4643211215818981376) 12) 8
theorem kW_facts : ∀ j, j < 12 → (floatBits .sub .f64 (kW j) O64 = some (kW (j + 1)) ∧ (FloatKind.f64.format.order (kW j) O64 = some .gt ∨ FloatKind.f64.format.order (kW j) O64 = some .eq) ∧ kW (j + 1) < kW j) := by decide +kernel
theorem kW_end : FloatKind.f64.format.order (kW 12) O64 = some .lt := by decide +kernel
theorem kW_zero : kW 0 = 4622945017495814144 := by decide +kernel
theorem cn_O64 : cn .f64 O64 = O64 := by decide +kernel
theorem cn_kW (j : Nat) : cn .f64 (kW j) = kW j := cn_floatOfInt _ _
theorem cn_256 : cn .f64 4643211215818981376 = 4643211215818981376 := by decide +kernel
def fltOf : Value → Nat
  | .float _ b => b
  | _ => 0
theorem cn_horn {a t k j : Nat} (T : Nat) (hk : k = kW j) (ha : cn .f64 a = hornE T j) (ht : cn .f64 t = T) (w1 w2 w3 : World) : cn .f64 (fbits .add .f64 4607182418800017408 (fbits .quo .f64 (fbits .mul .f64 t a w1) k w2) w3) = hornE T (j + 1) := by
  rw [cn_fbits, cn_fbits, cn_fbits, ha, ht, hk, cn_kW]
  show fop .add .f64 (cn .f64 O64) _ = _
  rw [cn_O64]; rfl
theorem cn_sq {a p j : Nat} (ha : cn .f64 a = sqE p j) (w1 : World) : cn .f64 (fbits .mul .f64 a a w1) = sqE p (j + 1) := by
  rw [cn_fbits, ha]; rfl
set_option maxRecDepth 100000 in
set_option maxHeartbeats 1000000 in
theorem impl_exp64 (x : Nat) (w : World) : Calls Try.prog 103 #[.float .f64 x] w fun e w' => ∃ r, e = .returned (.float .f64 r) ∧ Hid (cn .f64 r = expW (cn .f64 x)) ∧ Dr w w' := by
  go_enter Try.func103, Try.ntmps103
  go_wp2
  generalize ht : fbits BinOp.quo FloatKind.f64 x 4643211215818981376 _ = t
  have htc : cn .f64 t = fop .quo .f64 (cn .f64 x) 4643211215818981376 := by rw [← ht, cn_fbits, cn_256]
  clear ht
  obtain ⟨T, hT⟩ : ∃ T, T = fop .quo .f64 (cn .f64 x) 4643211215818981376 := ⟨_, rfl⟩
  rw [← hT] at htc
  have HT := Lib.hid hT; have HTC := Lib.hid htc
  clear hT htc
  go_loopw [4, 5] (fun p k wr => ∃ j : Nat, j ≤ 12 ∧ ∃ a kv, k = .float .f64 kv ∧ p = .float .f64 a ∧ Hid (kv = kW j ∧ cn .f64 a = hornE T j) ∧ Dr w wr) (fun _ k _ => fltOf k)
  case atStart => exact ⟨0, by omega, _, _, rfl, rfl, Lib.hid ⟨kW_zero.symm, cn_O64⟩, (Dr.refl _).drewN _⟩
  case round =>
    obtain ⟨j, hj, a, kv, rfl, rfl, HK, hd⟩ := hrel
    have HD := Lib.hid hd; clear hd
    by_cases hlt : j < 12
    · obtain ⟨f1, f2, f3⟩ := kW_facts j hlt
      rw [← HK.out.1] at f1 f2 f3
      obtain ⟨kn, hkn⟩ : ∃ kn, kn = kW (j + 1) := ⟨_, rfl⟩
      rw [← hkn] at f1 f3
      have HKN := Lib.hid hkn
      have g1 := fun w => fbits_some f1 w
      have g2 := fdr_some f1
      unfold O64 at f2 g1 g2
      clear hkn f1
      rcases f2 with f2 | f2
      all_goals
        go_wp2
        go_roundw
        case rel => exact ⟨j + 1, hlt, _, _, rfl, rfl, Lib.hid ⟨HKN.out, cn_horn T HK.out.1 HK.out.2 HTC.out _ _ _⟩, HD.out.drewN _⟩
        case measure => simp [fltOf]; omega
    · have hj12 : j = 12 := by omega
      subst hj12
      have f2 := kW_end
      rw [← HK.out.1] at f2
      unfold O64 at f2
      obtain ⟨wo, hwo⟩ : ∃ wo : World, wo = wr := ⟨_, rfl⟩
      subst hwo
      go_wp2
      go_loopw [4, 18] (fun p i wr => ∃ j : Nat, i = .int .i64 j ∧ j ≤ 8 ∧ ∃ a, p = .float .f64 a ∧ Hid (cn .f64 a = sqE (hornE T 12) j) ∧ Dr wo wr) (fun _ i _ => 8 - (intOf i).toNat)
      case atStart => exact ⟨0, rfl, by omega, _, rfl, Lib.hid HK.out.2, Dr.refl _⟩
      case round =>
        obtain ⟨j, rfl, hj, b, rfl, HB, hd⟩ := hrel
        have HD2 := Lib.hid hd; clear hd
        by_cases hlt : j < 8
        · go_wp2
          go_roundw
          case rel => exact ⟨j + 1, by go_num, hlt, _, rfl, Lib.hid (cn_sq HB.out _), HD2.out.drewN _⟩
          case measure => simp [intOf]; omega
        · have hj8 : j = 8 := by omega
          subst hj8
          go_wp2
          go_ret
          exact ⟨_, rfl, Lib.hid (by rw [HB.out, HT.out]; rfl), HD.out.trans HD2.out⟩
def INF64 : Nat := 9218868437227405312
def expS (y : Nat) : Nat := if isN .f64 y = true then nanOf .f64 else if FloatKind.f64.format.order y 4641240890982006784 = some .gt then INF64 else if FloatKind.f64.format.order y 13864612927836782592 = some .lt then 0 else expW y
end Go.Proofs.Ytnhikdjljjemlaa
/- What ExpNumber of both sides returns. No condition. -/
namespace Go.Proofs.Ytnhikdjljjemlaa
open Go Go.RowKit Ieee
set_option linter.unusedVariables false
set_option linter.unusedSimpArgs false
def c200 : Nat := 1128792064
def cm200 : Nat := 3276275712
/-- the exponential function of a number that is not greater than 200 -/
def expF (x : Nat) : Nat := if FloatKind.f32.format.order x cm200 = some .lt then 0 else fcv .f64 (expW (fcv .f32 x .f64)) .f32
theorem order_cnl {k : FloatKind} (x c : Nat) (hc : cn k c = c) : k.format.order (cn k x) c = k.format.order x c := by
  have h := order_cn k x c
  rwa [hc] at h
theorem cn_cm200 : cn .f32 cm200 = cm200 := by decide +kernel
theorem cn_c64 : cn .f64 4641240890982006784 = 4641240890982006784 ∧ cn .f64 13864612927836782592 = 13864612927836782592 := by decide +kernel
theorem c200_wide : fcv .f32 c200 .f64 = 4641240890982006784 ∧ fcv .f32 cm200 .f64 = 13864612927836782592 := by decide +kernel
theorem fin_c200 : Fin single c200 := ⟨false, 1128792064, rfl, by rw [s_ir]; decide⟩
theorem fin_cm200 : Fin single cm200 := ⟨true, 1128792064, by decide +kernel, by rw [s_ir]; decide⟩
theorem isN_wide2 (x : Nat) (w : World) : isN .f64 (cvbits .f32 x .f64 w) = isN .f32 x := by
  have e := cn_wide x w
  cases h : isN .f32 x
  · rw [cn_not h] at e
    rw [← isN_cn, e]
    cases h3 : isN .f64 (fcv .f32 x .f64)
    · rfl
    · exfalso
      unfold isN fcv at h3
      rw [if_neg (by decide)] at h3
      unfold isN at h
      cases hr : FloatKind.f32.format.read x with
      | nan s t => rw [hr] at h; simp [Datum.isNaN] at h
      | number s m p =>
        have hd : FloatKind.f32.decode x = .number s m p := hr
        rw [hd] at h3
        have h4 : (FloatKind.f64.format.read (FloatKind.f64.format.nearest s m p)).isNaN = true := h3
        rw [nearest_not] at h4; cases h4
      | infinity s =>
        have hd : FloatKind.f32.decode x = .infinity s := hr
        rw [hd] at h3
        revert h3
        cases s <;> decide +kernel
  · exact isN_wide x w h
/-- a number that is made wider compares as before -/
theorem order_wide {x c : Nat} (hx : x < 4294967296) (hc : Fin single c) (w : World) : FloatKind.f64.format.order (cvbits .f32 x .f64 w) (fcv .f32 c .f64) = FloatKind.f32.format.order x c := by
  obtain ⟨s, r, e, hr⟩ := word_of single (x := x) (by rw [s_sw]; omega)
  subst e
  rcases Nat.lt_trichotomy r single.infRung with h1 | h1 | h1
  · have hf : Fin single (single.word s r) := ⟨s, r, rfl, h1⟩
    obtain ⟨q, hq, hcv, hval⟩ := wide_fin s h1
    have hw := wide_val hf
    have e2 : cvbits .f32 (single.word s r) .f64 w = fcv .f32 (single.word s r) .f64 := by
      have e := cn_cvbits w (wide_ok (single.word s r))
      rw [cn_not (Fin.not (k := .f32) hf)] at e
      have h3 : isN .f64 (cvbits .f32 (single.word s r) .f64 w) = false := by rw [hcv]; exact read_word_le double s (Nat.le_of_lt hq)
      rw [cn_not h3] at e
      exact e
    rw [e2]
    have hc2 := wide_val hc
    have o1 := order_val (k := .f64) hw.1 hc2.1
    have o2 := order_val (k := .f32) hf hc
    have v1 : val FloatKind.f64.format (fcv .f32 (single.word s r) .f64) = val FloatKind.f32.format (single.word s r) := hw.2
    have v2 : val FloatKind.f64.format (fcv .f32 c .f64) = val FloatKind.f32.format c := hc2.2
    rw [v1, v2] at o1
    rcases rat_tri (val FloatKind.f32.format (single.word s r)) (val FloatKind.f32.format c) with h | h | h
    · rw [o1.1.2 h, o2.1.2 h]
    · rw [o1.2.2.2 h, o2.2.2.2 h]
    · rw [o1.2.1.2 h, o2.2.1.2 h]
  · subst h1
    obtain ⟨t, q, rfl, hq⟩ := hc
    have e1 : single.read (single.word s single.infRung) = .infinity s := read_inf single single_binade s
    have e2 : cvbits .f32 (single.word s single.infRung) .f64 w = double.word s double.infRung := by
      have h3 : isN .f64 (cvbits .f32 (single.word s single.infRung) .f64 w) = false := by rw [isN_wide2]; (cases s <;> decide +kernel)
      have e := cn_cvbits w (wide_ok (single.word s single.infRung))
      rw [cn_not h3] at e
      rw [e]
      cases s <;> decide +kernel
    obtain ⟨q2, hq2, hcv, _⟩ := wide_fin t hq
    have e3 : fcv .f32 (single.word t q) .f64 = double.word t q2 := by
      have hf : Fin single (single.word t q) := ⟨t, q, rfl, hq⟩
      have e := cn_cvbits w (wide_ok (single.word t q))
      rw [cn_not (Fin.not (k := .f32) hf), hcv, cn_not (k := .f64) (read_word_le double t (Nat.le_of_lt hq2))] at e
      exact e.symm
    rw [e2, e3]
    show double.order _ _ = single.order _ _
    unfold Format.order
    obtain ⟨m, p, hm, _⟩ := read_num double t hq2
    obtain ⟨m2, p2, hm2, _⟩ := read_num single t hq
    rw [read_inf double double_binade s, hm, e1, hm2]
    rfl
  · have hn : isN .f32 (single.word s r) = true := nan_word single single_binade s h1 hr
    rw [order_none (.inl hn), order_none (.inl (isN_wide _ w hn))]
theorem expW_nan : expW (nanOf .f64) = nanOf .f64 := by decide +kernel
def okExp (x : Nat) : Prop := FloatKind.f32.format.order x c200 ≠ some .gt ∧ (FloatKind.f32.format.order x cm200 ≠ some .lt → cvWide .f64 (expW (fcv .f32 (cn .f32 x) .f64)) .f32 = false)
/-- narrowed -/
theorem exp_narrow {x r : Nat} (h : cn .f64 r = expW (fcv .f32 (cn .f32 x) .f64)) (hlt : FloatKind.f32.format.order x cm200 ≠ some .lt) (hok : okExp x) (w : World) : cn .f32 (cvbits .f64 r .f32 w) = expF (cn .f32 x) ∧ cvbits .f64 r .f32 w < 4294967296 := by
  have hw := hok.2 hlt
  rw [← h, cvWide_cn] at hw
  refine ⟨?_, cv_lt32 w hw⟩
  rw [cn_cvbits w hw, h]
  unfold expF
  rw [if_neg]
  intro e
  apply hlt
  rw [order_cnl _ _ cn_cm200] at e
  exact e
theorem expF_low {x : Nat} (hlt : FloatKind.f32.format.order x cm200 = some .lt) : expF (cn .f32 x) = 0 := by
  unfold expF
  rw [if_pos]
  rw [order_cnl _ _ cn_cm200]; exact hlt
set_option maxRecDepth 100000 in
theorem impl_ExpNumber (x : Nat) (hx : x < 4294967296) (hok : okExp x) (w : World) : Calls Try.prog 91 #[.float .f32 x] w fun e w' => ∃ r, e = .returned (.float .f32 r) ∧ Hid (cn .f32 r = expF (cn .f32 x) ∧ r < 4294967296) ∧ Dr w w' := by
  have b1 : (FloatKind.f32.format.order x 1128792064 == some .gt) = false := by have h := hok.1; unfold c200 at h; simpa using h
  by_cases hlt : FloatKind.f32.format.order x cm200 = some .lt
  · have hE := expF_low hlt
    have b2 : FloatKind.f32.format.order x 3276275712 = some .lt := hlt
    have HE := Lib.hid hE
    clear hlt hok hE
    go_enter Try.func91, Try.ntmps91
    go_wp2
    go_ret
    exact ⟨0, rfl, Lib.hid ⟨by rw [HE.out]; decide +kernel, by decide⟩, Dr.refl _⟩
  · have b2 : (FloatKind.f32.format.order x 3276275712 == some .lt) = false := by have h := hlt; unfold cm200 at h; simpa using h
    have HN := Lib.hid (fun r (h : cn .f64 r = expW (fcv .f32 (cn .f32 x) .f64)) w => exp_narrow h hlt hok w)
    clear hlt hok
    go_enter Try.func91, Try.ntmps91
    go_wp2_with fail
    refine (impl_exp64 _ _).mono ?_
    rintro e w1 ⟨r, rfl, hr, hd⟩
    have HR := Lib.hid (HN.out r (by rw [hr.out, cn_wide]))
    have HD := Lib.hid hd
    clear hd hr
    go_wp2
    go_ret
    refine ⟨_, rfl, Lib.hid (HR.out _), ?_⟩
    obtain ⟨n, rfl⟩ := HD.out
    exact ((Dr.refl _).drewN _ |>.drewN _).drewN _
end Go.Proofs.Ytnhikdjljjemlaa
/- What the logarithms of both sides compute. No condition. -/
namespace Go.Proofs.Ytnhikdjljjemlaa
open Go Go.RowKit Ieee
set_option linter.unusedVariables false
set_option linter.unusedSimpArgs false
def B64 : Nat := 4503599627370496
def T64 : Nat := 4611686018427387904
def W15 : Nat := 4609434218613702656
def W75 : Nat := 4604930618986332160
theorem nval_down {r : Nat} (h : 2 * B64 ≤ r) : nval double r = 2 * nval double (r - B64) := by
  have hb : double.binade = B64 := by decide +kernel
  have hp : 0 < B64 := by decide
  unfold nval
  rw [hb, if_neg (by omega), if_neg (by omega)]
  have e1 : (r - B64) % B64 = r % B64 := by
    have := Nat.sub_mul_mod (x := r) (n := B64) (k := 1) (by omega)
    rwa [Nat.mul_one] at this
  have e2 : (r - B64) / B64 = r / B64 - 1 := by
    obtain ⟨q, hq⟩ : ∃ q, r = q + B64 := ⟨r - B64, by omega⟩
    rw [hq, Nat.add_sub_cancel, Nat.add_div_right _ hp]
    rfl
  have e3 : 2 ≤ r / B64 := (Nat.le_div_iff_mul_le hp).2 h
  rw [e1, e2]
  obtain ⟨q, hq⟩ : ∃ q, r / B64 = q + 2 := ⟨r / B64 - 2, by omega⟩
  rw [hq, show q + 2 - 1 = q + 1 by omega, show q + 1 - 1 = q by omega, Nat.pow_succ, ← Nat.mul_assoc, Nat.mul_comm 2]
theorem val_pos_word {r : Nat} (hr : r < double.infRung) : val double r = (nval double r : Rat) * (2 : Rat) ^ double.leastPlace := by
  have h := val_word double false hr
  have e : double.word false r = r := rfl
  rw [e] at h
  rw [h]; unfold sg; simp
theorem fin_pos {r : Nat} (hr : r < double.infRung) : Fin double r := ⟨false, r, rfl, hr⟩
theorem two64 : Fin double T64 ∧ val double T64 = 2 := ⟨⟨false, T64, rfl, by rw [d_ir]; decide⟩, by unfold val; decide +kernel⟩
theorem nval_pos {r : Nat} (h : 0 < r) : 0 < nval double r := by
  have := nval_lt (f := double) h
  rw [nval_zero] at this
  exact this
theorem val_down {r : Nat} (h : 2 * B64 ≤ r) (hr : r < double.infRung) : val double r = 2 * val double (r - B64) := by
  have hB : 0 < B64 := by decide
  rw [val_pos_word hr, val_pos_word (by omega), nval_down h, Rat.natCast_mul]
  have : ((2 : Nat) : Rat) = 2 := rfl
  rw [this]; grind
theorem val_ne {r : Nat} (h : 0 < r) (hr : r < double.infRung) : val double r ≠ 0 := by
  rw [val_pos_word hr]
  have h1 : (0 : Rat) < nval double r := by have := nat_rat_lt (nval_pos h); simpa using this
  have h2 := pw_pos double.leastPlace
  have := Rat.mul_pos h1 h2
  grind
/-- half of a number -/
theorem half_word {y : Nat} (h : 2 * B64 ≤ y) (hr : y < double.infRung) : floatBits .quo .f64 y T64 = some (y - B64) := by
  have hB : B64 = 4503599627370496 := rfl
  obtain ⟨r, e1, n1⟩ := quo_nearW (k := .f64) (fin_pos hr) two64.1 (by rw [show val FloatKind.f64.format T64 = 2 from two64.2]; decide +kernel)
  rw [e1]
  have e2 : val FloatKind.f64.format y / val FloatKind.f64.format T64 = val double (y - B64) := by
    show val double y / val double T64 = _
    rw [two64.2, val_down h hr]; grind
  rw [e2] at n1
  rw [Near.exact (f := double) (fin_pos (by omega : y - B64 < double.infRung)) rfl (val_ne (by omega) (by omega)) n1]
/-- the double of a number -/
theorem twice_word {y : Nat} (h : B64 ≤ y) (hr : y + B64 < double.infRung) : floatBits .mul .f64 y T64 = some (y + B64) := by
  have hB : B64 = 4503599627370496 := rfl
  obtain ⟨r, e1, n1⟩ := mul_near (k := .f64) (fin_pos (by omega : y < double.infRung)) two64.1
  rw [e1]
  have e2 : val FloatKind.f64.format y * val FloatKind.f64.format T64 = val double (y + B64) := by
    show val double y * val double T64 = _
    rw [two64.2, val_down (r := y + B64) (by omega) hr, Nat.add_sub_cancel]; grind
  rw [e2] at n1
  rw [Near.exact (f := double) (fin_pos hr) rfl (val_ne (by omega) hr) n1]
theorem order64_ge {y c : Nat} (hy : y < double.infRung) (hc : c < double.infRung) (h : c ≤ y) : FloatKind.f64.format.order y c = some .gt ∨ FloatKind.f64.format.order y c = some .eq := by
  have e : FloatKind.f64.format.order y c = some (compare y c) := order_pos double hy hc
  rw [e]
  rcases Nat.lt_or_eq_of_le h with h1 | h1
  · left; rw [Nat.compare_eq_gt.2 h1]
  · right; rw [Nat.compare_eq_eq.2 h1.symm]
theorem order64_lt {y c : Nat} (hy : y < double.infRung) (hc : c < double.infRung) (h : y < c) : FloatKind.f64.format.order y c = some .lt := by
  have e : FloatKind.f64.format.order y c = some (compare y c) := order_pos double hy hc
  rw [e, Nat.compare_eq_lt.2 h]
def logK1 (y : Nat) : Nat := if y < W15 then 0 else (y - W15) / B64 + 1
def logK2 (y : Nat) : Nat := if y < W75 then (W75 - 1 - y) / B64 + 1 else 0
def kL (j : Nat) : Nat := floatOfInt .f64 (25 - 2 * (j : Int))
def logQ (u : Nat) : Nat → Nat
  | 0 => 0
  | j + 1 => fop .add .f64 (fop .quo .f64 O64 (kL j)) (fop .mul .f64 u (logQ u j))
def logT (y : Nat) (e : Int) : Nat :=
  let s := fop .quo .f64 (fop .sub .f64 y O64) (fop .add .f64 y O64)
  fop .add .f64 (fop .mul .f64 T64 (fop .mul .f64 s (logQ (fop .mul .f64 s s) 13))) (fop .mul .f64 (floatOfInt .f64 e) 4604418534313441775)
/-- the logarithm in 64 bits -/
def logW (y : Nat) : Nat := logT (y - logK1 y * B64 + logK2 (y - logK1 y * B64) * B64) ((logK1 y : Int) - logK2 (y - logK1 y * B64))
theorem K1_unique {y k : Nat} (h1 : y - k * B64 < W15) (h2 : k = 0 ∨ (k - 1) * B64 + W15 ≤ y) : logK1 y = k := by
  have hB : B64 = 4503599627370496 := rfl
  have hW : W15 = 4609434218613702656 := rfl
  unfold logK1
  split
  · rename_i h
    rcases h2 with h2 | h2
    · exact h2.symm
    · exfalso; omega
  · rename_i h
    rcases h2 with h2 | h2
    · subst h2; exfalso; omega
    · have hk : k ≠ 0 := by intro e; subst e; omega
      have : (y - W15) / B64 = k - 1 := by
        apply Nat.div_eq_of_lt_le
        · omega
        · rw [show (k - 1 + 1) = k by omega]; omega
      omega
theorem K2_unique {y k : Nat} (h1 : W75 ≤ y + k * B64) (h2 : k = 0 ∨ y + (k - 1) * B64 < W75) : logK2 y = k := by
  have hB : B64 = 4503599627370496 := rfl
  have hW : W75 = 4604930618986332160 := rfl
  unfold logK2
  split
  · rename_i h
    rcases h2 with h2 | h2
    · subst h2; exfalso; omega
    · have hk : k ≠ 0 := by intro e; subst e; omega
      have : (W75 - 1 - y) / B64 = k - 1 := by
        apply Nat.div_eq_of_lt_le
        · omega
        · rw [show (k - 1 + 1) = k by omega]; omega
      omega
  · rename_i h
    rcases h2 with h2 | h2
    · exact h2.symm
    · exfalso; omega
theorem e_up : ∀ j : Nat, j < 200 → floatBits .add .f64 (floatOfInt .f64 (j : Int)) O64 = some (floatOfInt .f64 ((j + 1 : Nat) : Int)) := by decide +kernel
theorem e_down : ∀ j : Nat, j < 400 → floatBits .sub .f64 (floatOfInt .f64 ((j : Int) - 200 + 1)) O64 = some (floatOfInt .f64 ((j : Int) - 200)) := by decide +kernel
theorem kL_facts : ∀ j, j < 13 → (floatBits .sub .f64 (kL j) T64 = some (kL (j + 1)) ∧ (FloatKind.f64.format.order (kL j) O64 = some .gt ∨ FloatKind.f64.format.order (kL j) O64 = some .eq)) := by decide +kernel
theorem kL_end : FloatKind.f64.format.order (kL 13) O64 = some .lt := by decide +kernel
theorem kL_zero : kL 0 = 4627730092099895296 := by decide +kernel
theorem cn_T64 : cn .f64 T64 = T64 := by decide +kernel
theorem cn_L2 : cn .f64 4604418534313441775 = 4604418534313441775 := by decide +kernel
theorem cn_logq {a u k j : Nat} (U : Nat) (hk : k = kL j) (ha : cn .f64 a = logQ U j) (hu : cn .f64 u = U) (w1 w2 w3 : World) : cn .f64 (fbits .add .f64 (fbits .quo .f64 4607182418800017408 k w1) (fbits .mul .f64 u a w2) w3) = logQ U (j + 1) := by
  rw [cn_fbits, cn_fbits, cn_fbits, ha, hu, hk, show cn .f64 (kL j) = kL j from cn_floatOfInt _ _]
  show fop .add .f64 (fop .quo .f64 (cn .f64 O64) _) _ = _
  rw [cn_O64]; rfl
/-- the last line -/
theorem cn_logt {y s q : Nat} {e : Int} (hy : cn .f64 y = y) (hs : cn .f64 s = fop .quo .f64 (fop .sub .f64 y O64) (fop .add .f64 y O64)) (hq : cn .f64 q = logQ (fop .mul .f64 (cn .f64 s) (cn .f64 s)) 13) (w1 w2 w3 w4 : World) :
    cn .f64 (fbits .add .f64 (fbits .mul .f64 4611686018427387904 (fbits .mul .f64 s q w1) w2) (fbits .mul .f64 (floatOfInt .f64 e) 4604418534313441775 w3) w4) = logT y e := by
  rw [cn_fbits, cn_fbits, cn_fbits, cn_fbits, hq, hs, cn_L2, cn_floatOfInt]
  show fop .add .f64 (fop .mul .f64 (cn .f64 T64) _) _ = _
  rw [cn_T64]; rfl
end Go.Proofs.Ytnhikdjljjemlaa
/- What LogNumber of both sides returns for a positive number. No condition. -/
namespace Go.Proofs.Ytnhikdjljjemlaa
open Go Go.RowKit Ieee
set_option linter.unusedVariables false
set_option linter.unusedSimpArgs false
def fltP (v : Value) : Nat := if fltOf v < 9223372036854775808 then fltOf v + 1 else 0
theorem fltP_kL : ∀ j, j < 13 → fltP (.float .f64 (kL (j + 1))) < fltP (.float .f64 (kL j)) := by decide +kernel
theorem B_val : B64 = 4503599627370496 := rfl
theorem W15_val : W15 = 4609434218613702656 := rfl
theorem W75_val : W75 = 4604930618986332160 := rfl
set_option maxRecDepth 100000 in
set_option maxHeartbeats 2000000 in
theorem impl_LogNumber_pos (x : Nat) (hx0 : 0 < x) (hx1 : x < single.infRung) (y : Nat) (hy : ∀ w, cvbits .f32 x .f64 w = y) (h1 : 874 * B64 ≤ y) (h2 : y < 1152 * B64) (hok : cvWide .f64 (logW y) .f32 = false) (w : World) :
    Calls Try.prog 65 #[.float .f32 x] w fun e w' => ∃ r, e = .returned (.float .f32 r) ∧ Hid (cn .f32 r = fcv .f64 (logW y) .f32 ∧ r < 4294967296) ∧ Dr w w' := by
  have eB := B_val; have eW := W15_val; have eV := W75_val
  have hIR := d_ir
  have o0 : FloatKind.f32.format.order x 0 = some .gt := by
    have e : FloatKind.f32.format.order x 0 = some (compare x 0) := order_pos single hx1 (by rw [s_ir]; decide)
    rw [e, Nat.compare_eq_gt.2 hx0]
  have hn : isN .f32 x = false := Fin.not (k := .f32) ⟨false, x, rfl, hx1⟩
  have o1 : FloatKind.f32.format.order x x = some .eq := by rw [order_self, hn]; rfl
  have hfin : finB x = true := by
    obtain ⟨m, p, e, _⟩ := read_num single false hx1
    have e2 : single.word false x = x := rfl
    rw [e2] at e
    unfold finB
    rw [e]
  have kf := fun W => impl_IsFinite x W
  rw [hfin] at kf
  have fin : ∀ r w, cn .f64 r = logW y → cn .f32 (cvbits .f64 r .f32 w) = fcv .f64 (logW y) .f32 ∧ cvbits .f64 r .f32 w < 4294967296 := by
    intro r w h
    rw [← h, cvWide_cn] at hok
    exact ⟨by rw [cn_cvbits w hok, h], cv_lt32 w hok⟩
  have uq1 := fun k => @K1_unique y k
  have uq2 := fun z k => @K2_unique z k
  obtain ⟨L, hL⟩ : ∃ L, L = logW y := ⟨_, rfl⟩
  have hLd : ∀ y1 k1 k2, logK1 y = k1 → y1 = y - k1 * B64 → logK2 y1 = k2 → L = logT (y1 + k2 * B64) ((k1 : Int) - k2) := by
    intro y1 k1 k2 e1 e2 e3
    rw [hL]; unfold logW; rw [e1, ← e2, e3]
  rw [← hL] at fin ⊢
  have KF := Lib.hid kf; have FI := Lib.hid fin; have U1 := Lib.hid uq1; have U2 := Lib.hid uq2; have LD := Lib.hid hLd; have HY := Lib.hid hy
  have H1 := Lib.hid h1; have H2 := Lib.hid h2; have EB := Lib.hid eB; have EW := Lib.hid eW; have EV := Lib.hid eV; have EI := Lib.hid hIR
  clear hL hLd hok kf fin uq1 uq2 hx0 hx1 hn hfin h1 h2 eB eW eV hIR
  go_enter Try.func65, Try.ntmps65
  go_wp2_with fail
  refine (KF.out _).mono ?_
  rintro e w1 ⟨rfl, hd1⟩
  have HD1 := Lib.hid hd1
  clear hd1 KF
  go_wp2
  clear hy
  go_loopw [3, 4] (fun v ev wr => ∃ k yk : Nat, v = .float .f64 yk ∧ ev = .float .f64 (floatOfInt .f64 (k : Int)) ∧ Hid (yk = y - k * B64 ∧ k ≤ 150 ∧ (k = 0 ∨ (k - 1) * B64 + W15 ≤ y)) ∧ Dr w wr) (fun v _ _ => fltOf v)
  case atStart => exact ⟨0, y, rfl, by rw [show floatOfInt .f64 ((0 : Nat) : Int) = 0 by decide +kernel], Lib.hid ⟨by omega, by omega, .inl rfl⟩, HD1.out.drewN _⟩
  case round =>
    obtain ⟨k, yk, rfl, rfl, HK, hd⟩ := hrel
    have HD := Lib.hid hd; clear hd
    obtain ⟨ek, hek⟩ : ∃ ek, ek = floatOfInt .f64 (k : Int) := ⟨_, rfl⟩
    rw [← hek]
    by_cases hge : W15 ≤ yk
    · have hb : 2 * B64 ≤ yk ∧ yk < double.infRung ∧ k ≤ 140 := by
        have := HK.out; have := H1.out; have := H2.out; (simp only [B_val, W15_val, W75_val, d_ir] at *; omega)
      have oc := order64_ge hb.2.1 (show W15 < double.infRung by rw [EI.out]; decide) hge
      have f1 := half_word hb.1 hb.2.1
      have f2 := e_up k (by omega)
      rw [← hek] at f2
      obtain ⟨en, hen⟩ : ∃ en, en = floatOfInt .f64 ((k + 1 : Nat) : Int) := ⟨_, rfl⟩
      rw [← hen] at f2
      obtain ⟨yn, hyn⟩ : ∃ yn, yn = yk - B64 := ⟨_, rfl⟩
      rw [← hyn] at f1
      have g1 := fun w => fbits_some f1 w
      have g2 := fdr_some f1
      have g3 := fun w => fbits_some f2 w
      have g4 := fdr_some f2
      unfold T64 at g1 g2
      unfold O64 at g3 g4
      have hz := World.drewN_none
      have hlt : yn < yk := by (simp only [B_val, W15_val, W75_val, d_ir] at *; omega)
      have HN := Lib.hid (show yn = y - (k + 1) * B64 ∧ k + 1 ≤ 150 ∧ (k + 1 = 0 ∨ (k + 1 - 1) * B64 + W15 ≤ y) by have := HK.out; (simp only [B_val, W15_val, W75_val, d_ir] at *; omega))
      have HEN := Lib.hid hen
      clear f1 f2 hyn hen hek hb hge
      unfold W15 at oc
      rcases oc with oc | oc
      all_goals
        go_wp2
        go_roundw
        case rel => exact ⟨k + 1, yn, rfl, by rw [HEN.out], HN, HD.out⟩
        case measure => simpa [fltOf] using hlt
    · have hb : yk < double.infRung ∧ yk < W15 := by
        have := HK.out; have := H1.out; have := H2.out; (simp only [B_val, W15_val, W75_val, d_ir] at *; omega)
      have oc := order64_lt hb.1 (show W15 < double.infRung by rw [EI.out]; decide) hb.2
      unfold W15 at oc
      have K1 := Lib.hid (U1.out k (by have := HK.out; omega) HK.out.2.2)
      obtain ⟨wo, hwo⟩ : ∃ wo : World, wo = wr := ⟨_, rfl⟩
      subst hwo
      rw [hek]
      clear hek hge
      go_wp2
      clear oc
      go_loopw [3, 4] (fun v ev wr => ∃ q yq : Nat, v = .float .f64 yq ∧ ev = .float .f64 (floatOfInt .f64 ((k : Int) - q)) ∧ Hid (yq = yk + q * B64 ∧ q ≤ 160 ∧ (q = 0 ∨ yk + (q - 1) * B64 < W75)) ∧ Dr w wr) (fun v _ _ => W75 - fltOf v)
      case atStart => exact ⟨0, yk, rfl, by simp, Lib.hid ⟨by omega, by omega, .inl rfl⟩, HD.out⟩
      case round =>
        clear HD
        obtain ⟨q, yq, rfl, rfl, HQ, hd⟩ := hrel
        have HD := Lib.hid hd; clear hd
        obtain ⟨ek, hek⟩ : ∃ ek, ek = floatOfInt .f64 ((k : Int) - q) := ⟨_, rfl⟩
        rw [← hek]
        by_cases hge : yq < W75
        · have hb : B64 ≤ yq ∧ yq + B64 < double.infRung ∧ q ≤ 155 := by
            have := HQ.out; have := HK.out; have := H1.out; have := H2.out; (simp only [B_val, W15_val, W75_val, d_ir] at *; omega)
          have oc := order64_lt (show yq < double.infRung by omega) (show W75 < double.infRung by rw [EI.out]; decide) hge
          have f1 := twice_word hb.1 hb.2.1
          have f2 := e_down (((k : Int) - q - 1 + 200).toNat) (by have := HK.out; omega)
          rw [show ((((k : Int) - q - 1 + 200).toNat : Nat) : Int) = (k : Int) - q - 1 + 200 by omega, show (k : Int) - q - 1 + 200 - 200 + 1 = (k : Int) - q by omega, show (k : Int) - q - 1 + 200 - 200 = (k : Int) - ((q + 1 : Nat) : Int) by omega, ← hek] at f2
          obtain ⟨en, hen⟩ : ∃ en, en = floatOfInt .f64 ((k : Int) - ((q + 1 : Nat) : Int)) := ⟨_, rfl⟩
          rw [← hen] at f2
          obtain ⟨yn, hyn⟩ : ∃ yn, yn = yq + B64 := ⟨_, rfl⟩
          rw [← hyn] at f1
          have g1 := fun w => fbits_some f1 w
          have g2 := fdr_some f1
          have g3 := fun w => fbits_some f2 w
          have g4 := fdr_some f2
          unfold T64 at g1 g2
          unfold O64 at g3 g4
          have hz := World.drewN_none
          have hlt : W75 - yn < W75 - yq := by (simp only [B_val, W15_val, W75_val, d_ir] at *; omega)
          have HN := Lib.hid (show yn = yk + (q + 1) * B64 ∧ q + 1 ≤ 160 ∧ (q + 1 = 0 ∨ yk + (q + 1 - 1) * B64 < W75) by have := HQ.out; (simp only [B_val, W15_val, W75_val, d_ir] at *; omega))
          have HEN := Lib.hid hen
          clear f1 f2 hyn hen hek hb hge
          unfold W75 at oc
          go_wp2
          go_roundw
          case rel => exact ⟨q + 1, yn, rfl, by rw [HEN.out], HN, HD.out⟩
          case measure => simpa [fltOf] using hlt
        · have hb : yq < double.infRung ∧ W75 ≤ yq := by
            have := HQ.out; have := HK.out; have := H1.out; have := H2.out; (simp only [B_val, W15_val, W75_val, d_ir] at *; omega)
          have oc := order64_ge hb.1 (show W75 < double.infRung by rw [EI.out]; decide) hb.2
          unfold W75 at oc
          have K2 := U2.out yk q (by have := HQ.out; omega) HQ.out.2.2
          have HL := Lib.hid (LD.out yk k q K1.out HK.out.1 K2)
          rw [← HQ.out.1] at HL
          have hcy : cn .f64 yq = yq := cn_not (Fin.not (k := .f64) (fin_pos hb.1))
          have HCY := Lib.hid hcy
          clear hge hb K2 hcy HQ HK
          have oc2 : (FloatKind.f64.format.order yq 4604930618986332160 == some .lt) = false := by rcases oc with e | e <;> rw [e] <;> rfl
          clear oc
          go_wp2
          rw [hek]
          clear hek oc2
          generalize hs : fbits BinOp.quo FloatKind.f64 (fbits BinOp.sub FloatKind.f64 yq 4607182418800017408 _) (fbits BinOp.add FloatKind.f64 yq 4607182418800017408 _) _ = s
          have hsc : cn .f64 s = fop .quo .f64 (fop .sub .f64 yq O64) (fop .add .f64 yq O64) := by
            rw [← hs, cn_fbits, cn_fbits, cn_fbits, HCY.out, show cn .f64 4607182418800017408 = O64 from cn_O64]
          clear hs
          generalize hu : fbits BinOp.mul FloatKind.f64 s s _ = u
          have huc : cn .f64 u = fop .mul .f64 (cn .f64 s) (cn .f64 s) := by rw [← hu, cn_fbits]
          clear hu
          obtain ⟨U, hU⟩ : ∃ U, U = fop .mul .f64 (cn .f64 s) (cn .f64 s) := ⟨_, rfl⟩
          rw [← hU] at huc
          have HS := Lib.hid hsc; have HU := Lib.hid huc; have HUU := Lib.hid hU
          clear hsc huc hU
          obtain ⟨ee, hee⟩ : ∃ ee, ee = floatOfInt .f64 ((k : Int) - q) := ⟨_, rfl⟩
          rw [← hee]
          have HEE := Lib.hid hee; clear hee
          obtain ⟨wp, hwp⟩ : ∃ wp : World, wp = wr := ⟨_, rfl⟩
          subst hwp
          go_loopw [7, 8] (fun qv kv wr => ∃ j : Nat, j ≤ 13 ∧ ∃ a kk, kv = .float .f64 kk ∧ qv = .float .f64 a ∧ Hid (kk = kL j ∧ cn .f64 a = logQ U j) ∧ Dr wp wr) (fun _ kv _ => fltP kv)
          case atStart => exact ⟨0, by omega, _, _, rfl, rfl, Lib.hid ⟨kL_zero.symm, show cn .f64 0 = 0 by decide +kernel⟩, (Dr.refl _).drewN _⟩
          case round =>
            obtain ⟨j, hj, a, kk, rfl, rfl, HK, hd⟩ := hrel
            have HD2 := Lib.hid hd; clear hd
            by_cases hlt : j < 13
            · obtain ⟨f1, f2⟩ := kL_facts j hlt
              have f3 := fltP_kL j hlt
              rw [← HK.out.1] at f1 f2 f3
              obtain ⟨kn, hkn⟩ : ∃ kn, kn = kL (j + 1) := ⟨_, rfl⟩
              rw [← hkn] at f1 f3
              have HKN := Lib.hid hkn; have F3 := Lib.hid f3
              have g1 := fun w => fbits_some f1 w
              have g2 := fdr_some f1
              unfold T64 at g1 g2
              unfold O64 at f2
              clear hkn f1 f3
              rcases f2 with f2 | f2
              all_goals
                go_wp2
                go_roundw
                case rel => exact ⟨j + 1, hlt, _, _, rfl, rfl, Lib.hid ⟨HKN.out, cn_logq U HK.out.1 HK.out.2 HU.out _ _ _⟩, HD2.out.drewN _⟩
                case measure => exact F3.out
            · have hj13 : j = 13 := by omega
              subst hj13
              have f2 := kL_end
              rw [← HK.out.1] at f2
              unfold O64 at f2
              go_wp2
              go_ret
              refine ⟨_, rfl, Lib.hid (FI.out _ _ ?_), ?_⟩
              · rw [HL.out, HEE.out]
                exact cn_logt HCY.out HS.out (by rw [HK.out.2, HUU.out]) _ _ _ _
              · exact (HD.out.trans HD2.out).drewN _
end Go.Proofs.Ytnhikdjljjemlaa
/- The functions at the numbers that the law draws: what is looked up. No condition. -/
namespace Go.Proofs.Ytnhikdjljjemlaa
open Go Go.RowKit Ieee
set_option linter.unusedVariables false
set_option linter.unusedSimpArgs false
def ng (x : Nat) : Nat := Op.negFloat .f32 x
def logF (x : Nat) : Nat := fcv .f64 (logW (fcv .f32 x .f64)) .f32
def tanhP (x : Nat) : Nat := expW (fop .mul .f64 T64 (fcv .f32 x .f64))
def tanhQ (x : Nat) : Nat := fop .quo .f64 (fop .sub .f64 (tanhP x) O64) (fop .add .f64 (tanhP x) O64)
def tanhF (x : Nat) : Nat := fcv .f64 (tanhQ x) .f32
def gapW (a b : Nat) : Nat := if FloatKind.f64.format.order a b = some .lt then fop .sub .f64 b a else fop .sub .f64 a b
def c9 : Nat := 1091567616
def cm9 : Nat := 3239051264
def big9 (x : Nat) : Bool := FloatKind.f32.format.order x c9 == some .gt || FloatKind.f32.format.order x cm9 == some .lt
def adjW (x : Nat) : Nat := if big9 x = true then fop .quo .f32 x 1082130432 else x
/-- an order that is there, and not one -/
def notO (k : FloatKind) (a b : Nat) (o : Ordering) : Bool := match k.format.order a b with
  | some q => q != o
  | none => false
structure FRow where
  x : Nat
  E : Nat
  F : Nat
  P : Nat
  Q : Nat
  L : Nat
def nrw (x : Nat) : Nat := fcv .f64 x .f32
def wid (x : Nat) : Nat := fcv .f32 x .f64
def tanhR (p : Nat) : Nat := fop .quo .f64 (fop .sub .f64 p O64) (fop .add .f64 p O64)
def absX (x : Nat) : Nat := if FloatKind.f32.format.order x 0 = some .lt then ng x else x
/-- a row is right -/
def rowB (p : FRow) : Bool :=
  expW (wid p.x) == p.E && expW (wid (ng p.x)) == p.F && expW (fop .mul .f64 T64 (wid p.x)) == p.P && expW (fop .mul .f64 T64 (wid (ng p.x))) == p.Q && logW (wid (nrw p.E)) == p.L
def expOkB (x E : Nat) : Bool := notO .f32 x c200 .gt && notO .f32 x cm200 .lt && !(cvWide .f64 E .f32) && !(isN .f32 (nrw E))
def tanhOkB (x P : Nat) : Bool := notO .f32 x 1101004800 .gt && notO .f32 x 3248488448 .lt && !(cvWide .f64 (tanhR P) .f32) && !(isN .f32 (nrw (tanhR P)))
def okB (p : FRow) : Bool :=
  expOkB p.x p.E && expOkB (ng p.x) p.F && tanhOkB p.x p.P && tanhOkB (ng p.x) p.Q && decide (0 < nrw p.E) && decide (nrw p.E < 2139095040) && decide (874 * B64 ≤ wid (nrw p.E)) && decide (wid (nrw p.E) < 1152 * B64) && !(cvWide .f64 p.L .f32) &&
  !(isN .f32 p.x) && !(isN .f32 (nrw p.L)) && !(isN .f32 (rootE (fop .mul .f32 p.x p.x))) && !(isN .f32 (fop .mul .f32 p.x p.x)) &&
  notO .f64 (gapW (fop .mul .f64 (wid (nrw p.E)) (wid (nrw p.F))) O64) 4517329193108106637 .gt &&
  notO .f64 (gapW (wid (nrw p.L)) (wid p.x)) 4532020583610935537 .gt &&
  notO .f64 (gapW (wid (nrw (tanhR p.P))) (Op.negFloat .f64 (wid (nrw (tanhR p.Q))))) 4517329193108106637 .gt &&
  !(isN .f64 (Op.negFloat .f64 (wid (nrw (tanhR p.Q))))) && notO .f32 p.x c9 .gt && notO .f32 p.x cm9 .lt && decide (p.x < 4294967296) && notO .f32 (nrw (tanhR p.P)) 1065353216 .gt && notO .f32 (nrw (tanhR p.P)) 3212836864 .lt && notO .f64 (gapW (wid (rootE (fop .mul .f32 p.x p.x))) (wid (absX p.x))) 4532020583610935537 .gt
end Go.Proofs.Ytnhikdjljjemlaa
