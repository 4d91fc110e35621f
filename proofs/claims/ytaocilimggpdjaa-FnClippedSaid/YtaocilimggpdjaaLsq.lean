/- What the mean of squares and its gradients are. No condition. -/
import Derived.Test.YtaocilimggpdjaaLst
namespace Go.Proofs.Ytaocilimggpdjaa
open Go Go.RowKit
set_option linter.unusedVariables false
set_option linter.unusedSimpArgs false
/-- a list that has been changed in its first k places -/
def stepf (k : Nat) (g f : Nat → Nat) (i : Nat) : Nat := if i < k then g i else f i
theorem stepf_zero (g f : Nat → Nat) : stepf 0 g f = f := by funext i; simp [stepf]
theorem stepf_at (k : Nat) (g f : Nat → Nat) : stepf k g f k = f k := by simp [stepf]
theorem listOf_done (n : Nat) (g f : Nat → Nat) : listOf n (stepf n g f) = listOf n g := listOf_congr fun i hi => by simp [stepf, hi]
theorem set_listOf {n k : Nat} {g f : Nat → Nat} {y : Nat} {zs : List Nat} (h : zs.map (cn .f32) = listOf n (stepf k g f)) (hy : cn .f32 y = g k) : (zs.set k y).map (cn .f32) = listOf n (stepf (k + 1) g f) := by
  rw [List.map_set, h, hy]
  apply List.ext_getElem
  · simp [listOf]
  · intro i h1 h2
    simp only [listOf, List.getElem_set, List.getElem_map, List.getElem_range, stepf]
    by_cases e : k = i
    · subst e; simp
    · rw [if_neg e]
      by_cases e2 : i < k
      · rw [if_pos e2, if_pos (by omega)]
      · rw [if_neg e2, if_neg (by omega)]
theorem RepF.open {w : World} {lo hi : Nat} {ad : Option Addr} {n cap : Nat} {zs : List Nat} (h : RepF w lo hi ad n cap zs) (hp : 0 < n) :
    ∃ g, ad = some ⟨g, 0, none⟩ ∧ lo ≤ g ∧ (∀ k, k < n → w.cell? ⟨g, k, none⟩ = some (.float .f32 (zs.getD k 0))) ∧ (∀ k, w.frozen? ⟨g, k, none⟩ = false) ∧
      (∀ k y, y < 4294967296 → RepF (w.setCell ⟨g, k, none⟩ (.float .f32 y)) lo hi (some ⟨g, 0, none⟩) n cap (zs.set k y)) := by
  obtain ⟨hrow, hlen, hlt⟩ := h
  obtain ⟨g, cap', hform⟩ := Joins.ownsRow_form hrow.own hp
  have had : ad = some ⟨g, 0, none⟩ := by cases hform; rfl
  clear hform
  subst had
  refine ⟨g, rfl, (hrow.own.lt g rfl).1, fun k hk => ?_, fun k => hrow.own.frozenAt k, fun k y hy => ⟨⟨?_, ?_⟩, ?_, ?_⟩⟩
  · rw [hrow.own.cellAt k (by omega), List.getElem?_map, List.getD_eq_getElem?_getD, List.getElem?_eq_getElem (by omega)]; rfl
  · rw [List.map_set]; exact (hrow.own.stored k (.float .f32 y)).1
  · exact hrow.top
  · rw [List.length_set]; exact hlen
  · intro x hx
    rcases List.mem_or_eq_of_mem_set hx with hx | rfl
    · exact hlt x hx
    · exact hy
theorem RepF.setAt {w : World} {lo hi g n cap : Nat} {zs : List Nat} (h : RepF w lo hi (some ⟨g, 0, none⟩) n cap zs) (k y : Nat) (hy : y < 4294967296) (hp : 0 < n) : RepF (w.setCell ⟨g, k, none⟩ (.float .f32 y)) lo hi (some ⟨g, 0, none⟩) n cap (zs.set k y) := by
  obtain ⟨g', hg, _, _, _, hs⟩ := h.open hp
  obtain rfl : g = g' := by simpa using hg
  exact hs k y hy
def sqG (D : Nat → Nat) (n i : Nat) : Nat := fop .quo .f32 (fop .mul .f32 1073741824 (D i)) (floatOfInt .f32 n)
def sqL (D : Nat → Nat) (n : Nat) : Nat := fop .quo .f32 (dotS (listOf n D) (listOf n D) n) (floatOfInt .f32 n)
theorem cn_two : cn .f32 1073741824 = 1073741824 := by decide +kernel
set_option maxRecDepth 100000 in
set_option maxHeartbeats 2000000 in
theorem impl_LossSquares_yes (w : World) (a1 : Option Addr) (c1 : Nat) (xs : List Nat) (h1 : F32s w a1 c1 xs) (a2 : Option Addr) (c2 : Nat) (zs : List Nat) (h2 : F32s w a2 c2 zs) (hb : both xs.length zs.length = true) :
    Calls Try.prog 64 #[.slice a1 xs.length c1, .slice a2 zs.length c2] w fun e w' => ∃ (r : Nat) (ad : Option Addr) (n cap : Nat) (ys : List Nat), e = .returned (.tuple #[.float .f32 r, .slice ad n cap, .bool true]) ∧
      cn .f32 r = sqL (subE (xs.map (cn .f32)) (zs.map (cn .f32))) xs.length ∧ RepF w' w.heap.size w'.heap.size ad n cap ys ∧ ys.map (cn .f32) = listOf xs.length (sqG (subE (xs.map (cn .f32)) (zs.map (cn .f32))) xs.length) ∧ n ≤ 1048576 ∧ Below w.heap.size w w' := by
  obtain ⟨i0, hi, hz0, hz1, hz2⟩ := info_parts info_f32
  have c1 := fun W k1 k2 => impl_differences W a1 c1 xs k1 a2 c2 zs k2 hb
  obtain ⟨D, hD⟩ : ∃ D, D = subE (xs.map (cn .f32)) (zs.map (cn .f32)) := ⟨_, rfl⟩
  simp only [← hD] at c1 ⊢
  clear hD
  simp only [both, Bool.and_eq_true, decide_eq_true_eq] at hb
  obtain ⟨⟨hn1, hn⟩, hl⟩ := hb
  obtain ⟨n, e1⟩ : ∃ n, n = xs.length := ⟨_, rfl⟩
  have e2 : n = zs.length := e1.trans hl
  simp only [← e1] at c1 hn hn1 ⊢
  simp only [← e2] at c1 ⊢
  have C1 := Lib.hid c1; clear c1 e1 e2 hl
  go_enter Try.func64, Try.ntmps64
  go_wp2_with fail
  refine (C1.out _ h1 h2).mono ?_
  rintro e w1 ⟨v1, ds, rfl, hown1, hD, hDl, hb1⟩
  obtain ⟨ad, cap, rfl, hr⟩ := RepF.of_owns hown1 hDl.out
  have HD := hD.out
  have hdl := len_of HD
  have hra := hr.arg
  clear hD hDl hown1 C1 h1 h2
  have hs1 := hb1.size
  go_wp2
  go_loopw [10, 25] (fun v i wr => ∃ k : Nat, i = .int .i64 k ∧ k ≤ n ∧ ∃ ys : List Nat, wr.ownsRow w1.heap.size 22 1 v k (ys.map (Value.float .f32)) ∧ ys.length = k ∧ ys.map (cn .f32) = listOf k (sqG D n) ∧ (∀ y ∈ ys, y < 4294967296) ∧ Below w1.heap.size w1 wr ∧ w1.heap.size ≤ wr.heap.size) (fun _ i _ => n - (intOf i).toNat)
  case atStart => exact ⟨0, rfl, Nat.zero_le _, [], World.ownsRow_made _ _ _ (Nat.le_refl _) (Nat.zero_le _) rfl, rfl, rfl, (fun y hy => nomatch hy), below1 _ _, by simp⟩
  case round =>
    obtain ⟨k, rfl, hk, ys, hown, hyl, hye, hylt, hb, hbs⟩ := hrel
    have HL := Lib.hid hyl; have HE := Lib.hid hye; have HLT := Lib.hid hylt; clear hyl hye hylt
    have h1 := hra.below hb
    by_cases hlt : k < n
    · have hk1 : k < ds.length := by rw [hdl]; exact hlt
      obtain ⟨bx1, offx1, rfl, _, hqx1⟩ := F32s.spot h1 (k := k) hk1
      have hcx := hqx1 k hk1
      obtain ⟨x1, px1⟩ : ∃ x, x = ds.getD k 0 := ⟨_, rfl⟩
      rw [← px1] at hcx
      have Px1 := Lib.hid px1; clear px1 hqx1
      clear h1
      go_wp2_with (at_builtin; refine wp_app rfl _ _ 25 rfl w1.heap.size i0 (.float .f32 0) 1 4 Try.underlying25 hi hz0 hz1 hz2 rfl (by decide) rfl (one_cell _ rfl) _ _ _ rfl hown rfl ?c3 ?c4 ?c5 ?_)
      case c3 => unfold maxLen; omega
      case c4 => omega
      case c5 => exact hbs
      intro v' w9 hown1 hb1 hbs1
      have hb1 := (below_drewN hb _).trans hb1
      clear hown hb hbs
      generalize hy : fbits BinOp.quo FloatKind.f32 _ _ _ = y at hown1
      have hyc : cn .f32 y = sqG D n k := by rw [← hy, cn_fbits, cn_fbits, cn_two, cn_floatOfInt, Px1.out, cn_at HD hlt]; rfl
      have hyl : y < 4294967296 := by rw [← hy]; exact fbits_lt _ .f32 _ _ _
      have HY := Lib.hid hyc; clear hyc hy
      go_wp2
      go_roundw
      case rel =>
        refine ⟨k + 1, by go_num, hlt, ys ++ [y], by simpa using hown1, by simp [HL.out], ?_, ?_, hb1, hbs1⟩
        · rw [List.map_append, List.map_cons, List.map_nil, HE.out, HY.out, listOf_succ]
        · intro z hz
          rcases List.mem_append.1 hz with hz | hz
          · exact HLT.out z hz
          · simp at hz; rw [hz]; exact hyl
      case measure => simp [intOf]; omega
    · have hkn : k = n := by omega
      subst hkn
      have c2 := impl_dot wr ad cap ds h1 ad cap ds h1 rfl
      rw [hdl, HD] at c2
      have C2 := Lib.hid c2; clear c2
      go_wp2_with fail
      refine C2.out.mono ?_
      rintro e w2 ⟨r, rfl, hr2, q, rfl⟩
      go_wp2
      go_ret3
      obtain ⟨ad', cap', rfl, hro⟩ := RepF.of_owns hown HLT.out
      exact ⟨_, ad', _, cap', ys, rfl, by rw [cn_fbits, cn_floatOfInt, hr2.out.1]; rfl, ((hro.below (below_drewN (Below.refl _ _) _)).bounds hs1 (Nat.le_refl _)), HE.out, by omega, (hb1.trans (hb.mono hs1)).trans (below_drewN (Below.refl _ _) _)⟩
theorem impl_LossSquares (w : World) (a1 : Option Addr) (c1 : Nat) (xs : List Nat) (h1 : F32s w a1 c1 xs) (a2 : Option Addr) (c2 : Nat) (zs : List Nat) (h2 : F32s w a2 c2 zs) :
    Calls Try.prog 64 #[.slice a1 xs.length c1, .slice a2 zs.length c2] w fun e w' => ∃ (r : Nat) (ad : Option Addr) (n cap : Nat) (ys : List Nat) (b : Bool), e = .returned (.tuple #[.float .f32 r, .slice ad n cap, .bool b]) ∧
      cn .f32 r = (if both xs.length zs.length = true then sqL (subE (xs.map (cn .f32)) (zs.map (cn .f32))) xs.length else 0) ∧ RepF w' w.heap.size w'.heap.size ad n cap ys ∧ ys.map (cn .f32) = (if both xs.length zs.length = true then listOf xs.length (sqG (subE (xs.map (cn .f32)) (zs.map (cn .f32))) xs.length) else []) ∧ n ≤ 1048576 ∧ b = both xs.length zs.length ∧ Below w.heap.size w w' := by
  cases hb : both xs.length zs.length
  · have m1 := Nat.le_trans h1.len h1.cap
    have m2 := Nat.le_trans h2.len h2.cap
    unfold maxLen at m1 m2
    have c := fun W => impl_differences_no W a1 c1 xs.length zs.length a2 c2 (by omega) (by omega) hb
    have C := Lib.hid c; clear c
    simp only [Bool.false_eq_true, if_false]
    have F : Calls Try.prog 64 #[.slice a1 xs.length c1, .slice a2 zs.length c2] w fun e w' => e = .returned (.tuple #[.float .f32 0, .slice none 0 0, .bool false]) ∧ w = w' := by
      clear hb
      go_enter Try.func64, Try.ntmps64
      go_wp2_with fail
      refine (C.out _).mono ?_
      rintro e w1 ⟨rfl, rfl⟩
      go_wp2
      go_ret3
      exact ⟨rfl, rfl⟩
    refine F.mono fun e w' ⟨he, hw⟩ => ?_
    subst hw
    exact ⟨0, none, 0, 0, [], false, he, cn_zero, RepF.nil _ _ _, rfl, by omega, rfl, Below.refl _ _⟩
  · simp only [if_true]
    exact (impl_LossSquares_yes w a1 c1 xs h1 a2 c2 zs h2 hb).mono fun e w' ⟨r, ad, n, cap, ys, he, hx⟩ => ⟨r, ad, n, cap, ys, true, he, hx.1, hx.2.1, hx.2.2.1, hx.2.2.2.1, rfl, hx.2.2.2.2⟩
end Go.Proofs.Ytaocilimggpdjaa
