/- What the mean of absolute values and its gradients are. No condition. -/
import Derived.Test.YtaocilimggpdjaaLsq
import Derived.Test.YtaocilimggpdjaaAbs
namespace Go.Proofs.Ytaocilimggpdjaa
open Go Go.RowKit
set_option linter.unusedVariables false
set_option linter.unusedSimpArgs false
theorem RepF.belowHi {w w' : World} {lo hi B : Nat} {ad : Option Addr} {n cap : Nat} {xs : List Nat} (h : RepF w lo hi ad n cap xs) (hb : Below B w w') (hB : hi ≤ B) : RepF w' lo hi ad n cap xs :=
  h.touch (lo2 := B) (hi2 := w.heap.size) ⟨hb.os, hb.tape, hb.output, hb.size, fun k hk hd => hb.block k (by omega)⟩ (.inl hB)
theorem Touch.setCell {w : World} {lo hi g k : Nat} {v : Value} (h1 : lo ≤ g) (h2 : g < hi) : Touch lo hi w (w.setCell ⟨g, k, none⟩ v) :=
  ⟨rfl, rfl, rfl, by simp [World.setCell], fun j hj hd => Below.heap_setCell _ _ _ _ (by intro e; simp at e; omega)⟩
theorem own_set {w : World} {base g k n : Nat} {v u : Value} {cs : List Value} (h : w.ownsRow base 22 1 v n cs) (hg : g < base) : (w.setCell ⟨g, k, none⟩ u).ownsRow base 22 1 v n cs :=
  ((Row.mk' h).touch (Touch.setCell (lo := 0) (hi := base) (Nat.zero_le _) hg) (.inr (Nat.le_refl _))).own
theorem RepF.lt_hi {w : World} {lo hi g n cap : Nat} {xs : List Nat} (h : RepF w lo hi (some ⟨g, 0, none⟩) n cap xs) : g < hi := h.row.top g rfl
theorem mem_getD {xs : List Nat} {k : Nat} (h : k < xs.length) : xs.getD k 0 ∈ xs := by
  rw [List.getD_eq_getElem?_getD, List.getElem?_eq_getElem h]; exact List.getElem_mem h
def abG (D : Nat → Nat) (n i : Nat) : Nat := match FloatKind.f32.format.order (D i) 0 with
  | some .gt => fop .quo .f32 1065353216 (floatOfInt .f32 n)
  | some .lt => fop .quo .f32 3212836864 (floatOfInt .f32 n)
  | some .eq => 0
  | none => nanOf .f32
def abA (D : Nat → Nat) (i : Nat) : Nat := absW (D i)
def abL (D : Nat → Nat) (n : Nat) : Nat := fop .quo .f32 (sumS (listOf n (abA D)) n) (floatOfInt .f32 n)
theorem cn_one : cn .f32 1065353216 = 1065353216 := by decide +kernel
theorem cn_minus : cn .f32 3212836864 = 3212836864 := by decide +kernel
theorem order_at {x d : Nat} (h : cn .f32 x = d) : FloatKind.f32.format.order d 0 = FloatKind.f32.format.order x 0 := by
  rw [← h, show (0 : Nat) = cn .f32 0 from cn_zero.symm, order_cn, cn_zero]
theorem isN_none {x : Nat} (h : FloatKind.f32.format.order x 0 = none) : isN .f32 x = true := by
  cases hx : isN .f32 x
  · exfalso
    have h0 : isN .f32 0 = false := by decide +kernel
    unfold isN at hx h0
    have h1 : (FloatKind.f32.format.read x).order (FloatKind.f32.format.read 0) = none := h
    cases e1 : FloatKind.f32.format.read x with
    | nan s t => rw [e1] at hx; cases hx
    | infinity s => rw [e1] at h1; cases e2 : FloatKind.f32.format.read 0 with
      | nan s t => rw [e2] at h0; cases h0
      | infinity t => rw [e2] at h1; cases h1
      | number t m p => rw [e2] at h1; cases h1
    | number s m p => rw [e1] at h1; cases e2 : FloatKind.f32.format.read 0 with
      | nan s t => rw [e2] at h0; cases h0
      | infinity t => rw [e2] at h1; cases h1
      | number t m p => rw [e2] at h1; cases h1
  · rfl
set_option maxRecDepth 100000 in
set_option maxHeartbeats 4000000 in
theorem impl_LossAbsolute_yes (w : World) (a1 : Option Addr) (c1 : Nat) (xs : List Nat) (h1 : F32s w a1 c1 xs) (a2 : Option Addr) (c2 : Nat) (zs : List Nat) (h2 : F32s w a2 c2 zs) (hb : both xs.length zs.length = true) :
    Calls Try.prog 65 #[.slice a1 xs.length c1, .slice a2 zs.length c2] w fun e w' => ∃ (r : Nat) (ad : Option Addr) (n cap : Nat) (ys : List Nat), e = .returned (.tuple #[.float .f32 r, .slice ad n cap, .bool true]) ∧
      cn .f32 r = abL (subE (xs.map (cn .f32)) (zs.map (cn .f32))) xs.length ∧ RepF w' w.heap.size w'.heap.size ad n cap ys ∧ ys.map (cn .f32) = listOf xs.length (abG (subE (xs.map (cn .f32)) (zs.map (cn .f32))) xs.length) ∧ n ≤ 1048576 ∧ Below w.heap.size w w' := by
  obtain ⟨i0, hi, hz0, hz1, hz2⟩ := info_parts info_f32
  have c1 := fun W k1 k2 => impl_differences W a1 c1 xs k1 a2 c2 zs k2 hb
  obtain ⟨D, hD⟩ : ∃ D, D = subE (xs.map (cn .f32)) (zs.map (cn .f32)) := ⟨_, rfl⟩
  simp only [← hD] at c1 ⊢
  clear hD
  simp only [both, Bool.and_eq_true, decide_eq_true_eq] at hb
  obtain ⟨⟨hn1, hn⟩, hl⟩ := hb
  obtain ⟨n, e1⟩ : ∃ n, n = xs.length := ⟨_, rfl⟩
  have e2 : n = zs.length := e1.trans hl
  simp only [← e1] at c1 hn hn1 ⊢
  simp only [← e2] at c1 ⊢
  have C1 := Lib.hid c1; clear c1 e1 e2 hl
  go_enter Try.func65, Try.ntmps65
  go_wp2_with fail
  refine (C1.out _ h1 h2).mono ?_
  rintro e w1 ⟨v1, ds, rfl, hown1, hD, hDl, hb1⟩
  obtain ⟨ad, cap, rfl, hr⟩ := RepF.of_owns hown1 hDl.out
  have HD := hD.out
  have hdl := len_of HD
  have hra := hr.arg
  clear hD hown1 C1 h1 h2
  have hs1 := hb1.size
  go_wp2
  go_loopw [10, 11, 26] (fun t v i wr => ∃ k : Nat, i = .int .i64 k ∧ k ≤ n ∧ ∃ s : Nat, t = .float .f32 s ∧ s < 4294967296 ∧ cn .f32 s = sumS (listOf n (abA D)) k ∧ ∃ ys : List Nat, wr.ownsRow w1.heap.size 22 1 v k (ys.map (Value.float .f32)) ∧ ys.length = k ∧ ys.map (cn .f32) = listOf k (abG D n) ∧ (∀ y ∈ ys, y < 4294967296) ∧ Below w1.heap.size w1 wr ∧ w1.heap.size ≤ wr.heap.size) (fun _ _ i _ => n - (intOf i).toNat)
  case atStart => exact ⟨0, rfl, Nat.zero_le _, 0, rfl, by decide, cn_zero, [], World.ownsRow_made _ _ _ (Nat.le_refl _) (Nat.zero_le _) rfl, rfl, rfl, (fun y hy => nomatch hy), below1 _ _, by simp⟩
  case round =>
    obtain ⟨k, rfl, hk, s, rfl, hsl, hs, ys, hown, hyl, hye, hylt, hb, hbs⟩ := hrel
    have HL := Lib.hid hyl; have HE := Lib.hid hye; have HLT := Lib.hid hylt; have HS := Lib.hid hs; clear hyl hye hylt hs
    have h1 := hra.below hb
    by_cases hlt : k < n
    · have hk1 : k < ds.length := by rw [hdl]; exact hlt
      have hx1 : ds.getD k 0 < 4294967296 := hDl.out _ (mem_getD hk1)
      obtain ⟨bx1, offx1, rfl, _, hqx1⟩ := F32s.spot h1 (k := k) hk1
      have hcx := hqx1 k hk1
      obtain ⟨x1, px1⟩ : ∃ x, x = ds.getD k 0 := ⟨_, rfl⟩
      rw [← px1] at hcx
      have Px1 := Lib.hid px1; clear px1 hqx1
      rw [← Px1.out] at hx1
      clear h1
      rcases ho : FloatKind.f32.format.order x1 0 with _ | c
      · have ho : FloatKind.f32.format.order x1 0 = none := ho
        have o1 : FloatKind.f32.format.order x1 0 = none := ho
        go_wp2_with fail
        refine (impl_size _ hx1 _).mono ?_
        rintro e w2 ⟨r, rfl, hr, q, rfl⟩
        go_wp2_with fail
        refine (impl_noNumber _).mono ?_
        rintro e w3 ⟨y, rfl, hy, q2, rfl⟩
        go_wp2_with (at_builtin; refine wp_app rfl _ _ 25 rfl w1.heap.size i0 (.float .f32 0) 1 4 Try.underlying25 hi hz0 hz1 hz2 rfl (by decide) rfl (one_cell _ rfl) _ _ _ rfl hown rfl ?c3 ?c4 ?c5 ?_)
        case c3 => unfold maxLen; omega
        case c4 => omega
        case c5 => exact hbs
        intro v' w9 hown1 hb1 hbs1
        have hb1 : Below w1.heap.size w1 w9 := (below_drewN hb _).trans hb1
        clear hown hb hbs
        have hyc : cn .f32 y = abG D n k := by rw [hy.out.1]; unfold abG; rw [order_at (Px1.out ▸ cn_at HD hlt), o1]
        have hyl : y < 4294967296 := hy.out.2
        have HY := Lib.hid hyc; clear hyc hy
        go_wp2
        go_roundw
        case rel =>
          refine ⟨k + 1, by go_num, hlt, _, rfl, fbits_lt _ .f32 _ _ _, ?_, ys ++ [y], by simpa using hown1, by simp [HL.out], ?_, ?_, hb1, hbs1⟩
          · rw [cn_fbits, HS.out, hr.out.1, Px1.out, cn_at HD hlt]
            show _ = fop .add .f32 _ ((listOf n (abA D)).getD k 0)
            rw [listOf_getD _ hlt]; rfl
          · rw [List.map_append, List.map_cons, List.map_nil, HE.out, HY.out, listOf_succ]
          · intro z hz
            rcases List.mem_append.1 hz with hz | hz
            · exact HLT.out z hz
            · simp at hz; rw [hz]; exact hyl
        case measure => simp [intOf]; omega
      cases c
      · have ho : FloatKind.f32.format.order x1 0 = some .lt := ho
        have o1 : FloatKind.f32.format.order x1 0 = some .lt := ho
        go_wp2_with fail
        refine (impl_size _ hx1 _).mono ?_
        rintro e w2 ⟨r, rfl, hr, q, rfl⟩
        go_wp2_with (at_builtin; refine wp_app rfl _ _ 25 rfl w1.heap.size i0 (.float .f32 0) 1 4 Try.underlying25 hi hz0 hz1 hz2 rfl (by decide) rfl (one_cell _ rfl) _ _ _ rfl hown rfl ?c3 ?c4 ?c5 ?_)
        case c3 => unfold maxLen; omega
        case c4 => omega
        case c5 => exact hbs
        intro v' w9 hown1 hb1 hbs1
        have hb1 : Below w1.heap.size w1 w9 := (below_drewN hb _).trans hb1
        clear hown hb hbs
        generalize hy : fbits BinOp.quo FloatKind.f32 3212836864 _ _ = y at hown1
        have hyc : cn .f32 y = abG D n k := by rw [← hy, cn_fbits, cn_minus, cn_floatOfInt]; unfold abG; rw [order_at (Px1.out ▸ cn_at HD hlt), o1]
        have hyl : y < 4294967296 := by rw [← hy]; exact fbits_lt _ .f32 _ _ _
        have HY := Lib.hid hyc; clear hyc hy
        go_wp2
        go_roundw
        case rel =>
          refine ⟨k + 1, by go_num, hlt, _, rfl, fbits_lt _ .f32 _ _ _, ?_, ys ++ [y], by simpa using hown1, by simp [HL.out], ?_, ?_, hb1, hbs1⟩
          · rw [cn_fbits, HS.out, hr.out.1, Px1.out, cn_at HD hlt]
            show _ = fop .add .f32 _ ((listOf n (abA D)).getD k 0)
            rw [listOf_getD _ hlt]; rfl
          · rw [List.map_append, List.map_cons, List.map_nil, HE.out, HY.out, listOf_succ]
          · intro z hz
            rcases List.mem_append.1 hz with hz | hz
            · exact HLT.out z hz
            · simp at hz; rw [hz]; exact hyl
        case measure => simp [intOf]; omega
      · have ho : FloatKind.f32.format.order x1 0 = some .eq := ho
        have o1 : FloatKind.f32.format.order x1 0 = some .eq := ho
        go_wp2_with fail
        refine (impl_size _ hx1 _).mono ?_
        rintro e w2 ⟨r, rfl, hr, q, rfl⟩
        go_wp2_with (at_builtin; refine wp_app rfl _ _ 25 rfl w1.heap.size i0 (.float .f32 0) 1 4 Try.underlying25 hi hz0 hz1 hz2 rfl (by decide) rfl (one_cell _ rfl) _ _ _ rfl hown rfl ?c3 ?c4 ?c5 ?_)
        case c3 => unfold maxLen; omega
        case c4 => omega
        case c5 => exact hbs
        intro v' w9 hown1 hb1 hbs1
        have hb1 : Below w1.heap.size w1 w9 := (below_drewN hb _).trans hb1
        clear hown hb hbs
        obtain ⟨y, hy⟩ : ∃ y, y = 0 := ⟨_, rfl⟩
        rw [← hy] at hown1
        have hyc : cn .f32 y = abG D n k := by rw [hy, cn_zero]; unfold abG; rw [order_at (Px1.out ▸ cn_at HD hlt), o1]
        have hyl : y < 4294967296 := by omega
        have HY := Lib.hid hyc; clear hyc hy
        go_wp2
        go_roundw
        case rel =>
          refine ⟨k + 1, by go_num, hlt, _, rfl, fbits_lt _ .f32 _ _ _, ?_, ys ++ [y], by simpa using hown1, by simp [HL.out], ?_, ?_, hb1, hbs1⟩
          · rw [cn_fbits, HS.out, hr.out.1, Px1.out, cn_at HD hlt]
            show _ = fop .add .f32 _ ((listOf n (abA D)).getD k 0)
            rw [listOf_getD _ hlt]; rfl
          · rw [List.map_append, List.map_cons, List.map_nil, HE.out, HY.out, listOf_succ]
          · intro z hz
            rcases List.mem_append.1 hz with hz | hz
            · exact HLT.out z hz
            · simp at hz; rw [hz]; exact hyl
        case measure => simp [intOf]; omega
      · have ho : FloatKind.f32.format.order x1 0 = some .gt := ho
        have o1 : FloatKind.f32.format.order x1 0 = some .gt := ho
        go_wp2_with fail
        refine (impl_size _ hx1 _).mono ?_
        rintro e w2 ⟨r, rfl, hr, q, rfl⟩
        go_wp2_with (at_builtin; refine wp_app rfl _ _ 25 rfl w1.heap.size i0 (.float .f32 0) 1 4 Try.underlying25 hi hz0 hz1 hz2 rfl (by decide) rfl (one_cell _ rfl) _ _ _ rfl hown rfl ?c3 ?c4 ?c5 ?_)
        case c3 => unfold maxLen; omega
        case c4 => omega
        case c5 => exact hbs
        intro v' w9 hown1 hb1 hbs1
        have hb1 : Below w1.heap.size w1 w9 := (below_drewN hb _).trans hb1
        clear hown hb hbs
        generalize hy : fbits BinOp.quo FloatKind.f32 1065353216 _ _ = y at hown1
        have hyc : cn .f32 y = abG D n k := by rw [← hy, cn_fbits, cn_one, cn_floatOfInt]; unfold abG; rw [order_at (Px1.out ▸ cn_at HD hlt), o1]
        have hyl : y < 4294967296 := by rw [← hy]; exact fbits_lt _ .f32 _ _ _
        have HY := Lib.hid hyc; clear hyc hy
        go_wp2
        go_roundw
        case rel =>
          refine ⟨k + 1, by go_num, hlt, _, rfl, fbits_lt _ .f32 _ _ _, ?_, ys ++ [y], by simpa using hown1, by simp [HL.out], ?_, ?_, hb1, hbs1⟩
          · rw [cn_fbits, HS.out, hr.out.1, Px1.out, cn_at HD hlt]
            show _ = fop .add .f32 _ ((listOf n (abA D)).getD k 0)
            rw [listOf_getD _ hlt]; rfl
          · rw [List.map_append, List.map_cons, List.map_nil, HE.out, HY.out, listOf_succ]
          · intro z hz
            rcases List.mem_append.1 hz with hz | hz
            · exact HLT.out z hz
            · simp at hz; rw [hz]; exact hyl
        case measure => simp [intOf]; omega
    · have hkn : k = n := by omega
      subst hkn
      go_wp2
      go_ret3
      obtain ⟨ad', cap', rfl, hro⟩ := RepF.of_owns hown HLT.out
      exact ⟨_, ad', _, cap', ys, rfl, by rw [cn_fbits, cn_floatOfInt, HS.out]; rfl, ((hro.below (below_drewN (Below.refl _ _) _)).bounds hs1 (Nat.le_refl _)), HE.out, by omega, (hb1.trans (hb.mono hs1)).trans (below_drewN (Below.refl _ _) _)⟩
theorem impl_LossAbsolute (w : World) (a1 : Option Addr) (c1 : Nat) (xs : List Nat) (h1 : F32s w a1 c1 xs) (a2 : Option Addr) (c2 : Nat) (zs : List Nat) (h2 : F32s w a2 c2 zs) :
    Calls Try.prog 65 #[.slice a1 xs.length c1, .slice a2 zs.length c2] w fun e w' => ∃ (r : Nat) (ad : Option Addr) (n cap : Nat) (ys : List Nat) (b : Bool), e = .returned (.tuple #[.float .f32 r, .slice ad n cap, .bool b]) ∧
      cn .f32 r = (if both xs.length zs.length = true then abL (subE (xs.map (cn .f32)) (zs.map (cn .f32))) xs.length else 0) ∧ RepF w' w.heap.size w'.heap.size ad n cap ys ∧ ys.map (cn .f32) = (if both xs.length zs.length = true then listOf xs.length (abG (subE (xs.map (cn .f32)) (zs.map (cn .f32))) xs.length) else []) ∧ n ≤ 1048576 ∧ b = both xs.length zs.length ∧ Below w.heap.size w w' := by
  cases hb : both xs.length zs.length
  · have m1 := Nat.le_trans h1.len h1.cap
    have m2 := Nat.le_trans h2.len h2.cap
    unfold maxLen at m1 m2
    have c := fun W => impl_differences_no W a1 c1 xs.length zs.length a2 c2 (by omega) (by omega) hb
    skip
    have C := Lib.hid c; clear c
    simp only [Bool.false_eq_true, if_false]
    have F : Calls Try.prog 65 #[.slice a1 xs.length c1, .slice a2 zs.length c2] w fun e w' => e = .returned (.tuple #[.float .f32 0, .slice none 0 0, .bool false]) ∧ w = w' := by
      clear hb
      go_enter Try.func65, Try.ntmps65
      go_wp2_with fail
      refine (C.out _).mono ?_
      rintro e w1 ⟨rfl, rfl⟩
      go_wp2
      go_ret3
      exact ⟨rfl, rfl⟩
    refine F.mono fun e w' ⟨he, hw⟩ => ?_
    subst hw
    exact ⟨0, none, 0, 0, [], false, he, cn_zero, RepF.nil _ _ _, rfl, by omega, rfl, Below.refl _ _⟩
  · simp only [if_true]
    exact (impl_LossAbsolute_yes w a1 c1 xs h1 a2 c2 zs h2  hb).mono fun e w' ⟨r, ad, n, cap, ys, he, hx⟩ => ⟨r, ad, n, cap, ys, true, he, hx.1, hx.2.1, hx.2.2.1, hx.2.2.2.1, rfl, hx.2.2.2.2⟩
end Go.Proofs.Ytaocilimggpdjaa
