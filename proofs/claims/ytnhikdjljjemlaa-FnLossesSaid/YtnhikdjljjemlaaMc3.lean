/- Joined texts 3: Lab Hub Clp Exp Ex2 Log Lo2 Exb Lo3 Lo4 Great. Each is told at its own head. No condition. -/
import Derived.Laws.AppendOwnNone
import Derived.Test.YtnhikdjljjemlaaMc1
import Derived.Test.YtnhikdjljjemlaaMc2
/- What the mean of absolute values and its gradients are. No condition. -/
namespace Go.Proofs.Ytnhikdjljjemlaa
open Go Go.RowKit
set_option linter.unusedVariables false
set_option linter.unusedSimpArgs false
theorem RepF.belowHi {w w' : World} {lo hi B : Nat} {ad : Option Addr} {n cap : Nat} {xs : List Nat} (h : RepF w lo hi ad n cap xs) (hb : Below B w w') (hB : hi ≤ B) : RepF w' lo hi ad n cap xs :=
  h.touch (lo2 := B) (hi2 := w.heap.size) ⟨hb.os, hb.tape, hb.output, hb.size, fun k hk hd => hb.block k (by omega)⟩ (.inl hB)
theorem Touch.setCell {w : World} {lo hi g k : Nat} {v : Value} (h1 : lo ≤ g) (h2 : g < hi) : Touch lo hi w (w.setCell ⟨g, k, none⟩ v) :=
  ⟨rfl, rfl, rfl, by simp [World.setCell], fun j hj hd => Below.heap_setCell _ _ _ _ (by intro e; simp at e; omega)⟩
theorem own_set {w : World} {base g k n : Nat} {v u : Value} {cs : List Value} (h : w.ownsRow base 24 1 v n cs) (hg : g < base) : (w.setCell ⟨g, k, none⟩ u).ownsRow base 24 1 v n cs :=
  ((Row.mk' h).touch (Touch.setCell (lo := 0) (hi := base) (Nat.zero_le _) hg) (.inr (Nat.le_refl _))).own
theorem RepF.lt_hi {w : World} {lo hi g n cap : Nat} {xs : List Nat} (h : RepF w lo hi (some ⟨g, 0, none⟩) n cap xs) : g < hi := h.row.top g rfl
theorem mem_getD {xs : List Nat} {k : Nat} (h : k < xs.length) : xs.getD k 0 ∈ xs := by
  rw [List.getD_eq_getElem?_getD, List.getElem?_eq_getElem h]; exact List.getElem_mem h
def abG (D : Nat → Nat) (n i : Nat) : Nat := match FloatKind.f32.format.order (D i) 0 with
  | some .gt => fop .quo .f32 1065353216 (floatOfInt .f32 n)
  | some .lt => fop .quo .f32 3212836864 (floatOfInt .f32 n)
  | some .eq => 0
  | none => nanOf .f32
def abA (D : Nat → Nat) (i : Nat) : Nat := absW (D i)
def abL (D : Nat → Nat) (n : Nat) : Nat := fop .quo .f32 (sumS (listOf n (abA D)) n) (floatOfInt .f32 n)
theorem cn_one : cn .f32 1065353216 = 1065353216 := by decide +kernel
theorem cn_minus : cn .f32 3212836864 = 3212836864 := by decide +kernel
theorem order_at {x d : Nat} (h : cn .f32 x = d) : FloatKind.f32.format.order d 0 = FloatKind.f32.format.order x 0 := by
  rw [← h, show (0 : Nat) = cn .f32 0 from cn_zero.symm, order_cn, cn_zero]
theorem isN_none {x : Nat} (h : FloatKind.f32.format.order x 0 = none) : isN .f32 x = true := by
  cases hx : isN .f32 x
  · exfalso
    have h0 : isN .f32 0 = false := by decide +kernel
    unfold isN at hx h0
    have h1 : (FloatKind.f32.format.read x).order (FloatKind.f32.format.read 0) = none := h
    cases e1 : FloatKind.f32.format.read x with
    | nan s t => rw [e1] at hx; cases hx
    | infinity s => rw [e1] at h1; cases e2 : FloatKind.f32.format.read 0 with
      | nan s t => rw [e2] at h0; cases h0
      | infinity t => rw [e2] at h1; cases h1
      | number t m p => rw [e2] at h1; cases h1
    | number s m p => rw [e1] at h1; cases e2 : FloatKind.f32.format.read 0 with
      | nan s t => rw [e2] at h0; cases h0
      | infinity t => rw [e2] at h1; cases h1
      | number t m p => rw [e2] at h1; cases h1
  · rfl
set_option maxRecDepth 100000 in
set_option maxHeartbeats 4000000 in
theorem impl_LossAbsolute_yes (w : World) (a1 : Option Addr) (c1 : Nat) (xs : List Nat) (h1 : F32s w a1 c1 xs) (a2 : Option Addr) (c2 : Nat) (zs : List Nat) (h2 : F32s w a2 c2 zs) (hb : both xs.length zs.length = true) :
    Calls Try.prog 26 #[.slice a1 xs.length c1, .slice a2 zs.length c2] w fun e w' => ∃ (r : Nat) (ad : Option Addr) (n cap : Nat) (ys : List Nat), e = .returned (.tuple #[.float .f32 r, .slice ad n cap, .bool true]) ∧
      cn .f32 r = abL (subE (xs.map (cn .f32)) (zs.map (cn .f32))) xs.length ∧ RepF w' w.heap.size w'.heap.size ad n cap ys ∧ ys.map (cn .f32) = listOf xs.length (abG (subE (xs.map (cn .f32)) (zs.map (cn .f32))) xs.length) ∧ n ≤ 1048576 ∧ Below w.heap.size w w' := by
  obtain ⟨i0, hi, hz0, hz1, hz2⟩ := info_parts info_f32
  have c1 := fun W k1 k2 => impl_differences W a1 c1 xs k1 a2 c2 zs k2 hb
  obtain ⟨D, hD⟩ : ∃ D, D = subE (xs.map (cn .f32)) (zs.map (cn .f32)) := ⟨_, rfl⟩
  simp only [← hD] at c1 ⊢
  clear hD
  simp only [both, Bool.and_eq_true, decide_eq_true_eq] at hb
  obtain ⟨⟨hn1, hn⟩, hl⟩ := hb
  obtain ⟨n, e1⟩ : ∃ n, n = xs.length := ⟨_, rfl⟩
  have e2 : n = zs.length := e1.trans hl
  simp only [← e1] at c1 hn hn1 ⊢
  simp only [← e2] at c1 ⊢
  have C1 := Lib.hid c1; clear c1 e1 e2 hl
  go_enter Try.func26, Try.ntmps26
  go_wp2_with fail
  refine (C1.out _ h1 h2).mono ?_
  rintro e w1 ⟨v1, ds, rfl, hown1, hD, hDl, hb1⟩
  obtain ⟨ad, cap, rfl, hr⟩ := RepF.of_owns hown1 hDl.out
  have HD := hD.out
  have hdl := len_of HD
  have hra := hr.arg
  clear hD hown1 C1 h1 h2
  have hs1 := hb1.size
  go_wp2
  go_loopw [10, 11, 26] (fun t v i wr => ∃ k : Nat, i = .int .i64 k ∧ k ≤ n ∧ ∃ s : Nat, t = .float .f32 s ∧ s < 4294967296 ∧ cn .f32 s = sumS (listOf n (abA D)) k ∧ ∃ ys : List Nat, wr.ownsRow w1.heap.size 24 1 v k (ys.map (Value.float .f32)) ∧ ys.length = k ∧ ys.map (cn .f32) = listOf k (abG D n) ∧ (∀ y ∈ ys, y < 4294967296) ∧ Below w1.heap.size w1 wr ∧ w1.heap.size ≤ wr.heap.size) (fun _ _ i _ => n - (intOf i).toNat)
  case atStart => exact ⟨0, rfl, Nat.zero_le _, 0, rfl, by decide, cn_zero, [], World.ownsRow_made _ _ _ (Nat.le_refl _) (Nat.zero_le _) rfl, rfl, rfl, (fun y hy => nomatch hy), below1 _ _, by simp⟩
  case round =>
    obtain ⟨k, rfl, hk, s, rfl, hsl, hs, ys, hown, hyl, hye, hylt, hb, hbs⟩ := hrel
    have HL := Lib.hid hyl; have HE := Lib.hid hye; have HLT := Lib.hid hylt; have HS := Lib.hid hs; clear hyl hye hylt hs
    have h1 := hra.below hb
    by_cases hlt : k < n
    · have hk1 : k < ds.length := by rw [hdl]; exact hlt
      have hx1 : ds.getD k 0 < 4294967296 := hDl.out _ (mem_getD hk1)
      obtain ⟨bx1, offx1, rfl, _, hqx1⟩ := F32s.spot h1 (k := k) hk1
      have hcx := hqx1 k hk1
      obtain ⟨x1, px1⟩ : ∃ x, x = ds.getD k 0 := ⟨_, rfl⟩
      rw [← px1] at hcx
      have Px1 := Lib.hid px1; clear px1 hqx1
      rw [← Px1.out] at hx1
      clear h1
      rcases ho : FloatKind.f32.format.order x1 0 with _ | c
      · have ho : FloatKind.f32.format.order x1 0 = none := ho
        have o1 : FloatKind.f32.format.order x1 0 = none := ho
        go_wp2_with fail
        refine (impl_size _ hx1 _).mono ?_
        rintro e w2 ⟨r, rfl, hr, q, rfl⟩
        go_wp2_with fail
        refine (impl_noNumber _).mono ?_
        rintro e w3 ⟨y, rfl, hy, q2, rfl⟩
        go_wp2_with (at_builtin; refine wp_app rfl _ _ 29 rfl w1.heap.size i0 (.float .f32 0) 1 4 Try.underlying29 hi hz0 hz1 hz2 rfl (by decide) rfl (one_cell _ rfl) _ _ _ rfl hown rfl ?c3 ?c4 ?c5 ?_)
        case c3 => unfold maxLen; omega
        case c4 => omega
        case c5 => exact hbs
        intro v' w9 hown1 hb1 hbs1
        have hb1 : Below w1.heap.size w1 w9 := (below_drewN hb _).trans hb1
        clear hown hb hbs
        have hyc : cn .f32 y = abG D n k := by rw [hy.out.1]; unfold abG; rw [order_at (Px1.out ▸ cn_at HD hlt), o1]
        have hyl : y < 4294967296 := hy.out.2
        have HY := Lib.hid hyc; clear hyc hy
        go_wp2
        go_roundw
        case rel =>
          refine ⟨k + 1, by go_num, hlt, _, rfl, fbits_lt _ .f32 _ _ _, ?_, ys ++ [y], by simpa using hown1, by simp [HL.out], ?_, ?_, hb1, hbs1⟩
          · rw [cn_fbits, HS.out, hr.out.1, Px1.out, cn_at HD hlt]
            show _ = fop .add .f32 _ ((listOf n (abA D)).getD k 0)
            rw [listOf_getD _ hlt]; rfl
          · rw [List.map_append, List.map_cons, List.map_nil, HE.out, HY.out, listOf_succ]
          · intro z hz
            rcases List.mem_append.1 hz with hz | hz
            · exact HLT.out z hz
            · simp at hz; rw [hz]; exact hyl
        case measure => simp [intOf]; omega
      cases c
      · have ho : FloatKind.f32.format.order x1 0 = some .lt := ho
        have o1 : FloatKind.f32.format.order x1 0 = some .lt := ho
        go_wp2_with fail
        refine (impl_size _ hx1 _).mono ?_
        rintro e w2 ⟨r, rfl, hr, q, rfl⟩
        go_wp2_with (at_builtin; refine wp_app rfl _ _ 29 rfl w1.heap.size i0 (.float .f32 0) 1 4 Try.underlying29 hi hz0 hz1 hz2 rfl (by decide) rfl (one_cell _ rfl) _ _ _ rfl hown rfl ?c3 ?c4 ?c5 ?_)
        case c3 => unfold maxLen; omega
        case c4 => omega
        case c5 => exact hbs
        intro v' w9 hown1 hb1 hbs1
        have hb1 : Below w1.heap.size w1 w9 := (below_drewN hb _).trans hb1
        clear hown hb hbs
        generalize hy : fbits BinOp.quo FloatKind.f32 3212836864 _ _ = y at hown1
        have hyc : cn .f32 y = abG D n k := by rw [← hy, cn_fbits, cn_minus, cn_floatOfInt]; unfold abG; rw [order_at (Px1.out ▸ cn_at HD hlt), o1]
        have hyl : y < 4294967296 := by rw [← hy]; exact fbits_lt _ .f32 _ _ _
        have HY := Lib.hid hyc; clear hyc hy
        go_wp2
        go_roundw
        case rel =>
          refine ⟨k + 1, by go_num, hlt, _, rfl, fbits_lt _ .f32 _ _ _, ?_, ys ++ [y], by simpa using hown1, by simp [HL.out], ?_, ?_, hb1, hbs1⟩
          · rw [cn_fbits, HS.out, hr.out.1, Px1.out, cn_at HD hlt]
            show _ = fop .add .f32 _ ((listOf n (abA D)).getD k 0)
            rw [listOf_getD _ hlt]; rfl
          · rw [List.map_append, List.map_cons, List.map_nil, HE.out, HY.out, listOf_succ]
          · intro z hz
            rcases List.mem_append.1 hz with hz | hz
            · exact HLT.out z hz
            · simp at hz; rw [hz]; exact hyl
        case measure => simp [intOf]; omega
      · have ho : FloatKind.f32.format.order x1 0 = some .eq := ho
        have o1 : FloatKind.f32.format.order x1 0 = some .eq := ho
        go_wp2_with fail
        refine (impl_size _ hx1 _).mono ?_
        rintro e w2 ⟨r, rfl, hr, q, rfl⟩
        go_wp2_with (at_builtin; refine wp_app rfl _ _ 29 rfl w1.heap.size i0 (.float .f32 0) 1 4 Try.underlying29 hi hz0 hz1 hz2 rfl (by decide) rfl (one_cell _ rfl) _ _ _ rfl hown rfl ?c3 ?c4 ?c5 ?_)
        case c3 => unfold maxLen; omega
        case c4 => omega
        case c5 => exact hbs
        intro v' w9 hown1 hb1 hbs1
        have hb1 : Below w1.heap.size w1 w9 := (below_drewN hb _).trans hb1
        clear hown hb hbs
        obtain ⟨y, hy⟩ : ∃ y, y = 0 := ⟨_, rfl⟩
        rw [← hy] at hown1
        have hyc : cn .f32 y = abG D n k := by rw [hy, cn_zero]; unfold abG; rw [order_at (Px1.out ▸ cn_at HD hlt), o1]
        have hyl : y < 4294967296 := by omega
        have HY := Lib.hid hyc; clear hyc hy
        go_wp2
        go_roundw
        case rel =>
          refine ⟨k + 1, by go_num, hlt, _, rfl, fbits_lt _ .f32 _ _ _, ?_, ys ++ [y], by simpa using hown1, by simp [HL.out], ?_, ?_, hb1, hbs1⟩
          · rw [cn_fbits, HS.out, hr.out.1, Px1.out, cn_at HD hlt]
            show _ = fop .add .f32 _ ((listOf n (abA D)).getD k 0)
            rw [listOf_getD _ hlt]; rfl
          · rw [List.map_append, List.map_cons, List.map_nil, HE.out, HY.out, listOf_succ]
          · intro z hz
            rcases List.mem_append.1 hz with hz | hz
            · exact HLT.out z hz
            · simp at hz; rw [hz]; exact hyl
        case measure => simp [intOf]; omega
      · have ho : FloatKind.f32.format.order x1 0 = some .gt := ho
        have o1 : FloatKind.f32.format.order x1 0 = some .gt := ho
        go_wp2_with fail
        refine (impl_size _ hx1 _).mono ?_
        rintro e w2 ⟨r, rfl, hr, q, rfl⟩
        go_wp2_with (at_builtin; refine wp_app rfl _ _ 29 rfl w1.heap.size i0 (.float .f32 0) 1 4 Try.underlying29 hi hz0 hz1 hz2 rfl (by decide) rfl (one_cell _ rfl) _ _ _ rfl hown rfl ?c3 ?c4 ?c5 ?_)
        case c3 => unfold maxLen; omega
        case c4 => omega
        case c5 => exact hbs
        intro v' w9 hown1 hb1 hbs1
        have hb1 : Below w1.heap.size w1 w9 := (below_drewN hb _).trans hb1
        clear hown hb hbs
        generalize hy : fbits BinOp.quo FloatKind.f32 1065353216 _ _ = y at hown1
        have hyc : cn .f32 y = abG D n k := by rw [← hy, cn_fbits, cn_one, cn_floatOfInt]; unfold abG; rw [order_at (Px1.out ▸ cn_at HD hlt), o1]
        have hyl : y < 4294967296 := by rw [← hy]; exact fbits_lt _ .f32 _ _ _
        have HY := Lib.hid hyc; clear hyc hy
        go_wp2
        go_roundw
        case rel =>
          refine ⟨k + 1, by go_num, hlt, _, rfl, fbits_lt _ .f32 _ _ _, ?_, ys ++ [y], by simpa using hown1, by simp [HL.out], ?_, ?_, hb1, hbs1⟩
          · rw [cn_fbits, HS.out, hr.out.1, Px1.out, cn_at HD hlt]
            show _ = fop .add .f32 _ ((listOf n (abA D)).getD k 0)
            rw [listOf_getD _ hlt]; rfl
          · rw [List.map_append, List.map_cons, List.map_nil, HE.out, HY.out, listOf_succ]
          · intro z hz
            rcases List.mem_append.1 hz with hz | hz
            · exact HLT.out z hz
            · simp at hz; rw [hz]; exact hyl
        case measure => simp [intOf]; omega
    · have hkn : k = n := by omega
      subst hkn
      go_wp2
      go_ret3
      obtain ⟨ad', cap', rfl, hro⟩ := RepF.of_owns hown HLT.out
      exact ⟨_, ad', _, cap', ys, rfl, by rw [cn_fbits, cn_floatOfInt, HS.out]; rfl, ((hro.below (below_drewN (Below.refl _ _) _)).bounds hs1 (Nat.le_refl _)), HE.out, by omega, (hb1.trans (hb.mono hs1)).trans (below_drewN (Below.refl _ _) _)⟩
theorem impl_LossAbsolute (w : World) (a1 : Option Addr) (c1 : Nat) (xs : List Nat) (h1 : F32s w a1 c1 xs) (a2 : Option Addr) (c2 : Nat) (zs : List Nat) (h2 : F32s w a2 c2 zs) :
    Calls Try.prog 26 #[.slice a1 xs.length c1, .slice a2 zs.length c2] w fun e w' => ∃ (r : Nat) (ad : Option Addr) (n cap : Nat) (ys : List Nat) (b : Bool), e = .returned (.tuple #[.float .f32 r, .slice ad n cap, .bool b]) ∧
      cn .f32 r = (if both xs.length zs.length = true then abL (subE (xs.map (cn .f32)) (zs.map (cn .f32))) xs.length else 0) ∧ RepF w' w.heap.size w'.heap.size ad n cap ys ∧ ys.map (cn .f32) = (if both xs.length zs.length = true then listOf xs.length (abG (subE (xs.map (cn .f32)) (zs.map (cn .f32))) xs.length) else []) ∧ n ≤ 1048576 ∧ b = both xs.length zs.length ∧ Below w.heap.size w w' := by
  cases hb : both xs.length zs.length
  · have m1 := Nat.le_trans h1.len h1.cap
    have m2 := Nat.le_trans h2.len h2.cap
    unfold maxLen at m1 m2
    have c := fun W => impl_differences_no W a1 c1 xs.length zs.length a2 c2 (by omega) (by omega) hb
    skip
    have C := Lib.hid c; clear c
    simp only [Bool.false_eq_true, if_false]
    have F : Calls Try.prog 26 #[.slice a1 xs.length c1, .slice a2 zs.length c2] w fun e w' => e = .returned (.tuple #[.float .f32 0, .slice none 0 0, .bool false]) ∧ w = w' := by
      clear hb
      go_enter Try.func26, Try.ntmps26
      go_wp2_with fail
      refine (C.out _).mono ?_
      rintro e w1 ⟨rfl, rfl⟩
      go_wp2
      go_ret3
      exact ⟨rfl, rfl⟩
    refine F.mono fun e w' ⟨he, hw⟩ => ?_
    subst hw
    exact ⟨0, none, 0, 0, [], false, he, cn_zero, RepF.nil _ _ _, rfl, by omega, rfl, Below.refl _ _⟩
  · simp only [if_true]
    exact (impl_LossAbsolute_yes w a1 c1 xs h1 a2 c2 zs h2  hb).mono fun e w' ⟨r, ad, n, cap, ys, he, hx⟩ => ⟨r, ad, n, cap, ys, true, he, hx.1, hx.2.1, hx.2.2.1, hx.2.2.2.1, rfl, hx.2.2.2.2⟩
end Go.Proofs.Ytnhikdjljjemlaa
/- What a loss that is bent and its gradients are. No condition. -/
namespace Go.Proofs.Ytnhikdjljjemlaa
open Go Go.RowKit
set_option linter.unusedVariables false
set_option linter.unusedSimpArgs false
def leF (a c : Nat) : Bool := FloatKind.f32.format.order a c == some .lt || FloatKind.f32.format.order a c == some .eq
def gtZ (a : Nat) : Bool := FloatKind.f32.format.order a 0 == some .gt
theorem leF_at {r a c : Nat} (h : cn .f32 r = a) : leF r c = leF a c := by
  unfold leF
  rw [← order_cn .f32 r c, ← order_cn .f32 a c, h, ← h, cn_cn]
theorem gtZ_at {r a : Nat} (h : cn .f32 r = a) : gtZ r = gtZ a := by
  unfold gtZ
  rw [← order_cn .f32 r 0, ← order_cn .f32 a 0, h, ← h, cn_cn]
def huG (c : Nat) (D : Nat → Nat) (n i : Nat) : Nat := if leF (absW (D i)) c = true then fop .quo .f32 (D i) (floatOfInt .f32 n) else if gtZ (D i) = true then fop .quo .f32 (cn .f32 c) (floatOfInt .f32 n) else fop .quo .f32 (cn .f32 (Op.negFloat .f32 c)) (floatOfInt .f32 n)
def huA (c : Nat) (D : Nat → Nat) (i : Nat) : Nat := if leF (absW (D i)) c = true then fop .quo .f32 (fop .mul .f32 (D i) (D i)) 1073741824 else fop .mul .f32 (cn .f32 c) (fop .sub .f32 (absW (D i)) (fop .quo .f32 (cn .f32 c) 1073741824))
def huL (c : Nat) (D : Nat → Nat) (n : Nat) : Nat := fop .quo .f32 (sumS (listOf n (huA c D)) n) (floatOfInt .f32 n)
set_option maxRecDepth 100000 in
set_option maxHeartbeats 4000000 in
theorem impl_LossHuber_yes (w : World) (a1 : Option Addr) (c1 : Nat) (xs : List Nat) (h1 : F32s w a1 c1 xs) (a2 : Option Addr) (c2 : Nat) (zs : List Nat) (h2 : F32s w a2 c2 zs) (c : Nat) (hb : both xs.length zs.length = true) :
    Calls Try.prog 27 #[.slice a1 xs.length c1, .slice a2 zs.length c2, .float .f32 c] w fun e w' => ∃ (r : Nat) (ad : Option Addr) (n cap : Nat) (ys : List Nat), e = .returned (.tuple #[.float .f32 r, .slice ad n cap, .bool true]) ∧
      cn .f32 r = huL c (subE (xs.map (cn .f32)) (zs.map (cn .f32))) xs.length ∧ RepF w' w.heap.size w'.heap.size ad n cap ys ∧ ys.map (cn .f32) = listOf xs.length (huG c (subE (xs.map (cn .f32)) (zs.map (cn .f32))) xs.length) ∧ n ≤ 1048576 ∧ Below w.heap.size w w' := by
  obtain ⟨i0, hi, hz0, hz1, hz2⟩ := info_parts info_f32
  have c1 := fun W k1 k2 => impl_differences W a1 c1 xs k1 a2 c2 zs k2 hb
  obtain ⟨D, hD⟩ : ∃ D, D = subE (xs.map (cn .f32)) (zs.map (cn .f32)) := ⟨_, rfl⟩
  simp only [← hD] at c1 ⊢
  clear hD
  simp only [both, Bool.and_eq_true, decide_eq_true_eq] at hb
  obtain ⟨⟨hn1, hn⟩, hl⟩ := hb
  obtain ⟨n, e1⟩ : ∃ n, n = xs.length := ⟨_, rfl⟩
  have e2 : n = zs.length := e1.trans hl
  simp only [← e1] at c1 hn hn1 ⊢
  simp only [← e2] at c1 ⊢
  have C1 := Lib.hid c1; clear c1 e1 e2 hl
  go_enter Try.func27, Try.ntmps27
  go_wp2_with fail
  refine (C1.out _ h1 h2).mono ?_
  rintro e w1 ⟨v1, ds, rfl, hown1, hD, hDl, hb1⟩
  obtain ⟨ad, cap, rfl, hr⟩ := RepF.of_owns hown1 hDl.out
  have HD := hD.out
  have hdl := len_of HD
  have hra := hr.arg
  clear hD hown1 C1 h1 h2
  have hs1 := hb1.size
  go_wp2
  go_loopw [12, 13, 28] (fun t v i wr => ∃ k : Nat, i = .int .i64 k ∧ k ≤ n ∧ ∃ s : Nat, t = .float .f32 s ∧ s < 4294967296 ∧ cn .f32 s = sumS (listOf n (huA c D)) k ∧ ∃ ys : List Nat, wr.ownsRow w1.heap.size 24 1 v k (ys.map (Value.float .f32)) ∧ ys.length = k ∧ ys.map (cn .f32) = listOf k (huG c D n) ∧ (∀ y ∈ ys, y < 4294967296) ∧ Below w1.heap.size w1 wr ∧ w1.heap.size ≤ wr.heap.size) (fun _ _ i _ => n - (intOf i).toNat)
  case atStart => exact ⟨0, rfl, Nat.zero_le _, 0, rfl, by decide, cn_zero, [], World.ownsRow_made _ _ _ (Nat.le_refl _) (Nat.zero_le _) rfl, rfl, rfl, (fun y hy => nomatch hy), below1 _ _, by simp⟩
  case round =>
    obtain ⟨k, rfl, hk, s, rfl, hsl, hs, ys, hown, hyl, hye, hylt, hb, hbs⟩ := hrel
    have HL := Lib.hid hyl; have HE := Lib.hid hye; have HLT := Lib.hid hylt; have HS := Lib.hid hs; clear hyl hye hylt hs
    have h1 := hra.below hb
    by_cases hlt : k < n
    · have hk1 : k < ds.length := by rw [hdl]; exact hlt
      have hx1 : ds.getD k 0 < 4294967296 := hDl.out _ (mem_getD hk1)
      obtain ⟨bx1, offx1, rfl, _, hqx1⟩ := F32s.spot h1 (k := k) hk1
      have hcx := hqx1 k hk1
      obtain ⟨x1, px1⟩ : ∃ x, x = ds.getD k 0 := ⟨_, rfl⟩
      rw [← px1] at hcx
      have Px1 := Lib.hid px1; clear px1 hqx1
      rw [← Px1.out] at hx1
      have hD1 : cn .f32 x1 = D k := by rw [Px1.out, cn_at HD hlt]
      clear h1
      cases hle : leF (absW (D k)) c
      · cases hgt : gtZ (D k)
        · go_wp2_with fail
          refine (impl_size _ hx1 _).mono ?_
          rintro e w2 ⟨r, rfl, hr, q, rfl⟩
          have hra := hr.out.1
          rw [hD1] at hra
          have o1 := (leF_at hra).trans hle
          unfold leF at o1
          simp only [Bool.or_eq_false_iff] at o1
          obtain ⟨o1, o2⟩ := o1
          have o3 : (FloatKind.f32.format.order x1 0 == some .gt) = false := (gtZ_at hD1).trans hgt
          go_wp2_with fail
          refine (impl_size _ hx1 _).mono ?_
          rintro e w3 ⟨r2, rfl, hr2, q2, rfl⟩
          have hra2 := hr2.out.1
          rw [hD1] at hra2
          have HRA := Lib.hid hra; clear hra
          go_wp2_with (at_builtin; refine wp_app rfl _ _ 29 rfl w1.heap.size i0 (.float .f32 0) 1 4 Try.underlying29 hi hz0 hz1 hz2 rfl (by decide) rfl (one_cell _ rfl) _ _ _ rfl hown rfl ?c3 ?c4 ?c5 ?_)
          case c3 => unfold maxLen; omega
          case c4 => omega
          case c5 => exact hbs
          intro v' w9 hown1 hb1 hbs1
          have hb1 : Below w1.heap.size w1 w9 := (below_drewN hb _).trans hb1
          clear hown hb hbs
          generalize hy : fbits BinOp.quo FloatKind.f32 (Op.negFloat FloatKind.f32 c) _ _ = y at hown1
          have hyc : cn .f32 y = huG c D n k := by rw [← hy]; rw [cn_fbits, cn_floatOfInt]; unfold huG; rw [if_neg (by rw [hle]; decide), if_neg (by rw [hgt]; decide)]
          have hyl : y < 4294967296 := by rw [← hy]; exact fbits_lt _ .f32 _ _ _
          have HY := Lib.hid hyc; clear hyc hy
          go_wp2
          go_roundw
          case rel =>
            refine ⟨k + 1, by go_num, hlt, _, rfl, fbits_lt _ .f32 _ _ _, ?_, ys ++ [y], by simpa using hown1, by simp [HL.out], ?_, ?_, hb1, hbs1⟩
            · rw [cn_fbits, HS.out]
              show _ = fop .add .f32 _ ((listOf n (huA c D)).getD k 0)
              rw [listOf_getD _ hlt]
              unfold huA; rw [if_neg (by rw [hle]; decide)]
              rw [cn_fbits, cn_fbits, cn_fbits, hra2, cn_two]
            · rw [List.map_append, List.map_cons, List.map_nil, HE.out, HY.out, listOf_succ]
            · intro z hz
              rcases List.mem_append.1 hz with hz | hz
              · exact HLT.out z hz
              · simp at hz; rw [hz]; exact hyl
          case measure => simp [intOf]; omega
        · go_wp2_with fail
          refine (impl_size _ hx1 _).mono ?_
          rintro e w2 ⟨r, rfl, hr, q, rfl⟩
          have hra := hr.out.1
          rw [hD1] at hra
          have o1 := (leF_at hra).trans hle
          unfold leF at o1
          simp only [Bool.or_eq_false_iff] at o1
          obtain ⟨o1, o2⟩ := o1
          have o3 : (FloatKind.f32.format.order x1 0 == some .gt) = true := (gtZ_at hD1).trans hgt
          go_wp2_with fail
          refine (impl_size _ hx1 _).mono ?_
          rintro e w3 ⟨r2, rfl, hr2, q2, rfl⟩
          have hra2 := hr2.out.1
          rw [hD1] at hra2
          have HRA := Lib.hid hra; clear hra
          go_wp2_with (at_builtin; refine wp_app rfl _ _ 29 rfl w1.heap.size i0 (.float .f32 0) 1 4 Try.underlying29 hi hz0 hz1 hz2 rfl (by decide) rfl (one_cell _ rfl) _ _ _ rfl hown rfl ?c3 ?c4 ?c5 ?_)
          case c3 => unfold maxLen; omega
          case c4 => omega
          case c5 => exact hbs
          intro v' w9 hown1 hb1 hbs1
          have hb1 : Below w1.heap.size w1 w9 := (below_drewN hb _).trans hb1
          clear hown hb hbs
          generalize hy : fbits BinOp.quo FloatKind.f32 c _ _ = y at hown1
          have hyc : cn .f32 y = huG c D n k := by rw [← hy]; rw [cn_fbits, cn_floatOfInt]; unfold huG; rw [if_neg (by rw [hle]; decide), if_pos hgt]
          have hyl : y < 4294967296 := by rw [← hy]; exact fbits_lt _ .f32 _ _ _
          have HY := Lib.hid hyc; clear hyc hy
          go_wp2
          go_roundw
          case rel =>
            refine ⟨k + 1, by go_num, hlt, _, rfl, fbits_lt _ .f32 _ _ _, ?_, ys ++ [y], by simpa using hown1, by simp [HL.out], ?_, ?_, hb1, hbs1⟩
            · rw [cn_fbits, HS.out]
              show _ = fop .add .f32 _ ((listOf n (huA c D)).getD k 0)
              rw [listOf_getD _ hlt]
              unfold huA; rw [if_neg (by rw [hle]; decide)]
              rw [cn_fbits, cn_fbits, cn_fbits, hra2, cn_two]
            · rw [List.map_append, List.map_cons, List.map_nil, HE.out, HY.out, listOf_succ]
            · intro z hz
              rcases List.mem_append.1 hz with hz | hz
              · exact HLT.out z hz
              · simp at hz; rw [hz]; exact hyl
          case measure => simp [intOf]; omega
      · go_wp2_with fail
        refine (impl_size _ hx1 _).mono ?_
        rintro e w2 ⟨r, rfl, hr, q, rfl⟩
        have hra := hr.out.1
        rw [hD1] at hra
        have o1 := (leF_at hra).trans hle
        unfold leF at o1
        have HRA := Lib.hid hra; clear hra
        go_wp2_with (at_builtin; refine wp_app rfl _ _ 29 rfl w1.heap.size i0 (.float .f32 0) 1 4 Try.underlying29 hi hz0 hz1 hz2 rfl (by decide) rfl (one_cell _ rfl) _ _ _ rfl hown rfl ?c3 ?c4 ?c5 ?_)
        case c3 => unfold maxLen; omega
        case c4 => omega
        case c5 => exact hbs
        intro v' w9 hown1 hb1 hbs1
        have hb1 : Below w1.heap.size w1 w9 := (below_drewN hb _).trans hb1
        clear hown hb hbs
        generalize hy : fbits BinOp.quo FloatKind.f32 x1 _ _ = y at hown1
        have hyc : cn .f32 y = huG c D n k := by rw [← hy]; rw [cn_fbits, hD1, cn_floatOfInt]; unfold huG; rw [if_pos hle]
        have hyl : y < 4294967296 := by rw [← hy]; exact fbits_lt _ .f32 _ _ _
        have HY := Lib.hid hyc; clear hyc hy
        go_wp2
        go_roundw
        case rel =>
          refine ⟨k + 1, by go_num, hlt, _, rfl, fbits_lt _ .f32 _ _ _, ?_, ys ++ [y], by simpa using hown1, by simp [HL.out], ?_, ?_, hb1, hbs1⟩
          · rw [cn_fbits, HS.out]
            show _ = fop .add .f32 _ ((listOf n (huA c D)).getD k 0)
            rw [listOf_getD _ hlt]
            unfold huA; rw [if_pos hle]
            rw [cn_fbits, cn_fbits, hD1, cn_two]
          · rw [List.map_append, List.map_cons, List.map_nil, HE.out, HY.out, listOf_succ]
          · intro z hz
            rcases List.mem_append.1 hz with hz | hz
            · exact HLT.out z hz
            · simp at hz; rw [hz]; exact hyl
        case measure => simp [intOf]; omega
    · have hkn : k = n := by omega
      subst hkn
      go_wp2
      go_ret3
      obtain ⟨ad', cap', rfl, hro⟩ := RepF.of_owns hown HLT.out
      exact ⟨_, ad', _, cap', ys, rfl, by rw [cn_fbits, cn_floatOfInt, HS.out]; rfl, ((hro.below (below_drewN (Below.refl _ _) _)).bounds hs1 (Nat.le_refl _)), HE.out, by omega, (hb1.trans (hb.mono hs1)).trans (below_drewN (Below.refl _ _) _)⟩
theorem impl_LossHuber (w : World) (a1 : Option Addr) (c1 : Nat) (xs : List Nat) (h1 : F32s w a1 c1 xs) (a2 : Option Addr) (c2 : Nat) (zs : List Nat) (h2 : F32s w a2 c2 zs) (c : Nat) :
    Calls Try.prog 27 #[.slice a1 xs.length c1, .slice a2 zs.length c2, .float .f32 c] w fun e w' => ∃ (r : Nat) (ad : Option Addr) (n cap : Nat) (ys : List Nat) (b : Bool), e = .returned (.tuple #[.float .f32 r, .slice ad n cap, .bool b]) ∧
      cn .f32 r = (if both xs.length zs.length = true then huL c (subE (xs.map (cn .f32)) (zs.map (cn .f32))) xs.length else 0) ∧ RepF w' w.heap.size w'.heap.size ad n cap ys ∧ ys.map (cn .f32) = (if both xs.length zs.length = true then listOf xs.length (huG c (subE (xs.map (cn .f32)) (zs.map (cn .f32))) xs.length) else []) ∧ n ≤ 1048576 ∧ b = both xs.length zs.length ∧ Below w.heap.size w w' := by
  cases hb : both xs.length zs.length
  · have m1 := Nat.le_trans h1.len h1.cap
    have m2 := Nat.le_trans h2.len h2.cap
    unfold maxLen at m1 m2
    have c := fun W => impl_differences_no W a1 c1 xs.length zs.length a2 c2 (by omega) (by omega) hb
    skip
    have C := Lib.hid c; clear c
    simp only [Bool.false_eq_true, if_false]
    have F : Calls Try.prog 27 #[.slice a1 xs.length c1, .slice a2 zs.length c2, .float .f32 c] w fun e w' => e = .returned (.tuple #[.float .f32 0, .slice none 0 0, .bool false]) ∧ w = w' := by
      clear hb
      go_enter Try.func27, Try.ntmps27
      go_wp2_with fail
      refine (C.out _).mono ?_
      rintro e w1 ⟨rfl, rfl⟩
      go_wp2
      go_ret3
      exact ⟨rfl, rfl⟩
    refine F.mono fun e w' ⟨he, hw⟩ => ?_
    subst hw
    exact ⟨0, none, 0, 0, [], false, he, cn_zero, RepF.nil _ _ _, rfl, by omega, rfl, Below.refl _ _⟩
  · simp only [if_true]
    exact (impl_LossHuber_yes w a1 c1 xs h1 a2 c2 zs h2 c hb).mono fun e w' ⟨r, ad, n, cap, ys, he, hx⟩ => ⟨r, ad, n, cap, ys, true, he, hx.1, hx.2.1, hx.2.2.1, hx.2.2.2.1, rfl, hx.2.2.2.2⟩
end Go.Proofs.Ytnhikdjljjemlaa
/- What square roots, copies of lists and gradients that are not too long are. No condition. -/
namespace Go.Proofs.Ytnhikdjljjemlaa
open Go Go.RowKit Ieee
set_option linter.unusedVariables false
set_option linter.unusedSimpArgs false
theorem RepF.nilcap {w : World} {lo hi : Nat} {ad : Option Addr} {n cap : Nat} {xs : List Nat} (h : RepF w lo hi ad n cap xs) : ad = none → cap = 0 := by
  intro e
  subst e
  rcases h.row.own.2 with ⟨h1, _⟩ | ⟨g, cap', cur, h1, _⟩
  · cases h1; rfl
  · cases h1
/-- a whole list is appended to a row of the call's own -/
theorem wp_cat {P : Program} {ops : Array Oper} {rest : List Oper} {o : Oper} {a : Act} {Q : Exit → Act → World → Prop} {e : TypeId} {W : World} (hgd : o.guard = none) (s x : Operand) (t : TypeId)
    (ho : o.op = .call { callee := .builtin .append, args := #[s, x], argTypes := #[t, t] })
    (base : Nat) (i : TypeInfo) (z : Value) (bytes : Nat) (ht : P.underlying t = some (.slice e)) (hi : P.info? e = some i) (hz : i.zero = some z)
    (hsize : i.size = 1) (hby : i.bytes = bytes) (hzs : z.cells.size = 1)
    (v : Value) (n : Nat) (xs : List Value) (hs : a.eval s = v) (hown : W.ownsRow base e 1 v n xs)
    (ad : Option Addr) (m c : Nat) (news : List Value) (hx : a.eval x = .slice ad m c) (hn : ad = none → c = 0) (hl : news.length = m) (hr : Rd W ad news) (h1 : ∀ u ∈ news, u.oneCell' = true)
    (h63 : n + m ≤ maxLen) (hbytes : (n + m) * bytes ≤ 140737488355328) (hbase : base ≤ W.heap.size)
    (h : ∀ v' w', w'.ownsRow base e 1 v' (n + m) (xs ++ news) → Below base W w' → base ≤ w'.heap.size → wpList P ops Q rest (a.put o.dst v') w') : wpList P ops Q (o :: rest) a W := by
  cases ad with
  | none =>
    obtain rfl := hn rfl
    have h0 : news = [] := by
      rcases hr with hr | ⟨b, off, hb, _⟩
      · exact hr
      · cases hb
    subst h0
    obtain rfl : m = 0 := hl.symm
    exact wpList_append_own_none hgd s x t ho base e i 1 ht hi v n xs hs hown hx (h v W (by simpa using hown) (Below.refl _ _) hbase)
  | some p =>
    refine wpList_append_own W hgd s x t ho base e i z 1 bytes ht hi hz hsize hby hzs (by decide) v n xs hs hown p m c news hx (by omega) ?_ h1 h63 hbytes hbase ?_
    · intro j u hj
      rcases hr with hr | ⟨b, off, hb, _, hc⟩
      · rw [hr] at hj; cases hj
      · cases hb
        have hlt : j < news.length := (List.getElem?_eq_some_iff.1 hj).1
        rw [Addr.add_lit]; exact (hc j hlt).trans hj
    · intro v' w' h2 hg _
      refine h v' w' h2 ((Below.refl _ _).grown hg hbase (fun j hj => (hown.lt j hj).1)) (Nat.le_trans hbase hg.size)
theorem run_sqrt_ext (x : Nat) (w : World) : (callFunc 117 #[.float .f64 x]).run Try.prog w = .ok (.value (.float .f64 (sqbits x w))) (w.drewN (sqdr x)) := by
  rw [run_callFunc_extern (show Try.prog.funcs[117]? = some Try.f117 by kernel_rfl) (by kernel_rfl) (by kernel_rfl) (by kernel_rfl) (e := Extern.MathSqrt.sqrt) (by kernel_rfl), run_sqrt]
  rfl
theorem math_Sqrt (x : Nat) (w : World) : Calls Try.prog 114 #[.float .f64 x] w fun e w' => e = .returned (.float .f64 (sqbits x w)) ∧ w' = w.drewN (sqdr x) := by
  have hd := run_sqrt_ext
  go_enter Try.func114, Try.ntmps114
  go_wp2
  go_ret
  exact ⟨rfl, rfl⟩
theorem impl_RootNumber (x : Nat) (hx : x < 4294967296) (w : World) : Calls Try.prog 109 #[.float .f32 x] w fun e w' => ∃ r, e = .returned (.float .f32 r) ∧ Hid (cn .f32 r = rootE (cn .f32 x) ∧ r < 4294967296) ∧ Dr w w' := by
  have ha := fun w1 w2 w3 => cn_root hx w1 w2 w3
  have HA := Lib.hid ha; clear ha
  go_enter Try.func109, Try.ntmps109
  go_wp2_with (go_at_call 114; refine (math_Sqrt _ _).mono ?_; rintro e w' ⟨rfl, rfl⟩)
  go_ret
  exact ⟨_, rfl, Lib.hid (HA.out _ _ _), _, rfl⟩
set_option maxRecDepth 100000 in
theorem slices_Clone (w : World) (ad : Option Addr) (cap : Nat) (xs : List Nat) (h : F32s w ad cap xs) (hc : ad = none → cap = 0) (hn : xs.length ≤ 1048576) :
    Calls Try.prog 98 #[.slice ad xs.length cap] w fun e w' => ∃ (v : Value), e = .returned v ∧ w'.ownsRow w.heap.size 24 1 v xs.length (xs.map (Value.float .f32)) ∧ Below w.heap.size w w' := by
  obtain ⟨i0, hi, hz0, hz1, hz2⟩ := info_parts info_f32
  obtain ⟨n, hN⟩ : ∃ n, n = xs.length := ⟨_, rfl⟩
  have hr := h.rd
  have h1 : ∀ u ∈ xs.map (Value.float .f32), u.oneCell' = true := by intro u hu; obtain ⟨x, _, rfl⟩ := List.mem_map.1 hu; rfl
  have hl : (xs.map (Value.float .f32)).length = n := by rw [List.length_map, hN]
  rw [← hN] at hn ⊢
  have HL := Lib.hid hl; clear hN hl h
  cases ad with
  | none =>
    obtain rfl := hc rfl
    have h0 : xs = [] := by
      rcases hr with hr | ⟨b, off, hb, _⟩
      · simpa using hr
      · cases hb
    subst h0
    obtain rfl : n = 0 := HL.out.symm
    have he : ∀ w : World, (binOp .eql 29 (.slice none 0 0) (.slice none 0 0)).run Try.prog w = .ok (.bool true) w := fun _ => rfl
    go_enter Try.func98, Try.ntmps98
    go_wp2
    go_ret
    exact ⟨_, rfl, World.ownsRow_nil _ _ _ _, Below.refl _ _⟩
  | some p =>
    have he : ∀ w : World, (binOp .eql 29 (.slice (some p) n cap) (.slice none 0 0)).run Try.prog w = .ok (.bool false) w := fun _ => rfl
    go_enter Try.func98, Try.ntmps98
    go_wp2_with (at_builtin; refine wp_cat rfl _ _ 29 rfl w.heap.size i0 (.float .f32 0) 4 Try.underlying29 hi hz0 hz1 hz2 rfl _ 0 [] rfl (World.ownsRow_made _ _ _ (Nat.le_refl _) (Nat.zero_le _) rfl) (some p) n cap _ rfl (fun h => nomatch h) HL.out (hr.below (below1 _ _) (Nat.le_refl _)) h1 ?c3 ?c4 ?c5 ?_)
    case c3 => unfold maxLen; omega
    case c4 => omega
    case c5 => simp
    intro v' w9 hown1 hb1 hbs1
    go_wp2
    go_ret
    exact ⟨_, rfl, by simpa using hown1, (below1 _ _).trans hb1⟩
def gtC (a c : Nat) : Bool := FloatKind.f32.format.order a c == some .gt
theorem gtC_at {r a c : Nat} (h : cn .f32 r = a) : gtC r c = gtC a c := by
  unfold gtC
  rw [← order_cn .f32 r c, ← order_cn .f32 a c, h, ← h, cn_cn]
def clR (X : List Nat) (n : Nat) : Nat := rootE (dotS X X n)
def clG (c : Nat) (X : List Nat) (n i : Nat) : Nat := fop .mul .f32 (X.getD i 0) (fop .quo .f32 (cn .f32 c) (clR X n))
def clY (c : Nat) (X : List Nat) (n : Nat) : List Nat := if gtC (clR X n) c = true then listOf n (clG c X n) else X
theorem eq_listOf (X : List Nat) : X = listOf X.length (fun i => X.getD i 0) := by
  apply List.ext_getElem
  · simp [listOf]
  · intro i h1 h2
    simp [listOf, h1]
end Go.Proofs.Ytnhikdjljjemlaa
/- What the exponential functions of both sides compute. No condition. -/
namespace Go.Proofs.Ytnhikdjljjemlaa
open Go Go.RowKit
set_option linter.unusedVariables false
set_option linter.unusedSimpArgs false
def O64 : Nat := 4607182418800017408
def kW (j : Nat) : Nat := floatOfInt .f64 ((12 - j : Nat) : Int)
def hornE (t : Nat) : Nat → Nat
  | 0 => O64
  | j + 1 => fop .add .f64 O64 (fop .quo .f64 (fop .mul .f64 t (hornE t j)) (kW j))
def sqE (p : Nat) : Nat → Nat
  | 0 => p
  | j + 1 => fop .mul .f64 (sqE p j) (sqE p j)
/-- the exponential function in 64 bits -/
def expW (x : Nat) : Nat := sqE (hornE (fop .quo .f64 x 4643211215818981376) 12) 8
theorem kW_facts : ∀ j, j < 12 → (floatBits .sub .f64 (kW j) O64 = some (kW (j + 1)) ∧ (FloatKind.f64.format.order (kW j) O64 = some .gt ∨ FloatKind.f64.format.order (kW j) O64 = some .eq) ∧ kW (j + 1) < kW j) := by decide +kernel
theorem kW_end : FloatKind.f64.format.order (kW 12) O64 = some .lt := by decide +kernel
theorem kW_zero : kW 0 = 4622945017495814144 := by decide +kernel
theorem cn_O64 : cn .f64 O64 = O64 := by decide +kernel
theorem cn_kW (j : Nat) : cn .f64 (kW j) = kW j := cn_floatOfInt _ _
theorem cn_256 : cn .f64 4643211215818981376 = 4643211215818981376 := by decide +kernel
def fltOf : Value → Nat
  | .float _ b => b
  | _ => 0
theorem cn_horn {a t k j : Nat} (T : Nat) (hk : k = kW j) (ha : cn .f64 a = hornE T j) (ht : cn .f64 t = T) (w1 w2 w3 : World) : cn .f64 (fbits .add .f64 4607182418800017408 (fbits .quo .f64 (fbits .mul .f64 t a w1) k w2) w3) = hornE T (j + 1) := by
  rw [cn_fbits, cn_fbits, cn_fbits, ha, ht, hk, cn_kW]
  show fop .add .f64 (cn .f64 O64) _ = _
  rw [cn_O64]; rfl
theorem cn_sq {a p j : Nat} (ha : cn .f64 a = sqE p j) (w1 : World) : cn .f64 (fbits .mul .f64 a a w1) = sqE p (j + 1) := by
  rw [cn_fbits, ha]; rfl
set_option maxRecDepth 100000 in
set_option maxHeartbeats 1000000 in
theorem impl_exp64 (x : Nat) (w : World) : Calls Try.prog 103 #[.float .f64 x] w fun e w' => ∃ r, e = .returned (.float .f64 r) ∧ Hid (cn .f64 r = expW (cn .f64 x)) ∧ Dr w w' := by
  go_enter Try.func103, Try.ntmps103
  go_wp2
  generalize ht : fbits BinOp.quo FloatKind.f64 x 4643211215818981376 _ = t
  have htc : cn .f64 t = fop .quo .f64 (cn .f64 x) 4643211215818981376 := by rw [← ht, cn_fbits, cn_256]
  clear ht
  obtain ⟨T, hT⟩ : ∃ T, T = fop .quo .f64 (cn .f64 x) 4643211215818981376 := ⟨_, rfl⟩
  rw [← hT] at htc
  have HT := Lib.hid hT; have HTC := Lib.hid htc
  clear hT htc
  go_loopw [4, 5] (fun p k wr => ∃ j : Nat, j ≤ 12 ∧ ∃ a kv, k = .float .f64 kv ∧ p = .float .f64 a ∧ Hid (kv = kW j ∧ cn .f64 a = hornE T j) ∧ Dr w wr) (fun _ k _ => fltOf k)
  case atStart => exact ⟨0, by omega, _, _, rfl, rfl, Lib.hid ⟨kW_zero.symm, cn_O64⟩, (Dr.refl _).drewN _⟩
  case round =>
    obtain ⟨j, hj, a, kv, rfl, rfl, HK, hd⟩ := hrel
    have HD := Lib.hid hd; clear hd
    by_cases hlt : j < 12
    · obtain ⟨f1, f2, f3⟩ := kW_facts j hlt
      rw [← HK.out.1] at f1 f2 f3
      obtain ⟨kn, hkn⟩ : ∃ kn, kn = kW (j + 1) := ⟨_, rfl⟩
      rw [← hkn] at f1 f3
      have HKN := Lib.hid hkn
      have g1 := fun w => fbits_some f1 w
      have g2 := fdr_some f1
      unfold O64 at f2 g1 g2
      clear hkn f1
      rcases f2 with f2 | f2
      all_goals
        go_wp2
        go_roundw
        case rel => exact ⟨j + 1, hlt, _, _, rfl, rfl, Lib.hid ⟨HKN.out, cn_horn T HK.out.1 HK.out.2 HTC.out _ _ _⟩, HD.out.drewN _⟩
        case measure => simp [fltOf]; omega
    · have hj12 : j = 12 := by omega
      subst hj12
      have f2 := kW_end
      rw [← HK.out.1] at f2
      unfold O64 at f2
      obtain ⟨wo, hwo⟩ : ∃ wo : World, wo = wr := ⟨_, rfl⟩
      subst hwo
      go_wp2
      go_loopw [4, 18] (fun p i wr => ∃ j : Nat, i = .int .i64 j ∧ j ≤ 8 ∧ ∃ a, p = .float .f64 a ∧ Hid (cn .f64 a = sqE (hornE T 12) j) ∧ Dr wo wr) (fun _ i _ => 8 - (intOf i).toNat)
      case atStart => exact ⟨0, rfl, by omega, _, rfl, Lib.hid HK.out.2, Dr.refl _⟩
      case round =>
        obtain ⟨j, rfl, hj, b, rfl, HB, hd⟩ := hrel
        have HD2 := Lib.hid hd; clear hd
        by_cases hlt : j < 8
        · go_wp2
          go_roundw
          case rel => exact ⟨j + 1, by go_num, hlt, _, rfl, Lib.hid (cn_sq HB.out _), HD2.out.drewN _⟩
          case measure => simp [intOf]; omega
        · have hj8 : j = 8 := by omega
          subst hj8
          go_wp2
          go_ret
          exact ⟨_, rfl, Lib.hid (by rw [HB.out, HT.out]; rfl), HD.out.trans HD2.out⟩
def INF64 : Nat := 9218868437227405312
def expS (y : Nat) : Nat := if isN .f64 y = true then nanOf .f64 else if FloatKind.f64.format.order y 4641240890982006784 = some .gt then INF64 else if FloatKind.f64.format.order y 13864612927836782592 = some .lt then 0 else expW y
end Go.Proofs.Ytnhikdjljjemlaa
/- What ExpNumber of both sides returns. No condition. -/
namespace Go.Proofs.Ytnhikdjljjemlaa
open Go Go.RowKit Ieee
set_option linter.unusedVariables false
set_option linter.unusedSimpArgs false
def c200 : Nat := 1128792064
def cm200 : Nat := 3276275712
/-- the exponential function of a number that is not greater than 200 -/
def expF (x : Nat) : Nat := if FloatKind.f32.format.order x cm200 = some .lt then 0 else fcv .f64 (expW (fcv .f32 x .f64)) .f32
theorem order_cnl {k : FloatKind} (x c : Nat) (hc : cn k c = c) : k.format.order (cn k x) c = k.format.order x c := by
  have h := order_cn k x c
  rwa [hc] at h
theorem cn_cm200 : cn .f32 cm200 = cm200 := by decide +kernel
theorem cn_c64 : cn .f64 4641240890982006784 = 4641240890982006784 ∧ cn .f64 13864612927836782592 = 13864612927836782592 := by decide +kernel
theorem c200_wide : fcv .f32 c200 .f64 = 4641240890982006784 ∧ fcv .f32 cm200 .f64 = 13864612927836782592 := by decide +kernel
theorem fin_c200 : Fin single c200 := ⟨false, 1128792064, rfl, by rw [s_ir]; decide⟩
theorem fin_cm200 : Fin single cm200 := ⟨true, 1128792064, by decide +kernel, by rw [s_ir]; decide⟩
theorem isN_wide2 (x : Nat) (w : World) : isN .f64 (cvbits .f32 x .f64 w) = isN .f32 x := by
  have e := cn_wide x w
  cases h : isN .f32 x
  · rw [cn_not h] at e
    rw [← isN_cn, e]
    cases h3 : isN .f64 (fcv .f32 x .f64)
    · rfl
    · exfalso
      unfold isN fcv at h3
      rw [if_neg (by decide)] at h3
      unfold isN at h
      cases hr : FloatKind.f32.format.read x with
      | nan s t => rw [hr] at h; simp [Datum.isNaN] at h
      | number s m p =>
        have hd : FloatKind.f32.decode x = .number s m p := hr
        rw [hd] at h3
        have h4 : (FloatKind.f64.format.read (FloatKind.f64.format.nearest s m p)).isNaN = true := h3
        rw [nearest_not] at h4; cases h4
      | infinity s =>
        have hd : FloatKind.f32.decode x = .infinity s := hr
        rw [hd] at h3
        revert h3
        cases s <;> decide +kernel
  · exact isN_wide x w h
/-- a number that is made wider compares as before -/
theorem order_wide {x c : Nat} (hx : x < 4294967296) (hc : Fin single c) (w : World) : FloatKind.f64.format.order (cvbits .f32 x .f64 w) (fcv .f32 c .f64) = FloatKind.f32.format.order x c := by
  obtain ⟨s, r, e, hr⟩ := word_of single (x := x) (by rw [s_sw]; omega)
  subst e
  rcases Nat.lt_trichotomy r single.infRung with h1 | h1 | h1
  · have hf : Fin single (single.word s r) := ⟨s, r, rfl, h1⟩
    obtain ⟨q, hq, hcv, hval⟩ := wide_fin s h1
    have hw := wide_val hf
    have e2 : cvbits .f32 (single.word s r) .f64 w = fcv .f32 (single.word s r) .f64 := by
      have e := cn_cvbits w (wide_ok (single.word s r))
      rw [cn_not (Fin.not (k := .f32) hf)] at e
      have h3 : isN .f64 (cvbits .f32 (single.word s r) .f64 w) = false := by rw [hcv]; exact read_word_le double s (Nat.le_of_lt hq)
      rw [cn_not h3] at e
      exact e
    rw [e2]
    have hc2 := wide_val hc
    have o1 := order_val (k := .f64) hw.1 hc2.1
    have o2 := order_val (k := .f32) hf hc
    have v1 : val FloatKind.f64.format (fcv .f32 (single.word s r) .f64) = val FloatKind.f32.format (single.word s r) := hw.2
    have v2 : val FloatKind.f64.format (fcv .f32 c .f64) = val FloatKind.f32.format c := hc2.2
    rw [v1, v2] at o1
    rcases rat_tri (val FloatKind.f32.format (single.word s r)) (val FloatKind.f32.format c) with h | h | h
    · rw [o1.1.2 h, o2.1.2 h]
    · rw [o1.2.2.2 h, o2.2.2.2 h]
    · rw [o1.2.1.2 h, o2.2.1.2 h]
  · subst h1
    obtain ⟨t, q, rfl, hq⟩ := hc
    have e1 : single.read (single.word s single.infRung) = .infinity s := read_inf single single_binade s
    have e2 : cvbits .f32 (single.word s single.infRung) .f64 w = double.word s double.infRung := by
      have h3 : isN .f64 (cvbits .f32 (single.word s single.infRung) .f64 w) = false := by rw [isN_wide2]; (cases s <;> decide +kernel)
      have e := cn_cvbits w (wide_ok (single.word s single.infRung))
      rw [cn_not h3] at e
      rw [e]
      cases s <;> decide +kernel
    obtain ⟨q2, hq2, hcv, _⟩ := wide_fin t hq
    have e3 : fcv .f32 (single.word t q) .f64 = double.word t q2 := by
      have hf : Fin single (single.word t q) := ⟨t, q, rfl, hq⟩
      have e := cn_cvbits w (wide_ok (single.word t q))
      rw [cn_not (Fin.not (k := .f32) hf), hcv, cn_not (k := .f64) (read_word_le double t (Nat.le_of_lt hq2))] at e
      exact e.symm
    rw [e2, e3]
    show double.order _ _ = single.order _ _
    unfold Format.order
    obtain ⟨m, p, hm, _⟩ := read_num double t hq2
    obtain ⟨m2, p2, hm2, _⟩ := read_num single t hq
    rw [read_inf double double_binade s, hm, e1, hm2]
    rfl
  · have hn : isN .f32 (single.word s r) = true := nan_word single single_binade s h1 hr
    rw [order_none (.inl hn), order_none (.inl (isN_wide _ w hn))]
theorem expW_nan : expW (nanOf .f64) = nanOf .f64 := by decide +kernel
def okExp (x : Nat) : Prop := FloatKind.f32.format.order x c200 ≠ some .gt ∧ (FloatKind.f32.format.order x cm200 ≠ some .lt → cvWide .f64 (expW (fcv .f32 (cn .f32 x) .f64)) .f32 = false)
/-- narrowed -/
theorem exp_narrow {x r : Nat} (h : cn .f64 r = expW (fcv .f32 (cn .f32 x) .f64)) (hlt : FloatKind.f32.format.order x cm200 ≠ some .lt) (hok : okExp x) (w : World) : cn .f32 (cvbits .f64 r .f32 w) = expF (cn .f32 x) ∧ cvbits .f64 r .f32 w < 4294967296 := by
  have hw := hok.2 hlt
  rw [← h, cvWide_cn] at hw
  refine ⟨?_, cv_lt32 w hw⟩
  rw [cn_cvbits w hw, h]
  unfold expF
  rw [if_neg]
  intro e
  apply hlt
  rw [order_cnl _ _ cn_cm200] at e
  exact e
theorem expF_low {x : Nat} (hlt : FloatKind.f32.format.order x cm200 = some .lt) : expF (cn .f32 x) = 0 := by
  unfold expF
  rw [if_pos]
  rw [order_cnl _ _ cn_cm200]; exact hlt
set_option maxRecDepth 100000 in
theorem impl_ExpNumber (x : Nat) (hx : x < 4294967296) (hok : okExp x) (w : World) : Calls Try.prog 91 #[.float .f32 x] w fun e w' => ∃ r, e = .returned (.float .f32 r) ∧ Hid (cn .f32 r = expF (cn .f32 x) ∧ r < 4294967296) ∧ Dr w w' := by
  have b1 : (FloatKind.f32.format.order x 1128792064 == some .gt) = false := by have h := hok.1; unfold c200 at h; simpa using h
  by_cases hlt : FloatKind.f32.format.order x cm200 = some .lt
  · have hE := expF_low hlt
    have b2 : FloatKind.f32.format.order x 3276275712 = some .lt := hlt
    have HE := Lib.hid hE
    clear hlt hok hE
    go_enter Try.func91, Try.ntmps91
    go_wp2
    go_ret
    exact ⟨0, rfl, Lib.hid ⟨by rw [HE.out]; decide +kernel, by decide⟩, Dr.refl _⟩
  · have b2 : (FloatKind.f32.format.order x 3276275712 == some .lt) = false := by have h := hlt; unfold cm200 at h; simpa using h
    have HN := Lib.hid (fun r (h : cn .f64 r = expW (fcv .f32 (cn .f32 x) .f64)) w => exp_narrow h hlt hok w)
    clear hlt hok
    go_enter Try.func91, Try.ntmps91
    go_wp2_with fail
    refine (impl_exp64 _ _).mono ?_
    rintro e w1 ⟨r, rfl, hr, hd⟩
    have HR := Lib.hid (HN.out r (by rw [hr.out, cn_wide]))
    have HD := Lib.hid hd
    clear hd hr
    go_wp2
    go_ret
    refine ⟨_, rfl, Lib.hid (HR.out _), ?_⟩
    obtain ⟨n, rfl⟩ := HD.out
    exact ((Dr.refl _).drewN _ |>.drewN _).drewN _
end Go.Proofs.Ytnhikdjljjemlaa
/- What the logarithms of both sides compute. No condition. -/
namespace Go.Proofs.Ytnhikdjljjemlaa
open Go Go.RowKit Ieee
set_option linter.unusedVariables false
set_option linter.unusedSimpArgs false
def B64 : Nat := 4503599627370496
def T64 : Nat := 4611686018427387904
def W15 : Nat := 4609434218613702656
def W75 : Nat := 4604930618986332160
theorem nval_down {r : Nat} (h : 2 * B64 ≤ r) : nval double r = 2 * nval double (r - B64) := by
  have hb : double.binade = B64 := by decide +kernel
  have hp : 0 < B64 := by decide
  unfold nval
  rw [hb, if_neg (by omega), if_neg (by omega)]
  have e1 : (r - B64) % B64 = r % B64 := by
    have := Nat.sub_mul_mod (x := r) (n := B64) (k := 1) (by omega)
    rwa [Nat.mul_one] at this
  have e2 : (r - B64) / B64 = r / B64 - 1 := by
    obtain ⟨q, hq⟩ : ∃ q, r = q + B64 := ⟨r - B64, by omega⟩
    rw [hq, Nat.add_sub_cancel, Nat.add_div_right _ hp]
    rfl
  have e3 : 2 ≤ r / B64 := (Nat.le_div_iff_mul_le hp).2 h
  rw [e1, e2]
  obtain ⟨q, hq⟩ : ∃ q, r / B64 = q + 2 := ⟨r / B64 - 2, by omega⟩
  rw [hq, show q + 2 - 1 = q + 1 by omega, show q + 1 - 1 = q by omega, Nat.pow_succ, ← Nat.mul_assoc, Nat.mul_comm 2]
theorem val_pos_word {r : Nat} (hr : r < double.infRung) : val double r = (nval double r : Rat) * (2 : Rat) ^ double.leastPlace := by
  have h := val_word double false hr
  have e : double.word false r = r := rfl
  rw [e] at h
  rw [h]; unfold sg; simp
theorem fin_pos {r : Nat} (hr : r < double.infRung) : Fin double r := ⟨false, r, rfl, hr⟩
theorem two64 : Fin double T64 ∧ val double T64 = 2 := ⟨⟨false, T64, rfl, by rw [d_ir]; decide⟩, by unfold val; decide +kernel⟩
theorem nval_pos {r : Nat} (h : 0 < r) : 0 < nval double r := by
  have := nval_lt (f := double) h
  rw [nval_zero] at this
  exact this
theorem val_down {r : Nat} (h : 2 * B64 ≤ r) (hr : r < double.infRung) : val double r = 2 * val double (r - B64) := by
  have hB : 0 < B64 := by decide
  rw [val_pos_word hr, val_pos_word (by omega), nval_down h, Rat.natCast_mul]
  have : ((2 : Nat) : Rat) = 2 := rfl
  rw [this]; grind
theorem val_ne {r : Nat} (h : 0 < r) (hr : r < double.infRung) : val double r ≠ 0 := by
  rw [val_pos_word hr]
  have h1 : (0 : Rat) < nval double r := by have := nat_rat_lt (nval_pos h); simpa using this
  have h2 := pw_pos double.leastPlace
  have := Rat.mul_pos h1 h2
  grind
/-- half of a number -/
theorem half_word {y : Nat} (h : 2 * B64 ≤ y) (hr : y < double.infRung) : floatBits .quo .f64 y T64 = some (y - B64) := by
  have hB : B64 = 4503599627370496 := rfl
  obtain ⟨r, e1, n1⟩ := quo_nearW (k := .f64) (fin_pos hr) two64.1 (by rw [show val FloatKind.f64.format T64 = 2 from two64.2]; decide +kernel)
  rw [e1]
  have e2 : val FloatKind.f64.format y / val FloatKind.f64.format T64 = val double (y - B64) := by
    show val double y / val double T64 = _
    rw [two64.2, val_down h hr]; grind
  rw [e2] at n1
  rw [Near.exact (f := double) (fin_pos (by omega : y - B64 < double.infRung)) rfl (val_ne (by omega) (by omega)) n1]
/-- the double of a number -/
theorem twice_word {y : Nat} (h : B64 ≤ y) (hr : y + B64 < double.infRung) : floatBits .mul .f64 y T64 = some (y + B64) := by
  have hB : B64 = 4503599627370496 := rfl
  obtain ⟨r, e1, n1⟩ := mul_near (k := .f64) (fin_pos (by omega : y < double.infRung)) two64.1
  rw [e1]
  have e2 : val FloatKind.f64.format y * val FloatKind.f64.format T64 = val double (y + B64) := by
    show val double y * val double T64 = _
    rw [two64.2, val_down (r := y + B64) (by omega) hr, Nat.add_sub_cancel]; grind
  rw [e2] at n1
  rw [Near.exact (f := double) (fin_pos hr) rfl (val_ne (by omega) hr) n1]
theorem order64_ge {y c : Nat} (hy : y < double.infRung) (hc : c < double.infRung) (h : c ≤ y) : FloatKind.f64.format.order y c = some .gt ∨ FloatKind.f64.format.order y c = some .eq := by
  have e : FloatKind.f64.format.order y c = some (compare y c) := order_pos double hy hc
  rw [e]
  rcases Nat.lt_or_eq_of_le h with h1 | h1
  · left; rw [Nat.compare_eq_gt.2 h1]
  · right; rw [Nat.compare_eq_eq.2 h1.symm]
theorem order64_lt {y c : Nat} (hy : y < double.infRung) (hc : c < double.infRung) (h : y < c) : FloatKind.f64.format.order y c = some .lt := by
  have e : FloatKind.f64.format.order y c = some (compare y c) := order_pos double hy hc
  rw [e, Nat.compare_eq_lt.2 h]
def logK1 (y : Nat) : Nat := if y < W15 then 0 else (y - W15) / B64 + 1
def logK2 (y : Nat) : Nat := if y < W75 then (W75 - 1 - y) / B64 + 1 else 0
def kL (j : Nat) : Nat := floatOfInt .f64 (25 - 2 * (j : Int))
def logQ (u : Nat) : Nat → Nat
  | 0 => 0
  | j + 1 => fop .add .f64 (fop .quo .f64 O64 (kL j)) (fop .mul .f64 u (logQ u j))
def logT (y : Nat) (e : Int) : Nat :=
  let s := fop .quo .f64 (fop .sub .f64 y O64) (fop .add .f64 y O64)
  fop .add .f64 (fop .mul .f64 T64 (fop .mul .f64 s (logQ (fop .mul .f64 s s) 13))) (fop .mul .f64 (floatOfInt .f64 e) 4604418534313441775)
/-- the logarithm in 64 bits -/
def logW (y : Nat) : Nat := logT (y - logK1 y * B64 + logK2 (y - logK1 y * B64) * B64) ((logK1 y : Int) - logK2 (y - logK1 y * B64))
theorem K1_unique {y k : Nat} (h1 : y - k * B64 < W15) (h2 : k = 0 ∨ (k - 1) * B64 + W15 ≤ y) : logK1 y = k := by
  have hB : B64 = 4503599627370496 := rfl
  have hW : W15 = 4609434218613702656 := rfl
  unfold logK1
  split
  · rename_i h
    rcases h2 with h2 | h2
    · exact h2.symm
    · exfalso; omega
  · rename_i h
    rcases h2 with h2 | h2
    · subst h2; exfalso; omega
    · have hk : k ≠ 0 := by intro e; subst e; omega
      have : (y - W15) / B64 = k - 1 := by
        apply Nat.div_eq_of_lt_le
        · omega
        · rw [show (k - 1 + 1) = k by omega]; omega
      omega
theorem K2_unique {y k : Nat} (h1 : W75 ≤ y + k * B64) (h2 : k = 0 ∨ y + (k - 1) * B64 < W75) : logK2 y = k := by
  have hB : B64 = 4503599627370496 := rfl
  have hW : W75 = 4604930618986332160 := rfl
  unfold logK2
  split
  · rename_i h
    rcases h2 with h2 | h2
    · subst h2; exfalso; omega
    · have hk : k ≠ 0 := by intro e; subst e; omega
      have : (W75 - 1 - y) / B64 = k - 1 := by
        apply Nat.div_eq_of_lt_le
        · omega
        · rw [show (k - 1 + 1) = k by omega]; omega
      omega
  · rename_i h
    rcases h2 with h2 | h2
    · exact h2.symm
    · exfalso; omega
theorem e_up : ∀ j : Nat, j < 200 → floatBits .add .f64 (floatOfInt .f64 (j : Int)) O64 = some (floatOfInt .f64 ((j + 1 : Nat) : Int)) := by decide +kernel
theorem e_down : ∀ j : Nat, j < 400 → floatBits .sub .f64 (floatOfInt .f64 ((j : Int) - 200 + 1)) O64 = some (floatOfInt .f64 ((j : Int) - 200)) := by decide +kernel
theorem kL_facts : ∀ j, j < 13 → (floatBits .sub .f64 (kL j) T64 = some (kL (j + 1)) ∧ (FloatKind.f64.format.order (kL j) O64 = some .gt ∨ FloatKind.f64.format.order (kL j) O64 = some .eq)) := by decide +kernel
theorem kL_end : FloatKind.f64.format.order (kL 13) O64 = some .lt := by decide +kernel
theorem kL_zero : kL 0 = 4627730092099895296 := by decide +kernel
theorem cn_T64 : cn .f64 T64 = T64 := by decide +kernel
theorem cn_L2 : cn .f64 4604418534313441775 = 4604418534313441775 := by decide +kernel
theorem cn_logq {a u k j : Nat} (U : Nat) (hk : k = kL j) (ha : cn .f64 a = logQ U j) (hu : cn .f64 u = U) (w1 w2 w3 : World) : cn .f64 (fbits .add .f64 (fbits .quo .f64 4607182418800017408 k w1) (fbits .mul .f64 u a w2) w3) = logQ U (j + 1) := by
  rw [cn_fbits, cn_fbits, cn_fbits, ha, hu, hk, show cn .f64 (kL j) = kL j from cn_floatOfInt _ _]
  show fop .add .f64 (fop .quo .f64 (cn .f64 O64) _) _ = _
  rw [cn_O64]; rfl
/-- the last line -/
theorem cn_logt {y s q : Nat} {e : Int} (hy : cn .f64 y = y) (hs : cn .f64 s = fop .quo .f64 (fop .sub .f64 y O64) (fop .add .f64 y O64)) (hq : cn .f64 q = logQ (fop .mul .f64 (cn .f64 s) (cn .f64 s)) 13) (w1 w2 w3 w4 : World) :
    cn .f64 (fbits .add .f64 (fbits .mul .f64 4611686018427387904 (fbits .mul .f64 s q w1) w2) (fbits .mul .f64 (floatOfInt .f64 e) 4604418534313441775 w3) w4) = logT y e := by
  rw [cn_fbits, cn_fbits, cn_fbits, cn_fbits, hq, hs, cn_L2, cn_floatOfInt]
  show fop .add .f64 (fop .mul .f64 (cn .f64 T64) _) _ = _
  rw [cn_T64]; rfl
end Go.Proofs.Ytnhikdjljjemlaa
/- What LogNumber of both sides returns for a positive number. No condition. -/
namespace Go.Proofs.Ytnhikdjljjemlaa
open Go Go.RowKit Ieee
set_option linter.unusedVariables false
set_option linter.unusedSimpArgs false
def fltP (v : Value) : Nat := if fltOf v < 9223372036854775808 then fltOf v + 1 else 0
theorem fltP_kL : ∀ j, j < 13 → fltP (.float .f64 (kL (j + 1))) < fltP (.float .f64 (kL j)) := by decide +kernel
theorem B_val : B64 = 4503599627370496 := rfl
theorem W15_val : W15 = 4609434218613702656 := rfl
theorem W75_val : W75 = 4604930618986332160 := rfl
set_option maxRecDepth 100000 in
set_option maxHeartbeats 2000000 in
theorem impl_LogNumber_pos (x : Nat) (hx0 : 0 < x) (hx1 : x < single.infRung) (y : Nat) (hy : ∀ w, cvbits .f32 x .f64 w = y) (h1 : 874 * B64 ≤ y) (h2 : y < 1152 * B64) (hok : cvWide .f64 (logW y) .f32 = false) (w : World) :
    Calls Try.prog 65 #[.float .f32 x] w fun e w' => ∃ r, e = .returned (.float .f32 r) ∧ Hid (cn .f32 r = fcv .f64 (logW y) .f32 ∧ r < 4294967296) ∧ Dr w w' := by
  have eB := B_val; have eW := W15_val; have eV := W75_val
  have hIR := d_ir
  have o0 : FloatKind.f32.format.order x 0 = some .gt := by
    have e : FloatKind.f32.format.order x 0 = some (compare x 0) := order_pos single hx1 (by rw [s_ir]; decide)
    rw [e, Nat.compare_eq_gt.2 hx0]
  have hn : isN .f32 x = false := Fin.not (k := .f32) ⟨false, x, rfl, hx1⟩
  have o1 : FloatKind.f32.format.order x x = some .eq := by rw [order_self, hn]; rfl
  have hfin : finB x = true := by
    obtain ⟨m, p, e, _⟩ := read_num single false hx1
    have e2 : single.word false x = x := rfl
    rw [e2] at e
    unfold finB
    rw [e]
  have kf := fun W => impl_IsFinite x W
  rw [hfin] at kf
  have fin : ∀ r w, cn .f64 r = logW y → cn .f32 (cvbits .f64 r .f32 w) = fcv .f64 (logW y) .f32 ∧ cvbits .f64 r .f32 w < 4294967296 := by
    intro r w h
    rw [← h, cvWide_cn] at hok
    exact ⟨by rw [cn_cvbits w hok, h], cv_lt32 w hok⟩
  have uq1 := fun k => @K1_unique y k
  have uq2 := fun z k => @K2_unique z k
  obtain ⟨L, hL⟩ : ∃ L, L = logW y := ⟨_, rfl⟩
  have hLd : ∀ y1 k1 k2, logK1 y = k1 → y1 = y - k1 * B64 → logK2 y1 = k2 → L = logT (y1 + k2 * B64) ((k1 : Int) - k2) := by
    intro y1 k1 k2 e1 e2 e3
    rw [hL]; unfold logW; rw [e1, ← e2, e3]
  rw [← hL] at fin ⊢
  have KF := Lib.hid kf; have FI := Lib.hid fin; have U1 := Lib.hid uq1; have U2 := Lib.hid uq2; have LD := Lib.hid hLd; have HY := Lib.hid hy
  have H1 := Lib.hid h1; have H2 := Lib.hid h2; have EB := Lib.hid eB; have EW := Lib.hid eW; have EV := Lib.hid eV; have EI := Lib.hid hIR
  clear hL hLd hok kf fin uq1 uq2 hx0 hx1 hn hfin h1 h2 eB eW eV hIR
  go_enter Try.func65, Try.ntmps65
  go_wp2_with fail
  refine (KF.out _).mono ?_
  rintro e w1 ⟨rfl, hd1⟩
  have HD1 := Lib.hid hd1
  clear hd1 KF
  go_wp2
  clear hy
  go_loopw [3, 4] (fun v ev wr => ∃ k yk : Nat, v = .float .f64 yk ∧ ev = .float .f64 (floatOfInt .f64 (k : Int)) ∧ Hid (yk = y - k * B64 ∧ k ≤ 150 ∧ (k = 0 ∨ (k - 1) * B64 + W15 ≤ y)) ∧ Dr w wr) (fun v _ _ => fltOf v)
  case atStart => exact ⟨0, y, rfl, by rw [show floatOfInt .f64 ((0 : Nat) : Int) = 0 by decide +kernel], Lib.hid ⟨by omega, by omega, .inl rfl⟩, HD1.out.drewN _⟩
  case round =>
    obtain ⟨k, yk, rfl, rfl, HK, hd⟩ := hrel
    have HD := Lib.hid hd; clear hd
    obtain ⟨ek, hek⟩ : ∃ ek, ek = floatOfInt .f64 (k : Int) := ⟨_, rfl⟩
    rw [← hek]
    by_cases hge : W15 ≤ yk
    · have hb : 2 * B64 ≤ yk ∧ yk < double.infRung ∧ k ≤ 140 := by
        have := HK.out; have := H1.out; have := H2.out; (simp only [B_val, W15_val, W75_val, d_ir] at *; omega)
      have oc := order64_ge hb.2.1 (show W15 < double.infRung by rw [EI.out]; decide) hge
      have f1 := half_word hb.1 hb.2.1
      have f2 := e_up k (by omega)
      rw [← hek] at f2
      obtain ⟨en, hen⟩ : ∃ en, en = floatOfInt .f64 ((k + 1 : Nat) : Int) := ⟨_, rfl⟩
      rw [← hen] at f2
      obtain ⟨yn, hyn⟩ : ∃ yn, yn = yk - B64 := ⟨_, rfl⟩
      rw [← hyn] at f1
      have g1 := fun w => fbits_some f1 w
      have g2 := fdr_some f1
      have g3 := fun w => fbits_some f2 w
      have g4 := fdr_some f2
      unfold T64 at g1 g2
      unfold O64 at g3 g4
      have hz := World.drewN_none
      have hlt : yn < yk := by (simp only [B_val, W15_val, W75_val, d_ir] at *; omega)
      have HN := Lib.hid (show yn = y - (k + 1) * B64 ∧ k + 1 ≤ 150 ∧ (k + 1 = 0 ∨ (k + 1 - 1) * B64 + W15 ≤ y) by have := HK.out; (simp only [B_val, W15_val, W75_val, d_ir] at *; omega))
      have HEN := Lib.hid hen
      clear f1 f2 hyn hen hek hb hge
      unfold W15 at oc
      rcases oc with oc | oc
      all_goals
        go_wp2
        go_roundw
        case rel => exact ⟨k + 1, yn, rfl, by rw [HEN.out], HN, HD.out⟩
        case measure => simpa [fltOf] using hlt
    · have hb : yk < double.infRung ∧ yk < W15 := by
        have := HK.out; have := H1.out; have := H2.out; (simp only [B_val, W15_val, W75_val, d_ir] at *; omega)
      have oc := order64_lt hb.1 (show W15 < double.infRung by rw [EI.out]; decide) hb.2
      unfold W15 at oc
      have K1 := Lib.hid (U1.out k (by have := HK.out; omega) HK.out.2.2)
      obtain ⟨wo, hwo⟩ : ∃ wo : World, wo = wr := ⟨_, rfl⟩
      subst hwo
      rw [hek]
      clear hek hge
      go_wp2
      clear oc
      go_loopw [3, 4] (fun v ev wr => ∃ q yq : Nat, v = .float .f64 yq ∧ ev = .float .f64 (floatOfInt .f64 ((k : Int) - q)) ∧ Hid (yq = yk + q * B64 ∧ q ≤ 160 ∧ (q = 0 ∨ yk + (q - 1) * B64 < W75)) ∧ Dr w wr) (fun v _ _ => W75 - fltOf v)
      case atStart => exact ⟨0, yk, rfl, by simp, Lib.hid ⟨by omega, by omega, .inl rfl⟩, HD.out⟩
      case round =>
        clear HD
        obtain ⟨q, yq, rfl, rfl, HQ, hd⟩ := hrel
        have HD := Lib.hid hd; clear hd
        obtain ⟨ek, hek⟩ : ∃ ek, ek = floatOfInt .f64 ((k : Int) - q) := ⟨_, rfl⟩
        rw [← hek]
        by_cases hge : yq < W75
        · have hb : B64 ≤ yq ∧ yq + B64 < double.infRung ∧ q ≤ 155 := by
            have := HQ.out; have := HK.out; have := H1.out; have := H2.out; (simp only [B_val, W15_val, W75_val, d_ir] at *; omega)
          have oc := order64_lt (show yq < double.infRung by omega) (show W75 < double.infRung by rw [EI.out]; decide) hge
          have f1 := twice_word hb.1 hb.2.1
          have f2 := e_down (((k : Int) - q - 1 + 200).toNat) (by have := HK.out; omega)
          rw [show ((((k : Int) - q - 1 + 200).toNat : Nat) : Int) = (k : Int) - q - 1 + 200 by omega, show (k : Int) - q - 1 + 200 - 200 + 1 = (k : Int) - q by omega, show (k : Int) - q - 1 + 200 - 200 = (k : Int) - ((q + 1 : Nat) : Int) by omega, ← hek] at f2
          obtain ⟨en, hen⟩ : ∃ en, en = floatOfInt .f64 ((k : Int) - ((q + 1 : Nat) : Int)) := ⟨_, rfl⟩
          rw [← hen] at f2
          obtain ⟨yn, hyn⟩ : ∃ yn, yn = yq + B64 := ⟨_, rfl⟩
          rw [← hyn] at f1
          have g1 := fun w => fbits_some f1 w
          have g2 := fdr_some f1
          have g3 := fun w => fbits_some f2 w
          have g4 := fdr_some f2
          unfold T64 at g1 g2
          unfold O64 at g3 g4
          have hz := World.drewN_none
          have hlt : W75 - yn < W75 - yq := by (simp only [B_val, W15_val, W75_val, d_ir] at *; omega)
          have HN := Lib.hid (show yn = yk + (q + 1) * B64 ∧ q + 1 ≤ 160 ∧ (q + 1 = 0 ∨ yk + (q + 1 - 1) * B64 < W75) by have := HQ.out; (simp only [B_val, W15_val, W75_val, d_ir] at *; omega))
          have HEN := Lib.hid hen
          clear f1 f2 hyn hen hek hb hge
          unfold W75 at oc
          go_wp2
          go_roundw
          case rel => exact ⟨q + 1, yn, rfl, by rw [HEN.out], HN, HD.out⟩
          case measure => simpa [fltOf] using hlt
        · have hb : yq < double.infRung ∧ W75 ≤ yq := by
            have := HQ.out; have := HK.out; have := H1.out; have := H2.out; (simp only [B_val, W15_val, W75_val, d_ir] at *; omega)
          have oc := order64_ge hb.1 (show W75 < double.infRung by rw [EI.out]; decide) hb.2
          unfold W75 at oc
          have K2 := U2.out yk q (by have := HQ.out; omega) HQ.out.2.2
          have HL := Lib.hid (LD.out yk k q K1.out HK.out.1 K2)
          rw [← HQ.out.1] at HL
          have hcy : cn .f64 yq = yq := cn_not (Fin.not (k := .f64) (fin_pos hb.1))
          have HCY := Lib.hid hcy
          clear hge hb K2 hcy HQ HK
          have oc2 : (FloatKind.f64.format.order yq 4604930618986332160 == some .lt) = false := by rcases oc with e | e <;> rw [e] <;> rfl
          clear oc
          go_wp2
          rw [hek]
          clear hek oc2
          generalize hs : fbits BinOp.quo FloatKind.f64 (fbits BinOp.sub FloatKind.f64 yq 4607182418800017408 _) (fbits BinOp.add FloatKind.f64 yq 4607182418800017408 _) _ = s
          have hsc : cn .f64 s = fop .quo .f64 (fop .sub .f64 yq O64) (fop .add .f64 yq O64) := by
            rw [← hs, cn_fbits, cn_fbits, cn_fbits, HCY.out, show cn .f64 4607182418800017408 = O64 from cn_O64]
          clear hs
          generalize hu : fbits BinOp.mul FloatKind.f64 s s _ = u
          have huc : cn .f64 u = fop .mul .f64 (cn .f64 s) (cn .f64 s) := by rw [← hu, cn_fbits]
          clear hu
          obtain ⟨U, hU⟩ : ∃ U, U = fop .mul .f64 (cn .f64 s) (cn .f64 s) := ⟨_, rfl⟩
          rw [← hU] at huc
          have HS := Lib.hid hsc; have HU := Lib.hid huc; have HUU := Lib.hid hU
          clear hsc huc hU
          obtain ⟨ee, hee⟩ : ∃ ee, ee = floatOfInt .f64 ((k : Int) - q) := ⟨_, rfl⟩
          rw [← hee]
          have HEE := Lib.hid hee; clear hee
          obtain ⟨wp, hwp⟩ : ∃ wp : World, wp = wr := ⟨_, rfl⟩
          subst hwp
          go_loopw [7, 8] (fun qv kv wr => ∃ j : Nat, j ≤ 13 ∧ ∃ a kk, kv = .float .f64 kk ∧ qv = .float .f64 a ∧ Hid (kk = kL j ∧ cn .f64 a = logQ U j) ∧ Dr wp wr) (fun _ kv _ => fltP kv)
          case atStart => exact ⟨0, by omega, _, _, rfl, rfl, Lib.hid ⟨kL_zero.symm, show cn .f64 0 = 0 by decide +kernel⟩, (Dr.refl _).drewN _⟩
          case round =>
            obtain ⟨j, hj, a, kk, rfl, rfl, HK, hd⟩ := hrel
            have HD2 := Lib.hid hd; clear hd
            by_cases hlt : j < 13
            · obtain ⟨f1, f2⟩ := kL_facts j hlt
              have f3 := fltP_kL j hlt
              rw [← HK.out.1] at f1 f2 f3
              obtain ⟨kn, hkn⟩ : ∃ kn, kn = kL (j + 1) := ⟨_, rfl⟩
              rw [← hkn] at f1 f3
              have HKN := Lib.hid hkn; have F3 := Lib.hid f3
              have g1 := fun w => fbits_some f1 w
              have g2 := fdr_some f1
              unfold T64 at g1 g2
              unfold O64 at f2
              clear hkn f1 f3
              rcases f2 with f2 | f2
              all_goals
                go_wp2
                go_roundw
                case rel => exact ⟨j + 1, hlt, _, _, rfl, rfl, Lib.hid ⟨HKN.out, cn_logq U HK.out.1 HK.out.2 HU.out _ _ _⟩, HD2.out.drewN _⟩
                case measure => exact F3.out
            · have hj13 : j = 13 := by omega
              subst hj13
              have f2 := kL_end
              rw [← HK.out.1] at f2
              unfold O64 at f2
              go_wp2
              go_ret
              refine ⟨_, rfl, Lib.hid (FI.out _ _ ?_), ?_⟩
              · rw [HL.out, HEE.out]
                exact cn_logt HCY.out HS.out (by rw [HK.out.2, HUU.out]) _ _ _ _
              · exact (HD.out.trans HD2.out).drewN _
end Go.Proofs.Ytnhikdjljjemlaa
/- Bounds of the exponential function of numbers that are not positive, and of the logarithm. No condition. -/
namespace Go.Proofs.Ytnhikdjljjemlaa
open Go Ieee
set_option linter.unusedVariables false
theorem smallI_of {n : Int} (h1 : -1000000 ≤ n) (h2 : n ≤ 1000000) : smallI n := by unfold smallI; omega
theorem div_btw {n K c d : Rat} (hK : 1 ≤ K) (h1 : -c ≤ n) (h2 : n ≤ d) (hc : 0 ≤ c) (hd : 0 ≤ d) : -c ≤ n / K ∧ n / K ≤ d := by
  have hK0 : K ≠ 0 := by grind
  have hz : n / K * K = n := Rat.div_mul_cancel hK0
  obtain ⟨z, hzz⟩ : ∃ z, z = n / K := ⟨_, rfl⟩
  rw [← hzz] at hz ⊢
  constructor
  · rcases rat_tri z (-c) with h | h | h
    · exfalso
      have h3 : (0 : Rat) ≤ -z := by grind
      have h4 := Rat.mul_le_mul_of_nonneg_left hK h3
      grind
    · grind
    · grind
  · rcases rat_tri z d with h | h | h
    · grind
    · grind
    · exfalso
      have h3 : (0 : Rat) ≤ z := by grind
      have h4 := Rat.mul_le_mul_of_nonneg_left hK h3
      grind
theorem O64_btw : Btw .f64 1 1 O64 := by
  have h := Btw.int (k := .f64) (n := 1) (smallI_of (by decide) (by decide))
  have e : floatOfInt .f64 1 = O64 := by decide +kernel
  rwa [e] at h
theorem T64_btw : Btw .f64 2 2 T64 := by
  have h := Btw.int (k := .f64) (n := 2) (smallI_of (by decide) (by decide))
  have e : floatOfInt .f64 2 = T64 := by decide +kernel
  rwa [e] at h
theorem c256_btw : Btw .f64 256 256 4643211215818981376 := by
  have h := Btw.int (k := .f64) (n := 256) (smallI_of (by decide) (by decide))
  have e : floatOfInt .f64 256 = 4643211215818981376 := by decide +kernel
  rwa [e] at h
theorem kW_btw {j : Nat} (h : j < 12) : Btw .f64 ((12 - j : Nat) : Int) ((12 - j : Nat) : Int) (kW j) := Btw.int (smallI_of (by omega) (by omega))
/-- a quotient whose divisor is at least 1 -/
theorem Btw.quo1 {k : FloatKind} {c d p q : Int} {x y : Nat} (hx : Btw k (-c) d x) (hy : Btw k p q y) (hp : 1 ≤ p) (hc : 0 ≤ c) (hd : 0 ≤ d) (h1 : smallI c) (h2 : smallI d) : Btw k (-c) d (fop .quo k x y) := by
  have c0 : (0 : Rat) ≤ (c : Rat) := by exact_mod_cast hc
  have d0 : (0 : Rat) ≤ (d : Rat) := by exact_mod_cast hd
  have p1 : (1 : Rat) ≤ (p : Rat) := by exact_mod_cast hp
  have hK : (1 : Rat) ≤ val k.format y := Rat.le_trans p1 hy.lo
  have l := hx.lo
  rw [Rat.intCast_neg] at l
  have hm := div_btw hK l hx.hi c0 d0
  exact Btw.quoq hx.fin hy.fin (by grind) (by unfold smallI at *; omega) h2 (by rw [Rat.intCast_neg]; exact hm.1) hm.2
theorem neg_mul_btw {p q : Rat} (h1 : -1 ≤ p) (h2 : p ≤ 0) (h3 : 0 ≤ q) (h4 : q ≤ 1) : -1 ≤ p * q ∧ p * q ≤ 0 := by
  have a := Rat.mul_le_mul_of_nonneg_left h4 (show (0 : Rat) ≤ -p by grind)
  have b := Rat.mul_nonneg (show (0 : Rat) ≤ -p by grind) h3
  constructor <;> grind
theorem unit_mul_btw {p q : Rat} (h1 : 0 ≤ p) (h2 : p ≤ 1) (h3 : 0 ≤ q) (h4 : q ≤ 1) : 0 ≤ p * q ∧ p * q ≤ 1 := by
  have a := Rat.mul_le_mul_of_nonneg_left h4 h1
  have b := Rat.mul_nonneg h1 h3
  constructor <;> grind
theorem horn_btw {t : Nat} (ht : Btw .f64 (-1) 0 t) : ∀ j, j ≤ 12 → Btw .f64 0 1 (hornE t j)
  | 0, _ => O64_btw.mono (by decide) (by decide)
  | j + 1, h => by
    have ih := horn_btw ht j (by omega)
    have l1 := ht.lo; have l2 := ht.hi; have l3 := ih.lo; have l4 := ih.hi
    have hm := neg_mul_btw (by simpa using l1) (by simpa using l2) (by simpa using l3) (by simpa using l4)
    have m : Btw .f64 (-1) 0 (fop .mul .f64 t (hornE t j)) := Btw.mulq ht.fin ih.fin (smallI_of (by decide) (by decide)) (smallI_of (by decide) (by decide)) (by simpa using hm.1) (by simpa using hm.2)
    have q : Btw .f64 (-1) 0 (fop .quo .f64 (fop .mul .f64 t (hornE t j)) (kW j)) := Btw.quo1 m (kW_btw (by omega)) (by omega) (by decide) (by decide) (smallI_of (by decide) (by decide)) (smallI_of (by decide) (by decide))
    have a := Btw.add O64_btw q (smallI_of (by decide) (by decide)) (smallI_of (by decide) (by decide))
    exact a
theorem sq_btw {p : Nat} (hp : Btw .f64 0 1 p) : ∀ j, Btw .f64 0 1 (sqE p j)
  | 0 => hp
  | j + 1 => by
    have ih := sq_btw hp j
    have l3 := ih.lo; have l4 := ih.hi
    have hm := unit_mul_btw (by simpa using l3) (by simpa using l4) (by simpa using l3) (by simpa using l4)
    exact Btw.mulq ih.fin ih.fin (smallI_of (by decide) (by decide)) (smallI_of (by decide) (by decide)) (by simpa using hm.1) (by simpa using hm.2)
/-- the exponential function of a number from -200 to 0 -/
theorem exp_btw {x : Nat} (hx : Btw .f64 (-200) 0 x) : Btw .f64 0 1 (expW x) := by
  unfold expW
  refine sq_btw (horn_btw ?_ 12 (by decide)) 8
  have l1 := hx.lo; have l2 := hx.hi
  have l1' : (-200 : Rat) ≤ val double x := by have h : (-200 : Rat) ≤ val FloatKind.f64.format x := by { simpa using l1 }
                                               exact h
  have l2' : val double x ≤ 0 := by have h : val FloatKind.f64.format x ≤ 0 := by { simpa using l2 }
                                    exact h
  have c1 : val double 4643211215818981376 = 256 := by
    have h1 := c256_btw.lo; have h2 := c256_btw.hi
    have h1' : (256 : Rat) ≤ val double 4643211215818981376 := h1
    have h2' : val double 4643211215818981376 ≤ 256 := h2
    grind
  refine Btw.quoq hx.fin c256_btw.fin ?_ (smallI_of (by decide) (by decide)) (smallI_of (by decide) (by decide)) ?_ ?_
  · show val double _ ≠ 0
    rw [c1]; decide +kernel
  · show ((-1 : Int) : Rat) ≤ val double x / val double _
    rw [c1]
    have hz : val double x / 256 * 256 = val double x := Rat.div_mul_cancel (by decide +kernel)
    have : ((-1 : Int) : Rat) = -1 := rfl
    rw [this]; grind
  · show val double x / val double _ ≤ ((0 : Int) : Rat)
    rw [c1]
    have hz : val double x / 256 * 256 = val double x := Rat.div_mul_cancel (by decide +kernel)
    have : ((0 : Int) : Rat) = 0 := rfl
    rw [this]; grind
theorem kL_btw {j : Nat} (h : j < 13) : Btw .f64 (25 - 2 * (j : Int)) (25 - 2 * (j : Int)) (kL j) := Btw.int (smallI_of (by omega) (by omega))
theorem logQ_btw {u : Nat} (hu : Btw .f64 (-1) 1 u) : ∀ j : Nat, j ≤ 13 → Btw .f64 (-(j : Int)) j (logQ u j)
  | 0, _ => by
    have h := Btw.int (k := .f64) (n := 0) (smallI_of (by decide) (by decide))
    have e : floatOfInt .f64 0 = 0 := by decide +kernel
    rw [e] at h
    exact h
  | j + 1, h => by
    have ih := logQ_btw hu j (by omega)
    have a : Btw .f64 (-1) 1 (fop .quo .f64 O64 (kL j)) := Btw.quo1 (O64_btw.mono (by decide) (by decide)) (kL_btw (by omega)) (by omega) (by decide) (by decide) (smallI_of (by decide) (by decide)) (smallI_of (by decide) (by decide))
    have b := Btw.mul hu ih (by decide) (by omega) (smallI_of (by omega) (by omega))
    have c := Btw.add a b (smallI_of (by omega) (by omega)) (smallI_of (by omega) (by omega))
    exact c.mono (by omega) (by omega)
theorem log2_btw : Btw .f64 (-1) 1 4604418534313441775 := by
  have hf : Fin double 4604418534313441775 := fin_pos (by rw [d_ir]; decide)
  have ho : val double 4604418534313441775 ≤ 1 := by
    have h1 := O64_btw.hi
    have h2 : val double O64 ≤ 1 := h1
    have h3 : val double 4604418534313441775 ≤ val double O64 := by
      rw [val_pos_word (by rw [d_ir]; decide), val_pos_word (r := O64) (by rw [d_ir]; decide)]
      exact Rat.mul_le_mul_of_nonneg_right (nat_rat_le (nval_le (by decide))) (Rat.le_of_lt (pw_pos _))
    grind
  have h0 : 0 ≤ val double 4604418534313441775 := by
    rw [val_pos_word (by rw [d_ir]; decide)]
    exact Rat.mul_nonneg Rat.natCast_nonneg (Rat.le_of_lt (pw_pos _))
  refine ⟨hf, ?_, ?_⟩
  · show ((-1 : Int) : Rat) ≤ val double _
    have : ((-1 : Int) : Rat) = -1 := rfl
    rw [this]; grind
  · show val double _ ≤ ((1 : Int) : Rat)
    have : ((1 : Int) : Rat) = 1 := rfl
    rw [this]; exact ho
theorem logT_btw {y : Nat} {e : Int} (hy : Btw .f64 0 2 y) (he : -200 ≤ e ∧ e ≤ 200) : Btw .f64 (-226) 226 (logT y e) := by
  have n : Btw .f64 (-1) 1 (fop .sub .f64 y O64) := Btw.sub hy O64_btw (smallI_of (by decide) (by decide)) (smallI_of (by decide) (by decide))
  have d : Btw .f64 1 3 (fop .add .f64 y O64) := Btw.add hy O64_btw (smallI_of (by decide) (by decide)) (smallI_of (by decide) (by decide))
  have s : Btw .f64 (-1) 1 (fop .quo .f64 (fop .sub .f64 y O64) (fop .add .f64 y O64)) := Btw.quo1 n d (by decide) (by decide) (by decide) (smallI_of (by decide) (by decide)) (smallI_of (by decide) (by decide))
  have u : Btw .f64 (-1) 1 (fop .mul .f64 (fop .quo .f64 (fop .sub .f64 y O64) (fop .add .f64 y O64)) (fop .quo .f64 (fop .sub .f64 y O64) (fop .add .f64 y O64))) := Btw.mul s s (by decide) (by decide) (smallI_of (by decide) (by decide))
  have q := logQ_btw u 13 (by decide)
  have a : Btw .f64 (-13) 13 _ := Btw.mul s q (by decide) (by decide) (smallI_of (by decide) (by decide))
  have b : Btw .f64 (-26) 26 _ := Btw.mul (c := 2) (T64_btw.mono (by decide) (by decide)) a (by decide) (by decide) (smallI_of (by decide) (by decide))
  have c : Btw .f64 (-200) 200 (floatOfInt .f64 e) := (Btw.int (smallI_of (by omega) (by omega))).mono (by omega) (by omega)
  have f : Btw .f64 (-200) 200 _ := Btw.mul c log2_btw (by decide) (by decide) (smallI_of (by decide) (by decide))
  exact Btw.add b f (smallI_of (by decide) (by decide)) (smallI_of (by decide) (by decide))
theorem word_btw {y : Nat} (h : y ≤ T64) : Btw .f64 0 2 y := by
  have hr : y < double.infRung := by have : T64 < double.infRung := by { rw [d_ir]; decide }
                                     omega
  refine ⟨fin_pos hr, ?_, ?_⟩
  · show ((0 : Int) : Rat) ≤ val double y
    have : ((0 : Int) : Rat) = 0 := rfl
    rw [this, val_pos_word hr]
    exact Rat.mul_nonneg Rat.natCast_nonneg (Rat.le_of_lt (pw_pos _))
  · have h1 := T64_btw.hi
    refine Rat.le_trans ?_ h1
    show val double y ≤ val double T64
    rw [val_pos_word hr, val_pos_word (r := T64) (by rw [d_ir]; decide)]
    exact Rat.mul_le_mul_of_nonneg_right (nat_rat_le (nval_le h)) (Rat.le_of_lt (pw_pos _))
theorem K_bounds {y : Nat} (h1 : 874 * B64 ≤ y) (h2 : y < 1152 * B64) : logK1 y ≤ 150 ∧ logK2 (y - logK1 y * B64) ≤ 160 ∧ y - logK1 y * B64 + logK2 (y - logK1 y * B64) * B64 ≤ T64 := by
  have hB : B64 = 4503599627370496 := rfl
  have hW : W15 = 4609434218613702656 := rfl
  have hV : W75 = 4604930618986332160 := rfl
  have hT : T64 = 4611686018427387904 := rfl
  have k1 : logK1 y ≤ 150 ∧ y - logK1 y * B64 < W15 ∧ (logK1 y = 0 ∨ 874 * B64 ≤ y - logK1 y * B64) := by
    unfold logK1
    simp only [hB, hW] at *
    split
    · omega
    · have := Nat.div_add_mod (y - 4609434218613702656) 4503599627370496
      have := Nat.mod_lt (y - 4609434218613702656) (show 4503599627370496 > 0 by decide)
      omega
  obtain ⟨z, hz⟩ : ∃ z, z = y - logK1 y * B64 := ⟨_, rfl⟩
  rw [← hz] at k1 ⊢
  have hz2 : 874 * B64 ≤ z := by
    rcases k1.2.2 with h | h
    · rw [hz, h]; simpa using h1
    · exact h
  refine ⟨k1.1, ?_⟩
  have k2 := k1.2.1
  unfold logK2
  simp only [hB, hW, hV, hT] at *
  split
  · have := Nat.div_add_mod (4604930618986332160 - 1 - z) 4503599627370496
    have := Nat.mod_lt (4604930618986332160 - 1 - z) (show 4503599627370496 > 0 by decide)
    omega
  · omega
/-- the logarithm of a number is small -/
theorem logW_btw {y : Nat} (h1 : 874 * B64 ≤ y) (h2 : y < 1152 * B64) : Btw .f64 (-226) 226 (logW y) := by
  obtain ⟨b1, b2, b3⟩ := K_bounds h1 h2
  unfold logW
  exact logT_btw (word_btw b3) (by omega)
end Go.Proofs.Ytnhikdjljjemlaa
/- What the reference's logarithm returns; both sides at every positive number, and at none. No condition. -/
namespace Go.Proofs.Ytnhikdjljjemlaa
open Go Go.RowKit Ieee
set_option linter.unusedVariables false
set_option linter.unusedSimpArgs false
set_option exponentiation.threshold 2000 in
theorem wide_bounds {x : Nat} (h0 : 0 < x) (h1 : x < single.infRung) : ∃ q, (∀ w, cvbits .f32 x .f64 w = q) ∧ 874 * B64 ≤ q ∧ q < 1152 * B64 := by
  obtain ⟨q, hq, hc, hv⟩ := wide_fin false h1
  have e1 : single.word false x = x := rfl
  have e2 : double.word false q = q := rfl
  rw [e1, e2] at hc
  have hb : double.binade = B64 := by decide +kernel
  refine ⟨q, hc, ?_, ?_⟩
  · rcases Nat.lt_or_ge q (874 * B64) with h | h
    · exfalso
      have h2 := nval_lt (f := double) h
      have h3 := nval_head double 873
      rw [hb] at h3
      rw [h3, hv] at h2
      have h4 : 1 ≤ nval single x := by
        have := nval_lt (f := single) h0
        rw [nval_zero] at this
        exact this
      have h5 : B64 * 2 ^ 873 = 2 ^ 925 := by decide +kernel
      rw [h5] at h2
      have := Nat.mul_le_mul_right (2 ^ 925) h4
      omega
    · exact h
  · rcases Nat.lt_or_ge q (1152 * B64) with h | h
    · exact h
    · exfalso
      have h2 := nval_le (f := double) h
      have h3 := nval_head double 1151
      rw [hb] at h3
      rw [h3, hv] at h2
      have h4 := nval_lt (f := single) h1
      have h6 : nval single single.infRung = 2 ^ 277 := by decide +kernel
      rw [h6] at h4
      have h5 : B64 * 2 ^ 1151 = 2 ^ 278 * 2 ^ 925 := by decide +kernel
      rw [h5] at h2
      have h7 := Nat.le_of_mul_le_mul_right h2 (Nat.two_pow_pos 925)
      have h8 : (2 : Nat) ^ 278 = 2 * 2 ^ 277 := by decide +kernel
      omega
def logG (x : Nat) : Nat := if isN .f32 x = true then nanOf .f32 else fcv .f64 (logW (fcv .f32 x .f64)) .f32
theorem math_IsInf (y : Nat) (hy : (FloatKind.f64.format.order y 9218868437227405311 == some .gt) = false) (w : World) : Calls Try.prog 107 #[.float .f64 y, .int .i64 1] w fun e w' => e = .returned (.bool false) ∧ w = w' := by
  go_enter Try.func107, Try.ntmps107
  go_wp2
  go_ret
  exact ⟨rfl, rfl⟩
end Go.Proofs.Ytnhikdjljjemlaa
/- What LogNumber returns for a positive number, and for none, on both sides. No condition. -/
namespace Go.Proofs.Ytnhikdjljjemlaa
open Go Go.RowKit Ieee
set_option linter.unusedVariables false
set_option linter.unusedSimpArgs false
def logIn (x : Nat) : Prop := isN .f32 x = true ∨ (0 < x ∧ x < single.infRung)
theorem logG_nan {x : Nat} (h : isN .f32 x = true) : logG (cn .f32 x) = nanOf .f32 := by unfold logG; rw [isN_cn, if_pos h]
theorem logG_pos {x y : Nat} (h1 : x < single.infRung) (hy : ∀ w, cvbits .f32 x .f64 w = y) : logG (cn .f32 x) = fcv .f64 (logW y) .f32 := by
  have hn : isN .f32 x = false := Fin.not (k := .f32) ⟨false, x, rfl, h1⟩
  unfold logG
  rw [isN_cn, hn, if_neg (by decide), cn_not hn]
  have e := cn_wide x (default : World)
  have hy2 : isN .f64 y = false := by rw [← hy (default : World), isN_wide2]; exact hn
  rw [hy, cn_not hn, cn_not hy2] at e
  rw [← e]
set_option maxRecDepth 100000 in
theorem impl_LogNumber_any (x : Nat) (h : logIn x) (w : World) :
    Calls Try.prog 65 #[.float .f32 x] w fun e w' => ∃ r, e = .returned (.float .f32 r) ∧ Hid (cn .f32 r = logG (cn .f32 x) ∧ r < 4294967296) ∧ Dr w w' := by
  rcases h with h | ⟨h0, h1⟩
  · have o1 : FloatKind.f32.format.order x 0 = none := order_none (.inl h)
    have o2 : FloatKind.f32.format.order x x = none := order_none (.inl h)
    rw [logG_nan h]
    clear h
    go_enter Try.func65, Try.ntmps65
    go_wp2_with fail
    refine (impl_noNumber _).mono ?_
    rintro e w1 ⟨r, rfl, hr, hd⟩
    have HD := Lib.hid hd
    clear hd
    go_wp2
    go_ret
    exact ⟨r, rfl, hr, HD.out⟩
  · obtain ⟨y, hy, b1, b2⟩ := wide_bounds h0 h1
    rw [logG_pos h1 hy]
    have hb := logW_btw b1 b2
    exact impl_LogNumber_pos x h0 h1 y hy b1 b2 (hb.narrow (smallI_of (by decide) (by decide)) (smallI_of (by decide) (by decide))).1 w
end Go.Proofs.Ytnhikdjljjemlaa
/- What the index of the greatest number, and of the best step, are. No condition. -/
namespace Go.Proofs.Ytnhikdjljjemlaa
open Go Go.RowKit
set_option linter.unusedVariables false
def gtF (a b : Nat) : Bool := FloatKind.f32.format.order a b == some .gt
def ltF (a b : Nat) : Bool := FloatKind.f32.format.order a b == some .lt
theorem gtF_self (a : Nat) : gtF a a = false := by unfold gtF; rw [order_self]; split <;> rfl
/-- the first of the first k numbers that none behind it is greater than, on the way -/
def gBest (xs : List Nat) : Nat → Nat
  | 0 => 0
  | k + 1 => if gtF (xs.getD k 0) (xs.getD (gBest xs k) 0) = true then k else gBest xs k
theorem gBest_one (xs : List Nat) : gBest xs 1 = 0 := by simp [gBest]
theorem gBest_le (xs : List Nat) : ∀ k, gBest xs k ≤ k - 1
  | 0 => Nat.le_refl _
  | k + 1 => by
    have := gBest_le xs k
    unfold gBest
    split <;> omega
def bStep (xs : List Nat) : Nat → Int
  | 0 => -1
  | k + 1 => if isN .f32 (xs.getD k 0) = false ∧ (bStep xs k < 0 ∨ ltF (xs.getD k 0) (xs.getD (bStep xs k).toNat 0) = true) then k else bStep xs k
theorem bStep_bd (xs : List Nat) : ∀ k : Nat, -1 ≤ bStep xs k ∧ bStep xs k < k
  | 0 => by simp [bStep]
  | k + 1 => by
    have := bStep_bd xs k
    unfold bStep
    split <;> omega
theorem impl_greatestOf (w : World) (ad : Option Addr) (cap : Nat) (xs : List Nat) (h : F32s w ad cap xs) (hn : xs.length ≤ 1048576) (hp : 1 ≤ xs.length) :
    Calls Try.prog 66 #[.slice ad xs.length cap] w fun e w' => e = .returned (.int .i64 (gBest xs xs.length)) ∧ w = w' := by
  obtain ⟨n, hN⟩ : ∃ n, n = xs.length := ⟨_, rfl⟩
  rw [← hN] at hn hp ⊢
  have HN := Lib.hid hN; clear hN
  go_enter Try.func66, Try.ntmps66
  go_wp2
  go_loop [3, 8] (fun q i => ∃ k g : Nat, i = .int .i64 k ∧ k ≤ n ∧ q = .int .i64 g ∧ g = gBest xs k) (fun _ i => n - (intOf i).toNat)
  case atStart => exact ⟨0, 0, rfl, Nat.zero_le _, rfl, rfl⟩
  case round =>
    obtain ⟨k, g, rfl, hk, rfl, hg⟩ := hrel
    have hgl : g ≤ k - 1 := by rw [hg]; exact gBest_le xs k
    have HG := Lib.hid hg; clear hg
    by_cases hlt : k < n
    · have hkx : k < xs.length := by rw [← HN.out]; exact hlt
      obtain ⟨b, off, rfl, _, hc⟩ := h.spot (k := k) hkx
      have hc1 := hc k hkx
      have hc2 := hc g (by omega)
      have hgn : g < n := by omega
      obtain ⟨x, hx⟩ : ∃ x, x = xs.getD k 0 := ⟨_, rfl⟩
      obtain ⟨y, hy⟩ : ∃ y, y = xs.getD g 0 := ⟨_, rfl⟩
      rw [← hx] at hc1
      rw [← hy] at hc2
      have HX := Lib.hid hx; have HY := Lib.hid hy; clear hx hy hc
      cases ho : (FloatKind.f32.format.order x y == some .gt)
      · have HO := Lib.hid ho
        go_wp2
        go_round
        case rel => exact ⟨k + 1, g, by go_num, hlt, rfl, by unfold gBest; rw [if_neg (by rw [← HG.out, ← HX.out, ← HY.out, gtF, HO.out]; simp)]; exact HG.out⟩
        case measure => simp [intOf]; omega
      · have HO := Lib.hid ho
        go_wp2
        go_round
        case rel => exact ⟨k + 1, k, by go_num, hlt, rfl, by unfold gBest; rw [if_pos (by rw [← HG.out, ← HX.out, ← HY.out, gtF, HO.out])]⟩
        case measure => simp [intOf]; omega
    · have hkn : k = n := by omega
      subst hkn
      go_wp2
      go_ret
      exact ⟨by rw [HG.out]; rfl, rfl⟩
theorem impl_GreatestOf_ (w : World) (ad : Option Addr) (cap : Nat) (xs : List Nat) (h : F32s w ad cap xs) (v : Int) (b : Bool) (hv : Hid (v = (if 1 ≤ xs.length ∧ xs.length ≤ 256 then (gBest xs xs.length : Int) else 0))) (hb : Hid (b = decide (1 ≤ xs.length ∧ xs.length ≤ 256))) :
    Calls Try.prog 29 #[.slice ad xs.length cap] w fun e w' => e = .returned (.tuple #[.int .i64 v, .bool b]) ∧ Below w.heap.size w w' := by
  have hm := Nat.le_trans h.len h.cap
  unfold maxLen at hm
  by_cases h1 : 1 ≤ xs.length
  · by_cases h2 : xs.length ≤ 256
    · have c := fun W hW => impl_greatestOf W ad cap xs hW (by omega) h1
      have C := Lib.hid c; clear c
      go_enter Try.func29, Try.ntmps29
      go_wp2_with fail
      refine (C.out _ h).mono ?_
      rintro e w1 ⟨rfl, rfl⟩
      go_wp2
      go_ret2
      exact ⟨by rw [hv.out, hb.out, if_pos ⟨h1, h2⟩, decide_eq_true (show 1 ≤ xs.length ∧ xs.length ≤ 256 from ⟨h1, h2⟩)]; rfl, Below.refl _ _⟩
    · go_enter Try.func29, Try.ntmps29
      go_wp2
      go_ret2
      exact ⟨by rw [hv.out, hb.out, if_neg (by omega), decide_eq_false (show ¬ (1 ≤ xs.length ∧ xs.length ≤ 256) by omega)]; rfl, Below.refl _ _⟩
  · have h0 : xs.length = 0 := by omega
    go_enter Try.func29, Try.ntmps29
    go_wp2
    go_ret2
    exact ⟨by rw [hv.out, hb.out, if_neg (by omega), decide_eq_false (show ¬ (1 ≤ xs.length ∧ xs.length ≤ 256) by omega)]; rfl, Below.refl _ _⟩
theorem impl_GreatestOf (w : World) (ad : Option Addr) (cap : Nat) (xs : List Nat) (h : F32s w ad cap xs) :
    Calls Try.prog 29 #[.slice ad xs.length cap] w fun e w' => ∃ (v : Int) (b : Bool), e = .returned (.tuple #[.int .i64 v, .bool b]) ∧ v = (if 1 ≤ xs.length ∧ xs.length ≤ 256 then (gBest xs xs.length : Int) else 0) ∧ b = decide (1 ≤ xs.length ∧ xs.length ≤ 256) ∧ Below w.heap.size w w' :=
  (impl_GreatestOf_ w ad cap xs h _ _ rfl rfl).mono fun e w' ⟨he, hb⟩ => ⟨_, _, he, rfl, rfl, hb⟩
end Go.Proofs.Ytnhikdjljjemlaa
