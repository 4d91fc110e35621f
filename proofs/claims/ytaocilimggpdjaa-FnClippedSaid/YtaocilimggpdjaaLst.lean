/- What lists that a loop makes, sums, dots and differences are. No condition. -/
import Derived.Test.YtaocilimggpdjaaSli
import Derived.Test.YtaocilimggpdjaaFl2
namespace Go.Proofs.Ytaocilimggpdjaa
open Go Go.RowKit
set_option linter.unusedVariables false
set_option linter.unusedSimpArgs false
def listOf (n : Nat) (f : Nat → Nat) : List Nat := (List.range n).map f
theorem listOf_succ (k : Nat) (f : Nat → Nat) : listOf (k + 1) f = listOf k f ++ [f k] := by simp [listOf, List.range_succ]
theorem listOf_length (n : Nat) (f : Nat → Nat) : (listOf n f).length = n := by simp [listOf]
theorem listOf_getD {n k : Nat} (f : Nat → Nat) (h : k < n) : (listOf n f).getD k 0 = f k := by simp [listOf, h]
theorem listOf_congr {n : Nat} {f g : Nat → Nat} (h : ∀ i, i < n → f i = g i) : listOf n f = listOf n g := List.map_congr_left fun i hi => h i (List.mem_range.1 hi)
theorem cn_zero : cn .f32 0 = 0 := by decide +kernel
theorem cn_getD (xs : List Nat) (k : Nat) : (xs.map (cn .f32)).getD k 0 = cn .f32 (xs.getD k 0) := by
  simp only [List.getD_eq_getElem?_getD, List.getElem?_map]
  cases xs[k]? with
  | none => simp [cn_zero]
  | some x => rfl
/-- a list whose entries, NaNs made one, are told, in one of them -/
theorem cn_at {xs : List Nat} {n k : Nat} {f : Nat → Nat} (h : xs.map (cn .f32) = listOf n f) (hk : k < n) : cn .f32 (xs.getD k 0) = f k := by
  rw [← cn_getD, h, listOf_getD f hk]
theorem len_of {xs : List Nat} {n : Nat} {f : Nat → Nat} (h : xs.map (cn .f32) = listOf n f) : xs.length = n := by
  have := congrArg List.length h
  rwa [List.length_map, listOf_length] at this
theorem Dr.drewN {w w' : World} (h : Dr w w') (n : Nat) : Dr w (w'.drewN n) := by
  obtain ⟨m, rfl⟩ := h
  exact ⟨m + n, by simp [World.drewN, Nat.add_assoc]⟩
theorem Dr.trans {a b c : World} (h : Dr a b) (h2 : Dr b c) : Dr a c := by obtain ⟨m, rfl⟩ := h2; exact h.drewN m
def subE (X Y : List Nat) (i : Nat) : Nat := fop .sub .f32 (X.getD i 0) (Y.getD i 0)
def dotS (X Y : List Nat) : Nat → Nat
  | 0 => 0
  | k + 1 => fop .add .f32 (dotS X Y k) (fop .mul .f32 (X.getD k 0) (Y.getD k 0))
def sumS (X : List Nat) : Nat → Nat
  | 0 => 0
  | k + 1 => fop .add .f32 (sumS X k) (X.getD k 0)
def both (n m : Nat) : Bool := decide (1 ≤ n) && decide (n ≤ 256) && decide (n = m)
set_option maxHeartbeats 1000000 in
theorem impl_dot (w : World) (a1 : Option Addr) (c1 : Nat) (xs : List Nat) (h1 : F32s w a1 c1 xs) (a2 : Option Addr) (c2 : Nat) (ys : List Nat) (h2 : F32s w a2 c2 ys) (hl : xs.length = ys.length) :
    Calls Try.prog 117 #[.slice a1 xs.length c1, .slice a2 ys.length c2] w fun e w' => ∃ r, e = .returned (.float .f32 r) ∧ Hid (cn .f32 r = dotS (xs.map (cn .f32)) (ys.map (cn .f32)) xs.length ∧ r < 4294967296) ∧ Dr w w' := by
  obtain ⟨X, hX⟩ : ∃ X, X = xs.map (cn .f32) := ⟨_, rfl⟩
  obtain ⟨Y, hY⟩ : ∃ X, X = ys.map (cn .f32) := ⟨_, rfl⟩
  rw [← hX, ← hY]
  have hm := Nat.le_trans h1.len h1.cap
  unfold maxLen at hm
  obtain ⟨n, e1⟩ : ∃ n, n = xs.length := ⟨_, rfl⟩
  have e2 : n = ys.length := e1.trans hl
  rw [← e1] at hm
  rw [← e1, ← e2]
  have E1 := Lib.hid e1; have E2 := Lib.hid e2; have HX := Lib.hid hX; have HY := Lib.hid hY
  clear e1 e2 hl hX hY
  go_enter Try.func117, Try.ntmps117
  go_wp2
  go_loopw [5, 9] (fun v i wr => ∃ k : Nat, i = .int .i64 k ∧ k ≤ n ∧ ∃ s : Nat, v = .float .f32 s ∧ s < 4294967296 ∧ cn .f32 s = dotS X Y k ∧ Dr w wr) (fun _ i _ => n - (intOf i).toNat)
  case atStart => exact ⟨0, rfl, Nat.zero_le _, 0, rfl, by decide, cn_zero, Dr.refl _⟩
  case round =>
    obtain ⟨k, rfl, hk, s, rfl, hsl, hs, hdr⟩ := hrel
    have h1 := h1.below hdr.below
    have h2 := h2.below hdr.below
    have HS := Lib.hid hs; have HD := Lib.hid hdr; clear hs hdr
    by_cases hlt : k < n
    · have hk1 : k < xs.length := by rw [← E1.out]; exact hlt
      have hk2 : k < ys.length := by rw [← E2.out]; exact hlt
      obtain ⟨bx, offx, rfl, _, hqx⟩ := F32s.spot h1 (k := k) hk1
      have hcx := hqx k hk1
      obtain ⟨x, px⟩ : ∃ x, x = xs.getD k 0 := ⟨_, rfl⟩
      rw [← px] at hcx
      have Px := Lib.hid px; clear px hqx
      obtain ⟨bu, offu, rfl, _, hqu⟩ := F32s.spot h2 (k := k) hk2
      have hcy := hqu k hk2
      obtain ⟨u, pu⟩ : ∃ x, x = ys.getD k 0 := ⟨_, rfl⟩
      rw [← pu] at hcy
      have Pu := Lib.hid pu; clear pu hqu
      clear h1 h2
      go_wp2
      refine wp_region_drawn (fun f args v => False) (by kernel_rfl) (by kernel_rfl) ?_
      repeat (refine wset_step (fun K hK nq => ?_); go_simp; refine hK _ ?_; clear hK K)
      refine wset_nil ?_
      rintro w' ⟨q, rfl⟩
      go_wp2
      go_roundw
      case rel => exact ⟨k + 1, by go_num, hlt, _, rfl, fbits_lt _ .f32 _ _ _, by rw [cn_fbits, cn_fbits, HS.out, Px.out, Pu.out, ← cn_getD, ← cn_getD, ← HX.out, ← HY.out]; rfl, HD.out.drewN _⟩
      case measure => simp [intOf]; omega
    · have hkn : k = n := by omega
      subst hkn
      go_wp2
      go_ret
      exact ⟨_, rfl, Lib.hid ⟨HS.out, hsl⟩, HD.out⟩
set_option maxHeartbeats 1000000 in
theorem impl_sumOf (w : World) (a1 : Option Addr) (c1 : Nat) (xs : List Nat) (h1 : F32s w a1 c1 xs) :
    Calls Try.prog 89 #[.slice a1 xs.length c1] w fun e w' => ∃ r, e = .returned (.float .f32 r) ∧ Hid (cn .f32 r = sumS (xs.map (cn .f32)) xs.length ∧ r < 4294967296) ∧ Dr w w' := by
  obtain ⟨X, hX⟩ : ∃ X, X = xs.map (cn .f32) := ⟨_, rfl⟩
  rw [← hX]
  have hm := Nat.le_trans h1.len h1.cap
  unfold maxLen at hm
  obtain ⟨n, e1⟩ : ∃ n, n = xs.length := ⟨_, rfl⟩
  rw [← e1] at hm
  rw [← e1]
  have E1 := Lib.hid e1; have HX := Lib.hid hX
  clear e1 hX
  go_enter Try.func89, Try.ntmps89
  go_wp2
  go_loopw [3, 8] (fun v i wr => ∃ k : Nat, i = .int .i64 k ∧ k ≤ n ∧ ∃ s : Nat, v = .float .f32 s ∧ s < 4294967296 ∧ cn .f32 s = sumS X k ∧ Dr w wr) (fun _ i _ => n - (intOf i).toNat)
  case atStart => exact ⟨0, rfl, Nat.zero_le _, 0, rfl, by decide, cn_zero, Dr.refl _⟩
  case round =>
    obtain ⟨k, rfl, hk, s, rfl, hsl, hs, hdr⟩ := hrel
    have h1 := h1.below hdr.below
    have HS := Lib.hid hs; have HD := Lib.hid hdr; clear hs hdr
    by_cases hlt : k < n
    · have hk1 : k < xs.length := by rw [← E1.out]; exact hlt
      obtain ⟨bx, offx, rfl, _, hqx⟩ := F32s.spot h1 (k := k) hk1
      have hcx := hqx k hk1
      obtain ⟨x, px⟩ : ∃ x, x = xs.getD k 0 := ⟨_, rfl⟩
      rw [← px] at hcx
      have Px := Lib.hid px; clear px hqx
      clear h1
      go_wp2
      go_roundw
      case rel => exact ⟨k + 1, by go_num, hlt, _, rfl, fbits_lt _ .f32 _ _ _, by rw [cn_fbits, HS.out, Px.out, ← cn_getD, ← HX.out]; rfl, HD.out.drewN _⟩
      case measure => simp [intOf]; omega
    · have hkn : k = n := by omega
      subst hkn
      go_wp2
      go_ret
      exact ⟨_, rfl, Lib.hid ⟨HS.out, hsl⟩, HD.out⟩
set_option maxHeartbeats 1000000 in
theorem spec_l01Sum (w : World) (a1 : Option Addr) (c1 : Nat) (xs : List Nat) (h1 : F32s w a1 c1 xs) :
    Calls Try.prog 85 #[.slice a1 xs.length c1] w fun e w' => ∃ r, e = .returned (.float .f32 r) ∧ Hid (cn .f32 r = sumS (xs.map (cn .f32)) xs.length ∧ r < 4294967296) ∧ Dr w w' := by
  obtain ⟨X, hX⟩ : ∃ X, X = xs.map (cn .f32) := ⟨_, rfl⟩
  rw [← hX]
  have hm := Nat.le_trans h1.len h1.cap
  unfold maxLen at hm
  obtain ⟨n, e1⟩ : ∃ n, n = xs.length := ⟨_, rfl⟩
  rw [← e1] at hm
  rw [← e1]
  have E1 := Lib.hid e1; have HX := Lib.hid hX
  clear e1 hX
  go_enter Try.func85, Try.ntmps85
  go_wp2
  go_loopw [3, 4] (fun v i wr => ∃ k : Nat, i = .int .i64 k ∧ k ≤ n ∧ ∃ s : Nat, v = .float .f32 s ∧ s < 4294967296 ∧ cn .f32 s = sumS X k ∧ Dr w wr) (fun _ i _ => n - (intOf i).toNat)
  case atStart => exact ⟨0, rfl, Nat.zero_le _, 0, rfl, by decide, cn_zero, Dr.refl _⟩
  case round =>
    obtain ⟨k, rfl, hk, s, rfl, hsl, hs, hdr⟩ := hrel
    have h1 := h1.below hdr.below
    have HS := Lib.hid hs; have HD := Lib.hid hdr; clear hs hdr
    by_cases hlt : k < n
    · have hk1 : k < xs.length := by rw [← E1.out]; exact hlt
      obtain ⟨bx, offx, rfl, _, hqx⟩ := F32s.spot h1 (k := k) hk1
      have hcx := hqx k hk1
      obtain ⟨x, px⟩ : ∃ x, x = xs.getD k 0 := ⟨_, rfl⟩
      rw [← px] at hcx
      have Px := Lib.hid px; clear px hqx
      clear h1
      go_wp2
      go_roundw
      case rel => exact ⟨k + 1, by go_num, hlt, _, rfl, fbits_lt _ .f32 _ _ _, by rw [cn_fbits, HS.out, Px.out, ← cn_getD, ← HX.out]; rfl, HD.out.drewN _⟩
      case measure => simp [intOf]; omega
    · have hkn : k = n := by omega
      subst hkn
      go_wp2
      go_ret
      exact ⟨_, rfl, Lib.hid ⟨HS.out, hsl⟩, HD.out⟩
set_option maxRecDepth 100000 in
set_option maxHeartbeats 1000000 in
theorem impl_differences (w : World) (a1 : Option Addr) (c1 : Nat) (xs : List Nat) (h1 : F32s w a1 c1 xs) (a2 : Option Addr) (c2 : Nat) (zs : List Nat) (h2 : F32s w a2 c2 zs) (hb : both xs.length zs.length = true) :
    Calls Try.prog 121 #[.slice a1 xs.length c1, .slice a2 zs.length c2] w fun e w' => ∃ (v : Value) (ys : List Nat), e = .returned (.tuple #[v, .float .f32 (floatOfInt .f32 xs.length), .bool true]) ∧
      w'.ownsRow w.heap.size 22 1 v xs.length (ys.map (Value.float .f32)) ∧ Hid (ys.map (cn .f32) = listOf xs.length (subE (xs.map (cn .f32)) (zs.map (cn .f32)))) ∧ Hid (∀ y ∈ ys, y < 4294967296) ∧ Below w.heap.size w w' := by
  obtain ⟨i0, hi, hz0, hz1, hz2⟩ := info_parts info_f32
  obtain ⟨X, hX⟩ : ∃ X, X = xs.map (cn .f32) := ⟨_, rfl⟩
  obtain ⟨Y, hY⟩ : ∃ X, X = zs.map (cn .f32) := ⟨_, rfl⟩
  rw [← hX, ← hY]
  simp only [both, Bool.and_eq_true, decide_eq_true_eq] at hb
  obtain ⟨⟨hn1, hn⟩, hl⟩ := hb
  obtain ⟨n, e1⟩ : ∃ n, n = xs.length := ⟨_, rfl⟩
  have e2 : n = zs.length := e1.trans hl
  rw [← e1] at hn hn1
  rw [← e1, ← e2]
  have E1 := Lib.hid e1; have E2 := Lib.hid e2; have HX := Lib.hid hX; have HY := Lib.hid hY
  clear e1 e2 hl hX hY
  go_enter Try.func121, Try.ntmps121
  go_wp2
  go_loopw [7, 28] (fun v i wr => ∃ k : Nat, i = .int .i64 k ∧ k ≤ n ∧ ∃ ys : List Nat, wr.ownsRow w.heap.size 22 1 v k (ys.map (Value.float .f32)) ∧ ys.length = k ∧ ys.map (cn .f32) = listOf k (subE X Y) ∧ (∀ y ∈ ys, y < 4294967296) ∧ Below w.heap.size w wr ∧ w.heap.size ≤ wr.heap.size) (fun _ i _ => n - (intOf i).toNat)
  case atStart => exact ⟨0, rfl, Nat.zero_le _, [], World.ownsRow_made _ _ _ (Nat.le_refl _) (Nat.zero_le _) rfl, rfl, rfl, (fun y hy => nomatch hy), below1 _ _, by simp⟩
  case round =>
    obtain ⟨k, rfl, hk, ys, hown, hyl, hye, hylt, hb, hbs⟩ := hrel
    have HL := Lib.hid hyl; have HE := Lib.hid hye; have HLT := Lib.hid hylt; clear hyl hye hylt
    have h1 := h1.below hb
    have h2 := h2.below hb
    by_cases hlt : k < n
    · have hk1 : k < xs.length := by rw [← E1.out]; exact hlt
      have hk2 : k < zs.length := by rw [← E2.out]; exact hlt
      obtain ⟨bx1, offx1, rfl, _, hqx1⟩ := F32s.spot h1 (k := k) hk1
      have hcx := hqx1 k hk1
      obtain ⟨x1, px1⟩ : ∃ x, x = xs.getD k 0 := ⟨_, rfl⟩
      rw [← px1] at hcx
      have Px1 := Lib.hid px1; clear px1 hqx1
      obtain ⟨by1, offy1, rfl, _, hqy1⟩ := F32s.spot h2 (k := k) hk2
      have hcy := hqy1 k hk2
      obtain ⟨y1, py1⟩ : ∃ x, x = zs.getD k 0 := ⟨_, rfl⟩
      rw [← py1] at hcy
      have Py1 := Lib.hid py1; clear py1 hqy1
      clear h1 h2
      go_wp2_with (at_builtin; refine wp_app rfl _ _ 25 rfl w.heap.size i0 (.float .f32 0) 1 4 Try.underlying25 hi hz0 hz1 hz2 rfl (by decide) rfl (one_cell _ rfl) _ _ _ rfl hown rfl ?c3 ?c4 ?c5 ?_)
      case c3 => unfold maxLen; omega
      case c4 => omega
      case c5 => exact hbs
      intro v' w9 hown1 hb1 hbs1
      have hb1 := (below_drewN hb _).trans hb1
      clear hown hb hbs
      generalize hy : fbits BinOp.sub FloatKind.f32 x1 y1 _ = y at hown1
      have hyc : cn .f32 y = subE X Y k := by rw [← hy, cn_fbits, Px1.out, Py1.out, ← cn_getD, ← cn_getD, ← HX.out, ← HY.out]; rfl
      have hyl : y < 4294967296 := by rw [← hy]; exact fbits_lt _ .f32 _ _ _
      have HY := Lib.hid hyc; clear hyc hy
      go_wp2
      go_roundw
      case rel =>
        refine ⟨k + 1, by go_num, hlt, ys ++ [y], by simpa using hown1, by simp [HL.out], ?_, ?_, hb1, hbs1⟩
        · rw [List.map_append, List.map_cons, List.map_nil, HE.out, HY.out, listOf_succ]
        · intro z hz
          rcases List.mem_append.1 hz with hz | hz
          · exact HLT.out z hz
          · simp at hz; rw [hz]; exact hyl
      case measure => simp [intOf]; omega
    · have hkn : k = n := by omega
      subst hkn
      go_wp2
      go_ret3
      exact ⟨_, ys, rfl, hown, HE, HLT, hb⟩
theorem impl_differences_no (w : World) (a1 : Option Addr) (c1 n m : Nat) (a2 : Option Addr) (c2 : Nat) (hn : n ≤ 9223372036854775807) (hm : m ≤ 9223372036854775807) (hb : both n m = false) :
    Calls Try.prog 121 #[.slice a1 n c1, .slice a2 m c2] w fun e w' => e = .returned (.tuple #[.slice none 0 0, .float .f32 0, .bool false]) ∧ w = w' := by
  unfold both at hb
  by_cases h1 : 1 ≤ n
  · by_cases h2 : n ≤ 256
    · have h3 : ¬ (n = m) := by intro h; subst h; simp [h1, h2] at hb
      have h3' : ¬ ((n : Int) = (m : Int)) := by omega
      clear hb
      go_enter Try.func121, Try.ntmps121
      go_wp2
      all_goals first | (exfalso; omega) | (go_ret3; exact ⟨rfl, rfl⟩) | (exfalso; simp_all; done) | trace_state
    · clear hb
      go_enter Try.func121, Try.ntmps121
      go_wp2
      go_ret3
      exact ⟨rfl, rfl⟩
  · clear hb
    go_enter Try.func121, Try.ntmps121
    go_wp2
    go_ret3
    exact ⟨rfl, rfl⟩
end Go.Proofs.Ytaocilimggpdjaa
