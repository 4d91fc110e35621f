/- Joined texts 3: Lst Abs Spr Cod Whl Spo Num Eib Eic Eid. Each is told at its own head. No condition. -/
import Derived.Test.YtnhikdjljjemlaaMc0
import Derived.Test.YtnhikdjljjemlaaMc1
import Derived.Test.YtnhikdjljjemlaaMc2
/- What lists that a loop makes, sums, dots and differences are. No condition. -/
namespace Go.Proofs.Ytnhikdjljjemlaa
open Go Go.RowKit
set_option linter.unusedVariables false
set_option linter.unusedSimpArgs false
def listOf (n : Nat) (f : Nat → Nat) : List Nat := (List.range n).map f
theorem listOf_succ (k : Nat) (f : Nat → Nat) : listOf (k + 1) f = listOf k f ++ [f k] := by simp [listOf, List.range_succ]
theorem listOf_length (n : Nat) (f : Nat → Nat) : (listOf n f).length = n := by simp [listOf]
theorem listOf_getD {n k : Nat} (f : Nat → Nat) (h : k < n) : (listOf n f).getD k 0 = f k := by simp [listOf, h]
theorem listOf_congr {n : Nat} {f g : Nat → Nat} (h : ∀ i, i < n → f i = g i) : listOf n f = listOf n g := List.map_congr_left fun i hi => h i (List.mem_range.1 hi)
theorem cn_zero : cn .f32 0 = 0 := by decide +kernel
theorem cn_getD (xs : List Nat) (k : Nat) : (xs.map (cn .f32)).getD k 0 = cn .f32 (xs.getD k 0) := by
  simp only [List.getD_eq_getElem?_getD, List.getElem?_map]
  cases xs[k]? with
  | none => simp [cn_zero]
  | some x => rfl
/-- a list whose entries, NaNs made one, are told, in one of them -/
theorem cn_at {xs : List Nat} {n k : Nat} {f : Nat → Nat} (h : xs.map (cn .f32) = listOf n f) (hk : k < n) : cn .f32 (xs.getD k 0) = f k := by
  rw [← cn_getD, h, listOf_getD f hk]
theorem len_of {xs : List Nat} {n : Nat} {f : Nat → Nat} (h : xs.map (cn .f32) = listOf n f) : xs.length = n := by
  have := congrArg List.length h
  rwa [List.length_map, listOf_length] at this
theorem Dr.drewN {w w' : World} (h : Dr w w') (n : Nat) : Dr w (w'.drewN n) := by
  obtain ⟨m, rfl⟩ := h
  exact ⟨m + n, by simp [World.drewN, Nat.add_assoc]⟩
theorem Dr.trans {a b c : World} (h : Dr a b) (h2 : Dr b c) : Dr a c := by obtain ⟨m, rfl⟩ := h2; exact h.drewN m
def subE (X Y : List Nat) (i : Nat) : Nat := fop .sub .f32 (X.getD i 0) (Y.getD i 0)
def dotS (X Y : List Nat) : Nat → Nat
  | 0 => 0
  | k + 1 => fop .add .f32 (dotS X Y k) (fop .mul .f32 (X.getD k 0) (Y.getD k 0))
def sumS (X : List Nat) : Nat → Nat
  | 0 => 0
  | k + 1 => fop .add .f32 (sumS X k) (X.getD k 0)
def both (n m : Nat) : Bool := decide (1 ≤ n) && decide (n ≤ 256) && decide (n = m)
set_option maxHeartbeats 1000000 in
theorem impl_dot (w : World) (a1 : Option Addr) (c1 : Nat) (xs : List Nat) (h1 : F32s w a1 c1 xs) (a2 : Option Addr) (c2 : Nat) (ys : List Nat) (h2 : F32s w a2 c2 ys) (hl : xs.length = ys.length) :
    Calls Try.prog 60 #[.slice a1 xs.length c1, .slice a2 ys.length c2] w fun e w' => ∃ r, e = .returned (.float .f32 r) ∧ Hid (cn .f32 r = dotS (xs.map (cn .f32)) (ys.map (cn .f32)) xs.length ∧ r < 4294967296) ∧ Dr w w' := by
  obtain ⟨X, hX⟩ : ∃ X, X = xs.map (cn .f32) := ⟨_, rfl⟩
  obtain ⟨Y, hY⟩ : ∃ X, X = ys.map (cn .f32) := ⟨_, rfl⟩
  rw [← hX, ← hY]
  have hm := Nat.le_trans h1.len h1.cap
  unfold maxLen at hm
  obtain ⟨n, e1⟩ : ∃ n, n = xs.length := ⟨_, rfl⟩
  have e2 : n = ys.length := e1.trans hl
  rw [← e1] at hm
  rw [← e1, ← e2]
  have E1 := Lib.hid e1; have E2 := Lib.hid e2; have HX := Lib.hid hX; have HY := Lib.hid hY
  clear e1 e2 hl hX hY
  go_enter Try.func60, Try.ntmps60
  go_wp2
  go_loopw [5, 9] (fun v i wr => ∃ k : Nat, i = .int .i64 k ∧ k ≤ n ∧ ∃ s : Nat, v = .float .f32 s ∧ s < 4294967296 ∧ cn .f32 s = dotS X Y k ∧ Dr w wr) (fun _ i _ => n - (intOf i).toNat)
  case atStart => exact ⟨0, rfl, Nat.zero_le _, 0, rfl, by decide, cn_zero, Dr.refl _⟩
  case round =>
    obtain ⟨k, rfl, hk, s, rfl, hsl, hs, hdr⟩ := hrel
    have h1 := h1.below hdr.below
    have h2 := h2.below hdr.below
    have HS := Lib.hid hs; have HD := Lib.hid hdr; clear hs hdr
    by_cases hlt : k < n
    · have hk1 : k < xs.length := by rw [← E1.out]; exact hlt
      have hk2 : k < ys.length := by rw [← E2.out]; exact hlt
      obtain ⟨bx, offx, rfl, _, hqx⟩ := F32s.spot h1 (k := k) hk1
      have hcx := hqx k hk1
      obtain ⟨x, px⟩ : ∃ x, x = xs.getD k 0 := ⟨_, rfl⟩
      rw [← px] at hcx
      have Px := Lib.hid px; clear px hqx
      obtain ⟨bu, offu, rfl, _, hqu⟩ := F32s.spot h2 (k := k) hk2
      have hcy := hqu k hk2
      obtain ⟨u, pu⟩ : ∃ x, x = ys.getD k 0 := ⟨_, rfl⟩
      rw [← pu] at hcy
      have Pu := Lib.hid pu; clear pu hqu
      clear h1 h2
      go_wp2
      refine wp_region_drawn (fun f args v => False) (by kernel_rfl) (by kernel_rfl) ?_
      repeat (refine wset_step (fun K hK nq => ?_); go_simp; refine hK _ ?_; clear hK K)
      refine wset_nil ?_
      rintro w' ⟨q, rfl⟩
      go_wp2
      go_roundw
      case rel => exact ⟨k + 1, by go_num, hlt, _, rfl, fbits_lt _ .f32 _ _ _, by rw [cn_fbits, cn_fbits, HS.out, Px.out, Pu.out, ← cn_getD, ← cn_getD, ← HX.out, ← HY.out]; rfl, HD.out.drewN _⟩
      case measure => simp [intOf]; omega
    · have hkn : k = n := by omega
      subst hkn
      go_wp2
      go_ret
      exact ⟨_, rfl, Lib.hid ⟨HS.out, hsl⟩, HD.out⟩
set_option maxHeartbeats 1000000 in
theorem impl_sumOf (w : World) (a1 : Option Addr) (c1 : Nat) (xs : List Nat) (h1 : F32s w a1 c1 xs) :
    Calls Try.prog 64 #[.slice a1 xs.length c1] w fun e w' => ∃ r, e = .returned (.float .f32 r) ∧ Hid (cn .f32 r = sumS (xs.map (cn .f32)) xs.length ∧ r < 4294967296) ∧ Dr w w' := by
  obtain ⟨X, hX⟩ : ∃ X, X = xs.map (cn .f32) := ⟨_, rfl⟩
  rw [← hX]
  have hm := Nat.le_trans h1.len h1.cap
  unfold maxLen at hm
  obtain ⟨n, e1⟩ : ∃ n, n = xs.length := ⟨_, rfl⟩
  rw [← e1] at hm
  rw [← e1]
  have E1 := Lib.hid e1; have HX := Lib.hid hX
  clear e1 hX
  go_enter Try.func64, Try.ntmps64
  go_wp2
  go_loopw [3, 8] (fun v i wr => ∃ k : Nat, i = .int .i64 k ∧ k ≤ n ∧ ∃ s : Nat, v = .float .f32 s ∧ s < 4294967296 ∧ cn .f32 s = sumS X k ∧ Dr w wr) (fun _ i _ => n - (intOf i).toNat)
  case atStart => exact ⟨0, rfl, Nat.zero_le _, 0, rfl, by decide, cn_zero, Dr.refl _⟩
  case round =>
    obtain ⟨k, rfl, hk, s, rfl, hsl, hs, hdr⟩ := hrel
    have h1 := h1.below hdr.below
    have HS := Lib.hid hs; have HD := Lib.hid hdr; clear hs hdr
    by_cases hlt : k < n
    · have hk1 : k < xs.length := by rw [← E1.out]; exact hlt
      obtain ⟨bx, offx, rfl, _, hqx⟩ := F32s.spot h1 (k := k) hk1
      have hcx := hqx k hk1
      obtain ⟨x, px⟩ : ∃ x, x = xs.getD k 0 := ⟨_, rfl⟩
      rw [← px] at hcx
      have Px := Lib.hid px; clear px hqx
      clear h1
      go_wp2
      go_roundw
      case rel => exact ⟨k + 1, by go_num, hlt, _, rfl, fbits_lt _ .f32 _ _ _, by rw [cn_fbits, HS.out, Px.out, ← cn_getD, ← HX.out]; rfl, HD.out.drewN _⟩
      case measure => simp [intOf]; omega
    · have hkn : k = n := by omega
      subst hkn
      go_wp2
      go_ret
      exact ⟨_, rfl, Lib.hid ⟨HS.out, hsl⟩, HD.out⟩
set_option maxRecDepth 100000 in
set_option maxHeartbeats 1000000 in
theorem impl_differences (w : World) (a1 : Option Addr) (c1 : Nat) (xs : List Nat) (h1 : F32s w a1 c1 xs) (a2 : Option Addr) (c2 : Nat) (zs : List Nat) (h2 : F32s w a2 c2 zs) (hb : both xs.length zs.length = true) :
    Calls Try.prog 59 #[.slice a1 xs.length c1, .slice a2 zs.length c2] w fun e w' => ∃ (v : Value) (ys : List Nat), e = .returned (.tuple #[v, .float .f32 (floatOfInt .f32 xs.length), .bool true]) ∧
      w'.ownsRow w.heap.size 24 1 v xs.length (ys.map (Value.float .f32)) ∧ Hid (ys.map (cn .f32) = listOf xs.length (subE (xs.map (cn .f32)) (zs.map (cn .f32)))) ∧ Hid (∀ y ∈ ys, y < 4294967296) ∧ Below w.heap.size w w' := by
  obtain ⟨i0, hi, hz0, hz1, hz2⟩ := info_parts info_f32
  obtain ⟨X, hX⟩ : ∃ X, X = xs.map (cn .f32) := ⟨_, rfl⟩
  obtain ⟨Y, hY⟩ : ∃ X, X = zs.map (cn .f32) := ⟨_, rfl⟩
  rw [← hX, ← hY]
  simp only [both, Bool.and_eq_true, decide_eq_true_eq] at hb
  obtain ⟨⟨hn1, hn⟩, hl⟩ := hb
  obtain ⟨n, e1⟩ : ∃ n, n = xs.length := ⟨_, rfl⟩
  have e2 : n = zs.length := e1.trans hl
  rw [← e1] at hn hn1
  rw [← e1, ← e2]
  have E1 := Lib.hid e1; have E2 := Lib.hid e2; have HX := Lib.hid hX; have HY := Lib.hid hY
  clear e1 e2 hl hX hY
  go_enter Try.func59, Try.ntmps59
  go_wp2
  go_loopw [7, 28] (fun v i wr => ∃ k : Nat, i = .int .i64 k ∧ k ≤ n ∧ ∃ ys : List Nat, wr.ownsRow w.heap.size 24 1 v k (ys.map (Value.float .f32)) ∧ ys.length = k ∧ ys.map (cn .f32) = listOf k (subE X Y) ∧ (∀ y ∈ ys, y < 4294967296) ∧ Below w.heap.size w wr ∧ w.heap.size ≤ wr.heap.size) (fun _ i _ => n - (intOf i).toNat)
  case atStart => exact ⟨0, rfl, Nat.zero_le _, [], World.ownsRow_made _ _ _ (Nat.le_refl _) (Nat.zero_le _) rfl, rfl, rfl, (fun y hy => nomatch hy), below1 _ _, by simp⟩
  case round =>
    obtain ⟨k, rfl, hk, ys, hown, hyl, hye, hylt, hb, hbs⟩ := hrel
    have HL := Lib.hid hyl; have HE := Lib.hid hye; have HLT := Lib.hid hylt; clear hyl hye hylt
    have h1 := h1.below hb
    have h2 := h2.below hb
    by_cases hlt : k < n
    · have hk1 : k < xs.length := by rw [← E1.out]; exact hlt
      have hk2 : k < zs.length := by rw [← E2.out]; exact hlt
      obtain ⟨bx1, offx1, rfl, _, hqx1⟩ := F32s.spot h1 (k := k) hk1
      have hcx := hqx1 k hk1
      obtain ⟨x1, px1⟩ : ∃ x, x = xs.getD k 0 := ⟨_, rfl⟩
      rw [← px1] at hcx
      have Px1 := Lib.hid px1; clear px1 hqx1
      obtain ⟨by1, offy1, rfl, _, hqy1⟩ := F32s.spot h2 (k := k) hk2
      have hcy := hqy1 k hk2
      obtain ⟨y1, py1⟩ : ∃ x, x = zs.getD k 0 := ⟨_, rfl⟩
      rw [← py1] at hcy
      have Py1 := Lib.hid py1; clear py1 hqy1
      clear h1 h2
      go_wp2_with (at_builtin; refine wp_app rfl _ _ 29 rfl w.heap.size i0 (.float .f32 0) 1 4 Try.underlying29 hi hz0 hz1 hz2 rfl (by decide) rfl (one_cell _ rfl) _ _ _ rfl hown rfl ?c3 ?c4 ?c5 ?_)
      case c3 => unfold maxLen; omega
      case c4 => omega
      case c5 => exact hbs
      intro v' w9 hown1 hb1 hbs1
      have hb1 := (below_drewN hb _).trans hb1
      clear hown hb hbs
      generalize hy : fbits BinOp.sub FloatKind.f32 x1 y1 _ = y at hown1
      have hyc : cn .f32 y = subE X Y k := by rw [← hy, cn_fbits, Px1.out, Py1.out, ← cn_getD, ← cn_getD, ← HX.out, ← HY.out]; rfl
      have hyl : y < 4294967296 := by rw [← hy]; exact fbits_lt _ .f32 _ _ _
      have HY := Lib.hid hyc; clear hyc hy
      go_wp2
      go_roundw
      case rel =>
        refine ⟨k + 1, by go_num, hlt, ys ++ [y], by simpa using hown1, by simp [HL.out], ?_, ?_, hb1, hbs1⟩
        · rw [List.map_append, List.map_cons, List.map_nil, HE.out, HY.out, listOf_succ]
        · intro z hz
          rcases List.mem_append.1 hz with hz | hz
          · exact HLT.out z hz
          · simp at hz; rw [hz]; exact hyl
      case measure => simp [intOf]; omega
    · have hkn : k = n := by omega
      subst hkn
      go_wp2
      go_ret3
      exact ⟨_, ys, rfl, hown, HE, HLT, hb⟩
theorem impl_differences_no (w : World) (a1 : Option Addr) (c1 n m : Nat) (a2 : Option Addr) (c2 : Nat) (hn : n ≤ 9223372036854775807) (hm : m ≤ 9223372036854775807) (hb : both n m = false) :
    Calls Try.prog 59 #[.slice a1 n c1, .slice a2 m c2] w fun e w' => e = .returned (.tuple #[.slice none 0 0, .float .f32 0, .bool false]) ∧ w = w' := by
  unfold both at hb
  by_cases h1 : 1 ≤ n
  · by_cases h2 : n ≤ 256
    · have h3 : ¬ (n = m) := by intro h; subst h; simp [h1, h2] at hb
      have h3' : ¬ ((n : Int) = (m : Int)) := by omega
      clear hb
      go_enter Try.func59, Try.ntmps59
      go_wp2
      all_goals first | (exfalso; omega) | (go_ret3; exact ⟨rfl, rfl⟩) | (exfalso; simp_all; done) | trace_state
    · clear hb
      go_enter Try.func59, Try.ntmps59
      go_wp2
      go_ret3
      exact ⟨rfl, rfl⟩
  · clear hb
    go_enter Try.func59, Try.ntmps59
    go_wp2
    go_ret3
    exact ⟨rfl, rfl⟩
end Go.Proofs.Ytnhikdjljjemlaa
/- What absolute values, the greatest of two, a not-a-number are. No condition. -/
namespace Go.Proofs.Ytnhikdjljjemlaa
open Go Go.RowKit
set_option linter.unusedVariables false
set_option linter.unusedSimpArgs false
theorem run_f64from (x : Int) (w : World) : (callFunc 85 #[.int .u64 x]).run Try.prog w = .ok (.value (.float .f64 x.toNat)) w := by
  rw [run_callFunc_extern (show Try.prog.funcs[85]? = some Try.f85 by kernel_rfl) (by kernel_rfl) (by kernel_rfl) (by kernel_rfl) (e := Extern.MathFloatBits.float64frombits) (by kernel_rfl)]
  rfl
theorem run_f32from (x : Int) (w : World) : (callFunc 83 #[.int .u32 x]).run Try.prog w = .ok (.value (.float .f32 x.toNat)) w := by
  rw [run_callFunc_extern (show Try.prog.funcs[83]? = some Try.f83 by kernel_rfl) (by kernel_rfl) (by kernel_rfl) (by kernel_rfl) (e := Extern.MathFloatBits.float32frombits) (by kernel_rfl)]
  rfl
theorem math_Abs (b : Nat) (hb : b < 18446744073709551616) (w : World) : Calls Try.prog 51 #[.float .f64 b] w fun e w' => e = .returned (.float .f64 (b % 9223372036854775808)) ∧ w = w' := by
  have hd := run_f64bits
  have hd2 := run_f64from
  go_enter Try.func51, Try.ntmps51
  go_wp2
  go_ret
  exact ⟨by rw [and_63 b hb]; rfl, rfl⟩
/-- an absolute value by way of the wide kind -/
theorem impl_size (x : Nat) (hx : x < 4294967296) (w : World) : Calls Try.prog 61 #[.float .f32 x] w fun e w' => ∃ r, e = .returned (.float .f32 r) ∧ Hid (cn .f32 r = absW (cn .f32 x) ∧ r < 4294967296) ∧ Dr w w' := by
  have hl := fun w => cv64_lt x w
  have ha := fun w w' => abs_round hx w w'
  have HA := Lib.hid ha; clear ha
  go_enter Try.func61, Try.ntmps61
  go_wp2_with (go_at_call 51; refine (math_Abs _ (hl _) _).mono ?_; rintro e w' ⟨rfl, rfl⟩)
  go_ret
  exact ⟨_, rfl, Lib.hid ⟨(HA.out _ _).2, cv_lt32 _ (HA.out _ w).1⟩, _, rfl⟩
theorem spec_l01From (n : Nat) (hn : n < 4294967296) (w : World) : Calls Try.prog 47 #[.int .i64 n] w fun e w' => e = .returned (.float .f32 n) ∧ w = w' := by
  have hd := run_f32from
  go_enter Try.func47, Try.ntmps47
  go_wp2
  go_ret
  exact ⟨rfl, rfl⟩
theorem math_NaN (w : World) : Calls Try.prog 88 #[] w fun e w' => e = .returned (.float .f64 9221120237041090561) ∧ w = w' := by
  have hd2 := run_f64from
  go_enter Try.func88, Try.ntmps88
  go_wp2
  go_ret
  exact ⟨rfl, rfl⟩
theorem impl_noNumber (w : World) : Calls Try.prog 55 #[] w fun e w' => ∃ r, e = .returned (.float .f32 r) ∧ Hid (cn .f32 r = nanOf .f32 ∧ r < 4294967296) ∧ Dr w w' := by
  go_enter Try.func55, Try.ntmps55
  go_wp2_with (go_at_call 88; refine (math_NaN _).mono ?_; rintro e w' ⟨rfl, rfl⟩)
  go_ret
  have hn : isN .f64 9221120237041090561 = true := by decide +kernel
  exact ⟨_, rfl, Lib.hid ⟨by rw [cn_cvbits _ (wide_nan hn), cn_nan hn]; decide +kernel, cv_lt32 _ (wide_nan hn)⟩, _, rfl⟩
end Go.Proofs.Ytnhikdjljjemlaa
/- What the spread of finite numbers is. No condition. -/
namespace Go.Proofs.Ytnhikdjljjemlaa
open Go Go.RowKit Ieee
set_option linter.unusedVariables false
set_option linter.unusedSimpArgs false
theorem impl_areFinite_1 (x : Nat) (w : World) : Calls Try.prog 105 #[.float .f32 x] w fun e w' => e = .returned (.bool !(finB x)) ∧ Dr w w' := by
  go_enter Try.func105, Try.ntmps105
  go_wp2_with (go_at_call 20; refine (impl_IsFinite _ _).mono ?_; rintro e w' ⟨rfl, ⟨q, rfl⟩⟩)
  go_ret
  exact ⟨rfl, _, rfl⟩
def IdxPostF (p : Nat → Bool) (xs : List Nat) (w : World) (e : Ending) (w' : World) : Prop := ∃ i : Int, e = .returned (.int .i64 i) ∧ decide (0 ≤ i) = xs.any p ∧ Dr w w'
theorem idx_fin (w : World) (ad : Option Addr) (cap : Nat) (xs : List Nat) (h : F32s w ad cap xs) (hn : xs.length ≤ 1048576) :
    Calls Try.prog 112 #[.slice ad xs.length cap, .func (.func 105) #[] #[]] w (IdxPostF (fun n => !(finB n)) xs w) := by
  obtain ⟨n, hN⟩ : ∃ n, n = xs.length := ⟨_, rfl⟩
  rw [← hN] at hn ⊢
  have HN := Lib.hid hN; clear hN
  go_enter Try.func112, Try.ntmps112
  go_wp2
  go_loopw [8] (fun i wr => ∃ k : Nat, i = .int .i64 k ∧ k ≤ n ∧ (xs.take k).any (fun n => !(finB n)) = false ∧ Dr w wr) (fun i _ => n - (intOf i).toNat)
  case atStart => exact ⟨0, rfl, Nat.zero_le _, rfl, Dr.refl _⟩
  case round =>
    obtain ⟨k, rfl, hk, hno, hdr⟩ := hrel
    have h := h.below hdr.below
    have HO := Lib.hid hno; have HD := Lib.hid hdr; clear hno hdr
    by_cases hlt : k < n
    · have hkx : k < xs.length := by rw [← HN.out]; exact hlt
      obtain ⟨b, off, rfl, _, hc⟩ := h.spot (k := k) hkx
      have hc1 := hc k hkx
      obtain ⟨x, hx⟩ : ∃ x, x = xs.getD k 0 := ⟨_, rfl⟩
      rw [← hx] at hc1
      have HX := Lib.hid hx; clear hx hc h
      cases hb : finB x
      · go_wp2_with (go_at_call 105; refine (impl_areFinite_1 _ _).mono ?_; rintro e w' ⟨rfl, ⟨q, rfl⟩⟩)
        go_ret
        refine ⟨k, rfl, ?_, HD.out.drewN _⟩
        have : (xs.any fun n => !(finB n)) = true := by
          rw [List.any_eq_true]
          exact ⟨xs.getD k 0, by rw [List.getD_eq_getElem?_getD, List.getElem?_eq_getElem hkx]; exact List.getElem_mem hkx, by rw [← HX.out, hb]; rfl⟩
        rw [this]; simp
      · go_wp2_with (go_at_call 105; refine (impl_areFinite_1 _ _).mono ?_; rintro e w' ⟨rfl, ⟨q, rfl⟩⟩)
        go_roundw
        case rel =>
          refine ⟨k + 1, by go_num, hlt, ?_, HD.out.drewN _⟩
          rw [List.take_succ_eq_append_getElem hkx, List.any_append, HO.out]
          have : xs[k] = x := by rw [HX.out, List.getD_eq_getElem?_getD, List.getElem?_eq_getElem hkx]; rfl
          simp [this, hb]
        case measure => simp [intOf]; omega
    · have hkn : k = n := by omega
      subst hkn
      go_wp2
      go_ret
      refine ⟨-1, rfl, ?_, HD.out⟩
      have := HO.out
      rw [HN.out, List.take_length] at this
      rw [this]; rfl
theorem contains_fin (w : World) (ad : Option Addr) (cap : Nat) (xs : List Nat) (h : F32s w ad cap xs) (hn : xs.length ≤ 1048576) :
    Calls Try.prog 104 #[.slice ad xs.length cap, .func (.func 105) #[] #[]] w fun e w' => e = .returned (.bool (xs.any (fun n => !(finB n)))) ∧ Dr w w' := by
  have hc := idx_fin w ad cap xs h hn
  have HC := Lib.hid hc; clear hc
  go_enter Try.func104, Try.ntmps104
  go_wp2_with fail
  refine HC.out.mono ?_
  rintro e w' ⟨i, rfl, hi, q, rfl⟩
  have HI := Lib.hid hi; clear hi
  go_wp2
  go_ret
  exact ⟨by rw [← HI.out]; rfl, _, rfl⟩
theorem impl_areFinite (w : World) (ad : Option Addr) (cap : Nat) (xs : List Nat) (h : F32s w ad cap xs) (hn : xs.length ≤ 1048576) :
    Calls Try.prog 92 #[.slice ad xs.length cap] w fun e w' => e = .returned (.bool (xs.all finB)) ∧ Dr w w' := by
  have hc := contains_fin w ad cap xs h hn
  have HC := Lib.hid hc; clear hc
  go_enter Try.func92, Try.ntmps92
  go_wp2_with fail
  refine HC.out.mono ?_
  rintro e w' ⟨rfl, q, rfl⟩
  go_wp2
  go_ret
  exact ⟨by simp [List.all_eq_not_any_not], _, rfl⟩
theorem impl_areFew (w : World) (ad : Option Addr) (cap : Nat) (xs : List Nat) (h : F32s w ad cap xs) :
    Calls Try.prog 67 #[.slice ad xs.length cap] w fun e w' => e = .returned (.bool (fewFin xs)) ∧ Dr w w' := by
  unfold fewFin
  have hm := Nat.le_trans h.len h.cap
  unfold maxLen at hm
  by_cases hn : xs.length ≤ 256
  · rw [decide_eq_true hn]
    have hc := impl_areFinite w ad cap xs h (by omega)
    have HC := Lib.hid hc; clear hc
    go_enter Try.func67, Try.ntmps67
    go_wp2_with (refine HC.out.mono ?_; rintro e w' ⟨rfl, q, rfl⟩)
    go_ret
    exact ⟨rfl, _, rfl⟩
  · rw [decide_eq_false hn]
    go_enter Try.func67, Try.ntmps67
    go_wp2
    go_ret
    exact ⟨rfl, Dr.refl _⟩
end Go.Proofs.Ytnhikdjljjemlaa
/- What the codes of numbers are. No condition. -/
namespace Go.Proofs.Ytnhikdjljjemlaa
open Go Go.RowKit Ieee
set_option linter.unusedVariables false
set_option linter.unusedSimpArgs false
def lsI (n : Nat) (f : Nat → Int) : List Int := (List.range n).map f
theorem lsI_succ (k : Nat) (f : Nat → Int) : lsI (k + 1) f = lsI k f ++ [f k] := by simp [lsI, List.range_succ]
theorem lsI_length (n : Nat) (f : Nat → Int) : (lsI n f).length = n := by simp [lsI]
/-- the quotient of two numbers as 64-bit numbers -/
def qE (x sp : Nat) : Nat := fop .quo .f64 (fcv .f32 x .f64) (fcv .f32 sp .f64)
theorem spread_pos {sp : Nat} (hs : sp < 4294967296) (h : spreadOk sp = true) : sp < single.infRung := by
  unfold spreadOk at h
  simp only [Bool.and_eq_true, decide_eq_true_eq] at h
  have h1 := ge_zero_sign hs h.1.2
  rw [decide_eq_true h.2] at h1
  have h2 : sp < 2147483648 := of_decide_eq_true h1
  have := fin_rung (neg := false) (r := sp) (by rw [s_sw]; exact h2) h.1.1
  exact this
theorem fcv_word (s : Bool) {r : Nat} (hr : r < single.infRung) : ∃ q, q < double.infRung ∧ (∀ w, cvbits .f32 (single.word s r) .f64 w = double.word s q) ∧ fcv .f32 (single.word s r) .f64 = double.word s q ∧ nval double q = nval single r * 2 ^ 925 := by
  obtain ⟨q, h1, h2, h3⟩ := wide_fin s hr
  refine ⟨q, h1, h2, ?_, h3⟩
  have hn : isN .f32 (single.word s r) = false := read_word_le single s (by omega)
  have e := cn_wide (single.word s r) (default : World)
  rw [cn_not hn, h2, cn_not (show isN .f64 (double.word s q) = false from read_word_le double s (by omega))] at e
  exact e.symm
theorem quo_some {s t : Bool} {a b : Nat} (ha : a < double.infRung) (hb : b < double.infRung) (h0 : b ≠ 0) : ∃ r, floatBits .quo .f64 (double.word s a) (double.word t b) = some r := by
  obtain ⟨m, p, h1, h2, h3⟩ := read_fin double s ha
  obtain ⟨n, q, k1, k2, k3⟩ := read_fin double t hb
  have hn : n ≠ 0 := by
    intro e
    subst e
    have := nval_lt (f := double) (show 0 < b by omega)
    rw [nval_zero, ← k3] at this
    simp at this
  unfold floatBits
  simp only
  show ∃ r, ((double.read (double.word s a)).quotient _ (double.read (double.word t b))).map _ = some r
  rw [h1, k1]
  unfold Datum.quotient
  simp only [if_neg hn]
  exact ⟨_, rfl⟩
set_option exponentiation.threshold 2000 in
theorem quo_at {x sp : Nat} (hx : x < 4294967296) (hf : finB x = true) (hs : sp < 4294967296) (hsp : spreadOk sp = true) (h0 : 0 < sp) :
    (∀ w1 w2 w3, fbits .quo .f64 (cvbits .f32 x .f64 w1) (cvbits .f32 sp .f64 w2) w3 = qE x sp) ∧ isN .f64 (qE x sp) = false ∧ qE x sp < 18446744073709551616 := by
  obtain ⟨s, r, e, hr⟩ := word_of single (x := x) (by rw [s_sw]; omega)
  rw [e] at hf
  have hr2 := fin_rung hr hf
  obtain ⟨a, ha, ha1, ha2, _⟩ := fcv_word s hr2
  obtain ⟨b, hb, hb1, hb2, hb3⟩ := fcv_word false (spread_pos hs hsp)
  have hb0 : b ≠ 0 := by
    intro e0
    subst e0
    have := nval_lt (f := single) h0
    rw [nval_zero] at this hb3
    have : 0 < nval single sp * 2 ^ 925 := Nat.mul_pos this (Nat.two_pow_pos _)
    omega
  obtain ⟨q, hq⟩ := quo_some (s := s) (t := false) ha hb hb0
  have e1 : ∀ w, cvbits .f32 sp .f64 w = double.word false b := hb1
  have e2 : fcv .f32 sp .f64 = double.word false b := hb2
  have e3 : qE x sp = q := by unfold qE fop; rw [e, ha2, e2, hq]; rfl
  refine ⟨fun w1 w2 w3 => ?_, by rw [e3]; exact (bits_not hq).2.2, ?_⟩
  · rw [e, ha1, e1, fbits_some hq, ← e3, e]
  · rw [e3]
    have := floatBits_wf hq
    simpa [Lit.wf] using this
def WOf (_ : Nat) (q : Nat) : Nat := whole .even q
def WBy (ch : List Int) (i q : Nat) : Nat :=
  if FloatKind.f64.format.order (fop .mul .f64 (fop .sub .f64 q (whole .down q)) 4643211215818981376) (floatOfInt .f64 (ch.getD i 0)) = some .gt then fop .add .f64 (whole .down q) 4607182418800017408 else whole .down q
theorem whole_lt (way : Toward) {q : Nat} (h : isN .f64 q = false) : whole way q < 18446744073709551616 := by
  unfold whole
  cases hr : double.read q with
  | nan s t => unfold isN at h; rw [show FloatKind.f64.format.read q = _ from hr] at h; cases h
  | infinity s => cases way <;> cases s <;> decide +kernel
  | number s m p => exact Nat.lt_of_lt_of_le (double.nearest_lt _ _ _) (by decide +kernel)
theorem one_some {n : Nat} (h : isN .f64 n = false) : ∃ r, floatBits .add .f64 n 4607182418800017408 = some r := by
  unfold floatBits
  simp only
  show ∃ r, ((double.read n).sum (double.read 4607182418800017408)).map _ = some r
  have h1 : double.read 4607182418800017408 = .number false (2 ^ 52) (-52) := by decide +kernel
  rw [h1]
  cases hr : double.read n with
  | nan s t => unfold isN at h; rw [show FloatKind.f64.format.read n = _ from hr] at h; cases h
  | infinity s => exact ⟨_, rfl⟩
  | number s m p => exact ⟨_, rfl⟩
theorem WOf_ok {i q : Nat} (h : isN .f64 q = false) : isN .f64 (WOf i q) = false ∧ WOf i q < 18446744073709551616 := ⟨whole_not .even h, whole_lt .even h⟩
theorem WBy_ok {ch : List Int} {i q : Nat} (h : isN .f64 q = false) : isN .f64 (WBy ch i q) = false ∧ WBy ch i q < 18446744073709551616 := by
  unfold WBy
  split
  · obtain ⟨r, hr⟩ := one_some (whole_not .down h)
    have e : fop .add .f64 (whole .down q) 4607182418800017408 = r := by unfold fop; rw [hr]; rfl
    rw [e]
    have := floatBits_wf hr
    exact ⟨(bits_not hr).2.2, by simpa [Lit.wf] using this⟩
  · exact ⟨whole_not .down h, whole_lt .down h⟩
theorem by_cmp (q f : Nat) (y : Int) : ∀ w1 w2, FloatKind.f64.format.order (fbits .mul .f64 (fbits .sub .f64 q f w1) 4643211215818981376 w2) (floatOfInt .f64 y) = FloatKind.f64.format.order (fop .mul .f64 (fop .sub .f64 q f) 4643211215818981376) (floatOfInt .f64 y) := by
  intro w1 w2
  have e1 : cn .f64 (fbits .mul .f64 (fbits .sub .f64 q f w1) 4643211215818981376 w2) = fop .mul .f64 (fop .sub .f64 (cn .f64 q) (cn .f64 f)) (cn .f64 4643211215818981376) := by rw [cn_fbits, cn_fbits]
  have e2 : cn .f64 (fop .mul .f64 (fop .sub .f64 q f) 4643211215818981376) = fop .mul .f64 (fop .sub .f64 q f) 4643211215818981376 := cn_fop _ _ _ _
  have e3 : fop .mul .f64 (fop .sub .f64 (cn .f64 q) (cn .f64 f)) (cn .f64 4643211215818981376) = fop .mul .f64 (fop .sub .f64 q f) 4643211215818981376 := by
    rw [fop_cn .sub]
    conv => lhs; rw [← cn_fop .sub, fop_cn]
  rw [← order_cn, e1, e3, ← order_cn .f64 (fop _ _ _ _), e2, cn_floatOfInt, cn_floatOfInt]
/-- the code of a number -/
def codeE (Wf : Nat → Nat → Nat) (xs : List Nat) (sp i : Nat) : Int := if sp = 0 then 0 else clampI (Wf i (qE (xs.getD i 0) sp))
theorem codeE_bd {Wf : Nat → Nat → Nat} (hW : ∀ i q, isN .f64 q = false → isN .f64 (Wf i q) = false ∧ Wf i q < 18446744073709551616) {xs : List Nat} {sp : Nat} (hs : sp < 4294967296) (hsp : spreadOk sp = true) (hx : ∀ x ∈ xs, x < 4294967296) (hf : ∀ x ∈ xs, finB x = true) {i : Nat} (hi : i < xs.length) :
    -127 ≤ codeE Wf xs sp i ∧ codeE Wf xs sp i ≤ 127 := by
  unfold codeE
  split
  · decide
  · rename_i h0
    have hm : xs.getD i 0 ∈ xs := by rw [List.getD_eq_getElem?_getD, List.getElem?_eq_getElem hi]; exact List.getElem_mem hi
    have hq := (quo_at (hx _ hm) (hf _ hm) hs hsp (by omega)).2.1
    obtain ⟨_, _, _, _, _, h1, h2⟩ := clamp_ok (hW i _ hq).1 (hW i _ hq).2
    exact ⟨h1, h2⟩
theorem wf_code {n : Int} (h : -127 ≤ n ∧ n ≤ 127) : (Lit.int .i64 n).wf = true := by
  simp [Lit.wf, IntKind.min, IntKind.max, IntKind.signed, IntKind.bits]; omega
theorem run_even_ext (x : Nat) (hx : isN .f64 x = false) (w : World) : (callFunc 71 #[.float .f64 x]).run Try.prog w = .ok (.value (.float .f64 (whole .even x))) w := by
  rw [run_callFunc_extern (show Try.prog.funcs[71]? = some Try.f71 by kernel_rfl) (by kernel_rfl) (by kernel_rfl) (by kernel_rfl) (e := Extern.MathFloor.toIntegral "math.RoundToEven" .even) (by kernel_rfl), run_whole _ _ _ _ hx]
  rfl
theorem run_floor_ext (x : Nat) (hx : isN .f64 x = false) (w : World) : (callFunc 94 #[.float .f64 x]).run Try.prog w = .ok (.value (.float .f64 (whole .down x))) w := by
  rw [run_callFunc_extern (show Try.prog.funcs[94]? = some Try.f94 by kernel_rfl) (by kernel_rfl) (by kernel_rfl) (by kernel_rfl) (e := Extern.MathFloor.toIntegral "math.archFloor" .down) (by kernel_rfl), run_whole _ _ _ _ hx]
  rfl
theorem math_Floor (x : Nat) (hx : isN .f64 x = false) (w : World) : Calls Try.prog 75 #[.float .f64 x] w fun e w' => e = .returned (.float .f64 (whole .down x)) ∧ w = w' := by
  have hd := run_floor_ext x hx
  have HX := Lib.hid hx; clear hx
  go_enter Try.func75, Try.ntmps75
  go_wp2
  go_ret
  exact ⟨rfl, rfl⟩
theorem impl_CodesOf_1 (i : Int) (q : Nat) (hq : isN .f64 q = false) (w : World) : Calls Try.prog 70 #[.int .i64 i, .float .f64 q] w fun e w' => e = .returned (.float .f64 (whole .even q)) ∧ Dr w w' := by
  have hd := run_even_ext q hq
  have HQ := Lib.hid hq; clear hq
  go_enter Try.func70, Try.ntmps70
  go_wp2
  go_ret
  exact ⟨rfl, Dr.refl _⟩
theorem impl_CodesBy_2 (w : World) (g : Nat) (ad : Option Addr) (cap : Nat) (ch : List Int) (h : Ints .i64 w ad cap ch) (hg : w.cell? ⟨g, 0, none⟩ = some (.slice ad ch.length cap)) (i : Nat) (hi : i < ch.length) (q : Nat) (hq : isN .f64 q = false) :
    Calls Try.prog 74 #[.int .i64 i, .float .f64 q, .pointer (some ⟨g, 0, none⟩)] w fun e w' => e = .returned (.float .f64 (WBy ch i q)) ∧ Dr w w' := by
  obtain ⟨b, off, rfl, _, hc⟩ := h.spot (i := i) hi
  have hcell := hc i hi
  have hm := Nat.le_trans h.len h.cap
  unfold maxLen at hm
  obtain ⟨r, hr⟩ := one_some (whole_not .down hq)
  have hadd := fun w => fbits_some hr w
  have hadd0 := fdr_some hr
  have hz := World.drewN_none
  have er : fop .add .f64 (whole .down q) 4607182418800017408 = r := by unfold fop; rw [hr]; rfl
  obtain ⟨f, hf⟩ : ∃ f, f = whole .down q := ⟨_, rfl⟩
  have hfl := fun W => math_Floor q hq W
  have hcmp : ∀ w1 w2, FloatKind.f64.format.order (fbits .mul .f64 (fbits .sub .f64 q f w1) 4643211215818981376 w2) (floatOfInt .f64 (ch.getD i 0)) = FloatKind.f64.format.order (fop .mul .f64 (fop .sub .f64 q f) 4643211215818981376) (floatOfInt .f64 (ch.getD i 0)) := by
    intro w1 w2
    have e1 : cn .f64 (fbits .mul .f64 (fbits .sub .f64 q f w1) 4643211215818981376 w2) = fop .mul .f64 (fop .sub .f64 (cn .f64 q) (cn .f64 f)) (cn .f64 4643211215818981376) := by rw [cn_fbits, cn_fbits]
    have e2 : cn .f64 (fop .mul .f64 (fop .sub .f64 q f) 4643211215818981376) = fop .mul .f64 (fop .sub .f64 q f) 4643211215818981376 := cn_fop _ _ _ _
    have e3 : fop .mul .f64 (fop .sub .f64 (cn .f64 q) (cn .f64 f)) (cn .f64 4643211215818981376) = fop .mul .f64 (fop .sub .f64 q f) 4643211215818981376 := by
      rw [fop_cn .sub]
      conv => lhs; rw [← cn_fop .sub, fop_cn]
    rw [← order_cn, e1, e3, ← order_cn .f64 (fop _ _ _ _), e2, cn_floatOfInt, cn_floatOfInt]
  have hW : WBy ch i q = if FloatKind.f64.format.order (fop .mul .f64 (fop .sub .f64 q f) 4643211215818981376) (floatOfInt .f64 (ch.getD i 0)) = some .gt then r else f := by unfold WBy; rw [← hf]; rw [← hf] at er; rw [er]
  rw [← hf] at hfl hadd hadd0
  obtain ⟨cc, hcc⟩ : ∃ cc, cc = ch.getD i 0 := ⟨_, rfl⟩
  rw [← hcc] at hcell hcmp hW
  obtain ⟨n, hn⟩ : ∃ n, n = ch.length := ⟨_, rfl⟩
  rw [← hn] at hi hm hg
  obtain ⟨D, hD⟩ : ∃ D, D = FloatKind.f64.format.order (fop .mul .f64 (fop .sub .f64 q f) 4643211215818981376) (floatOfInt .f64 cc) := ⟨_, rfl⟩
  rw [← hD] at hcmp hW
  have HW := Lib.hid hW; have HF := Lib.hid hfl
  clear hW hD hn hcc hf er hr hq h hc hfl
  by_cases hgt : D = some .gt
  · subst hgt
    go_enter Try.func74, Try.ntmps74
    go_wp2_with fail
    refine (HF.out _).mono ?_
    rintro e w1 ⟨rfl, rfl⟩
    go_wp2
    go_ret
    exact ⟨by rw [HW.out]; simp, _, rfl⟩
  · have hgt2 : (D == some .gt) = false := by simpa using hgt
    go_enter Try.func74, Try.ntmps74
    go_wp2_with fail
    refine (HF.out _).mono ?_
    rintro e w1 ⟨rfl, rfl⟩
    go_wp2
    go_ret
    exact ⟨by rw [HW.out, if_neg hgt]; rfl, _, rfl⟩
end Go.Proofs.Ytnhikdjljjemlaa
/- Plain laws: numbers made whole, to the nearest and down, and clamped, as rational numbers. No condition. -/
namespace Go.Proofs.Ytnhikdjljjemlaa
open Go Go.RowKit Ieee
set_option linter.unusedVariables false
set_option linter.unusedSimpArgs false
theorem cut_down (neg : Bool) (N d : Nat) : (neg = false → ((Toward.down.cut neg N d : Nat) : Rat) * (2 : Rat) ^ d ≤ N ∧ (N : Rat) < (((Toward.down.cut neg N d : Nat) : Rat) + 1) * (2 : Rat) ^ d) ∧
    (neg = true → (N : Rat) ≤ ((Toward.down.cut neg N d : Nat) : Rat) * (2 : Rat) ^ d ∧ (((Toward.down.cut neg N d : Nat) : Rat) - 1) * (2 : Rat) ^ d < N) := by
  have hp : ∀ n : Nat, ((2 ^ n : Nat) : Rat) = (2 : Rat) ^ n := fun n => by rw [Rat.natCast_pow]; rfl
  unfold Toward.cut
  simp only [Nat.shiftLeft_eq, Nat.one_mul]
  by_cases h : d ≤ N.log2 + 2
  · rw [Nat.min_eq_left h]
    obtain ⟨g, hg⟩ : ∃ g, g = 2 ^ d := ⟨_, rfl⟩
    have hgp : 0 < g := by rw [hg]; exact Nat.two_pow_pos _
    rw [← hp, ← hg]
    have hdiv := Nat.div_add_mod N g
    have hmod := Nat.mod_lt N hgp
    generalize N / g = q at *
    generalize N % g = t at *
    have hN : (N : Rat) = (g : Rat) * q + t := by rw [← hdiv, Rat.natCast_add, Rat.natCast_mul]
    have ht0 : (0 : Rat) ≤ t := Rat.natCast_nonneg
    have htg : (t : Rat) < g := nat_rat_lt hmod
    rw [hN]
    constructor
    · intro hn; subst hn
      simp only [Bool.false_and, Bool.toNat_false, Nat.add_zero]
      constructor <;> grind
    · intro hn; subst hn
      by_cases hz : t = 0
      · subst hz
        simp only [bne_self_eq_false, Bool.and_false, Bool.toNat_false, Nat.add_zero]
        have hg0 : (0 : Rat) < g := by have := nat_rat_lt hgp; simpa using this
        have e0 : ((0 : Nat) : Rat) = 0 := rfl
        rw [e0]
        constructor <;> grind
      · have hz' : (t != 0) = true := by simpa using hz
        have h1 : (0 : Rat) < t := by have := nat_rat_lt (Nat.pos_of_ne_zero hz); simpa using this
        simp only [hz', Bool.and_true, Bool.toNat_true]
        rw [Rat.natCast_add]
        have e1 : ((1 : Nat) : Rat) = 1 := rfl
        rw [e1]
        constructor <;> grind
  · rw [Nat.min_eq_right (by omega)]
    have hlt : N < 2 ^ (N.log2 + 2) := Nat.lt_of_lt_of_le Nat.lt_log2_self (Nat.pow_le_pow_right (by decide) (by omega))
    rw [Nat.div_eq_of_lt hlt, Nat.mod_eq_of_lt hlt]
    have hlt2 : (N : Rat) < (2 : Rat) ^ d := by
      rw [← hp]; exact nat_rat_lt (Nat.lt_of_lt_of_le hlt (Nat.pow_le_pow_right (by decide) (by omega)))
    have h0 : (0 : Rat) ≤ N := Rat.natCast_nonneg
    have e0 : ((0 : Nat) : Rat) = 0 := rfl
    constructor
    · intro hn; subst hn
      simp only [Bool.false_and, Bool.toNat_false, Nat.add_zero, e0]
      constructor <;> grind
    · intro hn; subst hn
      by_cases hz : N = 0
      · subst hz
        simp only [bne_self_eq_false, Bool.and_false, Bool.toNat_false, Nat.add_zero, e0]
        constructor <;> grind
      · have hz' : (N != 0) = true := by simpa using hz
        have h1 : (0 : Rat) < N := by have := nat_rat_lt (Nat.pos_of_ne_zero hz); simpa using this
        have e1 : ((1 : Nat) : Rat) = 1 := rfl
        simp only [hz', Bool.and_true, Bool.toNat_true, Nat.zero_add, e1]
        constructor <;> grind
/-- the integer next to a number -/
def isEven (z : Int) (v : Rat) : Prop := 2 * (z : Rat) - 1 ≤ 2 * v ∧ 2 * v ≤ 2 * (z : Rat) + 1 ∧ (z % 2 = 1 → 2 * (z : Rat) - 1 < 2 * v ∧ 2 * v < 2 * (z : Rat) + 1)
def isDown (z : Int) (v : Rat) : Prop := (z : Rat) ≤ v ∧ v < (z : Rat) + 1
theorem int_le_of {a b : Int} (h : (a : Rat) < (b : Rat) + 1) : a ≤ b := by
  have e : (b : Rat) + 1 = ((b + 1 : Int) : Rat) := by rw [Rat.intCast_add]; rfl
  rw [e, Rat.intCast_lt_intCast] at h; omega
theorem isEven.mono {z z' : Int} {v v' : Rat} (h : isEven z v) (h' : isEven z' v') (hv : v ≤ v') : z ≤ z' := by
  obtain ⟨a1, a2, a3⟩ := h
  obtain ⟨b1, b2, b3⟩ := h'
  rcases Int.lt_or_le z' z with hlt | hge
  · exfalso
    have h1 : (z' : Rat) + 1 ≤ (z : Rat) := by
      have : ((z' + 1 : Int) : Rat) ≤ (z : Rat) := Rat.intCast_le_intCast.2 (by omega)
      rw [Rat.intCast_add] at this; exact this
    have h2 : z ≤ z' + 1 := int_le_of (by
      have e : ((z' + 1 : Int) : Rat) = (z' : Rat) + 1 := by rw [Rat.intCast_add]; rfl
      rw [e]; grind)
    have h3 : z = z' + 1 := by omega
    by_cases ho : z % 2 = 1
    · obtain ⟨c1, c2⟩ := a3 ho; grind
    · obtain ⟨c1, c2⟩ := b3 (by omega); grind
  · exact hge
theorem isEven.down {z y : Int} {v : Rat} (h : isEven z v) (k : isDown y v) : y ≤ z ∧ z ≤ y + 1 := by
  obtain ⟨a1, a2, _⟩ := h
  obtain ⟨b1, b2⟩ := k
  constructor
  · exact int_le_of (by grind)
  · refine int_le_of ?_
    have e : ((y + 1 : Int) : Rat) = (y : Rat) + 1 := by rw [Rat.intCast_add]; rfl
    rw [e]; grind
theorem num_shift (s : Bool) (m : Nat) (p : Int) : num s m p * (2 : Rat) ^ (-p).toNat = sg s * ((m <<< p.toNat : Nat) : Rat) := by
  unfold num
  have e : (2 : Rat) ^ p * ((2 ^ (-p).toNat : Nat) : Rat) = ((2 ^ p.toNat : Nat) : Rat) := by
    rw [← pw_nat, ← pw_nat, ← pw_add]; congr 1; omega
  have hp : ∀ n : Nat, ((2 ^ n : Nat) : Rat) = (2 : Rat) ^ n := fun n => by rw [Rat.natCast_pow]; rfl
  rw [Nat.shiftLeft_eq, Rat.natCast_mul, ← e, hp]
  grind
theorem signed_zero (s : Bool) (L : Nat) : ((signed s L 0 : Int) : Rat) = sg s * (L : Rat) := by
  have := signed_rv s L 0
  rw [this]
  have e : (2 : Rat) ^ ((0 : Nat) : Int) = 1 := pw_zero
  rw [e]; grind
theorem num_zero_place (s : Bool) (L : Nat) : num s L 0 = ((signed s L 0 : Int) : Rat) := by
  unfold num; rw [pw_zero, signed_zero]; grind
theorem whole_even {q : Nat} (h : Fin double q) : ∃ z : Int, isEven z (val double q) ∧ Near double (z : Rat) (whole .even q) := by
  obtain ⟨s, m, p, h1, h2⟩ := h.read
  have hc := cut_even s (m <<< p.toNat) (-p).toNat
  have hs := num_shift s m p
  obtain ⟨L, hL⟩ : ∃ L, L = Toward.even.cut s (m <<< p.toNat) (-p).toNat := ⟨_, rfl⟩
  refine ⟨signed s L 0, ?_, ?_⟩
  · rw [← hL] at hc
    rw [h2]
    unfold isEven
    rw [signed_zero]
    obtain ⟨v, hv⟩ : ∃ v, v = num s m p := ⟨_, rfl⟩
    obtain ⟨g, hg⟩ : ∃ g : Rat, g = (2 : Rat) ^ (-p).toNat := ⟨_, rfl⟩
    have hg0 : 0 < g := by rw [hg]; exact Rat.pow_pos (by decide)
    rw [← hv, ← hg] at hs
    rw [← hg] at hc
    rw [← hv]
    obtain ⟨N, hN⟩ : ∃ N : Rat, N = ((m <<< p.toNat : Nat) : Rat) := ⟨_, rfl⟩
    rw [← hN] at hs hc
    obtain ⟨l, hl⟩ : ∃ l : Rat, l = (L : Rat) := ⟨_, rfl⟩
    rw [← hl] at hc ⊢
    obtain ⟨c1, c2, c3⟩ := hc
    have hodd : (signed s L 0) % 2 = 1 → L % 2 = 1 := by
      unfold signed; cases s <;> simp <;> omega
    have key : ∀ a b : Rat, a * g ≤ b * g → a ≤ b := fun a b hab => Rat.le_of_mul_le_mul_right hab hg0
    have keyl : ∀ a b : Rat, a * g < b * g → a < b := fun a b hab => by
      rcases rat_tri a b with k | k | k
      · exact k
      · subst k; exact absurd hab (Rat.lt_irrefl)
      · have := Rat.mul_lt_mul_of_pos_right k hg0; grind
    cases s
    · simp only [sg, Bool.false_eq_true, if_false, Rat.one_mul] at hs ⊢
      refine ⟨key _ _ (by grind), key _ _ (by grind), fun ho => ?_⟩
      obtain ⟨d1, d2⟩ := c3 (hodd ho)
      exact ⟨keyl _ _ (by grind), keyl _ _ (by grind)⟩
    · simp only [sg, if_true] at hs ⊢
      refine ⟨key _ _ (by grind), key _ _ (by grind), fun ho => ?_⟩
      obtain ⟨d1, d2⟩ := c3 (hodd ho)
      exact ⟨keyl _ _ (by grind), keyl _ _ (by grind)⟩
  · unfold whole
    rw [h1]
    show Near double _ (double.nearest s (Toward.even.cut s (m <<< p.toNat) (-p).toNat) 0)
    rw [← hL, ← num_zero_place]
    exact near_num double (by decide) s L 0
theorem whole_down {q : Nat} (h : Fin double q) : ∃ z : Int, isDown z (val double q) ∧ Near double (z : Rat) (whole .down q) := by
  obtain ⟨s, m, p, h1, h2⟩ := h.read
  have hc := cut_down s (m <<< p.toNat) (-p).toNat
  have hs := num_shift s m p
  obtain ⟨L, hL⟩ : ∃ L, L = Toward.down.cut s (m <<< p.toNat) (-p).toNat := ⟨_, rfl⟩
  refine ⟨signed s L 0, ?_, ?_⟩
  · rw [← hL] at hc
    rw [h2]
    unfold isDown
    rw [signed_zero]
    obtain ⟨v, hv⟩ : ∃ v, v = num s m p := ⟨_, rfl⟩
    obtain ⟨g, hg⟩ : ∃ g : Rat, g = (2 : Rat) ^ (-p).toNat := ⟨_, rfl⟩
    have hg0 : 0 < g := by rw [hg]; exact Rat.pow_pos (by decide)
    rw [← hv, ← hg] at hs
    rw [← hg] at hc
    rw [← hv]
    obtain ⟨N, hN⟩ : ∃ N : Rat, N = ((m <<< p.toNat : Nat) : Rat) := ⟨_, rfl⟩
    rw [← hN] at hs hc
    obtain ⟨l, hl⟩ : ∃ l : Rat, l = (L : Rat) := ⟨_, rfl⟩
    rw [← hl] at hc ⊢
    obtain ⟨c1, c2⟩ := hc
    have key : ∀ a b : Rat, a * g ≤ b * g → a ≤ b := fun a b hab => Rat.le_of_mul_le_mul_right hab hg0
    have keyl : ∀ a b : Rat, a * g < b * g → a < b := fun a b hab => by
      rcases rat_tri a b with k | k | k
      · exact k
      · subst k; exact absurd hab (Rat.lt_irrefl)
      · have := Rat.mul_lt_mul_of_pos_right k hg0; grind
    cases s
    · simp only [sg, Bool.false_eq_true, if_false, Rat.one_mul] at hs ⊢
      obtain ⟨d1, d2⟩ := c1 rfl
      exact ⟨key _ _ (by grind), keyl _ _ (by grind)⟩
    · simp only [sg, if_true] at hs ⊢
      obtain ⟨d1, d2⟩ := c2 rfl
      exact ⟨key _ _ (by grind), keyl _ _ (by grind)⟩
  · unfold whole
    rw [h1]
    show Near double _ (double.nearest s (Toward.down.cut s (m <<< p.toNat) (-p).toNat) 0)
    rw [← hL, ← num_zero_place]
    exact near_num double (by decide) s L 0
def clampZ (z : Int) : Int := if 127 < z then 127 else if z < -127 then -127 else z
theorem clamp_words : ∀ j : Nat, j < 601 → clampI (floatOfInt .f64 ((j : Int) - 300)) = clampZ ((j : Int) - 300) := by decide +kernel
theorem clamp_val {z : Int} {W : Nat} (h : Near double (z : Rat) W) (h1 : -300 ≤ z) (h2 : z ≤ 300) : clampI W = clampZ z := by
  by_cases hz : z = 0
  · subst hz
    have e0 : ((0 : Int) : Rat) = 0 := rfl
    obtain ⟨hf, hv⟩ := h.int64 (by decide)
    rw [e0] at hv
    have f127 : Fin double c127 ∧ val double c127 = 127 := ⟨fin64_of (by decide), by decide +kernel⟩
    have fm127 : Fin double cm127 ∧ val double cm127 = -127 := ⟨fin64_of (by decide), by decide +kernel⟩
    have k1 := (order_val (k := .f64) hf f127.1).1.2 (by show val double W < val double c127; rw [hv, f127.2]; decide +kernel)
    have k2 := (order_val (k := .f64) hf fm127.1).2.1.2 (by show val double cm127 < val double W; rw [hv, fm127.2]; decide +kernel)
    unfold clampI
    rw [k1, k2, if_neg (by decide), if_neg (by decide)]
    obtain ⟨s, m, p, r1, r2⟩ := hf.read
    rw [hv] at r2
    obtain ⟨n, n1, n2, n3⟩ := toInt_num s m p (B := 0) (by rw [← r2]; decide +kernel) (by rw [← r2]; decide +kernel)
    unfold toI
    rw [r1, n1]
    show n = clampZ 0
    have : n = 0 := by omega
    rw [this]; rfl
  · obtain ⟨hf, hv⟩ := int_exact64 z (by omega)
    have hne : ((z : Int) : Rat) ≠ 0 := by
      intro e
      have : ((z : Int) : Rat) = ((0 : Int) : Rat) := e
      exact hz (Rat.intCast_inj.1 this)
    have e := Near.exact hf hv.symm hne h
    rw [e]
    have := clamp_words (z + 300).toNat (by omega)
    have e2 : (((z + 300).toNat : Nat) : Int) - 300 = z := by omega
    rw [e2] at this
    exact this
end Go.Proofs.Ytnhikdjljjemlaa
/- What SpreadOf computes. No condition. -/
namespace Go.Proofs.Ytnhikdjljjemlaa
open Go Go.RowKit Ieee
set_option linter.unusedVariables false
set_option linter.unusedSimpArgs false
theorem neg_word31 {r : Nat} (h : r < 2147483648) : Op.negFloat .f32 (2147483648 + r) = r := by
  show (2 ^ 31 + r) ^^^ 2 ^ 31 = r
  apply Nat.eq_of_testBit_eq
  intro j
  rw [Nat.testBit_xor, Nat.testBit_two_pow]
  rcases Nat.lt_trichotomy j 31 with hj | hj | hj
  · rw [Nat.testBit_two_pow_add_gt hj]; have hne : ¬ (31 = j) := by omega
    simp [hne]
  · subst hj
    rw [Nat.testBit_two_pow_add_eq, Nat.testBit_lt_two_pow (by omega : r < 2 ^ 31)]; rfl
  · have h1 : (2 ^ 31 + r).testBit j = false := Nat.testBit_lt_two_pow (Nat.lt_of_lt_of_le (by omega : 2 ^ 31 + r < 2 ^ 32) (Nat.pow_le_pow_right (by decide) (by omega)))
    have h2 : r.testBit j = false := Nat.testBit_lt_two_pow (Nat.lt_of_lt_of_le (by omega : r < 2 ^ 32) (Nat.pow_le_pow_right (by decide) (by omega)))
    have hne : ¬ (31 = j) := by omega
    rw [h1, h2]; simp [hne]
/-- a finite word: its sign and its rung -/
theorem fin_parts {x : Nat} (hx : x < 4294967296) (hf : finB x = true) : x % 2147483648 < 2139095040 ∧ isN .f32 x = false ∧
    ((x = 0 ∨ x = 2147483648) ∧ FloatKind.f32.format.order x 0 = some .eq ∧ x % 2147483648 = 0 ∨
     (0 < x ∧ x < 2147483648 ∧ FloatKind.f32.format.order x 0 = some .gt ∧ x % 2147483648 = x) ∨
     (FloatKind.f32.format.order x 0 = some .lt ∧ Op.negFloat .f32 x = x % 2147483648)) := by
  obtain ⟨neg, r, rfl, hr⟩ := word_of single (x := x) (by rw [s_sw]; omega)
  have hfr := fin_rung hr hf
  rw [word_mod32 neg hr]
  have hir := s_ir
  refine ⟨by omega, finB_not hf, ?_⟩
  have ho := order_fin single neg false hfr (y := 0) (by rw [s_ir]; omega)
  have h0 : single.word false 0 = 0 := rfl
  rw [h0] at ho
  have hs0 : sval single false 0 = 0 := by simp [sval, nval_zero]
  rw [hs0] at ho
  rw [s_sw] at hr
  rcases Nat.eq_zero_or_pos r with e | e
  · subst e
    left
    refine ⟨?_, ?_, rfl⟩
    · cases neg
      · left; rfl
      · right; unfold Format.word; rw [s_sw]; rfl
    · rw [show FloatKind.f32.format.order _ 0 = _ from ho]
      cases neg <;> simp [sval, nval_zero] <;> rfl
  · right
    have hp : 0 < nval single r := by have := nval_lt (f := single) e; rw [nval_zero] at this; exact this
    cases neg
    · left
      have e1 : single.word false r = r := rfl
      rw [e1] at ho ⊢
      refine ⟨e, hr, ?_, rfl⟩
      have hv : sval single false r = ((nval single r : Nat) : Int) := rfl
      rw [show FloatKind.f32.format.order _ 0 = _ from ho, hv, show (0 : Int) = ((0 : Nat) : Int) from rfl, compare_nat, Nat.compare_eq_gt.2 hp]
    · right
      refine ⟨?_, ?_⟩
      · have hv : sval single true r = -((nval single r : Nat) : Int) := rfl
        rw [show FloatKind.f32.format.order _ 0 = _ from ho, hv, show compare (-((nval single r : Nat) : Int)) 0 = .lt from by simp [compare, compareOfLessAndEq]; omega]
      · have e1 : single.word true r = 2147483648 + r := by unfold Format.word; rw [s_sw]; rfl
        rw [e1]
        exact neg_word31 hr
theorem rung_not {r : Nat} (h : r < 2139095040) : isN .f32 r = false := read_word_le single false (by rw [s_ir]; omega)
theorem max_rung {m a : Nat} (hm : m < 2139095040) (ha : a < 2139095040) : maxF .f32 m a = some (max m a) := by
  unfold maxF
  rw [show FloatKind.f32.format.order m a = _ from order_pos single (by rw [s_ir]; omega) (by rw [s_ir]; omega)]
  rcases Nat.lt_trichotomy m a with h | h | h
  · rw [Nat.compare_eq_lt.2 h, Nat.max_eq_right (Nat.le_of_lt h)]
  · subst h
    rw [Nat.compare_eq_eq.2 rfl]
    simp only [show (FloatKind.f32.decode m).neg = false from neg_le_inf (by rw [s_ir]; omega), Nat.max_self]
    rfl
  · rw [Nat.compare_eq_gt.2 h, Nat.max_eq_left (Nat.le_of_lt h)]
theorem gt_rung {m a : Nat} (hm : m < 2139095040) (ha : a < 2139095040) : (FloatKind.f32.format.order a m == some .gt) = decide (m < a) := by
  rw [show FloatKind.f32.format.order a m = _ from order_pos single (by rw [s_ir]; omega) (by rw [s_ir]; omega)]
  rcases Nat.lt_trichotomy m a with h | h | h
  · rw [Nat.compare_eq_gt.2 h, decide_eq_true h]; rfl
  · subst h
    rw [Nat.compare_eq_eq.2 rfl, decide_eq_false (Nat.lt_irrefl _)]; rfl
  · rw [Nat.compare_eq_lt.2 h, decide_eq_false (by omega)]; rfl
def mostN (xs : List Nat) : Nat → Nat
  | 0 => 0
  | k + 1 => max (mostN xs k) (xs.getD k 0 % 2147483648)
def sprE (xs : List Nat) : Nat := if fewFin xs = true then fop .quo .f32 (mostN xs xs.length) 1123942400 else 0
theorem cn_127 : cn .f32 1123942400 = 1123942400 := by decide +kernel
theorem fin_at {xs : List Nat} (h : fewFin xs = true) {k : Nat} (hk : k < xs.length) : finB (xs.getD k 0) = true := by
  have := (few_of h).2 (xs.getD k 0)
  rw [List.getD_eq_getElem?_getD, List.getElem?_eq_getElem hk] at this ⊢
  exact this (List.getElem_mem hk)
theorem impl_size_fin (x : Nat) (hx : x < 4294967296) (hf : finB x = true) (w : World) : Calls Try.prog 61 #[.float .f32 x] w fun e w' => e = .returned (.float .f32 (x % 2147483648)) ∧ Dr w w' := by
  refine (impl_size x hx w).mono ?_
  rintro e w' ⟨r, rfl, hr, hd⟩
  refine ⟨?_, hd⟩
  obtain ⟨h1, h2, _⟩ := fin_parts hx hf
  have h3 := hr.out.1
  rw [cn_not h2] at h3
  unfold absW at h3
  rw [if_neg (by rw [h2]; decide)] at h3
  have h4 : isN .f32 (x % 2147483648) = false := rung_not h1
  have h5 : isN .f32 r = false := by rw [← isN_cn, h3, h4]
  rw [cn_not h5] at h3
  rw [h3]
theorem impl_SpreadOf_yes (w : World) (ad : Option Addr) (cap : Nat) (xs : List Nat) (h : F32s w ad cap xs) (hok : fewFin xs = true) :
    Calls Try.prog 32 #[.slice ad xs.length cap] w fun e w' => ∃ r, e = .returned (.tuple #[.float .f32 r, .bool true]) ∧ cn .f32 r = sprE xs ∧ Dr w w' := by
  have k1 := impl_areFew w ad cap xs h
  have hn := (few_of hok).1
  rw [hok] at k1
  have hE : sprE xs = fop .quo .f32 (mostN xs xs.length) 1123942400 := by unfold sprE; rw [if_pos hok]
  rw [hE]; clear hE
  obtain ⟨n, hN⟩ : ∃ n, n = xs.length := ⟨_, rfl⟩
  rw [← hN] at hn k1 ⊢
  have HN := Lib.hid hN; have C1 := Lib.hid k1; have HOK := Lib.hid hok; clear hN k1 hok
  go_enter Try.func32, Try.ntmps32
  go_wp2_with fail
  refine C1.out.mono ?_
  rintro e w1 ⟨rfl, q, rfl⟩
  clear C1
  go_wp2
  go_loopw [4, 12] (fun v i wr => ∃ k : Nat, i = .int .i64 k ∧ k ≤ n ∧ v = .float .f32 (mostN xs k) ∧ mostN xs k < 2139095040 ∧ Dr w wr) (fun _ i _ => n - (intOf i).toNat)
  case atStart => exact ⟨0, rfl, Nat.zero_le _, rfl, by simp [mostN], _, rfl⟩
  case round =>
    obtain ⟨k, rfl, hk, rfl, hml, hdr⟩ := hrel
    have h := h.below hdr.below
    have HD := Lib.hid hdr; clear hdr
    by_cases hlt : k < n
    · have hkx : k < xs.length := by rw [← HN.out]; exact hlt
      obtain ⟨b, off, rfl, _, hc⟩ := h.spot (k := k) hkx
      have hc1 := hc k hkx
      have hxl : xs.getD k 0 < 4294967296 := h.lt _ (by rw [List.getD_eq_getElem?_getD, List.getElem?_eq_getElem hkx]; exact List.getElem_mem hkx)
      have hxf := fin_at HOK.out hkx
      have hnext : mostN xs (k + 1) = max (mostN xs k) (xs.getD k 0 % 2147483648) := rfl
      obtain ⟨x, hx⟩ : ∃ x, x = xs.getD k 0 := ⟨_, rfl⟩
      rw [← hx] at hc1 hxl hxf hnext
      obtain ⟨h1, _, _⟩ := fin_parts hxl hxf
      obtain ⟨m, hm⟩ : ∃ m, m = mostN xs k := ⟨_, rfl⟩
      rw [← hm] at hml hnext ⊢
      have h3 := fun w A T => run_max_f (P := Try.prog) w A T .f32 m (x % 2147483648) _ (max_rung hml h1)
      have hbd : max m (x % 2147483648) < 2139095040 := Nat.max_lt.2 ⟨hml, h1⟩
      have HX := Lib.hid hnext; have HB := Lib.hid hbd; clear hx hc h hm hnext hbd
      go_wp2_with (go_at_call 61; refine (impl_size_fin _ hxl hxf _).mono ?_; rintro e w' ⟨rfl, ⟨q, rfl⟩⟩)
      go_roundw
      case rel => exact ⟨k + 1, by go_num, hlt, by rw [HX.out], by rw [HX.out]; exact HB.out, HD.out.drewN _⟩
      case measure => simp [intOf]; omega
    · have hkn : k = n := by omega
      subst hkn
      go_wp2
      go_ret2
      exact ⟨_, rfl, by rw [cn_fbits, cn_127, cn_not (rung_not hml)], HD.out.drewN _⟩
theorem impl_SpreadOf_no (w : World) (ad : Option Addr) (cap : Nat) (xs : List Nat) (h : F32s w ad cap xs) (hok : fewFin xs = false) :
    Calls Try.prog 32 #[.slice ad xs.length cap] w fun e w' => e = .returned (.tuple #[.float .f32 0, .bool false]) ∧ Dr w w' := by
  have k1 := impl_areFew w ad cap xs h
  rw [hok] at k1
  have C1 := Lib.hid k1; clear k1 hok
  go_enter Try.func32, Try.ntmps32
  go_wp2_with fail
  refine C1.out.mono ?_
  rintro e w1 ⟨rfl, q, rfl⟩
  go_wp2
  go_ret2
  exact ⟨rfl, _, rfl⟩
theorem impl_SpreadOf (w : World) (ad : Option Addr) (cap : Nat) (xs : List Nat) (h : F32s w ad cap xs) :
    Calls Try.prog 32 #[.slice ad xs.length cap] w fun e w' => ∃ (r : Nat) (b : Bool), e = .returned (.tuple #[.float .f32 r, .bool b]) ∧ cn .f32 r = sprE xs ∧ b = fewFin xs ∧ Below w.heap.size w w' := by
  cases hok : fewFin xs
  · exact (impl_SpreadOf_no w ad cap xs h hok).mono fun e w' ⟨he, hd⟩ => ⟨0, false, he, by unfold sprE; rw [if_neg (by rw [hok]; decide)]; exact cn_zero, rfl, hd.below⟩
  · exact (impl_SpreadOf_yes w ad cap xs h hok).mono fun e w' ⟨r, he, hr, hd⟩ => ⟨r, true, he, hr, rfl, hd.below⟩
end Go.Proofs.Ytnhikdjljjemlaa
/- What the numbers of codes are. No condition. -/
namespace Go.Proofs.Ytnhikdjljjemlaa
open Go Go.RowKit
set_option linter.unusedVariables false
set_option linter.unusedSimpArgs false
def numG (xs : List Int) (c i : Nat) : Nat := fop .mul .f32 (floatOfInt .f32 (xs.getD i 0)) c
def numOk (xs : List Int) (sp : Nat) : Bool := codesOk xs && spreadOk sp
theorem impl_NumbersOf_no (w : World) (a1 : Option Addr) (c1 : Nat) (xs : List Int) (h1 : Ints .i64 w a1 c1 xs) (sp : Nat) (hsp : sp < 4294967296) (hok : numOk xs sp = false) :
    Calls Try.prog 36 #[.slice a1 xs.length c1, .float .f32 sp] w fun e w' => e = .returned (.tuple #[.slice none 0 0, .bool false]) ∧ Dr w w' := by
  have k1 := fun W hW => impl_areCodes W a1 c1 xs hW
  have k2 := fun W => impl_isSpread sp hsp W
  unfold numOk at hok
  have J1 := Lib.hid h1; have C1 := Lib.hid k1; have C2 := Lib.hid k2
  clear k1 k2
  cases b1 : codesOk xs
  · clear hok
    go_enter Try.func36, Try.ntmps36
    go_wp2_with fail
    refine (C1.out _ J1.out).mono ?_
    rintro e w1 ⟨rfl, rfl⟩
    go_wp2
    go_ret2
    exact ⟨rfl, Dr.refl _⟩
  · have b2 : spreadOk sp = false := by simpa [b1] using hok
    clear hok
    go_enter Try.func36, Try.ntmps36
    go_wp2_with fail
    refine (C1.out _ J1.out).mono ?_
    rintro e w1 ⟨rfl, rfl⟩
    go_wp2_with fail
    refine (C2.out _).mono ?_
    rintro e w1 ⟨rfl, ⟨q, rfl⟩⟩
    go_wp2
    go_ret2
    exact ⟨rfl, _, rfl⟩
set_option maxRecDepth 100000 in
set_option maxHeartbeats 1000000 in
theorem impl_NumbersOf_yes (w : World) (a1 : Option Addr) (c1 : Nat) (xs : List Int) (h1 : Ints .i64 w a1 c1 xs) (sp : Nat) (hsp : sp < 4294967296) (hok : numOk xs sp = true) :
    Calls Try.prog 36 #[.slice a1 xs.length c1, .float .f32 sp] w fun e w' => ∃ (v : Value) (ys : List Nat), e = .returned (.tuple #[v, .bool true]) ∧
      w'.ownsRow w.heap.size 24 1 v xs.length (ys.map (Value.float .f32)) ∧ Hid (ys.map (cn .f32) = listOf xs.length (numG xs (cn .f32 sp))) ∧ Hid (∀ y ∈ ys, y < 4294967296) ∧ Below w.heap.size w w' := by
  obtain ⟨i0, hi, hz0, hz1, hz2⟩ := info_parts info_f32
  have k1 := fun W hW => impl_areCodes W a1 c1 xs hW
  have k2 := fun W => impl_isSpread sp hsp W
  simp only [numOk, Bool.and_eq_true] at hok
  obtain ⟨b1, b2⟩ := hok
  have hn : xs.length ≤ 256 := by simp only [codesOk, Bool.and_eq_true, decide_eq_true_eq] at b1; exact b1.1
  obtain ⟨n, e1⟩ : ∃ n, n = xs.length := ⟨_, rfl⟩
  rw [← e1] at hn k1 ⊢
  have E1 := Lib.hid e1; have C1 := Lib.hid k1; have C2 := Lib.hid k2
  clear k1 k2 e1
  go_enter Try.func36, Try.ntmps36
  go_wp2_with fail
  refine (C1.out _ h1).mono ?_
  rintro e w1 ⟨rfl, rfl⟩
  go_wp2_with fail
  refine (C2.out _).mono ?_
  rintro e w0 ⟨rfl, hd⟩
  have hb0 := hd.below
  have h1 := h1.below hb0
  have hs0 := hb0.size
  clear hd C1 C2
  go_wp2
  go_loopw [6, 20] (fun v i wr => ∃ k : Nat, i = .int .i64 k ∧ k ≤ n ∧ ∃ ys : List Nat, wr.ownsRow w0.heap.size 24 1 v k (ys.map (Value.float .f32)) ∧ ys.length = k ∧ ys.map (cn .f32) = listOf k (numG xs (cn .f32 sp)) ∧ (∀ y ∈ ys, y < 4294967296) ∧ Below w0.heap.size w0 wr ∧ w0.heap.size ≤ wr.heap.size) (fun _ i _ => n - (intOf i).toNat)
  case atStart => exact ⟨0, rfl, Nat.zero_le _, [], World.ownsRow_made _ _ _ (Nat.le_refl _) (Nat.zero_le _) rfl, rfl, rfl, (fun y hy => nomatch hy), below1 _ _, by simp⟩
  case round =>
    obtain ⟨k, rfl, hk, ys, hown, hyl, hye, hylt, hb, hbs⟩ := hrel
    have HL := Lib.hid hyl; have HE := Lib.hid hye; have HLT := Lib.hid hylt; clear hyl hye hylt
    have h1 := h1.below hb
    by_cases hlt : k < n
    · obtain ⟨b, off, rfl, _, hq⟩ := h1.spot (i := k) (by rw [← E1.out]; exact hlt)
      have hc := hq k (by rw [← E1.out]; exact hlt)
      obtain ⟨x1, px⟩ : ∃ x, x = xs.getD k 0 := ⟨_, rfl⟩
      rw [← px] at hc
      have PX := Lib.hid px
      clear px hq h1
      go_wp2_with (at_builtin; refine wp_app rfl _ _ 29 rfl w0.heap.size i0 (.float .f32 0) 1 4 Try.underlying29 hi hz0 hz1 hz2 rfl (by decide) rfl (one_cell _ rfl) _ _ _ rfl hown rfl ?c3 ?c4 ?c5 ?_)
      case c3 => unfold maxLen; omega
      case c4 => omega
      case c5 => exact hbs
      intro v' w9 hown1 hb1 hbs1
      have hb1 := (below_drewN hb _).trans hb1
      clear hown hb hbs
      generalize hy : fbits BinOp.mul FloatKind.f32 _ _ _ = y at hown1
      have hyc : cn .f32 y = numG xs (cn .f32 sp) k := by rw [← hy, cn_fbits, cn_floatOfInt, PX.out]; rfl
      have hyl : y < 4294967296 := by rw [← hy]; exact fbits_lt _ .f32 _ _ _
      have HY := Lib.hid hyc; clear hyc hy
      go_wp2
      go_roundw
      case rel =>
        refine ⟨k + 1, by go_num, hlt, ys ++ [y], by simpa using hown1, by simp [HL.out], ?_, ?_, hb1, hbs1⟩
        · rw [List.map_append, List.map_cons, List.map_nil, HE.out, HY.out, listOf_succ]
        · intro z hz
          rcases List.mem_append.1 hz with hz | hz
          · exact HLT.out z hz
          · simp at hz; rw [hz]; exact hyl
      case measure => simp [intOf]; omega
    · have hkn : k = n := by omega
      subst hkn
      go_wp2
      go_ret2
      refine ⟨_, ys, rfl, ?_, HE, HLT, hb0.trans (hb.mono hs0)⟩
      exact ((Row.mk' hown).bounds hs0 (Nat.le_refl _)).own
theorem impl_NumbersOf (w : World) (a1 : Option Addr) (c1 : Nat) (xs : List Int) (h1 : Ints .i64 w a1 c1 xs) (sp : Nat) (hsp : sp < 4294967296) :
    Calls Try.prog 36 #[.slice a1 xs.length c1, .float .f32 sp] w fun e w' => ∃ (ad : Option Addr) (n cap : Nat) (ys : List Nat) (b : Bool), e = .returned (.tuple #[.slice ad n cap, .bool b]) ∧
      RepF w' w.heap.size w'.heap.size ad n cap ys ∧ ys.map (cn .f32) = (if numOk xs sp = true then listOf xs.length (numG xs (cn .f32 sp)) else []) ∧ n ≤ 1048576 ∧ b = numOk xs sp ∧ Below w.heap.size w w' := by
  cases hok : numOk xs sp
  · refine (impl_NumbersOf_no w a1 c1 xs h1 sp hsp hok).mono fun e w' ⟨he, hd⟩ => ?_
    exact ⟨none, 0, 0, [], false, he, RepF.nil _ _ _, rfl, by omega, rfl, hd.below⟩
  · refine (impl_NumbersOf_yes w a1 c1 xs h1 sp hsp hok).mono fun e w' ⟨v, ys, he, ho, hy, hl, hb⟩ => ?_
    have hn : xs.length ≤ 256 := by simp only [numOk, codesOk, Bool.and_eq_true, decide_eq_true_eq] at hok; exact hok.1.1
    obtain ⟨ad, cap, rfl, hr⟩ := RepF.of_owns ho hl.out
    exact ⟨ad, _, cap, ys, true, he, hr, by rw [if_pos rfl]; exact hy.out, by omega, rfl, hb⟩
end Go.Proofs.Ytnhikdjljjemlaa
/- Plain laws of codes in 8 bits: their order, their bounds, how far the numbers that they give are off. No condition. -/
namespace Go.Proofs.Ytnhikdjljjemlaa
open Go Go.RowKit Ieee
set_option linter.unusedVariables false
set_option linter.unusedSimpArgs false
/-- a rounded number is finite where a finite one is not less in absolute value -/
theorem near_fin {f : Format} {q : Rat} {w y : Nat} (h : Near f q w) (hy : Fin f y) (hI : f.infRung < f.signWeight) (hq : rabs q ≤ rabs (val f y)) : Fin f w := by
  obtain ⟨s, r, rfl, hm, -, -⟩ := h
  obtain ⟨t, r0, e, h0⟩ := hy
  obtain ⟨t', r', e', hm', -, -⟩ := near_self (f := f) (w := y) ⟨t, r0, e, h0⟩
  have hr : r' = r0 := by
    have := word_inj (Nat.lt_of_le_of_lt hm'.le hI) (Nat.lt_trans h0 hI) (e'.symm.trans e)
    exact this.2
  have := hm.mono hm' (Rat.mul_le_mul_of_nonneg_right hq (Rat.le_of_lt (pw_pos _)))
  exact ⟨s, r, rfl, by omega⟩
theorem rabs_le_of {q c : Rat} (h1 : -c ≤ q) (h2 : q ≤ c) : rabs q ≤ c := by unfold rabs; split <;> grind
theorem rabs_bds (q : Rat) : -(rabs q) ≤ q ∧ q ≤ rabs q := by unfold rabs; split <;> grind
def cLow : Rat := 1 / 1267650600228229401496703205376
def cHigh : Rat := 1267650600228229401496703205376
theorem sc32 {q s : Rat} {w : Nat} (h : Near single q w) (l : cLow ≤ s) (u : s ≤ cHigh) (h1 : -(200 * s) ≤ q) (h2 : q ≤ 200 * s) : Fin single w ∧ val single w - q ≤ s / 50000 ∧ q - val single w ≤ s / 50000 := by
  have hy : Fin single 1996488704 ∧ 200 * cHigh ≤ val single 1996488704 ∧ 0 ≤ val single 1996488704 := ⟨⟨false, 1996488704, by decide +kernel, by decide +kernel⟩, by decide +kernel, by decide +kernel⟩
  have hf : Fin single w := near_fin h hy.1 (inf_lt .f32) (by
    rw [rabs_pos hy.2.2]
    exact rabs_le_of (by grind) (by grind))
  obtain ⟨e1, e2⟩ := near_err h hf (inf_lt .f32)
  have hr := rabs_le_of h1 h2
  have hb : (single.binade : Rat) = 8388608 := by decide +kernel
  have hp : (single.binade : Rat) * (2 : Rat) ^ single.leastPlace ≤ cLow := by decide +kernel
  rw [hb] at e1 e2 hp
  refine ⟨hf, ?_, ?_⟩ <;> grind
theorem sc64 {q s : Rat} {w : Nat} (h : Near double q w) (l : cLow ≤ s) (u : s ≤ cHigh) (h1 : -(200 * s) ≤ q) (h2 : q ≤ 200 * s) : Fin double w ∧ val double w - q ≤ s / 50000 ∧ q - val double w ≤ s / 50000 := by
  have hy : Fin double 5183643171103440896 ∧ 200 * cHigh ≤ val double 5183643171103440896 ∧ 0 ≤ val double 5183643171103440896 := ⟨fin64_of (by decide), by decide +kernel, by decide +kernel⟩
  have hf : Fin double w := near_fin h hy.1 (inf_lt .f64) (by
    rw [rabs_pos hy.2.2]
    exact rabs_le_of (by grind) (by grind))
  obtain ⟨e1, e2⟩ := near_err h hf (inf_lt .f64)
  have hr := rabs_le_of h1 h2
  have hb : (double.binade : Rat) = 4503599627370496 := by decide +kernel
  have hp : (double.binade : Rat) * (2 : Rat) ^ double.leastPlace ≤ cLow := by decide +kernel
  rw [hb] at e1 e2 hp
  refine ⟨hf, ?_, ?_⟩ <;> grind
/-! the spread -/
theorem mostN_ge (xs : List Nat) : ∀ k i, i < k → xs.getD i 0 % 2147483648 ≤ mostN xs k
  | 0, i, h => absurd h (by omega)
  | k + 1, i, h => by
    unfold mostN
    by_cases hi : i = k
    · subst hi; omega
    · have := mostN_ge xs k i (by omega); omega
theorem mostN_lt (xs : List Nat) : ∀ k, (∀ i, i < k → xs.getD i 0 % 2147483648 < 2139095040) → mostN xs k < 2139095040
  | 0, _ => by unfold mostN; decide
  | k + 1, h => by
    have h1 := mostN_lt xs k fun i hi => h i (by omega)
    have h2 := h k (by omega)
    unfold mostN; omega
theorem pos_val {r : Nat} (hr : r < 2139095040) : Fin single r ∧ val single r = (nval single r : Rat) * (2 : Rat) ^ single.leastPlace := by
  have hr' : r < single.infRung := by rw [s_ir]; exact hr
  refine ⟨⟨false, r, rfl, hr'⟩, ?_⟩
  have := val_word single false hr'
  rw [show single.word false r = r from rfl] at this
  rw [this]; unfold sg; simp only [Bool.false_eq_true, if_false, Rat.one_mul]
theorem abs_val32 {x : Nat} (hx : Fin single x) (hl : x < 4294967296) : x % 2147483648 < 2139095040 ∧ rabs (val single x) = val single (x % 2147483648) := by
  obtain ⟨s, r, e, hr⟩ := hx
  have hr2 : r < 2139095040 := by rw [s_ir] at hr; exact hr
  have em : x % 2147483648 = r := by
    rw [e]; unfold Format.word
    have hw : single.signWeight = 2147483648 := s_sw
    rw [hw]
    cases s <;> simp <;> omega
  rw [em]
  refine ⟨hr2, ?_⟩
  obtain ⟨hf, hv⟩ := pos_val hr2
  have h0 : (0 : Rat) ≤ (nval single r : Rat) * (2 : Rat) ^ single.leastPlace := Rat.mul_nonneg Rat.natCast_nonneg (Rat.le_of_lt (pw_pos _))
  rw [e, val_word single s hr, sg_abs s h0, hv]
theorem pos_mono {a b : Nat} (h : a ≤ b) (hb : b < 2139095040) : val single a ≤ val single b := by
  rw [(pos_val (Nat.lt_of_le_of_lt h hb)).2, (pos_val hb).2]
  exact Rat.mul_le_mul_of_nonneg_right (nat_rat_le (nval_le h)) (Rat.le_of_lt (pw_pos _))
theorem W127 : Fin single 1123942400 ∧ val single 1123942400 = 127 := ⟨⟨false, 1123942400, by decide +kernel, by decide +kernel⟩, by decide +kernel⟩
/-- what the spread of finite numbers is like -/
structure Spread (xs : List Nat) (n s : Nat) : Prop where
  lt : s < 2139095040
  zero : s = 0 ∨ 0 < val single s
  near : ∀ i, i < n → Fin single (xs.getD i 0) ∧ -(256 * val single s) ≤ val single (xs.getD i 0) ∨ s = 0
  bd : 0 < val single s → ∀ i, i < n → rabs (val single (xs.getD i 0)) ≤ 256 * val single s
  fine : cLow ≤ val single s → ∀ i, i < n → rabs (val single (xs.getD i 0)) ≤ (127 + 1 / 1000) * val single s
theorem spread_is {xs : List Nat} {n : Nat} (hf : ∀ i, i < n → Fin single (xs.getD i 0) ∧ xs.getD i 0 < 4294967296) : Spread xs n (fop .quo .f32 (mostN xs n) 1123942400) := by
  have hm := mostN_lt xs n fun i hi => (abs_val32 (hf i hi).1 (hf i hi).2).1
  have hge := fun i hi => mostN_ge xs n i hi
  obtain ⟨m, hme⟩ : ∃ m, m = mostN xs n := ⟨_, rfl⟩
  rw [← hme] at hm hge ⊢
  obtain ⟨fm, vm⟩ := pos_val hm
  have hx : ∀ i, i < n → rabs (val single (xs.getD i 0)) ≤ val single m := fun i hi => by
    rw [(abs_val32 (hf i hi).1 (hf i hi).2).2]; exact pos_mono (hge i hi) hm
  by_cases hm0 : m = 0
  · have hs : fop .quo .f32 m 1123942400 = 0 := by rw [hm0]; decide +kernel
    rw [hs]
    have hz : val single 0 = 0 := by decide +kernel
    refine ⟨by decide, .inl rfl, fun i hi => .inr rfl, fun h => ?_, fun h => ?_⟩
    · rw [hz] at h; exact absurd h (by decide)
    · rw [hz] at h; exact absurd h (by decide +kernel)
  · have hn0 : (0 : Rat) < (nval single m : Rat) := by
      have := nat_rat_lt (nval_lt (f := single) (show 0 < m by omega))
      rw [nval_zero] at this; exact this
    have vp : 0 < val single m := by rw [vm]; exact Rat.mul_pos hn0 (pw_pos _)
    have hn := fop_quo (k := .f32) fm W127.1 (by show val single 1123942400 ≠ 0; rw [W127.2]; decide)
    obtain ⟨s, hs⟩ : ∃ s, s = fop .quo .f32 m 1123942400 := ⟨_, rfl⟩
    rw [← hs] at hn ⊢
    have hn' : Near single (val single m / 127) s := by have := hn; rw [show val FloatKind.f32.format 1123942400 = 127 from W127.2] at this; exact this
    obtain ⟨q, hq⟩ : ∃ q : Rat, q = val single m / 127 := ⟨_, rfl⟩
    have hqm : q * 127 = val single m := by rw [hq]; exact Rat.div_mul_cancel (by decide)
    rw [← hq] at hn'
    have q0 : 0 < q := by grind
    have fs : Fin single s := near_fin hn' fm (inf_lt .f32) (by rw [rabs_pos (Rat.le_of_lt vp), rabs_pos (Rat.le_of_lt q0)]; grind)
    obtain ⟨e1, e2⟩ := near_err hn' fs (inf_lt .f32)
    rw [rabs_pos (Rat.le_of_lt q0)] at e1 e2
    have hb : (single.binade : Rat) = 8388608 := by decide +kernel
    rw [hb] at e1 e2
    obtain ⟨P, hP⟩ : ∃ P : Rat, P = (2 : Rat) ^ single.leastPlace := ⟨_, rfl⟩
    have hPp : 0 < P := by rw [hP]; exact pw_pos _
    have hPl : 8388608 * P * 1000000 ≤ cLow := by rw [hP]; decide +kernel
    rw [← hP] at e1 e2
    obtain ⟨t, r, er, hmid, -, hpos⟩ := hn'
    have ht := hpos q0
    subst ht
    have hrl : r < single.infRung := by
      obtain ⟨t0, r0, e0, h0⟩ := fs
      have := word_inj (Nat.lt_of_le_of_lt hmid.le (inf_lt .f32)) (Nat.lt_trans h0 (inf_lt .f32)) (er.symm.trans e0)
      rw [this.2]; exact h0
    have esr : s = r := er
    have hsl : s < 2139095040 := by rw [esr]; rw [s_ir] at hrl; exact hrl
    have vs := (pos_val hsl).2
    rw [← hP] at vs
    have hz : s = 0 ∨ P ≤ val single s := by
      by_cases h : s = 0
      · exact .inl h
      · right
        have : (1 : Rat) ≤ (nval single s : Rat) := by
          have h3 := nval_lt (f := single) (show 0 < s by omega)
          rw [nval_zero] at h3
          have := nat_rat_le (show 1 ≤ nval single s by omega)
          exact this
        rw [vs]
        have := Rat.mul_le_mul_of_nonneg_right this (Rat.le_of_lt hPp)
        grind
    have key : P ≤ val single s → ∀ i, i < n → rabs (val single (xs.getD i 0)) ≤ 256 * val single s := by
      intro h i hi
      have := hx i hi
      grind
    refine ⟨hsl, ?_, ?_, ?_, ?_⟩
    · rcases hz with h | h
      · exact .inl h
      · right; grind
    · intro i hi
      rcases hz with h | h
      · exact .inr h
      · left
        refine ⟨(hf i hi).1, ?_⟩
        have h1 := key h i hi
        have h2 := rabs_bds (val single (xs.getD i 0))
        grind
    · intro h0
      rcases hz with h | h
      · subst h
        have hz0 : val single 0 = 0 := by decide +kernel
        rw [hz0] at h0; exact absurd h0 (by decide)
      · exact key h
    · intro hl i hi
      have := hx i hi
      grind
end Go.Proofs.Ytnhikdjljjemlaa
/- Plain laws of codes in 8 bits, continued: codes of greater numbers, drawn codes. No condition. -/
namespace Go.Proofs.Ytnhikdjljjemlaa
open Go Go.RowKit Ieee
set_option linter.unusedVariables false
set_option linter.unusedSimpArgs false
theorem quo_bds {x s t : Rat} (hs : 0 < s) (ht : t * s = x) {c : Rat} (h1 : -(c * s) ≤ x) (h2 : x ≤ c * s) : -c ≤ t ∧ t ≤ c := by
  constructor
  · rcases rat_tri t (-c) with h | h | h
    · have := Rat.mul_lt_mul_of_pos_right h hs; grind
    · rw [h]; exact Rat.le_refl
    · exact Rat.le_of_lt h
  · rcases rat_tri t c with h | h | h
    · exact Rat.le_of_lt h
    · rw [h]; exact Rat.le_refl
    · have := Rat.mul_lt_mul_of_pos_right h hs; grind
/-- the quotient of a number and the spread -/
structure Quot (x s q : Nat) : Prop where
  near : Near double (val single x / val single s) q
  btw : Btw .f64 (-256) 256 q
theorem quot_is {x s : Nat} (hx : Fin single x) (hs : Fin single s) (h0 : 0 < val single s) (hb : rabs (val single x) ≤ 256 * val single s) : Quot x s (qE x s) := by
  have wx := wide_val hx
  have ws := wide_val hs
  have hn := fop_quo (k := .f64) wx.1 ws.1 (by show val double _ ≠ 0; rw [ws.2]; grind)
  have hn' : Near double (val single x / val single s) (qE x s) := by
    have h := hn
    rw [show val FloatKind.f64.format (fcv .f32 x .f64) = _ from wx.2, show val FloatKind.f64.format (fcv .f32 s .f64) = _ from ws.2] at h
    exact h
  have ht : val single x / val single s * val single s = val single x := Rat.div_mul_cancel (by grind)
  obtain ⟨b1, b2⟩ := rabs_bds (val single x)
  obtain ⟨c1, c2⟩ := quo_bds h0 ht (c := 256) (by grind) (by grind)
  exact ⟨hn', near_btw (k := .f64) (by unfold smallI; decide) (by unfold smallI; decide) c1 c2 hn'⟩
theorem near_val_eq {q : Nat} (h : Btw .f64 (-256) 256 q) : -256 ≤ val double q ∧ val double q ≤ 256 := ⟨h.lo, h.hi⟩
theorem even_small {z : Int} {v : Rat} (h : isEven z v) (l : -256 ≤ v) (u : v ≤ 256) : -257 ≤ z ∧ z ≤ 257 := by
  obtain ⟨a, b, _⟩ := h
  constructor
  · have : ((-257 : Int) : Rat) < (z : Rat) + 1 := by
      have e : ((-257 : Int) : Rat) = -257 := rfl
      rw [e]; grind
    exact int_le_of this
  · have : (z : Rat) < ((257 : Int) : Rat) + 1 := by
      have e : ((257 : Int) : Rat) = 257 := rfl
      rw [e]; grind
    exact int_le_of this
theorem down_small {z : Int} {v : Rat} (h : isDown z v) (l : -256 ≤ v) (u : v ≤ 256) : -257 ≤ z ∧ z ≤ 257 := by
  obtain ⟨a, b⟩ := h
  constructor
  · have : ((-257 : Int) : Rat) < (z : Rat) + 1 := by
      have e : ((-257 : Int) : Rat) = -257 := rfl
      rw [e]; grind
    exact int_le_of this
  · have : (z : Rat) < ((257 : Int) : Rat) + 1 := by
      have e : ((257 : Int) : Rat) = 257 := rfl
      rw [e]; grind
    exact int_le_of this
theorem code_even {q : Nat} (h : Btw .f64 (-256) 256 q) (i : Nat) : ∃ z : Int, isEven z (val double q) ∧ -257 ≤ z ∧ z ≤ 257 ∧ clampI (WOf i q) = clampZ z := by
  obtain ⟨z, h1, h2⟩ := whole_even h.fin
  obtain ⟨a, b⟩ := even_small h1 (near_val_eq h).1 (near_val_eq h).2
  exact ⟨z, h1, a, b, clamp_val h2 (by omega) (by omega)⟩
theorem one64 : Fin double 4607182418800017408 ∧ val double 4607182418800017408 = 1 := ⟨fin64_of (by decide), by decide +kernel⟩
theorem code_by {q : Nat} (h : Btw .f64 (-256) 256 q) (ch : List Int) (i : Nat) : ∃ y z : Int, isDown y (val double q) ∧ -257 ≤ y ∧ y ≤ 257 ∧ (z = y ∨ z = y + 1) ∧ clampI (WBy ch i q) = clampZ z := by
  obtain ⟨y, h1, h2⟩ := whole_down h.fin
  obtain ⟨a, b⟩ := down_small h1 (near_val_eq h).1 (near_val_eq h).2
  obtain ⟨hf, hv⟩ := h2.int64 (by omega)
  unfold WBy
  split
  · refine ⟨y, y + 1, h1, a, b, .inr rfl, clamp_val ?_ (by omega) (by omega)⟩
    have hn := fop_add (k := .f64) hf one64.1
    have e1 : val FloatKind.f64.format (whole .down q) = (y : Rat) := hv
    have e2 : val FloatKind.f64.format 4607182418800017408 = 1 := one64.2
    rw [e1, e2] at hn
    rw [Rat.intCast_add]
    exact hn
  · exact ⟨y, y, h1, a, b, .inl rfl, clamp_val h2 (by omega) (by omega)⟩
theorem clampZ_mono {a b : Int} (h : a ≤ b) : clampZ a ≤ clampZ b := by unfold clampZ; split <;> split <;> (try split) <;> (try split) <;> omega
theorem clampZ_near {a b : Int} (h1 : a ≤ b) (h2 : b ≤ a + 1) : clampZ b ≤ clampZ a + 1 := by unfold clampZ; split <;> split <;> (try split) <;> (try split) <;> omega
theorem clampZ_bd (a : Int) : -127 ≤ clampZ a ∧ clampZ a ≤ 127 := by unfold clampZ; split <;> (try split) <;> omega
/-- what the law asks of the codes of a list -/
structure CodeLaw (xs : List Nat) (n s : Nat) (ch : List Int) (C D : Nat → Int) : Prop where
  bd : ∀ i, i < n → -127 ≤ C i ∧ C i ≤ 127
  bdD : ∀ i, i < n → -127 ≤ D i ∧ D i ≤ 127
  near : ∀ i, i < n → D i - C i ≤ 1 ∧ C i - D i ≤ 1
  mono : ∀ i k, i < n → k < n → val single (xs.getD k 0) ≤ val single (xs.getD i 0) → C k ≤ C i
  err : cLow ≤ val single s → ∀ i, i < n → -(13 / 25 * val single s) ≤ (C i : Rat) * val single s - val single (xs.getD i 0) ∧ (C i : Rat) * val single s - val single (xs.getD i 0) ≤ 13 / 25 * val single s
  errD : cLow ≤ val single s → ∀ i, i < n → -(51 / 50 * val single s) ≤ (D i : Rat) * val single s - val single (xs.getD i 0) ∧ (D i : Rat) * val single s - val single (xs.getD i 0) ≤ 51 / 50 * val single s
theorem clamp_off {y z : Int} {v : Rat} (h : isDown y v) (hz : z = y ∨ z = y + 1) (l : -(127 + 1 / 500) ≤ v) (u : v ≤ 127 + 1 / 500) : -(1 + 1 / 500) ≤ (clampZ z : Rat) - v ∧ (clampZ z : Rat) - v ≤ 1 + 1 / 500 := by
  obtain ⟨h1, h2⟩ := h
  have hzr : (z : Rat) = y ∨ (z : Rat) = (y : Rat) + 1 := by
    rcases hz with rfl | rfl
    · exact .inl rfl
    · right; rw [Rat.intCast_add]; rfl
  unfold clampZ
  split
  · rename_i hg
    have : ((128 : Int) : Rat) ≤ (z : Rat) := Rat.intCast_le_intCast.2 (by omega)
    have e : ((128 : Int) : Rat) = 128 := rfl
    have e2 : ((127 : Int) : Rat) = 127 := rfl
    rw [e] at this; rw [e2]
    rcases hzr with k | k <;> constructor <;> grind
  · split
    · rename_i hg
      have : (z : Rat) ≤ ((-128 : Int) : Rat) := Rat.intCast_le_intCast.2 (by omega)
      have e : ((-128 : Int) : Rat) = -128 := rfl
      have e2 : ((-127 : Int) : Rat) = -127 := rfl
      rw [e] at this; rw [e2]
      rcases hzr with k | k <;> constructor <;> grind
    · rcases hzr with k | k <;> constructor <;> grind
theorem clamp_offE {z : Int} {v : Rat} (h : isEven z v) (l : -(127 + 1 / 500) ≤ v) (u : v ≤ 127 + 1 / 500) : -(1 / 2) ≤ (clampZ z : Rat) - v ∧ (clampZ z : Rat) - v ≤ 1 / 2 := by
  obtain ⟨h1, h2, _⟩ := h
  have a : z ≤ 127 := int_le_of (by
    have e : ((127 : Int) : Rat) = 127 := rfl
    rw [e]; grind)
  have b : -127 ≤ z := int_le_of (by
    have e : ((-127 : Int) : Rat) = -127 := rfl
    rw [e]; grind)
  unfold clampZ
  rw [if_neg (by omega), if_neg (by omega)]
  constructor <;> grind
theorem off_scale {c v t x s e : Rat} (hs : 0 < s) (ht : t * s = x) (h1 : -e ≤ c - v) (h2 : c - v ≤ e) (h3 : v - t ≤ 1 / 1000) (h4 : t - v ≤ 1 / 1000) : -((e + 1 / 1000) * s) ≤ c * s - x ∧ c * s - x ≤ (e + 1 / 1000) * s := by
  have k1 : -(e + 1 / 1000) ≤ c - t := by grind
  have k2 : c - t ≤ e + 1 / 1000 := by grind
  have m1 := Rat.mul_le_mul_of_nonneg_right k1 (Rat.le_of_lt hs)
  have m2 := Rat.mul_le_mul_of_nonneg_right k2 (Rat.le_of_lt hs)
  constructor <;> grind
theorem code_law {xs : List Nat} {n s : Nat} {ch : List Int} (hx : ∀ i, i < n → Fin single (xs.getD i 0)) (hS : Spread xs n s) : CodeLaw xs n s ch (codeE WOf xs s) (codeE (WBy ch) xs s) := by
  have hz0 : val single 0 = 0 := by decide +kernel
  rcases hS.zero with h0 | h0
  · have e1 : ∀ Wf i, codeE Wf xs s i = 0 := fun Wf i => by unfold codeE; rw [if_pos h0]
    have hc : ¬ cLow ≤ val single s := by rw [h0, hz0]; decide +kernel
    refine ⟨fun i _ => ?_, fun i _ => ?_, fun i _ => ?_, fun i k _ _ _ => ?_, fun h => absurd h hc, fun h => absurd h hc⟩ <;> rw [e1] <;> (try rw [e1]) <;> omega
  · have hne : s ≠ 0 := by intro e; rw [e, hz0] at h0; exact absurd h0 (by decide)
    have e1 : ∀ Wf i, codeE Wf xs s i = clampI (Wf i (qE (xs.getD i 0) s)) := fun Wf i => by unfold codeE; rw [if_neg hne]
    have fs := (pos_val hS.lt).1
    have hq := fun i (hi : i < n) => quot_is (hx i hi) fs h0 (hS.bd h0 i hi)
    have ht : ∀ i, val single (xs.getD i 0) / val single s * val single s = val single (xs.getD i 0) := fun i => Rat.div_mul_cancel (by grind)
    have hvt : cLow ≤ val single s → ∀ i, i < n → (val double (qE (xs.getD i 0) s) - val single (xs.getD i 0) / val single s ≤ 1 / 1000 ∧ val single (xs.getD i 0) / val single s - val double (qE (xs.getD i 0) s) ≤ 1 / 1000) ∧
        -(127 + 1 / 500) ≤ val double (qE (xs.getD i 0) s) ∧ val double (qE (xs.getD i 0) s) ≤ 127 + 1 / 500 := by
      intro hl i hi
      have hf := hS.fine hl i hi
      obtain ⟨b1, b2⟩ := rabs_bds (val single (xs.getD i 0))
      obtain ⟨c1, c2⟩ := quo_bds h0 (ht i) (c := 127 + 1 / 1000) (by grind) (by grind)
      obtain ⟨e1, e2⟩ := near_err (hq i hi).near (hq i hi).btw.fin (inf_lt .f64)
      have hr := rabs_le_of (q := val single (xs.getD i 0) / val single s) (c := 128) (by grind) (by grind)
      have hb : (double.binade : Rat) = 4503599627370496 := by decide +kernel
      have hp : (double.binade : Rat) * (2 : Rat) ^ double.leastPlace ≤ 1 := by decide +kernel
      rw [hb] at e1 e2 hp
      obtain ⟨P, hP⟩ : ∃ P : Rat, P = 4503599627370496 * (2 : Rat) ^ double.leastPlace := ⟨_, rfl⟩
      rw [← hP] at e1 e2 hp
      obtain ⟨t, hte⟩ : ∃ t, t = val single (xs.getD i 0) / val single s := ⟨_, rfl⟩
      obtain ⟨v, hve⟩ : ∃ v, v = val double (qE (xs.getD i 0) s) := ⟨_, rfl⟩
      rw [← hte] at e1 e2 hr c1 c2 ⊢
      rw [← hve] at e1 e2 ⊢
      clear hP hte hve b1 b2 hf
      have k1 : v - t ≤ 1 / 1000 := by grind
      have k2 : t - v ≤ 1 / 1000 := by grind
      exact ⟨⟨k1, k2⟩, by grind, by grind⟩
    have hE := fun i (hi : i < n) => code_even (hq i hi).btw i
    have hB := fun i (hi : i < n) => code_by (hq i hi).btw ch i
    refine ⟨fun i hi => ?_, fun i hi => ?_, fun i hi => ?_, fun i k hi hk hv => ?_, fun hl i hi => ?_, fun hl i hi => ?_⟩
    · obtain ⟨z, -, -, -, e⟩ := hE i hi
      rw [e1, e]; exact clampZ_bd z
    · obtain ⟨y, z, -, -, -, -, e⟩ := hB i hi
      rw [e1, e]; exact clampZ_bd z
    · obtain ⟨z, a, -, -, e⟩ := hE i hi
      obtain ⟨y, z', b, -, -, c, e'⟩ := hB i hi
      rw [e1, e1, e, e']
      obtain ⟨d1, d2⟩ := a.down b
      rcases c with rfl | rfl
      · have m1 := clampZ_mono d1
        have m2 := clampZ_near d1 d2
        omega
      · have m1 := clampZ_mono d2
        have m2 := clampZ_near (a := z) (b := y + 1) (by omega) (by omega)
        omega
    · obtain ⟨z, a, -, -, e⟩ := hE i hi
      obtain ⟨y, b, -, -, e'⟩ := hE k hk
      rw [e1, e1, e, e']
      refine clampZ_mono (b.mono a ?_)
      refine (hq k hk).near.mono (hq i hi).near (hq k hk).btw.fin (hq i hi).btw.fin (inf_lt .f64) ?_
      rcases rat_tri (val single (xs.getD k 0) / val single s) (val single (xs.getD i 0) / val single s) with h | h | h
      · exact Rat.le_of_lt h
      · rw [h]; exact Rat.le_refl
      · exfalso
        have := Rat.mul_lt_mul_of_pos_right h h0
        rw [ht, ht] at this
        grind
    · obtain ⟨z, a, -, -, e⟩ := hE i hi
      obtain ⟨⟨k1, k2⟩, k3, k4⟩ := hvt hl i hi
      obtain ⟨o1, o2⟩ := clamp_offE a k3 k4
      rw [e1, e]
      obtain ⟨p1, p2⟩ := off_scale h0 (ht i) o1 o2 k1 k2
      constructor <;> grind
    · obtain ⟨y, z, b, -, -, c, e⟩ := hB i hi
      obtain ⟨⟨k1, k2⟩, k3, k4⟩ := hvt hl i hi
      obtain ⟨o1, o2⟩ := clamp_off b c k3 k4
      rw [e1, e]
      obtain ⟨p1, p2⟩ := off_scale h0 (ht i) o1 o2 k1 k2
      constructor <;> grind
end Go.Proofs.Ytnhikdjljjemlaa
/- Plain laws of codes in 8 bits, continued: the numbers that codes give are near. No condition. -/
namespace Go.Proofs.Ytnhikdjljjemlaa
open Go Go.RowKit Ieee
set_option linter.unusedVariables false
set_option linter.unusedSimpArgs false
theorem xor_63 {r : Nat} (h : r < 2 ^ 63) : r ^^^ 2 ^ 63 = 2 ^ 63 + r ∧ (2 ^ 63 + r) ^^^ 2 ^ 63 = r := by
  have h1 : 2 ^ 63 + r = 2 ^ 63 ^^^ r := by
    have := Nat.two_pow_add_eq_or_of_lt (i := 63) h 1
    rw [Nat.mul_one] at this
    rw [this]
    apply Nat.eq_of_testBit_eq
    intro i
    rw [Nat.testBit_or, Nat.testBit_xor, Nat.testBit_two_pow]
    by_cases hi : 63 = i
    · subst hi
      rw [Nat.testBit_lt_two_pow h]; rfl
    · simp [hi]
  constructor
  · rw [h1, Nat.xor_comm]
  · rw [h1, Nat.xor_comm, ← Nat.xor_assoc, Nat.xor_self, Nat.zero_xor]
theorem neg64 {w : Nat} (h : Fin double w) : Fin double (Op.negFloat .f64 w) ∧ val double (Op.negFloat .f64 w) = -val double w := by
  obtain ⟨s, r, rfl, hr⟩ := h
  have hw : double.signWeight = 2 ^ 63 := by decide +kernel
  have hr2 : r < 2 ^ 63 := by have := Nat.lt_trans hr (inf_lt .f64); rw [show FloatKind.f64.format.signWeight = 2 ^ 63 from hw] at this; exact this
  obtain ⟨h1, h2⟩ := xor_63 hr2
  have e : Op.negFloat .f64 (double.word s r) = double.word (!s) r := by
    show double.word s r ^^^ 2 ^ 63 = _
    unfold Format.word
    rw [hw]
    cases s
    · simpa using h1
    · simpa using h2
  rw [e]
  refine ⟨⟨!s, r, rfl, hr⟩, ?_⟩
  rw [val_word double (!s) hr, val_word double s hr]
  unfold sg
  cases s <;> simp <;> grind
theorem sub_someK {x y : Nat} (hx : Fin double x) (hy : Fin double y) : floatBits .sub .f64 x y = some (fop .sub .f64 x y) := by
  obtain ⟨r, e, -⟩ := sub_near (k := .f64) hx hy
  rw [fop_some e]; exact e
theorem mul_someK {x y : Nat} (hx : Fin double x) (hy : Fin double y) : floatBits .mul .f64 x y = some (fop .mul .f64 x y) := by
  obtain ⟨r, e, -⟩ := mul_near (k := .f64) hx hy
  rw [fop_some e]; exact e
theorem quo_someK {x y : Nat} (hx : Fin double x) (hy : Fin double y) (h0 : val double y ≠ 0) : floatBits .quo .f64 x y = some (fop .quo .f64 x y) := by
  obtain ⟨r, e, -⟩ := quo_nearW (k := .f64) hx hy h0
  rw [fop_some e]; exact e
theorem W32d : Fin double 4629700416936869888 ∧ val double 4629700416936869888 = 32 := ⟨fin64_of (by decide), by decide +kernel⟩
theorem W17d : Fin double 4625478292286210048 ∧ val double 4625478292286210048 = 17 := ⟨fin64_of (by decide), by decide +kernel⟩
theorem W33d : Fin double 4629841154425225216 ∧ val double 4629841154425225216 = 33 := ⟨fin64_of (by decide), by decide +kernel⟩
/-- the limit of the law: so many 32nd parts of the spread -/
def limW (s c : Nat) : Nat := fop .quo .f64 (fop .mul .f64 (fcv .f32 s .f64) c) 4629700416936869888
structure Lim (s c : Nat) (C : Rat) : Prop where
  m : floatBits .mul .f64 (fcv .f32 s .f64) c = some (fop .mul .f64 (fcv .f32 s .f64) c)
  q : floatBits .quo .f64 (fop .mul .f64 (fcv .f32 s .f64) c) 4629700416936869888 = some (limW s c)
  fin : Fin double (limW s c)
  lo : (C / 32 - 1 / 20000) * val single s ≤ val double (limW s c)
theorem lim_is {s c : Nat} {C : Rat} (hs : Fin single s) (l : cLow ≤ val single s) (u : val single s ≤ cHigh) (hc : Fin double c ∧ val double c = C) (c0 : 0 ≤ C) (c1 : C ≤ 100) : Lim s c C := by
  obtain ⟨w1, w2⟩ := wide_val hs
  have s0 : (0 : Rat) < val single s := by have : (0 : Rat) < cLow := by decide +kernel
                                           grind
  have hm := mul_someK w1 hc.1
  have n1 := fop_mul (k := .f64) w1 hc.1
  rw [show val FloatKind.f64.format (fcv .f32 s .f64) = _ from w2, show val FloatKind.f64.format c = _ from hc.2] at n1
  have b1 : val single s * C ≤ 100 * val single s := by
    have := Rat.mul_le_mul_of_nonneg_right c1 (Rat.le_of_lt s0); grind
  have b0 : 0 ≤ val single s * C := Rat.mul_nonneg (Rat.le_of_lt s0) c0
  obtain ⟨f1, e1, e2⟩ := sc64 n1 l u (by grind) (by grind)
  have hq := quo_someK f1 W32d.1 (by rw [W32d.2]; decide)
  have n2 := fop_quo (k := .f64) f1 W32d.1 (by show val double _ ≠ 0; rw [W32d.2]; decide)
  rw [show val FloatKind.f64.format 4629700416936869888 = _ from W32d.2] at n2
  obtain ⟨m, hme⟩ : ∃ m, m = val FloatKind.f64.format (fop .mul .f64 (fcv .f32 s .f64) c) := ⟨_, rfl⟩
  have hme' : m = val double (fop .mul .f64 (fcv .f32 s .f64) c) := hme
  rw [← hme'] at e1 e2
  rw [← hme] at n2
  have hm32 : m / 32 * 32 = m := Rat.div_mul_cancel (by decide)
  obtain ⟨z, hz⟩ : ∃ z, z = m / 32 := ⟨_, rfl⟩
  rw [← hz] at n2 hm32
  obtain ⟨f2, e3, e4⟩ := sc64 n2 l u (by grind) (by grind)
  refine ⟨hm, hq, f2, ?_⟩
  show _ ≤ val double (fop .quo .f64 _ _)
  grind
/-- a number that a code gives, against the number itself -/
structure Off (s b x T : Nat) : Prop where
  eq : floatBits .sub .f64 (fcv .f32 b .f64) (fcv .f32 x .f64) = some (fop .sub .f64 (fcv .f32 b .f64) (fcv .f32 x .f64))
  fb : Fin single b
  fx : Fin single x
  up : (FloatKind.f64.format.order (fop .sub .f64 (fcv .f32 b .f64) (fcv .f32 x .f64)) T == some .gt) = false
  down : (FloatKind.f64.format.order (Op.negFloat .f64 (fop .sub .f64 (fcv .f32 b .f64) (fcv .f32 x .f64))) T == some .gt) = false
theorem not_gt {a b : Nat} (ha : Fin double a) (hb : Fin double b) (h : val double a ≤ val double b) : (FloatKind.f64.format.order a b == some .gt) = false := by
  have hv := (order_val (k := .f64) ha hb).2.1
  cases e : (FloatKind.f64.format.order a b == some .gt)
  · rfl
  · exfalso
    have h2 : val double b < val double a := hv.1 (by simpa using e)
    grind
theorem off_is {s b x c : Nat} {n : Int} {C e : Rat} (hs : Fin single s) (hx : Fin single x) (l : cLow ≤ val single s) (u : val single s ≤ cHigh) (n1 : -127 ≤ n) (n2 : n ≤ 127)
    (hb : b = fop .mul .f32 (floatOfInt .f32 n) s) (h1 : -(e * val single s) ≤ (n : Rat) * val single s - val single x) (h2 : (n : Rat) * val single s - val single x ≤ e * val single s)
    (he : e + 1 / 5000 ≤ C / 32) (e0 : 0 ≤ e) (e2 : e ≤ 100) (hL : Lim s c C) : Off s b x (limW s c) := by
  have s0 : (0 : Rat) < val single s := by have : (0 : Rat) < cLow := by decide +kernel
                                           grind
  obtain ⟨fi, vi⟩ := int_exact32 n (by omega)
  have nb := fop_mul (k := .f32) fi hs
  rw [show val FloatKind.f32.format (floatOfInt .f32 n) = _ from vi] at nb
  have nb' : Near single ((n : Rat) * val single s) b := by rw [hb]; exact nb
  have r1 : ((-127 : Int) : Rat) ≤ (n : Rat) := Rat.intCast_le_intCast.2 n1
  have r2 : (n : Rat) ≤ ((127 : Int) : Rat) := Rat.intCast_le_intCast.2 n2
  have q1 : ((-127 : Int) : Rat) = -127 := rfl
  have q2 : ((127 : Int) : Rat) = 127 := rfl
  rw [q1] at r1; rw [q2] at r2
  have m1 := Rat.mul_le_mul_of_nonneg_right r1 (Rat.le_of_lt s0)
  have m2 := Rat.mul_le_mul_of_nonneg_right r2 (Rat.le_of_lt s0)
  obtain ⟨p, hp⟩ : ∃ p, p = (n : Rat) * val single s := ⟨_, rfl⟩
  rw [← hp] at nb' m1 m2 h1 h2
  obtain ⟨fb, d1, d2⟩ := sc32 nb' l u (by grind) (by grind)
  obtain ⟨wb, vb⟩ := wide_val fb
  obtain ⟨wx, vx⟩ := wide_val hx
  have na := fop_sub (k := .f64) wb wx
  rw [show val FloatKind.f64.format (fcv .f32 b .f64) = _ from vb, show val FloatKind.f64.format (fcv .f32 x .f64) = _ from vx] at na
  have es0 : e * val single s ≤ 100 * val single s := Rat.mul_le_mul_of_nonneg_right e2 (Rat.le_of_lt s0)
  obtain ⟨fa, a1, a2⟩ := sc64 na l u (by grind) (by grind)
  obtain ⟨fn, vn⟩ := neg64 fa
  have hlo := hL.lo
  have k := Rat.mul_le_mul_of_nonneg_right he (Rat.le_of_lt s0)
  refine ⟨sub_someK wb wx, fb, hx, not_gt fa hL.fin ?_, not_gt fn hL.fin ?_⟩
  · grind
  · rw [vn]; grind
end Go.Proofs.Ytnhikdjljjemlaa
