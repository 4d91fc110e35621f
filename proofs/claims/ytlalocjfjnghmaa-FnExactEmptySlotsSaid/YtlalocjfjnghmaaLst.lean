/- What lists that a loop makes, sums, dots and differences are. No condition. -/
import Derived.Test.YtlalocjfjnghmaaSli
import Derived.Test.YtlalocjfjnghmaaFl2
namespace Go.Proofs.Ytlalocjfjnghmaa
open Go Go.RowKit
set_option linter.unusedVariables false
set_option linter.unusedSimpArgs false
def listOf (n : Nat) (f : Nat → Nat) : List Nat := (List.range n).map f
theorem listOf_succ (k : Nat) (f : Nat → Nat) : listOf (k + 1) f = listOf k f ++ [f k] := by simp [listOf, List.range_succ]
theorem listOf_length (n : Nat) (f : Nat → Nat) : (listOf n f).length = n := by simp [listOf]
theorem listOf_getD {n k : Nat} (f : Nat → Nat) (h : k < n) : (listOf n f).getD k 0 = f k := by simp [listOf, h]
theorem listOf_congr {n : Nat} {f g : Nat → Nat} (h : ∀ i, i < n → f i = g i) : listOf n f = listOf n g := List.map_congr_left fun i hi => h i (List.mem_range.1 hi)
theorem cn_zero : cn .f32 0 = 0 := by decide +kernel
theorem cn_getD (xs : List Nat) (k : Nat) : (xs.map (cn .f32)).getD k 0 = cn .f32 (xs.getD k 0) := by
  simp only [List.getD_eq_getElem?_getD, List.getElem?_map]
  cases xs[k]? with
  | none => simp [cn_zero]
  | some x => rfl
/-- a list whose entries, NaNs made one, are told, in one of them -/
theorem cn_at {xs : List Nat} {n k : Nat} {f : Nat → Nat} (h : xs.map (cn .f32) = listOf n f) (hk : k < n) : cn .f32 (xs.getD k 0) = f k := by
  rw [← cn_getD, h, listOf_getD f hk]
theorem len_of {xs : List Nat} {n : Nat} {f : Nat → Nat} (h : xs.map (cn .f32) = listOf n f) : xs.length = n := by
  have := congrArg List.length h
  rwa [List.length_map, listOf_length] at this
theorem Dr.drewN {w w' : World} (h : Dr w w') (n : Nat) : Dr w (w'.drewN n) := by
  obtain ⟨m, rfl⟩ := h
  exact ⟨m + n, by simp [World.drewN, Nat.add_assoc]⟩
theorem Dr.trans {a b c : World} (h : Dr a b) (h2 : Dr b c) : Dr a c := by obtain ⟨m, rfl⟩ := h2; exact h.drewN m
def subE (X Y : List Nat) (i : Nat) : Nat := fop .sub .f32 (X.getD i 0) (Y.getD i 0)
def dotS (X Y : List Nat) : Nat → Nat
  | 0 => 0
  | k + 1 => fop .add .f32 (dotS X Y k) (fop .mul .f32 (X.getD k 0) (Y.getD k 0))
def sumS (X : List Nat) : Nat → Nat
  | 0 => 0
  | k + 1 => fop .add .f32 (sumS X k) (X.getD k 0)
def both (n m : Nat) : Bool := decide (1 ≤ n) && decide (n ≤ 256) && decide (n = m)
set_option maxHeartbeats 1000000 in
theorem impl_sumOf (w : World) (a1 : Option Addr) (c1 : Nat) (xs : List Nat) (h1 : F32s w a1 c1 xs) :
    Calls Try.prog 78 #[.slice a1 xs.length c1] w fun e w' => ∃ r, e = .returned (.float .f32 r) ∧ Hid (cn .f32 r = sumS (xs.map (cn .f32)) xs.length ∧ r < 4294967296) ∧ Dr w w' := by
  obtain ⟨X, hX⟩ : ∃ X, X = xs.map (cn .f32) := ⟨_, rfl⟩
  rw [← hX]
  have hm := Nat.le_trans h1.len h1.cap
  unfold maxLen at hm
  obtain ⟨n, e1⟩ : ∃ n, n = xs.length := ⟨_, rfl⟩
  rw [← e1] at hm
  rw [← e1]
  have E1 := Lib.hid e1; have HX := Lib.hid hX
  clear e1 hX
  go_enter Try.func78, Try.ntmps78
  go_wp2
  go_loopw [3, 8] (fun v i wr => ∃ k : Nat, i = .int .i64 k ∧ k ≤ n ∧ ∃ s : Nat, v = .float .f32 s ∧ s < 4294967296 ∧ cn .f32 s = sumS X k ∧ Dr w wr) (fun _ i _ => n - (intOf i).toNat)
  case atStart => exact ⟨0, rfl, Nat.zero_le _, 0, rfl, by decide, cn_zero, Dr.refl _⟩
  case round =>
    obtain ⟨k, rfl, hk, s, rfl, hsl, hs, hdr⟩ := hrel
    have h1 := h1.below hdr.below
    have HS := Lib.hid hs; have HD := Lib.hid hdr; clear hs hdr
    by_cases hlt : k < n
    · have hk1 : k < xs.length := by rw [← E1.out]; exact hlt
      obtain ⟨bx, offx, rfl, _, hqx⟩ := F32s.spot h1 (k := k) hk1
      have hcx := hqx k hk1
      obtain ⟨x, px⟩ : ∃ x, x = xs.getD k 0 := ⟨_, rfl⟩
      rw [← px] at hcx
      have Px := Lib.hid px; clear px hqx
      clear h1
      go_wp2
      go_roundw
      case rel => exact ⟨k + 1, by go_num, hlt, _, rfl, fbits_lt _ .f32 _ _ _, by rw [cn_fbits, HS.out, Px.out, ← cn_getD, ← HX.out]; rfl, HD.out.drewN _⟩
      case measure => simp [intOf]; omega
    · have hkn : k = n := by omega
      subst hkn
      go_wp2
      go_ret
      exact ⟨_, rfl, Lib.hid ⟨HS.out, hsl⟩, HD.out⟩
set_option maxHeartbeats 1000000 in
theorem spec_l01Sum (w : World) (a1 : Option Addr) (c1 : Nat) (xs : List Nat) (h1 : F32s w a1 c1 xs) :
    Calls Try.prog 74 #[.slice a1 xs.length c1] w fun e w' => ∃ r, e = .returned (.float .f32 r) ∧ Hid (cn .f32 r = sumS (xs.map (cn .f32)) xs.length ∧ r < 4294967296) ∧ Dr w w' := by
  obtain ⟨X, hX⟩ : ∃ X, X = xs.map (cn .f32) := ⟨_, rfl⟩
  rw [← hX]
  have hm := Nat.le_trans h1.len h1.cap
  unfold maxLen at hm
  obtain ⟨n, e1⟩ : ∃ n, n = xs.length := ⟨_, rfl⟩
  rw [← e1] at hm
  rw [← e1]
  have E1 := Lib.hid e1; have HX := Lib.hid hX
  clear e1 hX
  go_enter Try.func74, Try.ntmps74
  go_wp2
  go_loopw [3, 4] (fun v i wr => ∃ k : Nat, i = .int .i64 k ∧ k ≤ n ∧ ∃ s : Nat, v = .float .f32 s ∧ s < 4294967296 ∧ cn .f32 s = sumS X k ∧ Dr w wr) (fun _ i _ => n - (intOf i).toNat)
  case atStart => exact ⟨0, rfl, Nat.zero_le _, 0, rfl, by decide, cn_zero, Dr.refl _⟩
  case round =>
    obtain ⟨k, rfl, hk, s, rfl, hsl, hs, hdr⟩ := hrel
    have h1 := h1.below hdr.below
    have HS := Lib.hid hs; have HD := Lib.hid hdr; clear hs hdr
    by_cases hlt : k < n
    · have hk1 : k < xs.length := by rw [← E1.out]; exact hlt
      obtain ⟨bx, offx, rfl, _, hqx⟩ := F32s.spot h1 (k := k) hk1
      have hcx := hqx k hk1
      obtain ⟨x, px⟩ : ∃ x, x = xs.getD k 0 := ⟨_, rfl⟩
      rw [← px] at hcx
      have Px := Lib.hid px; clear px hqx
      clear h1
      go_wp2
      go_roundw
      case rel => exact ⟨k + 1, by go_num, hlt, _, rfl, fbits_lt _ .f32 _ _ _, by rw [cn_fbits, HS.out, Px.out, ← cn_getD, ← HX.out]; rfl, HD.out.drewN _⟩
      case measure => simp [intOf]; omega
    · have hkn : k = n := by omega
      subst hkn
      go_wp2
      go_ret
      exact ⟨_, rfl, Lib.hid ⟨HS.out, hsl⟩, HD.out⟩
end Go.Proofs.Ytlalocjfjnghmaa
