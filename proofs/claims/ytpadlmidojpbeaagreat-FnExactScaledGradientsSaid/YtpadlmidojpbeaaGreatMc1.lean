/- Joined texts 1: Lst Lsq Fl3 Code Fl4 Fl5 Fl6 Abs Lab FF FG Ow0 Fl7 Fl8 Bf Gat Emp FH Ow1 Bx3 Ow2 Ow3 Ow4 Ow5 Ow6 Ow7 Seed Shf Shw Hub. Each is told at its own head. No condition. -/
import Derived.Laws.BitsAllLaws
import Derived.Laws.Runes
import GoSem.Extern.MathSqrt
import Derived.Deep.RegionWith
import Derived.Lib.Hide
import Derived.RegionTactic
import Derived.BigRegion
import Derived.Test.YtpadlmidojpbeaaGreatMc0
set_option linter.unusedVariables false
set_option linter.unusedSimpArgs false
/- x -/
namespace Go.Proofs.YtpadlmidojpbeaaGreat
open Go Go.RowKit
def listOf (n : Nat) (f : Nat → Nat) : List Nat := (List.range n).map f
theorem listOf_succ (k : Nat) (f : Nat → Nat) : listOf (k + 1) f = listOf k f ++ [f k] := by simp [listOf, List.range_succ]
theorem listOf_length (n : Nat) (f : Nat → Nat) : (listOf n f).length = n := by simp [listOf]
theorem listOf_getD {n k : Nat} (f : Nat → Nat) (h : k < n) : (listOf n f).getD k 0 = f k := by simp [listOf, h]
theorem listOf_congr {n : Nat} {f g : Nat → Nat} (h : ∀ i, i < n → f i = g i) : listOf n f = listOf n g := List.map_congr_left fun i hi => h i (List.mem_range.1 hi)
theorem cn_zero : cn .f32 0 = 0 := by decide +kernel
theorem cn_getD (xs : List Nat) (k : Nat) : (xs.map (cn .f32)).getD k 0 = cn .f32 (xs.getD k 0) := by
  simp only [List.getD_eq_getElem?_getD, List.getElem?_map]
  cases xs[k]? with
  | none => simp [cn_zero]
  | some x => rfl
theorem cn_at {xs : List Nat} {n k : Nat} {f : Nat → Nat} (h : xs.map (cn .f32) = listOf n f) (hk : k < n) : cn .f32 (xs.getD k 0) = f k := by
  rw [← cn_getD, h, listOf_getD f hk]
theorem Dr.drewN {w w' : World} (h : Dr w w') (n : Nat) : Dr w (w'.drewN n) := by
  obtain ⟨m, rfl⟩ := h
  exact ⟨m + n, by simp [World.drewN, Nat.add_assoc]⟩
def dotS (X Y : List Nat) : Nat → Nat
  | 0 => 0
  | k + 1 => fop .add .f32 (dotS X Y k) (fop .mul .f32 (X.getD k 0) (Y.getD k 0))
def sumS (X : List Nat) : Nat → Nat
  | 0 => 0
  | k + 1 => fop .add .f32 (sumS X k) (X.getD k 0)
def both (n m : Nat) : Bool := decide (1 ≤ n) && decide (n ≤ 256) && decide (n = m)
set_option maxHeartbeats 1000000 in
theorem impl_dot (w : World) (a1 : Option Addr) (c1 : Nat) (xs : List Nat) (h1 : F32s w a1 c1 xs) (a2 : Option Addr) (c2 : Nat) (ys : List Nat) (h2 : F32s w a2 c2 ys) (hl : xs.length = ys.length) :
    Calls Tryz.prog 138 #[.slice a1 xs.length c1, .slice a2 ys.length c2] w fun e w' => ∃ r, e = .returned (.float .f32 r) ∧ Hid (cn .f32 r = dotS (xs.map (cn .f32)) (ys.map (cn .f32)) xs.length ∧ r < 4294967296) ∧ Dr w w' := by
  obtain ⟨X, hX⟩ : ∃ X, X = xs.map (cn .f32) := ⟨_, rfl⟩
  obtain ⟨Y, hY⟩ : ∃ X, X = ys.map (cn .f32) := ⟨_, rfl⟩
  rw [← hX, ← hY]
  have hm := Nat.le_trans h1.len h1.cap
  unfold maxLen at hm
  obtain ⟨n, e1⟩ : ∃ n, n = xs.length := ⟨_, rfl⟩
  have e2 : n = ys.length := e1.trans hl
  rw [← e1] at hm
  rw [← e1, ← e2]
  have E1 := Lib.hid e1; have E2 := Lib.hid e2; have HX := Lib.hid hX; have HY := Lib.hid hY
  clear e1 e2 hl hX hY
  go_enter Tryz.func138, Tryz.ntmps138
  go_wp2
  go_loopw [5, 9] (fun v i wr => ∃ k : Nat, i = .int .i64 k ∧ k ≤ n ∧ ∃ s : Nat, v = .float .f32 s ∧ s < 4294967296 ∧ cn .f32 s = dotS X Y k ∧ Dr w wr) (fun _ i _ => n - (intOf i).toNat)
  case atStart => exact ⟨0, rfl, Nat.zero_le _, 0, rfl, by decide, cn_zero, Dr.refl _⟩
  case round =>
    obtain ⟨k, rfl, hk, s, rfl, hsl, hs, hdr⟩ := hrel
    have h1 := h1.below hdr.below
    have h2 := h2.below hdr.below
    have HS := Lib.hid hs; have HD := Lib.hid hdr; clear hs hdr
    by_cases hlt : k < n
    · have hk1 : k < xs.length := by rw [← E1.out]; exact hlt
      have hk2 : k < ys.length := by rw [← E2.out]; exact hlt
      obtain ⟨bx, offx, rfl, _, hqx⟩ := F32s.spot h1 (k := k) hk1
      have hcx := hqx k hk1
      obtain ⟨x, px⟩ : ∃ x, x = xs.getD k 0 := ⟨_, rfl⟩
      rw [← px] at hcx
      have Px := Lib.hid px; clear px hqx
      obtain ⟨bu, offu, rfl, _, hqu⟩ := F32s.spot h2 (k := k) hk2
      have hcy := hqu k hk2
      obtain ⟨u, pu⟩ : ∃ x, x = ys.getD k 0 := ⟨_, rfl⟩
      rw [← pu] at hcy
      have Pu := Lib.hid pu; clear pu hqu
      clear h1 h2
      go_wp2
      refine wp_region_drawn (fun f args v => False) (by kernel_rfl) (by kernel_rfl) ?_
      repeat (refine wset_step (fun K hK nq => ?_); go_simp; refine hK _ ?_; clear hK K)
      refine wset_nil ?_
      rintro w' ⟨q, rfl⟩
      go_wp2
      go_roundw
      case rel => exact ⟨k + 1, by go_num, hlt, _, rfl, fbits_lt _ .f32 _ _ _, by rw [cn_fbits, cn_fbits, HS.out, Px.out, Pu.out, ← cn_getD, ← cn_getD, ← HX.out, ← HY.out]; rfl, HD.out.drewN _⟩
      case measure => simp [intOf]; omega
    · have hkn : k = n := by omega
      subst hkn
      go_wp2
      go_ret
      exact ⟨_, rfl, Lib.hid ⟨HS.out, hsl⟩, HD.out⟩
set_option maxHeartbeats 1000000 in
theorem impl_sumOf (w : World) (a1 : Option Addr) (c1 : Nat) (xs : List Nat) (h1 : F32s w a1 c1 xs) :
    Calls Tryz.prog 124 #[.slice a1 xs.length c1] w fun e w' => ∃ r, e = .returned (.float .f32 r) ∧ Hid (cn .f32 r = sumS (xs.map (cn .f32)) xs.length ∧ r < 4294967296) ∧ Dr w w' := by
  obtain ⟨X, hX⟩ : ∃ X, X = xs.map (cn .f32) := ⟨_, rfl⟩
  rw [← hX]
  have hm := Nat.le_trans h1.len h1.cap
  unfold maxLen at hm
  obtain ⟨n, e1⟩ : ∃ n, n = xs.length := ⟨_, rfl⟩
  rw [← e1] at hm
  rw [← e1]
  have E1 := Lib.hid e1; have HX := Lib.hid hX
  clear e1 hX
  go_enter Tryz.func124, Tryz.ntmps124
  go_wp2
  go_loopw [3, 8] (fun v i wr => ∃ k : Nat, i = .int .i64 k ∧ k ≤ n ∧ ∃ s : Nat, v = .float .f32 s ∧ s < 4294967296 ∧ cn .f32 s = sumS X k ∧ Dr w wr) (fun _ i _ => n - (intOf i).toNat)
  case atStart => exact ⟨0, rfl, Nat.zero_le _, 0, rfl, by decide, cn_zero, Dr.refl _⟩
  case round =>
    obtain ⟨k, rfl, hk, s, rfl, hsl, hs, hdr⟩ := hrel
    have h1 := h1.below hdr.below
    have HS := Lib.hid hs; have HD := Lib.hid hdr; clear hs hdr
    by_cases hlt : k < n
    · have hk1 : k < xs.length := by rw [← E1.out]; exact hlt
      obtain ⟨bx, offx, rfl, _, hqx⟩ := F32s.spot h1 (k := k) hk1
      have hcx := hqx k hk1
      obtain ⟨x, px⟩ : ∃ x, x = xs.getD k 0 := ⟨_, rfl⟩
      rw [← px] at hcx
      have Px := Lib.hid px; clear px hqx
      clear h1
      go_wp2
      go_roundw
      case rel => exact ⟨k + 1, by go_num, hlt, _, rfl, fbits_lt _ .f32 _ _ _, by rw [cn_fbits, HS.out, Px.out, ← cn_getD, ← HX.out]; rfl, HD.out.drewN _⟩
      case measure => simp [intOf]; omega
    · have hkn : k = n := by omega
      subst hkn
      go_wp2
      go_ret
      exact ⟨_, rfl, Lib.hid ⟨HS.out, hsl⟩, HD.out⟩
set_option maxHeartbeats 1000000 in
theorem spec_l01Sum (w : World) (a1 : Option Addr) (c1 : Nat) (xs : List Nat) (h1 : F32s w a1 c1 xs) :
    Calls Tryz.prog 113 #[.slice a1 xs.length c1] w fun e w' => ∃ r, e = .returned (.float .f32 r) ∧ Hid (cn .f32 r = sumS (xs.map (cn .f32)) xs.length ∧ r < 4294967296) ∧ Dr w w' := by
  obtain ⟨X, hX⟩ : ∃ X, X = xs.map (cn .f32) := ⟨_, rfl⟩
  rw [← hX]
  have hm := Nat.le_trans h1.len h1.cap
  unfold maxLen at hm
  obtain ⟨n, e1⟩ : ∃ n, n = xs.length := ⟨_, rfl⟩
  rw [← e1] at hm
  rw [← e1]
  have E1 := Lib.hid e1; have HX := Lib.hid hX
  clear e1 hX
  go_enter Tryz.func113, Tryz.ntmps113
  go_wp2
  go_loopw [3, 4] (fun v i wr => ∃ k : Nat, i = .int .i64 k ∧ k ≤ n ∧ ∃ s : Nat, v = .float .f32 s ∧ s < 4294967296 ∧ cn .f32 s = sumS X k ∧ Dr w wr) (fun _ i _ => n - (intOf i).toNat)
  case atStart => exact ⟨0, rfl, Nat.zero_le _, 0, rfl, by decide, cn_zero, Dr.refl _⟩
  case round =>
    obtain ⟨k, rfl, hk, s, rfl, hsl, hs, hdr⟩ := hrel
    have h1 := h1.below hdr.below
    have HS := Lib.hid hs; have HD := Lib.hid hdr; clear hs hdr
    by_cases hlt : k < n
    · have hk1 : k < xs.length := by rw [← E1.out]; exact hlt
      obtain ⟨bx, offx, rfl, _, hqx⟩ := F32s.spot h1 (k := k) hk1
      have hcx := hqx k hk1
      obtain ⟨x, px⟩ : ∃ x, x = xs.getD k 0 := ⟨_, rfl⟩
      rw [← px] at hcx
      have Px := Lib.hid px; clear px hqx
      clear h1
      go_wp2
      go_roundw
      case rel => exact ⟨k + 1, by go_num, hlt, _, rfl, fbits_lt _ .f32 _ _ _, by rw [cn_fbits, HS.out, Px.out, ← cn_getD, ← HX.out]; rfl, HD.out.drewN _⟩
      case measure => simp [intOf]; omega
    · have hkn : k = n := by omega
      subst hkn
      go_wp2
      go_ret
      exact ⟨_, rfl, Lib.hid ⟨HS.out, hsl⟩, HD.out⟩
end Go.Proofs.YtpadlmidojpbeaaGreat
/- x -/
namespace Go.Proofs.YtpadlmidojpbeaaGreat
open Go Go.RowKit
theorem RepF.open {w : World} {lo hi : Nat} {ad : Option Addr} {n cap : Nat} {zs : List Nat} (h : RepF w lo hi ad n cap zs) (hp : 0 < n) :
    ∃ g, ad = some ⟨g, 0, none⟩ ∧ lo ≤ g ∧ (∀ k, k < n → w.cell? ⟨g, k, none⟩ = some (.float .f32 (zs.getD k 0))) ∧ (∀ k, w.frozen? ⟨g, k, none⟩ = false) ∧
      (∀ k y, y < 4294967296 → RepF (w.setCell ⟨g, k, none⟩ (.float .f32 y)) lo hi (some ⟨g, 0, none⟩) n cap (zs.set k y)) := by
  obtain ⟨hrow, hlen, hlt⟩ := h
  obtain ⟨g, cap', hform⟩ := Joins.ownsRow_form hrow.own hp
  have had : ad = some ⟨g, 0, none⟩ := by cases hform; rfl
  clear hform
  subst had
  refine ⟨g, rfl, (hrow.own.lt g rfl).1, fun k hk => ?_, fun k => hrow.own.frozenAt k, fun k y hy => ⟨⟨?_, ?_⟩, ?_, ?_⟩⟩
  · rw [hrow.own.cellAt k (by omega), List.getElem?_map, List.getD_eq_getElem?_getD, List.getElem?_eq_getElem (by omega)]; rfl
  · rw [List.map_set]; exact (hrow.own.stored k (.float .f32 y)).1
  · exact hrow.top
  · rw [List.length_set]; exact hlen
  · intro x hx
    rcases List.mem_or_eq_of_mem_set hx with hx | rfl
    · exact hlt x hx
    · exact hy
theorem RepF.setAt {w : World} {lo hi g n cap : Nat} {zs : List Nat} (h : RepF w lo hi (some ⟨g, 0, none⟩) n cap zs) (k y : Nat) (hy : y < 4294967296) (hp : 0 < n) : RepF (w.setCell ⟨g, k, none⟩ (.float .f32 y)) lo hi (some ⟨g, 0, none⟩) n cap (zs.set k y) := by
  obtain ⟨g', hg, _, _, _, hs⟩ := h.open hp
  obtain rfl : g = g' := by simpa using hg
  exact hs k y hy
end Go.Proofs.YtpadlmidojpbeaaGreat
/- x -/
namespace Go.Proofs.YtpadlmidojpbeaaGreat
open Go Ieee
def nval (f : Format) (r : Nat) : Nat := if r < f.binade then r else (f.binade + r % f.binade) * 2 ^ (r / f.binade - 1)
theorem nval_succ (f : Format) (r : Nat) : nval f r < nval f (r + 1) := by
  have hb : 0 < f.binade := Nat.two_pow_pos _
  unfold nval
  by_cases h1 : r + 1 < f.binade
  · rw [if_pos (by omega), if_pos h1]; omega
  · rw [if_neg h1]
    by_cases h2 : r < f.binade
    · rw [if_pos h2]
      have e : r + 1 = f.binade := by omega
      rw [e, Nat.mod_self, Nat.div_self hb]
      simp; omega
    · rw [if_neg h2]
      have hd := Nat.div_add_mod r f.binade
      have hm := Nat.mod_lt r hb
      have hq : 1 ≤ r / f.binade := (Nat.le_div_iff_mul_le hb).2 (by omega)
      by_cases h3 : r % f.binade + 1 < f.binade
      · have e1 : (r + 1) / f.binade = r / f.binade := by
          rw [Nat.div_eq_iff (by omega)]
          have : r / f.binade * f.binade = f.binade * (r / f.binade) := Nat.mul_comm _ _
          constructor <;> omega
        have e2 : (r + 1) % f.binade = r % f.binade + 1 := by
          have := Nat.div_add_mod (r + 1) f.binade
          rw [e1] at this; omega
        rw [e1, e2]
        exact Nat.mul_lt_mul_of_pos_right (by omega) (Nat.two_pow_pos _)
      · have e0 : r % f.binade = f.binade - 1 := by omega
        have e1 : (r + 1) / f.binade = r / f.binade + 1 := by
          rw [Nat.div_eq_iff (by omega), Nat.add_mul]
          have : r / f.binade * f.binade = f.binade * (r / f.binade) := Nat.mul_comm _ _
          constructor <;> omega
        have e2 : (r + 1) % f.binade = 0 := by
          have := Nat.div_add_mod (r + 1) f.binade
          rw [e1, Nat.mul_add] at this; omega
        rw [e1, e2, e0, show r / f.binade + 1 - 1 = (r / f.binade - 1) + 1 by omega, Nat.pow_succ]
        have hp := Nat.two_pow_pos (r / f.binade - 1)
        rw [Nat.add_zero, Nat.mul_comm (2 ^ (r / f.binade - 1)) 2, ← Nat.mul_assoc]
        exact Nat.mul_lt_mul_of_pos_right (by omega) hp
theorem nval_lt {f : Format} {x y : Nat} (h : x < y) : nval f x < nval f y := by
  induction y with
  | zero => omega
  | succ y ih =>
    by_cases e : x = y
    · subst e; exact nval_succ f x
    · exact Nat.lt_trans (ih (by omega)) (nval_succ f y)
theorem nval_lt_iff {f : Format} {x y : Nat} : nval f x < nval f y ↔ x < y := by
  constructor
  · intro h
    rcases Nat.lt_trichotomy x y with h1 | h1 | h1
    · exact h1
    · subst h1; omega
    · have := nval_lt (f := f) h1; omega
  · exact nval_lt
theorem nval_inj {f : Format} {x y : Nat} (h : nval f x = nval f y) : x = y := by
  rcases Nat.lt_trichotomy x y with h1 | h1 | h1
  · have := nval_lt (f := f) h1; omega
  · exact h1
  · have := nval_lt (f := f) h1; omega
theorem nval_zero (f : Format) : nval f 0 = 0 := by unfold nval; rw [if_pos (show 0 < f.binade from Nat.two_pow_pos _)]

theorem read_fin (f : Format) (neg : Bool) {r : Nat} (h : r < f.infRung) : ∃ m p, f.read (f.word neg r) = .number neg m p ∧ f.leastPlace ≤ p ∧ m <<< (p - f.leastPlace).toNat = nval f r := by
  rw [read_word f neg (Nat.lt_trans h f.infRung_lt)]
  unfold nval
  by_cases h1 : r < f.binade
  · rw [if_pos h1, if_pos h1]
    exact ⟨r, f.leastPlace, rfl, Int.le_refl _, by simp⟩
  · rw [if_neg h1, if_pos h, if_neg h1]
    refine ⟨_, _, rfl, by omega, ?_⟩
    rw [Nat.shiftLeft_eq]
    congr 2
    omega
theorem read_inf (f : Format) (hb : f.binade ≤ f.infRung) (neg : Bool) : f.read (f.word neg f.infRung) = .infinity neg := by
  rw [read_word f neg f.infRung_lt, if_neg (by omega), if_neg (by omega), if_pos rfl]

theorem signed_scale (s : Bool) (m k : Nat) (d : Nat) : signed s m (k + d) = signed s m k * (2 ^ d : Nat) := by
  unfold signed
  simp only [Nat.shiftLeft_eq, Nat.pow_add]
  split <;> simp [← Nat.mul_assoc, Int.neg_mul]
theorem signed_eq (s : Bool) (m k : Nat) : signed s m k = if s = true then -((m <<< k : Nat) : Int) else ((m <<< k : Nat) : Int) := by
  unfold signed; cases s <;> simp
theorem compare_scale (a b : Int) (d : Nat) : compare (a * (2 ^ d : Nat)) (b * (2 ^ d : Nat)) = compare a b := by
  have hp : (0 : Int) < ((2 ^ d : Nat) : Int) := by exact_mod_cast Nat.two_pow_pos d
  simp only [compare, compareOfLessAndEq]
  have h1 : a * ((2 ^ d : Nat) : Int) < b * ((2 ^ d : Nat) : Int) ↔ a < b := ⟨fun h => Int.lt_of_mul_lt_mul_right h (Int.le_of_lt hp), fun h => Int.mul_lt_mul_of_pos_right h hp⟩
  have h2 : a * ((2 ^ d : Nat) : Int) = b * ((2 ^ d : Nat) : Int) ↔ a = b := ⟨fun h => Int.eq_of_mul_eq_mul_right (by omega) h, fun h => by rw [h]⟩
  simp only [h1, h2]
theorem order_numbers {s t : Bool} {m n : Nat} {p q l : Int} (hp : l ≤ p) (hq : l ≤ q) :
    (Datum.number s m p).order (.number t n q) = some (compare (signed s m (p - l).toNat) (signed t n (q - l).toNat)) := by
  simp only [Datum.order]
  congr 1
  have hb : l ≤ min p q := by omega
  have e1 : (p - l).toNat = (p - min p q).toNat + (min p q - l).toNat := by omega
  have e2 : (q - l).toNat = (q - min p q).toNat + (min p q - l).toNat := by omega
  rw [e1, e2, signed_scale, signed_scale, compare_scale]
def sval (f : Format) (neg : Bool) (r : Nat) : Int := if neg = true then -(nval f r : Int) else (nval f r : Int)
theorem order_fin (f : Format) (s t : Bool) {x y : Nat} (hx : x < f.infRung) (hy : y < f.infRung) : f.order (f.word s x) (f.word t y) = some (compare (sval f s x) (sval f t y)) := by
  obtain ⟨m, p, e1, e2, e3⟩ := read_fin f s hx
  obtain ⟨n, q, e4, e5, e6⟩ := read_fin f t hy
  unfold Format.order
  rw [e1, e4, order_numbers e2 e5, signed_eq, signed_eq, e3, e6]
  rfl
theorem compare_nat (a b : Nat) : compare (a : Int) (b : Int) = compare a b := by
  simp only [compare, compareOfLessAndEq, Int.ofNat_lt, Int.natCast_inj]
theorem order_pos (f : Format) {x y : Nat} (hx : x < f.infRung) (hy : y < f.infRung) : f.order x y = some (compare x y) := by
  have := order_fin f false false hx hy
  have e1 : f.word false x = x := rfl
  have e2 : f.word false y = y := rfl
  rw [e1, e2] at this
  rw [this]
  simp only [sval, Bool.false_eq_true, if_false]
  rw [compare_nat]
  congr 1
  have h1 : (nval f x < nval f y) = (x < y) := propext nval_lt_iff
  have h2 : (nval f x = nval f y) = (x = y) := propext ⟨nval_inj, fun e => by rw [e]⟩
  show compareOfLessAndEq _ _ = compareOfLessAndEq _ _
  unfold compareOfLessAndEq
  simp only [h1, h2]
/-! the greater and the less of two numbers -/

theorem nearest_word (f : Format) (neg : Bool) (m : Nat) (p : Int) : ∃ r, f.nearest neg m p = f.word neg r ∧ r ≤ f.infRung := by
  unfold Format.nearest
  split
  · exact ⟨0, rfl, Nat.zero_le _⟩
  · exact ⟨_, rfl, Nat.min_le_right ..⟩
theorem word_of (f : Format) {x : Nat} (h : x < 2 * f.signWeight) : ∃ neg r, x = f.word neg r ∧ r < f.signWeight := by
  by_cases hx : x < f.signWeight
  · exact ⟨false, x, rfl, hx⟩
  · exact ⟨true, x - f.signWeight, by unfold Format.word; simp; omega, by omega⟩
theorem nan_word (f : Format) (hb : f.binade ≤ f.infRung) (neg : Bool) {r : Nat} (h1 : f.infRung < r) (h2 : r < f.signWeight) : (f.read (f.word neg r)).isNaN = true := read_high f hb neg r h1 h2
theorem single_binade : single.binade ≤ single.infRung := by decide +kernel
theorem between {s a b : Nat} (hs : s < 4294967296) (ha : 0 < a) (ha2 : a < single.infRung) (hb2 : b < single.infRung)
    (h1 : single.order s a = some .gt ∨ single.order s a = some .eq) (h2 : single.order s b = some .lt ∨ single.order s b = some .eq) : a ≤ s ∧ s ≤ b := by
  obtain ⟨neg, r, rfl, hr⟩ := word_of single (x := s) (by have : single.signWeight = 2147483648 := by decide +kernel
                                                          omega)
  by_cases hfin : r < single.infRung
  · cases neg
    · have e : single.word false r = r := rfl
      rw [e] at h1 h2 ⊢
      rw [order_pos single hfin ha2] at h1
      rw [order_pos single hfin hb2] at h2
      constructor
      · rcases h1 with h1 | h1
        · have := Nat.compare_eq_gt.1 (Option.some.inj h1); omega
        · have := Nat.compare_eq_eq.1 (Option.some.inj h1); omega
      · rcases h2 with h2 | h2
        · have := Nat.compare_eq_lt.1 (Option.some.inj h2); omega
        · have := Nat.compare_eq_eq.1 (Option.some.inj h2); omega
    · exfalso
      have := order_fin single true false hfin ha2
      have e : single.word false a = a := rfl
      rw [e] at this
      rw [this] at h1
      simp only [sval, if_true, Bool.false_eq_true, if_false] at h1
      have hp : 0 < nval single a := by have := nval_lt (f := single) ha; rw [nval_zero] at this; exact this
      have hlt : -(nval single r : Int) < (nval single a : Int) := by omega
      rw [show compare (-(nval single r : Int)) (nval single a : Int) = .lt from by simp [compare, compareOfLessAndEq, hlt]] at h1
      rcases h1 with h1 | h1 <;> cases h1
  · by_cases hinf : r = single.infRung
    · subst hinf
      have e1 := read_inf single single_binade neg
      obtain ⟨m, p, e2, _⟩ := read_fin single false ha2
      obtain ⟨m', p', e3, _⟩ := read_fin single false hb2
      have e4 : single.word false a = a := rfl
      have e5 : single.word false b = b := rfl
      rw [e4] at e2; rw [e5] at e3
      unfold Format.order at h1 h2
      rw [e1, e2] at h1
      rw [e1, e3] at h2
      cases neg
      · simp [Datum.order] at h2
      · simp [Datum.order] at h1
    · exfalso
      have := nan_word single single_binade neg (by omega) hr
      have hn : isN .f32 (single.word neg r) = true := this
      rw [show single.order (single.word neg r) a = none from order_none (k := .f32) (.inl hn)] at h1
      rcases h1 with h1 | h1 <;> cases h1
end Go.Proofs.YtpadlmidojpbeaaGreat
/- x -/
namespace Go.Proofs.YtpadlmidojpbeaaGreat
open Go Go.RowKit Ieee
def finB (x : Nat) : Bool := match single.read x with
  | .number .. => true
  | _ => false
theorem finB_not {x : Nat} (h : finB x = true) : isN .f32 x = false := by
  unfold finB at h
  unfold isN
  show (single.read x).isNaN = false
  cases hd : single.read x with
  | nan s t => rw [hd] at h; cases h
  | infinity s => rw [hd] at h; cases h
  | number s m p => rfl
theorem sub_self_fin {x : Nat} (h : finB x = true) : floatBits .sub .f32 x x = some 0 := by
  show ((single.read x).sum (single.read x).opposite).map single.write = some 0
  unfold finB at h
  cases hd : single.read x with
  | nan s t => rw [hd] at h; cases h
  | infinity s => rw [hd] at h; cases h
  | number s m p =>
    have hs : ∀ k, signed s m k + signed (!s) m k = 0 := by intro k; unfold signed; cases s <;> simp <;> omega
    simp only [Datum.sum, Datum.opposite, hs, Option.map_some]
    cases s <;> simp [Format.write, Format.nearest, Format.word]
theorem sub_self_not {x : Nat} (h : finB x = false) : floatBits .sub .f32 x x = none := by
  show ((single.read x).sum (single.read x).opposite).map single.write = none
  unfold finB at h
  cases hd : single.read x with
  | nan s t => rfl
  | infinity s => cases s <;> rfl
  | number s m p => rw [hd] at h; cases h
theorem order_sub_self (x : Nat) (w : World) : (FloatKind.f32.format.order (fbits .sub .f32 x x w) 0 == some .eq) = finB x := by
  cases h : finB x
  · have hn : isN .f32 (fbits .sub .f32 x x w) = true := by
      unfold fbits
      rw [sub_self_not h]
      exact drawn_nan .f32 x x _
    rw [order_none (.inl hn)]; rfl
  · rw [fbits_some (sub_self_fin h)]
    have : FloatKind.f32.format.order 0 0 = some .eq := by decide +kernel
    rw [this]; rfl

theorem impl_IsFinite (x : Nat) (w : World) : Calls Tryz.prog 73 #[.float .f32 x] w fun e w' => e = .returned (.bool (finB x)) ∧ Dr w w' := by
  have h := fun w => order_sub_self x w
  go_enter Tryz.func73, Tryz.ntmps73
  go_wp2
  go_ret
  exact ⟨rfl, _, rfl⟩
theorem spec_l01Finite (x : Nat) (w : World) : Calls Tryz.prog 58 #[.float .f32 x] w fun e w' => e = .returned (.bool (finB x)) ∧ Dr w w' := by
  have h := fun w => order_sub_self x w
  go_enter Tryz.func58, Tryz.ntmps58
  go_wp2
  go_ret
  exact ⟨rfl, _, rfl⟩
theorem run_f32bits (x : Nat) (w : World) : (callFunc 90 #[.float .f32 x]).run Tryz.prog w = .ok (.value (.int .u32 (x : Nat))) w := by
  rw [run_callFunc_extern (show Tryz.prog.funcs[90]? = some Tryz.f90 by kernel_rfl) (by kernel_rfl) (by kernel_rfl) (by kernel_rfl) (e := Extern.MathFloatBits.float32bits) (by kernel_rfl)]
  rfl
theorem spec_l01Bits (x : Nat) (hx : x < 4294967296) (w : World) : Calls Tryz.prog 130 #[.float .f32 x] w fun e w' => e = .returned (.int .i64 (cn .f32 x : Nat)) ∧ w = w' := by
  have hd := run_f32bits
  cases h : isN .f32 x
  · have ho : FloatKind.f32.format.order x x = some .eq := by rw [order_self, h]; rfl
    rw [cn_not h]
    clear h
    go_enter Tryz.func130, Tryz.ntmps130
    go_wp2
    go_ret
    exact ⟨rfl, rfl⟩
  · have ho : FloatKind.f32.format.order x x = none := by rw [order_self, h]; rfl
    rw [cn_nan h]
    clear h
    go_enter Tryz.func130, Tryz.ntmps130
    go_wp2
    go_ret
    exact ⟨rfl, rfl⟩
end Go.Proofs.YtpadlmidojpbeaaGreat
/- x -/
namespace Go.Proofs.YtpadlmidojpbeaaGreat
open Go Ieee
end Go.Proofs.YtpadlmidojpbeaaGreat
/- x -/
namespace Go.Proofs.YtpadlmidojpbeaaGreat
open Go Ieee
theorem s_sw : single.signWeight = 2147483648 := by decide +kernel
theorem s_ir : single.infRung = 2139095040 := by decide +kernel
theorem cv_num {k k2 : FloatKind} {b : Nat} {s : Bool} {m : Nat} {e : Int} (hd : k.decode b = .number s m e) (hne : k ≠ k2) (hi : cvWide k b k2 = false) (w : World) : cvbits k b k2 w = k2.format.nearest s m e := by
  unfold cvWide at hi
  rw [if_neg hne, hd] at hi
  simp only at hi
  unfold cvbits
  rw [if_neg hne, hd]
  simp only
  rw [hi]
  rfl
end Go.Proofs.YtpadlmidojpbeaaGreat
/- x -/
namespace Go.Proofs.YtpadlmidojpbeaaGreat
open Go Go.RowKit Ieee
@[go_sem] theorem run_neg_f {P : Program} (w : World) (k : FloatKind) (b : Nat) : (Op.unary .neg (.float k b)).run P w = .ok (.float k (Op.negFloat k b)) w := rfl
theorem word_lt (f : Format) (neg : Bool) {r : Nat} (h : r < f.signWeight) : f.word neg r < 2 * f.signWeight := by
  unfold Format.word; split <;> omega
theorem cv_lt32 {b : Nat} (w : World) (h : cvWide .f64 b .f32 = false) : cvbits .f64 b .f32 w < 4294967296 := by
  have hk : 2 * single.signWeight = 4294967296 := by decide +kernel
  cases hd : FloatKind.f64.decode b with
  | nan s t =>
    unfold cvbits
    rw [if_neg (by decide), hd]
    exact drawn_lt .f32 0 0 _
  | infinity s =>
    unfold cvbits
    rw [if_neg (by decide), hd]
    show FloatKind.f32.encode (.infinity s) < _
    cases s <;> decide +kernel
  | number s m e =>
    rw [cv_num (k := .f64) (k2 := .f32) hd (by decide) h w]
    obtain ⟨q, hq, hle⟩ := nearest_word single s m e
    rw [show FloatKind.f32.format.nearest s m e = _ from hq, ← hk]
    exact word_lt single s (Nat.lt_of_le_of_lt hle single.infRung_lt)
theorem wide_nan {b : Nat} (h : isN .f64 b = true) : cvWide .f64 b .f32 = false := by
  unfold cvWide
  rw [if_neg (by decide)]
  unfold isN at h
  cases hd : FloatKind.f64.decode b with
  | nan s t => rfl
  | infinity s => rfl
  | number s m e => rw [show FloatKind.f64.format.read b = _ from hd] at h; cases h
end Go.Proofs.YtpadlmidojpbeaaGreat
/- x -/
namespace Go.Proofs.YtpadlmidojpbeaaGreat
open Go Go.RowKit
theorem run_f64from (x : Int) (w : World) : (callFunc 132 #[.int .u64 x]).run Tryz.prog w = .ok (.value (.float .f64 x.toNat)) w := by
  rw [run_callFunc_extern (show Tryz.prog.funcs[132]? = some Tryz.f132 by kernel_rfl) (by kernel_rfl) (by kernel_rfl) (by kernel_rfl) (e := Extern.MathFloatBits.float64frombits) (by kernel_rfl)]
  rfl
theorem run_f32from (x : Int) (w : World) : (callFunc 91 #[.int .u32 x]).run Tryz.prog w = .ok (.value (.float .f32 x.toNat)) w := by
  rw [run_callFunc_extern (show Tryz.prog.funcs[91]? = some Tryz.f91 by kernel_rfl) (by kernel_rfl) (by kernel_rfl) (by kernel_rfl) (e := Extern.MathFloatBits.float32frombits) (by kernel_rfl)]
  rfl
theorem spec_l01From (n : Nat) (hn : n < 4294967296) (w : World) : Calls Tryz.prog 131 #[.int .i64 n] w fun e w' => e = .returned (.float .f32 n) ∧ w = w' := by
  have hd := run_f32from
  go_enter Tryz.func131, Tryz.ntmps131
  go_wp2
  go_ret
  exact ⟨rfl, rfl⟩
theorem math_NaN (w : World) : Calls Tryz.prog 116 #[] w fun e w' => e = .returned (.float .f64 9221120237041090561) ∧ w = w' := by
  have hd2 := run_f64from
  go_enter Tryz.func116, Tryz.ntmps116
  go_wp2
  go_ret
  exact ⟨rfl, rfl⟩
theorem impl_noNumber (w : World) : Calls Tryz.prog 89 #[] w fun e w' => ∃ r, e = .returned (.float .f32 r) ∧ Hid (cn .f32 r = nanOf .f32 ∧ r < 4294967296) ∧ Dr w w' := by
  go_enter Tryz.func89, Tryz.ntmps89
  go_wp2_with (go_at_call 116; refine (math_NaN _).mono ?_; rintro e w' ⟨rfl, rfl⟩)
  go_ret
  have hn : isN .f64 9221120237041090561 = true := by decide +kernel
  exact ⟨_, rfl, Lib.hid ⟨by rw [cn_cvbits _ (wide_nan hn), cn_nan hn]; decide +kernel, cv_lt32 _ (wide_nan hn)⟩, _, rfl⟩
end Go.Proofs.YtpadlmidojpbeaaGreat
/- x -/
namespace Go.Proofs.YtpadlmidojpbeaaGreat
open Go Go.RowKit
theorem Touch.setCell {w : World} {lo hi g k : Nat} {v : Value} (h1 : lo ≤ g) (h2 : g < hi) : Touch lo hi w (w.setCell ⟨g, k, none⟩ v) :=
  ⟨rfl, rfl, rfl, by simp [World.setCell], fun j hj hd => Below.heap_setCell _ _ _ _ (by intro e; simp at e; omega)⟩
theorem mem_getD {xs : List Nat} {k : Nat} (h : k < xs.length) : xs.getD k 0 ∈ xs := by
  rw [List.getD_eq_getElem?_getD, List.getElem?_eq_getElem h]; exact List.getElem_mem h
theorem isN_none {x : Nat} (h : FloatKind.f32.format.order x 0 = none) : isN .f32 x = true := by
  cases hx : isN .f32 x
  · exfalso
    have h0 : isN .f32 0 = false := by decide +kernel
    unfold isN at hx h0
    have h1 : (FloatKind.f32.format.read x).order (FloatKind.f32.format.read 0) = none := h
    cases e1 : FloatKind.f32.format.read x with
    | nan s t => rw [e1] at hx; cases hx
    | infinity s => rw [e1] at h1; cases e2 : FloatKind.f32.format.read 0 with
      | nan s t => rw [e2] at h0; cases h0
      | infinity t => rw [e2] at h1; cases h1
      | number t m p => rw [e2] at h1; cases h1
    | number s m p => rw [e1] at h1; cases e2 : FloatKind.f32.format.read 0 with
      | nan s t => rw [e2] at h0; cases h0
      | infinity t => rw [e2] at h1; cases h1
      | number t m p => rw [e2] at h1; cases h1
  · rfl
end Go.Proofs.YtpadlmidojpbeaaGreat
/- x -/
namespace Go.Proofs.YtpadlmidojpbeaaGreat
open Go Go.RowKit
end Go.Proofs.YtpadlmidojpbeaaGreat
/- x -/
namespace Go.Proofs.YtpadlmidojpbeaaGreat
open Go Go.RowKit
end Go.Proofs.YtpadlmidojpbeaaGreat
/- x -/
namespace Go.Proofs.YtpadlmidojpbeaaGreat
open Go Go.RowKit
structure RowD where
  e : TypeId
  size : Nat
  ad : Option Addr
  n : Nat
  cap : Nat
  vs : List Value
def RowD.val (x : RowD) : Value := .slice x.ad x.n x.cap
def Apart (v u : Value) : Prop := ∀ g, v.ownBlock = some g → u.ownBlock ≠ some g
theorem Apart.symm {v u : Value} (h : Apart v u) : Apart u v := fun g e1 e2 => h g e2 e1
structure Own (w : World) (lo hi : Nat) (L : List RowD) : Prop where
  row : ∀ x ∈ L, Row w x.e x.size lo hi x.val x.n x.vs
  sep : (L.map RowD.val).Pairwise Apart
theorem Own.nil (w : World) (lo hi : Nat) : Own w lo hi [] := ⟨fun x hx => (nomatch hx), List.Pairwise.nil⟩
theorem Own.below {w w' : World} {lo hi : Nat} {L : List RowD} (h : Own w lo hi L) (hb : Below w.heap.size w w') : Own w' lo hi L := ⟨fun x hx => (h.row x hx).below hb, h.sep⟩
theorem Own.touch {w w' : World} {lo hi lo2 hi2 : Nat} {L : List RowD} (h : Own w lo hi L) (ht : Touch lo2 hi2 w w') (hd : hi ≤ lo2 ∨ hi2 ≤ lo) : Own w' lo hi L := ⟨fun x hx => (h.row x hx).touch ht hd, h.sep⟩
theorem Own.bounds {w : World} {lo hi lo' hi' : Nat} {L : List RowD} (h : Own w lo hi L) (h1 : lo' ≤ lo) (h2 : hi ≤ hi') : Own w lo' hi' L := ⟨fun x hx => (h.row x hx).bounds h1 h2, h.sep⟩
theorem Own.perm {w : World} {lo hi : Nat} {L M : List RowD} (h : Own w lo hi L) (p : L.Perm M) : Own w lo hi M :=
  ⟨fun x hx => h.row x (p.mem_iff.2 hx), ((p.map RowD.val).pairwise_iff (fun {a b} h => h.symm)).1 h.sep⟩
theorem Own.sub {w : World} {lo hi : Nat} {L M : List RowD} (h : Own w lo hi L) (s : M.Sublist L) : Own w lo hi M :=
  ⟨fun x hx => h.row x (s.subset hx), h.sep.sublist (s.map RowD.val)⟩
theorem Own.tail {w : World} {lo hi : Nat} {x : RowD} {L : List RowD} (h : Own w lo hi (x :: L)) : Own w lo hi L := h.sub (List.sublist_cons_self x L)
theorem Own.head {w : World} {lo hi : Nat} {x : RowD} {L : List RowD} (h : Own w lo hi (x :: L)) : Row w x.e x.size lo hi x.val x.n x.vs := h.row x (List.mem_cons_self ..)
theorem Own.apart {w : World} {lo hi : Nat} {x : RowD} {L : List RowD} (h : Own w lo hi (x :: L)) {y : RowD} (hy : y ∈ L) : Apart x.val y.val := (List.pairwise_cons.1 h.sep).1 _ (List.mem_map_of_mem hy)
theorem Own.cons {w : World} {lo hi : Nat} {x : RowD} {L : List RowD} (hx : Row w x.e x.size lo hi x.val x.n x.vs) (h : Own w lo hi L) (hs : ∀ y ∈ L, Apart x.val y.val) : Own w lo hi (x :: L) := by
  refine ⟨fun y hy => ?_, ?_⟩
  · rcases List.mem_cons.1 hy with rfl | hy
    · exact hx
    · exact h.row y hy
  · rw [List.map_cons, List.pairwise_cons]
    refine ⟨fun v hv => ?_, h.sep⟩
    obtain ⟨y, hy, rfl⟩ := List.mem_map.1 hv
    exact hs y hy
theorem Own.one {w : World} {lo hi : Nat} {x : RowD} (hx : Row w x.e x.size lo hi x.val x.n x.vs) : Own w lo hi [x] := Own.cons hx (Own.nil _ _ _) (fun y hy => (nomatch hy))
theorem Own.append {w : World} {lo mi hi : Nat} {L M : List RowD} (h : Own w lo mi L) (h2 : Own w mi hi M) (h3 : lo ≤ mi) (h4 : mi ≤ hi) : Own w lo hi (L ++ M) := by
  refine ⟨fun x hx => ?_, ?_⟩
  · rcases List.mem_append.1 hx with hx | hx
    · exact (h.row x hx).bounds (Nat.le_refl _) h4
    · exact (h2.row x hx).bounds h3 (Nat.le_refl _)
  · rw [List.map_append, List.pairwise_append]
    refine ⟨h.sep, h2.sep, fun v hv u hu => ?_⟩
    obtain ⟨x, hx, rfl⟩ := List.mem_map.1 hv
    obtain ⟨y, hy, rfl⟩ := List.mem_map.1 hu
    intro g e1 e2
    have := (h.row x hx).top g e1
    have := ((h2.row y hy).own.lt g e2).1
    omega
theorem Own.grown {w w' : World} {lo hi hi' : Nat} {x y : RowD} {L : List RowD} (h : Own w lo hi (x :: L)) (hg : w.grownBy w' x.val.ownBlock) (hy : Row w' y.e y.size lo hi' y.val y.n y.vs) (hb : ∀ g, y.val.ownBlock = some g → x.val.ownBlock = some g ∨ hi ≤ g) (hh : hi ≤ hi') : Own w' lo hi' (y :: L) := by
  refine Own.cons hy ⟨fun z hz => ⟨((h.row z (List.mem_cons_of_mem _ hz)).own.kept hg ?_), fun g e => Nat.lt_of_lt_of_le ((h.row z (List.mem_cons_of_mem _ hz)).top g e) hh⟩, h.tail.sep⟩ fun z hz g e1 e2 => ?_
  · cases e : z.val.ownBlock with
    | none => exact .inl rfl
    | some g => exact .inr (fun e2 => (h.apart hz) g e2.symm e)
  · rcases hb g e1 with e3 | e3
    · exact h.apart hz g e3 e2
    · have := (h.row z (List.mem_cons_of_mem _ hz)).top g e2
      omega
theorem Own.store {w : World} {lo hi : Nat} {e : TypeId} {size g n cap : Nat} {vs : List Value} {L : List RowD} (h : Own w lo hi (⟨e, size, some ⟨g, 0, none⟩, n, cap, vs⟩ :: L)) (k : Nat) (v : Value) : Own (w.setCell ⟨g, k, none⟩ v) lo hi (⟨e, size, some ⟨g, 0, none⟩, n, cap, vs.set k v⟩ :: L) := by
  have h0 := h.head
  have hs := h0.own.stored k v
  exact h.grown (y := ⟨e, size, some ⟨g, 0, none⟩, n, cap, vs.set k v⟩) hs.2 ⟨hs.1, h0.top⟩ (fun g' e => .inl e) (Nat.le_refl _)
theorem Own.alloc {w : World} {lo hi : Nat} {L : List RowD} (h : Own w lo hi L) (h1 : lo ≤ w.heap.size) (h2 : hi ≤ w.heap.size) (cs : Array Value) (t : TypeId) : Own (w.alloc (.cells cs t)) lo (w.heap.size + 1) (⟨t, cs.size, some ⟨w.heap.size, 0, none⟩, 1, 1, cs.toList⟩ :: L) := by
  have ho := World.ownsRow_lit (base := lo) (e := t) (size := cs.size) w cs 1 h1 (by decide) (by simp)
  refine Own.cons ⟨ho, fun g e => ?_⟩ ((h.below (below1 w _)).bounds (Nat.le_refl _) (by omega)) fun y hy g e1 e2 => ?_
  · cases e; exact Nat.lt_succ_self _
  · cases e1
    have h3 : w.heap.size < hi := (h.row y hy).top _ e2
    omega
theorem Own.fresh {w w' : World} {lo hi hi' : Nat} {L M : List RowD} (h : Own w lo hi L) (h1 : lo ≤ w.heap.size) (h2 : hi ≤ w.heap.size) (hb : Below w.heap.size w w') (hm : Own w' w.heap.size hi' M) (h3 : w.heap.size ≤ hi') : Own w' lo hi' (L ++ M) :=
  Own.append ((h.below hb).bounds (Nat.le_refl _) h2) hm h1 h3
theorem Own.cell {w : World} {lo hi : Nat} {e : TypeId} {size g o n cap : Nat} {vs : List Value} {L : List RowD} (h : Own w lo hi L) (hm : ⟨e, size, some ⟨g, o, none⟩, n, cap, vs⟩ ∈ L) :
    o = 0 ∧ (lo ≤ g ∧ g < hi ∧ g < w.heap.size) ∧ (∀ k, k < vs.length → w.cell? ⟨g, k, none⟩ = vs[k]?) ∧ (∀ k, w.frozen? ⟨g, k, none⟩ = false) := by
  have h0 := h.row _ hm
  have h00 := h0.own
  have hl := h00.1
  have h1 : o = 0 := by
    rcases h0.own.2 with ⟨e1, _⟩ | ⟨g', cap', cur, e1, _⟩
    · cases e1
    · cases e1; rfl
  subst h1
  exact ⟨rfl, ⟨(h0.own.lt g rfl).1, h0.top g rfl, (h0.own.lt g rfl).2⟩, fun k hk => h0.own.cellAt k (by have hl2 : vs.length = n * size := hl; show k < n * size; omega), fun k => h0.own.frozenAt k⟩
theorem Own.setAt {w w' : World} {lo hi : Nat} {x y : RowD} {A B : List RowD} (h : Own w lo hi (A ++ x :: B)) (hg : w.grownBy w' x.val.ownBlock) (hy : Row w' y.e y.size lo hi y.val y.n y.vs) (hv : y.val = x.val) : Own w' lo hi (A ++ y :: B) := by
  have p : (A ++ x :: B).Perm (x :: (A ++ B)) := List.perm_middle
  have q : (A ++ y :: B).Perm (y :: (A ++ B)) := List.perm_middle
  exact ((h.perm p).grown hg hy (fun g e => .inl (by rw [← hv]; exact e)) (Nat.le_refl _)).perm q.symm
structure SeeRow (w : World) (x : RowD) : Prop where
  le : x.n ≤ x.cap
  cap : x.cap ≤ maxLen
  len : x.vs.length = x.n * x.size
  rd : Rd w x.ad x.vs
theorem SeeRow.below {w w' : World} {x : RowD} (h : SeeRow w x) (hb : Below w.heap.size w w') : SeeRow w' x := ⟨h.le, h.cap, h.len, h.rd.below hb (Nat.le_refl _)⟩
theorem Row.seeRow {w : World} {lo hi : Nat} {x : RowD} (h : Row w x.e x.size lo hi x.val x.n x.vs) : SeeRow w x := by
  obtain ⟨ad, cap, e1, e2, e3, e4, _⟩ := Rd.of_owns h.own
  unfold RowD.val at e1
  cases e1
  exact ⟨e2, e3, h.own.1, e4⟩
structure RecT (α : Type) where
  e : TypeId
  size : Nat
  cells : α → List Value
  inn : α → List RowD
  ok : α → Prop
  len : ∀ a, (cells a).length = size
structure OwnR {α : Type} (R : RecT α) (w : World) (lo hi : Nat) (ad : Option Addr) (n cap : Nat) (us : List α) : Prop where
  own : Own w lo hi (⟨R.e, R.size, ad, n, cap, us.flatMap R.cells⟩ :: us.flatMap R.inn)
  len : us.length = n
  ok : ∀ a ∈ us, R.ok a
structure SeeR {α : Type} (R : RecT α) (w : World) (ad : Option Addr) (cap : Nat) (us : List α) : Prop where
  le : us.length ≤ cap
  cap : cap ≤ maxLen
  rd : Rd w ad (us.flatMap R.cells)
  inn : ∀ a ∈ us, ∀ x ∈ R.inn a, SeeRow w x
  ok : ∀ a ∈ us, R.ok a
section
variable {α : Type} {R : RecT α} {w w' : World} {lo hi : Nat} {ad : Option Addr} {n cap : Nat} {us : List α}
theorem SeeR.below (h : SeeR R w ad cap us) (hb : Below w.heap.size w w') : SeeR R w' ad cap us := ⟨h.le, h.cap, h.rd.below hb (Nat.le_refl _), fun a ha x hx => (h.inn a ha x hx).below hb, h.ok⟩
theorem OwnR.below (h : OwnR R w lo hi ad n cap us) (hb : Below w.heap.size w w') : OwnR R w' lo hi ad n cap us := ⟨h.own.below hb, h.len, h.ok⟩
theorem OwnR.touch {lo2 hi2 : Nat} (h : OwnR R w lo hi ad n cap us) (ht : Touch lo2 hi2 w w') (hd : hi ≤ lo2 ∨ hi2 ≤ lo) : OwnR R w' lo hi ad n cap us := ⟨h.own.touch ht hd, h.len, h.ok⟩
theorem OwnR.bounds {lo' hi' : Nat} (h : OwnR R w lo hi ad n cap us) (h1 : lo' ≤ lo) (h2 : hi ≤ hi') : OwnR R w lo' hi' ad n cap us := ⟨h.own.bounds h1 h2, h.len, h.ok⟩
theorem OwnR.see (h : OwnR R w lo hi ad n cap us) : SeeR R w ad cap us := by
  have h0 := h.own.head.seeRow
  exact ⟨by rw [h.len]; exact h0.le, h0.cap, h0.rd, fun a ha x hx => (h.own.tail.row x (List.mem_flatMap.2 ⟨a, ha, hx⟩)).seeRow, h.ok⟩
theorem flat_len (R : RecT α) (us : List α) : (us.flatMap R.cells).length = us.length * R.size := by
  induction us with
  | nil => simp
  | cons a us ih => rw [List.flatMap_cons, List.length_append, ih, R.len, List.length_cons, Nat.succ_mul, Nat.add_comm]
theorem flat_at (R : RecT α) (us : List α) {k j : Nat} {a : α} (hk : us[k]? = some a) (hj : j < R.size) : (us.flatMap R.cells)[k * R.size + j]? = (R.cells a)[j]? := by
  induction us generalizing k with
  | nil => simp at hk
  | cons x xs ih =>
    rw [List.flatMap_cons]
    cases k with
    | zero =>
      simp at hk; subst hk
      rw [Nat.zero_mul, Nat.zero_add, List.getElem?_append_left (by rw [R.len]; exact hj)]
    | succ k =>
      simp at hk
      rw [List.getElem?_append_right (by rw [R.len, Nat.succ_mul]; omega), R.len, ← ih hk]
      congr 1
      rw [Nat.succ_mul]; omega
theorem SeeR.spot (h : SeeR R w ad cap us) {k : Nat} {a : α} (hk : us[k]? = some a) (hs : 0 < R.size) : ∃ b off, ad = some ⟨b, off, none⟩ ∧ b < w.heap.size ∧ ∀ j, j < R.size → w.cell? ⟨b, off + k * R.size + j, none⟩ = (R.cells a)[j]? := by
  have hkl : k < us.length := (List.getElem?_eq_some_iff.1 hk).1
  have hl : ∀ j, j < R.size → k * R.size + j < (us.flatMap R.cells).length := by
    intro j hj
    rw [flat_len]
    have : (k + 1) * R.size ≤ us.length * R.size := Nat.mul_le_mul_right _ hkl
    rw [Nat.succ_mul] at this; omega
  obtain ⟨b, off, e, hb, hc⟩ := h.rd.spot (i := k * R.size + 0) (hl 0 hs)
  exact ⟨b, off, e, hb, fun j hj => by rw [Nat.add_assoc, hc _ (hl j hj), flat_at R us hk hj]⟩
theorem OwnR.spot (h : OwnR R w lo hi ad n cap us) {k : Nat} {a : α} (hk : us[k]? = some a) (hs : 0 < R.size) : ∃ g, ad = some ⟨g, 0, none⟩ ∧ (lo ≤ g ∧ g < hi ∧ g < w.heap.size) ∧ (∀ j, j < R.size → w.cell? ⟨g, k * R.size + j, none⟩ = (R.cells a)[j]?) ∧ ∀ j, w.frozen? ⟨g, j, none⟩ = false := by
  obtain ⟨b, off, e, hb, hc⟩ := h.see.spot hk hs
  subst e
  obtain ⟨rfl, hr, _, hf⟩ := h.own.cell (List.mem_cons_self ..)
  exact ⟨b, rfl, hr, fun j hj => by rw [← hc j hj, Nat.zero_add], hf⟩
def setL : List Value → Nat → List Value → List Value
  | vs, _, [] => vs
  | vs, i, c :: cs => setL (vs.set i c) (i + 1) cs
theorem setL_right (xs ys : List Value) (i : Nat) (cs : List Value) : setL (xs ++ ys) (xs.length + i) cs = xs ++ setL ys i cs := by
  induction cs generalizing ys i with
  | nil => rfl
  | cons c cs ih =>
    show setL ((xs ++ ys).set (xs.length + i) c) (xs.length + i + 1) cs = xs ++ setL (ys.set i c) (i + 1) cs
    rw [List.set_append, if_neg (by omega), Nat.add_sub_cancel_left, Nat.add_assoc]
    exact ih (ys.set i c) (i + 1)
theorem setL_left (xs ys cs : List Value) (h : xs.length = cs.length) : setL (xs ++ ys) 0 cs = cs ++ ys := by
  have key : ∀ (pre xs cs : List Value), xs.length = cs.length → setL (pre ++ xs ++ ys) pre.length cs = pre ++ cs ++ ys := by
    intro pre xs cs
    induction cs generalizing pre xs with
    | nil => intro h; cases xs with
      | nil => rfl
      | cons x xs => simp at h
    | cons c cs ih =>
      intro h
      cases xs with
      | nil => simp at h
      | cons x xs =>
        have h2 := ih (pre ++ [c]) xs (by simpa using h)
        show setL ((pre ++ x :: xs ++ ys).set pre.length c) (pre.length + 1) cs = pre ++ c :: cs ++ ys
        rw [List.append_assoc, List.set_append, if_neg (by omega), Nat.sub_self, List.cons_append, List.set_cons_zero]
        simpa [List.append_assoc] using h2
  simpa using key [] xs cs h
theorem flat_set (R : RecT α) (us : List α) {k : Nat} (hk : k < us.length) (a : α) : setL (us.flatMap R.cells) (k * R.size) (R.cells a) = (us.set k a).flatMap R.cells := by
  induction us generalizing k with
  | nil => simp at hk
  | cons x xs ih =>
    cases k with
    | zero =>
      rw [Nat.zero_mul, List.flatMap_cons, List.set_cons_zero, List.flatMap_cons]
      exact setL_left _ _ _ (by rw [R.len, R.len])
    | succ k =>
      rw [List.flatMap_cons, List.set_cons_succ, List.flatMap_cons, ← ih (by simpa using hk), ← setL_right, R.len, Nat.succ_mul, Nat.add_comm]
theorem OwnR.setNew {w1 w2 : World} {hi1 : Nat} (h : OwnR R w lo w.heap.size ad n cap us) (hlo : lo ≤ w.heap.size) (hb : Below w.heap.size w w1) {k : Nat} (hk : k < n) {a : α} (ha : R.ok a) (hn : Own w1 w.heap.size hi1 (R.inn a)) (hi1s : w.heap.size ≤ hi1)
    (hst : ∀ M, Own w1 lo hi1 (⟨R.e, R.size, ad, n, cap, us.flatMap R.cells⟩ :: M) → Own w2 lo hi1 (⟨R.e, R.size, ad, n, cap, setL (us.flatMap R.cells) (k * R.size) (R.cells a)⟩ :: M)) : OwnR R w2 lo hi1 ad n cap (us.set k a) := by
  have hkl : k < us.length := by rw [h.len]; exact hk
  refine ⟨?_, by rw [List.length_set]; exact h.len, fun b hb => ?_⟩
  · have h1 := Own.fresh h.own hlo (Nat.le_refl _) hb hn hi1s
    rw [List.cons_append] at h1
    have h2 := hst _ h1
    rw [flat_set R us hkl] at h2
    have e1 : us.flatMap R.inn = (us.take k).flatMap R.inn ++ (R.inn us[k] ++ (us.drop (k + 1)).flatMap R.inn) := by
      rw [← List.flatMap_cons, List.getElem_cons_drop, ← List.flatMap_append, List.take_append_drop]
    have e2 : (us.set k a).flatMap R.inn = (us.take k).flatMap R.inn ++ (R.inn a ++ (us.drop (k + 1)).flatMap R.inn) := by
      rw [List.set_eq_take_append_cons_drop, if_pos hkl, List.flatMap_append, List.flatMap_cons]
    rw [e1] at h2
    rw [e2]
    have h3 := h2.sub (M := ⟨R.e, R.size, ad, n, cap, (us.set k a).flatMap R.cells⟩ :: (((us.take k).flatMap R.inn ++ (us.drop (k + 1)).flatMap R.inn) ++ R.inn a)) (List.Sublist.cons_cons _ (List.Sublist.append (List.Sublist.append (List.Sublist.refl _) (List.sublist_append_right _ _)) (List.Sublist.refl _)))
    refine h3.perm (List.Perm.cons _ ?_)
    rw [List.append_assoc]
    exact List.Perm.append_left _ List.perm_append_comm
  · rcases List.mem_or_eq_of_mem_set hb with hb | rfl
    · exact h.ok b hb
    · exact ha
theorem OwnR.snoc {w1 w2 : World} {hi1 : Nat} {v' : Value} {a : α} {o : Obj} (h : OwnR R w lo w.heap.size ad n cap us) (hlo : lo ≤ w.heap.size) (hb : Below w.heap.size w w1) (ha : R.ok a) (hn : Own w1 w.heap.size hi1 (R.inn a)) (hi1s : hi1 ≤ w1.heap.size) (hi0 : w.heap.size ≤ hi1)
    (ho : w2.ownsRow lo R.e R.size v' (n + 1) (us.flatMap R.cells ++ R.cells a)) (hg : (w1.alloc o).grownBy w2 (Value.slice ad n cap).ownBlock) (hat : v'.ownBlock = (Value.slice ad n cap).ownBlock ∨ v'.ownBlock = some (w1.heap.size + 1)) :
    ∃ ad' cap', v' = .slice ad' (n + 1) cap' ∧ OwnR R w2 lo w2.heap.size ad' (n + 1) cap' (us ++ [a]) := by
  obtain ⟨ad', cap', rfl, _⟩ := Rd.of_owns ho
  refine ⟨ad', cap', rfl, ?_, by rw [List.length_append, h.len]; rfl, fun b hb => ?_⟩
  · have h1 := Own.fresh h.own hlo (Nat.le_refl _) hb hn hi0
    rw [List.cons_append] at h1
    have h2 : Own (w1.alloc o) lo hi1 _ := h1.below (below1 w1 o)
    have hs := hg.size
    have h3 := h2.grown (w' := w2) (hi' := w2.heap.size) (y := ⟨R.e, R.size, ad', n + 1, cap', (us ++ [a]).flatMap R.cells⟩) hg (by
      refine Row.mk' ?_
      rw [List.flatMap_append, List.flatMap_singleton]
      exact ho) (fun g e => ?_) (by simp at hs; omega)
    · have e : (us ++ [a]).flatMap R.inn = us.flatMap R.inn ++ R.inn a := by rw [List.flatMap_append, List.flatMap_singleton]
      rw [e]
      exact h3
    · rcases hat with e1 | e1
      · exact .inl (e1.symm.trans e)
      · right
        have e2 : some g = some (w1.heap.size + 1) := e.symm.trans e1
        cases e2
        omega
  · rcases List.mem_append.1 hb with hb | hb
    · exact h.ok b hb
    · simp at hb; subst hb; exact ha
def RowD.void (x : RowD) : Prop := x.ad = none ∧ x.n = 0 ∧ x.cap = 0 ∧ x.vs = []
theorem Own.voids {L : List RowD} (w : World) (lo hi : Nat) (h : ∀ x ∈ L, x.void) : Own w lo hi L := by
  induction L with
  | nil => exact Own.nil _ _ _
  | cons x L ih =>
    obtain ⟨e1, e2, e3, e4⟩ := h x (List.mem_cons_self ..)
    have ev : x.val = .slice none 0 0 := by unfold RowD.val; rw [e1, e2, e3]
    refine Own.cons ⟨?_, fun g e => by rw [ev] at e; cases e⟩ (ih fun y hy => h y (List.mem_cons_of_mem _ hy)) fun y hy g e => by rw [ev] at e; cases e
    rw [ev, e2, e4]
    exact ⟨by simp, .inl ⟨rfl, rfl⟩⟩
theorem OwnR.made {w1 : World} {cs : List Value} {z : α} (h : w1.ownsRow w.heap.size R.e R.size (.slice (some ⟨w.heap.size, 0, none⟩) n n) n cs) (hc : cs = (List.replicate n z).flatMap R.cells) (hz : ∀ x ∈ R.inn z, x.void) (ho : R.ok z) :
    OwnR R w1 w.heap.size w1.heap.size (some ⟨w.heap.size, 0, none⟩) n n (List.replicate n z) := by
  refine ⟨?_, by simp, fun a ha => by rw [List.eq_of_mem_replicate ha]; exact ho⟩
  rw [← hc]
  have hv : ∀ x ∈ (List.replicate n z).flatMap R.inn, x.void := by
    intro x hx
    obtain ⟨a, ha, hx⟩ := List.mem_flatMap.1 hx
    rw [List.eq_of_mem_replicate ha] at hx
    exact hz x hx
  refine Own.cons (Row.mk' h) (Own.voids _ _ _ hv) fun y hy g e1 e2 => ?_
  obtain ⟨e3, _⟩ := hv y hy
  unfold RowD.val at e2
  rw [e3] at e2
  cases e2
end
end Go.Proofs.YtpadlmidojpbeaaGreat
/- x -/
namespace Go.Proofs.YtpadlmidojpbeaaGreat
open Go Go.RowKit Ieee

end Go.Proofs.YtpadlmidojpbeaaGreat
/- x -/
namespace Go.Proofs.YtpadlmidojpbeaaGreat
open Go Go.RowKit Ieee
theorem and_16 (N a : Nat) (hN : 16 ≤ N) (ha : a < 2 ^ N) : a &&& (2 ^ N - (65535 + 1)) = a / 65536 * 65536 := by
  have h0 : 65535 < 2 ^ N := Nat.lt_of_lt_of_le (by decide : 65535 < 2 ^ 16) (Nat.pow_le_pow_right (by decide) hN)
  have e : a / 65536 * 65536 = (a >>> 16) <<< 16 := by rw [Nat.shiftLeft_eq, Nat.shiftRight_eq_div_pow]
  rw [e]
  apply Nat.eq_of_testBit_eq
  intro i
  rw [Nat.testBit_and, Nat.testBit_two_pow_sub_succ h0, Nat.testBit_shiftLeft, Nat.testBit_shiftRight, show 65535 = 2 ^ 16 - 1 by decide, Nat.testBit_two_pow_sub_one]
  by_cases h : i < N
  · by_cases h16 : i < 16
    · have : ¬ (i ≥ 16) := by omega
      simp [h, h16, this]
    · have h2 : i ≥ 16 := by omega
      simp [h, h16, h2, show 16 + (i - 16) = i by omega]
  · have h1 : a.testBit i = false := Nat.testBit_lt_two_pow (Nat.lt_of_lt_of_le ha (Nat.pow_le_pow_right (by decide) (by omega)))
    by_cases h2 : i ≥ 16
    · simp [h1, h2, show 16 + (i - 16) = i by omega]
    · simp [h1, h2]
theorem andNot_u32 (a : Nat) (ha : a < 4294967296) : bits .andNot .u32 (a : Int) 65535 = ((a / 65536 * 65536 : Nat) : Int) := by
  have := u32_andNot_nat a 65535 ha (by decide)
  rw [show ((65535 : Nat) : Int) = 65535 from rfl] at this
  rw [this, show 4294967295 - 65535 = 2 ^ 32 - (65535 + 1) by decide, and_16 32 a (by decide) (by omega)]
theorem andNot_i64 (a : Nat) (ha : a < 4611686018427387904) : bits .andNot .i64 (a : Int) 65535 = ((a / 65536 * 65536 : Nat) : Int) := by
  show IntKind.i64.wrap ((BitVec.ofInt 64 (a : Int) &&& ~~~BitVec.ofInt 64 65535).toNat : Int) = _
  have h1 : (BitVec.ofInt 64 65535).toNat = 65535 := by decide
  have h2 : (BitVec.ofInt 64 (a : Int)).toNat = a := by
    rw [BitVec.toNat_ofInt]; omega
  rw [BitVec.toNat_and, BitVec.toNat_not, h1, h2, show 2 ^ 64 - 1 - 65535 = 2 ^ 64 - (65535 + 1) by decide, and_16 64 a (by decide) (by omega)]
  exact wrap_small _ (by omega) (by omega)
def bfW (x : Nat) : Nat := (x + (32767 + x / 65536 % 2)) / 65536 * 65536
def bfE (c : Nat) : Nat := if isN .f32 c = true then nanOf .f32 else cn .f32 (bfW c)
theorem not_nan_bd {x : Nat} (hx : x < 4294967296) (h : isN .f32 x = false) : x ≤ 4286578688 := by
  obtain ⟨s, r, rfl, hr⟩ := word_of single (x := x) (by rw [s_sw]; omega)
  have hle : r ≤ single.infRung := by
    rcases Nat.lt_or_ge single.infRung r with h1 | h1
    · have h2 : isN .f32 (single.word s r) = true := nan_word single single_binade s h1 hr
      rw [h] at h2; cases h2
    · exact h1
  rw [s_ir] at hle
  unfold Format.word
  rw [s_sw]
  split <;> omega
theorem bfW_lt {x : Nat} (hx : x ≤ 4286578688) : bfW x < 4294967296 ∧ x + (32767 + x / 65536 % 2) < 4294967296 := by
  unfold bfW
  omega
theorem bfW_inf {x : Nat} (h : x = 2139095040 ∨ x = 4286578688) : bfW x = x := by rcases h with h | h <;> subst h <;> decide
theorem not_fin {x : Nat} (hx : x < 4294967296) (h : finB x = false) (hn : isN .f32 x = false) : x = 2139095040 ∨ x = 4286578688 := by
  obtain ⟨s, r, rfl, hr⟩ := word_of single (x := x) (by rw [s_sw]; omega)
  have hle : r = single.infRung := by
    rcases Nat.lt_trichotomy single.infRung r with h1 | h1 | h1
    · have h2 : isN .f32 (single.word s r) = true := nan_word single single_binade s h1 hr
      rw [hn] at h2; cases h2
    · exact h1.symm
    · obtain ⟨m, p, e, _⟩ := read_fin single s h1
      unfold finB at h
      rw [e] at h; cases h
  subst hle
  cases s
  · left; exact s_ir
  · right; unfold Format.word; rw [s_sw, s_ir]; rfl
theorem and1_u32 (a : Nat) (ha : a < 4294967296) : bits .and .u32 (a : Int) 1 = ((a % 2 : Nat) : Int) := by
  have := u32_and_nat a 1 ha (by decide)
  rw [show ((1 : Nat) : Int) = 1 from rfl] at this
  rw [this, Nat.and_one_is_mod]
theorem and1_i64 (a : Nat) (ha : a < 4294967296) : bits .and .i64 (a : Int) 1 = ((a % 2 : Nat) : Int) := by
  show IntKind.i64.wrap ((BitVec.ofInt 64 (a : Int) &&& BitVec.ofInt 64 1).toNat : Int) = _
  have h1 : (BitVec.ofInt 64 1).toNat = 1 := by decide
  have h2 : (BitVec.ofInt 64 (a : Int)).toNat = a := by
    rw [BitVec.toNat_ofInt]; omega
  rw [BitVec.toNat_and, h1, h2, Nat.and_one_is_mod]
  exact wrap_small _ (by omega) (by omega)
theorem bf_u32 {x : Nat} (h : x ≤ 4286578688) : (bits .andNot .u32 (((x : Int) + (32767 + bits .and .u32 ((x : Int) / 65536) 1)) % 4294967296) 65535).toNat = bfW x := by
  have h2 := (bfW_lt h).2
  rw [show (x : Int) / 65536 = ((x / 65536 : Nat) : Int) by omega, and1_u32 _ (by omega), show ((x : Int) + (32767 + ((x / 65536 % 2 : Nat) : Int))) % 4294967296 = ((x + (32767 + x / 65536 % 2) : Nat) : Int) by omega, andNot_u32 _ h2]
  rfl
theorem bf_i64 {x : Nat} (h : x ≤ 4286578688) : bits .andNot .i64 (wrap64 ((x : Int) + wrap64 (32767 + bits .and .i64 ((x : Int) / 65536) 1))) 65535 = ((bfW x : Nat) : Int) := by
  have h2 := (bfW_lt h).2
  rw [show (x : Int) / 65536 = ((x / 65536 : Nat) : Int) by omega, and1_i64 _ (by omega), show wrap64 ((x : Int) + wrap64 (32767 + ((x / 65536 % 2 : Nat) : Int))) = ((x + (32767 + x / 65536 % 2) : Nat) : Int) by unfold wrap64; omega, andNot_i64 _ (by omega)]
  rfl
end Go.Proofs.YtpadlmidojpbeaaGreat
/- x -/
namespace Go.Proofs.YtpadlmidojpbeaaGreat
open Go Go.RowKit
theorem impl_BfloatOf (x : Nat) (hx : x < 4294967296) (w : World) : Calls Tryz.prog 68 #[.float .f32 x] w fun e w' => ∃ r, e = .returned (.float .f32 r) ∧ Hid (cn .f32 r = bfE (cn .f32 x) ∧ r < 4294967296) ∧ Dr w w' := by
  have hd := run_f32bits
  have hd2 := run_f32from
  cases h : isN .f32 x
  · have ho : FloatKind.f32.format.order x x = some .eq := by rw [order_self, h]; rfl
    have HN := Lib.hid h; clear h
    go_enter Tryz.func68, Tryz.ntmps68
    go_wp2
    go_ret
    have hN := HN.out
    have hle := not_nan_bd hx hN
    refine ⟨_, rfl, Lib.hid ?_, Dr.refl _⟩
    rw [bf_u32 hle]
    exact ⟨by unfold bfE; rw [isN_cn, hN, if_neg (by decide), cn_not hN], (bfW_lt hle).1⟩
  · have ho : FloatKind.f32.format.order x x = none := by rw [order_self, h]; rfl
    have HN := Lib.hid h; clear h
    go_enter Tryz.func68, Tryz.ntmps68
    go_wp2_with fail
    refine (impl_noNumber _).mono ?_
    rintro e w3 ⟨y, rfl, hy, q2, rfl⟩
    go_wp2
    go_ret
    exact ⟨_, rfl, Lib.hid ⟨by rw [hy.out.1]; unfold bfE; rw [isN_cn, if_pos HN.out], hy.out.2⟩, _, rfl⟩
theorem spec_l01Bfloat (x : Nat) (hx : x < 4294967296) (w : World) : Calls Tryz.prog 102 #[.float .f32 x] w fun e w' => ∃ r, e = .returned (.float .f32 r) ∧ Hid (cn .f32 r = bfE (cn .f32 x) ∧ r < 4294967296) ∧ Dr w w' := by
  cases hf : finB x
  · go_enter Tryz.func102, Tryz.ntmps102
    go_wp2_with (go_at_call 58; refine (spec_l01Finite _ _).mono ?_; rintro e w' ⟨rfl, ⟨q, rfl⟩⟩)
    go_ret
    refine ⟨_, rfl, Lib.hid ⟨?_, hx⟩, _, rfl⟩
    unfold bfE
    rw [isN_cn]
    cases hN : isN .f32 x
    · rw [if_neg (by decide), cn_not hN, bfW_inf (not_fin hx hf hN), cn_not hN]
    · rw [if_pos rfl, cn_nan hN]
  · have hN := finB_not hf
    have hb := spec_l01Bits x hx
    rw [cn_not hN] at hb
    have HB := Lib.hid hb; clear hb
    have hle := not_nan_bd hx hN
    have h2 := bfW_lt hle
    have HN := Lib.hid hN; clear hN
    go_enter Tryz.func102, Tryz.ntmps102
    go_wp2_with fail
    refine (spec_l01Finite _ _).mono ?_
    rintro e w' ⟨rfl, ⟨q, rfl⟩⟩
    go_wp2_with fail
    refine (HB.out _).mono ?_
    rintro e w' ⟨rfl, rfl⟩
    go_wp2_with fail
    rw [bf_i64 hle]
    refine (spec_l01From _ h2.1 _).mono ?_
    rintro e w' ⟨rfl, rfl⟩
    go_wp2
    go_ret
    exact ⟨_, rfl, Lib.hid ⟨by unfold bfE; rw [isN_cn, HN.out, if_neg (by decide), cn_not HN.out], h2.1⟩, _, rfl⟩
end Go.Proofs.YtpadlmidojpbeaaGreat
/- x -/
namespace Go.Proofs.YtpadlmidojpbeaaGreat
open Go Go.RowKit
theorem zeros_listOf (n : Nat) : (List.replicate n 0).map (cn .f32) = listOf n (fun _ => 0) := by
  apply List.ext_getElem
  · simp [listOf]
  · intro i h1 h2
    simp [listOf, cn_zero]
theorem zeros_own {w : World} {base n : Nat} {e : TypeId} {v : Value} (h : w.ownsRow base e 1 v n (madeCells #[Value.float .f32 0] n).toList) : w.ownsRow base e 1 v n ((List.replicate n 0).map (Value.float .f32)) := by
  rw [toList_madeCells_one] at h
  rwa [List.map_replicate]
theorem zeros_lt (n : Nat) : ∀ x ∈ List.replicate n 0, x < 4294967296 := by
  intro x hx
  rw [(List.mem_replicate.1 hx).2]; decide
theorem zeros_rep {w : World} {n : Nat} {g : Nat} (h : w.ownsRow g 28 1 (.slice (some ⟨g, 0, none⟩) n n) n (madeCells #[Value.float .f32 0] n).toList) : RepF w g w.heap.size (some ⟨g, 0, none⟩) n n (List.replicate n 0) := by
  obtain ⟨a1, c1, e1, hS⟩ := RepF.of_owns (zeros_own h) (zeros_lt n)
  cases e1
  exact hS
end Go.Proofs.YtpadlmidojpbeaaGreat
/- x -/
namespace Go.Proofs.YtpadlmidojpbeaaGreat
open Go Go.RowKit
end Go.Proofs.YtpadlmidojpbeaaGreat
/- x -/
namespace Go.Proofs.YtpadlmidojpbeaaGreat
open Go Go.RowKit
theorem sz_f32s (w : World) (ad : Option Addr) (n cap : Nat) (L : Int) (hn : n ≤ maxLen) (h0 : 0 ≤ L) (h1 : L ≤ 1048576) : Calls Tryz.prog 28 #[.slice ad n cap, .int .i64 L] w fun e w' => e = .returned (.int .i64 (if (n : Int) ≤ L then L - n else -1)) ∧ w = w' := by
  unfold maxLen at hn
  by_cases h : (n : Int) ≤ L
  · rw [if_pos h]
    go_enter Tryz.func28, Tryz.ntmps28
    go_wp2
    go_ret
    exact ⟨rfl, rfl⟩
  · rw [if_neg h]
    go_enter Tryz.func28, Tryz.ntmps28
    go_wp2
    go_ret
    exact ⟨rfl, rfl⟩
end Go.Proofs.YtpadlmidojpbeaaGreat
/- x -/
namespace Go.Proofs.YtpadlmidojpbeaaGreat
open Go Go.RowKit Go.ChangeShapes Go.WideShapes
def floatRow (ad : Option Addr) (cap : Nat) (xs : List Nat) : RowD := ⟨28, 1, ad, xs.length, cap, xs.map (Value.float .f32)⟩
def okF (xs : List Nat) : Prop := ∀ x ∈ xs, x < 4294967296
theorem SeeRow.f32s {w : World} {ad : Option Addr} {cap : Nat} {xs : List Nat} (h : SeeRow w (floatRow ad cap xs)) (ho : okF xs) : F32s w ad cap xs := ⟨h.le, h.cap, h.rd, ho⟩
theorem F32s.seeRow {w : World} {ad : Option Addr} {cap : Nat} {xs : List Nat} (h : F32s w ad cap xs) : SeeRow w (floatRow ad cap xs) := ⟨h.len, h.cap, by simp [floatRow], h.rd⟩
theorem RepF.ownRow {w : World} {lo hi : Nat} {ad : Option Addr} {n cap : Nat} {xs : List Nat} (h : RepF w lo hi ad n cap xs) : Own w lo hi [floatRow ad cap xs] := by
  have hl := h.len
  subst hl
  exact Own.one h.row
theorem RepF.okF {w : World} {lo hi : Nat} {ad : Option Addr} {n cap : Nat} {xs : List Nat} (h : RepF w lo hi ad n cap xs) : okF xs := h.lt
theorem Own.repF {w : World} {lo hi : Nat} {ad : Option Addr} {cap : Nat} {xs : List Nat} {L : List RowD} (h : Own w lo hi L) (hm : floatRow ad cap xs ∈ L) (ho : okF xs) : RepF w lo hi ad xs.length cap xs := ⟨h.row _ hm, rfl, ho⟩
structure TenP where
  r : Int
  c : Int
  xs : List Nat
structure Ten extends TenP where
  ad : Option Addr
  cap : Nat
def TenP.can (t : TenP) : TenP := ⟨t.r, t.c, t.xs.map (cn .f32)⟩
def Ten.cells (t : Ten) : List Value := [.int .i64 t.r, .int .i64 t.c, .slice t.ad t.xs.length t.cap]
def tenR : RecT Ten := ⟨37, 3, Ten.cells, fun t => [floatRow t.ad t.cap t.xs], fun t => okF t.xs, fun _ => rfl⟩
structure OpP where
  k : Int
  a : Int
  b : Int
  num : Nat
  r : Int
  c : Int
  xs : List Nat
structure OpD extends OpP where
  ad : Option Addr
  cap : Nat
def OpP.can (o : OpP) : OpP := ⟨o.k, o.a, o.b, cn .f32 o.num, o.r, o.c, o.xs.map (cn .f32)⟩
def OpD.cells (o : OpD) : List Value := [.int .i64 o.k, .int .i64 o.a, .int .i64 o.b, .float .f32 o.num, .int .i64 o.r, .int .i64 o.c, .slice o.ad o.xs.length o.cap]
def OpD.val (o : OpD) : Value := .agg #[.int .i64 o.k, .int .i64 o.a, .int .i64 o.b, .float .f32 o.num, .int .i64 o.r, .int .i64 o.c, .slice o.ad o.xs.length o.cap]
def OpD.ok (o : OpD) : Prop := okF o.xs ∧ o.num < 4294967296 ∧ (Lit.int .i64 o.k).wf = true ∧ (Lit.int .i64 o.a).wf = true ∧ (Lit.int .i64 o.b).wf = true ∧ (Lit.int .i64 o.r).wf = true ∧ (Lit.int .i64 o.c).wf = true
def opR : RecT OpD := ⟨74, 7, OpD.cells, fun o => [floatRow o.ad o.cap o.xs], OpD.ok, fun _ => rfl⟩
theorem op_spot {w : World} {ad : Option Addr} {cap : Nat} {os : List OpD} (h : SeeR opR w ad cap os) {k : Nat} {o : OpD} (hk : os[k]? = some o) : ∃ b off, ad = some ⟨b, off, none⟩ ∧ b < w.heap.size ∧
    (w.cell? ⟨b, off + k * 7, none⟩ = some (.int .i64 o.k) ∧ w.cell? ⟨b, off + k * 7 + 1, none⟩ = some (.int .i64 o.a) ∧ w.cell? ⟨b, off + k * 7 + 2, none⟩ = some (.int .i64 o.b) ∧ w.cell? ⟨b, off + k * 7 + 3, none⟩ = some (.float .f32 o.num) ∧ w.cell? ⟨b, off + k * 7 + 4, none⟩ = some (.int .i64 o.r) ∧ w.cell? ⟨b, off + k * 7 + 5, none⟩ = some (.int .i64 o.c) ∧ w.cell? ⟨b, off + k * 7 + 6, none⟩ = some (.slice o.ad o.xs.length o.cap)) ∧
    F32s w o.ad o.cap o.xs ∧ o.ok := by
  obtain ⟨b, off, e, hb, hc⟩ := h.spot hk (by decide)
  have hm := List.mem_of_getElem? hk
  exact ⟨b, off, e, hb, ⟨hc 0 (by decide), hc 1 (by decide), hc 2 (by decide), hc 3 (by decide), hc 4 (by decide), hc 5 (by decide), hc 6 (by decide)⟩, (h.inn o hm _ (List.mem_singleton.2 rfl)).f32s (h.ok o hm).1, h.ok o hm⟩
section
variable {H : Type} {enc : TypeId × Value → H} {w : World} {base : Nat} {spare : Nat → Bool} {held : Bool}
theorem dec_Tensor {n : Nat} {cs : List Value} {y : DataW H × List MemPlace} (h : DataW.trod enc Tryz.prog w base spare held n 27 cs = some y) :
    ∃ (r c : Int) (ad : Option Addr) (cap : Nat) (xs : List Nat), cs = [.int .i64 r, .int .i64 c, .slice ad xs.length cap] ∧ (Lit.int .i64 r).wf = true ∧ (Lit.int .i64 c).wf = true ∧ F32s w ad cap xs := by
  have c0 : Tryz.prog.cellsOf 27 = 3 := by kernel_rfl
  have c1 : Tryz.prog.cellsOf 2 = 1 := by kernel_rfl
  have c2 : Tryz.prog.cellsOf 25 = 1 := by kernel_rfl
  obtain ⟨n, hl, hp⟩ := trod_parts Tryz.underlying27 h
  rw [c0] at hl
  obtain ⟨x0, x1, x2, rfl⟩ := list3 hl
  obtain ⟨y0, h0⟩ := hp 0 2 0 1 _ rfl rfl rfl c1
  obtain ⟨y1, h1⟩ := hp 1 2 1 1 _ rfl rfl rfl c1
  obtain ⟨y2, h2⟩ := hp 2 25 2 1 _ rfl rfl rfl c2
  simp only [List.drop_succ_cons, List.drop_zero, List.take_succ_cons, List.take_zero] at h0 h1 h2
  obtain ⟨r, e0, _, w0⟩ := DataW.trod_int Tryz.underlying2 h0
  obtain ⟨g, e1, _, w1⟩ := DataW.trod_int Tryz.underlying2 h1
  obtain ⟨ad, cap, xs, e2, w2⟩ := dec_f32s Tryz.underlying25 Tryz.underlying28 h2
  simp only [List.cons.injEq, and_true] at e0 e1 e2
  subst e0 e1 e2
  exact ⟨r, g, ad, cap, xs, rfl, w0, w1, w2⟩
end
end Go.Proofs.YtpadlmidojpbeaaGreat
/- x -/
namespace Go.Proofs.YtpadlmidojpbeaaGreat
open Go Go.RowKit
theorem touch_keep3 {w w' : World} {lo hi c : Nat} (ht : Touch lo hi w w') (hc : c < w.heap.size) (hd : c < lo ∨ hi ≤ c) (o : Nat) : w'.cell? ⟨c, o, none⟩ = w.cell? ⟨c, o, none⟩ ∧ w'.frozen? ⟨c, o, none⟩ = w.frozen? ⟨c, o, none⟩ :=
  ⟨World.cell?_of_block (w := w) (ht.block c hc hd), by unfold World.frozen?; rw [ht.block c hc hd]⟩
structure Box3 (w : World) (c : Nat) (a b d : Value) : Prop where
  lt : c < w.heap.size
  c0 : w.cell? ⟨c, 0, none⟩ = some a
  c1 : w.cell? ⟨c, 1, none⟩ = some b
  c2 : w.cell? ⟨c, 2, none⟩ = some d
  fz : ∀ o, w.frozen? ⟨c, o, none⟩ = false
theorem Box3.alloc (w : World) (a b d : Value) (t : TypeId) : Box3 (w.alloc (.cells #[a, b, d] t)) w.heap.size a b d :=
  ⟨by simp, by rw [World.cell?_alloc_at _ _ _ _ rfl]; rfl, by rw [World.cell?_alloc_at _ _ _ _ rfl]; rfl, by rw [World.cell?_alloc_at _ _ _ _ rfl]; rfl, fun o => World.frozen?_alloc_at _ _ _ _ rfl⟩
theorem Box3.alloc2 (w : World) (o : Obj) (a b d : Value) (t : TypeId) : Box3 ((w.alloc o).alloc (.cells #[a, b, d] t)) (w.heap.size + 1) a b d := by
  have h := Box3.alloc (w.alloc o) a b d t
  rwa [show (w.alloc o).heap.size = w.heap.size + 1 by simp] at h
theorem Box3.touch {w w' : World} {c lo hi : Nat} {a b d : Value} (h : Box3 w c a b d) (ht : Touch lo hi w w') (hd : c < lo ∨ hi ≤ c) : Box3 w' c a b d :=
  ⟨Nat.lt_of_lt_of_le h.lt ht.size, (touch_keep3 ht h.lt hd 0).1.trans h.c0, (touch_keep3 ht h.lt hd 1).1.trans h.c1, (touch_keep3 ht h.lt hd 2).1.trans h.c2, fun o => (touch_keep3 ht h.lt hd o).2.trans (h.fz o)⟩
theorem Box3.below {w w' : World} {c : Nat} {a b d : Value} (h : Box3 w c a b d) (hb : Below w.heap.size w w') : Box3 w' c a b d := h.touch (lo := w'.heap.size) (hi := w'.heap.size) (Touch.of_below hb) (.inl (Nat.lt_of_lt_of_le h.lt hb.size))
theorem set_at3 {w : World} {c i j : Nat} {u v : Value} (h : w.cell? ⟨c, j, none⟩ = some u) : (w.setCell ⟨c, i, none⟩ v).cell? ⟨c, j, none⟩ = some (if i = j then v else u) := by
  by_cases e : i = j
  · subst e; rw [if_pos rfl]; exact World.cell?_setCell_same' _ _ _ (by rw [h]; rfl)
  · rw [if_neg e, World.cell?_setCell_other w ⟨c, i, none⟩ ⟨c, j, none⟩ v (by intro h; cases h; exact e rfl)]; exact h
theorem Box3.set {w : World} {c : Nat} {a b d : Value} (h : Box3 w c a b d) (i : Nat) (v : Value) : Box3 (w.setCell ⟨c, i, none⟩ v) c (if i = 0 then v else a) (if i = 1 then v else b) (if i = 2 then v else d) :=
  ⟨by simpa [World.setCell] using h.lt, set_at3 h.c0, set_at3 h.c1, set_at3 h.c2, fun o => by rw [World.frozen?_setCell]; exact h.fz o⟩
theorem Box3.far {w : World} {c : Nat} {a b d : Value} (h : Box3 w c a b d) (c' i : Nat) (v : Value) (hc : c' ≠ c) : Box3 (w.setCell ⟨c', i, none⟩ v) c a b d := by
  have hk : ∀ j, (w.setCell ⟨c', i, none⟩ v).cell? ⟨c, j, none⟩ = w.cell? ⟨c, j, none⟩ := fun j => World.cell?_setCell_other w ⟨c', i, none⟩ ⟨c, j, none⟩ v (by intro h; cases h; exact hc rfl)
  exact ⟨by simpa [World.setCell] using h.lt, (hk 0).trans h.c0, (hk 1).trans h.c1, (hk 2).trans h.c2, fun o => by rw [World.frozen?_setCell]; exact h.fz o⟩
theorem F32s.cut3 {w : World} {g off cap : Nat} {xs : List Nat} (h : F32s w (some ⟨g, off, none⟩) cap xs) (m : Nat) (hm : m ≤ xs.length) : F32s w (some ⟨g, off, none⟩) cap (xs.take m) ∧ F32s w (some ⟨g, off + m, none⟩) (cap - m) (xs.drop m) := by
  have h1 := h.len; have h2 := h.cap
  refine ⟨⟨by simp; omega, h2, ?_, fun x hx => h.lt x (List.mem_of_mem_take hx)⟩, ⟨by simp; omega, by omega, ?_, fun x hx => h.lt x (List.mem_of_mem_drop hx)⟩⟩
  · rcases h.rd with h3 | ⟨b, o, e, hb, hc⟩
    · left; rw [List.map_take, h3]; simp
    · right
      refine ⟨b, o, e, hb, fun j hj => ?_⟩
      simp only [List.length_map, List.length_take] at hj
      rw [hc j (by simp; omega), List.map_take, List.getElem?_take, if_pos (by omega)]
  · rcases h.rd with h3 | ⟨b, o, e, hb, hc⟩
    · left; rw [List.map_drop, h3]; simp
    · right
      cases e
      refine ⟨g, off + m, rfl, hb, fun j hj => ?_⟩
      simp only [List.length_map, List.length_drop] at hj
      rw [Nat.add_assoc, hc (m + j) (by simp; omega), List.map_drop, List.getElem?_drop]
end Go.Proofs.YtpadlmidojpbeaaGreat
/- x -/
namespace Go.Proofs.YtpadlmidojpbeaaGreat
open Go Go.RowKit
theorem bel3 {B g : Nat} {w w' : World} (hb : Below B w w') (hg : B ≤ g) (a b d : Value) : Below B w (((w'.setCell ⟨g, 0, none⟩ a).setCell ⟨g, 1, none⟩ b).setCell ⟨g, 2, none⟩ d) :=
  Below.setCell (p := ⟨g, 2, none⟩) (Below.setCell (p := ⟨g, 1, none⟩) (Below.setCell (p := ⟨g, 0, none⟩) hb hg a) hg b) hg d
theorem tch3 (w' : World) (g : Nat) (a b d : Value) : Touch g (g + 1) w' (((w'.setCell ⟨g, 0, none⟩ a).setCell ⟨g, 1, none⟩ b).setCell ⟨g, 2, none⟩ d) :=
  ((Touch.setCell (Nat.le_refl _) (Nat.lt_succ_self _)).trans (Touch.setCell (Nat.le_refl _) (Nat.lt_succ_self _))).trans (Touch.setCell (Nat.le_refl _) (Nat.lt_succ_self _))
theorem size3 (w' : World) (g : Nat) (a b d : Value) : (((w'.setCell ⟨g, 0, none⟩ a).setCell ⟨g, 1, none⟩ b).setCell ⟨g, 2, none⟩ d).heap.size = w'.heap.size := by simp [World.setCell]
theorem rep3 {w' : World} {lo hi lo' g n cap : Nat} {ad : Option Addr} {xs : List Nat} (h : RepF w' lo hi ad n cap xs) (hg : g < lo) (h1 : lo' ≤ lo) (h2 : hi ≤ w'.heap.size) (a b d : Value) :
    RepF (((w'.setCell ⟨g, 0, none⟩ a).setCell ⟨g, 1, none⟩ b).setCell ⟨g, 2, none⟩ d) lo' (((w'.setCell ⟨g, 0, none⟩ a).setCell ⟨g, 1, none⟩ b).setCell ⟨g, 2, none⟩ d).heap.size ad n cap xs :=
  (h.touch (tch3 w' g a b d) (.inr (by omega))).bounds h1 (by rw [size3]; exact h2)
set_option maxHeartbeats 2000000 in
theorem T_to (w : World) (r c : Int) (ad : Option Addr) (cap : Nat) (xs : List Nat) (h : F32s w ad cap xs) (hn : xs.length ≤ 1048576) :
    Calls Tryz.prog 10 #[.agg #[.int .i64 r, .int .i64 c, .slice ad xs.length cap]] w fun e w' => ∃ ad' cap', e = .returned (.agg #[.int .i64 r, .int .i64 c, .slice ad' xs.length cap']) ∧ Hid (RepF w' w.heap.size w'.heap.size ad' xs.length cap' xs) ∧ Below w.heap.size w w' := by
  have b3 := below3 w (.cells #[.int .i64 r, .int .i64 c, .slice ad xs.length cap] 27) (.cells #[.int .i64 0, .int .i64 0, .slice none 0 0] 37) (.cells #[.int .i64 r, .int .i64 c, .slice none 0 0] 37)
  have K := Lib.hid (F_to _ ad cap xs (h.below b3) hn)
  have RB := Lib.hid ((Box3.alloc2 w (.cells #[.int .i64 r, .int .i64 c, .slice ad xs.length cap] 27) (.int .i64 0) (.int .i64 0) (.slice none 0 0) 37).below (below1 _ (.cells #[.int .i64 r, .int .i64 c, .slice none 0 0] 37)))
  have ob := Box3.alloc2 (w.alloc (.cells #[.int .i64 r, .int .i64 c, .slice ad xs.length cap] 27)) (.cells #[.int .i64 0, .int .i64 0, .slice none 0 0] 37) (.int .i64 r) (.int .i64 c) (.slice none 0 0) 37
  rw [show (w.alloc (.cells #[.int .i64 r, .int .i64 c, .slice ad xs.length cap] 27)).heap.size = w.heap.size + 1 by simp] at ob
  have OB := Lib.hid ob; have B := Lib.hid b3
  obtain ⟨n, hN⟩ : ∃ n, n = xs.length := ⟨_, rfl⟩
  rw [← hN] at K RB OB B ⊢
  clear ob b3 h hN hn
  go_enter Tryz.func10, Tryz.ntmps10
  go_wp2_with fail
  refine K.out.mono ?_
  rintro e w' ⟨a', c', rfl, hr, hb⟩
  obtain ⟨-, r0, r1, r2, rf⟩ := RB.out.below hb
  obtain ⟨-, o0, o1, o2, of⟩ := OB.out.below hb
  have HR := Lib.hid hr; have HB := Lib.hid (bthen B.out hb)
  have hz := hb.size
  simp at hz
  clear hr hb
  go_wp2
  refine bodyPost_ret (v := .agg #[.int .i64 r, .int .i64 c, .slice a' n c']) (by simp [results, Tryz.results10, go_sem, r0, r1, r2, o0, o1, o2]) rfl ⟨_, _, rfl, Lib.hid ?_, ?_⟩
  · exact rep3 (HR.out.touch (lo2 := w.heap.size + 2) (hi2 := w.heap.size + 3) (Touch.setCell (Nat.le_refl _) (Nat.lt_succ_self _)) (.inr (by simp))) (by simp) (by simp; omega) (by simp [World.setCell]) _ _ _
  · exact bel3 (HB.out.setCell (p := ⟨w.heap.size + 2, 2, none⟩) (by show w.heap.size ≤ w.heap.size + 2; omega) _) (by omega) _ _ _
structure BoxN (w : World) (g : Nat) (vs : List Value) : Prop where
  lt : g < w.heap.size
  at' : ∀ j, j < vs.length → w.cell? ⟨g, j, none⟩ = vs[j]?
  fz : ∀ o, w.frozen? ⟨g, o, none⟩ = false
theorem BoxN.alloc (w : World) (cs : Array Value) (t : TypeId) : BoxN (w.alloc (.cells cs t)) w.heap.size cs.toList :=
  ⟨by simp, fun j hj => by rw [World.cell?_alloc_at _ _ _ _ rfl]; simp, fun o => World.frozen?_alloc_at _ _ _ _ rfl⟩
theorem BoxN.alloc2 (w : World) (o : Obj) (cs : Array Value) (t : TypeId) : BoxN ((w.alloc o).alloc (.cells cs t)) (w.heap.size + 1) cs.toList := by
  have h := BoxN.alloc (w.alloc o) cs t
  rwa [show (w.alloc o).heap.size = w.heap.size + 1 by simp] at h
theorem BoxN.alloc3 (w : World) (o o2 : Obj) (cs : Array Value) (t : TypeId) : BoxN (((w.alloc o).alloc o2).alloc (.cells cs t)) (w.heap.size + 2) cs.toList := by
  have h := BoxN.alloc2 (w.alloc o) o2 cs t
  rwa [show (w.alloc o).heap.size = w.heap.size + 1 by simp] at h
theorem BoxN.touch {w w' : World} {g lo hi : Nat} {vs : List Value} (h : BoxN w g vs) (ht : Touch lo hi w w') (hd : g < lo ∨ hi ≤ g) : BoxN w' g vs :=
  ⟨Nat.lt_of_lt_of_le h.lt ht.size, fun j hj => (touch_keep3 ht h.lt hd j).1.trans (h.at' j hj), fun o => (touch_keep3 ht h.lt hd o).2.trans (h.fz o)⟩
theorem BoxN.below {w w' : World} {g : Nat} {vs : List Value} (h : BoxN w g vs) (hb : Below w.heap.size w w') : BoxN w' g vs := h.touch (lo := w'.heap.size) (hi := w'.heap.size) (Touch.of_below hb) (.inl (Nat.lt_of_lt_of_le h.lt hb.size))
theorem BoxN.set {w : World} {g : Nat} {vs : List Value} (h : BoxN w g vs) (i : Nat) (v : Value) : BoxN (w.setCell ⟨g, i, none⟩ v) g (vs.set i v) := by
  refine ⟨by simpa [World.setCell] using h.lt, fun j hj => ?_, fun o => by rw [World.frozen?_setCell]; exact h.fz o⟩
  rw [List.length_set] at hj
  have h1 := h.at' j hj
  rw [List.getElem?_eq_getElem hj] at h1
  rw [set_at3 h1, List.getElem?_set]
  by_cases e : i = j
  · subst e; rw [if_pos rfl, if_pos rfl, if_pos hj]
  · rw [if_neg e, if_neg e, List.getElem?_eq_getElem hj]
theorem BoxN.far {w : World} {g : Nat} {vs : List Value} (h : BoxN w g vs) (g' i : Nat) (v : Value) (hc : g' ≠ g) : BoxN (w.setCell ⟨g', i, none⟩ v) g vs := by
  have hk : ∀ j, (w.setCell ⟨g', i, none⟩ v).cell? ⟨g, j, none⟩ = w.cell? ⟨g, j, none⟩ := fun j => World.cell?_setCell_other w ⟨g', i, none⟩ ⟨g, j, none⟩ v (by intro h; cases h; exact hc rfl)
  exact ⟨by simpa [World.setCell] using h.lt, fun j hj => (hk j).trans (h.at' j hj), fun o => by rw [World.frozen?_setCell]; exact h.fz o⟩
theorem BoxN.seven {w : World} {g : Nat} {a b c d e f k : Value} (h : BoxN w g [a, b, c, d, e, f, k]) : g < w.heap.size ∧ w.cell? ⟨g, 0, none⟩ = some a ∧ w.cell? ⟨g, 1, none⟩ = some b ∧ w.cell? ⟨g, 2, none⟩ = some c ∧ w.cell? ⟨g, 3, none⟩ = some d ∧ w.cell? ⟨g, 4, none⟩ = some e ∧ w.cell? ⟨g, 5, none⟩ = some f ∧ w.cell? ⟨g, 6, none⟩ = some k ∧ (∀ o, w.frozen? ⟨g, o, none⟩ = false) :=
  ⟨h.lt, h.at' 0 (by simp), h.at' 1 (by simp), h.at' 2 (by simp), h.at' 3 (by simp), h.at' 4 (by simp), h.at' 5 (by simp), h.at' 6 (by simp), h.fz⟩
theorem BoxN.three {w : World} {g : Nat} {a b c : Value} (h : BoxN w g [a, b, c]) : g < w.heap.size ∧ w.cell? ⟨g, 0, none⟩ = some a ∧ w.cell? ⟨g, 1, none⟩ = some b ∧ w.cell? ⟨g, 2, none⟩ = some c ∧ (∀ o, w.frozen? ⟨g, o, none⟩ = false) :=
  ⟨h.lt, h.at' 0 (by simp), h.at' 1 (by simp), h.at' 2 (by simp), h.fz⟩
def setCs : World → Nat → Nat → List Value → World
  | w, _, _, [] => w
  | w, g, i, v :: vs => setCs (w.setCell ⟨g, i, none⟩ v) g (i + 1) vs
theorem setCs_size (w : World) (g i : Nat) (vs : List Value) : (setCs w g i vs).heap.size = w.heap.size := by
  induction vs generalizing w i with
  | nil => rfl
  | cons v vs ih => exact (ih _ _).trans (by simp [World.setCell])
theorem setCs_below {B g : Nat} {w w' : World} (hb : Below B w w') (hg : B ≤ g) (i : Nat) (vs : List Value) : Below B w (setCs w' g i vs) := by
  induction vs generalizing w' i with
  | nil => exact hb
  | cons v vs ih => exact ih (hb.setCell (p := ⟨g, i, none⟩) hg v) (i + 1)
theorem setCs_touch (w : World) (g i : Nat) (vs : List Value) : Touch g (g + 1) w (setCs w g i vs) := by
  induction vs generalizing w i with
  | nil => exact Touch.refl _ _ _
  | cons v vs ih => exact Touch.trans (Touch.setCell (Nat.le_refl _) (Nat.lt_succ_self _)) (ih _ _)
theorem setCs_repF {w' : World} {lo hi lo' g n cap : Nat} {ad : Option Addr} {xs : List Nat} (h : RepF w' lo hi ad n cap xs) (hg : g < lo) (h1 : lo' ≤ lo) (h2 : hi ≤ w'.heap.size) (i : Nat) (vs : List Value) : RepF (setCs w' g i vs) lo' (setCs w' g i vs).heap.size ad n cap xs :=
  (h.touch (setCs_touch w' g i vs) (.inr (by omega))).bounds h1 (by rw [setCs_size]; exact h2)
theorem setCs_own {w : World} {lo hi : Nat} {e : TypeId} {size g n cap : Nat} {us : List Value} {L : List RowD} (h : Own w lo hi (⟨e, size, some ⟨g, 0, none⟩, n, cap, us⟩ :: L)) (i : Nat) (vs : List Value) : Own (setCs w g i vs) lo hi (⟨e, size, some ⟨g, 0, none⟩, n, cap, setL us i vs⟩ :: L) := by
  induction vs generalizing w i us with
  | nil => exact h
  | cons v vs ih => exact ih (h.store i v) (i + 1)
theorem T_sz (w : World) (r c : Int) (ad : Option Addr) (n cap : Nat) (L : Int) (hn : n ≤ maxLen) (h0 : 0 ≤ L) (h1 : L ≤ 1048576) : Calls Tryz.prog 7 #[.agg #[.int .i64 r, .int .i64 c, .slice ad n cap], .int .i64 L] w fun e w' => e = .returned (.int .i64 (if (n : Int) ≤ L then L - n else -1)) ∧ Below w.heap.size w w' := by
  have K := Lib.hid (fun W => sz_f32s W ad n cap L hn h0 h1)
  by_cases h : (n : Int) ≤ L
  · rw [if_pos h] at K ⊢
    have hp : 0 ≤ L - n := by omega
    go_enter Tryz.func7, Tryz.ntmps7
    go_wp2_with fail
    refine (K.out _).mono ?_
    rintro e w1 ⟨rfl, rfl⟩
    go_wp2
    go_ret
    exact ⟨rfl, below1 _ _⟩
  · rw [if_neg h] at K ⊢
    go_enter Tryz.func7, Tryz.ntmps7
    go_wp2_with fail
    refine (K.out _).mono ?_
    rintro e w1 ⟨rfl, rfl⟩
    go_wp2
    go_ret
    exact ⟨rfl, below1 _ _⟩
set_option maxHeartbeats 1000000 in
theorem T_eq (w : World) (r c : Int) (a1 a2 : Option Addr) (c1 c2 : Nat) (xs ys : List Nat) (h1 : F32s w a1 c1 xs) (h2 : F32s w a2 c2 ys) (hn : xs.length ≤ 1048576) (he : xs.map (cn .f32) = ys.map (cn .f32)) :
    Calls Tryz.prog 15 #[.agg #[.int .i64 r, .int .i64 c, .slice a1 xs.length c1], .agg #[.int .i64 r, .int .i64 c, .slice a2 ys.length c2]] w fun e w' => e = .returned (.bool true) ∧ Below w.heap.size w w' := by
  have b2 := below2 w (.cells #[.int .i64 r, .int .i64 c, .slice a1 xs.length c1] 37) (.cells #[.int .i64 r, .int .i64 c, .slice a2 ys.length c2] 37)
  have K := Lib.hid (laws_eqFloat32S a1 a2 c1 c2 xs ys _ (h1.below b2) (h2.below b2) hn he)
  have B := Lib.hid b2
  obtain ⟨n, hN⟩ : ∃ n, n = xs.length := ⟨_, rfl⟩
  obtain ⟨m, hM⟩ : ∃ m, m = ys.length := ⟨_, rfl⟩
  rw [← hN, ← hM] at K B ⊢
  clear b2 h1 h2 hn he hN hM
  go_enter Tryz.func15, Tryz.ntmps15
  go_wp2_with fail
  refine K.out.mono ?_
  rintro e w1 ⟨rfl, hd⟩
  go_wp2
  go_ret
  exact ⟨rfl, bthen B.out hd.below⟩
theorem T_mark (w : World) {lo hi : Nat} (r c : Int) {ad : Option Addr} {n cap : Nat} {xs : List Nat} (k0 : Nat) (h : RepF w lo hi ad n cap xs) (hhi : hi ≤ w.heap.size) (hn : n ≤ 1048576) (hk : k0 ≤ 100000000) :
    Calls Tryz.prog 17 #[.agg #[.int .i64 r, .int .i64 c, .slice ad n cap], .int .i64 k0] w fun e w' => e = .returned (.int .i64 (k0 + n : Nat)) ∧ RepF w' lo hi ad n cap (markF k0 n) ∧ Touch lo hi w w' := by
  have K := Lib.hid (fun W (hW : RepF W lo hi ad n cap xs) => F_mark W k0 hW hn hk)
  have b1 := below1 w (.cells #[.int .i64 r, .int .i64 c, .slice ad n cap] 37)
  have H := Lib.hid (h.below b1); have B := Lib.hid b1
  clear h b1
  go_enter Tryz.func17, Tryz.ntmps17
  go_wp2_with fail
  refine (K.out _ H.out).mono ?_
  rintro e w1 ⟨rfl, hr, ht⟩
  go_wp2
  go_ret
  exact ⟨rfl, hr, (Touch.of_below B.out).trans ht⟩
end Go.Proofs.YtpadlmidojpbeaaGreat
/- x -/
namespace Go.Proofs.YtpadlmidojpbeaaGreat
open Go Go.RowKit
end Go.Proofs.YtpadlmidojpbeaaGreat
/- x -/
namespace Go.Proofs.YtpadlmidojpbeaaGreat
open Go Go.RowKit
def sumBy {α : Type} (f : α → Nat) (us : List α) (k : Nat) : Nat := ((us.take k).map f).sum
theorem sumBy_zero {α : Type} (f : α → Nat) (us : List α) : sumBy f us 0 = 0 := by simp [sumBy]
theorem sumBy_succ {α : Type} (f : α → Nat) {us : List α} {k : Nat} {a : α} (h : us[k]? = some a) : sumBy f us (k + 1) = sumBy f us k + f a := by
  obtain ⟨hk, rfl⟩ := List.getElem?_eq_some_iff.1 h
  unfold sumBy
  rw [List.take_succ_eq_append_getElem hk, List.map_append, List.sum_append]
  simp
theorem sumBy_le {α : Type} (f : α → Nat) (us : List α) {k n : Nat} (h : k ≤ n) : sumBy f us k ≤ sumBy f us n := by
  unfold sumBy
  have : us.take n = us.take k ++ (us.take n).drop k := by
    have := (List.take_append_drop k (us.take n)).symm
    rwa [List.take_take, Nat.min_eq_left h] at this
  rw [this, List.map_append, List.sum_append]; omega
theorem sumBy_mem {α : Type} (f : α → Nat) {us : List α} {a : α} (h : a ∈ us) : f a ≤ sumBy f us us.length := by
  unfold sumBy
  rw [List.take_length]
  induction us with
  | nil => cases h
  | cons x xs ih =>
    rw [List.map_cons, List.sum_cons]
    rcases List.mem_cons.1 h with rfl | h
    · omega
    · have := ih h; omega
def leftBy {α : Type} (f : α → Nat) (us : List α) (L : Int) : Int := if (us.length + sumBy f us us.length : Nat) ≤ L then L - (us.length + sumBy f us us.length : Nat) else -1
theorem getElem?_lt {α : Type} {us : List α} {k : Nat} (h : k < us.length) : ∃ a, us[k]? = some a := ⟨us[k], List.getElem?_eq_getElem h⟩
theorem info_op : (Tryz.prog.info? 74).map (fun i => (i.zero, i.size, i.bytes)) = some (some (.agg #[.int .i64 0, .int .i64 0, .int .i64 0, .float .f32 0, .int .i64 0, .int .i64 0, .slice none 0 0]), 7, 72) := by kernel_rfl
theorem info_ten : (Tryz.prog.info? 37).map (fun i => (i.zero, i.size, i.bytes)) = some (some (.agg #[.int .i64 0, .int .i64 0, .slice none 0 0]), 3, 40) := by kernel_rfl
theorem made_flat {α : Type} (R : RecT α) (z : α) (n : Nat) (cs : Array Value) (hcs : cs.toList = R.cells z) (hs : 0 < R.size) : (madeCells cs (n * R.size)).toList = (List.replicate n z).flatMap R.cells := by
  have hsz : cs.size = R.size := by have := R.len z; rw [← hcs] at this; simpa using this
  apply List.ext_getElem?
  intro j
  by_cases hj : j < n * R.size
  · have hk : j / R.size < n := (Nat.div_lt_iff_lt_mul hs).2 hj
    have hm := Nat.mod_lt j hs
    have e : j = (j / R.size) * R.size + j % R.size := by rw [Nat.mul_comm]; exact (Nat.div_add_mod j R.size).symm
    have e2 := flat_at R (List.replicate n z) (k := j / R.size) (j := j % R.size) (a := z) (by rw [List.getElem?_replicate, if_pos hk]) hm
    rw [← e] at e2
    rw [e2, ← hcs]
    have hm2 : j % cs.size < cs.size := by rw [hsz]; exact hm
    simp [madeCells, hj, hsz] 
    rw [getElem!_pos cs (j % R.size) (by rw [hsz]; exact hm), Array.getElem?_eq_getElem (by rw [hsz]; exact hm)]
  · rw [List.getElem?_eq_none (by simp [madeCells]; omega), List.getElem?_eq_none (by rw [flat_len]; simp; omega)]
end Go.Proofs.YtpadlmidojpbeaaGreat
/- x -/
namespace Go.Proofs.YtpadlmidojpbeaaGreat
open Go Go.RowKit
theorem set_take {α β : Type} (f : α → β) {us : List α} {vs : List β} {k : Nat} {a : α} {b : β} (h : us.map f = vs.take k ++ (us.map f).drop k) (hk : k < us.length) (hl : us.length = vs.length) (hv : vs[k]? = some b) (hb : f a = b) : (us.set k a).map f = vs.take (k + 1) ++ ((us.set k a).map f).drop (k + 1) := by
  have hkv : k < vs.length := by omega
  have e1 : ((us.map f).take k) = vs.take k := by rw [h, List.take_append_of_le_length (by simp; omega), List.take_take]; simp
  have e2 : (us.set k a).map f = (us.map f).set k b := by rw [List.map_set, hb]
  rw [e2]
  obtain ⟨h3, rfl⟩ := List.getElem?_eq_some_iff.1 hv
  rw [List.take_succ_eq_append_getElem hkv, ← e1, List.drop_set, if_pos (by omega), List.set_eq_take_append_cons_drop, if_pos (by simpa using hk)]
  simp
theorem op_own {w : World} {lo hi n cap : Nat} {ad : Option Addr} {us : List OpD} (h : OwnR opR w lo hi ad n cap us) {k : Nat} {o : OpD} (hk : us[k]? = some o) : ∃ g, ad = some ⟨g, 0, none⟩ ∧ (lo ≤ g ∧ g < hi ∧ g < w.heap.size) ∧
    (w.cell? ⟨g, k * 7, none⟩ = some (.int .i64 o.k) ∧ w.cell? ⟨g, k * 7 + 1, none⟩ = some (.int .i64 o.a) ∧ w.cell? ⟨g, k * 7 + 2, none⟩ = some (.int .i64 o.b) ∧ w.cell? ⟨g, k * 7 + 3, none⟩ = some (.float .f32 o.num) ∧ w.cell? ⟨g, k * 7 + 4, none⟩ = some (.int .i64 o.r) ∧ w.cell? ⟨g, k * 7 + 5, none⟩ = some (.int .i64 o.c) ∧ w.cell? ⟨g, k * 7 + 6, none⟩ = some (.slice o.ad o.xs.length o.cap)) ∧
    (∀ j, w.frozen? ⟨g, j, none⟩ = false) ∧ RepF w lo hi o.ad o.xs.length o.cap o.xs := by
  obtain ⟨g, e, hr, hc, hf⟩ := h.spot hk (by decide)
  have hm := List.mem_of_getElem? hk
  refine ⟨g, e, hr, ⟨hc 0 (by decide), hc 1 (by decide), hc 2 (by decide), hc 3 (by decide), hc 4 (by decide), hc 5 (by decide), hc 6 (by decide)⟩, hf, h.own.repF (List.mem_cons_of_mem _ (List.mem_flatMap.2 ⟨o, hm, List.mem_singleton.2 rfl⟩)) (h.ok o hm).1⟩
end Go.Proofs.YtpadlmidojpbeaaGreat
/- x -/
namespace Go.Proofs.YtpadlmidojpbeaaGreat
open Go Go.RowKit
end Go.Proofs.YtpadlmidojpbeaaGreat
/- x -/
namespace Go.Proofs.YtpadlmidojpbeaaGreat
open Go Go.RowKit
theorem set_same {α : Type} {us : List α} {i : Nat} {a : α} (h : us[i]? = some a) : us.set i a = us := by
  obtain ⟨hi, rfl⟩ := List.getElem?_eq_some_iff.1 h
  exact List.set_getElem_self hi
theorem set_mid {α : Type} (A B : List α) (o p : α) : (A ++ o :: B).set A.length p = A ++ p :: B := by
  rw [List.set_append, if_neg (by omega), Nat.sub_self, List.set_cons_zero]
theorem get_mid {α : Type} (A B : List α) (o : α) : (A ++ o :: B)[A.length]? = some o := by
  rw [List.getElem?_append_right (Nat.le_refl _), Nat.sub_self]; rfl
theorem setL_append (vs : List Value) (i : Nat) (cs ds : List Value) : setL vs i (cs ++ ds) = setL (setL vs i cs) (i + cs.length) ds := by
  induction cs generalizing vs i with
  | nil => rfl
  | cons c cs ih =>
    show setL (vs.set i c) (i + 1) (cs ++ ds) = _
    rw [ih, List.length_cons, Nat.add_right_comm, Nat.add_assoc]; rfl
theorem setL_get (vs : List Value) (i : Nat) (cs : List Value) (j : Nat) (h : j < i ∨ i + cs.length ≤ j) : (setL vs i cs)[j]? = vs[j]? := by
  induction cs generalizing vs i with
  | nil => rfl
  | cons c cs ih =>
    show (setL (vs.set i c) (i + 1) cs)[j]? = _
    rw [ih _ _ (by simp at h; omega), List.getElem?_set_ne (by simp at h; omega)]
end Go.Proofs.YtpadlmidojpbeaaGreat
/- x -/
namespace Go.Proofs.YtpadlmidojpbeaaGreat
open Go Go.RowKit
end Go.Proofs.YtpadlmidojpbeaaGreat
/- x -/
namespace Go.Proofs.YtpadlmidojpbeaaGreat
open Go Go.RowKit
end Go.Proofs.YtpadlmidojpbeaaGreat
/- x -/
namespace Go.Proofs.YtpadlmidojpbeaaGreat
open Go Go.RowKit
end Go.Proofs.YtpadlmidojpbeaaGreat
/- x -/
namespace Go.Proofs.YtpadlmidojpbeaaGreat
open Go Go.RowKit
end Go.Proofs.YtpadlmidojpbeaaGreat
