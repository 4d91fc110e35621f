/- Joined texts 5: Src Drw Drl Ten Decay Rate Suc WSum Ent Cl3 Dif Los Lot. Each is told at its own head. No condition. -/
import Derived.Deep.QuietTactic
import Derived.BigQuiet
import Derived.Laws.Bits64b
import Derived.Lib.Hide
import Derived.Test.YtnhikdjljjemlaaMc1
import Derived.Test.YtnhikdjljjemlaaMc2
import Derived.Test.YtnhikdjljjemlaaMc3
import Derived.Test.YtnhikdjljjemlaaMc4
/- What the reference's source of choices gives. No condition. -/
namespace Go.Proofs.Ytnhikdjljjemlaa
open Go Go.RowKit
set_option linter.unusedVariables false
set_option linter.unusedSimpArgs false
/-- a source of choices: its block, where it stands at most -/
structure SrcAt (w : World) (g : Nat) (ad : Option Addr) (cap : Nat) (xs : List Int) (at_ : Nat) (seed : Int) : Prop where
  lt : g < w.heap.size
  code : w.cell? ⟨g, 0, none⟩ = some (.slice ad xs.length cap)
  at1 : w.cell? ⟨g, 1, none⟩ = some (.int .i64 at_)
  seed2 : w.cell? ⟨g, 2, none⟩ = some (.int .u64 seed)
  free : ∀ o, w.frozen? ⟨g, o, none⟩ = false
  ints : Ints .u8 w ad cap xs
  other : xs ≠ [] → ∀ b off, ad = some ⟨b, off, none⟩ → b < g
def Src (w : World) (g n : Nat) : Prop := ∃ ad cap xs at_ seed, SrcAt w g ad cap xs at_ seed ∧ at_ ≤ n
theorem Src.mono {w : World} {g n m : Nat} (h : Src w g n) (hm : n ≤ m) : Src w g m := by
  obtain ⟨ad, cap, xs, a, s, h1, h2⟩ := h; exact ⟨ad, cap, xs, a, s, h1, Nat.le_trans h2 hm⟩
theorem Src.kept {w w' : World} {g n : Nat} (h : Src w g n) (hs : w.heap.size ≤ w'.heap.size) (hb : ∀ k, k ≤ g → w'.heap[k]? = w.heap[k]?) : Src w' g n := by
  obtain ⟨ad, cap, xs, a, s, h1, h2⟩ := h
  have hg := hb g (Nat.le_refl _)
  refine ⟨ad, cap, xs, a, s, ⟨Nat.lt_of_lt_of_le h1.lt hs, ?_, ?_, ?_, ?_, ?_, h1.other⟩, h2⟩
  · rw [World.cell?_of_block (w := w) hg]; exact h1.code
  · rw [World.cell?_of_block (w := w) hg]; exact h1.at1
  · rw [World.cell?_of_block (w := w) hg]; exact h1.seed2
  · intro o; rw [World.frozen?_of_block (w := w) hg]; exact h1.free o
  · refine ⟨h1.ints.len, h1.ints.cap, ?_, h1.ints.wf⟩
    by_cases hx : xs = []
    · subst hx; exact .inl rfl
    · exact h1.ints.rd.kept hs (fun b off e _ => hb b (Nat.le_of_lt (h1.other hx b off e)))
theorem Src.below {w w' : World} {g n : Nat} (h : Src w g n) (hb : Below w.heap.size w w') : Src w' g n :=
  h.kept hb.size fun k hk => hb.block k (by obtain ⟨_, _, _, _, _, h1, _⟩ := h; exact Nat.lt_of_le_of_lt hk h1.lt)
theorem touch_cell {w : World} {g k : Nat} {v : Value} : Touch g (g + 1) w (w.setCell ⟨g, k, none⟩ v) :=
  ⟨rfl, rfl, rfl, by simp [World.setCell], fun j hj hd => Below.heap_setCell _ _ _ _ (by intro e; simp at e; omega)⟩
theorem src_after {w : World} {g n : Nat} {ad : Option Addr} {cap : Nat} {xs : List Int} {a : Nat} {s : Int} (h : SrcAt w g ad cap xs a s) (han : a ≤ n) (u : Int) (q1 q2 : Nat) :
    Src ((((w.drewN q1).setCell ⟨g, 1, none⟩ (.int .i64 ((a : Int) + 1))).setCell ⟨g, 2, none⟩ (.int .u64 u)).drewN q2) g (n + 1) ∧
    Touch g (g + 1) w ((((w.drewN q1).setCell ⟨g, 1, none⟩ (.int .i64 ((a : Int) + 1))).setCell ⟨g, 2, none⟩ (.int .u64 u)).drewN q2) := by
  obtain ⟨hg, h0, h1, h2, hf, hi, ho⟩ := h
  have hb : Below g w ((((w.drewN q1).setCell ⟨g, 1, none⟩ (.int .i64 ((a : Int) + 1))).setCell ⟨g, 2, none⟩ (.int .u64 u)).drewN q2) :=
    below_drewN (((below_drewN (Below.refl g w) q1).setCell (Nat.le_refl g) _).setCell (Nat.le_refl g) _) q2
  refine ⟨⟨ad, cap, xs, a + 1, u, ⟨by simpa [World.setCell] using hg, ?_, ?_, ?_, ?_, ⟨hi.len, hi.cap, by
    by_cases hx : xs = []
    · subst hx; exact .inl rfl
    · exact hi.rd.belowLt hb (ho hx), hi.wf⟩, ho⟩, by omega⟩, ?_⟩
  · go_simp
  · have e : ((a + 1 : Nat) : Int) = (a : Int) + 1 := by omega
    rw [e]
    go_simp
  · go_simp
  · intro o
    have := hf o
    go_simp
  · exact (((Touch.of_below (below_drewN (Below.refl _ _) _)).trans touch_cell).trans touch_cell).trans (Touch.of_below (below_drewN (Below.refl _ _) _))
theorem and255 (Z : Int) : ∃ r : Nat, wrap64 (bits .and .u64 (IntKind.u64.wrap Z / 1099511627776) 255) = r ∧ r < 256 := by
  have hw : 0 ≤ IntKind.u64.wrap Z ∧ IntKind.u64.wrap Z < 18446744073709551616 := by
    have := wf_wrap .u64 Z
    simp [Lit.wf, IntKind.min, IntKind.max, IntKind.signed, IntKind.bits] at this
    omega
  have h0 : 0 ≤ IntKind.u64.wrap Z / 1099511627776 := by omega
  obtain ⟨m, hm⟩ := Int.eq_ofNat_of_zero_le h0
  rw [hm]
  have := bits_and_u64_nat m 255 (by omega) (by decide)
  rw [show ((255 : Nat) : Int) = 255 from rfl] at this
  rw [this]
  have hl : m &&& 255 < 256 := Nat.lt_of_le_of_lt Nat.and_le_right (by decide)
  refine ⟨m &&& 255, ?_, hl⟩
  unfold wrap64
  omega
theorem src_next (w : World) (g n : Nat) (h : Src w g n) (hn : n ≤ 1000000000) :
    Calls Try.prog 82 #[.pointer (some ⟨g, 0, none⟩)] w fun e w' => ∃ r : Nat, e = .returned (.int .i64 r) ∧ r < 256 ∧ Src w' g (n + 1) ∧ Touch g (g + 1) w w' := by
  obtain ⟨ad, cap, xs, a, s, ⟨hg, h0, h1, h2, hf, hi, ho⟩, han⟩ := h
  have hm := Nat.le_trans hi.len hi.cap
  unfold maxLen at hm
  by_cases hlt : a < xs.length
  · obtain ⟨b, off, rfl, hb, hc⟩ := hi.spot (i := a) hlt
    have hcell := hc a hlt
    have hw := hi.wf (xs.getD a 0) (by rw [List.getD_eq_getElem?_getD, List.getElem?_eq_getElem hlt]; exact List.getElem_mem hlt)
    obtain ⟨x, hx⟩ : ∃ x, x = xs.getD a 0 := ⟨_, rfl⟩
    rw [← hx] at hcell hw
    obtain ⟨hb0, hb1⟩ := bounds_u8 hw
    obtain ⟨l, hl⟩ : ∃ l, l = xs.length := ⟨_, rfl⟩
    rw [← hl] at hlt hm h0
    have HI := Lib.hid hi; have HO := Lib.hid ho; have HL := Lib.hid hl
    clear hx hw hc hi ho hl
    go_enter Try.func82, Try.ntmps82
    go_wp2
    go_quiet (fail)
    go_wp2
    go_quiet (fail)
    go_wp2
    go_quiet (fail)
    go_wp2
    go_ret
    obtain ⟨y, rfl⟩ := Int.eq_ofNat_of_zero_le hb0
    have hsa := src_after (ad := some ⟨b, off, none⟩) (n := n) ⟨hg, by rw [← HL.out]; exact h0, h1, h2, hf, HI.out, HO.out⟩ han
    exact ⟨y, rfl, by omega, (hsa _ _ _).1, (hsa _ _ _).2⟩
  · have HI := Lib.hid hi; have HO := Lib.hid ho
    obtain ⟨l, hl⟩ : ∃ l, l = xs.length := ⟨_, rfl⟩
    rw [← hl] at hlt hm h0
    have HL := Lib.hid hl
    clear hi ho hl
    go_enter Try.func82, Try.ntmps82
    go_wp2
    go_quiet (fail)
    go_wp2
    go_quiet (fail)
    go_wp2
    go_ret
    have hsa := src_after (n := n) ⟨hg, by rw [← HL.out]; exact h0, h1, h2, hf, HI.out, HO.out⟩ han
    obtain ⟨r, hr, hr2⟩ := and255 (IntKind.u64.wrap (IntKind.u64.wrap (s * 6364136223846793005)) + 1442695040888963407)
    exact ⟨r, by rw [← hr]; rfl, hr2, (hsa _ _ _).1, (hsa _ _ _).2⟩
theorem src_pick (w : World) (g n : Nat) (h : Src w g n) (hn : n ≤ 900000000) (N : Int) (h1 : 1 ≤ N) (h2 : N ≤ 1000000) :
    Calls Try.prog 46 #[.pointer (some ⟨g, 0, none⟩), .int .i64 N] w fun e w' => ∃ r : Nat, e = .returned (.int .i64 r) ∧ (r : Int) < N ∧ Src w' g (n + 2) ∧ Touch g (g + 1) w w' := by
  have HS := Lib.hid h; clear h
  by_cases hN : N ≤ 1
  · go_enter Try.func46, Try.ntmps46
    go_wp2
    go_ret
    exact ⟨0, rfl, by omega, HS.out.mono (by omega), Touch.refl _ _ _⟩
  · have hk := fun W m hW hm => src_next W g m hW hm
    have HK := Lib.hid hk; clear hk
    by_cases h200 : 200 < N
    · go_enter Try.func46, Try.ntmps46
      go_wp2_with fail
      refine (HK.out _ n HS.out (by omega)).mono ?_
      rintro e w1 ⟨r, rfl, hr, hs1, ht1⟩
      have HS1 := Lib.hid hs1; have HT1 := Lib.hid ht1; clear hs1 ht1
      go_wp2_with fail
      refine (HK.out _ (n + 1) HS1.out (by omega)).mono ?_
      rintro e w2 ⟨q, rfl, hq, hs2, ht2⟩
      have HS2 := Lib.hid hs2; have HT2 := Lib.hid ht2; clear hs2 ht2
      go_wp2
      go_ret
      have g0 := Int.emod_nonneg ((r : Int) * 256 + q) (show N ≠ 0 by omega)
      have g1 := Int.emod_lt_of_pos ((r : Int) * 256 + q) (show 0 < N by omega)
      exact ⟨(((r : Int) * 256 + q) % N).toNat, by rw [Int.toNat_of_nonneg g0]; rfl, by omega, HS2.out, HT1.out.trans HT2.out⟩
    · go_enter Try.func46, Try.ntmps46
      go_wp2_with fail
      refine (HK.out _ n HS.out (by omega)).mono ?_
      rintro e w1 ⟨r, rfl, hr, hs1, ht1⟩
      have HS1 := Lib.hid hs1; have HT1 := Lib.hid ht1; clear hs1 ht1
      go_wp2
      go_ret
      have g0 := Int.emod_nonneg (r : Int) (show N ≠ 0 by omega)
      have g1 := Int.emod_lt_of_pos (r : Int) (show 0 < N by omega)
      exact ⟨((r : Int) % N).toNat, by rw [Int.toNat_of_nonneg g0]; rfl, by omega, HS1.out.mono (by omega), HT1.out⟩
theorem src_one (w : World) (g n : Nat) (h : Src w g n) (hn : n ≤ 900000000) (N : Int) (h1 : 1 ≤ N) (h2 : N ≤ 1000000) :
    Calls Try.prog 45 #[.pointer (some ⟨g, 0, none⟩), .int .i64 N] w fun e w' => ∃ b : Bool, e = .returned (.bool b) ∧ Src w' g (n + 2) ∧ Touch g (g + 1) w w' := by
  have hk := src_pick w g n h hn N h1 h2
  have HK := Lib.hid hk; clear hk h
  go_enter Try.func45, Try.ntmps45
  go_wp2_with fail
  refine HK.out.mono ?_
  rintro e w1 ⟨r, rfl, hr, hs1, ht1⟩
  have HS1 := Lib.hid hs1; have HT1 := Lib.hid ht1; clear hs1 ht1
  go_wp2
  go_ret
  exact ⟨_, rfl, HS1.out, HT1.out⟩
theorem src_among (w : World) (g n : Nat) (h : Src w g n) (hn : n ≤ 900000000) (b : Nat) (len cap : Nat) (vs : List Int) (hb : b ≠ g) (hbl : b < w.heap.size) (hc : ∀ i, i < len → w.cell? ⟨b, i, none⟩ = some (.int .i64 (vs.getD i 0))) (h1 : 1 ≤ len) (h2 : len ≤ 1000) :
    Calls Try.prog 84 #[.pointer (some ⟨g, 0, none⟩), .slice (some ⟨b, 0, none⟩) len cap] w fun e w' => ∃ i : Nat, i < len ∧ e = .returned (.int .i64 (vs.getD i 0)) ∧ Src w' g (n + 2) ∧ Touch g (g + 1) w w' := by
  have hk := src_pick w g n h hn len (by omega) (by omega)
  have HK := Lib.hid hk; have HC := Lib.hid hc; clear hk h hc
  go_enter Try.func84, Try.ntmps84
  go_wp2_with fail
  refine HK.out.mono ?_
  rintro e w1 ⟨r, rfl, hr, hs1, ht1⟩
  have hr := Int.ofNat_lt.1 hr
  have hcell : w1.cell? ⟨b, r, none⟩ = some (.int .i64 (vs.getD r 0)) := by
    rw [World.cell?_of_block (w := w) (ht1.block b hbl (by omega))]; exact HC.out r hr
  have HS1 := Lib.hid hs1; have HT1 := Lib.hid ht1; clear hs1 ht1
  go_wp2
  go_ret
  exact ⟨r, hr, rfl, HS1.out, HT1.out⟩
theorem src_from (w : World) (ad : Option Addr) (cap : Nat) (xs : List Int) (h : Ints .u8 w ad cap xs) :
    Calls Try.prog 37 #[.slice ad xs.length cap] w fun e w' => e = .returned (.pointer (some ⟨w.heap.size, 0, none⟩)) ∧ Src w' w.heap.size 0 ∧ Below w.heap.size w w' ∧ w.heap.size < w'.heap.size := by
  obtain ⟨l, hl⟩ : ∃ l, l = xs.length := ⟨_, rfl⟩
  have hother : xs ≠ [] → ∀ b off, ad = some ⟨b, off, none⟩ → b < w.heap.size := by
    intro hne b off e
    rcases h.rd with h1 | ⟨b', off', e', hb', _⟩
    · exact absurd (by simpa using h1) hne
    · rw [e] at e'; cases e'; exact hb'
  rw [← hl]
  have HL := Lib.hid hl; have HI := Lib.hid h; have HO := Lib.hid hother; clear hl h hother
  go_enter Try.func37, Try.ntmps37
  go_wp2
  go_ret
  refine ⟨rfl, ⟨ad, cap, xs, 0, 0, ⟨by simp, ?_, ?_, ?_, ?_, HI.out.below (below1 _ _), HO.out⟩, Nat.le_refl _⟩, below1 _ _, by simp⟩
  · rw [← HL.out]; go_simp
  · go_simp
  · go_simp
  · intro o; go_simp
end Go.Proofs.Ytnhikdjljjemlaa
/- What the reference draws from a source of choices: numbers. No condition. -/
namespace Go.Proofs.Ytnhikdjljjemlaa
open Go Go.RowKit
set_option linter.unusedVariables false
set_option linter.unusedSimpArgs false
def plainQ (d j : Nat) : Nat := fop .quo .f32 (floatOfInt .f32 ((j : Int) - 64)) d
def isPl (x : Nat) : Prop := ∃ j, j < 129 ∧ (x = plainQ 1088421888 j ∨ x = plainQ 1098907648 j)
theorem plain_some : ∀ j : Nat, j < 129 → floatBits .quo .f32 (floatOfInt .f32 ((j : Int) - 64)) 1088421888 = some (plainQ 1088421888 j) ∧ floatBits .quo .f32 (floatOfInt .f32 ((j : Int) - 64)) 1098907648 = some (plainQ 1098907648 j) := by decide +kernel
theorem isPl_lt {x : Nat} (h : isPl x) : x < 4294967296 := by
  obtain ⟨j, hj, h⟩ := h
  obtain ⟨h1, h2⟩ := plain_some j hj
  rcases h with rfl | rfl
  · have := floatBits_wf h1; simpa [Lit.wf] using this
  · have := floatBits_wf h2; simpa [Lit.wf] using this
theorem draw_plain (w : World) (g n : Nat) (h : Src w g n) (hn : n ≤ 800000000) :
    Calls Try.prog 49 #[.pointer (some ⟨g, 0, none⟩)] w fun e w' => ∃ x : Nat, e = .returned (.float .f32 x) ∧ Hid (isPl x) ∧ Src w' g (n + 4) ∧ Touch g (g + 1) w w' := by
  have hk := fun W m hW hm => src_pick W g m hW hm 129 (by decide) (by decide)
  have ho := fun W m hW hm => src_one W g m hW hm 4 (by decide) (by decide)
  have HK := Lib.hid hk; have HO := Lib.hid ho; have HS := Lib.hid h; clear hk ho h
  go_enter Try.func49, Try.ntmps49
  go_wp2_with fail
  refine (HK.out _ n HS.out (by omega)).mono ?_
  rintro e w1 ⟨j, rfl, hj, hs1, ht1⟩
  have hj := Int.ofNat_lt.1 hj
  have HS1 := Lib.hid hs1; have HT1 := Lib.hid ht1; clear hs1 ht1
  obtain ⟨h7, h16⟩ := plain_some j hj
  have q1 := fun w => fbits_some h7 w
  have q2 := fdr_some h7
  have q3 := fun w => fbits_some h16 w
  have q4 := fdr_some h16
  have hz := World.drewN_none
  clear h7 h16
  go_wp2_with fail
  refine (HO.out _ (n + 2) HS1.out (by omega)).mono ?_
  rintro e w2 ⟨b, rfl, hs2, ht2⟩
  have HS2 := Lib.hid hs2; have HT2 := Lib.hid ht2; clear hs2 ht2
  cases b
  · go_wp2
    go_ret
    exact ⟨_, rfl, Lib.hid ⟨j, hj, .inr rfl⟩, HS2.out, HT1.out.trans HT2.out⟩
  · go_wp2
    go_ret
    exact ⟨_, rfl, Lib.hid ⟨j, hj, .inl rfl⟩, HS2.out, HT1.out.trans HT2.out⟩
theorem strange_lt : ∀ i, i < 10 → ∃ m : Nat, ([0, 2147483648, 2139095040, 4286578688, 2143289344, 1, 2139095039, 8388608, 8388607, 2147483649] : List Int).getD i 0 = m ∧ m < 4294967296 := by
  intro i hi
  match i, hi with
  | 0, _ => exact ⟨0, rfl, by decide⟩
  | 1, _ => exact ⟨2147483648, rfl, by decide⟩
  | 2, _ => exact ⟨2139095040, rfl, by decide⟩
  | 3, _ => exact ⟨4286578688, rfl, by decide⟩
  | 4, _ => exact ⟨2143289344, rfl, by decide⟩
  | 5, _ => exact ⟨1, rfl, by decide⟩
  | 6, _ => exact ⟨2139095039, rfl, by decide⟩
  | 7, _ => exact ⟨8388608, rfl, by decide⟩
  | 8, _ => exact ⟨8388607, rfl, by decide⟩
  | 9, _ => exact ⟨2147483649, rfl, by decide⟩
theorem scales_lt : ∀ i, i < 4 → ∃ m : Nat, ([8388608, 2130706432, 1610612736, 536870912] : List Int).getD i 0 = m ∧ m < 4294967296 := by
  intro i hi
  match i, hi with
  | 0, _ => exact ⟨8388608, rfl, by decide⟩
  | 1, _ => exact ⟨2130706432, rfl, by decide⟩
  | 2, _ => exact ⟨1610612736, rfl, by decide⟩
  | 3, _ => exact ⟨536870912, rfl, by decide⟩
theorem arr_cell (w : World) (e : TypeId) (vs : List Int) (i : Nat) (hi : i < vs.length) : (w.alloc (.cells (vs.map (Value.int .i64)).toArray e)).cell? ⟨w.heap.size, i, none⟩ = some (.int .i64 (vs.getD i 0)) := by
  rw [World.cell?_alloc_at _ _ _ _ rfl]
  simp [List.getD_eq_getElem?_getD, List.getElem?_eq_getElem hi]
theorem draw_float (w : World) (g n : Nat) (h : Src w g n) (hn : n ≤ 700000000) :
    Calls Try.prog 48 #[.pointer (some ⟨g, 0, none⟩)] w fun e w' => ∃ x : Nat, e = .returned (.float .f32 x) ∧ x < 4294967296 ∧ Src w' g (n + 20) ∧ Touch g (g + 1) w w' := by
  have hk := fun W m hW hm N h1 h2 => src_pick W g m hW hm N h1 h2
  have ho := fun W m hW hm => src_one W g m hW hm 12 (by decide) (by decide)
  have hp := fun W m hW hm => draw_plain W g m hW hm
  have hgl : g < w.heap.size := by obtain ⟨_, _, _, _, _, h1, _⟩ := h; exact h1.lt
  have HK := Lib.hid hk; have HO := Lib.hid ho; have HP := Lib.hid hp; have HS := Lib.hid h; clear hk ho hp h
  go_enter Try.func48, Try.ntmps48
  go_wp2_with fail
  refine (HO.out _ n HS.out (by omega)).mono ?_
  rintro e w1 ⟨b, rfl, hs1, ht1⟩
  have z1 := ht1.size
  have HS1 := Lib.hid hs1; have HT1 := Lib.hid ht1; clear hs1 ht1
  cases b
  · go_wp2_with fail
    refine (HP.out _ (n + 2) HS1.out (by omega)).mono ?_
    rintro e w2 ⟨x, rfl, hx, hs2, ht2⟩
    have HS2 := Lib.hid hs2; have HT2 := Lib.hid ht2; clear hs2 ht2
    go_wp2
    go_ret
    exact ⟨x, rfl, isPl_lt hx.out, HS2.out.mono (by omega), HT1.out.trans HT2.out⟩
  go_wp2_with fail
  refine (HK.out _ (n + 2) HS1.out (by omega) 4 (by decide) (by decide)).mono ?_
  rintro e w2 ⟨c, rfl, hc, hs2, ht2⟩
  have hc := Int.ofNat_lt.1 hc
  have z2 := ht2.size
  have HS2 := Lib.hid hs2; have HT2 := Lib.hid (HT1.out.trans ht2); clear hs2 ht2
  by_cases h0 : c = 0
  · subst h0
    go_wp2_with fail
    refine (src_among _ g (n + 4) ((HS2.out.below (below1 _ _)).mono (by omega)) (by omega) w2.heap.size 10 10 [0, 2147483648, 2139095040, 4286578688, 2143289344, 1, 2139095039, 8388608, 8388607, 2147483649] (by omega) (by simp) ?_ (by decide) (by decide)).mono ?_
    · intro i hi
      exact arr_cell _ _ [0, 2147483648, 2139095040, 4286578688, 2143289344, 1, 2139095039, 8388608, 8388607, 2147483649] i hi
    rintro e w3 ⟨i, hi, rfl, hs3, ht3⟩
    obtain ⟨m, hm, hm2⟩ := strange_lt i hi
    rw [hm]
    have HS3 := Lib.hid hs3; have HT3 := Lib.hid ht3; clear hs3 ht3
    go_wp2_with fail
    refine (spec_l01From m hm2 _).mono ?_
    rintro e w4 ⟨rfl, rfl⟩
    go_wp2
    go_ret
    exact ⟨m, rfl, hm2, HS3.out.mono (by omega), (HT2.out.trans (Touch.of_below (below1 _ _))).trans HT3.out⟩
  by_cases h1 : c = 1
  · subst h1
    go_wp2_with fail
    refine (HK.out _ (n + 4) HS2.out (by omega) 65536 (by decide) (by decide)).mono ?_
    rintro e w3 ⟨a, rfl, ha, hs3, ht3⟩
    have HS3 := Lib.hid hs3; have HT3 := Lib.hid (HT2.out.trans ht3); clear hs3 ht3
    go_wp2_with fail
    refine (HK.out _ (n + 6) HS3.out (by omega) 65536 (by decide) (by decide)).mono ?_
    rintro e w4 ⟨d, rfl, hd, hs4, ht4⟩
    have HS4 := Lib.hid hs4; have HT4 := Lib.hid (HT3.out.trans ht4); clear hs4 ht4
    go_wp2_with fail
    refine (spec_l01From (a * 65536 + d) (by omega) _).mono ?_
    rintro e w5 ⟨rfl, rfl⟩
    go_wp2
    go_ret
    exact ⟨_, rfl, by omega, HS4.out.mono (by omega), HT4.out⟩
  by_cases h2 : c = 2
  · subst h2
    go_wp2_with fail
    refine (HK.out _ (n + 4) HS2.out (by omega) 65536 (by decide) (by decide)).mono ?_
    rintro e w3 ⟨a, rfl, ha, hs3, ht3⟩
    have HS3 := Lib.hid hs3; have HT3 := Lib.hid (HT2.out.trans ht3); clear hs3 ht3
    go_wp2_with fail
    refine (spec_l01From (a * 65536) (by omega) _).mono ?_
    rintro e w5 ⟨rfl, rfl⟩
    go_wp2
    go_ret
    exact ⟨_, rfl, by omega, HS3.out.mono (by omega), HT3.out⟩
  · have n0 : ((c : Int) == 0) = false := by simp; omega
    have n1 : ((c : Int) == 1) = false := by simp; omega
    have n2 : ((c : Int) == 2) = false := by simp; omega
    clear h0 h1 h2
    go_wp2_with fail
    refine (HP.out _ (n + 4) HS2.out (by omega)).mono ?_
    rintro e w3 ⟨x, rfl, hx, hs3, ht3⟩
    have z3 := ht3.size
    have HS3 := Lib.hid hs3; have HT3 := Lib.hid (HT2.out.trans ht3); clear hs3 ht3
    go_wp2_with fail
    refine (src_among _ g (n + 8) ((HS3.out.below (below1 _ _)).mono (by omega)) (by omega) w3.heap.size 4 4 [8388608, 2130706432, 1610612736, 536870912] (by omega) (by simp) ?_ (by decide) (by decide)).mono ?_
    · intro i hi
      exact arr_cell _ _ [8388608, 2130706432, 1610612736, 536870912] i hi
    rintro e w4 ⟨i, hi, rfl, hs4, ht4⟩
    obtain ⟨m, hm, hm2⟩ := scales_lt i hi
    rw [hm]
    have HS4 := Lib.hid hs4; have HT4 := Lib.hid ht4; clear hs4 ht4
    go_wp2_with fail
    refine (spec_l01From m hm2 _).mono ?_
    rintro e w5 ⟨rfl, rfl⟩
    go_wp2
    go_ret
    exact ⟨_, rfl, fbits_lt _ .f32 _ _ _, (HS4.out.below (below_drewN (Below.refl _ _) _)).mono (by omega), ((HT3.out.trans (Touch.of_below (below1 _ _))).trans HT4.out).trans (Touch.of_below (below_drewN (Below.refl _ _) _))⟩
end Go.Proofs.Ytnhikdjljjemlaa
/- What the reference draws from a source of choices: lists. No condition. -/
namespace Go.Proofs.Ytnhikdjljjemlaa
open Go Go.RowKit
set_option linter.unusedVariables false
set_option linter.unusedSimpArgs false
theorem touch_below' {lo hi : Nat} {w W w' : World} (ht : Touch lo hi w W) (hb : Below w.heap.size W w') : Touch lo hi w w' :=
  ⟨hb.os.trans ht.os, hb.tape.trans ht.tape, hb.output.trans ht.output, Nat.le_trans ht.size hb.size, fun k hk hd => (hb.block k hk).trans (ht.block k hk hd)⟩
theorem src_lt {w : World} {g n : Nat} (h : Src w g n) : g < w.heap.size := by obtain ⟨_, _, _, _, _, h1, _⟩ := h; exact h1.lt
theorem src_belowB {B : Nat} {w w' : World} {g n : Nat} (h : Src w g n) (hb : Below B w w') (hg : g < B) : Src w' g n := h.kept hb.size fun k hk => hb.block k (Nat.lt_of_le_of_lt hk hg)
theorem owns_touch {w w' : World} {lo2 hi2 e size base n : Nat} {v : Value} {cs : List Value} (h : w.ownsRow base e size v n cs) (ht : Touch lo2 hi2 w w') (hd : hi2 ≤ base) : w'.ownsRow base e size v n cs := ((Row.mk' h).touch ht (.inr hd)).own
theorem touch_from {w w1 w' : World} {g : Nat} (hb : Below w.heap.size w w1) (hg : w.heap.size ≤ g) (ht : Touch g (g + 1) w1 w') : Below w.heap.size w w' := touch_below hb ht hg
set_option maxRecDepth 100000 in
set_option maxHeartbeats 2000000 in
theorem draw_floats (w : World) (g n : Nat) (h : Src w g n) (hn : n ≤ 600000000) (N : Nat) (hN : N ≤ 100000) :
    Calls Try.prog 39 #[.pointer (some ⟨g, 0, none⟩), .int .i64 N] w fun e w' => ∃ (ad : Option Addr) (cap : Nat) (ys : List Nat), e = .returned (.slice ad N cap) ∧ RepF w' w.heap.size w'.heap.size ad N cap ys ∧ Src w' g (n + 2 + 20 * N) ∧ Touch g (g + 1) w w' := by
  obtain ⟨i0, hi, hz0, hz1, hz2⟩ := info_parts info_f32
  have ho := fun W m hW hm => src_one W g m hW hm 4 (by decide) (by decide)
  have hp := fun W m hW hm => draw_plain W g m hW hm
  have hq := fun W m hW hm => draw_float W g m hW hm
  have hgl := src_lt h
  have HO := Lib.hid ho; have HP := Lib.hid hp; have HQ := Lib.hid hq; have HS := Lib.hid h; clear ho hp hq h
  go_enter Try.func39, Try.ntmps39
  go_wp2_with fail
  refine (HO.out _ n ((HS.out.below (below1 _ _)).mono (Nat.le_refl _)) (by omega)).mono ?_
  rintro e w1 ⟨b, rfl, hs1, ht1⟩
  have z1 := ht1.size
  have ho1 : w1.ownsRow w.heap.size 24 1 (.slice (some ⟨w.heap.size, 0, none⟩) 0 0) 0 [] := owns_touch (World.ownsRow_made _ _ _ (Nat.le_refl _) (Nat.zero_le _) rfl) ht1 (by omega)
  have hT1 : Touch g (g + 1) w w1 := (Touch.of_below (below1 _ _)).trans ht1
  clear ht1
  go_wp2
  go_loopw [5, 1] (fun v i wr => ∃ k : Nat, i = .int .i64 ((N : Int) - k) ∧ k ≤ N ∧ ∃ ys : List Nat, wr.ownsRow w.heap.size 24 1 v k (ys.map (Value.float .f32)) ∧ (∀ y ∈ ys, (fun y => y < 4294967296) y) ∧ Src wr g (n + 2 + 20 * k) ∧ Touch g (g + 1) w wr) (fun _ i _ => (intOf i).toNat)
  case atStart => exact ⟨0, by simp, Nat.zero_le _, [], ho1, (fun y hy => nomatch hy), hs1.mono (by omega), hT1⟩
  case round =>
    clear ho1 hs1 hT1
    obtain ⟨k, rfl, hk, ys, hown, hys, hs, ht⟩ := hrel
    have hwz := ht.size
    have HLT := Lib.hid hys; have HWN := Lib.hid hown; have HS1 := Lib.hid hs; have HT1 := Lib.hid ht; clear hys hown hs ht
    by_cases hlt : k < N
    · have hp : 0 < (N : Int) - k := by omega
      cases b
      · go_wp2_with fail
        refine (HP.out _ (n + 2 + 20 * k) HS1.out (by omega)).mono ?_
        rintro e w2 ⟨x, rfl, hx, hs2, ht2⟩
        have hx := isPl_lt hx.out
        have hwz2 := ht2.size
        have hown2 := owns_touch HWN.out ht2 (by omega)
        have HT2 := Lib.hid (HT1.out.trans ht2); have HS2 := Lib.hid hs2; have HWN := Lib.hid hown2
        clear ht2 hs2 hown2
        go_wp2_with (at_builtin; refine wp_app rfl _ _ 29 rfl w.heap.size i0 (.float .f32 0) 1 4 Try.underlying29 hi hz0 hz1 hz2 rfl (by decide) rfl (one_cell _ rfl) _ _ _ rfl HWN.out rfl ?c3 ?c4 ?c5 ?_)
        case c3 => unfold maxLen; omega
        case c4 => omega
        case c5 => omega
        intro v' w9 hown1 hb9 hbs1
        have hs9 := src_belowB HS2.out hb9 (by omega)
        have ht9 := touch_below' HT2.out (hb9.mono (by omega))
        have HS9 := Lib.hid hs9; have HT9 := Lib.hid ht9
        clear hs9 ht9 hb9
        go_wp2
        go_roundw
        case rel =>
          refine ⟨k + 1, by congr 1; omega, hlt, ys ++ [x], by simpa using hown1, ?_, HS9.out.mono (by omega), HT9.out⟩
          intro z hz
          rcases List.mem_append.1 hz with hz | hz
          · exact HLT.out z hz
          · simp at hz; rw [hz]; exact hx
        case measure => simp [intOf]; omega
      · go_wp2_with fail
        refine (HQ.out _ (n + 2 + 20 * k) HS1.out (by omega)).mono ?_
        rintro e w2 ⟨x, rfl, hx, hs2, ht2⟩
        have hwz2 := ht2.size
        have hown2 := owns_touch HWN.out ht2 (by omega)
        have HT2 := Lib.hid (HT1.out.trans ht2); have HS2 := Lib.hid hs2; have HWN := Lib.hid hown2
        clear ht2 hs2 hown2
        go_wp2_with (at_builtin; refine wp_app rfl _ _ 29 rfl w.heap.size i0 (.float .f32 0) 1 4 Try.underlying29 hi hz0 hz1 hz2 rfl (by decide) rfl (one_cell _ rfl) _ _ _ rfl HWN.out rfl ?c3 ?c4 ?c5 ?_)
        case c3 => unfold maxLen; omega
        case c4 => omega
        case c5 => omega
        intro v' w9 hown1 hb9 hbs1
        have hs9 := src_belowB HS2.out hb9 (by omega)
        have ht9 := touch_below' HT2.out (hb9.mono (by omega))
        have HS9 := Lib.hid hs9; have HT9 := Lib.hid ht9
        clear hs9 ht9 hb9
        go_wp2
        go_roundw
        case rel =>
          refine ⟨k + 1, by congr 1; omega, hlt, ys ++ [x], by simpa using hown1, ?_, HS9.out.mono (by omega), HT9.out⟩
          intro z hz
          rcases List.mem_append.1 hz with hz | hz
          · exact HLT.out z hz
          · simp at hz; rw [hz]; exact hx
        case measure => simp [intOf]; omega
    · have hkn : k = N := by omega
      subst hkn
      have hp : (k : Int) - k ≤ 0 := by omega
      go_wp2
      go_ret
      obtain ⟨ad, cap, rfl, hr⟩ := RepF.of_owns HWN.out HLT.out
      exact ⟨ad, cap, rfl, ⟨ys, hr⟩, HS1.out.mono (by omega), HT1.out⟩
set_option maxRecDepth 100000 in
set_option maxHeartbeats 2000000 in
theorem b10_small (w : World) (a0 : Option Addr) (c0 : Nat) (l0 : List Int) (h : Ints .u8 w a0 c0 l0) (N : Nat) (hN : N ≤ 100000) :
    Calls Try.prog 24 #[.slice a0 l0.length c0, .int .i64 N] w fun e w' => ∃ (ad : Option Addr) (cap : Nat) (ys : List Nat), e = .returned (.slice ad N cap) ∧ RepF w' w.heap.size w'.heap.size ad N cap ys ∧ Hid (∀ y ∈ ys, isPl y) ∧ Below w.heap.size w w' := by
  obtain ⟨i0, hi, hz0, hz1, hz2⟩ := info_parts info_f32
  have hp := fun W m hW hm => draw_plain W w.heap.size m hW hm
  have hf := src_from w a0 c0 l0 h
  have HP := Lib.hid hp; have HF := Lib.hid hf; clear hp hf h
  go_enter Try.func24, Try.ntmps24
  go_wp2_with fail
  refine HF.out.mono ?_
  rintro e w1 ⟨rfl, hs, hb1, hz⟩
  obtain ⟨g, hg⟩ : ∃ g, g = w.heap.size := ⟨_, rfl⟩
  rw [← hg] at hs hz HP ⊢
  obtain ⟨n, hn⟩ : ∃ n, n = 0 := ⟨_, rfl⟩
  rw [← hn] at hs
  have hn0 : n ≤ 0 := by omega
  have hgl : w.heap.size ≤ g := by omega
  have HG := Lib.hid hg; have HB1 := Lib.hid hb1; clear hn hg hb1
  have hS1 := src_belowB hs (below1 w1 (.cells #[] 24)) hz
  have HS1 := Lib.hid hS1; clear hS1
  go_wp2
  go_loopw [6, 1] (fun v i wr => ∃ k : Nat, i = .int .i64 ((N : Int) - k) ∧ k ≤ N ∧ ∃ ys : List Nat, wr.ownsRow w1.heap.size 24 1 v k (ys.map (Value.float .f32)) ∧ (∀ y ∈ ys, isPl y) ∧ Src wr g (n + 0 + 4 * k) ∧ Touch g (g + 1) w1 wr) (fun _ i _ => (intOf i).toNat)
  case atStart => exact ⟨0, by simp, Nat.zero_le _, [], World.ownsRow_made _ _ _ (Nat.le_refl _) (Nat.zero_le _) rfl, (fun y hy => nomatch hy), (hs.below (below1 _ _)).mono (by omega), Touch.of_below (below1 _ _)⟩
  case round =>
    clear hs HS1
    obtain ⟨k, rfl, hk, ys, hown, hys, hs, ht⟩ := hrel
    have hwz := ht.size
    have HLT := Lib.hid hys; have HWN := Lib.hid hown; have HS1 := Lib.hid hs; have HT1 := Lib.hid ht; clear hys hown hs ht
    by_cases hlt : k < N
    · have hp : 0 < (N : Int) - k := by omega
      go_wp2_with fail
      refine (HP.out _ (n + 0 + 4 * k) HS1.out (by omega)).mono ?_
      rintro e w2 ⟨x, rfl, hx, hs2, ht2⟩
      have hx := hx.out
      have HXX := Lib.hid hx; clear hx
      have hwz2 := ht2.size
      have hown2 := owns_touch HWN.out ht2 (by omega)
      have HT2 := Lib.hid (HT1.out.trans ht2); have HS2 := Lib.hid hs2; have HWN := Lib.hid hown2
      clear ht2 hs2 hown2
      go_wp2_with (at_builtin; refine wp_app rfl _ _ 29 rfl w1.heap.size i0 (.float .f32 0) 1 4 Try.underlying29 hi hz0 hz1 hz2 rfl (by decide) rfl (one_cell _ rfl) _ _ _ rfl HWN.out rfl ?c3 ?c4 ?c5 ?_)
      case c3 => unfold maxLen; omega
      case c4 => omega
      case c5 => omega
      intro v' w9 hown1 hb9 hbs1
      have hs9 := src_belowB HS2.out hb9 (by omega)
      have ht9 := touch_below' HT2.out (hb9.mono (by omega))
      have HS9 := Lib.hid hs9; have HT9 := Lib.hid ht9
      clear hs9 ht9 hb9
      go_wp2
      go_roundw
      case rel =>
        refine ⟨k + 1, by congr 1; omega, hlt, ys ++ [x], by simpa using hown1, ?_, HS9.out.mono (by omega), HT9.out⟩
        intro z hz
        rcases List.mem_append.1 hz with hz | hz
        · exact HLT.out z hz
        · simp at hz; rw [hz]; exact HXX.out
      case measure => simp [intOf]; omega
    · have hkn : k = N := by omega
      subst hkn
      have hp : (k : Int) - k ≤ 0 := by omega
      go_wp2
      go_ret
      obtain ⟨ad, cap, rfl, hr⟩ := RepF.of_owns HWN.out (fun x hx => isPl_lt (HLT.out x hx))
      refine ⟨ad, cap, ys, rfl, ?_, HLT, ?_⟩
      · exact hr.bounds (by omega) (Nat.le_refl _)
      · exact touch_from HB1.out hgl HT1.out
theorem b10_plain (w : World) (a0 : Option Addr) (c0 : Nat) (l0 : List Int) (h : Ints .u8 w a0 c0 l0) :
    Calls Try.prog 17 #[.slice a0 l0.length c0] w fun e w' => ∃ x : Nat, e = .returned (.float .f32 x) ∧ Hid (isPl x) ∧ Below w.heap.size w w' := by
  have hp := fun W m hW hm => draw_plain W w.heap.size m hW hm
  have hf := src_from w a0 c0 l0 h
  have HP := Lib.hid hp; have HF := Lib.hid hf; clear hp hf h
  go_enter Try.func17, Try.ntmps17
  go_wp2_with fail
  refine HF.out.mono ?_
  rintro e w1 ⟨rfl, hs, hb1, hz⟩
  have HS := Lib.hid hs; have HB := Lib.hid hb1; clear hs hb1
  go_wp2_with fail
  refine (HP.out _ 0 HS.out (by decide)).mono ?_
  rintro e w2 ⟨x, rfl, hx, hs2, ht2⟩
  have HT := Lib.hid ht2; clear hs2 ht2
  go_wp2
  go_ret
  exact ⟨x, rfl, hx, touch_from HB.out (Nat.le_refl _) HT.out⟩
theorem b10_number (w : World) (a0 : Option Addr) (c0 : Nat) (l0 : List Int) (h : Ints .u8 w a0 c0 l0) :
    Calls Try.prog 16 #[.slice a0 l0.length c0] w fun e w' => ∃ x : Nat, e = .returned (.float .f32 x) ∧ x < 4294967296 ∧ Below w.heap.size w w' := by
  have hp := fun W m hW hm => draw_float W w.heap.size m hW hm
  have hk := fun W m hW hm => src_pick W w.heap.size m hW hm 65536 (by decide) (by decide)
  have ho := fun W m hW hm => src_one W w.heap.size m hW hm 2 (by decide) (by decide)
  have hf := src_from w a0 c0 l0 h
  have HP := Lib.hid hp; have HF := Lib.hid hf; have HK := Lib.hid hk; have HO := Lib.hid ho; clear hp hf h hk ho
  go_enter Try.func16, Try.ntmps16
  go_wp2_with fail
  refine HF.out.mono ?_
  rintro e w1 ⟨rfl, hs, hb1, hz⟩
  have HS := Lib.hid hs; have HB := Lib.hid hb1; clear hs hb1
  go_wp2_with fail
  refine (HO.out _ 0 HS.out (by decide)).mono ?_
  rintro e w2 ⟨b, rfl, hs2, ht2⟩
  have HS2 := Lib.hid hs2; have HT2 := Lib.hid ht2; clear hs2 ht2
  cases b
  · go_wp2_with fail
    refine (HP.out _ _ HS2.out (by decide)).mono ?_
    rintro e w3 ⟨x, rfl, hx, hs3, ht3⟩
    have HT := Lib.hid ht3; clear hs3 ht3
    go_wp2
    go_ret
    exact ⟨x, rfl, hx, touch_from HB.out (Nat.le_refl _) (HT2.out.trans HT.out)⟩
  · go_wp2_with fail
    refine (HK.out _ _ HS2.out (by decide)).mono ?_
    rintro e w3 ⟨a, rfl, ha, hs3, ht3⟩
    have HS3 := Lib.hid hs3; have HT3 := Lib.hid ht3; clear hs3 ht3
    go_wp2_with fail
    refine (HK.out _ _ HS3.out (by decide)).mono ?_
    rintro e w4 ⟨d, rfl, hd, hs4, ht4⟩
    have HT4 := Lib.hid ht4; clear hs4 ht4
    go_wp2_with fail
    refine (spec_l01From (a * 65536 + d) (by omega) _).mono ?_
    rintro e w5 ⟨rfl, rfl⟩
    go_wp2
    go_ret
    exact ⟨_, rfl, by omega, touch_from HB.out (Nat.le_refl _) ((HT2.out.trans HT3.out).trans HT4.out)⟩
theorem b10_numbers (w : World) (a0 : Option Addr) (c0 : Nat) (l0 : List Int) (h : Ints .u8 w a0 c0 l0) (N : Nat) (hN : N ≤ 100000) :
    Calls Try.prog 10 #[.slice a0 l0.length c0, .int .i64 N] w fun e w' => ∃ (ad : Option Addr) (cap : Nat) (ys : List Nat), e = .returned (.slice ad N cap) ∧ RepF w' w.heap.size w'.heap.size ad N cap ys ∧ Below w.heap.size w w' := by
  have hp := fun W m hW hm => draw_floats W w.heap.size m hW hm N hN
  have hf := src_from w a0 c0 l0 h
  have HP := Lib.hid hp; have HF := Lib.hid hf; clear hp hf h
  go_enter Try.func10, Try.ntmps10
  go_wp2_with fail
  refine HF.out.mono ?_
  rintro e w1 ⟨rfl, hs, hb1, hz⟩
  have HS := Lib.hid hs; have HB := Lib.hid hb1; clear hs hb1
  go_wp2_with fail
  refine (HP.out _ 0 HS.out (by decide)).mono ?_
  rintro e w2 ⟨ad, cap, ys, rfl, hr, hs2, ht2⟩
  have HT := Lib.hid ht2; have HR := Lib.hid hr; clear hs2 ht2 hr
  go_wp2
  go_ret
  exact ⟨ad, cap, ys, rfl, HR.out.bounds (by omega) (Nat.le_refl _), touch_from HB.out (Nat.le_refl _) HT.out⟩
end Go.Proofs.Ytnhikdjljjemlaa
/- What the laws choose by the bytes that they get. No condition. -/
namespace Go.Proofs.Ytnhikdjljjemlaa
open Go Go.RowKit
set_option linter.unusedVariables false
theorem b10Long_no (a1 a2 : Option Addr) (n1 n2 c1 c2 : Nat) (w : World) (h1 : n1 ≤ 1048576) (h2 : n2 ≤ 1048576) :
    Calls Try.prog 7 #[.slice a1 n1 c1, .slice a2 n2 c2] w fun e w' => e = .returned (.bool false) ∧ w = w' := by
  go_enter Try.func7, Try.ntmps7
  go_wp2
  go_ret
  refine ⟨?_, rfl⟩
  simp
  omega
theorem b10Long_yes (a1 a2 : Option Addr) (n1 n2 c1 c2 : Nat) (w : World) (h : ¬ (n1 ≤ 1048576 ∧ n2 ≤ 1048576)) :
    Calls Try.prog 7 #[.slice a1 n1 c1, .slice a2 n2 c2] w fun e w' => e = .returned (.bool true) ∧ w = w' := by
  by_cases h1 : 1048576 < n1
  · clear h
    go_enter Try.func7, Try.ntmps7
    go_wp2
    go_ret
    exact ⟨rfl, rfl⟩
  · have h2 : 1048576 < n2 := by omega
    clear h
    go_enter Try.func7, Try.ntmps7
    go_wp2
    go_ret
    refine ⟨?_, rfl⟩
    simp
    omega
theorem b10At_any (w : World) (ad : Option Addr) (cap : Nat) (xs : List Int) (h : Ints .u8 w ad cap xs) (i n : Int) (h0 : 0 ≤ i) (h1 : i ≤ 1000000) (hn : 1 ≤ n) (hn2 : n ≤ 1000000) :
    Calls Try.prog 9 #[.slice ad xs.length cap, .int .i64 i, .int .i64 n] w fun e w' => ∃ r : Nat, e = .returned (.int .i64 r) ∧ (r : Int) < n ∧ w = w' := by
  have hm := Nat.le_trans h.len h.cap
  unfold maxLen at hm
  obtain ⟨i, rfl⟩ := Int.eq_ofNat_of_zero_le h0
  by_cases hn1 : n ≤ 1
  · go_enter Try.func9, Try.ntmps9
    go_wp2
    go_ret
    exact ⟨0, rfl, by omega, rfl⟩
  · by_cases hi : i < xs.length
    · obtain ⟨b, off, rfl, _, hc⟩ := h.spot (i := i) hi
      have hcell := hc i hi
      have hw := h.wf (xs.getD i 0) (by rw [List.getD_eq_getElem?_getD, List.getElem?_eq_getElem hi]; exact List.getElem_mem hi)
      obtain ⟨x, hx⟩ : ∃ x, x = xs.getD i 0 := ⟨_, rfl⟩
      rw [← hx] at hcell hw
      have hb := bounds_u8 hw
      obtain ⟨hb0, hb1⟩ := hb
      obtain ⟨l, hl⟩ : ∃ l, l = xs.length := ⟨_, rfl⟩
      rw [← hl] at hi hm ⊢
      clear hx hw hc h hl
      go_enter Try.func9, Try.ntmps9
      go_wp2
      go_ret
      have g0 := Int.emod_nonneg x (show n ≠ 0 by omega)
      have g1 := Int.emod_lt_of_pos x (show 0 < n by omega)
      exact ⟨(x % n).toNat, by rw [Int.toNat_of_nonneg g0]; rfl, by omega, rfl⟩
    · clear h
      obtain ⟨l, hl⟩ : ∃ l, l = xs.length := ⟨_, rfl⟩
      rw [← hl] at hi hm ⊢
      clear hl
      go_enter Try.func9, Try.ntmps9
      go_wp2
      go_ret
      have g0 := Int.emod_nonneg ((i : Int) * 37 + 11) (show n ≠ 0 by omega)
      have g1 := Int.emod_lt_of_pos ((i : Int) * 37 + 11) (show 0 < n by omega)
      exact ⟨(((i : Int) * 37 + 11) % n).toNat, by rw [Int.toNat_of_nonneg g0]; rfl, by omega, rfl⟩
end Go.Proofs.Ytnhikdjljjemlaa
/- What parameters that become less are. No condition. -/
namespace Go.Proofs.Ytnhikdjljjemlaa
open Go Go.RowKit
set_option linter.unusedVariables false
def decF (r x : Nat) : Nat := fop .sub .f32 x (fop .mul .f32 r x)
theorem getD_getElem {α : Type} {xs : List α} {k : Nat} {d : α} (h : k < xs.length) : xs.getD k d = xs[k] := by simp [h]
theorem map_take_next {α β : Type} {xs : List α} {ys : List β} {f : α → β} {k : Nat} {y : β} {d : α} (h : ys = (xs.take k).map f) (hk : k < xs.length) (hy : y = f (xs.getD k d)) : ys ++ [y] = (xs.take (k + 1)).map f := by
  rw [List.take_succ_eq_append_getElem hk, List.map_append, ← h, hy, getD_getElem hk]; rfl
def decSpec (r : Nat) (xs : List Nat) : List Nat := if xs.length ≤ 256 then xs.map (decF r) else []
end Go.Proofs.Ytnhikdjljjemlaa
/- What the rate of a step and a power compute. No condition. -/
namespace Go.Proofs.Ytnhikdjljjemlaa
open Go Go.RowKit
set_option linter.unusedVariables false
def two32 : Nat := 1073741824
/-- halved so many times -/
def halves : Nat → Nat → Nat
  | 0, x => x
  | n + 1, x => fop .quo .f32 (halves n x) 1073741824
def powF (b : Nat) : Nat → Nat
  | 0 => 1065353216
  | n + 1 => fop .mul .f32 (powF b n) b
def rateF (b : Nat) (warm half step : Int) : Nat :=
  if step < warm then fop .quo .f32 (fop .mul .f32 b (floatOfInt .f32 (step + 1))) (floatOfInt .f32 warm) else halves ((step - warm) / half).toNat b
theorem cn_two32 : cn .f32 1073741824 = 1073741824 := by decide +kernel
theorem cn_one32 : cn .f32 1065353216 = 1065353216 := by decide +kernel
theorem cn_zero32 : cn .f32 0 = 0 := by decide +kernel
theorem impl_power (b : Nat) (n : Int) (w : World) (h0 : 0 ≤ n) (h1 : n ≤ 1001) :
    Calls Try.prog 79 #[.float .f32 b, .int .i64 n] w fun e w' => ∃ r, e = .returned (.float .f32 r) ∧ cn .f32 r = powF (cn .f32 b) n.toNat ∧ Dr w w' := by
  obtain ⟨m, rfl⟩ : ∃ m : Nat, n = m := ⟨n.toNat, by omega⟩
  go_enter Try.func79, Try.ntmps79
  go_wp2
  go_loopw [5, 7] (fun v i wr => ∃ k : Nat, i = .int .i64 k ∧ k ≤ m ∧ ∃ r, v = .float .f32 r ∧ cn .f32 r = powF (cn .f32 b) k ∧ Dr w wr) (fun _ i _ => m - (intOf i).toNat)
  case atStart => exact ⟨0, rfl, Nat.zero_le _, _, rfl, cn_one32, Dr.refl _⟩
  case round =>
    obtain ⟨k, rfl, hk, r, rfl, hr, m', rfl⟩ := hrel
    have HR : Hid (cn .f32 r = powF (cn .f32 b) k) := hr
    clear hr
    by_cases hlt : k < m
    · go_wp2
      go_roundw
      case rel => exact ⟨k + 1, by go_num, hlt, _, rfl, by rw [cn_fbits, HR.out]; rfl, _, rfl⟩
      case measure => simp [intOf]; omega
    · go_wp2
      go_ret
      refine ⟨_, rfl, ?_, _, rfl⟩
      rw [HR.out]
      congr 1
      simp; omega
end Go.Proofs.Ytnhikdjljjemlaa
/- What sums and dots of lists are. No condition. -/
namespace Go.Proofs.Ytnhikdjljjemlaa
open Go Go.RowKit Ieee
set_option linter.unusedVariables false
set_option linter.unusedSimpArgs false
def VS (c : Nat) (v : Value) : Prop := ∃ r, v = .float .f32 r ∧ cn .f32 r = c
theorem F32s.cut {w : World} {g off cap : Nat} {xs : List Nat} (h : F32s w (some ⟨g, off, none⟩) cap xs) (m : Nat) (hm : m ≤ xs.length) : F32s w (some ⟨g, off, none⟩) cap (xs.take m) ∧ F32s w (some ⟨g, off + m, none⟩) (cap - m) (xs.drop m) := by
  have h1 := h.len; have h2 := h.cap
  refine ⟨⟨by simp; omega, h2, ?_, fun x hx => h.lt x (List.mem_of_mem_take hx)⟩, ⟨by simp; omega, by omega, ?_, fun x hx => h.lt x (List.mem_of_mem_drop hx)⟩⟩
  · rcases h.rd with h3 | ⟨b, o, e, hb, hc⟩
    · left; rw [List.map_take, h3]; simp
    · right
      refine ⟨b, o, e, hb, fun j hj => ?_⟩
      simp only [List.length_map, List.length_take] at hj
      rw [hc j (by simp; omega), List.map_take, List.getElem?_take, if_pos (by omega)]
  · rcases h.rd with h3 | ⟨b, o, e, hb, hc⟩
    · left; rw [List.map_drop, h3]; simp
    · right
      cases e
      refine ⟨g, off + m, rfl, hb, fun j hj => ?_⟩
      simp only [List.length_map, List.length_drop] at hj
      rw [Nat.add_assoc, hc (m + j) (by simp; omega), List.map_drop, List.getElem?_drop]
end Go.Proofs.Ytnhikdjljjemlaa
/- The law of sums, walked. No condition. -/
namespace Go.Proofs.Ytnhikdjljjemlaa
open Go Go.RowKit Ieee
set_option linter.unusedVariables false
set_option linter.unusedSimpArgs false
theorem keepD {a w w' : World} {n : Nat} (h : Below a.heap.size a w) (hd : Dr (w.drewN n) w') : Below a.heap.size a w' := by
  obtain ⟨m, rfl⟩ := hd
  exact below_drewN (below_drewN h _) _
theorem canon_list {xs : List Nat} (h : ∀ x ∈ xs, x < 4294967296) : ∀ i, cn .f32 ((xs.map (cn .f32)).getD i 0) = (xs.map (cn .f32)).getD i 0 ∧ (xs.map (cn .f32)).getD i 0 < 4294967296 := by
  intro i
  rw [cn_getD, cn_cn]
  refine ⟨rfl, ?_⟩
  unfold cn
  split
  · decide
  · by_cases hi : i < xs.length
    · rw [List.getD_eq_getElem?_getD, List.getElem?_eq_getElem hi]; exact h _ (List.getElem_mem hi)
    · rw [List.getD_eq_getElem?_getD, List.getElem?_eq_none (by omega)]; decide
theorem F32s.none_ (w : World) (ad : Option Addr) (c : Nat) (hc : c ≤ maxLen) : F32s w ad c [] := ⟨Nat.zero_le _, hc, .inl rfl, fun x hx => nomatch hx⟩
theorem spec_SameNumber (a b : Nat) (ha : a < 4294967296) (hb : b < 4294967296) (w : World) : Calls Try.prog 14 #[.float .f32 a, .float .f32 b] w fun e w' => e = .returned (.bool (decide (cn .f32 a = cn .f32 b))) ∧ Dr w w' := by
  have k1 : ∀ W, Calls Try.prog 44 #[.float .f32 a, .float .f32 b] W fun e w' => e = .returned (.bool (decide (cn .f32 a = cn .f32 b))) ∧ W = w' := by
    intro W
    have k1 := fun W => spec_l01Bits a ha W
    have k2 := fun W => spec_l01Bits b hb W
    obtain ⟨p, hp⟩ : ∃ p, p = cn .f32 a := ⟨_, rfl⟩
    obtain ⟨q, hq⟩ : ∃ q, q = cn .f32 b := ⟨_, rfl⟩
    rw [← hp] at k1 ⊢
    rw [← hq] at k2 ⊢
    clear hp hq ha hb
    go_enter Try.func44, Try.ntmps44
    go_wp2_with fail
    refine (k1 _).mono ?_
    rintro e w1 ⟨rfl, rfl⟩
    go_wp2_with fail
    refine (k2 _).mono ?_
    rintro e w1 ⟨rfl, rfl⟩
    go_wp2
    go_ret
    refine ⟨?_, rfl⟩
    congr 2
    by_cases h : p = q
    · subst h; simp
    · have h2 : ¬ (p : Int) = q := by omega
      simp [h, h2]
  go_enter Try.func14, Try.ntmps14
  go_wp2_with fail
  refine (k1 _).mono ?_
  rintro e w1 ⟨rfl, rfl⟩
  go_wp2
  go_ret
  exact ⟨rfl, Dr.refl _⟩
end Go.Proofs.Ytnhikdjljjemlaa
/- What the program's LossEntropy returns. No condition. -/
namespace Go.Proofs.Ytnhikdjljjemlaa
open Go Go.RowKit Ieee
set_option linter.unusedVariables false
set_option linter.unusedSimpArgs false
/-- a number less the greatest one, the exponential function of it, their sum, the shares, the gradients, the loss -/
def dE (X : List Nat) (b i : Nat) : Nat := fop .sub .f32 (X.getD i 0) (X.getD b 0)
def eE (X : List Nat) (b i : Nat) : Nat := expF (dE X b i)
def sE (X : List Nat) (b n : Nat) : Nat := sumS (listOf n (eE X b)) n
def rE (X : List Nat) (b n i : Nat) : Nat := fop .quo .f32 (eE X b i) (sE X b n)
def lE (X : List Nat) (b n l i : Nat) : Nat := if i = l then fop .sub .f32 (rE X b n i) 1065353216 else rE X b n i
def tE (X : List Nat) (b n l : Nat) : Nat := fop .sub .f32 (logG (sE X b n)) (dE X b l)
def entOk (n : Nat) (l : Int) : Bool := inB n 1 8 && inB l 0 ((n : Int) - 1)
theorem fop_lt {op : BinOp} (x y : Nat) : fop op .f32 x y < 4294967296 := by
  rw [← fop_cn, ← cn_fbits op .f32 x y (default : World)]
  unfold cn
  split
  · decide
  · exact fbits_lt op .f32 x y _
theorem ent_facts {xs : List Nat} (hx : ∀ x ∈ xs, x < 4294967296) {n : Nat} (hn : xs.length = n) (i : Nat) (hi : i < n) :
    okExp (dE (xs.map (cn .f32)) (gBest xs n) i) ∧ (isN .f32 (eE (xs.map (cn .f32)) (gBest xs n) i) = true ∨ Btw .f32 0 1 (eE (xs.map (cn .f32)) (gBest xs n) i)) := by
  have hm := gBest_max hx n (by omega) i hi
  unfold gtF at hm
  have ho : FloatKind.f32.format.order ((xs.map (cn .f32)).getD i 0) ((xs.map (cn .f32)).getD (gBest xs n) 0) ≠ some .gt := by
    rw [cn_getD, cn_getD, order_cn]
    intro e; rw [e] at hm; exact absurd hm (by decide)
  have h := exp_le (fop_lt _ _) (sub_le ho)
  rw [cn_fop] at h
  exact h
theorem ent_best {xs : List Nat} (hx : ∀ x ∈ xs, x < 4294967296) (b : Nat) : isN .f32 (eE (xs.map (cn .f32)) b b) = true ∨ eE (xs.map (cn .f32)) b b = 1065353216 := by
  unfold eE dE
  obtain ⟨m, hm⟩ : ∃ m, m = (xs.map (cn .f32)).getD b 0 := ⟨_, rfl⟩
  rw [← hm]
  cases hf : finB m
  · left
    have e : fop .sub .f32 m m = nanOf .f32 := by unfold fop; rw [sub_self_not hf]; rfl
    rw [e]; decide +kernel
  · right
    rw [fop_some (sub_self_fin hf)]; decide +kernel
theorem listOf_getD2 {n k : Nat} (f : Nat → Nat) : (listOf n f).getD k 0 = if k < n then f k else 0 := by
  by_cases h : k < n
  · rw [if_pos h, listOf_getD f h]
  · rw [if_neg h, List.getD_eq_getElem?_getD, List.getElem?_eq_none (by rw [listOf_length]; omega)]; rfl
theorem ent_sum {xs : List Nat} (hx : ∀ x ∈ xs, x < 4294967296) {n : Nat} (hn : xs.length = n) (h1 : 1 ≤ n) (h8 : n ≤ 8) :
    isN .f32 (sE (xs.map (cn .f32)) (gBest xs n) n) = true ∨ Btw .f32 1 n (sE (xs.map (cn .f32)) (gBest xs n) n) := by
  have hb : gBest xs n < n := by have := gBest_le xs n; omega
  have h := sum_btw (E := listOf n (eE (xs.map (cn .f32)) (gBest xs n))) (b := gBest xs n) (fun i => by
    rw [listOf_getD2]
    split
    · rename_i hi; exact (ent_facts hx hn i hi).2
    · right
      refine ⟨zero_fin.1, ?_, ?_⟩
      · show ((0 : Int) : Rat) ≤ val single 0
        rw [zero_fin.2]; decide +kernel
      · show val single 0 ≤ ((1 : Int) : Rat)
        rw [zero_fin.2]; decide +kernel) (by rw [listOf_getD2, if_pos hb]; exact ent_best hx _) n (by omega)
  rw [if_pos hb] at h
  exact h
set_option maxRecDepth 100000 in
set_option maxHeartbeats 2000000 in
theorem impl_exps (w : World) (ad : Option Addr) (cap : Nat) (xs : List Nat) (h : F32s w ad cap xs) (n : Nat) (hN : n = xs.length) (h1 : 1 ≤ n) (h8 : n ≤ 8) :
    Calls Try.prog 63 #[.slice ad n cap] w fun e w' => ∃ ad' cap' ys, e = .returned (.tuple #[.float .f32 (xs.getD (gBest xs n) 0), .slice ad' n cap']) ∧
      RepF w' w.heap.size w'.heap.size ad' n cap' ys ∧ Hid (ys.map (cn .f32) = listOf n (eE (xs.map (cn .f32)) (gBest xs n))) ∧ Below w.heap.size w w' := by
  obtain ⟨i0, hi, hz0, hz1, hz2⟩ := info_parts info_f32
  have hlt' := h.lt
  have kg := fun W hW => impl_greatestOf W ad cap xs hW (by omega) (by omega)
  rw [← hN] at kg
  have hbn : gBest xs n < n := by have := gBest_le xs n; omega
  have hfa := fun i (hi : i < n) => ent_facts hlt' hN.symm i hi
  have hd : ∀ i (w : World), cn .f32 (fbits .sub .f32 (xs.getD i 0) (xs.getD (gBest xs n) 0) w) = dE (xs.map (cn .f32)) (gBest xs n) i := by
    intro i w; rw [cn_fbits]; unfold dE; rw [cn_getD, cn_getD]
  obtain ⟨b, hb⟩ : ∃ b, b = gBest xs n := ⟨_, rfl⟩
  rw [← hb] at kg hbn hfa hd ⊢
  obtain ⟨X, hX⟩ : ∃ X, X = xs.map (cn .f32) := ⟨_, rfl⟩
  rw [← hX] at hfa hd ⊢
  obtain ⟨m, hm⟩ : ∃ m, m = xs.getD b 0 := ⟨_, rfl⟩
  rw [← hm] at hd ⊢
  have HM := Lib.hid hm; have HD := Lib.hid hd; have HFA := Lib.hid hfa; have KG := Lib.hid kg; have HN := Lib.hid hN
  clear hm hd hfa kg hX hb hN hlt'
  go_enter Try.func63, Try.ntmps63
  go_wp2_with fail
  refine (KG.out _ h).mono ?_
  rintro e w1 ⟨rfl, rfl⟩
  have HB1 := Lib.hid (Below.refl w.heap.size w)
  obtain ⟨bl, off, rfl, hbl, hc⟩ := h.spot (k := b) (by rw [← HN.out]; exact hbn)
  have hcb := hc b (by rw [← HN.out]; exact hbn)
  rw [← HM.out] at hcb
  have HC := Lib.hid hc; clear hc
  have hs1 := HB1.out.size
  go_wp2
  clear hcb
  go_loopw [5, 16] (fun v i wr => ∃ k : Nat, i = .int .i64 k ∧ k ≤ n ∧ ∃ ys : List Nat, Hid (wr.ownsRow w.heap.size 24 1 v k (ys.map (Value.float .f32)) ∧ ys.map (cn .f32) = listOf k (eE X b) ∧ ∀ y ∈ ys, y < 4294967296) ∧ Hid (Below w.heap.size w wr) ∧ w.heap.size ≤ wr.heap.size) (fun _ i _ => n - (intOf i).toNat)
  case atStart => exact ⟨0, rfl, Nat.zero_le _, [], Lib.hid ⟨World.ownsRow_made _ _ _ (Nat.le_refl _) (Nat.zero_le _) rfl, rfl, fun y hy => nomatch hy⟩, Lib.hid (below1 _ _), by simp⟩
  case round =>
    obtain ⟨k, rfl, hk, ys, HO, HB, hbs⟩ := hrel
    by_cases hlt : k < n
    · have hck : wr.cell? ⟨bl, off + k, none⟩ = some (.float .f32 (xs.getD k 0)) := (HB.out.cell (p := ⟨bl, off + k, none⟩) hbl).trans (HC.out k (by rw [← HN.out]; exact hlt))
      have hD := fun w => HD.out k w
      obtain ⟨x, hx⟩ : ∃ x, x = xs.getD k 0 := ⟨_, rfl⟩
      rw [← hx] at hck
      rw [← hx] at hD
      have HDk := Lib.hid hD; clear hx hD
      have HOR := Lib.hid HO.out.1
      go_wp2_with fail
      generalize hz : fbits BinOp.sub FloatKind.f32 x m _ = z
      have hzc : cn .f32 z = dE X b k := by rw [← hz]; exact HDk.out _
      have hzl : z < 4294967296 := by rw [← hz]; exact fbits_lt _ .f32 _ _ _
      have hok : okExp z := okExp_of_cn (by rw [hzc]; exact (HFA.out k hlt).1)
      have HZ := Lib.hid hzc
      clear hz hzc
      refine (impl_ExpNumber z hzl hok _).mono ?_
      rintro e w3 ⟨r, rfl, hr, hd3⟩
      have hb3 : Below wr.heap.size wr w3 := by
        obtain ⟨q, rfl⟩ := hd3
        exact below_drewN (below_drewN (Below.refl _ _) _) _
      have hown3 := owns_below HOR.out hb3
      have HOW := Lib.hid hown3; have HB3 := Lib.hid (HB.out.trans (hb3.mono hbs)); have hs3 := hb3.size
      clear hown3 hb3 hd3 hok HOR
      go_wp2_with (at_builtin; refine wp_app rfl _ _ 29 rfl w.heap.size i0 (.float .f32 0) 1 4 Try.underlying29 hi hz0 hz1 hz2 rfl (by decide) rfl (one_cell _ rfl) _ _ _ rfl HOW.out rfl ?c3 ?c4 ?c5 ?_)
      case c3 => unfold maxLen; omega
      case c4 => omega
      case c5 => omega
      intro v' w9 hown1 hb9 hbs9
      have HO9 := Lib.hid hown1; have HB9 := Lib.hid (HB3.out.trans hb9)
      clear hown1 hb9
      go_wp2
      go_roundw
      case rel =>
        refine ⟨k + 1, by go_num, hlt, ys ++ [r], Lib.hid ⟨by rw [List.map_append]; exact HO9.out, ?_, ?_⟩, HB9, hbs9⟩
        · rw [List.map_append, HO.out.2.1, listOf_succ]
          congr 1
          show [cn .f32 r] = [eE X b k]
          rw [hr.out.1, HZ.out]; rfl
        · intro y hy
          rcases List.mem_append.1 hy with hy | hy
          · exact HO.out.2.2 y hy
          · simp at hy; rw [hy]; exact hr.out.2
      case measure => simp [intOf]; omega
    · have hkn : k = n := by omega
      subst hkn
      obtain ⟨ad', cap', rfl, hr⟩ := RepF.of_owns HO.out.1 HO.out.2.2
      have HR := Lib.hid (hr.bounds hs1 (Nat.le_refl _))
      clear hr
      go_wp2
      go_ret2
      exact ⟨ad', cap', ys, rfl, HR.out, Lib.hid HO.out.2.1, HB1.out.trans (HB.out.mono hs1)⟩
end Go.Proofs.Ytnhikdjljjemlaa
/- Plain laws of FnClipped, and what it calls. No condition. -/
namespace Go.Proofs.Ytnhikdjljjemlaa
open Go Go.RowKit Ieee
set_option linter.unusedVariables false
set_option linter.unusedSimpArgs false
/-- plain numbers -/
def okGb (x : Nat) : Bool := decide (x % 2147483648 < 2139095040) && decide (val single x * val single x = 0 ∨ 1 / 256 ≤ val single x * val single x) && decide (val single x * val single x ≤ 90)
theorem pl_facts : ∀ j, j < 129 → okGb (plainQ 1088421888 j) = true ∧ okGb (plainQ 1098907648 j) = true := by decide +kernel
theorem pl_same : ∀ j, j < 129 → FloatKind.f32.format.order (decF 0 (plainQ 1088421888 j)) (plainQ 1088421888 j) = some .eq ∧ FloatKind.f32.format.order (decF 0 (plainQ 1098907648 j)) (plainQ 1098907648 j) = some .eq := by decide +kernel
def powOk (b : Nat) : Nat → Nat → Bool
  | 0, a => !isN .f32 a
  | k + 1, a => !isN .f32 a && powOk b k (fop .mul .f32 a b)
theorem pl_pow : ∀ j, j < 129 → powOk (plainQ 1088421888 j) 20 1065353216 = true ∧ powOk (plainQ 1098907648 j) 20 1065353216 = true := by decide +kernel
theorem fin_of {x : Nat} (hx : x < 4294967296) (h : x % 2147483648 < 2139095040) : Fin single x := by
  obtain ⟨s, r, rfl, hr⟩ := word_of single (x := x) (by rw [s_sw]; omega)
  refine ⟨s, r, rfl, ?_⟩
  rw [s_ir]
  rw [s_sw] at hr
  have e : single.word s r % 2147483648 = r := by
    unfold Format.word
    rw [s_sw]
    cases s <;> simp <;> omega
  omega
theorem okGb_ok {x : Nat} (hx : x < 4294967296) (h : okGb x = true) : okG x := by
  unfold okGb at h
  simp only [Bool.and_eq_true, decide_eq_true_eq] at h
  exact ⟨fin_of hx h.1.1, h.1.2, h.2⟩
theorem isPl.ok {x : Nat} (h : isPl x) : okG x := by
  refine okGb_ok (isPl_lt h) ?_
  obtain ⟨j, hj, h⟩ := h
  rcases h with rfl | rfl
  · exact (pl_facts j hj).1
  · exact (pl_facts j hj).2
theorem isPl.same {x : Nat} (h : isPl x) : FloatKind.f32.format.order (decF 0 x) x = some .eq := by
  obtain ⟨j, hj, h⟩ := h
  rcases h with rfl | rfl
  · exact (pl_same j hj).1
  · exact (pl_same j hj).2
theorem isPl.cn {x : Nat} (h : isPl x) : cn .f32 x = x := cn_not (Fin.not (k := .f32) h.ok.1)
theorem powOk_at {b : Nat} : ∀ n m, powOk b n (powF b m) = true → ∀ k, k ≤ n → isN .f32 (powF b (m + k)) = false
  | 0, m, h, k, hk => by
    have : k = 0 := by omega
    subst this
    simpa [powOk] using h
  | n + 1, m, h, k, hk => by
    unfold powOk at h
    simp only [Bool.and_eq_true, Bool.not_eq_true'] at h
    cases k with
    | zero => exact h.1
    | succ k =>
      have := powOk_at n (m + 1) h.2 k (by omega)
      rw [show m + (k + 1) = m + 1 + k by omega]; exact this
theorem isPl.pow {x : Nat} (h : isPl x) {k : Nat} (hk : k ≤ 20) : isN .f32 (powF x k) = false := by
  have hp : powOk x 20 (powF x 0) = true := by
    obtain ⟨j, hj, h⟩ := h
    rcases h with rfl | rfl
    · exact (pl_pow j hj).1
    · exact (pl_pow j hj).2
  have := powOk_at 20 0 hp k hk
  rwa [Nat.zero_add] at this
theorem powF_lt (b k : Nat) : powF b k < 4294967296 := by
  cases k with
  | zero => unfold powF; decide
  | succ k => exact fop_lt _ _
theorem cn_word {x y : Nat} (h : cn .f32 y = x) (hx : isN .f32 x = false) : y = x := by
  have h1 : isN .f32 y = false := by rw [← isN_cn, h]; exact hx
  rwa [cn_not h1] at h
/-- the greatest length -/
def mW (j : Nat) : Nat := fop .quo .f32 (floatOfInt .f32 (1 + (j : Int))) 1090519040
def mP (j : Nat) : Nat := fop .mul .f64 (fcv .f32 (mW j) .f64) 4607182463836013682
theorem mW_facts : ∀ j : Nat, j < 64 → floatBits .quo .f32 (floatOfInt .f32 (1 + (j : Int))) 1090519040 = some (mW j) ∧ floatBits .mul .f64 (fcv .f32 (mW j) .f64) 4607182463836013682 = some (mP j) ∧ mW j < 2139095040 ∧ mP j < 9218868437227405312 ∧ 1 / 8 ≤ val single (mW j) ∧ cLim * val single (mW j) ≤ val double (mP j) := by decide +kernel
theorem mW_fin {j : Nat} (hj : j < 64) : Fin single (mW j) := ⟨false, mW j, rfl, by rw [s_ir]; exact (mW_facts j hj).2.2.1⟩
theorem mP_fin {j : Nat} (hj : j < 64) : Fin double (mP j) := ⟨false, mP j, rfl, by have := (mW_facts j hj).2.2.2.1; exact Nat.lt_of_lt_of_le this (by decide +kernel)⟩
/-- the length behind clipping -/
theorem second_ok {X : List Nat} (h : ∀ i, okG (X.getD i 0)) {n j : Nat} (hn : n ≤ 8) (hj : j < 64) : Fin single (clR (clY (mW j) X n) n) ∧ val single (clR (clY (mW j) X n) n) ≤ cLim * val single (mW j) := by
  have hc := mW_fin hj
  have c1 := (mW_facts j hj).2.2.2.2.1
  have hl := len_rel (fun i => (h i).ok) hn
  cases hg : gtC (clR X n) (mW j)
  · have hY : clY (mW j) X n = X := by unfold clY; rw [if_neg (by rw [hg]; decide)]
    rw [hY]
    refine ⟨hl.1, ?_⟩
    have hle : val single (clR X n) ≤ val single (mW j) := by
      rcases rat_tri (val single (clR X n)) (val single (mW j)) with h1 | h1 | h1
      · exact Rat.le_of_lt h1
      · rw [h1]; exact Rat.le_refl
      · exfalso
        have := (order_val (k := .f32) hl.1 hc).2.1.2 h1
        unfold gtC at hg
        rw [this] at hg
        exact absurd hg (by decide)
    have h0 : (0 : Rat) ≤ val single (mW j) := Rat.le_trans (by decide +kernel) c1
    have h2 : 1 * val single (mW j) ≤ cLim * val single (mW j) := Rat.mul_le_mul_of_nonneg_right (by decide +kernel) h0
    rw [Rat.one_mul] at h2
    exact Rat.le_trans hle h2
  · have hY : clY (mW j) X n = listOf n (clG (mW j) X n) := by unfold clY; rw [if_pos hg]
    rw [hY]
    have hgt : val single (mW j) < val single (clR X n) := by
      refine (order_val (k := .f32) hl.1 hc).2.1.1 ?_
      unfold gtC at hg
      simpa using hg
    obtain ⟨h1, h2⟩ := clip_bound h hn hc c1 hgt
    exact ⟨(len_rel h1 hn).1, h2⟩
theorem second_cmp {X : List Nat} (h : ∀ i, okG (X.getD i 0)) {n j : Nat} (hn : n ≤ 8) (hj : j < 64) {r : Nat} (hr : cn .f32 r = clR (clY (mW j) X n) n) :
    FloatKind.f64.format.order (fcv .f32 r .f64) (mP j) ≠ some .gt := by
  obtain ⟨f, l⟩ := second_ok h hn hj
  have e := Fin.cn (k := .f32) f hr
  subst e
  intro hgt
  have hw := wide_val f
  have h1 := (order_val (k := .f64) hw.1 (mP_fin hj)).2.1.1 hgt
  have h2 : val double (mP j) < val single (clR (clY (mW j) X n) n) := by rw [← hw.2]; exact h1
  have h3 := (mW_facts j hj).2.2.2.2.2
  exact absurd (Rat.le_trans l h3) (Rat.not_le.mpr h2)
theorem long_ge {X : List Nat} (h : ∀ i, okG (X.getD i 0)) {n : Nat} (hn : n ≤ 8) {r : Nat} (hr : cn .f32 r = clR X n) : (FloatKind.f32.format.order r 0 = some .gt ∨ FloatKind.f32.format.order r 0 = some .eq) ∧ Fin single r := by
  have hl := len_rel (fun i => (h i).ok) hn
  have e := Fin.cn (k := .f32) hl.1 hr
  subst e
  refine ⟨?_, hl.1⟩
  rcases rat_tri (val single (clR X n)) 0 with h1 | h1 | h1
  · exact absurd hl.2.1 (Rat.not_le.mpr h1)
  · right
    exact (order_val (k := .f32) hl.1 zero_fin.1).2.2.2 (by show val single _ = val single 0; rw [zero_fin.2]; exact h1)
  · left
    exact (order_val (k := .f32) hl.1 zero_fin.1).2.1.2 (by show val single 0 < val single _; rw [zero_fin.2]; exact h1)
set_option maxHeartbeats 4000000 in
theorem b10_same (w : World) (a b : Option Addr) (ca cb : Nat) (xs ys : List Nat) (hx : F32s w a ca xs) (hy : F32s w b cb ys) (n : Nat) (h1 : xs.length = n) (h2 : ys.length = n) (he : xs.map (cn .f32) = ys.map (cn .f32)) :
    Calls Try.prog 15 #[.slice a n ca, .slice b n cb] w fun e w' => e = .returned (.bool true) ∧ Dr w w' := by
  have HX := Lib.hid hx; have HY := Lib.hid hy; have L1 := Lib.hid h1; have L2 := Lib.hid h2
  have hm := Nat.le_trans hx.len hx.cap
  rw [h1] at hm
  unfold maxLen at hm
  have HE : Hid (∀ k, cn .f32 (xs.getD k 0) = cn .f32 (ys.getD k 0)) := Lib.hid (fun k => by rw [← cn_getD, ← cn_getD, he])
  have LX := Lib.hid (fun k (hk : k < n) => hx.lt (xs.getD k 0) (by rw [List.getD_eq_getElem?_getD, List.getElem?_eq_getElem (by omega)]; exact List.getElem_mem (by omega)))
  have LY := Lib.hid (fun k (hk : k < n) => hy.lt (ys.getD k 0) (by rw [List.getD_eq_getElem?_getD, List.getElem?_eq_getElem (by omega)]; exact List.getElem_mem (by omega)))
  clear hx hy h1 h2 he
  go_enter Try.func15, Try.ntmps15
  go_wp2
  go_loopw [5] (fun i wr => ∃ k : Nat, i = .int .i64 k ∧ k ≤ n ∧ Dr w wr) (fun i _ => n - (intOf i).toNat)
  case atStart => exact ⟨0, rfl, Nat.zero_le _, Dr.refl _⟩
  case round =>
    obtain ⟨k, rfl, hk, hd⟩ := hrel
    by_cases hlt : k < n
    · have h3 := HX.out.below hd.below
      have h4 := HY.out.below hd.below
      obtain ⟨b1, o1, rfl, _, hc1⟩ := h3.spot (k := k) (by rw [L1.out]; exact hlt)
      obtain ⟨b2, o2, rfl, _, hc2⟩ := h4.spot (k := k) (by rw [L2.out]; exact hlt)
      have hk1 := hc1 k (by rw [L1.out]; exact hlt)
      have hk2 := hc2 k (by rw [L2.out]; exact hlt)
      have l1 := LX.out k hlt
      have l2 := LY.out k hlt
      have he := HE.out k
      obtain ⟨x, hx⟩ : ∃ x, x = xs.getD k 0 := ⟨_, rfl⟩
      obtain ⟨y, hy⟩ : ∃ y, y = ys.getD k 0 := ⟨_, rfl⟩
      rw [← hx] at hk1 l1 he
      rw [← hy] at hk2 l2 he
      have C := Lib.hid (fun W => spec_SameNumber x y l1 l2 W)
      have hdt : decide (cn .f32 x = cn .f32 y) = true := decide_eq_true he
      rw [hdt] at C
      clear h3 h4 hc1 hc2 l1 l2 he hdt hx hy
      have HD := Lib.hid hd
      clear hd
      go_wp2
      refine wp_region_drawn (fun f args u => Hid (u = .bool true)) (by kernel_rfl) (by kernel_rfl) ?_
      repeat (refine wset_step (fun K hK nq => ?_); go_simp; refine hK _ ?_; clear hK K)
      refine wset_step (fun K hK nq => ?_)
      go_simp
      refine ⟨(C.out _).mono ?_, ?_⟩
      · rintro e w' ⟨rfl, q, rfl⟩
        exact ⟨_, rfl, ⟨_, World.drewN_drewN _ _ _⟩, Lib.hid rfl⟩
      rintro u hu
      obtain rfl := hu.out
      clear hu
      refine hK _ ?_
      clear hK K
      repeat (refine wset_step (fun K hK nq => ?_); go_simp; refine hK _ ?_; clear hK K)
      refine wset_nil ?_
      rintro w' ⟨q, rfl⟩
      go_wp2
      go_roundw
      case rel => exact ⟨k + 1, by go_num, hlt, HD.out.drewN _⟩
      case measure => simp [intOf]; omega
    · go_wp2
      go_ret
      exact ⟨rfl, hd⟩
end Go.Proofs.Ytnhikdjljjemlaa
/- Plain laws: differences of plain numbers. No condition. -/
namespace Go.Proofs.Ytnhikdjljjemlaa
open Go Go.RowKit Ieee
set_option linter.unusedVariables false
set_option linter.unusedSimpArgs false
def P28 : Rat := 268435456
/-- plain numbers are whole multiples of a small number -/
theorem pl_den : ∀ j, j < 129 → (val single (plainQ 1088421888 j) * P28).den = 1 ∧ (val single (plainQ 1098907648 j) * P28).den = 1 := by decide +kernel
theorem isPl.whole {x : Nat} (h : isPl x) : ∃ z : Int, val single x * P28 = (z : Rat) := by
  have d : (val single x * P28).den = 1 := by
    obtain ⟨j, hj, h⟩ := h
    rcases h with rfl | rfl
    · exact (pl_den j hj).1
    · exact (pl_den j hj).2
  exact ⟨(val single x * P28).num, Rat.ext rfl d⟩
/-- two plain numbers that differ do so by more than a small number -/
theorem pl_gap {x y : Nat} (hx : isPl x) (hy : isPl y) (h : val single x < val single y) : 1 / P28 ≤ val single y - val single x := by
  obtain ⟨a, ha⟩ := hx.whole
  obtain ⟨b, hb⟩ := hy.whole
  have hP : (0 : Rat) < P28 := by decide +kernel
  have h1 := Rat.mul_lt_mul_of_pos_right h hP
  rw [ha, hb] at h1
  have h2 : a < b := Rat.intCast_lt_intCast.1 h1
  have h3 : ((a + 1 : Int) : Rat) ≤ (b : Rat) := Rat.intCast_le_intCast.2 (by omega)
  rw [Rat.intCast_add] at h3
  have h4 : (1 / P28) * P28 ≤ (val single y - val single x) * P28 := by
    have e1 : (1 / P28) * P28 = 1 := by decide +kernel
    have e2 : (val single y - val single x) * P28 = (b : Rat) - (a : Rat) := by rw [← ha, ← hb]; grind
    rw [e1, e2]
    have e3 : ((1 : Int) : Rat) = 1 := rfl
    rw [e3] at h3
    grind
  rcases rat_tri (1 / P28) (val single y - val single x) with k | k | k
  · exact Rat.le_of_lt k
  · rw [k]; exact Rat.le_refl
  · exfalso
    exact absurd h4 (Rat.not_le.mpr (Rat.mul_lt_mul_of_pos_right k hP))
theorem rabs_neg' (q : Rat) : rabs (-q) = rabs q := by unfold rabs; split <;> split <;> grind
/-- a number and the opposite one, rounded -/
theorem near_pair {q : Rat} {w w' : Nat} (h : Near single q w) (h' : Near single (-q) w') : ∃ s s' r, w = single.word s r ∧ w' = single.word s' r ∧ r ≤ single.infRung := by
  obtain ⟨s, r, e, hm, -, -⟩ := h
  obtain ⟨s', r', e', hm', -, -⟩ := h'
  rw [rabs_neg'] at hm'
  have a1 := hm.mono hm' Rat.le_refl
  have a2 := hm'.mono hm Rat.le_refl
  have : r = r' := by omega
  subst this
  exact ⟨s, s', r, e, e', hm.le⟩
theorem read_both {r : Nat} (hr : r < single.infRung) : ∃ m p, ∀ t, single.read (single.word t r) = .number t m p := by
  by_cases h1 : r < single.binade
  · exact ⟨r, single.leastPlace, fun t => by rw [read_word single t (Nat.lt_trans hr single.infRung_lt), if_pos h1]⟩
  · exact ⟨_, _, fun t => by rw [read_word single t (Nat.lt_trans hr single.infRung_lt), if_neg h1, if_pos hr]⟩
theorem mul_self (s s' : Bool) {r : Nat} (hr : r < single.infRung) : fop .mul .f32 (single.word s r) (single.word s r) = fop .mul .f32 (single.word s' r) (single.word s' r) := by
  obtain ⟨m, p, e⟩ := read_both hr
  have h : ∀ t : Bool, floatBits .mul .f32 (single.word t r) (single.word t r) = some (single.write (.number false (m * m) (p + p))) := by
    intro t
    show ((single.read _).product (single.read _)).map single.write = _
    rw [e]
    cases t <;> rfl
  unfold fop
  rw [h s, h s']
theorem abs_self (s s' : Bool) {r : Nat} (hr : r < single.infRung) : absW (single.word s r) = absW (single.word s' r) := by
  have hs : r < single.signWeight := by rw [s_sw]; rw [s_ir] at hr; omega
  have n : ∀ t, isN .f32 (single.word t r) = false := fun t => read_word_le single t (Nat.le_of_lt hr)
  unfold absW
  rw [n s, n s', word_mod32 s hs, word_mod32 s' hs]
/-- differences of plain numbers, both ways round -/
theorem sub_pair {x y : Nat} (hx : Fin single x) (hy : Fin single y) (hf : Fin single (fop .sub .f32 x y)) :
    fop .mul .f32 (fop .sub .f32 x y) (fop .sub .f32 x y) = fop .mul .f32 (fop .sub .f32 y x) (fop .sub .f32 y x) ∧ absW (fop .sub .f32 x y) = absW (fop .sub .f32 y x) ∧ Fin single (fop .sub .f32 y x) := by
  obtain ⟨a, e1, h1⟩ := sub_near (k := .f32) hx hy
  obtain ⟨b, e2, h2⟩ := sub_near (k := .f32) hy hx
  rw [fop_some e1] at hf ⊢
  rw [fop_some e2]
  have hq : val single y - val single x = -(val single x - val single y) := by grind
  have h2' : Near single (-(val single x - val single y)) b := by rw [← hq]; exact h2
  obtain ⟨s, s', r, rfl, rfl, hle⟩ := near_pair h1 h2'
  have hr : r < single.infRung := by
    obtain ⟨t, r0, e, h0⟩ := hf
    by_cases h : r < single.infRung
    · exact h
    · exfalso
      obtain ⟨-, e3⟩ := word_inj (Nat.lt_of_le_of_lt hle (inf_lt .f32)) (Nat.lt_trans h0 (inf_lt .f32)) e
      omega
  exact ⟨mul_self s s' hr, abs_self s s' hr, ⟨s', r, rfl, hr⟩⟩
theorem sq_abs {v c : Rat} (hc : 0 ≤ c) (h : v * v ≤ c * c) : -c ≤ v ∧ v ≤ c := by
  have h1 : rabs v ≤ c := by
    refine sq_le (rabs_nonneg v) hc ?_
    have : rabs v * rabs v = v * v := by unfold rabs; split <;> grind
    rw [this]; exact h
  unfold rabs at h1
  split at h1 <;> constructor <;> grind
theorem isPl.ten {x : Nat} (h : isPl x) : -10 ≤ val single x ∧ val single x ≤ 10 := by
  refine sq_abs (by decide +kernel) (Rat.le_trans h.ok.2.2 (by decide +kernel))
def cDif : Rat := 1 / 536870912
theorem pl_sub_fin {x y : Nat} (hx : isPl x) (hy : isPl y) : Btw .f32 (-20) 20 (fop .sub .f32 x y) := by
  obtain ⟨a1, a2⟩ := hx.ten
  obtain ⟨b1, b2⟩ := hy.ten
  obtain ⟨a, e1, h1⟩ := sub_near (k := .f32) hx.ok.1 hy.ok.1
  rw [fop_some e1]
  have c1 : -20 ≤ val single x - val single y := by grind
  have c2 : val single x - val single y ≤ 20 := by grind
  exact near_btw (k := .f32) (a := -20) (b := 20) (smallI_of (by decide) (by decide)) (smallI_of (by decide) (by decide)) c1 c2 h1
theorem pl_sub_pos {x y : Nat} (hx : isPl x) (hy : isPl y) (h : val single y < val single x) : cDif ≤ val single (fop .sub .f32 x y) := by
  have hg := pl_gap hy hx h
  have hb := pl_sub_fin hx hy
  obtain ⟨a, e1, h1⟩ := sub_near (k := .f32) hx.ok.1 hy.ok.1
  rw [fop_some e1] at hb ⊢
  have hc : cMin ≤ val single x - val single y := Rat.le_trans (by decide +kernel) hg
  have hr := (rel32 h1 hb.fin hc).1
  have h2 := Rat.mul_le_mul_of_nonneg_left hg U_le.1
  have h3 : cDif ≤ (1 - U) * (1 / P28) := by decide +kernel
  exact Rat.le_trans h3 (Rat.le_trans h2 hr)
theorem pl_sub_neg {x y : Nat} (hx : isPl x) (hy : isPl y) (h : val single x < val single y) : val single (fop .sub .f32 x y) ≤ -cDif := by
  have hp := pl_sub_pos hy hx h
  obtain ⟨a, e1, h1⟩ := sub_near (k := .f32) hx.ok.1 hy.ok.1
  obtain ⟨b, e2, h2⟩ := sub_near (k := .f32) hy.ok.1 hx.ok.1
  have hb := pl_sub_fin hx hy
  rw [fop_some e1] at hb ⊢
  rw [fop_some e2] at hp
  have hq : val single y - val single x = -(val single x - val single y) := by grind
  have hneg : val single x - val single y < 0 := by grind
  have hpos : 0 < -(val single x - val single y) := by grind
  have h2' : Near single (-(val single x - val single y)) b := by rw [← hq]; exact h2
  obtain ⟨s, r, rfl, hm, hn, -⟩ := h1
  obtain ⟨s', r', rfl, hm', -, hn'⟩ := h2'
  rw [rabs_neg'] at hm'
  have a1 := hm.mono hm' Rat.le_refl
  have a2 := hm'.mono hm Rat.le_refl
  have : r = r' := by omega
  subst this
  have hs := hn hneg
  have hs' := hn' hpos
  subst hs hs'
  have hr : r < single.infRung := by
    obtain ⟨t, r0, e, h0⟩ := hb.fin
    obtain ⟨-, e3⟩ := word_inj (Nat.lt_of_le_of_lt hm.le (inf_lt .f32)) (Nat.lt_trans h0 (inf_lt .f32)) e
    rw [e3]; exact h0
  rw [val_word single false hr] at hp
  show val single (single.word true r) ≤ -cDif
  rw [val_word single true hr]
  unfold sg at hp ⊢
  simp at hp ⊢
  grind
theorem pl_sub_eq {x y : Nat} (hx : isPl x) (hy : isPl y) (h : val single x = val single y) : val single (fop .sub .f32 x y) = 0 := by
  obtain ⟨a, e1, h1⟩ := sub_near (k := .f32) hx.ok.1 hy.ok.1
  rw [fop_some e1]
  have hz : val single x - val single y = 0 := by rw [h]; grind
  have h1' : Near single 0 a := by
    have h2 : Near single (val single x - val single y) a := h1
    rw [hz] at h2; exact h2
  exact (Near.int32 (n := 0) h1' (by decide)).2
end Go.Proofs.Ytnhikdjljjemlaa
/- Plain laws: signs of what is rounded. No condition. -/
namespace Go.Proofs.Ytnhikdjljjemlaa
open Go Go.RowKit Ieee
set_option linter.unusedVariables false
set_option linter.unusedSimpArgs false
/-- the opposite word -/
theorem near_flip {q : Rat} {w : Nat} (h : Near single q w) (hf : Fin single w) (hq : q < 0) : ∃ v, Near single (-q) v ∧ Fin single v ∧ val single w = -val single v := by
  obtain ⟨s, r, rfl, hm, hn, -⟩ := h
  have hs := hn hq
  subst hs
  have hr : r < single.infRung := by
    obtain ⟨t, r0, e, h0⟩ := hf
    obtain ⟨-, e3⟩ := word_inj (Nat.lt_of_le_of_lt hm.le (inf_lt .f32)) (Nat.lt_trans h0 (inf_lt .f32)) e
    rw [e3]; exact h0
  have hpos : 0 < -q := by grind
  refine ⟨single.word false r, ⟨false, r, rfl, by rw [rabs_neg']; exact hm, fun h => ?_, fun _ => rfl⟩, ⟨false, r, rfl, hr⟩, ?_⟩
  · exfalso; grind
  · rw [val_word single false hr, val_word single true hr]
    unfold sg
    simp
    grind
theorem near_pos {q : Rat} {w : Nat} (h : Near single q w) (hf : Fin single w) (hq : cMin ≤ q) : (1 - U) * q ≤ val single w ∧ 0 < val single w := by
  have hr := (rel32 h hf hq).1
  refine ⟨hr, ?_⟩
  have h0 : 0 < (1 - U) * q := Rat.mul_pos (by decide +kernel) (Std.lt_of_lt_of_le (show (0 : Rat) < cMin by decide +kernel) hq)
  exact Std.lt_of_lt_of_le h0 hr
theorem near_negs {q : Rat} {w : Nat} (h : Near single q w) (hf : Fin single w) (hq : q ≤ -cMin) : val single w ≤ (1 - U) * q ∧ val single w < 0 := by
  have hc : (0 : Rat) < cMin := by decide +kernel
  have hq0 : q < 0 := by grind
  obtain ⟨v, h1, h2, h3⟩ := near_flip h hf hq0
  have hq1 : cMin ≤ -q := by grind
  obtain ⟨p1, p2⟩ := near_pos h1 h2 hq1
  rw [h3]
  constructor <;> grind
/-- a number that is 0 or not too near to 0, on one side -/
def Sg (o : Ordering) (c : Rat) (w : Nat) : Prop := Fin single w ∧ (o = .gt → c ≤ val single w) ∧ (o = .lt → val single w ≤ -c) ∧ (o = .eq → val single w = 0)
theorem Sg.order {o : Ordering} {c : Rat} {w : Nat} (h : Sg o c w) (hc : 0 < c) : FloatKind.f32.format.order w 0 = some o := by
  obtain ⟨f, h1, h2, h3⟩ := h
  have hv := order_val (k := .f32) f zero_fin.1
  have hz : val FloatKind.f32.format 0 = 0 := zero_fin.2
  rw [hz] at hv
  cases o
  · exact hv.1.2 (Std.lt_of_le_of_lt (h2 rfl) (by grind))
  · exact hv.2.2.2 (h3 rfl)
  · exact hv.2.1.2 (Std.lt_of_lt_of_le hc (h1 rfl))
theorem pl_sub_sg {x y : Nat} (hx : isPl x) (hy : isPl y) : ∃ o, FloatKind.f32.format.order x y = some o ∧ Sg o cDif (fop .sub .f32 x y) := by
  have hv := order_val (k := .f32) hx.ok.1 hy.ok.1
  have hf := (pl_sub_fin hx hy).fin
  rcases rat_tri (val single x) (val single y) with h | h | h
  · exact ⟨.lt, hv.1.2 h, hf, (fun e => nomatch e), fun _ => pl_sub_neg hx hy h, (fun e => nomatch e)⟩
  · exact ⟨.eq, hv.2.2.2 h, hf, (fun e => nomatch e), (fun e => nomatch e), fun _ => pl_sub_eq hx hy h⟩
  · exact ⟨.gt, hv.2.1.2 h, hf, fun _ => pl_sub_pos hx hy h, (fun e => nomatch e), (fun e => nomatch e)⟩
/-- what is divided by, or multiplied with, a positive number -/
theorem Sg.near {o : Ordering} {c c' q k : Rat} {d w : Nat} (h : Sg o c d) (hn : Near single q w) (hf : Fin single w) (hk : 0 < k) (hq : q = val single d * k) (hc : cMin ≤ c * k) (hc' : c' ≤ (1 - U) * (c * k)) : Sg o c' w := by
  obtain ⟨f, h1, h2, h3⟩ := h
  have hk0 := Rat.le_of_lt hk
  refine ⟨hf, fun e => ?_, fun e => ?_, fun e => ?_⟩
  · have a := Rat.mul_le_mul_of_nonneg_right (h1 e) hk0
    rw [← hq] at a
    have b := (near_pos hn hf (Rat.le_trans hc a)).1
    exact Rat.le_trans hc' (Rat.le_trans (Rat.mul_le_mul_of_nonneg_left a U_le.1) b)
  · have a := Rat.mul_le_mul_of_nonneg_right (h2 e) hk0
    rw [← hq] at a
    have a2 : q ≤ -(c * k) := by grind
    have a3 : q ≤ -cMin := by grind
    have b := (near_negs hn hf a3).1
    have b2 := Rat.mul_le_mul_of_nonneg_left a2 U_le.1
    have b3 : (1 - U) * -(c * k) = -((1 - U) * (c * k)) := by grind
    rw [b3] at b2
    have b4 : -((1 - U) * (c * k)) ≤ -c' := by grind
    exact Rat.le_trans b (Rat.le_trans b2 b4)
  · have hz : q = 0 := by rw [hq, h3 e]; exact Rat.zero_mul k
    rw [hz] at hn
    exact (Near.int32 (n := 0) hn (by decide)).2
theorem two_fin : Fin single 1073741824 ∧ val single 1073741824 = 2 := ⟨⟨false, 1073741824, by decide +kernel, by decide +kernel⟩, by unfold val; decide +kernel⟩
theorem inv_facts : ∀ n : Nat, n ≤ 8 → 1 ≤ n → (0 : Rat) < 1 / ((n : Int) : Rat) ∧ cMin ≤ cDif * (1 / ((n : Int) : Rat)) ∧ cDif * (1 / 16) ≤ (1 - U) * (cDif * (1 / ((n : Int) : Rat))) ∧ (1 : Rat) ≤ ((n : Int) : Rat) := by decide +kernel
theorem quo_sg {o : Ordering} {d : Nat} (h : Sg o cDif d) (hb : Btw .f32 (-40) 40 d) {n : Nat} (h1 : 1 ≤ n) (h8 : n ≤ 8) : Sg o (cDif * (1 / 16)) (fop .quo .f32 d (floatOfInt .f32 n)) := by
  obtain ⟨f1, f2, f3, f4⟩ := inv_facts n h8 h1
  obtain ⟨g1, g2⟩ := int_exact32 (n : Int) (by omega)
  have hn0 : val single (floatOfInt .f32 (n : Int)) ≠ 0 := by rw [g2]; grind
  have hq := fop_quo (k := .f32) hb.fin g1 hn0
  have hq' : Near single (val single d / ((n : Int) : Rat)) (fop .quo .f32 d (floatOfInt .f32 n)) := by rw [← g2]; exact hq
  obtain ⟨r1, r2⟩ := div_btw (K := ((n : Int) : Rat)) (n := val single d) (c := 40) (d := 40) f4 hb.lo hb.hi (by decide +kernel) (by decide +kernel)
  have hf := (near_btw (k := .f32) (a := -40) (b := 40) (smallI_of (by decide) (by decide)) (smallI_of (by decide) (by decide)) r1 r2 hq').fin
  exact h.near hq' hf f1 (by rw [Rat.div_def, Rat.div_def, Rat.one_mul]) f2 f3
theorem mul2_sg {o : Ordering} {d : Nat} (h : Sg o cDif d) (hb : Btw .f32 (-20) 20 d) : Sg o cDif (fop .mul .f32 1073741824 d) ∧ Btw .f32 (-40) 40 (fop .mul .f32 1073741824 d) := by
  have hm := fop_mul (k := .f32) two_fin.1 hb.fin
  have hq : Near single (val single d * 2) (fop .mul .f32 1073741824 d) := by rw [Rat.mul_comm, ← two_fin.2]; exact hm
  have h1 : (-20 : Rat) ≤ val single d := hb.lo
  have h2 : val single d ≤ (20 : Rat) := hb.hi
  have h3 : ((-40 : Int) : Rat) ≤ val single d * 2 := by show (-40 : Rat) ≤ _; grind
  have h4 : val single d * 2 ≤ ((40 : Int) : Rat) := by show _ ≤ (40 : Rat); grind
  have b : Btw .f32 (-40) 40 (fop .mul .f32 1073741824 d) := near_btw (k := .f32) (smallI_of (by decide) (by decide)) (smallI_of (by decide) (by decide)) h3 h4 hq
  exact ⟨h.near hq b.fin (by decide +kernel) rfl (by decide +kernel) (by decide +kernel), b⟩
theorem Btw.wider {w : Nat} (h : Btw .f32 (-20) 20 w) : Btw .f32 (-40) 40 w := by
  have h1 : (-20 : Rat) ≤ val single w := h.lo
  have h2 : val single w ≤ (20 : Rat) := h.hi
  refine ⟨h.fin, ?_, ?_⟩
  · show (-40 : Rat) ≤ val single w; grind
  · show val single w ≤ (40 : Rat); grind
theorem cQ_pos : (0 : Rat) < cDif * (1 / 16) := by decide +kernel
def bendW (j : Nat) : Nat := fop .quo .f32 (floatOfInt .f32 (1 + (j : Int))) 1082130432
theorem const_sg : ∀ n : Nat, n ≤ 8 → 1 ≤ n → FloatKind.f32.format.order (fop .quo .f32 1065353216 (floatOfInt .f32 n)) 0 = some .gt ∧ FloatKind.f32.format.order (fop .quo .f32 3212836864 (floatOfInt .f32 n)) 0 = some .lt ∧
    ∀ j : Nat, j < 16 → FloatKind.f32.format.order (fop .quo .f32 (cn .f32 (bendW j)) (floatOfInt .f32 n)) 0 = some .gt ∧ FloatKind.f32.format.order (fop .quo .f32 (cn .f32 (Op.negFloat .f32 (bendW j))) (floatOfInt .f32 n)) 0 = some .lt := by decide +kernel
theorem absW_zero {d : Nat} (hd : Fin single d) (h : val single d = 0) : absW d = 0 := by
  rcases word_zero hd h with rfl | rfl <;> decide +kernel
theorem bend_le : ∀ j : Nat, j < 16 → leF 0 (bendW j) = true := by decide +kernel
/-- the three gradients have the differences' signs -/
theorem grads_sg {X Y : List Nat} {i n j : Nat} (hx : isPl (X.getD i 0)) (hy : isPl (Y.getD i 0)) (h1 : 1 ≤ n) (h8 : n ≤ 8) (hj : j < 16) : ∃ o, FloatKind.f32.format.order (X.getD i 0) (Y.getD i 0) = some o ∧
    FloatKind.f32.format.order (sqG (subE X Y) n i) 0 = some o ∧ FloatKind.f32.format.order (abG (subE X Y) n i) 0 = some o ∧ FloatKind.f32.format.order (huG (bendW j) (subE X Y) n i) 0 = some o := by
  obtain ⟨o, ho, hs⟩ := pl_sub_sg hx hy
  have hb := pl_sub_fin hx hy
  obtain ⟨k1, k2, k3⟩ := const_sg n h8 h1
  obtain ⟨k4, k5⟩ := k3 j hj
  have hd : subE X Y i = fop .sub .f32 (X.getD i 0) (Y.getD i 0) := rfl
  obtain ⟨d, hdd⟩ : ∃ d, d = fop .sub .f32 (X.getD i 0) (Y.getD i 0) := ⟨_, rfl⟩
  rw [← hdd] at hd hs hb
  have hod := hs.order (by decide +kernel)
  have hqd := (quo_sg hs hb.wider h1 h8).order cQ_pos
  obtain ⟨m1, m2⟩ := mul2_sg hs hb
  refine ⟨o, ho, ?_, ?_, ?_⟩
  · unfold sqG; rw [hd]; exact (quo_sg m1 m2 h1 h8).order cQ_pos
  · unfold abG; rw [hd, hod]
    cases o
    · exact k2
    · show FloatKind.f32.format.order 0 0 = some .eq
      decide +kernel
    · exact k1
  · unfold huG; rw [hd]
    split
    · exact hqd
    · rename_i hle
      unfold gtZ
      rw [hod]
      cases o
      · exact k5
      · exfalso
        rw [absW_zero hb.fin (hs.2.2.2 rfl), bend_le j hj] at hle
        exact hle rfl
      · exact k4
end Go.Proofs.Ytnhikdjljjemlaa
/- Plain laws: losses are not negative. No condition. -/
namespace Go.Proofs.Ytnhikdjljjemlaa
open Go Go.RowKit Ieee
set_option linter.unusedVariables false
set_option linter.unusedSimpArgs false
theorem btw_ge {b : Int} {w : Nat} (h : Btw .f32 0 b w) : FloatKind.f32.format.order w 0 = some .gt ∨ FloatKind.f32.format.order w 0 = some .eq := by
  have hv := order_val (k := .f32) h.fin zero_fin.1
  have hz : val FloatKind.f32.format 0 = 0 := zero_fin.2
  rw [hz] at hv
  have h0 : (0 : Rat) ≤ val FloatKind.f32.format w := h.lo
  rcases rat_tri (val FloatKind.f32.format w) 0 with k | k | k
  · exact absurd h0 (Rat.not_le.mpr k)
  · exact .inr (hv.2.2.2 k)
  · exact .inl (hv.2.1.2 k)
theorem zero_btw : Btw .f32 0 0 0 := ⟨zero_fin.1, by show (0 : Rat) ≤ val single 0; rw [zero_fin.2]; exact Rat.le_refl, by show val single 0 ≤ (0 : Rat); rw [zero_fin.2]; exact Rat.le_refl⟩
theorem sum_btw0 {L : List Nat} {c : Int} (hc : c ≤ 1000) (hc0 : 0 ≤ c) (h : ∀ i, i < 8 → Btw .f32 0 c (L.getD i 0)) : ∀ k : Nat, k ≤ 8 → Btw .f32 0 (c * k) (sumS L k)
  | 0, _ => by show Btw .f32 0 (c * 0) 0; rw [Int.mul_zero]; exact zero_btw
  | k + 1, hk => by
    have ih := sum_btw0 hc hc0 h k (by omega)
    have m1 : c * (k : Int) ≤ 1000 * 8 := Int.mul_le_mul hc (by omega) (by omega) (by decide)
    have m2 : 0 ≤ c * (k : Int) := Int.mul_nonneg hc0 (by omega)
    have hb := ih.add (h k (by omega)) (by unfold smallI; decide) (by unfold smallI; omega)
    have e : c * ((k + 1 : Nat) : Int) = c * k + c := by push_cast; rw [Int.mul_add, Int.mul_one]
    rw [e]
    exact hb
theorem quo_btw0 {b : Int} {w n : Nat} (h : Btw .f32 0 b w) (hb0 : 0 ≤ b) (hb : b ≤ 10000) (h1 : 1 ≤ n) (h8 : n ≤ 8) : Btw .f32 0 b (fop .quo .f32 w (floatOfInt .f32 n)) := by
  obtain ⟨-, -, -, f4⟩ := inv_facts n h8 h1
  obtain ⟨g1, g2⟩ := int_exact32 (n : Int) (by omega)
  have hn0 : val single (floatOfInt .f32 (n : Int)) ≠ 0 := by rw [g2]; grind
  have hq := fop_quo (k := .f32) h.fin g1 hn0
  have hq' : Near single (val single w / ((n : Int) : Rat)) (fop .quo .f32 w (floatOfInt .f32 n)) := by rw [← g2]; exact hq
  have hlo : -(0 : Rat) ≤ val single w := by have : (0 : Rat) ≤ val single w := h.lo
                                             grind
  have hbr : (0 : Rat) ≤ (b : Rat) := by exact_mod_cast hb0
  obtain ⟨r1, r2⟩ := div_btw (K := ((n : Int) : Rat)) (n := val single w) (c := 0) (d := (b : Rat)) f4 hlo h.hi Rat.le_refl hbr
  exact near_btw (k := .f32) (a := 0) (b := b) (by unfold smallI; decide) (by unfold smallI; omega) (by show (0 : Rat) ≤ _; grind) r2 hq'
theorem sq400 {v : Rat} (h1 : -20 ≤ v) (h2 : v ≤ 20) : 0 ≤ v * v ∧ v * v ≤ 400 := by
  rcases rat_tri v 0 with h | h | h
  · have a := mul_mono (a := -v) (b := 20) (c := -v) (d := 20) (by grind) (by grind) (by grind) (by grind)
    have b := Rat.mul_nonneg (show (0 : Rat) ≤ -v by grind) (show (0 : Rat) ≤ -v by grind)
    constructor <;> grind
  · subst h; constructor <;> decide +kernel
  · have a := mul_mono h2 h2 (Rat.le_of_lt h) (Rat.le_of_lt h)
    have b := Rat.mul_nonneg (Rat.le_of_lt h) (Rat.le_of_lt h)
    constructor <;> grind
theorem dif_sq_btw {d : Nat} (h : Btw .f32 (-20) 20 d) : Btw .f32 0 400 (fop .mul .f32 d d) := by
  obtain ⟨a, b⟩ := sq400 (v := val single d) h.lo h.hi
  exact near_btw (k := .f32) (a := 0) (b := 400) (by unfold smallI; decide) (by unfold smallI; decide) a b (fop_mul h.fin h.fin)
end Go.Proofs.Ytnhikdjljjemlaa
