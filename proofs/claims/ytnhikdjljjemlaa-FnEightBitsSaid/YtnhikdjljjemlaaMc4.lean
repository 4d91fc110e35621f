/- Joined texts 4: Src Drw Drl R8f Idx Co3 Co4 App Ten Eat Eie. Each is told at its own head. No condition. -/
import Derived.Deep.QuietTactic
import Derived.BigQuiet
import Derived.Laws.Bits64b
import Derived.Maps.AppendAt
import Derived.Test.YtnhikdjljjemlaaMc2
import Derived.Test.YtnhikdjljjemlaaMc3
/- What the reference's source of choices gives. No condition. -/
namespace Go.Proofs.Ytnhikdjljjemlaa
open Go Go.RowKit
set_option linter.unusedVariables false
set_option linter.unusedSimpArgs false
/-- a source of choices: its block, where it stands at most -/
structure SrcAt (w : World) (g : Nat) (ad : Option Addr) (cap : Nat) (xs : List Int) (at_ : Nat) (seed : Int) : Prop where
  lt : g < w.heap.size
  code : w.cell? ⟨g, 0, none⟩ = some (.slice ad xs.length cap)
  at1 : w.cell? ⟨g, 1, none⟩ = some (.int .i64 at_)
  seed2 : w.cell? ⟨g, 2, none⟩ = some (.int .u64 seed)
  free : ∀ o, w.frozen? ⟨g, o, none⟩ = false
  ints : Ints .u8 w ad cap xs
  other : xs ≠ [] → ∀ b off, ad = some ⟨b, off, none⟩ → b < g
def Src (w : World) (g n : Nat) : Prop := ∃ ad cap xs at_ seed, SrcAt w g ad cap xs at_ seed ∧ at_ ≤ n
theorem Src.mono {w : World} {g n m : Nat} (h : Src w g n) (hm : n ≤ m) : Src w g m := by
  obtain ⟨ad, cap, xs, a, s, h1, h2⟩ := h; exact ⟨ad, cap, xs, a, s, h1, Nat.le_trans h2 hm⟩
theorem Src.kept {w w' : World} {g n : Nat} (h : Src w g n) (hs : w.heap.size ≤ w'.heap.size) (hb : ∀ k, k ≤ g → w'.heap[k]? = w.heap[k]?) : Src w' g n := by
  obtain ⟨ad, cap, xs, a, s, h1, h2⟩ := h
  have hg := hb g (Nat.le_refl _)
  refine ⟨ad, cap, xs, a, s, ⟨Nat.lt_of_lt_of_le h1.lt hs, ?_, ?_, ?_, ?_, ?_, h1.other⟩, h2⟩
  · rw [World.cell?_of_block (w := w) hg]; exact h1.code
  · rw [World.cell?_of_block (w := w) hg]; exact h1.at1
  · rw [World.cell?_of_block (w := w) hg]; exact h1.seed2
  · intro o; rw [World.frozen?_of_block (w := w) hg]; exact h1.free o
  · refine ⟨h1.ints.len, h1.ints.cap, ?_, h1.ints.wf⟩
    by_cases hx : xs = []
    · subst hx; exact .inl rfl
    · exact h1.ints.rd.kept hs (fun b off e _ => hb b (Nat.le_of_lt (h1.other hx b off e)))
theorem Src.below {w w' : World} {g n : Nat} (h : Src w g n) (hb : Below w.heap.size w w') : Src w' g n :=
  h.kept hb.size fun k hk => hb.block k (by obtain ⟨_, _, _, _, _, h1, _⟩ := h; exact Nat.lt_of_le_of_lt hk h1.lt)
theorem touch_cell {w : World} {g k : Nat} {v : Value} : Touch g (g + 1) w (w.setCell ⟨g, k, none⟩ v) :=
  ⟨rfl, rfl, rfl, by simp [World.setCell], fun j hj hd => Below.heap_setCell _ _ _ _ (by intro e; simp at e; omega)⟩
theorem src_after {w : World} {g n : Nat} {ad : Option Addr} {cap : Nat} {xs : List Int} {a : Nat} {s : Int} (h : SrcAt w g ad cap xs a s) (han : a ≤ n) (u : Int) (q1 q2 : Nat) :
    Src ((((w.drewN q1).setCell ⟨g, 1, none⟩ (.int .i64 ((a : Int) + 1))).setCell ⟨g, 2, none⟩ (.int .u64 u)).drewN q2) g (n + 1) ∧
    Touch g (g + 1) w ((((w.drewN q1).setCell ⟨g, 1, none⟩ (.int .i64 ((a : Int) + 1))).setCell ⟨g, 2, none⟩ (.int .u64 u)).drewN q2) := by
  obtain ⟨hg, h0, h1, h2, hf, hi, ho⟩ := h
  have hb : Below g w ((((w.drewN q1).setCell ⟨g, 1, none⟩ (.int .i64 ((a : Int) + 1))).setCell ⟨g, 2, none⟩ (.int .u64 u)).drewN q2) :=
    below_drewN (((below_drewN (Below.refl g w) q1).setCell (Nat.le_refl g) _).setCell (Nat.le_refl g) _) q2
  refine ⟨⟨ad, cap, xs, a + 1, u, ⟨by simpa [World.setCell] using hg, ?_, ?_, ?_, ?_, ⟨hi.len, hi.cap, by
    by_cases hx : xs = []
    · subst hx; exact .inl rfl
    · exact hi.rd.belowLt hb (ho hx), hi.wf⟩, ho⟩, by omega⟩, ?_⟩
  · go_simp
  · have e : ((a + 1 : Nat) : Int) = (a : Int) + 1 := by omega
    rw [e]
    go_simp
  · go_simp
  · intro o
    have := hf o
    go_simp
  · exact (((Touch.of_below (below_drewN (Below.refl _ _) _)).trans touch_cell).trans touch_cell).trans (Touch.of_below (below_drewN (Below.refl _ _) _))
theorem and255 (Z : Int) : ∃ r : Nat, wrap64 (bits .and .u64 (IntKind.u64.wrap Z / 1099511627776) 255) = r ∧ r < 256 := by
  have hw : 0 ≤ IntKind.u64.wrap Z ∧ IntKind.u64.wrap Z < 18446744073709551616 := by
    have := wf_wrap .u64 Z
    simp [Lit.wf, IntKind.min, IntKind.max, IntKind.signed, IntKind.bits] at this
    omega
  have h0 : 0 ≤ IntKind.u64.wrap Z / 1099511627776 := by omega
  obtain ⟨m, hm⟩ := Int.eq_ofNat_of_zero_le h0
  rw [hm]
  have := bits_and_u64_nat m 255 (by omega) (by decide)
  rw [show ((255 : Nat) : Int) = 255 from rfl] at this
  rw [this]
  have hl : m &&& 255 < 256 := Nat.lt_of_le_of_lt Nat.and_le_right (by decide)
  refine ⟨m &&& 255, ?_, hl⟩
  unfold wrap64
  omega
theorem src_next (w : World) (g n : Nat) (h : Src w g n) (hn : n ≤ 1000000000) :
    Calls Try.prog 82 #[.pointer (some ⟨g, 0, none⟩)] w fun e w' => ∃ r : Nat, e = .returned (.int .i64 r) ∧ r < 256 ∧ Src w' g (n + 1) ∧ Touch g (g + 1) w w' := by
  obtain ⟨ad, cap, xs, a, s, ⟨hg, h0, h1, h2, hf, hi, ho⟩, han⟩ := h
  have hm := Nat.le_trans hi.len hi.cap
  unfold maxLen at hm
  by_cases hlt : a < xs.length
  · obtain ⟨b, off, rfl, hb, hc⟩ := hi.spot (i := a) hlt
    have hcell := hc a hlt
    have hw := hi.wf (xs.getD a 0) (by rw [List.getD_eq_getElem?_getD, List.getElem?_eq_getElem hlt]; exact List.getElem_mem hlt)
    obtain ⟨x, hx⟩ : ∃ x, x = xs.getD a 0 := ⟨_, rfl⟩
    rw [← hx] at hcell hw
    obtain ⟨hb0, hb1⟩ := bounds_u8 hw
    obtain ⟨l, hl⟩ : ∃ l, l = xs.length := ⟨_, rfl⟩
    rw [← hl] at hlt hm h0
    have HI := Lib.hid hi; have HO := Lib.hid ho; have HL := Lib.hid hl
    clear hx hw hc hi ho hl
    go_enter Try.func82, Try.ntmps82
    go_wp2
    go_quiet (fail)
    go_wp2
    go_quiet (fail)
    go_wp2
    go_quiet (fail)
    go_wp2
    go_ret
    obtain ⟨y, rfl⟩ := Int.eq_ofNat_of_zero_le hb0
    have hsa := src_after (ad := some ⟨b, off, none⟩) (n := n) ⟨hg, by rw [← HL.out]; exact h0, h1, h2, hf, HI.out, HO.out⟩ han
    exact ⟨y, rfl, by omega, (hsa _ _ _).1, (hsa _ _ _).2⟩
  · have HI := Lib.hid hi; have HO := Lib.hid ho
    obtain ⟨l, hl⟩ : ∃ l, l = xs.length := ⟨_, rfl⟩
    rw [← hl] at hlt hm h0
    have HL := Lib.hid hl
    clear hi ho hl
    go_enter Try.func82, Try.ntmps82
    go_wp2
    go_quiet (fail)
    go_wp2
    go_quiet (fail)
    go_wp2
    go_ret
    have hsa := src_after (n := n) ⟨hg, by rw [← HL.out]; exact h0, h1, h2, hf, HI.out, HO.out⟩ han
    obtain ⟨r, hr, hr2⟩ := and255 (IntKind.u64.wrap (IntKind.u64.wrap (s * 6364136223846793005)) + 1442695040888963407)
    exact ⟨r, by rw [← hr]; rfl, hr2, (hsa _ _ _).1, (hsa _ _ _).2⟩
theorem src_pick (w : World) (g n : Nat) (h : Src w g n) (hn : n ≤ 900000000) (N : Int) (h1 : 1 ≤ N) (h2 : N ≤ 1000000) :
    Calls Try.prog 46 #[.pointer (some ⟨g, 0, none⟩), .int .i64 N] w fun e w' => ∃ r : Nat, e = .returned (.int .i64 r) ∧ (r : Int) < N ∧ Src w' g (n + 2) ∧ Touch g (g + 1) w w' := by
  have HS := Lib.hid h; clear h
  by_cases hN : N ≤ 1
  · go_enter Try.func46, Try.ntmps46
    go_wp2
    go_ret
    exact ⟨0, rfl, by omega, HS.out.mono (by omega), Touch.refl _ _ _⟩
  · have hk := fun W m hW hm => src_next W g m hW hm
    have HK := Lib.hid hk; clear hk
    by_cases h200 : 200 < N
    · go_enter Try.func46, Try.ntmps46
      go_wp2_with fail
      refine (HK.out _ n HS.out (by omega)).mono ?_
      rintro e w1 ⟨r, rfl, hr, hs1, ht1⟩
      have HS1 := Lib.hid hs1; have HT1 := Lib.hid ht1; clear hs1 ht1
      go_wp2_with fail
      refine (HK.out _ (n + 1) HS1.out (by omega)).mono ?_
      rintro e w2 ⟨q, rfl, hq, hs2, ht2⟩
      have HS2 := Lib.hid hs2; have HT2 := Lib.hid ht2; clear hs2 ht2
      go_wp2
      go_ret
      have g0 := Int.emod_nonneg ((r : Int) * 256 + q) (show N ≠ 0 by omega)
      have g1 := Int.emod_lt_of_pos ((r : Int) * 256 + q) (show 0 < N by omega)
      exact ⟨(((r : Int) * 256 + q) % N).toNat, by rw [Int.toNat_of_nonneg g0]; rfl, by omega, HS2.out, HT1.out.trans HT2.out⟩
    · go_enter Try.func46, Try.ntmps46
      go_wp2_with fail
      refine (HK.out _ n HS.out (by omega)).mono ?_
      rintro e w1 ⟨r, rfl, hr, hs1, ht1⟩
      have HS1 := Lib.hid hs1; have HT1 := Lib.hid ht1; clear hs1 ht1
      go_wp2
      go_ret
      have g0 := Int.emod_nonneg (r : Int) (show N ≠ 0 by omega)
      have g1 := Int.emod_lt_of_pos (r : Int) (show 0 < N by omega)
      exact ⟨((r : Int) % N).toNat, by rw [Int.toNat_of_nonneg g0]; rfl, by omega, HS1.out.mono (by omega), HT1.out⟩
theorem src_one (w : World) (g n : Nat) (h : Src w g n) (hn : n ≤ 900000000) (N : Int) (h1 : 1 ≤ N) (h2 : N ≤ 1000000) :
    Calls Try.prog 45 #[.pointer (some ⟨g, 0, none⟩), .int .i64 N] w fun e w' => ∃ b : Bool, e = .returned (.bool b) ∧ Src w' g (n + 2) ∧ Touch g (g + 1) w w' := by
  have hk := src_pick w g n h hn N h1 h2
  have HK := Lib.hid hk; clear hk h
  go_enter Try.func45, Try.ntmps45
  go_wp2_with fail
  refine HK.out.mono ?_
  rintro e w1 ⟨r, rfl, hr, hs1, ht1⟩
  have HS1 := Lib.hid hs1; have HT1 := Lib.hid ht1; clear hs1 ht1
  go_wp2
  go_ret
  exact ⟨_, rfl, HS1.out, HT1.out⟩
theorem src_among (w : World) (g n : Nat) (h : Src w g n) (hn : n ≤ 900000000) (b : Nat) (len cap : Nat) (vs : List Int) (hb : b ≠ g) (hbl : b < w.heap.size) (hc : ∀ i, i < len → w.cell? ⟨b, i, none⟩ = some (.int .i64 (vs.getD i 0))) (h1 : 1 ≤ len) (h2 : len ≤ 1000) :
    Calls Try.prog 84 #[.pointer (some ⟨g, 0, none⟩), .slice (some ⟨b, 0, none⟩) len cap] w fun e w' => ∃ i : Nat, i < len ∧ e = .returned (.int .i64 (vs.getD i 0)) ∧ Src w' g (n + 2) ∧ Touch g (g + 1) w w' := by
  have hk := src_pick w g n h hn len (by omega) (by omega)
  have HK := Lib.hid hk; have HC := Lib.hid hc; clear hk h hc
  go_enter Try.func84, Try.ntmps84
  go_wp2_with fail
  refine HK.out.mono ?_
  rintro e w1 ⟨r, rfl, hr, hs1, ht1⟩
  have hr := Int.ofNat_lt.1 hr
  have hcell : w1.cell? ⟨b, r, none⟩ = some (.int .i64 (vs.getD r 0)) := by
    rw [World.cell?_of_block (w := w) (ht1.block b hbl (by omega))]; exact HC.out r hr
  have HS1 := Lib.hid hs1; have HT1 := Lib.hid ht1; clear hs1 ht1
  go_wp2
  go_ret
  exact ⟨r, hr, rfl, HS1.out, HT1.out⟩
theorem src_from (w : World) (ad : Option Addr) (cap : Nat) (xs : List Int) (h : Ints .u8 w ad cap xs) :
    Calls Try.prog 37 #[.slice ad xs.length cap] w fun e w' => e = .returned (.pointer (some ⟨w.heap.size, 0, none⟩)) ∧ Src w' w.heap.size 0 ∧ Below w.heap.size w w' ∧ w.heap.size < w'.heap.size := by
  obtain ⟨l, hl⟩ : ∃ l, l = xs.length := ⟨_, rfl⟩
  have hother : xs ≠ [] → ∀ b off, ad = some ⟨b, off, none⟩ → b < w.heap.size := by
    intro hne b off e
    rcases h.rd with h1 | ⟨b', off', e', hb', _⟩
    · exact absurd (by simpa using h1) hne
    · rw [e] at e'; cases e'; exact hb'
  rw [← hl]
  have HL := Lib.hid hl; have HI := Lib.hid h; have HO := Lib.hid hother; clear hl h hother
  go_enter Try.func37, Try.ntmps37
  go_wp2
  go_ret
  refine ⟨rfl, ⟨ad, cap, xs, 0, 0, ⟨by simp, ?_, ?_, ?_, ?_, HI.out.below (below1 _ _), HO.out⟩, Nat.le_refl _⟩, below1 _ _, by simp⟩
  · rw [← HL.out]; go_simp
  · go_simp
  · go_simp
  · intro o; go_simp
end Go.Proofs.Ytnhikdjljjemlaa
/- What the reference draws from a source of choices: numbers. No condition. -/
namespace Go.Proofs.Ytnhikdjljjemlaa
open Go Go.RowKit
set_option linter.unusedVariables false
set_option linter.unusedSimpArgs false
def plainQ (d j : Nat) : Nat := fop .quo .f32 (floatOfInt .f32 ((j : Int) - 64)) d
def isPl (x : Nat) : Prop := ∃ j, j < 129 ∧ (x = plainQ 1088421888 j ∨ x = plainQ 1098907648 j)
theorem plain_some : ∀ j : Nat, j < 129 → floatBits .quo .f32 (floatOfInt .f32 ((j : Int) - 64)) 1088421888 = some (plainQ 1088421888 j) ∧ floatBits .quo .f32 (floatOfInt .f32 ((j : Int) - 64)) 1098907648 = some (plainQ 1098907648 j) := by decide +kernel
theorem isPl_lt {x : Nat} (h : isPl x) : x < 4294967296 := by
  obtain ⟨j, hj, h⟩ := h
  obtain ⟨h1, h2⟩ := plain_some j hj
  rcases h with rfl | rfl
  · have := floatBits_wf h1; simpa [Lit.wf] using this
  · have := floatBits_wf h2; simpa [Lit.wf] using this
theorem draw_plain (w : World) (g n : Nat) (h : Src w g n) (hn : n ≤ 800000000) :
    Calls Try.prog 49 #[.pointer (some ⟨g, 0, none⟩)] w fun e w' => ∃ x : Nat, e = .returned (.float .f32 x) ∧ Hid (isPl x) ∧ Src w' g (n + 4) ∧ Touch g (g + 1) w w' := by
  have hk := fun W m hW hm => src_pick W g m hW hm 129 (by decide) (by decide)
  have ho := fun W m hW hm => src_one W g m hW hm 4 (by decide) (by decide)
  have HK := Lib.hid hk; have HO := Lib.hid ho; have HS := Lib.hid h; clear hk ho h
  go_enter Try.func49, Try.ntmps49
  go_wp2_with fail
  refine (HK.out _ n HS.out (by omega)).mono ?_
  rintro e w1 ⟨j, rfl, hj, hs1, ht1⟩
  have hj := Int.ofNat_lt.1 hj
  have HS1 := Lib.hid hs1; have HT1 := Lib.hid ht1; clear hs1 ht1
  obtain ⟨h7, h16⟩ := plain_some j hj
  have q1 := fun w => fbits_some h7 w
  have q2 := fdr_some h7
  have q3 := fun w => fbits_some h16 w
  have q4 := fdr_some h16
  have hz := World.drewN_none
  clear h7 h16
  go_wp2_with fail
  refine (HO.out _ (n + 2) HS1.out (by omega)).mono ?_
  rintro e w2 ⟨b, rfl, hs2, ht2⟩
  have HS2 := Lib.hid hs2; have HT2 := Lib.hid ht2; clear hs2 ht2
  cases b
  · go_wp2
    go_ret
    exact ⟨_, rfl, Lib.hid ⟨j, hj, .inr rfl⟩, HS2.out, HT1.out.trans HT2.out⟩
  · go_wp2
    go_ret
    exact ⟨_, rfl, Lib.hid ⟨j, hj, .inl rfl⟩, HS2.out, HT1.out.trans HT2.out⟩
theorem strange_lt : ∀ i, i < 10 → ∃ m : Nat, ([0, 2147483648, 2139095040, 4286578688, 2143289344, 1, 2139095039, 8388608, 8388607, 2147483649] : List Int).getD i 0 = m ∧ m < 4294967296 := by
  intro i hi
  match i, hi with
  | 0, _ => exact ⟨0, rfl, by decide⟩
  | 1, _ => exact ⟨2147483648, rfl, by decide⟩
  | 2, _ => exact ⟨2139095040, rfl, by decide⟩
  | 3, _ => exact ⟨4286578688, rfl, by decide⟩
  | 4, _ => exact ⟨2143289344, rfl, by decide⟩
  | 5, _ => exact ⟨1, rfl, by decide⟩
  | 6, _ => exact ⟨2139095039, rfl, by decide⟩
  | 7, _ => exact ⟨8388608, rfl, by decide⟩
  | 8, _ => exact ⟨8388607, rfl, by decide⟩
  | 9, _ => exact ⟨2147483649, rfl, by decide⟩
theorem scales_lt : ∀ i, i < 4 → ∃ m : Nat, ([8388608, 2130706432, 1610612736, 536870912] : List Int).getD i 0 = m ∧ m < 4294967296 := by
  intro i hi
  match i, hi with
  | 0, _ => exact ⟨8388608, rfl, by decide⟩
  | 1, _ => exact ⟨2130706432, rfl, by decide⟩
  | 2, _ => exact ⟨1610612736, rfl, by decide⟩
  | 3, _ => exact ⟨536870912, rfl, by decide⟩
theorem arr_cell (w : World) (e : TypeId) (vs : List Int) (i : Nat) (hi : i < vs.length) : (w.alloc (.cells (vs.map (Value.int .i64)).toArray e)).cell? ⟨w.heap.size, i, none⟩ = some (.int .i64 (vs.getD i 0)) := by
  rw [World.cell?_alloc_at _ _ _ _ rfl]
  simp [List.getD_eq_getElem?_getD, List.getElem?_eq_getElem hi]
theorem draw_float (w : World) (g n : Nat) (h : Src w g n) (hn : n ≤ 700000000) :
    Calls Try.prog 48 #[.pointer (some ⟨g, 0, none⟩)] w fun e w' => ∃ x : Nat, e = .returned (.float .f32 x) ∧ x < 4294967296 ∧ Src w' g (n + 20) ∧ Touch g (g + 1) w w' := by
  have hk := fun W m hW hm N h1 h2 => src_pick W g m hW hm N h1 h2
  have ho := fun W m hW hm => src_one W g m hW hm 12 (by decide) (by decide)
  have hp := fun W m hW hm => draw_plain W g m hW hm
  have hgl : g < w.heap.size := by obtain ⟨_, _, _, _, _, h1, _⟩ := h; exact h1.lt
  have HK := Lib.hid hk; have HO := Lib.hid ho; have HP := Lib.hid hp; have HS := Lib.hid h; clear hk ho hp h
  go_enter Try.func48, Try.ntmps48
  go_wp2_with fail
  refine (HO.out _ n HS.out (by omega)).mono ?_
  rintro e w1 ⟨b, rfl, hs1, ht1⟩
  have z1 := ht1.size
  have HS1 := Lib.hid hs1; have HT1 := Lib.hid ht1; clear hs1 ht1
  cases b
  · go_wp2_with fail
    refine (HP.out _ (n + 2) HS1.out (by omega)).mono ?_
    rintro e w2 ⟨x, rfl, hx, hs2, ht2⟩
    have HS2 := Lib.hid hs2; have HT2 := Lib.hid ht2; clear hs2 ht2
    go_wp2
    go_ret
    exact ⟨x, rfl, isPl_lt hx.out, HS2.out.mono (by omega), HT1.out.trans HT2.out⟩
  go_wp2_with fail
  refine (HK.out _ (n + 2) HS1.out (by omega) 4 (by decide) (by decide)).mono ?_
  rintro e w2 ⟨c, rfl, hc, hs2, ht2⟩
  have hc := Int.ofNat_lt.1 hc
  have z2 := ht2.size
  have HS2 := Lib.hid hs2; have HT2 := Lib.hid (HT1.out.trans ht2); clear hs2 ht2
  by_cases h0 : c = 0
  · subst h0
    go_wp2_with fail
    refine (src_among _ g (n + 4) ((HS2.out.below (below1 _ _)).mono (by omega)) (by omega) w2.heap.size 10 10 [0, 2147483648, 2139095040, 4286578688, 2143289344, 1, 2139095039, 8388608, 8388607, 2147483649] (by omega) (by simp) ?_ (by decide) (by decide)).mono ?_
    · intro i hi
      exact arr_cell _ _ [0, 2147483648, 2139095040, 4286578688, 2143289344, 1, 2139095039, 8388608, 8388607, 2147483649] i hi
    rintro e w3 ⟨i, hi, rfl, hs3, ht3⟩
    obtain ⟨m, hm, hm2⟩ := strange_lt i hi
    rw [hm]
    have HS3 := Lib.hid hs3; have HT3 := Lib.hid ht3; clear hs3 ht3
    go_wp2_with fail
    refine (spec_l01From m hm2 _).mono ?_
    rintro e w4 ⟨rfl, rfl⟩
    go_wp2
    go_ret
    exact ⟨m, rfl, hm2, HS3.out.mono (by omega), (HT2.out.trans (Touch.of_below (below1 _ _))).trans HT3.out⟩
  by_cases h1 : c = 1
  · subst h1
    go_wp2_with fail
    refine (HK.out _ (n + 4) HS2.out (by omega) 65536 (by decide) (by decide)).mono ?_
    rintro e w3 ⟨a, rfl, ha, hs3, ht3⟩
    have HS3 := Lib.hid hs3; have HT3 := Lib.hid (HT2.out.trans ht3); clear hs3 ht3
    go_wp2_with fail
    refine (HK.out _ (n + 6) HS3.out (by omega) 65536 (by decide) (by decide)).mono ?_
    rintro e w4 ⟨d, rfl, hd, hs4, ht4⟩
    have HS4 := Lib.hid hs4; have HT4 := Lib.hid (HT3.out.trans ht4); clear hs4 ht4
    go_wp2_with fail
    refine (spec_l01From (a * 65536 + d) (by omega) _).mono ?_
    rintro e w5 ⟨rfl, rfl⟩
    go_wp2
    go_ret
    exact ⟨_, rfl, by omega, HS4.out.mono (by omega), HT4.out⟩
  by_cases h2 : c = 2
  · subst h2
    go_wp2_with fail
    refine (HK.out _ (n + 4) HS2.out (by omega) 65536 (by decide) (by decide)).mono ?_
    rintro e w3 ⟨a, rfl, ha, hs3, ht3⟩
    have HS3 := Lib.hid hs3; have HT3 := Lib.hid (HT2.out.trans ht3); clear hs3 ht3
    go_wp2_with fail
    refine (spec_l01From (a * 65536) (by omega) _).mono ?_
    rintro e w5 ⟨rfl, rfl⟩
    go_wp2
    go_ret
    exact ⟨_, rfl, by omega, HS3.out.mono (by omega), HT3.out⟩
  · have n0 : ((c : Int) == 0) = false := by simp; omega
    have n1 : ((c : Int) == 1) = false := by simp; omega
    have n2 : ((c : Int) == 2) = false := by simp; omega
    clear h0 h1 h2
    go_wp2_with fail
    refine (HP.out _ (n + 4) HS2.out (by omega)).mono ?_
    rintro e w3 ⟨x, rfl, hx, hs3, ht3⟩
    have z3 := ht3.size
    have HS3 := Lib.hid hs3; have HT3 := Lib.hid (HT2.out.trans ht3); clear hs3 ht3
    go_wp2_with fail
    refine (src_among _ g (n + 8) ((HS3.out.below (below1 _ _)).mono (by omega)) (by omega) w3.heap.size 4 4 [8388608, 2130706432, 1610612736, 536870912] (by omega) (by simp) ?_ (by decide) (by decide)).mono ?_
    · intro i hi
      exact arr_cell _ _ [8388608, 2130706432, 1610612736, 536870912] i hi
    rintro e w4 ⟨i, hi, rfl, hs4, ht4⟩
    obtain ⟨m, hm, hm2⟩ := scales_lt i hi
    rw [hm]
    have HS4 := Lib.hid hs4; have HT4 := Lib.hid ht4; clear hs4 ht4
    go_wp2_with fail
    refine (spec_l01From m hm2 _).mono ?_
    rintro e w5 ⟨rfl, rfl⟩
    go_wp2
    go_ret
    exact ⟨_, rfl, fbits_lt _ .f32 _ _ _, (HS4.out.below (below_drewN (Below.refl _ _) _)).mono (by omega), ((HT3.out.trans (Touch.of_below (below1 _ _))).trans HT4.out).trans (Touch.of_below (below_drewN (Below.refl _ _) _))⟩
end Go.Proofs.Ytnhikdjljjemlaa
/- What the reference draws from a source of choices: lists. No condition. -/
namespace Go.Proofs.Ytnhikdjljjemlaa
open Go Go.RowKit
set_option linter.unusedVariables false
set_option linter.unusedSimpArgs false
theorem touch_below' {lo hi : Nat} {w W w' : World} (ht : Touch lo hi w W) (hb : Below w.heap.size W w') : Touch lo hi w w' :=
  ⟨hb.os.trans ht.os, hb.tape.trans ht.tape, hb.output.trans ht.output, Nat.le_trans ht.size hb.size, fun k hk hd => (hb.block k hk).trans (ht.block k hk hd)⟩
theorem src_lt {w : World} {g n : Nat} (h : Src w g n) : g < w.heap.size := by obtain ⟨_, _, _, _, _, h1, _⟩ := h; exact h1.lt
theorem src_belowB {B : Nat} {w w' : World} {g n : Nat} (h : Src w g n) (hb : Below B w w') (hg : g < B) : Src w' g n := h.kept hb.size fun k hk => hb.block k (Nat.lt_of_le_of_lt hk hg)
theorem owns_touch {w w' : World} {lo2 hi2 e size base n : Nat} {v : Value} {cs : List Value} (h : w.ownsRow base e size v n cs) (ht : Touch lo2 hi2 w w') (hd : hi2 ≤ base) : w'.ownsRow base e size v n cs := ((Row.mk' h).touch ht (.inr hd)).own
theorem touch_from {w w1 w' : World} {g : Nat} (hb : Below w.heap.size w w1) (hg : w.heap.size ≤ g) (ht : Touch g (g + 1) w1 w') : Below w.heap.size w w' := touch_below hb ht hg
set_option maxRecDepth 100000 in
set_option maxHeartbeats 2000000 in
theorem draw_floats (w : World) (g n : Nat) (h : Src w g n) (hn : n ≤ 600000000) (N : Nat) (hN : N ≤ 100000) :
    Calls Try.prog 39 #[.pointer (some ⟨g, 0, none⟩), .int .i64 N] w fun e w' => ∃ (ad : Option Addr) (cap : Nat) (ys : List Nat), e = .returned (.slice ad N cap) ∧ RepF w' w.heap.size w'.heap.size ad N cap ys ∧ Src w' g (n + 2 + 20 * N) ∧ Touch g (g + 1) w w' := by
  obtain ⟨i0, hi, hz0, hz1, hz2⟩ := info_parts info_f32
  have ho := fun W m hW hm => src_one W g m hW hm 4 (by decide) (by decide)
  have hp := fun W m hW hm => draw_plain W g m hW hm
  have hq := fun W m hW hm => draw_float W g m hW hm
  have hgl := src_lt h
  have HO := Lib.hid ho; have HP := Lib.hid hp; have HQ := Lib.hid hq; have HS := Lib.hid h; clear ho hp hq h
  go_enter Try.func39, Try.ntmps39
  go_wp2_with fail
  refine (HO.out _ n ((HS.out.below (below1 _ _)).mono (Nat.le_refl _)) (by omega)).mono ?_
  rintro e w1 ⟨b, rfl, hs1, ht1⟩
  have z1 := ht1.size
  have ho1 : w1.ownsRow w.heap.size 24 1 (.slice (some ⟨w.heap.size, 0, none⟩) 0 0) 0 [] := owns_touch (World.ownsRow_made _ _ _ (Nat.le_refl _) (Nat.zero_le _) rfl) ht1 (by omega)
  have hT1 : Touch g (g + 1) w w1 := (Touch.of_below (below1 _ _)).trans ht1
  clear ht1
  go_wp2
  go_loopw [5, 1] (fun v i wr => ∃ k : Nat, i = .int .i64 ((N : Int) - k) ∧ k ≤ N ∧ ∃ ys : List Nat, wr.ownsRow w.heap.size 24 1 v k (ys.map (Value.float .f32)) ∧ (∀ y ∈ ys, (fun y => y < 4294967296) y) ∧ Src wr g (n + 2 + 20 * k) ∧ Touch g (g + 1) w wr) (fun _ i _ => (intOf i).toNat)
  case atStart => exact ⟨0, by simp, Nat.zero_le _, [], ho1, (fun y hy => nomatch hy), hs1.mono (by omega), hT1⟩
  case round =>
    clear ho1 hs1 hT1
    obtain ⟨k, rfl, hk, ys, hown, hys, hs, ht⟩ := hrel
    have hwz := ht.size
    have HLT := Lib.hid hys; have HWN := Lib.hid hown; have HS1 := Lib.hid hs; have HT1 := Lib.hid ht; clear hys hown hs ht
    by_cases hlt : k < N
    · have hp : 0 < (N : Int) - k := by omega
      cases b
      · go_wp2_with fail
        refine (HP.out _ (n + 2 + 20 * k) HS1.out (by omega)).mono ?_
        rintro e w2 ⟨x, rfl, hx, hs2, ht2⟩
        have hx := isPl_lt hx.out
        have hwz2 := ht2.size
        have hown2 := owns_touch HWN.out ht2 (by omega)
        have HT2 := Lib.hid (HT1.out.trans ht2); have HS2 := Lib.hid hs2; have HWN := Lib.hid hown2
        clear ht2 hs2 hown2
        go_wp2_with (at_builtin; refine wp_app rfl _ _ 29 rfl w.heap.size i0 (.float .f32 0) 1 4 Try.underlying29 hi hz0 hz1 hz2 rfl (by decide) rfl (one_cell _ rfl) _ _ _ rfl HWN.out rfl ?c3 ?c4 ?c5 ?_)
        case c3 => unfold maxLen; omega
        case c4 => omega
        case c5 => omega
        intro v' w9 hown1 hb9 hbs1
        have hs9 := src_belowB HS2.out hb9 (by omega)
        have ht9 := touch_below' HT2.out (hb9.mono (by omega))
        have HS9 := Lib.hid hs9; have HT9 := Lib.hid ht9
        clear hs9 ht9 hb9
        go_wp2
        go_roundw
        case rel =>
          refine ⟨k + 1, by congr 1; omega, hlt, ys ++ [x], by simpa using hown1, ?_, HS9.out.mono (by omega), HT9.out⟩
          intro z hz
          rcases List.mem_append.1 hz with hz | hz
          · exact HLT.out z hz
          · simp at hz; rw [hz]; exact hx
        case measure => simp [intOf]; omega
      · go_wp2_with fail
        refine (HQ.out _ (n + 2 + 20 * k) HS1.out (by omega)).mono ?_
        rintro e w2 ⟨x, rfl, hx, hs2, ht2⟩
        have hwz2 := ht2.size
        have hown2 := owns_touch HWN.out ht2 (by omega)
        have HT2 := Lib.hid (HT1.out.trans ht2); have HS2 := Lib.hid hs2; have HWN := Lib.hid hown2
        clear ht2 hs2 hown2
        go_wp2_with (at_builtin; refine wp_app rfl _ _ 29 rfl w.heap.size i0 (.float .f32 0) 1 4 Try.underlying29 hi hz0 hz1 hz2 rfl (by decide) rfl (one_cell _ rfl) _ _ _ rfl HWN.out rfl ?c3 ?c4 ?c5 ?_)
        case c3 => unfold maxLen; omega
        case c4 => omega
        case c5 => omega
        intro v' w9 hown1 hb9 hbs1
        have hs9 := src_belowB HS2.out hb9 (by omega)
        have ht9 := touch_below' HT2.out (hb9.mono (by omega))
        have HS9 := Lib.hid hs9; have HT9 := Lib.hid ht9
        clear hs9 ht9 hb9
        go_wp2
        go_roundw
        case rel =>
          refine ⟨k + 1, by congr 1; omega, hlt, ys ++ [x], by simpa using hown1, ?_, HS9.out.mono (by omega), HT9.out⟩
          intro z hz
          rcases List.mem_append.1 hz with hz | hz
          · exact HLT.out z hz
          · simp at hz; rw [hz]; exact hx
        case measure => simp [intOf]; omega
    · have hkn : k = N := by omega
      subst hkn
      have hp : (k : Int) - k ≤ 0 := by omega
      go_wp2
      go_ret
      obtain ⟨ad, cap, rfl, hr⟩ := RepF.of_owns HWN.out HLT.out
      exact ⟨ad, cap, rfl, ⟨ys, hr⟩, HS1.out.mono (by omega), HT1.out⟩
set_option maxRecDepth 100000 in
set_option maxHeartbeats 2000000 in
theorem b10_small (w : World) (a0 : Option Addr) (c0 : Nat) (l0 : List Int) (h : Ints .u8 w a0 c0 l0) (N : Nat) (hN : N ≤ 100000) :
    Calls Try.prog 24 #[.slice a0 l0.length c0, .int .i64 N] w fun e w' => ∃ (ad : Option Addr) (cap : Nat) (ys : List Nat), e = .returned (.slice ad N cap) ∧ RepF w' w.heap.size w'.heap.size ad N cap ys ∧ Hid (∀ y ∈ ys, isPl y) ∧ Below w.heap.size w w' := by
  obtain ⟨i0, hi, hz0, hz1, hz2⟩ := info_parts info_f32
  have hp := fun W m hW hm => draw_plain W w.heap.size m hW hm
  have hf := src_from w a0 c0 l0 h
  have HP := Lib.hid hp; have HF := Lib.hid hf; clear hp hf h
  go_enter Try.func24, Try.ntmps24
  go_wp2_with fail
  refine HF.out.mono ?_
  rintro e w1 ⟨rfl, hs, hb1, hz⟩
  obtain ⟨g, hg⟩ : ∃ g, g = w.heap.size := ⟨_, rfl⟩
  rw [← hg] at hs hz HP ⊢
  obtain ⟨n, hn⟩ : ∃ n, n = 0 := ⟨_, rfl⟩
  rw [← hn] at hs
  have hn0 : n ≤ 0 := by omega
  have hgl : w.heap.size ≤ g := by omega
  have HG := Lib.hid hg; have HB1 := Lib.hid hb1; clear hn hg hb1
  have hS1 := src_belowB hs (below1 w1 (.cells #[] 24)) hz
  have HS1 := Lib.hid hS1; clear hS1
  go_wp2
  go_loopw [6, 1] (fun v i wr => ∃ k : Nat, i = .int .i64 ((N : Int) - k) ∧ k ≤ N ∧ ∃ ys : List Nat, wr.ownsRow w1.heap.size 24 1 v k (ys.map (Value.float .f32)) ∧ (∀ y ∈ ys, isPl y) ∧ Src wr g (n + 0 + 4 * k) ∧ Touch g (g + 1) w1 wr) (fun _ i _ => (intOf i).toNat)
  case atStart => exact ⟨0, by simp, Nat.zero_le _, [], World.ownsRow_made _ _ _ (Nat.le_refl _) (Nat.zero_le _) rfl, (fun y hy => nomatch hy), (hs.below (below1 _ _)).mono (by omega), Touch.of_below (below1 _ _)⟩
  case round =>
    clear hs HS1
    obtain ⟨k, rfl, hk, ys, hown, hys, hs, ht⟩ := hrel
    have hwz := ht.size
    have HLT := Lib.hid hys; have HWN := Lib.hid hown; have HS1 := Lib.hid hs; have HT1 := Lib.hid ht; clear hys hown hs ht
    by_cases hlt : k < N
    · have hp : 0 < (N : Int) - k := by omega
      go_wp2_with fail
      refine (HP.out _ (n + 0 + 4 * k) HS1.out (by omega)).mono ?_
      rintro e w2 ⟨x, rfl, hx, hs2, ht2⟩
      have hx := hx.out
      have HXX := Lib.hid hx; clear hx
      have hwz2 := ht2.size
      have hown2 := owns_touch HWN.out ht2 (by omega)
      have HT2 := Lib.hid (HT1.out.trans ht2); have HS2 := Lib.hid hs2; have HWN := Lib.hid hown2
      clear ht2 hs2 hown2
      go_wp2_with (at_builtin; refine wp_app rfl _ _ 29 rfl w1.heap.size i0 (.float .f32 0) 1 4 Try.underlying29 hi hz0 hz1 hz2 rfl (by decide) rfl (one_cell _ rfl) _ _ _ rfl HWN.out rfl ?c3 ?c4 ?c5 ?_)
      case c3 => unfold maxLen; omega
      case c4 => omega
      case c5 => omega
      intro v' w9 hown1 hb9 hbs1
      have hs9 := src_belowB HS2.out hb9 (by omega)
      have ht9 := touch_below' HT2.out (hb9.mono (by omega))
      have HS9 := Lib.hid hs9; have HT9 := Lib.hid ht9
      clear hs9 ht9 hb9
      go_wp2
      go_roundw
      case rel =>
        refine ⟨k + 1, by congr 1; omega, hlt, ys ++ [x], by simpa using hown1, ?_, HS9.out.mono (by omega), HT9.out⟩
        intro z hz
        rcases List.mem_append.1 hz with hz | hz
        · exact HLT.out z hz
        · simp at hz; rw [hz]; exact HXX.out
      case measure => simp [intOf]; omega
    · have hkn : k = N := by omega
      subst hkn
      have hp : (k : Int) - k ≤ 0 := by omega
      go_wp2
      go_ret
      obtain ⟨ad, cap, rfl, hr⟩ := RepF.of_owns HWN.out (fun x hx => isPl_lt (HLT.out x hx))
      refine ⟨ad, cap, ys, rfl, ?_, HLT, ?_⟩
      · exact hr.bounds (by omega) (Nat.le_refl _)
      · exact touch_from HB1.out hgl HT1.out
theorem b10_plain (w : World) (a0 : Option Addr) (c0 : Nat) (l0 : List Int) (h : Ints .u8 w a0 c0 l0) :
    Calls Try.prog 17 #[.slice a0 l0.length c0] w fun e w' => ∃ x : Nat, e = .returned (.float .f32 x) ∧ Hid (isPl x) ∧ Below w.heap.size w w' := by
  have hp := fun W m hW hm => draw_plain W w.heap.size m hW hm
  have hf := src_from w a0 c0 l0 h
  have HP := Lib.hid hp; have HF := Lib.hid hf; clear hp hf h
  go_enter Try.func17, Try.ntmps17
  go_wp2_with fail
  refine HF.out.mono ?_
  rintro e w1 ⟨rfl, hs, hb1, hz⟩
  have HS := Lib.hid hs; have HB := Lib.hid hb1; clear hs hb1
  go_wp2_with fail
  refine (HP.out _ 0 HS.out (by decide)).mono ?_
  rintro e w2 ⟨x, rfl, hx, hs2, ht2⟩
  have HT := Lib.hid ht2; clear hs2 ht2
  go_wp2
  go_ret
  exact ⟨x, rfl, hx, touch_from HB.out (Nat.le_refl _) HT.out⟩
theorem b10_number (w : World) (a0 : Option Addr) (c0 : Nat) (l0 : List Int) (h : Ints .u8 w a0 c0 l0) :
    Calls Try.prog 16 #[.slice a0 l0.length c0] w fun e w' => ∃ x : Nat, e = .returned (.float .f32 x) ∧ x < 4294967296 ∧ Below w.heap.size w w' := by
  have hp := fun W m hW hm => draw_float W w.heap.size m hW hm
  have hk := fun W m hW hm => src_pick W w.heap.size m hW hm 65536 (by decide) (by decide)
  have ho := fun W m hW hm => src_one W w.heap.size m hW hm 2 (by decide) (by decide)
  have hf := src_from w a0 c0 l0 h
  have HP := Lib.hid hp; have HF := Lib.hid hf; have HK := Lib.hid hk; have HO := Lib.hid ho; clear hp hf h hk ho
  go_enter Try.func16, Try.ntmps16
  go_wp2_with fail
  refine HF.out.mono ?_
  rintro e w1 ⟨rfl, hs, hb1, hz⟩
  have HS := Lib.hid hs; have HB := Lib.hid hb1; clear hs hb1
  go_wp2_with fail
  refine (HO.out _ 0 HS.out (by decide)).mono ?_
  rintro e w2 ⟨b, rfl, hs2, ht2⟩
  have HS2 := Lib.hid hs2; have HT2 := Lib.hid ht2; clear hs2 ht2
  cases b
  · go_wp2_with fail
    refine (HP.out _ _ HS2.out (by decide)).mono ?_
    rintro e w3 ⟨x, rfl, hx, hs3, ht3⟩
    have HT := Lib.hid ht3; clear hs3 ht3
    go_wp2
    go_ret
    exact ⟨x, rfl, hx, touch_from HB.out (Nat.le_refl _) (HT2.out.trans HT.out)⟩
  · go_wp2_with fail
    refine (HK.out _ _ HS2.out (by decide)).mono ?_
    rintro e w3 ⟨a, rfl, ha, hs3, ht3⟩
    have HS3 := Lib.hid hs3; have HT3 := Lib.hid ht3; clear hs3 ht3
    go_wp2_with fail
    refine (HK.out _ _ HS3.out (by decide)).mono ?_
    rintro e w4 ⟨d, rfl, hd, hs4, ht4⟩
    have HT4 := Lib.hid ht4; clear hs4 ht4
    go_wp2_with fail
    refine (spec_l01From (a * 65536 + d) (by omega) _).mono ?_
    rintro e w5 ⟨rfl, rfl⟩
    go_wp2
    go_ret
    exact ⟨_, rfl, by omega, touch_from HB.out (Nat.le_refl _) ((HT2.out.trans HT3.out).trans HT4.out)⟩
theorem b10_numbers (w : World) (a0 : Option Addr) (c0 : Nat) (l0 : List Int) (h : Ints .u8 w a0 c0 l0) (N : Nat) (hN : N ≤ 100000) :
    Calls Try.prog 10 #[.slice a0 l0.length c0, .int .i64 N] w fun e w' => ∃ (ad : Option Addr) (cap : Nat) (ys : List Nat), e = .returned (.slice ad N cap) ∧ RepF w' w.heap.size w'.heap.size ad N cap ys ∧ Below w.heap.size w w' := by
  have hp := fun W m hW hm => draw_floats W w.heap.size m hW hm N hN
  have hf := src_from w a0 c0 l0 h
  have HP := Lib.hid hp; have HF := Lib.hid hf; clear hp hf h
  go_enter Try.func10, Try.ntmps10
  go_wp2_with fail
  refine HF.out.mono ?_
  rintro e w1 ⟨rfl, hs, hb1, hz⟩
  have HS := Lib.hid hs; have HB := Lib.hid hb1; clear hs hb1
  go_wp2_with fail
  refine (HP.out _ 0 HS.out (by decide)).mono ?_
  rintro e w2 ⟨ad, cap, ys, rfl, hr, hs2, ht2⟩
  have HT := Lib.hid ht2; have HR := Lib.hid hr; clear hs2 ht2 hr
  go_wp2
  go_ret
  exact ⟨ad, cap, ys, rfl, HR.out.bounds (by omega) (Nat.le_refl _), touch_from HB.out (Nat.le_refl _) HT.out⟩
end Go.Proofs.Ytnhikdjljjemlaa
/- What the reference draws from a source of choices: at most so many finite numbers. No condition. -/
namespace Go.Proofs.Ytnhikdjljjemlaa
open Go Go.RowKit
set_option linter.unusedVariables false
set_option linter.unusedSimpArgs false
theorem pl_finB : ∀ j : Nat, j < 129 → finB (plainQ 1088421888 j) = true ∧ finB (plainQ 1098907648 j) = true := by decide +kernel
theorem isPl.finB {x : Nat} (h : isPl x) : Go.Proofs.Ytnhikdjljjemlaa.finB x = true := by
  obtain ⟨j, hj, h⟩ := h
  rcases h with rfl | rfl
  · exact (pl_finB j hj).1
  · exact (pl_finB j hj).2
def isFw (x : Nat) : Prop := finB x = true ∧ x < 4294967296
set_option maxRecDepth 100000 in
set_option maxHeartbeats 4000000 in
theorem r8_finite (w : World) (a0 : Option Addr) (c0 : Nat) (l0 : List Int) (h : Ints .u8 w a0 c0 l0) (M : Nat) (hM : M ≤ 10000) :
    Calls Try.prog 31 #[.slice a0 l0.length c0, .int .i64 M] w fun e w' => ∃ (ad : Option Addr) (N cap : Nat) (ys : List Nat), e = .returned (.slice ad N cap) ∧ N ≤ M ∧ RepF w' w.heap.size w'.heap.size ad N cap ys ∧ Hid (∀ y ∈ ys, isFw y) ∧ Below w.heap.size w w' := by
  obtain ⟨i0, hi, hz0, hz1, hz2⟩ := info_parts info_f32
  have hk := fun W m hW hm => src_pick W w.heap.size m hW hm ((M : Int) + 1) (by omega) (by omega)
  have hp := fun W m hW hm => draw_plain W w.heap.size m hW hm
  have hq := fun W m hW hm => draw_float W w.heap.size m hW hm
  have hf := src_from w a0 c0 l0 h
  have HP := Lib.hid hp; have HQ := Lib.hid hq; have HF := Lib.hid hf; have HK := Lib.hid hk; clear hp hq hf h hk
  go_enter Try.func31, Try.ntmps31
  go_wp2_with fail
  refine HF.out.mono ?_
  rintro e w1 ⟨rfl, hs, hb1, hz⟩
  obtain ⟨g, hg⟩ : ∃ g, g = w.heap.size := ⟨_, rfl⟩
  rw [← hg] at hs hz HP HQ HK ⊢
  have hgl : w.heap.size ≤ g := by omega
  have HG := Lib.hid hg; have HB1 := Lib.hid hb1; clear hg hb1
  have hS1 := src_belowB hs (below1 w1 (.cells #[] 24)) hz
  have HS1 := Lib.hid hS1; clear hS1 hs
  go_wp2_with fail
  refine (HK.out _ 0 HS1.out (by decide)).mono ?_
  rintro e w2 ⟨N, rfl, hN, hs2, ht2⟩
  have hN : N ≤ M := by omega
  have hz2' := ht2.size
  have hz3 : w1.heap.size < w2.heap.size := by
    have := hz2'
    simp at this; omega
  have hown0 : w2.ownsRow w1.heap.size 24 1 (.slice (some ⟨w1.heap.size, 0, none⟩) 0 0) 0 (([] : List Nat).map (Value.float .f32)) :=
    owns_touch (World.ownsRow_made _ _ _ (Nat.le_refl _) (Nat.zero_le _) rfl) ht2 (by omega)
  have HT2 := Lib.hid (((Touch.of_below (below1 w1 (.cells #[] 24)) : Touch g (g + 1) _ _)).trans ht2)
  have HS2 := Lib.hid hs2
  clear hs2 ht2 hz2'
  have hs2 := HS2.out
  go_wp2
  go_loopw [6, 7, 8] (fun v i x wr => ∃ k : Nat, i = .int .i64 ((N : Int) - k) ∧ k ≤ N ∧ ∃ ys : List Nat, wr.ownsRow w1.heap.size 24 1 v k (ys.map (Value.float .f32)) ∧ (∀ y ∈ ys, isFw y) ∧ Src wr g (0 + 2 + 24 * k) ∧ Touch g (g + 1) w1 wr) (fun _ i _ _ => (intOf i).toNat)
  case atStart => exact ⟨0, by simp, Nat.zero_le _, [], hown0, (fun y hy => nomatch hy), hs2.mono (by omega), HT2.out⟩
  case round =>
    clear hs2 HS1 hown0 HT2 HS2
    obtain ⟨k, rfl, hk, ys, hown, hys, hs, ht⟩ := hrel
    have hwz := ht.size
    have HLT := Lib.hid hys; have HWN := Lib.hid hown; have HS1 := Lib.hid hs; have HT1 := Lib.hid ht; clear hys hown hs ht
    by_cases hlt : k < N
    · have hp : 0 < (N : Int) - k := by omega
      go_wp2_with fail
      refine (HQ.out _ (0 + 2 + 24 * k) HS1.out (by omega)).mono ?_
      rintro e w3 ⟨x, rfl, hx, hs2, ht2⟩
      have hwz2 := ht2.size
      have hown2 := owns_touch HWN.out ht2 (by omega)
      have HT2 := Lib.hid (HT1.out.trans ht2); have HS2 := Lib.hid hs2; have HWN := Lib.hid hown2; have HX := Lib.hid hx
      clear ht2 hs2 hown2 hx
      go_wp2_with fail
      refine (spec_l01Finite _ _).mono ?_
      rintro e w4 ⟨rfl, hd4⟩
      have hz4 := hd4.below.size
      have hs4 := src_belowB HS2.out hd4.below (by omega)
      have hown4 := owns_touch HWN.out (Touch.of_below hd4.below : Touch g (g + 1) _ _) (by omega)
      have HT4 := Lib.hid (HT2.out.trans (Touch.of_below hd4.below)); have HS4 := Lib.hid hs4; have HWN := Lib.hid hown4
      clear hs4 hown4 hd4 HS2 HT2 HS1 HT1
      cases hfx : finB x
      · go_wp2_with fail
        refine (HP.out _ _ HS4.out (by omega)).mono ?_
        rintro e w5 ⟨y, rfl, hy, hs5, ht5⟩
        have hwz5 := ht5.size
        have hown5 := owns_touch HWN.out ht5 (by omega)
        have HT5 := Lib.hid (HT4.out.trans ht5); have HS5 := Lib.hid hs5; have HWN := Lib.hid hown5
        have HXX := Lib.hid (⟨hy.out.finB, isPl_lt hy.out⟩ : isFw y)
        clear hs5 ht5 hown5 hfx hy
        go_wp2_with (at_builtin; refine wp_app rfl _ _ 29 rfl w1.heap.size i0 (.float .f32 0) 1 4 Try.underlying29 hi hz0 hz1 hz2 rfl (by decide) rfl (one_cell _ rfl) _ _ _ rfl HWN.out rfl ?c3 ?c4 ?c5 ?_)
        case c3 => unfold maxLen; omega
        case c4 => omega
        case c5 => omega
        intro v' w9 hown1 hb9 hbs1
        have hs9 := src_belowB HS5.out hb9 (by omega)
        have ht9 := touch_below' HT5.out (hb9.mono (by omega))
        have HS9 := Lib.hid hs9; have HT9 := Lib.hid ht9
        clear hs9 ht9 hb9
        go_wp2
        go_roundw
        case rel =>
          refine ⟨k + 1, by congr 1; omega, hlt, ys ++ [y], by simpa using hown1, ?_, HS9.out.mono (by omega), HT9.out⟩
          intro z hz
          rcases List.mem_append.1 hz with hz | hz
          · exact HLT.out z hz
          · simp at hz; rw [hz]; exact HXX.out
        case measure => simp [intOf]; omega
      · have HXX := Lib.hid (⟨hfx, HX.out⟩ : isFw x)
        go_wp2_with (at_builtin; refine wp_app rfl _ _ 29 rfl w1.heap.size i0 (.float .f32 0) 1 4 Try.underlying29 hi hz0 hz1 hz2 rfl (by decide) rfl (one_cell _ rfl) _ _ _ rfl HWN.out rfl ?c3 ?c4 ?c5 ?_)
        case c3 => unfold maxLen; omega
        case c4 => omega
        case c5 => omega
        intro v' w9 hown1 hb9 hbs1
        have hs9 := src_belowB HS4.out hb9 (by omega)
        have ht9 := touch_below' HT4.out (hb9.mono (by omega))
        have HS9 := Lib.hid hs9; have HT9 := Lib.hid ht9
        clear hs9 ht9 hb9
        go_wp2
        go_roundw
        case rel =>
          refine ⟨k + 1, by congr 1; omega, hlt, ys ++ [x], by simpa using hown1, ?_, HS9.out.mono (by omega), HT9.out⟩
          intro z hz
          rcases List.mem_append.1 hz with hz | hz
          · exact HLT.out z hz
          · simp at hz; rw [hz]; exact HXX.out
        case measure => simp [intOf]; omega
    · have hkn : k = N := by omega
      subst hkn
      have hp : (k : Int) - k ≤ 0 := by omega
      go_wp2
      go_ret
      obtain ⟨ad, cap, rfl, hr⟩ := RepF.of_owns HWN.out (fun x hx => (HLT.out x hx).2)
      refine ⟨ad, k, cap, ys, rfl, hN, ?_, HLT, ?_⟩
      · exact hr.bounds (by omega) (Nat.le_refl _)
      · exact touch_from HB1.out hgl HT1.out
end Go.Proofs.Ytnhikdjljjemlaa
/- What the library's searches by a function do on integers, for whatever function. No condition. -/
namespace Go.Proofs.Ytnhikdjljjemlaa
open Go Go.RowKit
set_option linter.unusedVariables false
def IdxAny (p : Int → Bool) (xs : List Int) (w : World) (e : Ending) (w' : World) : Prop := ∃ i : Int, e = .returned (.int .i64 i) ∧ decide (0 ≤ i) = xs.any p ∧ w = w'
theorem idx_any (w : World) (ad : Option Addr) (cap : Nat) (xs : List Int) (h : Ints .i64 w ad cap xs) (hn : xs.length ≤ 1048576) (G : Nat) (caps : Array Value) (p : Int → Bool) (hG : ∀ (args : Array Value) (W : World), (callFunc G args).run Try.prog W = .ok (.enter G args) W)
    (hcl : ∀ W (n : Int), Calls Try.prog G (#[.int .i64 n] ++ caps) W fun e w' => e = .returned (.bool (p n)) ∧ W = w') :
    Calls Try.prog 93 #[.slice ad xs.length cap, .func (.func G) #[] caps] w (IdxAny p xs w) := by
  obtain ⟨n, hN⟩ : ∃ n, n = xs.length := ⟨_, rfl⟩
  rw [← hN] at hn ⊢
  have HN := Lib.hid hN; have HCL := Lib.hid hcl; clear hN hcl
  go_enter Try.func93, Try.ntmps93
  go_wp2
  go_loop [8] (fun i => ∃ k : Nat, i = .int .i64 k ∧ k ≤ n ∧ (xs.take k).any p = false) (fun i => n - (intOf i).toNat)
  case atStart => exact ⟨0, rfl, Nat.zero_le _, rfl⟩
  case round =>
    obtain ⟨k, rfl, hk, hno⟩ := hrel
    have HO := Lib.hid hno; clear hno
    by_cases hlt : k < n
    · have hkx : k < xs.length := by rw [← HN.out]; exact hlt
      obtain ⟨b, off, rfl, _, hc⟩ := h.spot (i := k) hkx
      have hc1 := hc k hkx
      obtain ⟨x, hx⟩ : ∃ x, x = xs.getD k 0 := ⟨_, rfl⟩
      rw [← hx] at hc1
      have HX := Lib.hid hx; clear hx hc
      cases hb : p x
      · have HB := Lib.hid hb; clear hb
        go_wp2_with fail
        refine (HCL.out _ _).mono ?_
        rintro e w' ⟨rfl, rfl⟩
        have hb := HB.out
        go_wp2
        go_round
        case rel =>
          refine ⟨k + 1, by go_num, hlt, ?_⟩
          rw [List.take_succ_eq_append_getElem hkx, List.any_append, HO.out]
          have : xs[k] = x := by rw [HX.out, List.getD_eq_getElem?_getD, List.getElem?_eq_getElem hkx]; rfl
          simp [this, hb]
        case measure => simp [intOf]; omega
      · have HB := Lib.hid hb; clear hb
        go_wp2_with fail
        refine (HCL.out _ _).mono ?_
        rintro e w' ⟨rfl, rfl⟩
        have hb := HB.out
        go_wp2
        go_ret
        refine ⟨k, rfl, ?_, rfl⟩
        have : (xs.any p) = true := by
          rw [List.any_eq_true]
          exact ⟨xs.getD k 0, by rw [List.getD_eq_getElem?_getD, List.getElem?_eq_getElem hkx]; exact List.getElem_mem hkx, by rw [← HX.out, hb]⟩
        rw [this]; simp
    · have hkn : k = n := by omega
      subst hkn
      go_wp2
      go_ret
      refine ⟨-1, rfl, ?_, rfl⟩
      have := HO.out
      rw [HN.out, List.take_length] at this
      rw [this]; rfl
theorem contains_any (w : World) (ad : Option Addr) (cap : Nat) (xs : List Int) (h : Ints .i64 w ad cap xs) (hn : xs.length ≤ 1048576) (G : Nat) (caps : Array Value) (p : Int → Bool) (hG : ∀ (args : Array Value) (W : World), (callFunc G args).run Try.prog W = .ok (.enter G args) W)
    (hcl : ∀ W (n : Int), Calls Try.prog G (#[.int .i64 n] ++ caps) W fun e w' => e = .returned (.bool (p n)) ∧ W = w') :
    Calls Try.prog 72 #[.slice ad xs.length cap, .func (.func G) #[] caps] w fun e w' => e = .returned (.bool (xs.any p)) ∧ w = w' := by
  have hc := idx_any w ad cap xs h hn G caps p hG hcl
  have HC := Lib.hid hc; clear hc hcl hG
  go_enter Try.func72, Try.ntmps72
  go_wp2_with fail
  refine HC.out.mono ?_
  rintro e w' ⟨i, rfl, hi, rfl⟩
  have HI := Lib.hid hi; clear hi
  go_wp2
  go_ret
  exact ⟨by rw [← HI.out]; rfl, rfl⟩
end Go.Proofs.Ytnhikdjljjemlaa
/- What the codes of numbers are, as lists. No condition. -/
namespace Go.Proofs.Ytnhikdjljjemlaa
open Go Go.RowKit Ieee
set_option linter.unusedVariables false
set_option linter.unusedSimpArgs false
theorem order_zero_pos {sp : Nat} (h0 : 0 < sp) (hs : sp < single.infRung) : FloatKind.f32.format.order sp 0 = some .gt := by
  have := order_pos single hs (show 0 < single.infRung by decide +kernel)
  show single.order sp 0 = _
  rw [this]
  congr 1
  exact Nat.compare_eq_gt.2 h0
set_option maxRecDepth 100000 in
set_option maxHeartbeats 1000000 in
theorem impl_coded (w : World) (a1 : Option Addr) (c1 : Nat) (xs : List Nat) (h1 : F32s w a1 c1 xs) (sp : Nat) (hs : sp < 4294967296) (hsp : spreadOk sp = true) (hfew : fewFin xs = true) (G : Nat) (caps : Array Value) (Wf : Nat → Nat → Nat) (hG : ∀ (args : Array Value) (W : World), (callFunc G args).run Try.prog W = .ok (.enter G args) W)
    (hW : ∀ i q, isN .f64 q = false → isN .f64 (Wf i q) = false ∧ Wf i q < 18446744073709551616)
    (hcl : ∀ W i q, i < xs.length → isN .f64 q = false → Below w.heap.size w W → Calls Try.prog G (#[.int .i64 (i : Nat), .float .f64 q] ++ caps) W fun e w' => e = .returned (.float .f64 (Wf i q)) ∧ Dr W w') :
    Calls Try.prog 69 #[.slice a1 xs.length c1, .float .f32 sp, .func (.func G) #[] caps] w fun e w' => ∃ (v : Value), e = .returned v ∧
      w'.ownsRow w.heap.size 2 1 v xs.length ((lsI xs.length (codeE Wf xs sp)).map (Value.int .i64)) ∧ Below w.heap.size w w' := by
  obtain ⟨i0, hi, hz0, hz1, hz2⟩ := info_parts info_i64
  obtain ⟨hn, hfin⟩ := few_of hfew
  have hbd := fun i hi => codeE_bd hW hs hsp h1.lt hfin (i := i) hi
  have hq := fun i (hi : i < xs.length) (h0 : 0 < sp) => quo_at (x := xs.getD i 0) (h1.lt _ (by rw [List.getD_eq_getElem?_getD, List.getElem?_eq_getElem hi]; exact List.getElem_mem hi)) (hfin _ (by rw [List.getD_eq_getElem?_getD, List.getElem?_eq_getElem hi]; exact List.getElem_mem hi)) hs hsp h0
  have hpos := spread_pos hs hsp
  obtain ⟨n, e1⟩ : ∃ n, n = xs.length := ⟨_, rfl⟩
  rw [← e1] at hn ⊢
  have E1 := Lib.hid e1; have HBD := Lib.hid hbd; have HQ := Lib.hid hq; have HW := Lib.hid hW; have HCL := Lib.hid hcl; have H1 := Lib.hid h1; have HPOS := Lib.hid hpos
  clear e1 hbd hq hW hcl h1 hpos hfin hfew hsp hs
  go_enter Try.func69, Try.ntmps69
  go_wp2
  go_loopw [7, 14] (fun v i wr => ∃ k : Nat, i = .int .i64 k ∧ k ≤ n ∧ wr.ownsRow w.heap.size 2 1 v k ((lsI k (codeE Wf xs sp)).map (Value.int .i64)) ∧ Below w.heap.size w wr ∧ w.heap.size ≤ wr.heap.size) (fun _ i _ => n - (intOf i).toNat)
  case atStart => exact ⟨0, rfl, Nat.zero_le _, World.ownsRow_made _ _ _ (Nat.le_refl _) (Nat.zero_le _) rfl, below1 _ _, by simp⟩
  case round =>
    obtain ⟨k, rfl, hk, hown, hb, hbs⟩ := hrel
    by_cases hlt : k < n
    · have hkx : k < xs.length := by rw [← E1.out]; exact hlt
      have h1 := H1.out.below hb
      obtain ⟨b, off, rfl, _, hq⟩ := h1.spot (k := k) hkx
      have hc := hq k hkx
      obtain ⟨x1, px⟩ : ∃ x, x = xs.getD k 0 := ⟨_, rfl⟩
      rw [← px] at hc
      have PX := Lib.hid px
      clear px hq h1
      by_cases h0 : sp = 0
      · subst h0
        have hz : FloatKind.f32.format.order 0 0 = some .eq := by decide +kernel
        have hcd : codeE Wf xs 0 k = 0 := by unfold codeE; rw [if_pos rfl]
        have hcv := fun w => run_convert_float_int (P := Try.prog) w 46 2 .f64 .i64 0 0 (by rw [Try.underlying46]; rfl) Try.underlying2 (by decide +kernel)
        have HCD := Lib.hid hcd; clear hcd
        go_wp2_with (at_builtin; refine wp_app rfl _ _ 54 rfl w.heap.size i0 (.int .i64 0) 1 8 Try.underlying54 hi hz0 hz1 hz2 rfl (by decide) rfl (one_cell _ rfl) _ _ _ rfl hown rfl ?c3 ?c4 ?c5 ?_)
        case c3 => unfold maxLen; omega
        case c4 => omega
        case c5 => exact hbs
        intro v' w9 hown1 hb1 hbs1
        have hb1 := hb.trans hb1
        clear hown hb hbs hcv
        go_wp2
        go_roundw
        case rel => exact ⟨k + 1, by go_num, hlt, by rw [lsI_succ, HCD.out]; simpa using hown1, hb1, hbs1⟩
        case measure => simp [intOf]; omega
      · have h0 : 0 < sp := by omega
        have hz := order_zero_pos h0 HPOS.out
        obtain ⟨hq1, hq2, hq3⟩ := HQ.out k hkx h0
        rw [← PX.out] at hq1 hq2 hq3
        obtain ⟨m, M, m1, m2, m3, m4, m5⟩ := clamp_ok (HW.out k _ hq2).1 (HW.out k _ hq2).2
        have hcd : codeE Wf xs sp k = clampI (Wf k (qE x1 sp)) := by unfold codeE; rw [if_neg (by omega), PX.out]
        have hcv := fun w => run_convert_float_int (P := Try.prog) w 46 2 .f64 .i64 M _ (by rw [Try.underlying46]; rfl) Try.underlying2 m3
        have hmin := fun w A T => run_min_f (P := Try.prog) w A T .f64 _ _ m m1
        have hmax := fun w A T => run_max_f (P := Try.prog) w A T .f64 _ _ M m2
        unfold c127 at hmin
        unfold cm127 at hmax
        rw [← hcd] at hcv
        have HCD := Lib.hid hcd; have HQ2 := Lib.hid hq2; clear hcd hq2 m1 m2 m3 m4 m5 hq3
        go_wp2_with fail
        refine (HCL.out _ k (qE x1 sp) hkx HQ2.out ?_).mono ?_
        · exact below_drewN hb _
        rintro e w2 ⟨rfl, q, rfl⟩
        go_wp2_with (at_builtin; refine wp_app rfl _ _ 54 rfl w.heap.size i0 (.int .i64 0) 1 8 Try.underlying54 hi hz0 hz1 hz2 rfl (by decide) rfl (one_cell _ rfl) _ _ _ rfl hown rfl ?c3 ?c4 ?c5 ?_)
        case c3 => unfold maxLen; omega
        case c4 => omega
        case c5 => exact hbs
        intro v' w9 hown1 hb1 hbs1
        have hb1 := (below_drewN hb _).trans hb1
        clear hown hb hbs hcv hmin hmax hq1
        go_wp2
        go_roundw
        case rel => exact ⟨k + 1, by go_num, hlt, by rw [lsI_succ]; simpa using hown1, hb1, hbs1⟩
        case measure => simp [intOf]; omega
    · have hkn : k = n := by omega
      subst hkn
      go_wp2
      go_ret
      exact ⟨_, rfl, hown, hb⟩
def cdOk (xs : List Nat) (sp : Nat) : Bool := fewFin xs && spreadOk sp

theorem impl_CodesOf_no (w : World) (a1 : Option Addr) (c1 : Nat) (xs : List Nat) (h1 : F32s w a1 c1 xs) (sp : Nat) (hsp : sp < 4294967296) (hok : cdOk xs sp = false) :
    Calls Try.prog 33 #[.slice a1 xs.length c1, .float .f32 sp] w fun e w' => e = .returned (.tuple #[.slice none 0 0, .bool false]) ∧ Below w.heap.size w w' := by
  have k1 := fun W hW => impl_areFew W a1 c1 xs hW
  have k2 := fun W => impl_isSpread sp hsp W
  unfold cdOk at hok
  have J1 := Lib.hid h1; have C1 := Lib.hid k1; have C2 := Lib.hid k2
  clear k1 k2
  cases b1 : fewFin xs
  · clear hok
    go_enter Try.func33, Try.ntmps33
    go_wp2_with fail
    refine (C1.out _ J1.out).mono ?_
    rintro e w1 ⟨rfl, q, rfl⟩
    go_wp2
    go_ret2
    exact ⟨rfl, below_drewN (Below.refl _ _) _⟩
  · have b2 : spreadOk sp = false := by simpa [b1] using hok
    clear hok
    go_enter Try.func33, Try.ntmps33
    go_wp2_with fail
    refine (C1.out _ J1.out).mono ?_
    rintro e w1 ⟨rfl, q, rfl⟩
    go_wp2_with fail
    refine (C2.out _).mono ?_
    rintro e w1 ⟨rfl, ⟨q, rfl⟩⟩
    go_wp2
    go_ret2
    exact ⟨rfl, below_drewN (Below.refl _ _) _⟩
theorem impl_CodesOf_yes (w : World) (a1 : Option Addr) (c1 : Nat) (xs : List Nat) (h1 : F32s w a1 c1 xs) (sp : Nat) (hsp : sp < 4294967296) (hok : cdOk xs sp = true) :
    Calls Try.prog 33 #[.slice a1 xs.length c1, .float .f32 sp] w fun e w' => ∃ (v : Value), e = .returned (.tuple #[v, .bool true]) ∧
      w'.ownsRow w.heap.size 2 1 v xs.length ((lsI xs.length (codeE WOf xs sp)).map (Value.int .i64)) ∧ Below w.heap.size w w' := by
  have k1 := fun W hW => impl_areFew W a1 c1 xs hW
  have k2 := fun W => impl_isSpread sp hsp W
  simp only [cdOk, Bool.and_eq_true] at hok
  obtain ⟨b1, b2⟩ := hok
  have k3 := fun W hW => impl_coded W a1 c1 xs hW sp hsp b2 b1 70 #[] WOf (fun args W => by kernel_rfl) (fun i q hq => WOf_ok hq) (fun W' i q _ hq _ => impl_CodesOf_1 i q hq W')
  have J1 := Lib.hid h1; have C1 := Lib.hid k1; have C2 := Lib.hid k2; have C3 := Lib.hid k3
  clear k1 k2 k3
  go_enter Try.func33, Try.ntmps33
  go_wp2_with fail
  refine (C1.out _ J1.out).mono ?_
  rintro e w1 ⟨rfl, q, rfl⟩
  go_wp2_with fail
  refine (C2.out _).mono ?_
  rintro e w1 ⟨rfl, ⟨q, rfl⟩⟩
  go_wp2_with fail
  refine (C3.out _ (J1.out.below (below_drewN (Below.refl _ _) _))).mono ?_
  rintro e w1 ⟨v, rfl, ho, hb⟩
  go_wp2
  go_ret2
  exact ⟨_, rfl, ho, (below_drewN (Below.refl _ _) _).trans hb⟩
theorem codes_rep {w w' : World} {xs : List Nat} {sp : Nat} {Wf : Nat → Nat → Nat} {e : Ending} {v : Value} (hok : cdOk xs sp = true) (hsp : sp < 4294967296) (hx : ∀ x ∈ xs, x < 4294967296) (hW : ∀ i q, isN .f64 q = false → isN .f64 (Wf i q) = false ∧ Wf i q < 18446744073709551616)
    (he : e = .returned (.tuple #[v, .bool true])) (ho : w'.ownsRow w.heap.size 2 1 v xs.length ((lsI xs.length (codeE Wf xs sp)).map (Value.int .i64))) (hb : Below w.heap.size w w') :
    ∃ (ad : Option Addr) (n cap : Nat) (ys : List Int) (b : Bool), e = .returned (.tuple #[.slice ad n cap, .bool b]) ∧
      RepI w' w.heap.size w'.heap.size ad n cap ys ∧ ys = (if true = true then lsI xs.length (codeE Wf xs sp) else []) ∧ n ≤ 1048576 ∧ b = true ∧ Below w.heap.size w w' := by
  simp only [cdOk, Bool.and_eq_true] at hok
  obtain ⟨hn, hfin⟩ := few_of hok.1
  have hwf : ∀ x ∈ lsI xs.length (codeE Wf xs sp), (Lit.int .i64 x).wf = true := by
    intro x hx'
    obtain ⟨i, hi, rfl⟩ := List.mem_map.1 hx'
    exact wf_code (codeE_bd hW hsp hok.2 hx hfin (List.mem_range.1 hi))
  obtain ⟨ad, cap, rfl, hr⟩ := RepI.of_owns ho hwf
  exact ⟨ad, _, cap, _, true, he, hr, by rw [if_pos rfl], by omega, rfl, hb⟩
theorem impl_CodesOf (w : World) (a1 : Option Addr) (c1 : Nat) (xs : List Nat) (h1 : F32s w a1 c1 xs) (sp : Nat) (hsp : sp < 4294967296) :
    Calls Try.prog 33 #[.slice a1 xs.length c1, .float .f32 sp] w fun e w' => ∃ (ad : Option Addr) (n cap : Nat) (ys : List Int) (b : Bool), e = .returned (.tuple #[.slice ad n cap, .bool b]) ∧
      RepI w' w.heap.size w'.heap.size ad n cap ys ∧ ys = (if cdOk xs sp = true then lsI xs.length (codeE WOf xs sp) else []) ∧ n ≤ 1048576 ∧ b = cdOk xs sp ∧ Below w.heap.size w w' := by
  cases hok : cdOk xs sp
  · exact (impl_CodesOf_no w a1 c1 xs h1 sp hsp hok).mono fun e w' ⟨he, hb⟩ => ⟨none, 0, 0, [], false, he, RepI.nil _ _ _, rfl, by omega, rfl, hb⟩
  · refine (impl_CodesOf_yes w a1 c1 xs h1 sp hsp hok).mono fun e w' ⟨v, he, ho, hb⟩ => ?_
    exact codes_rep hok hsp h1.lt (fun i q hq => WOf_ok hq) he ho hb
end Go.Proofs.Ytnhikdjljjemlaa
/- What the codes of numbers by chances are. No condition. -/
namespace Go.Proofs.Ytnhikdjljjemlaa
open Go Go.RowKit Ieee
set_option linter.unusedVariables false
set_option linter.unusedSimpArgs false
def chOk (ch : List Int) : Bool := !(ch.any fun n => !(inB n 0 255))
def byOk (xs : List Nat) (sp : Nat) (ch : List Int) : Bool := cdOk xs sp && (decide (ch.length = xs.length) && chOk ch)
theorem impl_CodesBy_1 (n : Int) (w : World) : Calls Try.prog 73 #[.int .i64 n] w fun e w' => e = .returned (.bool !(inB n 0 255)) ∧ w = w' := by
  go_enter Try.func73, Try.ntmps73
  go_wp2_with (go_at_call 40; refine (within_any _ _ _ _).mono ?_; rintro e w' ⟨rfl, rfl⟩)
  go_ret
  exact ⟨rfl, rfl⟩
theorem impl_CodesBy_no (w : World) (a1 : Option Addr) (c1 : Nat) (xs : List Nat) (h1 : F32s w a1 c1 xs) (sp : Nat) (hsp : sp < 4294967296) (a2 : Option Addr) (c2 : Nat) (ch : List Int) (h2 : Ints .i64 w a2 c2 ch) (hl : ch.length ≤ 1048576) (hok : byOk xs sp ch = false) :
    Calls Try.prog 35 #[.slice a1 xs.length c1, .float .f32 sp, .slice a2 ch.length c2] w fun e w' => e = .returned (.tuple #[.slice none 0 0, .bool false]) ∧ Below w.heap.size w w' := by
  have k1 := fun W hW => impl_areFew W a1 c1 xs hW
  have k2 := fun W => impl_isSpread sp hsp W
  have k3 := fun W hW => contains_any W a2 c2 ch hW hl 73 #[] (fun n => !(inB n 0 255)) (fun args W => by kernel_rfl) (fun W n => impl_CodesBy_1 n W)
  have J1 := Lib.hid h1; have J2 := Lib.hid h2; have C1 := Lib.hid k1; have C2 := Lib.hid k2; have C3 := Lib.hid k3
  obtain ⟨n, e1⟩ : ∃ n, n = xs.length := ⟨_, rfl⟩
  obtain ⟨m, e2⟩ : ∃ n, n = ch.length := ⟨_, rfl⟩
  unfold byOk cdOk at hok
  rw [← e1, ← e2] at hok
  rw [← e2] at C3 hl
  rw [← e1] at C1
  rw [← e1, ← e2]
  clear k1 k2 k3 h1 h2 e1 e2
  cases b1 : fewFin xs
  · clear hok
    go_enter Try.func35, Try.ntmps35
    go_wp2_with fail
    refine (C1.out _ (J1.out.below (below1 _ _))).mono ?_
    rintro e w1 ⟨rfl, q, rfl⟩
    go_wp2
    go_ret2
    exact ⟨rfl, below_drewN (below1 _ _) _⟩
  cases b2 : spreadOk sp
  · clear hok
    go_enter Try.func35, Try.ntmps35
    go_wp2_with fail
    refine (C1.out _ (J1.out.below (below1 _ _))).mono ?_
    rintro e w1 ⟨rfl, q, rfl⟩
    go_wp2_with fail
    refine (C2.out _).mono ?_
    rintro e w1 ⟨rfl, ⟨q, rfl⟩⟩
    go_wp2
    go_ret2
    exact ⟨rfl, below_drewN (below1 _ _) _⟩
  by_cases b3 : m = n
  · have b4 : chOk ch = false := by simpa [b1, b2, b3] using hok
    have b4 : (ch.any fun n => !(inB n 0 255)) = true := by simpa [chOk] using b4
    subst b3
    clear hok
    have B4 := Lib.hid b4; clear b4
    go_enter Try.func35, Try.ntmps35
    go_wp2_with fail
    refine (C1.out _ (J1.out.below (below1 _ _))).mono ?_
    rintro e w1 ⟨rfl, q, rfl⟩
    go_wp2_with fail
    refine (C2.out _).mono ?_
    rintro e w1 ⟨rfl, ⟨q, rfl⟩⟩
    go_wp2_with fail
    refine (C3.out _ (J2.out.below (below_drewN (below1 _ _) _))).mono ?_
    rintro e w1 ⟨rfl, rfl⟩
    rw [B4.out]
    go_wp2
    go_ret2
    exact ⟨rfl, below_drewN (below1 _ _) _⟩
  · clear hok
    have b3' : ((m : Int) != (n : Int)) = true := by simp; omega
    go_enter Try.func35, Try.ntmps35
    go_wp2_with fail
    refine (C1.out _ (J1.out.below (below1 _ _))).mono ?_
    rintro e w1 ⟨rfl, q, rfl⟩
    go_wp2_with fail
    refine (C2.out _).mono ?_
    rintro e w1 ⟨rfl, ⟨q, rfl⟩⟩
    go_wp2
    go_ret2
    exact ⟨rfl, below_drewN (below1 _ _) _⟩
theorem impl_CodesBy_yes (w : World) (a1 : Option Addr) (c1 : Nat) (xs : List Nat) (h1 : F32s w a1 c1 xs) (sp : Nat) (hsp : sp < 4294967296) (a2 : Option Addr) (c2 : Nat) (ch : List Int) (h2 : Ints .i64 w a2 c2 ch) (hl : ch.length ≤ 1048576) (hok : byOk xs sp ch = true) :
    Calls Try.prog 35 #[.slice a1 xs.length c1, .float .f32 sp, .slice a2 ch.length c2] w fun e w' => ∃ (v : Value), e = .returned (.tuple #[v, .bool true]) ∧
      w'.ownsRow w.heap.size 2 1 v xs.length ((lsI xs.length (codeE (WBy ch) xs sp)).map (Value.int .i64)) ∧ Below w.heap.size w w' := by
  have k1 := fun W hW => impl_areFew W a1 c1 xs hW
  have k2 := fun W => impl_isSpread sp hsp W
  have k3 := fun W hW => contains_any W a2 c2 ch hW hl 73 #[] (fun n => !(inB n 0 255)) (fun args W => by kernel_rfl) (fun W n => impl_CodesBy_1 n W)
  simp only [byOk, cdOk, Bool.and_eq_true, decide_eq_true_eq] at hok
  obtain ⟨⟨b1, b2⟩, b3, b4⟩ := hok
  have b4 : (ch.any fun n => !(inB n 0 255)) = false := by simpa [chOk] using b4
  have k4 := fun W hW g (hg : W.cell? ⟨g, 0, none⟩ = some (.slice a2 ch.length c2)) (hch : Ints .i64 W a2 c2 ch) (hgl : g < W.heap.size) => impl_coded W a1 c1 xs hW sp hsp b2 b1 74 #[.pointer (some ⟨g, 0, none⟩)] (WBy ch) (fun args W => by kernel_rfl) (fun i q hq => WBy_ok hq) (fun W' i q hi hq hb => impl_CodesBy_2 W' g a2 c2 ch (hch.below hb) (((bcell hb).1 g 0 hgl).trans hg) i (by omega) q hq)
  have J1 := Lib.hid h1; have J2 := Lib.hid h2; have C1 := Lib.hid k1; have C2 := Lib.hid k2; have C3 := Lib.hid k3; have C4 := Lib.hid k4
  obtain ⟨n, e1⟩ : ∃ n, n = xs.length := ⟨_, rfl⟩
  rw [b3] at C3 C4 hl
  rw [← e1] at C1 C3 C4 hl
  rw [b3, ← e1]
  clear k1 k2 k3 k4 h1 h2 e1 b3
  have B4 := Lib.hid b4; clear b4
  go_enter Try.func35, Try.ntmps35
  go_wp2_with fail
  refine (C1.out _ (J1.out.below (below1 _ _))).mono ?_
  rintro e w1 ⟨rfl, q, rfl⟩
  go_wp2_with fail
  refine (C2.out _).mono ?_
  rintro e w1 ⟨rfl, ⟨q, rfl⟩⟩
  go_wp2_with fail
  refine (C3.out _ (J2.out.below (below_drewN (below1 _ _) _))).mono ?_
  rintro e w1 ⟨rfl, rfl⟩
  rw [B4.out]
  go_wp2_with fail
  refine (C4.out _ (J1.out.below (below_drewN (below1 _ _) _)) w.heap.size (by simp) (J2.out.below (below_drewN (below1 _ _) _)) (by simp)).mono ?_
  rintro e w1 ⟨v, rfl, ho, hb⟩
  go_wp2
  go_ret2
  exact ⟨_, rfl, ((Row.mk' ho).bounds (by simp) (Nat.le_refl _)).own, bthen (below_drewN (below1 _ _) _) hb⟩
theorem impl_CodesBy (w : World) (a1 : Option Addr) (c1 : Nat) (xs : List Nat) (h1 : F32s w a1 c1 xs) (sp : Nat) (a2 : Option Addr) (c2 : Nat) (ch : List Int) (h2 : Ints .i64 w a2 c2 ch) (hsp : sp < 4294967296) (hl : ch.length ≤ 1048576) :
    Calls Try.prog 35 #[.slice a1 xs.length c1, .float .f32 sp, .slice a2 ch.length c2] w fun e w' => ∃ (ad : Option Addr) (n cap : Nat) (ys : List Int) (b : Bool), e = .returned (.tuple #[.slice ad n cap, .bool b]) ∧
      RepI w' w.heap.size w'.heap.size ad n cap ys ∧ ys = (if byOk xs sp ch = true then lsI xs.length (codeE (WBy ch) xs sp) else []) ∧ n ≤ 1048576 ∧ b = byOk xs sp ch ∧ Below w.heap.size w w' := by
  cases hok : byOk xs sp ch
  · exact (impl_CodesBy_no w a1 c1 xs h1 sp hsp a2 c2 ch h2 hl hok).mono fun e w' ⟨he, hb⟩ => ⟨none, 0, 0, [], false, he, RepI.nil _ _ _, rfl, by omega, rfl, hb⟩
  · refine (impl_CodesBy_yes w a1 c1 xs h1 sp hsp a2 c2 ch h2 hl hok).mono fun e w' ⟨v, he, ho, hb⟩ => ?_
    exact codes_rep (by simp only [byOk, Bool.and_eq_true] at hok; exact hok.1) hsp h1.lt (fun i q hq => WBy_ok hq) he ho hb
end Go.Proofs.Ytnhikdjljjemlaa
/- Rows of the call's own that grow by turns. No condition. -/
namespace Go.Proofs.Ytnhikdjljjemlaa
open Go Go.RowKit
set_option linter.unusedVariables false
set_option linter.unusedSimpArgs false
/-- an element is appended to a row of the call's own; where it lies then is told -/
theorem wp_appA {P : Program} {ops : Array Oper} {rest : List Oper} {o : Oper} {a : Act} {Q : Exit → Act → World → Prop} {e : TypeId} {W : World} {cs : Array Value} (hgd : o.guard = none) (s x : Operand) (t : TypeId)
    (ho : o.op = .call { callee := .builtin .append, args := #[s, x], argTypes := #[t, t] })
    (base : Nat) (i : TypeInfo) (z : Value) (size bytes : Nat) (ht : P.underlying t = some (.slice e)) (hi : P.info? e = some i) (hz : i.zero = some z)
    (hsize : i.size = size) (hby : i.bytes = bytes) (hzs : z.cells.size = size) (hsz : 0 < size)
    (hcs : cs.size = size) (h1 : ∀ u ∈ cs.toList, u.oneCell' = true)
    (v : Value) (n : Nat) (xs : List Value) (hs : a.eval s = v) (hown : W.ownsRow base e size v n xs) (hx : a.eval x = .slice (some ⟨W.heap.size, 0, none⟩) 1 1)
    (h63 : n + 1 ≤ maxLen) (hbytes : (n + 1) * bytes ≤ 140737488355328) (hbase : base ≤ W.heap.size)
    (h : ∀ v' w', w'.ownsRow base e size v' (n + 1) (xs ++ cs.toList) → (W.alloc (.cells cs e)).grownBy w' v.ownBlock → (v'.ownBlock = v.ownBlock ∨ v'.ownBlock = some (W.heap.size + 1)) → Below base W w' → base ≤ w'.heap.size → wpList P ops Q rest (a.put o.dst v') w') : wpList P ops Q (o :: rest) a (W.alloc (.cells cs e)) := by
  refine wpList_append_own_at (W.alloc (.cells cs e)) hgd s x t ho base e i z size bytes ht hi hz hsize hby hzs hsz v n xs hs (hown.alloc _) ⟨W.heap.size, 0, none⟩ 1 1 cs.toList hx (by simpa using hcs) ?_ h1 h63 hbytes (by simp; omega) ?_
  · intro j u hj
    rw [Addr.add_lit, World.cell?_alloc_at _ _ _ _ rfl]
    simpa using hj
  · intro v' w' h2 hg _ hat
    have hb : Below base W w' := ((Below.refl _ _).alloc hbase _).grown hg (by simp; omega) (fun j hj => (hown.lt j hj).1)
    refine h v' w' h2 hg (by simpa using hat) hb ?_
    have := hg.size
    simp at this
    omega
/-- two rows of the call's own in blocks of their own -/
structure Two (w : World) (base : Nat) (e1 : TypeId) (v1 : Value) (n1 : Nat) (c1 : List Value) (e2 : TypeId) (v2 : Value) (n2 : Nat) (c2 : List Value) : Prop where
  one : w.ownsRow base e1 1 v1 n1 c1
  two : w.ownsRow base e2 1 v2 n2 c2
  sep : ∀ g, v1.ownBlock = some g → v2.ownBlock ≠ some g
theorem Two.swap {w : World} {base : Nat} {e1 e2 : TypeId} {v1 v2 : Value} {n1 n2 : Nat} {c1 c2 : List Value} (h : Two w base e1 v1 n1 c1 e2 v2 n2 c2) : Two w base e2 v2 n2 c2 e1 v1 n1 c1 := ⟨h.two, h.one, fun g e1 e2 => h.sep g e2 e1⟩
theorem Two.below {w w' : World} {base : Nat} {e1 e2 : TypeId} {v1 v2 : Value} {n1 n2 : Nat} {c1 c2 : List Value} (h : Two w base e1 v1 n1 c1 e2 v2 n2 c2) (hb : Below w.heap.size w w') : Two w' base e1 v1 n1 c1 e2 v2 n2 c2 := ⟨owns_below h.one hb, owns_below h.two hb, h.sep⟩
/-- the first row has grown -/
theorem Two.grow {w w' : World} {base : Nat} {e1 e2 : TypeId} {v1 v2 v' : Value} {n1 n2 n' : Nat} {c1 c2 c' : List Value} {o : Obj} (h : Two w base e1 v1 n1 c1 e2 v2 n2 c2)
    (h1 : w'.ownsRow base e1 1 v' n' c') (hg : (w.alloc o).grownBy w' v1.ownBlock) (hat : v'.ownBlock = v1.ownBlock ∨ v'.ownBlock = some (w.heap.size + 1)) : Two w' base e1 v' n' c' e2 v2 n2 c2 := by
  refine ⟨h1, (h.two.alloc o).kept hg ?_, ?_⟩
  · cases hv : v2.ownBlock with
    | none => exact .inl rfl
    | some g =>
      right
      intro e
      exact h.sep g e.symm hv
  · intro g e1 e2
    rcases hat with hat | hat
    · exact h.sep g (hat.symm.trans e1) e2
    · have := (h.two.lt g e2).2
      rw [hat] at e1
      cases e1
      omega
theorem getD_snoc_left {xs : List Int} {x : Int} {i : Nat} (h : i < xs.length) : (xs ++ [x]).getD i 0 = xs.getD i 0 := by
  rw [List.getD_eq_getElem?_getD, List.getD_eq_getElem?_getD, List.getElem?_append_left h]
theorem getD_snoc_at {xs : List Int} {x : Int} {i : Nat} (h : i = xs.length) : (xs ++ [x]).getD i 0 = x := by
  subst h; simp
end Go.Proofs.Ytnhikdjljjemlaa
/- What the laws choose by the bytes that they get. No condition. -/
namespace Go.Proofs.Ytnhikdjljjemlaa
open Go Go.RowKit
set_option linter.unusedVariables false
theorem b10Long_no (a1 a2 : Option Addr) (n1 n2 c1 c2 : Nat) (w : World) (h1 : n1 ≤ 1048576) (h2 : n2 ≤ 1048576) :
    Calls Try.prog 7 #[.slice a1 n1 c1, .slice a2 n2 c2] w fun e w' => e = .returned (.bool false) ∧ w = w' := by
  go_enter Try.func7, Try.ntmps7
  go_wp2
  go_ret
  refine ⟨?_, rfl⟩
  simp
  omega
theorem b10Long_yes (a1 a2 : Option Addr) (n1 n2 c1 c2 : Nat) (w : World) (h : ¬ (n1 ≤ 1048576 ∧ n2 ≤ 1048576)) :
    Calls Try.prog 7 #[.slice a1 n1 c1, .slice a2 n2 c2] w fun e w' => e = .returned (.bool true) ∧ w = w' := by
  by_cases h1 : 1048576 < n1
  · clear h
    go_enter Try.func7, Try.ntmps7
    go_wp2
    go_ret
    exact ⟨rfl, rfl⟩
  · have h2 : 1048576 < n2 := by omega
    clear h
    go_enter Try.func7, Try.ntmps7
    go_wp2
    go_ret
    refine ⟨?_, rfl⟩
    simp
    omega
theorem b10At_any (w : World) (ad : Option Addr) (cap : Nat) (xs : List Int) (h : Ints .u8 w ad cap xs) (i n : Int) (h0 : 0 ≤ i) (h1 : i ≤ 1000000) (hn : 1 ≤ n) (hn2 : n ≤ 1000000) :
    Calls Try.prog 9 #[.slice ad xs.length cap, .int .i64 i, .int .i64 n] w fun e w' => ∃ r : Nat, e = .returned (.int .i64 r) ∧ (r : Int) < n ∧ w = w' := by
  have hm := Nat.le_trans h.len h.cap
  unfold maxLen at hm
  obtain ⟨i, rfl⟩ := Int.eq_ofNat_of_zero_le h0
  by_cases hn1 : n ≤ 1
  · go_enter Try.func9, Try.ntmps9
    go_wp2
    go_ret
    exact ⟨0, rfl, by omega, rfl⟩
  · by_cases hi : i < xs.length
    · obtain ⟨b, off, rfl, _, hc⟩ := h.spot (i := i) hi
      have hcell := hc i hi
      have hw := h.wf (xs.getD i 0) (by rw [List.getD_eq_getElem?_getD, List.getElem?_eq_getElem hi]; exact List.getElem_mem hi)
      obtain ⟨x, hx⟩ : ∃ x, x = xs.getD i 0 := ⟨_, rfl⟩
      rw [← hx] at hcell hw
      have hb := bounds_u8 hw
      obtain ⟨hb0, hb1⟩ := hb
      obtain ⟨l, hl⟩ : ∃ l, l = xs.length := ⟨_, rfl⟩
      rw [← hl] at hi hm ⊢
      clear hx hw hc h hl
      go_enter Try.func9, Try.ntmps9
      go_wp2
      go_ret
      have g0 := Int.emod_nonneg x (show n ≠ 0 by omega)
      have g1 := Int.emod_lt_of_pos x (show 0 < n by omega)
      exact ⟨(x % n).toNat, by rw [Int.toNat_of_nonneg g0]; rfl, by omega, rfl⟩
    · clear h
      obtain ⟨l, hl⟩ : ∃ l, l = xs.length := ⟨_, rfl⟩
      rw [← hl] at hi hm ⊢
      clear hl
      go_enter Try.func9, Try.ntmps9
      go_wp2
      go_ret
      have g0 := Int.emod_nonneg ((i : Int) * 37 + 11) (show n ≠ 0 by omega)
      have g1 := Int.emod_lt_of_pos ((i : Int) * 37 + 11) (show 0 < n by omega)
      exact ⟨(((i : Int) * 37 + 11) % n).toNat, by rw [Int.toNat_of_nonneg g0]; rfl, by omega, rfl⟩
end Go.Proofs.Ytnhikdjljjemlaa
/- What the laws of the later layers choose by the bytes that they get. No condition. -/
namespace Go.Proofs.Ytnhikdjljjemlaa
open Go Go.RowKit
set_option linter.unusedVariables false
theorem r8Long_no (a1 a2 : Option Addr) (n1 n2 c1 c2 : Nat) (w : World) (h1 : n1 ≤ 48) (h2 : n2 ≤ 48) :
    Calls Try.prog 30 #[.slice a1 n1 c1, .slice a2 n2 c2] w fun e w' => e = .returned (.bool false) ∧ w = w' := by
  go_enter Try.func30, Try.ntmps30
  go_wp2
  go_ret
  refine ⟨?_, rfl⟩
  simp
  omega
theorem r8Long_yes (a1 a2 : Option Addr) (n1 n2 c1 c2 : Nat) (w : World) (h : ¬ (n1 ≤ 48 ∧ n2 ≤ 48)) :
    Calls Try.prog 30 #[.slice a1 n1 c1, .slice a2 n2 c2] w fun e w' => e = .returned (.bool true) ∧ w = w' := by
  by_cases h1 : 48 < n1
  · clear h
    go_enter Try.func30, Try.ntmps30
    go_wp2
    go_ret
    exact ⟨rfl, rfl⟩
  · have h2 : 48 < n2 := by omega
    clear h
    go_enter Try.func30, Try.ntmps30
    go_wp2
    go_ret
    refine ⟨?_, rfl⟩
    simp
    omega
theorem r8At_any (w : World) (ad : Option Addr) (cap : Nat) (xs : List Int) (h : Ints .u8 w ad cap xs) (i n : Int) (h0 : 0 ≤ i) (h1 : i ≤ 1000000) (hn : 1 ≤ n) (hn2 : n ≤ 1000000) :
    Calls Try.prog 34 #[.slice ad xs.length cap, .int .i64 i, .int .i64 n] w fun e w' => ∃ r : Nat, e = .returned (.int .i64 r) ∧ (r : Int) < n ∧ w = w' := by
  have hm := Nat.le_trans h.len h.cap
  unfold maxLen at hm
  obtain ⟨i, rfl⟩ := Int.eq_ofNat_of_zero_le h0
  by_cases hn1 : n ≤ 1
  · clear h
    obtain ⟨l, hl⟩ : ∃ l, l = xs.length := ⟨_, rfl⟩
    rw [← hl] at hm ⊢
    clear hl
    go_enter Try.func34, Try.ntmps34
    go_wp2
    go_ret
    exact ⟨0, rfl, by omega, rfl⟩
  · by_cases hi : i < xs.length
    · obtain ⟨b, off, rfl, _, hc⟩ := h.spot (i := i) hi
      have hcell := hc i hi
      have hw := h.wf (xs.getD i 0) (by rw [List.getD_eq_getElem?_getD, List.getElem?_eq_getElem hi]; exact List.getElem_mem hi)
      obtain ⟨x, hx⟩ : ∃ x, x = xs.getD i 0 := ⟨_, rfl⟩
      rw [← hx] at hcell hw
      have hb := bounds_u8 hw
      obtain ⟨hb0, hb1⟩ := hb
      obtain ⟨l, hl⟩ : ∃ l, l = xs.length := ⟨_, rfl⟩
      rw [← hl] at hi hm ⊢
      clear hx hw hc h hl
      go_enter Try.func34, Try.ntmps34
      go_wp2
      go_ret
      have g0 := Int.emod_nonneg x (show n ≠ 0 by omega)
      have g1 := Int.emod_lt_of_pos x (show 0 < n by omega)
      exact ⟨(x % n).toNat, by rw [Int.toNat_of_nonneg g0]; rfl, by omega, rfl⟩
    · clear h
      obtain ⟨l, hl⟩ : ∃ l, l = xs.length := ⟨_, rfl⟩
      rw [← hl] at hi hm ⊢
      clear hl
      go_enter Try.func34, Try.ntmps34
      go_wp2
      go_ret
      exact ⟨0, rfl, by omega, rfl⟩
end Go.Proofs.Ytnhikdjljjemlaa
/- Plain laws of codes in 8 bits, in the form of the walk. No condition. -/
namespace Go.Proofs.Ytnhikdjljjemlaa
open Go Go.RowKit Ieee
set_option linter.unusedVariables false
set_option linter.unusedSimpArgs false
set_option exponentiation.threshold 2000
theorem fin_finB {x : Nat} (hx : x < 4294967296) (h : finB x = true) : Fin single x := by
  obtain ⟨s, r, e, hr⟩ := word_of single (x := x) (by rw [s_sw]; omega)
  rw [e] at h
  exact ⟨s, r, e, fin_rung hr h⟩
theorem finB_fin {x : Nat} (h : Fin single x) : finB x = true := by
  obtain ⟨s, m, p, e, -⟩ := h.read
  unfold finB; rw [e]
theorem few_fw {xs : List Nat} (h : ∀ y ∈ xs, isFw y) (hl : xs.length ≤ 256) : fewFin xs = true := by
  simp only [fewFin, Bool.and_eq_true, decide_eq_true_eq, List.all_eq_true]
  exact ⟨hl, fun y hy => (h y hy).1⟩
theorem getD_fw {xs : List Nat} (h : ∀ y ∈ xs, isFw y) {i : Nat} (hi : i < xs.length) : Fin single (xs.getD i 0) ∧ xs.getD i 0 < 4294967296 := by
  rw [List.getD_eq_getElem?_getD, List.getElem?_eq_getElem hi]
  have := h _ (List.getElem_mem hi)
  exact ⟨fin_finB this.2 this.1, this.2⟩
theorem spread_good {xs : List Nat} {n s : Nat} (h : Spread xs n s) : Fin single s ∧ finB s = true ∧ spreadOk s = true ∧ s < 4294967296 := by
  have hl := h.lt
  obtain ⟨f, v⟩ := pos_val hl
  have h0 : (0 : Rat) ≤ val single s := by rw [v]; exact Rat.mul_nonneg Rat.natCast_nonneg (Rat.le_of_lt (pw_pos _))
  have hz : Fin single 0 ∧ val single 0 = 0 := ⟨⟨false, 0, by decide +kernel, by decide +kernel⟩, by decide +kernel⟩
  have hv := order_val (k := .f32) f hz.1
  have hge : geF s 0 = true := by
    unfold geF
    rcases rat_tri (val single s) 0 with k | k | k
    · exact absurd h0 (Rat.not_le.mpr k)
    · rw [hv.2.2.2 (by show val single s = val single 0; rw [hz.2]; exact k)]; decide
    · rw [hv.2.1.2 (by show val single 0 < val single s; rw [hz.2]; exact k)]; decide
  refine ⟨f, finB_fin f, ?_, by omega⟩
  unfold spreadOk
  rw [finB_fin f, hge]
  simp; omega
theorem lsI_getD {n : Nat} (f : Nat → Int) {i : Nat} (hi : i < n) : (lsI n f).getD i 0 = f i := by
  rw [List.getD_eq_getElem?_getD, List.getElem?_eq_getElem (by rw [lsI_length]; exact hi)]
  simp [lsI]
theorem codes_good {n : Nat} {C : Nat → Int} (hn : n ≤ 256) (h : ∀ i, i < n → -127 ≤ C i ∧ C i ≤ 127) : codesOk (lsI n C) = true := by
  simp only [codesOk, Bool.and_eq_true, decide_eq_true_eq, List.all_eq_true, lsI_length]
  refine ⟨hn, fun y hy => ?_⟩
  unfold lsI at hy
  obtain ⟨i, hi, rfl⟩ := List.mem_map.1 hy
  exact inB_iff.2 (h i (List.mem_range.1 hi))
/-- halves of 1 -/
def lowW (k : Nat) : Nat := (1023 - k) * 4503599627370496
theorem low_step : ∀ k : Nat, k < 100 → floatBits .quo .f64 (lowW k) 4611686018427387904 = some (lowW (k + 1)) := by decide +kernel
def topW : Nat := 1123 * 4503599627370496
theorem low_end : floatBits .quo .f64 4607182418800017408 (lowW 100) = some topW := by decide +kernel
theorem low_val : (Fin double (lowW 100) ∧ val double (lowW 100) = cLow) ∧ (Fin double topW ∧ val double topW = cHigh) :=
  ⟨⟨fin64_of (by decide), by decide +kernel⟩, ⟨fin64_of (by decide), by decide +kernel⟩⟩
theorem in_range {s : Nat} (h : Fin single s) (h1 : FloatKind.f64.format.order (fcv .f32 s .f64) (lowW 100) ≠ some .lt) (h2 : FloatKind.f64.format.order (fcv .f32 s .f64) topW ≠ some .gt) : cLow ≤ val single s ∧ val single s ≤ cHigh := by
  obtain ⟨w1, w2⟩ := wide_val h
  obtain ⟨⟨a1, a2⟩, b1, b2⟩ := low_val
  have v1 := order_val (k := .f64) w1 a1
  have v2 := order_val (k := .f64) w1 b1
  rw [show val FloatKind.f64.format (fcv .f32 s .f64) = _ from w2] at v1 v2
  constructor
  · rcases rat_tri (val single s) cLow with k | k | k
    · exact absurd (v1.1.2 (by show _ < val double (lowW 100); rw [a2]; exact k)) h1
    · rw [k]; exact Rat.le_refl
    · exact Rat.le_of_lt k
  · rcases rat_tri (val single s) cHigh with k | k | k
    · exact Rat.le_of_lt k
    · rw [k]; exact Rat.le_refl
    · exact absurd (v2.2.1.2 (by show val double topW < _; rw [b2]; exact k)) h2
/-- all that the walk asks -/
structure EbLaw (xs : List Nat) (n s : Nat) (ch : List Int) : Prop where
  sfin : Fin single s
  code : CodeLaw xs n s ch (codeE WOf xs s) (codeE (WBy ch) xs s)
  xfin : ∀ i, i < n → Fin single (xs.getD i 0)
theorem eb_law {xs : List Nat} (ch : List Int) (h : ∀ y ∈ xs, isFw y) (hl : xs.length ≤ 12) :
    EbLaw xs xs.length (sprE xs) ch ∧ fewFin xs = true ∧ finB (sprE xs) = true ∧ spreadOk (sprE xs) = true ∧ sprE xs < 4294967296 := by
  have hf := few_fw h (by omega)
  have hS : Spread xs xs.length (sprE xs) := by
    unfold sprE; rw [if_pos hf]
    exact spread_is fun i hi => getD_fw h hi
  obtain ⟨g1, g2, g3, g4⟩ := spread_good hS
  have hx : ∀ i, i < xs.length → Fin single (xs.getD i 0) := fun i hi => (getD_fw h hi).1
  exact ⟨⟨g1, code_law hx hS, hx⟩, hf, g2, g3, g4⟩
theorem EbLaw.offs {xs : List Nat} {n s : Nat} {ch : List Int} (h : EbLaw xs n s ch) (l : cLow ≤ val single s) (u : val single s ≤ cHigh) {i : Nat} (hi : i < n) :
    Off s (fop .mul .f32 (floatOfInt .f32 (codeE WOf xs s i)) s) (xs.getD i 0) (limW s 4625478292286210048) ∧ Off s (fop .mul .f32 (floatOfInt .f32 (codeE (WBy ch) xs s i)) s) (xs.getD i 0) (limW s 4629841154425225216) := by
  have l1 := lim_is (C := 17) h.sfin l u W17d (by decide) (by decide)
  have l2 := lim_is (C := 33) h.sfin l u W33d (by decide) (by decide)
  have b1 := h.code.bd i hi
  have b2 := h.code.bdD i hi
  have e1 := h.code.err l i hi
  have e2 := h.code.errD l i hi
  exact ⟨off_is (C := 17) (e := 13 / 25) h.sfin (h.xfin i hi) l u b1.1 b1.2 rfl e1.1 e1.2 (by decide +kernel) (by decide +kernel) (by decide +kernel) l1,
    off_is (C := 33) (e := 51 / 50) h.sfin (h.xfin i hi) l u b2.1 b2.2 rfl e2.1 e2.2 (by decide +kernel) (by decide +kernel) (by decide +kernel) l2⟩
/-- the inner round: the orders of two numbers and of their codes -/
theorem EbLaw.pair {xs : List Nat} {n s : Nat} {ch : List Int} (h : EbLaw xs n s ch) {i k : Nat} (hi : i < n) (hk : k < n) :
    ∃ o, FloatKind.f32.format.order (xs.getD k 0) (xs.getD i 0) = some o ∧ (o = .lt → codeE WOf xs s k ≤ codeE WOf xs s i) ∧ (o = .eq → codeE WOf xs s k = codeE WOf xs s i) := by
  have hv := order_val (k := .f32) (h.xfin k hk) (h.xfin i hi)
  rcases rat_tri (val single (xs.getD k 0)) (val single (xs.getD i 0)) with c | c | c
  · exact ⟨.lt, hv.1.2 c, fun _ => h.code.mono i k hi hk (Rat.le_of_lt c), fun e => by cases e⟩
  · refine ⟨.eq, hv.2.2.2 c, fun e => (by cases e), fun _ => ?_⟩
    have h1 := h.code.mono i k hi hk (by rw [c]; exact Rat.le_refl)
    have h2 := h.code.mono k i hk hi (by rw [c]; exact Rat.le_refl)
    omega
  · exact ⟨.gt, hv.2.1.2 c, fun e => (by cases e), fun e => by cases e⟩
end Go.Proofs.Ytnhikdjljjemlaa
