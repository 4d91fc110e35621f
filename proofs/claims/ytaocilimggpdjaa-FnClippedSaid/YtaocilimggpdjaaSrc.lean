/- What the reference's source of choices gives. No condition. -/
import Derived.Test.YtaocilimggpdjaaSlI
import Derived.Deep.QuietTactic
import Derived.BigQuiet
import Derived.Laws.Bits64b
namespace Go.Proofs.Ytaocilimggpdjaa
open Go Go.RowKit
set_option linter.unusedVariables false
set_option linter.unusedSimpArgs false
/-- a source of choices: its block, where it stands at most -/
structure SrcAt (w : World) (g : Nat) (ad : Option Addr) (cap : Nat) (xs : List Int) (at_ : Nat) (seed : Int) : Prop where
  lt : g < w.heap.size
  code : w.cell? ⟨g, 0, none⟩ = some (.slice ad xs.length cap)
  at1 : w.cell? ⟨g, 1, none⟩ = some (.int .i64 at_)
  seed2 : w.cell? ⟨g, 2, none⟩ = some (.int .u64 seed)
  free : ∀ o, w.frozen? ⟨g, o, none⟩ = false
  ints : Ints .u8 w ad cap xs
  other : xs ≠ [] → ∀ b off, ad = some ⟨b, off, none⟩ → b < g
def Src (w : World) (g n : Nat) : Prop := ∃ ad cap xs at_ seed, SrcAt w g ad cap xs at_ seed ∧ at_ ≤ n
theorem Src.mono {w : World} {g n m : Nat} (h : Src w g n) (hm : n ≤ m) : Src w g m := by
  obtain ⟨ad, cap, xs, a, s, h1, h2⟩ := h; exact ⟨ad, cap, xs, a, s, h1, Nat.le_trans h2 hm⟩
theorem Src.kept {w w' : World} {g n : Nat} (h : Src w g n) (hs : w.heap.size ≤ w'.heap.size) (hb : ∀ k, k ≤ g → w'.heap[k]? = w.heap[k]?) : Src w' g n := by
  obtain ⟨ad, cap, xs, a, s, h1, h2⟩ := h
  have hg := hb g (Nat.le_refl _)
  refine ⟨ad, cap, xs, a, s, ⟨Nat.lt_of_lt_of_le h1.lt hs, ?_, ?_, ?_, ?_, ?_, h1.other⟩, h2⟩
  · rw [World.cell?_of_block (w := w) hg]; exact h1.code
  · rw [World.cell?_of_block (w := w) hg]; exact h1.at1
  · rw [World.cell?_of_block (w := w) hg]; exact h1.seed2
  · intro o; rw [World.frozen?_of_block (w := w) hg]; exact h1.free o
  · refine ⟨h1.ints.len, h1.ints.cap, ?_, h1.ints.wf⟩
    by_cases hx : xs = []
    · subst hx; exact .inl rfl
    · exact h1.ints.rd.kept hs (fun b off e _ => hb b (Nat.le_of_lt (h1.other hx b off e)))
theorem Src.below {w w' : World} {g n : Nat} (h : Src w g n) (hb : Below w.heap.size w w') : Src w' g n :=
  h.kept hb.size fun k hk => hb.block k (by obtain ⟨_, _, _, _, _, h1, _⟩ := h; exact Nat.lt_of_le_of_lt hk h1.lt)
theorem touch_cell {w : World} {g k : Nat} {v : Value} : Touch g (g + 1) w (w.setCell ⟨g, k, none⟩ v) :=
  ⟨rfl, rfl, rfl, by simp [World.setCell], fun j hj hd => Below.heap_setCell _ _ _ _ (by intro e; simp at e; omega)⟩
theorem src_after {w : World} {g n : Nat} {ad : Option Addr} {cap : Nat} {xs : List Int} {a : Nat} {s : Int} (h : SrcAt w g ad cap xs a s) (han : a ≤ n) (u : Int) (q1 q2 : Nat) :
    Src ((((w.drewN q1).setCell ⟨g, 1, none⟩ (.int .i64 ((a : Int) + 1))).setCell ⟨g, 2, none⟩ (.int .u64 u)).drewN q2) g (n + 1) ∧
    Touch g (g + 1) w ((((w.drewN q1).setCell ⟨g, 1, none⟩ (.int .i64 ((a : Int) + 1))).setCell ⟨g, 2, none⟩ (.int .u64 u)).drewN q2) := by
  obtain ⟨hg, h0, h1, h2, hf, hi, ho⟩ := h
  have hb : Below g w ((((w.drewN q1).setCell ⟨g, 1, none⟩ (.int .i64 ((a : Int) + 1))).setCell ⟨g, 2, none⟩ (.int .u64 u)).drewN q2) :=
    below_drewN (((below_drewN (Below.refl g w) q1).setCell (Nat.le_refl g) _).setCell (Nat.le_refl g) _) q2
  refine ⟨⟨ad, cap, xs, a + 1, u, ⟨by simpa [World.setCell] using hg, ?_, ?_, ?_, ?_, ⟨hi.len, hi.cap, by
    by_cases hx : xs = []
    · subst hx; exact .inl rfl
    · exact hi.rd.belowLt hb (ho hx), hi.wf⟩, ho⟩, by omega⟩, ?_⟩
  · go_simp
  · have e : ((a + 1 : Nat) : Int) = (a : Int) + 1 := by omega
    rw [e]
    go_simp
  · go_simp
  · intro o
    have := hf o
    go_simp
  · exact (((Touch.of_below (below_drewN (Below.refl _ _) _)).trans touch_cell).trans touch_cell).trans (Touch.of_below (below_drewN (Below.refl _ _) _))
theorem and255 (Z : Int) : ∃ r : Nat, wrap64 (bits .and .u64 (IntKind.u64.wrap Z / 1099511627776) 255) = r ∧ r < 256 := by
  have hw : 0 ≤ IntKind.u64.wrap Z ∧ IntKind.u64.wrap Z < 18446744073709551616 := by
    have := wf_wrap .u64 Z
    simp [Lit.wf, IntKind.min, IntKind.max, IntKind.signed, IntKind.bits] at this
    omega
  have h0 : 0 ≤ IntKind.u64.wrap Z / 1099511627776 := by omega
  obtain ⟨m, hm⟩ := Int.eq_ofNat_of_zero_le h0
  rw [hm]
  have := bits_and_u64_nat m 255 (by omega) (by decide)
  rw [show ((255 : Nat) : Int) = 255 from rfl] at this
  rw [this]
  have hl : m &&& 255 < 256 := Nat.lt_of_le_of_lt Nat.and_le_right (by decide)
  refine ⟨m &&& 255, ?_, hl⟩
  unfold wrap64
  omega
theorem src_next (w : World) (g n : Nat) (h : Src w g n) (hn : n ≤ 1000000000) :
    Calls Try.prog 147 #[.pointer (some ⟨g, 0, none⟩)] w fun e w' => ∃ r : Nat, e = .returned (.int .i64 r) ∧ r < 256 ∧ Src w' g (n + 1) ∧ Touch g (g + 1) w w' := by
  obtain ⟨ad, cap, xs, a, s, ⟨hg, h0, h1, h2, hf, hi, ho⟩, han⟩ := h
  have hm := Nat.le_trans hi.len hi.cap
  unfold maxLen at hm
  by_cases hlt : a < xs.length
  · obtain ⟨b, off, rfl, hb, hc⟩ := hi.spot (i := a) hlt
    have hcell := hc a hlt
    have hw := hi.wf (xs.getD a 0) (by rw [List.getD_eq_getElem?_getD, List.getElem?_eq_getElem hlt]; exact List.getElem_mem hlt)
    obtain ⟨x, hx⟩ : ∃ x, x = xs.getD a 0 := ⟨_, rfl⟩
    rw [← hx] at hcell hw
    obtain ⟨hb0, hb1⟩ := bounds_u8 hw
    obtain ⟨l, hl⟩ : ∃ l, l = xs.length := ⟨_, rfl⟩
    rw [← hl] at hlt hm h0
    have HI := Lib.hid hi; have HO := Lib.hid ho; have HL := Lib.hid hl
    clear hx hw hc hi ho hl
    go_enter Try.func147, Try.ntmps147
    go_wp2
    go_quiet (fail)
    go_wp2
    go_quiet (fail)
    go_wp2
    go_quiet (fail)
    go_wp2
    go_ret
    obtain ⟨y, rfl⟩ := Int.eq_ofNat_of_zero_le hb0
    have hsa := src_after (ad := some ⟨b, off, none⟩) (n := n) ⟨hg, by rw [← HL.out]; exact h0, h1, h2, hf, HI.out, HO.out⟩ han
    exact ⟨y, rfl, by omega, (hsa _ _ _).1, (hsa _ _ _).2⟩
  · have HI := Lib.hid hi; have HO := Lib.hid ho
    obtain ⟨l, hl⟩ : ∃ l, l = xs.length := ⟨_, rfl⟩
    rw [← hl] at hlt hm h0
    have HL := Lib.hid hl
    clear hi ho hl
    go_enter Try.func147, Try.ntmps147
    go_wp2
    go_quiet (fail)
    go_wp2
    go_quiet (fail)
    go_wp2
    go_ret
    have hsa := src_after (n := n) ⟨hg, by rw [← HL.out]; exact h0, h1, h2, hf, HI.out, HO.out⟩ han
    obtain ⟨r, hr, hr2⟩ := and255 (IntKind.u64.wrap (IntKind.u64.wrap (s * 6364136223846793005)) + 1442695040888963407)
    exact ⟨r, by rw [← hr]; rfl, hr2, (hsa _ _ _).1, (hsa _ _ _).2⟩
theorem src_pick (w : World) (g n : Nat) (h : Src w g n) (hn : n ≤ 900000000) (N : Int) (h1 : 1 ≤ N) (h2 : N ≤ 1000000) :
    Calls Try.prog 101 #[.pointer (some ⟨g, 0, none⟩), .int .i64 N] w fun e w' => ∃ r : Nat, e = .returned (.int .i64 r) ∧ (r : Int) < N ∧ Src w' g (n + 2) ∧ Touch g (g + 1) w w' := by
  have HS := Lib.hid h; clear h
  by_cases hN : N ≤ 1
  · go_enter Try.func101, Try.ntmps101
    go_wp2
    go_ret
    exact ⟨0, rfl, by omega, HS.out.mono (by omega), Touch.refl _ _ _⟩
  · have hk := fun W m hW hm => src_next W g m hW hm
    have HK := Lib.hid hk; clear hk
    by_cases h200 : 200 < N
    · go_enter Try.func101, Try.ntmps101
      go_wp2_with fail
      refine (HK.out _ n HS.out (by omega)).mono ?_
      rintro e w1 ⟨r, rfl, hr, hs1, ht1⟩
      have HS1 := Lib.hid hs1; have HT1 := Lib.hid ht1; clear hs1 ht1
      go_wp2_with fail
      refine (HK.out _ (n + 1) HS1.out (by omega)).mono ?_
      rintro e w2 ⟨q, rfl, hq, hs2, ht2⟩
      have HS2 := Lib.hid hs2; have HT2 := Lib.hid ht2; clear hs2 ht2
      go_wp2
      go_ret
      have g0 := Int.emod_nonneg ((r : Int) * 256 + q) (show N ≠ 0 by omega)
      have g1 := Int.emod_lt_of_pos ((r : Int) * 256 + q) (show 0 < N by omega)
      exact ⟨(((r : Int) * 256 + q) % N).toNat, by rw [Int.toNat_of_nonneg g0]; rfl, by omega, HS2.out, HT1.out.trans HT2.out⟩
    · go_enter Try.func101, Try.ntmps101
      go_wp2_with fail
      refine (HK.out _ n HS.out (by omega)).mono ?_
      rintro e w1 ⟨r, rfl, hr, hs1, ht1⟩
      have HS1 := Lib.hid hs1; have HT1 := Lib.hid ht1; clear hs1 ht1
      go_wp2
      go_ret
      have g0 := Int.emod_nonneg (r : Int) (show N ≠ 0 by omega)
      have g1 := Int.emod_lt_of_pos (r : Int) (show 0 < N by omega)
      exact ⟨((r : Int) % N).toNat, by rw [Int.toNat_of_nonneg g0]; rfl, by omega, HS1.out.mono (by omega), HT1.out⟩
theorem src_one (w : World) (g n : Nat) (h : Src w g n) (hn : n ≤ 900000000) (N : Int) (h1 : 1 ≤ N) (h2 : N ≤ 1000000) :
    Calls Try.prog 100 #[.pointer (some ⟨g, 0, none⟩), .int .i64 N] w fun e w' => ∃ b : Bool, e = .returned (.bool b) ∧ Src w' g (n + 2) ∧ Touch g (g + 1) w w' := by
  have hk := src_pick w g n h hn N h1 h2
  have HK := Lib.hid hk; clear hk h
  go_enter Try.func100, Try.ntmps100
  go_wp2_with fail
  refine HK.out.mono ?_
  rintro e w1 ⟨r, rfl, hr, hs1, ht1⟩
  have HS1 := Lib.hid hs1; have HT1 := Lib.hid ht1; clear hs1 ht1
  go_wp2
  go_ret
  exact ⟨_, rfl, HS1.out, HT1.out⟩
theorem src_among (w : World) (g n : Nat) (h : Src w g n) (hn : n ≤ 900000000) (b : Nat) (len cap : Nat) (vs : List Int) (hb : b ≠ g) (hbl : b < w.heap.size) (hc : ∀ i, i < len → w.cell? ⟨b, i, none⟩ = some (.int .i64 (vs.getD i 0))) (h1 : 1 ≤ len) (h2 : len ≤ 1000) :
    Calls Try.prog 149 #[.pointer (some ⟨g, 0, none⟩), .slice (some ⟨b, 0, none⟩) len cap] w fun e w' => ∃ i : Nat, i < len ∧ e = .returned (.int .i64 (vs.getD i 0)) ∧ Src w' g (n + 2) ∧ Touch g (g + 1) w w' := by
  have hk := src_pick w g n h hn len (by omega) (by omega)
  have HK := Lib.hid hk; have HC := Lib.hid hc; clear hk h hc
  go_enter Try.func149, Try.ntmps149
  go_wp2_with fail
  refine HK.out.mono ?_
  rintro e w1 ⟨r, rfl, hr, hs1, ht1⟩
  have hr := Int.ofNat_lt.1 hr
  have hcell : w1.cell? ⟨b, r, none⟩ = some (.int .i64 (vs.getD r 0)) := by
    rw [World.cell?_of_block (w := w) (ht1.block b hbl (by omega))]; exact HC.out r hr
  have HS1 := Lib.hid hs1; have HT1 := Lib.hid ht1; clear hs1 ht1
  go_wp2
  go_ret
  exact ⟨r, hr, rfl, HS1.out, HT1.out⟩
theorem src_from (w : World) (ad : Option Addr) (cap : Nat) (xs : List Int) (h : Ints .u8 w ad cap xs) :
    Calls Try.prog 90 #[.slice ad xs.length cap] w fun e w' => e = .returned (.pointer (some ⟨w.heap.size, 0, none⟩)) ∧ Src w' w.heap.size 0 ∧ Below w.heap.size w w' ∧ w.heap.size < w'.heap.size := by
  obtain ⟨l, hl⟩ : ∃ l, l = xs.length := ⟨_, rfl⟩
  have hother : xs ≠ [] → ∀ b off, ad = some ⟨b, off, none⟩ → b < w.heap.size := by
    intro hne b off e
    rcases h.rd with h1 | ⟨b', off', e', hb', _⟩
    · exact absurd (by simpa using h1) hne
    · rw [e] at e'; cases e'; exact hb'
  rw [← hl]
  have HL := Lib.hid hl; have HI := Lib.hid h; have HO := Lib.hid hother; clear hl h hother
  go_enter Try.func90, Try.ntmps90
  go_wp2
  go_ret
  refine ⟨rfl, ⟨ad, cap, xs, 0, 0, ⟨by simp, ?_, ?_, ?_, ?_, HI.out.below (below1 _ _), HO.out⟩, Nat.le_refl _⟩, below1 _ _, by simp⟩
  · rw [← HL.out]; go_simp
  · go_simp
  · go_simp
  · intro o; go_simp
end Go.Proofs.Ytaocilimggpdjaa
