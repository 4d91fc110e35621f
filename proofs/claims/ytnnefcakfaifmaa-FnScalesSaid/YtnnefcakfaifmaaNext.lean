/- What the next loss scale is. No condition. -/
import Derived.Test.YtnnefcakfaifmaaScale
import Derived.Test.YtnnefcakfaifmaaFl3
namespace Go.Proofs.Ytnnefcakfaifmaa
open Go Go.RowKit Ieee
set_option linter.unusedVariables false
set_option linter.unusedSimpArgs false
theorem order_some {x y : Nat} (hx : isN .f32 x = false) (hy : isN .f32 y = false) : ∃ c, single.order x y = some c := by
  unfold isN at hx hy
  show ∃ c, (single.read x).order (single.read y) = some c
  have hx' : (single.read x).isNaN = false := hx
  have hy' : (single.read y).isNaN = false := hy
  cases h1 : single.read x with
  | nan s t => rw [h1] at hx'; cases hx'
  | infinity s =>
    cases h2 : single.read y with
    | nan s t => rw [h2] at hy'; cases hy'
    | infinity t => exact ⟨_, rfl⟩
    | number t m p => exact ⟨_, rfl⟩
  | number s m p =>
    cases h2 : single.read y with
    | nan s t => rw [h2] at hy'; cases hy'
    | infinity t => exact ⟨_, rfl⟩
    | number t m p => exact ⟨_, rfl⟩
def downF (a : Nat) : Nat := if FloatKind.f32.format.order a 947912704 == some .lt then 947912704 else a
def upF (t : Nat) : Nat := if FloatKind.f32.format.order t 1266679808 == some .gt then 1266679808 else t
def nS (s : Nat) (g q : Int) (fin : Bool) : Nat := if validScaleB s g q = false then 0 else if fin = false then downF (fop .quo .f32 s 1073741824) else if q ≤ g + 1 then upF (fop .mul .f32 s 1073741824) else s
def nG (s : Nat) (g q : Int) (fin : Bool) : Int := if validScaleB s g q = false then 0 else if fin = false then 0 else if q ≤ g + 1 then 0 else g + 1
def nQ (s : Nat) (g q : Int) : Int := if validScaleB s g q = false then 0 else q
/-- the values of a step -/
structure Stp (s a d t b : Nat) : Prop where
  half : ∀ w, fbits .quo .f32 s 1073741824 w = a
  half0 : fdr .quo .f32 s 1073741824 = 0
  halfE : fop .quo .f32 s 1073741824 = a
  more : maxF .f32 a 947912704 = some d
  down : downF a = d
  twice : ∀ w, fbits .mul .f32 1073741824 s w = t
  twice0 : fdr .mul .f32 1073741824 s = 0
  two : ∀ w, fbits .mul .f32 s 1073741824 w = t
  two0 : fdr .mul .f32 s 1073741824 = 0
  twoE : fop .mul .f32 s 1073741824 = t
  less : minF .f32 t 1266679808 = some b
  up : upF t = b
theorem valid_parts {s : Nat} {g q : Int} (h : validScaleB s g q = true) : isScaleB s = true ∧ 0 ≤ g ∧ g ≤ 1000 ∧ 1 ≤ q ∧ q ≤ 1000 := by
  simp only [validScaleB, Bool.and_eq_true] at h
  have h1 := inB_iff.1 h.1.2
  have h2 := inB_iff.1 h.2
  exact ⟨h.1.1, h1.1, h1.2, h2.1, h2.2⟩
theorem stp_of {s : Nat} (hs : s < 4294967296) (h : isScaleB s = true) : ∃ a d t b, Stp s a d t b := by
  have hi : single.infRung = 2139095040 := by decide +kernel
  unfold isScaleB at h
  simp only [Bool.and_eq_true, Bool.or_eq_true, beq_iff_eq] at h
  obtain ⟨h1, h2⟩ := between (a := 947912704) (b := 1266679808) hs (by omega) (by omega) (by omega) h.1 h.2
  obtain ⟨a, ha, ha2, ha3⟩ := half_pos (s := s) (by omega) (by omega)
  obtain ⟨t, ht, ht2, ht3⟩ := twice_pos (s := s) (by omega) (by omega)
  have hl : isN .f32 947912704 = false := by decide +kernel
  have hm : isN .f32 1266679808 = false := by decide +kernel
  have htn : isN .f32 t = false := read_word_le single false ht3
  obtain ⟨c, hc⟩ := order_some ha3 hl
  obtain ⟨c2, hc2⟩ := order_some htn hm
  refine ⟨a, downF a, t, upF t, fun w => fbits_some ha w, fdr_some ha, by unfold fop; rw [ha]; rfl, ?_, rfl, fun w => fbits_some ht w, fdr_some ht, fun w => fbits_some ht2 w, fdr_some ht2, by unfold fop; rw [ht2]; rfl, ?_, rfl⟩
  · unfold maxF downF
    rw [show FloatKind.f32.format.order a 947912704 = some c from hc]
    cases c
    · rfl
    · simp only [show (FloatKind.f32.decode a).neg = false from ha2]; rfl
    · rfl
  · unfold minF upF
    rw [show FloatKind.f32.format.order t 1266679808 = some c2 from hc2]
    cases c2
    · rfl
    · have := eq_of_order ht3 (by omega) hc2
      subst this
      simp
    · rfl
theorem impl_next_no (s : Nat) (g q : Int) (a d t b : Nat) (h : Stp s a d t b) (w : World) :
    Calls Try.prog 70 #[.agg #[.float .f32 s, .int .i64 g, .int .i64 q], .bool false] w fun e w' => e = .returned (.agg #[.float .f32 d, .int .i64 0, .int .i64 q]) ∧ Below w.heap.size w w' := by
  have h1 := h.half
  have h2 := h.half0
  have hz := World.drewN_none
  have h3 := fun w A T => run_max_f (P := Try.prog) w A T .f32 a 947912704 d h.more
  go_enter Try.func70, Try.ntmps70
  go_wp2
  exact bodyPost_ret (v := .agg #[.float .f32 d, .int .i64 0, .int .i64 q]) (by simp [results, Try.results70, go_sem]) rfl ⟨rfl, by repeat (first | exact Below.refl _ _ | refine Below.setCell ?_ (by simp) _ | refine below_drewN ?_ _ | refine Below.alloc ?_ (by simp) _)⟩
theorem impl_next_full (s : Nat) (g q : Int) (a d t b : Nat) (h : Stp s a d t b) (hg0 : 0 ≤ g) (hg : g ≤ 1000) (hq : q ≤ g + 1) (w : World) :
    Calls Try.prog 70 #[.agg #[.float .f32 s, .int .i64 g, .int .i64 q], .bool true] w fun e w' => e = .returned (.agg #[.float .f32 b, .int .i64 0, .int .i64 q]) ∧ Below w.heap.size w w' := by
  have h1 := h.twice
  have h2 := h.twice0
  have hz := World.drewN_none
  have h3 := fun w A T => run_min_f (P := Try.prog) w A T .f32 t 1266679808 b h.less
  go_enter Try.func70, Try.ntmps70
  go_wp2
  exact bodyPost_ret (v := .agg #[.float .f32 b, .int .i64 0, .int .i64 q]) (by simp [results, Try.results70, go_sem]) rfl ⟨rfl, by repeat (first | exact Below.refl _ _ | refine Below.setCell ?_ (by simp) _ | refine below_drewN ?_ _ | refine Below.alloc ?_ (by simp) _)⟩
theorem impl_next_more (s : Nat) (g q : Int) (hg0 : 0 ≤ g) (hg : g ≤ 1000) (hq : g + 1 < q) (hq2 : q ≤ 1000) (w : World) :
    Calls Try.prog 70 #[.agg #[.float .f32 s, .int .i64 g, .int .i64 q], .bool true] w fun e w' => e = .returned (.agg #[.float .f32 s, .int .i64 (g + 1), .int .i64 q]) ∧ Below w.heap.size w w' := by
  go_enter Try.func70, Try.ntmps70
  go_wp2
  exact bodyPost_ret (v := .agg #[.float .f32 s, .int .i64 (g + 1), .int .i64 q]) (by simp [results, Try.results70, go_sem]) rfl ⟨rfl, by repeat (first | exact Below.refl _ _ | refine Below.setCell ?_ (by simp) _ | refine below_drewN ?_ _ | refine Below.alloc ?_ (by simp) _)⟩
theorem impl_NextScale (s : Nat) (hs : s < 4294967296) (g q : Int) (fin : Bool) (w : World) :
    Calls Try.prog 20 #[.agg #[.float .f32 s, .int .i64 g, .int .i64 q], .bool fin] w fun e w' => e = .returned (.tuple #[.agg #[.float .f32 (nS s g q fin), .int .i64 (nG s g q fin), .int .i64 (nQ s g q)], .bool (validScaleB s g q)]) ∧ Below w.heap.size w w' := by
  cases hv : validScaleB s g q
  · rw [show nS s g q fin = 0 by unfold nS; rw [if_pos hv], show nG s g q fin = 0 by unfold nG; rw [if_pos hv], show nQ s g q = 0 by unfold nQ; rw [if_pos hv]]
    have HV := Lib.hid hv; clear hv
    go_enter Try.func20, Try.ntmps20
    go_wp2_with fail
    refine (impl_ValidScale _ _ _ _).mono ?_
    rintro e w1 ⟨rfl, hb1⟩
    obtain ⟨hc1, hf1, hl1⟩ := bkeep w.heap.size hb1 (by first | assumption | (simp; done) | (simp; omega))
    obtain ⟨hc2, hf2, hl2⟩ := bkeep (w.heap.size + 1) hb1 (by first | assumption | (simp; done) | (simp; omega))
    have hv := HV.out
    go_wp2
    exact bodyPost_ret (v := .tuple #[.agg #[.float .f32 0, .int .i64 0, .int .i64 0], .bool false]) (by simp [results, Try.results20, go_sem, hc2]) rfl ⟨rfl, (by repeat (first | exact bthen (below2 _ _ _) hb1 | refine Below.setCell ?_ (by simp) _))⟩
  obtain ⟨hsc, hg0, hg1, hq0, hq1⟩ := valid_parts hv
  obtain ⟨a, d, t, b, H⟩ := stp_of hs hsc
  have hnv : ¬ (validScaleB s g q = false) := by rw [hv]; decide
  rw [show nQ s g q = q by unfold nQ; rw [if_neg hnv]]
  cases fin
  · rw [show nS s g q false = d by unfold nS; rw [if_neg hnv, if_pos rfl, H.halfE, H.down], show nG s g q false = 0 by unfold nG; rw [if_neg hnv, if_pos rfl]]
    have HV := Lib.hid hv; clear hv hnv
    go_enter Try.func20, Try.ntmps20
    go_wp2_with fail
    refine (impl_ValidScale _ _ _ _).mono ?_
    rintro e w1 ⟨rfl, hb1⟩
    obtain ⟨hc1, hf1, hl1⟩ := bkeep w.heap.size hb1 (by first | assumption | (simp; done) | (simp; omega))
    obtain ⟨hc2, hf2, hl2⟩ := bkeep (w.heap.size + 1) hb1 (by first | assumption | (simp; done) | (simp; omega))
    have hv := HV.out
    go_wp2_with fail
    refine (impl_next_no s g q a d t b H _).mono ?_
    rintro e w2 ⟨rfl, hb2⟩
    obtain ⟨hc3, hf3, hl3⟩ := bkeep w.heap.size hb2 (by first | assumption | (simp; done) | (simp; omega))
    obtain ⟨hc4, hf4, hl4⟩ := bkeep (w.heap.size + 1) hb2 (by first | assumption | (simp; done) | (simp; omega))
    go_wp2
    exact bodyPost_ret (v := .tuple #[.agg #[.float .f32 d, .int .i64 0, .int .i64 q], .bool true]) (by simp [results, Try.results20, go_sem, hc2, hc4]) rfl ⟨rfl, (by repeat (first | exact bthen (bthen (below2 _ _ _) hb1) hb2 | refine Below.setCell ?_ (by simp) _))⟩
  by_cases hq : q ≤ g + 1
  · rw [show nS s g q true = b by unfold nS; rw [if_neg hnv, if_neg (by decide), if_pos hq, H.twoE, H.up], show nG s g q true = 0 by unfold nG; rw [if_neg hnv, if_neg (by decide), if_pos hq]]
    have HV := Lib.hid hv; clear hv hnv
    go_enter Try.func20, Try.ntmps20
    go_wp2_with fail
    refine (impl_ValidScale _ _ _ _).mono ?_
    rintro e w1 ⟨rfl, hb1⟩
    obtain ⟨hc1, hf1, hl1⟩ := bkeep w.heap.size hb1 (by first | assumption | (simp; done) | (simp; omega))
    obtain ⟨hc2, hf2, hl2⟩ := bkeep (w.heap.size + 1) hb1 (by first | assumption | (simp; done) | (simp; omega))
    have hv := HV.out
    go_wp2_with fail
    refine (impl_next_full s g q a d t b H hg0 hg1 hq _).mono ?_
    rintro e w2 ⟨rfl, hb2⟩
    obtain ⟨hc3, hf3, hl3⟩ := bkeep w.heap.size hb2 (by first | assumption | (simp; done) | (simp; omega))
    obtain ⟨hc4, hf4, hl4⟩ := bkeep (w.heap.size + 1) hb2 (by first | assumption | (simp; done) | (simp; omega))
    go_wp2
    exact bodyPost_ret (v := .tuple #[.agg #[.float .f32 b, .int .i64 0, .int .i64 q], .bool true]) (by simp [results, Try.results20, go_sem, hc2, hc4]) rfl ⟨rfl, (by repeat (first | exact bthen (bthen (below2 _ _ _) hb1) hb2 | refine Below.setCell ?_ (by simp) _))⟩
  · rw [show nS s g q true = s by unfold nS; rw [if_neg hnv, if_neg (by decide), if_neg hq], show nG s g q true = g + 1 by unfold nG; rw [if_neg hnv, if_neg (by decide), if_neg hq]]
    have HV := Lib.hid hv; clear hv hnv
    go_enter Try.func20, Try.ntmps20
    go_wp2_with fail
    refine (impl_ValidScale _ _ _ _).mono ?_
    rintro e w1 ⟨rfl, hb1⟩
    obtain ⟨hc1, hf1, hl1⟩ := bkeep w.heap.size hb1 (by first | assumption | (simp; done) | (simp; omega))
    obtain ⟨hc2, hf2, hl2⟩ := bkeep (w.heap.size + 1) hb1 (by first | assumption | (simp; done) | (simp; omega))
    have hv := HV.out
    go_wp2_with fail
    refine (impl_next_more s g q hg0 hg1 (by omega) hq1 _).mono ?_
    rintro e w2 ⟨rfl, hb2⟩
    obtain ⟨hc3, hf3, hl3⟩ := bkeep w.heap.size hb2 (by first | assumption | (simp; done) | (simp; omega))
    obtain ⟨hc4, hf4, hl4⟩ := bkeep (w.heap.size + 1) hb2 (by first | assumption | (simp; done) | (simp; omega))
    go_wp2
    exact bodyPost_ret (v := .tuple #[.agg #[.float .f32 s, .int .i64 (g + 1), .int .i64 q], .bool true]) (by simp [results, Try.results20, go_sem, hc2, hc4]) rfl ⟨rfl, (by repeat (first | exact bthen (bthen (below2 _ _ _) hb1) hb2 | refine Below.setCell ?_ (by simp) _))⟩
end Go.Proofs.Ytnnefcakfaifmaa
