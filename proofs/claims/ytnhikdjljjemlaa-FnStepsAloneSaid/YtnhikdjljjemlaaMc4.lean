/- Joined texts 4: Sa0 Qa Qc Qd Qe Qf Qg Btw Exp. Each is told at its own head. No condition. -/
import Derived.Test.YtnhikdjljjemlaaMc1
import Derived.Test.YtnhikdjljjemlaaMc2
import Derived.Test.YtnhikdjljjemlaaMc3
/- An optimiser that is drawn. No condition. -/
namespace Go.Proofs.Ytnhikdjljjemlaa
open Go Go.RowKit
set_option linter.unusedVariables false
set_option linter.unusedSimpArgs false
def rW (j : Nat) : Nat := fop .quo .f32 (floatOfInt .f32 (1 + (j : Int))) 1115684864
set_option maxRecDepth 100000 in
theorem rW_facts : ∀ j : Nat, j < 16 → floatBits .quo .f32 (floatOfInt .f32 (1 + (j : Int))) 1115684864 = some (rW j) ∧ fop .mul .f32 (cn .f32 (rW j)) 0 = 0 ∧ rW j < 4294967296 := by decide +kernel
set_option maxRecDepth 100000 in
theorem b1_facts : ∀ j : Nat, j < 17 → (floatBits .quo .f32 (floatOfInt .f32 (j : Int)) 1098907648).isSome = true := by decide +kernel
set_option maxRecDepth 100000 in
theorem b2_facts : ∀ j : Nat, j < 9 → (floatBits .quo .f32 (floatOfInt .f32 (8 + (j : Int))) 1098907648).isSome = true := by decide +kernel
set_option maxRecDepth 100000 in
theorem ep_facts : ∀ j : Nat, j < 4 → (floatBits .quo .f32 (floatOfInt .f32 (1 + (j : Int))) 1149239296).isSome = true := by decide +kernel
theorem touch_keep {w w' : World} {lo hi c : Nat} (ht : Touch lo hi w w') (hc : c < w.heap.size) (hd : c < lo ∨ hi ≤ c) (o : Nat) : w'.cell? ⟨c, o, none⟩ = w.cell? ⟨c, o, none⟩ ∧ w'.frozen? ⟨c, o, none⟩ = w.frozen? ⟨c, o, none⟩ :=
  ⟨World.cell?_of_block (w := w) (ht.block c hc hd), by unfold World.frozen?; rw [ht.block c hc hd]⟩
/-- a block of five cells that may be written -/
structure Box5 (w : World) (c : Nat) (a b d e f : Value) : Prop where
  lt : c < w.heap.size
  c0 : w.cell? ⟨c, 0, none⟩ = some a
  c1 : w.cell? ⟨c, 1, none⟩ = some b
  c2 : w.cell? ⟨c, 2, none⟩ = some d
  c3 : w.cell? ⟨c, 3, none⟩ = some e
  c4 : w.cell? ⟨c, 4, none⟩ = some f
  fz : ∀ o, w.frozen? ⟨c, o, none⟩ = false
theorem Box5.alloc (w : World) (a b d e f : Value) (t : TypeId) : Box5 (w.alloc (.cells #[a, b, d, e, f] t)) w.heap.size a b d e f :=
  ⟨by simp, by rw [World.cell?_alloc_at _ _ _ _ rfl]; rfl, by rw [World.cell?_alloc_at _ _ _ _ rfl]; rfl, by rw [World.cell?_alloc_at _ _ _ _ rfl]; rfl, by rw [World.cell?_alloc_at _ _ _ _ rfl]; rfl, by rw [World.cell?_alloc_at _ _ _ _ rfl]; rfl, fun o => World.frozen?_alloc_at _ _ _ _ rfl⟩
theorem Box5.touch {w w' : World} {c lo hi : Nat} {a b d e f : Value} (h : Box5 w c a b d e f) (ht : Touch lo hi w w') (hd : c < lo ∨ hi ≤ c) : Box5 w' c a b d e f :=
  ⟨Nat.lt_of_lt_of_le h.lt ht.size, (touch_keep ht h.lt hd 0).1.trans h.c0, (touch_keep ht h.lt hd 1).1.trans h.c1, (touch_keep ht h.lt hd 2).1.trans h.c2, (touch_keep ht h.lt hd 3).1.trans h.c3, (touch_keep ht h.lt hd 4).1.trans h.c4, fun o => (touch_keep ht h.lt hd o).2.trans (h.fz o)⟩
theorem Box5.below {w w' : World} {c : Nat} {a b d e f : Value} (h : Box5 w c a b d e f) (hb : Below w.heap.size w w') : Box5 w' c a b d e f := h.touch (lo := w'.heap.size) (hi := w'.heap.size) (Touch.of_below hb) (.inl (Nat.lt_of_lt_of_le h.lt hb.size))
theorem set_at {w : World} {c i j : Nat} {u v : Value} (h : w.cell? ⟨c, j, none⟩ = some u) : (w.setCell ⟨c, i, none⟩ v).cell? ⟨c, j, none⟩ = some (if i = j then v else u) := by
  by_cases e : i = j
  · subst e; rw [if_pos rfl]; exact World.cell?_setCell_same' _ _ _ (by rw [h]; rfl)
  · rw [if_neg e, World.cell?_setCell_other w ⟨c, i, none⟩ ⟨c, j, none⟩ v (by intro h; cases h; exact e rfl)]; exact h
theorem Box5.set {w : World} {c : Nat} {a b d e f : Value} (h : Box5 w c a b d e f) (i : Nat) (v : Value) : Box5 (w.setCell ⟨c, i, none⟩ v) c (if i = 0 then v else a) (if i = 1 then v else b) (if i = 2 then v else d) (if i = 3 then v else e) (if i = 4 then v else f) :=
  ⟨by simpa [World.setCell] using h.lt, set_at h.c0, set_at h.c1, set_at h.c2, set_at h.c3, set_at h.c4, fun o => by rw [World.frozen?_setCell]; exact h.fz o⟩
theorem Box5.far {w : World} {c : Nat} {a b d e f : Value} (h : Box5 w c a b d e f) (c' i : Nat) (v : Value) (hc : c' ≠ c) : Box5 (w.setCell ⟨c', i, none⟩ v) c a b d e f := by
  have hk : ∀ j, (w.setCell ⟨c', i, none⟩ v).cell? ⟨c, j, none⟩ = w.cell? ⟨c, j, none⟩ := fun j => World.cell?_setCell_other w ⟨c', i, none⟩ ⟨c, j, none⟩ v (by intro h; cases h; exact hc rfl)
  exact ⟨by simpa [World.setCell] using h.lt, (hk 0).trans h.c0, (hk 1).trans h.c1, (hk 2).trans h.c2, (hk 3).trans h.c3, (hk 4).trans h.c4, fun o => by rw [World.frozen?_setCell]; exact h.fz o⟩
theorem src_set {w : World} {g n c k : Nat} {v : Value} (h : Src w g n) (hc : g < c) : Src (w.setCell ⟨c, k, none⟩ v) g n := h.kept (by simp [World.setCell]) fun i hi => Below.heap_setCell _ _ _ _ (by intro e; simp at e; omega)
set_option maxHeartbeats 4000000 in
theorem draw_opt (w : World) (g n : Nat) (h : Src w g n) (hn : n ≤ 100000000) :
    Calls Try.prog 38 #[.pointer (some ⟨g, 0, none⟩)] w fun e w' => ∃ (k r b1 b2 ep : Nat), e = .returned (.agg #[.int .i64 k, .float .f32 r, .float .f32 b1, .float .f32 b2, .float .f32 ep]) ∧ k < 5 ∧ Hid (fop .mul .f32 (cn .f32 r) 0 = 0) ∧ Touch g (g + 1) w w' := by
  have hk := fun W m hW hm N h1 h2 => src_pick W g m hW hm N h1 h2
  have hgl : g < w.heap.size := by obtain ⟨_, _, _, _, _, h1, _⟩ := h; exact h1.lt
  have HK := Lib.hid hk; have HS := Lib.hid h; clear hk h
  have hz0 := World.drewN_none
  go_enter Try.func38, Try.ntmps38
  go_wp2_with fail
  refine (HK.out _ n (HS.out.below (below1 _ _)) (by omega) 5 (by decide) (by decide)).mono ?_
  rintro e w1 ⟨k, rfl, hk, hs, ht⟩
  have hk5 : k < 5 := by omega
  have hz1 := ht.size
  simp at hz1
  have hR1 := (Box5.alloc w (.int .i64 0) (.float .f32 0) (.float .f32 0) (.float .f32 0) (.float .f32 0) 26).touch ht (.inr (by omega))
  have HT1 := Lib.hid ((Touch.of_below (below1 _ _)).trans ht)
  have hB := Box5.alloc w1 (.int .i64 k) (.float .f32 0) (.float .f32 0) (.float .f32 0) (.float .f32 0) 26
  have HS1 := Lib.hid (hs.below (below1 w1 (.cells #[.int .i64 k, .float .f32 0, .float .f32 0, .float .f32 0, .float .f32 0] 26)))
  have HR1 := Lib.hid (hR1.below (below1 w1 (.cells #[.int .i64 k, .float .f32 0, .float .f32 0, .float .f32 0, .float .f32 0] 26)))
  have HT1 := Lib.hid (touch_below' HT1.out ((below1 w1 (.cells #[.int .i64 k, .float .f32 0, .float .f32 0, .float .f32 0, .float .f32 0] 26)).mono (by omega)))
  have HB1 := Lib.hid hB
  clear hs ht hk hR1 hB
  go_wp2_with fail
  refine (HK.out _ (n + 2) HS1.out (by omega) 16 (by decide) (by decide)).mono ?_
  rintro e w2 ⟨j1, rfl, hj1, hs, ht⟩
  obtain ⟨f1, f2, f3⟩ := rW_facts j1 (by omega)
  obtain ⟨x1, hx1⟩ : ∃ x, x = rW j1 := ⟨_, rfl⟩
  rw [← hx1] at f1 f2; clear hx1
  have HX := Lib.hid f2
  clear f2 f3
  have a1 := fbits_some f1
  have d1 := fdr_some f1
  have hb := HB1.out.touch ht (.inr (by omega))
  have hr := HR1.out.touch ht (.inr (by omega))
  obtain ⟨q0, q1, q2, q3, q4, q5, q6⟩ := hb
  have HB2 := Lib.hid (show Box5 (w2.setCell ⟨w1.heap.size, 1, none⟩ (.float .f32 x1)) w1.heap.size (.int .i64 k) (.float .f32 x1) (.float .f32 0) (.float .f32 0) (.float .f32 0) from (Box5.mk q0 q1 q2 q3 q4 q5 q6).set 1 (.float .f32 x1))
  have HR2 := Lib.hid (hr.far w1.heap.size 1 (.float .f32 x1) (by omega))
  have HS2 := Lib.hid (src_set (c := w1.heap.size) (k := 1) (v := .float .f32 x1) hs (by omega))
  have HT2 := Lib.hid (touch_below' (HT1.out.trans ht) (Below.setCell (p := ⟨w1.heap.size, 1, none⟩) (Below.refl _ _) (show w.heap.size ≤ w1.heap.size by omega) (.float .f32 x1)))
  clear f1 hs ht hr
  go_wp2_with fail
  refine (HK.out _ (n + 4) HS2.out (by omega) 17 (by decide) (by decide)).mono ?_
  rintro e w3 ⟨j2, rfl, hj2, hs, ht⟩
  clear q0 q1 q2 q3 q4 q5 q6 a1 d1
  have f1 := b1_facts j2 (by omega)
  obtain ⟨x2, f1⟩ := Option.isSome_iff_exists.1 f1
  have a2 := fbits_some f1
  have d2 := fdr_some f1
  have hb := HB2.out.touch ht (.inr (by omega))
  have hr := HR2.out.touch ht (.inr (by omega))
  obtain ⟨q0, q1, q2, q3, q4, q5, q6⟩ := hb
  have HB3 := Lib.hid (show Box5 (w3.setCell ⟨w1.heap.size, 2, none⟩ (.float .f32 x2)) w1.heap.size (.int .i64 k) (.float .f32 x1) (.float .f32 x2) (.float .f32 0) (.float .f32 0) from (Box5.mk q0 q1 q2 q3 q4 q5 q6).set 2 (.float .f32 x2))
  have HR3 := Lib.hid (hr.far w1.heap.size 2 (.float .f32 x2) (by omega))
  have HS3 := Lib.hid (src_set (c := w1.heap.size) (k := 2) (v := .float .f32 x2) hs (by omega))
  have HT3 := Lib.hid (touch_below' (HT2.out.trans ht) (Below.setCell (p := ⟨w1.heap.size, 2, none⟩) (Below.refl _ _) (show w.heap.size ≤ w1.heap.size by omega) (.float .f32 x2)))
  clear f1 hs ht hr
  go_wp2_with fail
  refine (HK.out _ (n + 6) HS3.out (by omega) 9 (by decide) (by decide)).mono ?_
  rintro e w4 ⟨j3, rfl, hj3, hs, ht⟩
  clear q0 q1 q2 q3 q4 q5 q6 a2 d2
  have f1 := b2_facts j3 (by omega)
  obtain ⟨x3, f1⟩ := Option.isSome_iff_exists.1 f1
  have a3 := fbits_some f1
  have d3 := fdr_some f1
  have hb := HB3.out.touch ht (.inr (by omega))
  have hr := HR3.out.touch ht (.inr (by omega))
  obtain ⟨q0, q1, q2, q3, q4, q5, q6⟩ := hb
  have HB4 := Lib.hid (show Box5 (w4.setCell ⟨w1.heap.size, 3, none⟩ (.float .f32 x3)) w1.heap.size (.int .i64 k) (.float .f32 x1) (.float .f32 x2) (.float .f32 x3) (.float .f32 0) from (Box5.mk q0 q1 q2 q3 q4 q5 q6).set 3 (.float .f32 x3))
  have HR4 := Lib.hid (hr.far w1.heap.size 3 (.float .f32 x3) (by omega))
  have HS4 := Lib.hid (src_set (c := w1.heap.size) (k := 3) (v := .float .f32 x3) hs (by omega))
  have HT4 := Lib.hid (touch_below' (HT3.out.trans ht) (Below.setCell (p := ⟨w1.heap.size, 3, none⟩) (Below.refl _ _) (show w.heap.size ≤ w1.heap.size by omega) (.float .f32 x3)))
  clear f1 hs ht hr
  go_wp2_with fail
  refine (HK.out _ (n + 8) HS4.out (by omega) 4 (by decide) (by decide)).mono ?_
  rintro e w5 ⟨j4, rfl, hj4, hs, ht⟩
  clear q0 q1 q2 q3 q4 q5 q6 a3 d3
  have f1 := ep_facts j4 (by omega)
  obtain ⟨x4, f1⟩ := Option.isSome_iff_exists.1 f1
  have a4 := fbits_some f1
  have d4 := fdr_some f1
  have hb := HB4.out.touch ht (.inr (by omega))
  have hr := HR4.out.touch ht (.inr (by omega))
  obtain ⟨q0, q1, q2, q3, q4, q5, q6⟩ := hb
  have HB5 := Lib.hid (show Box5 (w5.setCell ⟨w1.heap.size, 4, none⟩ (.float .f32 x4)) w1.heap.size (.int .i64 k) (.float .f32 x1) (.float .f32 x2) (.float .f32 x3) (.float .f32 x4) from (Box5.mk q0 q1 q2 q3 q4 q5 q6).set 4 (.float .f32 x4))
  have HR5 := Lib.hid (hr.far w1.heap.size 4 (.float .f32 x4) (by omega))
  have HS5 := Lib.hid (src_set (c := w1.heap.size) (k := 4) (v := .float .f32 x4) hs (by omega))
  have HT5 := Lib.hid (touch_below' (HT4.out.trans ht) (Below.setCell (p := ⟨w1.heap.size, 4, none⟩) (Below.refl _ _) (show w.heap.size ≤ w1.heap.size by omega) (.float .f32 x4)))
  have hr5 := hr
  clear f1 hs ht hr
  obtain ⟨p0, p1, p2, p3, p4, p5, p6⟩ := hr5
  go_wp2
  try simp only [Exit.inBlock, Exit.then]
  exact bodyPost_ret (v := .agg #[.int .i64 k, .float .f32 x1, .float .f32 x2, .float .f32 x3, .float .f32 x4]) (by simp [results, Try.results38, go_sem, p0, p1, p2, p3, p4, p5]) rfl ⟨k, x1, x2, x3, x4, rfl, hk5, HX, touch_below' HT5.out (by repeat (first | exact Below.refl _ _ | refine Below.setCell ?_ (by simp) _))⟩
set_option maxHeartbeats 4000000 in
theorem b10_optimizer (w : World) (a0 : Option Addr) (c0 : Nat) (l0 : List Int) (h : Ints .u8 w a0 c0 l0) :
    Calls Try.prog 8 #[.slice a0 l0.length c0] w fun e w' => ∃ (k r b1 b2 ep : Nat), e = .returned (.agg #[.int .i64 k, .float .f32 r, .float .f32 b1, .float .f32 b2, .float .f32 ep]) ∧ k < 5 ∧ Hid (fop .mul .f32 (cn .f32 r) 0 = 0) ∧ Below w.heap.size w w' := by
  have hp := fun W m hW hm => draw_opt W (w.heap.size + 1) m hW hm
  have hf := src_from (w.alloc (.cells #[.int .i64 0, .float .f32 0, .float .f32 0, .float .f32 0, .float .f32 0] 26)) a0 c0 l0 (h.below (below1 _ _))
  have HP := Lib.hid hp; have HF := Lib.hid hf; clear hp hf h
  go_enter Try.func8, Try.ntmps8
  go_wp2_with fail
  refine HF.out.mono ?_
  rintro e w1 ⟨rfl, hs, hb1, hz⟩
  have hR := (Box5.alloc w (.int .i64 0) (.float .f32 0) (.float .f32 0) (.float .f32 0) (.float .f32 0) 26).below hb1
  simp at hz hs hb1
  have HS := Lib.hid hs; have HB := Lib.hid hb1; have HR := Lib.hid hR; clear hs hb1 hR
  go_wp2_with fail
  refine (HP.out _ 0 HS.out (by decide)).mono ?_
  rintro e w2 ⟨k, r, b1, b2, ep, rfl, hk, hx, ht2⟩
  obtain ⟨p0, p1, p2, p3, p4, p5, p6⟩ := HR.out.touch ht2 (.inl (by omega))
  have HT := Lib.hid ht2; clear ht2
  go_wp2
  try simp only [Exit.inBlock, Exit.then]
  refine bodyPost_ret (v := .agg #[.int .i64 k, .float .f32 r, .float .f32 b1, .float .f32 b2, .float .f32 ep]) (by simp [results, Try.results8, go_sem, p0, p1, p2, p3, p4, p5]) rfl ⟨k, r, b1, b2, ep, rfl, hk, hx, ?_⟩
  have hb : Below w.heap.size w w2 := touch_below ((below1 w (.cells #[.int .i64 0, .float .f32 0, .float .f32 0, .float .f32 0, .float .f32 0] 26)).trans (HB.out.mono (by simp))) HT.out (by omega)
  repeat (first | exact hb | refine Below.setCell ?_ (by simp) _)
end Go.Proofs.Ytnhikdjljjemlaa
/- Plain laws of floats as rational numbers: what a datum is worth, and orders. No condition. -/
namespace Go.Proofs.Ytnhikdjljjemlaa
open Go Go.RowKit Ieee
set_option linter.unusedVariables false
set_option linter.unusedSimpArgs false
def sg (s : Bool) : Rat := if s = true then -1 else 1
def num (s : Bool) (m : Nat) (p : Int) : Rat := sg s * (m : Rat) * (2 : Rat) ^ p
/-- what a datum is worth -/
def rv : Datum → Rat
  | .number s m p => num s m p
  | _ => 0
theorem two_ne : (2 : Rat) ≠ 0 := by decide
theorem pw_pos (p : Int) : (0 : Rat) < (2 : Rat) ^ p := Rat.zpow_pos (by decide)
theorem pw_add (p q : Int) : (2 : Rat) ^ (p + q) = (2 : Rat) ^ p * (2 : Rat) ^ q := Rat.zpow_add two_ne p q
theorem pw_nat (n : Nat) : (2 : Rat) ^ (n : Int) = ((2 ^ n : Nat) : Rat) := by rw [Rat.zpow_natCast, Rat.natCast_pow]; rfl
theorem pw_zero : (2 : Rat) ^ (0 : Int) = 1 := by decide +kernel
theorem signed_rv (s : Bool) (m k : Nat) : ((signed s m k : Int) : Rat) = sg s * (m : Rat) * (2 : Rat) ^ (k : Int) := by
  rw [pw_nat]
  unfold signed sg
  rw [Nat.shiftLeft_eq]
  cases s
  · simp only [Bool.false_eq_true, if_false]
    rw [Rat.intCast_natCast, Rat.natCast_mul]
    grind
  · simp only [if_true]
    rw [Rat.intCast_neg, Rat.intCast_natCast, Rat.natCast_mul]
    grind
theorem num_base {s : Bool} {m : Nat} {p b : Int} (h : b ≤ p) : num s m p = ((signed s m (p - b).toNat : Int) : Rat) * (2 : Rat) ^ b := by
  rw [signed_rv, show (((p - b).toNat : Nat) : Int) = p - b by omega]
  unfold num
  have := pw_add (p - b) b
  rw [show p - b + b = p by omega] at this
  rw [this]
  grind
theorem order_num (s t : Bool) (m n : Nat) (p q : Int) :
    ((Datum.number s m p).order (.number t n q) = some .lt ↔ num s m p < num t n q) ∧ ((Datum.number s m p).order (.number t n q) = some .gt ↔ num t n q < num s m p) ∧ ((Datum.number s m p).order (.number t n q) = some .eq ↔ num s m p = num t n q) := by
  obtain ⟨b, hb⟩ : ∃ b, b = min p q := ⟨_, rfl⟩
  have e1 := num_base (s := s) (m := m) (show b ≤ p by omega)
  have e2 := num_base (s := t) (m := n) (show b ≤ q by omega)
  have hp := pw_pos b
  simp only [Datum.order, ← hb, Option.some.injEq]
  generalize signed s m (p - b).toNat = A at e1 ⊢
  generalize signed t n (q - b).toNat = B at e2 ⊢
  generalize (2 : Rat) ^ b = c at *
  rw [e1, e2]
  have k1 : (A : Rat) * c < B * c ↔ A < B := by
    rw [Rat.mul_lt_mul_right hp, Rat.intCast_lt_intCast]
  have k2 : (B : Rat) * c < A * c ↔ B < A := by
    rw [Rat.mul_lt_mul_right hp, Rat.intCast_lt_intCast]
  refine ⟨?_, ?_, ?_⟩
  · rw [k1, Int.compare_eq_lt]
  · rw [k2, Int.compare_eq_gt]
  · rw [Int.compare_eq_eq]
    constructor
    · intro h; rw [h]
    · intro h
      have h1 : ¬ A < B := by rw [← k1, h]; exact Rat.lt_irrefl
      have h2 : ¬ B < A := by rw [← k2, h]; exact Rat.lt_irrefl
      omega
end Go.Proofs.Ytnhikdjljjemlaa
/- Plain laws of floats as rational numbers: what rounding leaves. No condition. -/
namespace Go.Proofs.Ytnhikdjljjemlaa
open Go Go.RowKit Ieee
set_option linter.unusedVariables false
set_option linter.unusedSimpArgs false
/-- 'r' is the rung nearest to 'V' (in units of the least place), the even one in the middle -/
structure Mid (f : Format) (V : Rat) (r : Nat) : Prop where
  le : r ≤ f.infRung
  low : r = 0 ∨ ((nval f (r - 1) : Rat) + nval f r ≤ 2 * V ∧ (r % 2 = 1 → (nval f (r - 1) : Rat) + nval f r < 2 * V))
  high : r = f.infRung ∨ (2 * V ≤ (nval f r : Rat) + nval f (r + 1) ∧ (r % 2 = 1 → 2 * V < (nval f r : Rat) + nval f (r + 1)))
theorem nat_rat_le {a b : Nat} (h : a ≤ b) : (a : Rat) ≤ b := Rat.natCast_le_natCast.2 h
theorem nat_rat_lt {a b : Nat} (h : a < b) : (a : Rat) < b := Rat.natCast_lt_natCast.2 h
theorem nval_le {f : Format} {x y : Nat} (h : x ≤ y) : nval f x ≤ nval f y := by
  rcases Nat.lt_or_ge x y with h1 | h1
  · exact Nat.le_of_lt (nval_lt h1)
  · have : x = y := by omega
    rw [this]; exact Nat.le_refl _
theorem Mid.mono {f : Format} {V W : Rat} {r s : Nat} (h : Mid f V r) (k : Mid f W s) (hv : V ≤ W) : r ≤ s := by
  rcases Nat.lt_or_ge s r with hlt | hge
  · exfalso
    have hr0 : r ≠ 0 := by omega
    have hs : s ≠ f.infRung := by have := h.le; omega
    obtain ⟨l1, l2⟩ := h.low.resolve_left hr0
    obtain ⟨u1, u2⟩ := k.high.resolve_left hs
    have a1 : (nval f s : Rat) ≤ nval f (r - 1) := nat_rat_le (nval_le (by omega))
    have a2 : (nval f (s + 1) : Rat) ≤ nval f r := nat_rat_le (nval_le (by omega))
    rcases Nat.lt_or_ge (s + 1) r with h2 | h2
    · have a3 : (nval f (s + 1) : Rat) < nval f r := nat_rat_lt (nval_lt h2)
      grind
    · have e : r = s + 1 := by omega
      subst e
      rcases Nat.mod_two_eq_zero_or_one s with h3 | h3
      · have := l2 (by omega)
        simp only [Nat.add_sub_cancel] at this l1
        grind
      · have := u2 h3
        simp only [Nat.add_sub_cancel] at l1
        grind
  · exact hge
theorem Mid.unique {f : Format} {V : Rat} {r s : Nat} (h : Mid f V r) (k : Mid f V s) : r = s :=
  Nat.le_antisymm (h.mono k Rat.le_refl) (k.mono h Rat.le_refl)
/-- what a number is exactly -/
theorem Mid.exact {f : Format} {r : Nat} (hr : r ≤ f.infRung) : Mid f (nval f r : Rat) r := by
  refine ⟨hr, ?_, ?_⟩
  · rcases Nat.eq_zero_or_pos r with h | h
    · exact .inl h
    · right
      have : (nval f (r - 1) : Rat) < nval f r := nat_rat_lt (nval_lt (by omega))
      constructor
      · grind
      · intro _; grind
  · right
    have : (nval f r : Rat) < nval f (r + 1) := nat_rat_lt (nval_lt (by omega))
    constructor
    · grind
    · intro _; grind
theorem Mid.half_even {f : Format} {r : Nat} (hr : r < f.infRung) {V : Rat} (hV : 2 * V = (nval f r : Rat) + nval f (r + 1)) : Mid f V (if r % 2 = 0 then r else r + 1) := by
  by_cases h : r % 2 = 0
  · rw [if_pos h]
    refine ⟨by omega, ?_, .inr ⟨by grind, fun h1 => by omega⟩⟩
    rcases Nat.eq_zero_or_pos r with h2 | h2
    · exact .inl h2
    · right
      have : (nval f (r - 1) : Rat) ≤ nval f (r + 1) := nat_rat_le (nval_le (by omega))
      exact ⟨by grind, fun h1 => by omega⟩
  · rw [if_neg h]
    refine ⟨by omega, .inr ⟨?_, fun h1 => by omega⟩, .inr ⟨?_, fun h1 => by omega⟩⟩
    · simp only [Nat.add_sub_cancel]; grind
    · have : (nval f r : Rat) ≤ nval f (r + 1 + 1) := nat_rat_le (nval_le (by omega))
      grind
/-- an integer nearest to a number -/
theorem cut_even (neg : Bool) (N d : Nat) : (2 * (Toward.even.cut neg N d : Rat) - 1) * (2 : Rat) ^ d ≤ 2 * N ∧ 2 * (N : Rat) ≤ (2 * (Toward.even.cut neg N d : Rat) + 1) * (2 : Rat) ^ d ∧
    ((Toward.even.cut neg N d) % 2 = 1 → (2 * (Toward.even.cut neg N d : Rat) - 1) * (2 : Rat) ^ d < 2 * N ∧ 2 * (N : Rat) < (2 * (Toward.even.cut neg N d : Rat) + 1) * (2 : Rat) ^ d) := by
  have hp : ∀ n : Nat, ((2 ^ n : Nat) : Rat) = (2 : Rat) ^ n := fun n => by rw [Rat.natCast_pow]; rfl
  unfold Toward.cut
  simp only [Nat.shiftLeft_eq, Nat.one_mul]
  by_cases h : d ≤ N.log2 + 2
  · rw [Nat.min_eq_left h]
    obtain ⟨g, hg⟩ : ∃ g, g = 2 ^ d := ⟨_, rfl⟩
    have hgp : 0 < g := by rw [hg]; exact Nat.two_pow_pos _
    rw [← hp, ← hg]
    have hdiv := Nat.div_add_mod N g
    have hmod := Nat.mod_lt N hgp
    generalize N / g = q at *
    generalize N % g = t at *
    obtain ⟨M, hM⟩ : ∃ M, M = g * q := ⟨_, rfl⟩
    have hN : (N : Rat) = (g : Rat) * q + t := by rw [← hdiv, Rat.natCast_add, Rat.natCast_mul]
    have ht0 : (0 : Rat) ≤ t := Rat.natCast_nonneg
    have htg : (t : Rat) < g := nat_rat_lt hmod
    have hg0 : (0 : Rat) < g := by have := nat_rat_lt hgp; simpa using this
    rw [hN]
    by_cases h1 : g < 2 * t
    · have h1r : (g : Rat) < 2 * t := by have := nat_rat_lt h1; rw [Rat.natCast_mul] at this; simpa using this
      simp only [h1, decide_true, Bool.true_or, Bool.toNat_true]
      rw [Rat.natCast_add]
      refine ⟨by grind, by grind, fun _ => ⟨by grind, by grind⟩⟩
    · by_cases h2 : g = 2 * t
      · have h2r : (g : Rat) = 2 * t := by rw [h2, Rat.natCast_mul]; rfl
        by_cases h3 : q % 2 = 1
        · have e : (decide (g < 2 * t) || (g == 2 * t && q % 2 == 1)) = true := by simp [h1, ← h2, h3]
          rw [e]
          simp only [Bool.toNat_true]
          rw [Rat.natCast_add]
          refine ⟨by grind, by grind, fun h4 => by omega⟩
        · have e : (decide (g < 2 * t) || (g == 2 * t && q % 2 == 1)) = false := by simp [h1, h3]
          rw [e]
          simp only [Bool.toNat_false, Nat.add_zero]
          refine ⟨by grind, by grind, fun h4 => by omega⟩
      · have h4 : 2 * t < g := by omega
        have h4r : 2 * (t : Rat) < g := by have := nat_rat_lt h4; rw [Rat.natCast_mul] at this; simpa using this
        have e : (decide (g < 2 * t) || (g == 2 * t && q % 2 == 1)) = false := by simp [h1, h2]
        rw [e]
        simp only [Bool.toNat_false, Nat.add_zero]
        refine ⟨by grind, by grind, fun _ => ⟨by grind, by grind⟩⟩
  · rw [Nat.min_eq_right (by omega)]
    have hlt : N < 2 ^ (N.log2 + 1) := Nat.lt_log2_self
    have h2 : 2 ^ (N.log2 + 2) = 2 * 2 ^ (N.log2 + 1) := by rw [Nat.pow_succ]; omega
    have e1 : N / 2 ^ (N.log2 + 2) = 0 := Nat.div_eq_of_lt (by omega)
    have e2 : N % 2 ^ (N.log2 + 2) = N := Nat.mod_eq_of_lt (by omega)
    rw [e1, e2]
    have e3 : (decide (2 ^ (N.log2 + 2) < 2 * N) || (2 ^ (N.log2 + 2) == 2 * N && 0 % 2 == 1)) = false := by
      simp; omega
    rw [e3]
    simp only [Bool.toNat_false, Nat.add_zero]
    have h5 : 2 * N < 2 ^ d := by
      have : 2 ^ (N.log2 + 2) ≤ 2 ^ d := Nat.pow_le_pow_right (by decide) (by omega)
      omega
    have h5r : 2 * (N : Rat) < (2 : Rat) ^ d := by have := nat_rat_lt h5; rw [hp, Rat.natCast_mul] at this; simpa using this
    have h6 : (0 : Rat) ≤ N := Rat.natCast_nonneg
    have h7 : (0 : Rat) < (2 : Rat) ^ d := by rw [← hp]; have := nat_rat_lt (Nat.two_pow_pos d); simpa using this
    refine ⟨by grind, by grind, fun h8 => by omega⟩
theorem binade_pos (f : Format) : 0 < f.binade := Nat.two_pow_pos _
/-- the rungs of one binade -/
theorem nval_rung (f : Format) (e k : Nat) (h1 : e = 0 ∨ f.binade ≤ k) (h2 : k ≤ 2 * f.binade) : nval f (e * f.binade + k) = k * 2 ^ e := by
  have hB := binade_pos f
  unfold nval
  rcases Nat.lt_or_ge k f.binade with hk | hk
  · have he : e = 0 := by omega
    subst he
    rw [if_pos (by omega)]; simp
  · rw [if_neg (by have := Nat.zero_le (e * f.binade); omega)]
    rcases Nat.lt_or_ge k (2 * f.binade) with hk2 | hk2
    · have e1 : (e * f.binade + k) / f.binade = e + 1 := by
        rw [Nat.add_comm, Nat.add_mul_div_right _ _ hB]
        have : k / f.binade = 1 := by
          rw [Nat.div_eq_iff hB]; omega
        omega
      have e2 : (e * f.binade + k) % f.binade = k - f.binade := by
        rw [Nat.add_comm, Nat.add_mul_mod_self_right, Nat.mod_eq_sub_mod hk, Nat.mod_eq_of_lt (by omega)]
      rw [e1, e2]
      congr 1; omega
    · have hke : k = 2 * f.binade := by omega
      subst hke
      have e0 : e * f.binade + 2 * f.binade = (e + 2) * f.binade := by rw [Nat.add_mul]
      rw [e0, Nat.mul_div_cancel _ hB, Nat.mul_mod_left]
      simp only [Nat.add_zero]
      rw [show e + 2 - 1 = e + 1 by omega, Nat.pow_succ]
      rw [Nat.mul_comm (2 ^ e) 2, ← Nat.mul_assoc, Nat.mul_comm f.binade 2]
theorem binade_even (f : Format) (hF : 1 ≤ f.fractionBits) (e k : Nat) : (e * f.binade + k) % 2 = k % 2 := by
  have : f.binade % 2 = 0 := by
    unfold Format.binade
    obtain ⟨n, hn⟩ : ∃ n, f.fractionBits = n + 1 := ⟨f.fractionBits - 1, by omega⟩
    rw [hn, Nat.pow_succ]; omega
  rw [Nat.add_mod, Nat.mul_mod, this]; simp
/-- what the format writes is nearest -/
theorem near_mid (f : Format) (hF : 1 ≤ f.fractionBits) (neg : Bool) (m : Nat) (p : Int) : ∃ r, f.nearest neg m p = f.word neg r ∧ Mid f ((m : Rat) * (2 : Rat) ^ (p - f.leastPlace)) r := by
  have hB := binade_pos f
  by_cases hm : m = 0
  · subst hm
    refine ⟨0, by unfold Format.nearest; rw [if_pos rfl], Nat.zero_le _, .inl rfl, .inr ?_⟩
    have h1 : (0 : Rat) ≤ nval f 0 := Rat.natCast_nonneg
    have h2 : (nval f 0 : Rat) < nval f (0 + 1) := nat_rat_lt (nval_lt (by omega))
    have h3 : ((0 : Nat) : Rat) = 0 := rfl
    rw [h3, Rat.zero_mul]
    exact ⟨by grind, fun h => by omega⟩
  unfold Format.nearest
  rw [if_neg hm]
  obtain ⟨last, hlast⟩ : ∃ last, last = max (p + m.log2 - f.fractionBits) f.leastPlace := ⟨_, rfl⟩
  simp only [← hlast]
  obtain ⟨e, he⟩ : ∃ e : Nat, last - f.leastPlace = e := ⟨(last - f.leastPlace).toNat, by omega⟩
  rw [he]
  obtain ⟨k, hk⟩ : ∃ k, k = Toward.even.cut neg (m <<< (p - last).toNat) (last - p).toNat := ⟨_, rfl⟩
  rw [← hk]
  obtain ⟨c1, c2, c3⟩ := cut_even neg (m <<< (p - last).toNat) (last - p).toNat
  rw [← hk] at c1 c2 c3
  -- the number in units of its last place
  obtain ⟨W, hW⟩ : ∃ W : Rat, W = (m : Rat) * (2 : Rat) ^ (p - last) := ⟨_, rfl⟩
  have hpd : (0 : Rat) < (2 : Rat) ^ (last - p).toNat := Rat.pow_pos (by decide)
  have hWN : ((m <<< (p - last).toNat : Nat) : Rat) = W * (2 : Rat) ^ (last - p).toNat := by
    rw [hW, Nat.shiftLeft_eq, Rat.natCast_mul, ← pw_nat]
    have e1 : (2 : Rat) ^ (p - last) * (2 : Rat) ^ (last - p).toNat = (2 : Rat) ^ (((p - last).toNat : Nat) : Int) := by
      rw [← Rat.zpow_natCast (2 : Rat) (last - p).toNat, ← pw_add]; congr 1; omega
    rw [← e1]; grind
  rw [hWN] at c1 c2 c3
  have d1 : 2 * (k : Rat) - 1 ≤ 2 * W := by
    apply Rat.le_of_mul_le_mul_right _ hpd; grind
  have d2 : 2 * W ≤ 2 * (k : Rat) + 1 := by
    apply Rat.le_of_mul_le_mul_right _ hpd; grind
  have d3 : k % 2 = 1 → 2 * (k : Rat) - 1 < 2 * W ∧ 2 * W < 2 * (k : Rat) + 1 := by
    intro h
    obtain ⟨x1, x2⟩ := c3 h
    constructor
    · rw [← Rat.not_le]; intro h; have := Rat.mul_le_mul_of_nonneg_right h (Rat.le_of_lt hpd); grind
    · rw [← Rat.not_le]; intro h; have := Rat.mul_le_mul_of_nonneg_right h (Rat.le_of_lt hpd); grind
  clear c1 c2 c3 hWN hpd
  have hVW : (m : Rat) * (2 : Rat) ^ (p - f.leastPlace) = W * (2 : Rat) ^ e := by
    rw [hW, ← Rat.zpow_natCast (2 : Rat) e]
    have : (2 : Rat) ^ (p - f.leastPlace) = (2 : Rat) ^ (p - last) * (2 : Rat) ^ (e : Int) := by rw [← pw_add]; congr 1; omega
    rw [this]; grind
  rw [hVW]
  -- the size of it
  have hlog1 := Nat.log2_self_le hm
  have hlog2 : m < 2 ^ (m.log2 + 1) := Nat.lt_log2_self
  have hBF : (f.binade : Rat) = (2 : Rat) ^ (f.fractionBits : Int) := by rw [pw_nat]; rfl
  have hW2 : W < 2 * f.binade := by
    have h1 : (m : Rat) < (2 : Rat) ^ ((m.log2 + 1 : Nat) : Int) := by rw [pw_nat]; exact nat_rat_lt hlog2
    have h2 : W < (2 : Rat) ^ ((m.log2 + 1 : Nat) : Int) * (2 : Rat) ^ (p - last) := by
      rw [hW]; exact Rat.mul_lt_mul_of_pos_right h1 (pw_pos _)
    have h3 : (2 : Rat) ^ ((m.log2 + 1 : Nat) : Int) * (2 : Rat) ^ (p - last) ≤ 2 * f.binade := by
      rw [← pw_add, hBF]
      have e21 : (2 : Rat) ^ (1 : Int) = 2 := by decide +kernel
      have h4 : (2 : Rat) * (2 : Rat) ^ (f.fractionBits : Int) = (2 : Rat) ^ ((f.fractionBits : Int) + 1) := by rw [pw_add, e21]; grind
      rw [h4]
      have h5 : ((m.log2 + 1 : Nat) : Int) + (p - last) ≤ (f.fractionBits : Int) + 1 := by omega
      obtain ⟨n, hn⟩ : ∃ n : Nat, (f.fractionBits : Int) + 1 = ((m.log2 + 1 : Nat) : Int) + (p - last) + n := ⟨((f.fractionBits : Int) + 1 - (((m.log2 + 1 : Nat) : Int) + (p - last))).toNat, by omega⟩
      rw [hn, pw_add _ (n : Int)]
      have h6 : (1 : Rat) ≤ (2 : Rat) ^ (n : Int) := by rw [pw_nat]; have := nat_rat_le (Nat.one_le_two_pow (n := n)); simpa using this
      have h7 := pw_pos (((m.log2 + 1 : Nat) : Int) + (p - last))
      have := Rat.mul_le_mul_of_nonneg_left h6 (Rat.le_of_lt h7)
      grind
    grind
  have hW1 : e = 0 ∨ (f.binade : Rat) ≤ W := by
    rcases Nat.eq_zero_or_pos e with h0 | h0
    · exact .inl h0
    · right
      have hl : last = p + m.log2 - f.fractionBits := by omega
      have h1 : (2 : Rat) ^ ((m.log2 : Nat) : Int) ≤ (m : Rat) := by rw [pw_nat]; exact nat_rat_le hlog1
      have h2 : (2 : Rat) ^ ((m.log2 : Nat) : Int) * (2 : Rat) ^ (p - last) ≤ W := by
        rw [hW]; exact Rat.mul_le_mul_of_nonneg_right h1 (Rat.le_of_lt (pw_pos _))
      rw [← pw_add] at h2
      have h3 : ((m.log2 : Nat) : Int) + (p - last) = f.fractionBits := by omega
      rw [h3, ← hBF] at h2
      exact h2
  have hW0 : 0 ≤ W := by rw [hW]; exact Rat.mul_nonneg Rat.natCast_nonneg (Rat.le_of_lt (pw_pos _))
  have hk2 : k ≤ 2 * f.binade := by
    have h1 : (2 * k : Nat) < 4 * f.binade + 2 := by
      have : ((2 * k : Nat) : Rat) < ((4 * f.binade + 2 : Nat) : Rat) := by
        rw [Rat.natCast_mul, Rat.natCast_add, Rat.natCast_mul]
        have e2 : ((2 : Nat) : Rat) = 2 := rfl
        have e4 : ((4 : Nat) : Rat) = 4 := rfl
        rw [e2, e4]; grind
      exact Rat.natCast_lt_natCast.1 this
    omega
  have hk1 : e = 0 ∨ f.binade ≤ k := by
    rcases hW1 with h | h
    · exact .inl h
    · right
      have : (2 * f.binade : Nat) < 2 * k + 2 := by
        have : ((2 * f.binade : Nat) : Rat) < ((2 * k + 2 : Nat) : Rat) := by
          rw [Rat.natCast_mul, Rat.natCast_add, Rat.natCast_mul]
          have e2 : ((2 : Nat) : Rat) = 2 := rfl
          rw [e2]; grind
        exact Rat.natCast_lt_natCast.1 this
      omega
  have hE : (0 : Rat) < (2 : Rat) ^ e := Rat.pow_pos (by decide)
  have hEn : ∀ j : Nat, ((j * 2 ^ e : Nat) : Rat) = (j : Rat) * (2 : Rat) ^ e := fun j => by rw [Rat.natCast_mul, Rat.natCast_pow]; rfl
  obtain ⟨R, hR⟩ : ∃ R, R = e * f.binade + k := ⟨_, rfl⟩
  have hnR : (nval f R : Rat) = (k : Rat) * (2 : Rat) ^ e := by rw [hR, nval_rung f e k hk1 hk2, hEn]
  have hpar : R % 2 = k % 2 := by rw [hR]; exact binade_even f hF e k
  -- below
  have hlow : R = 0 ∨ ((nval f (R - 1) : Rat) + nval f R ≤ 2 * (W * (2 : Rat) ^ e) ∧ (R % 2 = 1 → (nval f (R - 1) : Rat) + nval f R < 2 * (W * (2 : Rat) ^ e))) := by
    rcases Nat.eq_zero_or_pos R with h0 | h0
    · exact .inl h0
    · right
      by_cases hkb : e = 0 ∨ f.binade + 1 ≤ k
      · have hk0 : 1 ≤ k := by
          rcases hkb with h | h
          · subst h; omega
          · omega
        have hprev : (nval f (R - 1) : Rat) = ((k : Rat) - 1) * (2 : Rat) ^ e := by
          have : R - 1 = e * f.binade + (k - 1) := by omega
          rw [this, nval_rung f e (k - 1) (by omega) (by omega), hEn]
          congr 1
          have : ((k - 1 + 1 : Nat) : Rat) = (k : Rat) := by congr 1; omega
          rw [Rat.natCast_add] at this
          have e1 : ((1 : Nat) : Rat) = 1 := rfl
          rw [e1] at this; grind
        rw [hprev, hnR]
        have g1 := Rat.mul_le_mul_of_nonneg_right d1 (Rat.le_of_lt hE)
        refine ⟨by grind, fun h => ?_⟩
        have g2 := Rat.mul_lt_mul_of_pos_right (d3 (by omega)).1 hE
        grind
      · have he1 : e ≠ 0 := fun h => hkb (.inl h)
        have hke : k = f.binade := by have := hk1.resolve_left he1; omega
        have hWb := hW1.resolve_left he1
        have hprev : (nval f (R - 1) : Rat) < nval f R := nat_rat_lt (nval_lt (by omega))
        have g1 := Rat.mul_le_mul_of_nonneg_right hWb (Rat.le_of_lt hE)
        rw [hnR] at hprev ⊢
        have hkr : (k : Rat) = f.binade := by rw [hke]
        rw [hkr] at hprev ⊢
        exact ⟨by grind, fun _ => by grind⟩
  -- above
  have hhigh : 2 * (W * (2 : Rat) ^ e) ≤ (nval f R : Rat) + nval f (R + 1) ∧ (R % 2 = 1 → 2 * (W * (2 : Rat) ^ e) < (nval f R : Rat) + nval f (R + 1)) := by
    by_cases hkb : k + 1 ≤ 2 * f.binade
    · have hnext : (nval f (R + 1) : Rat) = ((k : Rat) + 1) * (2 : Rat) ^ e := by
        have : R + 1 = e * f.binade + (k + 1) := by omega
        rw [this, nval_rung f e (k + 1) (by omega) hkb, hEn, Rat.natCast_add]; rfl
      rw [hnext, hnR]
      have g1 := Rat.mul_le_mul_of_nonneg_right d2 (Rat.le_of_lt hE)
      refine ⟨by grind, fun h => ?_⟩
      have g2 := Rat.mul_lt_mul_of_pos_right (d3 (by omega)).2 hE
      grind
    · have hke : k = 2 * f.binade := by omega
      have hnext : (nval f R : Rat) < nval f (R + 1) := nat_rat_lt (nval_lt (by omega))
      have g1 := Rat.mul_lt_mul_of_pos_right hW2 hE
      rw [hnR] at hnext ⊢
      have hkr : (k : Rat) = 2 * f.binade := by rw [hke, Rat.natCast_mul]; rfl
      rw [hkr] at hnext ⊢
      exact ⟨by grind, fun _ => by grind⟩
  rw [Int.toNat_natCast, ← hR]
  refine ⟨min R f.infRung, rfl, Nat.min_le_right _ _, ?_, ?_⟩
  · rcases Nat.lt_or_ge f.infRung R with h | h
    · rw [Nat.min_eq_right (by omega)]
      rcases Nat.eq_zero_or_pos f.infRung with h0 | h0
      · exact .inl h0
      · right
        have hev : f.infRung % 2 = 0 := by
          unfold Format.infRung
          have := binade_even f hF (2 ^ f.exponentBits - 1) 0
          simpa using this
        obtain ⟨l1, _⟩ := hlow.resolve_left (by omega)
        have a1 : (nval f (f.infRung - 1) : Rat) ≤ nval f (R - 1) := nat_rat_le (nval_le (by omega))
        have a2 : (nval f f.infRung : Rat) ≤ nval f R := nat_rat_le (nval_le (by omega))
        exact ⟨by grind, fun h => by omega⟩
    · rw [Nat.min_eq_left h]; exact hlow
  · rcases Nat.lt_or_ge R f.infRung with h | h
    · rw [Nat.min_eq_left (by omega)]; exact .inr hhigh
    · rw [Nat.min_eq_right h]; exact .inl rfl
end Go.Proofs.Ytnhikdjljjemlaa
/- Plain laws of floats as rational numbers: each operation leaves the nearest number. No condition. -/
namespace Go.Proofs.Ytnhikdjljjemlaa
open Go Go.RowKit Ieee
set_option linter.unusedVariables false
set_option linter.unusedSimpArgs false
theorem rat_tri (a b : Rat) : a < b ∨ a = b ∨ b < a := by grind
def rabs (q : Rat) : Rat := if q < 0 then -q else q
theorem rabs_nonneg (q : Rat) : 0 ≤ rabs q := by unfold rabs; split <;> grind
theorem rabs_pos {q : Rat} (h : 0 ≤ q) : rabs q = q := by unfold rabs; rw [if_neg (by grind)]
theorem rabs_neg {q : Rat} (h : q ≤ 0) : rabs q = -q := by unfold rabs; split <;> grind
theorem sg_abs (s : Bool) {v : Rat} (hv : 0 ≤ v) : rabs (sg s * v) = v := by
  unfold sg
  cases s
  · simp only [Bool.false_eq_true, if_false]; rw [Rat.one_mul, rabs_pos hv]
  · simp only [if_true]; rw [rabs_neg (by grind)]; grind
/-- the word of the number nearest to 'q' -/
def Near (f : Format) (q : Rat) (w : Nat) : Prop :=
  ∃ s r, w = f.word s r ∧ Mid f (rabs q * (2 : Rat) ^ (-f.leastPlace)) r ∧ (q < 0 → s = true) ∧ (0 < q → s = false)
/-- a finite word -/
def Fin (f : Format) (w : Nat) : Prop := ∃ s r, w = f.word s r ∧ r < f.infRung
/-- what a word is worth -/
def val (f : Format) (w : Nat) : Rat := rv (f.read w)
theorem read_num (f : Format) (s : Bool) {r : Nat} (hr : r < f.infRung) : ∃ m p, f.read (f.word s r) = .number s m p ∧ (m : Rat) * (2 : Rat) ^ p = (nval f r : Rat) * (2 : Rat) ^ f.leastPlace := by
  obtain ⟨m, p, h1, h2, h3⟩ := read_fin f s hr
  refine ⟨m, p, h1, ?_⟩
  rw [← h3, Nat.shiftLeft_eq, Rat.natCast_mul, ← pw_nat]
  have : (2 : Rat) ^ p = (2 : Rat) ^ (((p - f.leastPlace).toNat : Nat) : Int) * (2 : Rat) ^ f.leastPlace := by rw [← pw_add]; congr 1; omega
  rw [this]; grind
theorem val_word (f : Format) (s : Bool) {r : Nat} (hr : r < f.infRung) : val f (f.word s r) = sg s * ((nval f r : Rat) * (2 : Rat) ^ f.leastPlace) := by
  obtain ⟨m, p, h1, h2⟩ := read_num f s hr
  unfold val
  rw [h1]
  unfold rv num
  rw [← h2]; grind
theorem pw_cancel (p : Int) : (2 : Rat) ^ p * (2 : Rat) ^ (-p) = 1 := by
  rw [← pw_add, show p + -p = 0 by omega, pw_zero]
theorem units (f : Format) (v : Rat) : v * (2 : Rat) ^ f.leastPlace * (2 : Rat) ^ (-f.leastPlace) = v := by
  rw [Rat.mul_assoc, pw_cancel]; grind
theorem units' (f : Format) (v : Rat) : v * (2 : Rat) ^ (-f.leastPlace) * (2 : Rat) ^ f.leastPlace = v := by
  rw [Rat.mul_assoc, Rat.mul_comm ((2 : Rat) ^ (-f.leastPlace)), pw_cancel]; grind
theorem word_inj {f : Format} {s t : Bool} {r q : Nat} (hr : r < f.signWeight) (hq : q < f.signWeight) (h : f.word s r = f.word t q) : s = t ∧ r = q := by
  unfold Format.word at h
  cases s <;> cases t <;> simp at h ⊢ <;> omega
/-- a number of the format is what is nearest to itself -/
theorem Near.exact {f : Format} {w : Nat} (h : Fin f w) {q : Rat} (hq : q = val f w) (h0 : q ≠ 0) {w' : Nat} (hn : Near f q w') : w' = w := by
  obtain ⟨s, r, rfl, hr⟩ := h
  obtain ⟨t, r', rfl, hm, h1, h2⟩ := hn
  rw [val_word f s hr] at hq
  have hp := pw_pos f.leastPlace
  have hn0 : (0 : Rat) ≤ nval f r := Rat.natCast_nonneg
  have hv0 : (0 : Rat) ≤ (nval f r : Rat) * (2 : Rat) ^ f.leastPlace := Rat.mul_nonneg hn0 (Rat.le_of_lt hp)
  have ha : rabs q = (nval f r : Rat) * (2 : Rat) ^ f.leastPlace := by rw [hq]; exact sg_abs s hv0
  rw [ha, units] at hm
  have e := hm.unique (Mid.exact (Nat.le_of_lt hr))
  subst e
  have : t = s := by
    unfold sg at hq
    cases s
    · simp only [Bool.false_eq_true, if_false] at hq
      rw [Rat.one_mul] at hq
      exact h2 (by grind)
    · simp only [if_true] at hq
      exact h1 (by grind)
  rw [this]
/-- the same where zeros are not told apart -/
theorem Near.val_exact {f : Format} {w : Nat} (h : Fin f w) {q : Rat} (hq : q = val f w) {w' : Nat} (hn : Near f q w') : Fin f w' ∧ val f w' = q := by
  by_cases h0 : q = 0
  · obtain ⟨t, r', rfl, hm, h1, h2⟩ := hn
    obtain ⟨s, r, rfl, hr⟩ := h
    have : Mid f (rabs q * (2 : Rat) ^ (-f.leastPlace)) 0 := by
      rw [h0, rabs_pos Rat.le_refl, Rat.zero_mul]
      have := Mid.exact (f := f) (r := 0) (Nat.zero_le _)
      rw [nval_zero] at this; exact this
    have e := hm.unique this
    subst e
    have hi : 0 < f.infRung := by omega
    refine ⟨⟨t, 0, rfl, hi⟩, ?_⟩
    rw [val_word f t hi, nval_zero, h0]
    have e0 : ((0 : Nat) : Rat) = 0 := rfl
    rw [e0]; grind
  · have := hn.exact h hq h0
    subst this
    exact ⟨h, hq.symm⟩
theorem abs_val (f : Format) (s : Bool) {r : Nat} (hr : r < f.infRung) : rabs (val f (f.word s r)) * (2 : Rat) ^ (-f.leastPlace) = nval f r := by
  rw [val_word f s hr, sg_abs s (Rat.mul_nonneg Rat.natCast_nonneg (Rat.le_of_lt (pw_pos _))), units]
/-- nearest numbers stand as the numbers do -/
theorem Near.mono {f : Format} {q q' : Rat} {w w' : Nat} (h : Near f q w) (h' : Near f q' w') (hw : Fin f w) (hw' : Fin f w') (hI : f.infRung < f.signWeight) (hq : q ≤ q') : val f w ≤ val f w' := by
  obtain ⟨s, r, rfl, hm, h1, h2⟩ := h
  obtain ⟨t, r', rfl, hm', h1', h2'⟩ := h'
  obtain ⟨s0, r0, e0, hr⟩ := hw
  obtain ⟨t0, r0', e0', hr'⟩ := hw'
  obtain ⟨rfl, rfl⟩ := word_inj (by have := hm.le; omega) (by omega) e0
  obtain ⟨rfl, rfl⟩ := word_inj (by have := hm'.le; omega) (by omega) e0'
  rw [val_word f _ hr, val_word f _ hr']
  have hp := pw_pos f.leastPlace
  have hpn := pw_pos (-f.leastPlace)
  have n0 : (0 : Rat) ≤ (nval f r : Rat) * (2 : Rat) ^ f.leastPlace := Rat.mul_nonneg Rat.natCast_nonneg (Rat.le_of_lt hp)
  have n1 : (0 : Rat) ≤ (nval f r' : Rat) * (2 : Rat) ^ f.leastPlace := Rat.mul_nonneg Rat.natCast_nonneg (Rat.le_of_lt hp)
  have zero : ∀ {x : Rat} {k : Nat}, x = 0 → Mid f (rabs x * (2 : Rat) ^ (-f.leastPlace)) k → k = 0 := by
    intro x k hx hk
    rw [hx, rabs_pos Rat.le_refl, Rat.zero_mul] at hk
    have := Mid.exact (f := f) (r := 0) (Nat.zero_le _)
    rw [nval_zero] at this
    exact hk.unique this
  have z0 : (nval f 0 : Rat) = 0 := by rw [nval_zero]; rfl
  unfold sg
  rcases rat_tri q 0 with a | a | a
  · rw [h1 a]
    rcases rat_tri q' 0 with b | b | b
    · rw [h1' b]
      have hle : rabs q' * (2 : Rat) ^ (-f.leastPlace) ≤ rabs q * (2 : Rat) ^ (-f.leastPlace) := by
        apply Rat.mul_le_mul_of_nonneg_right _ (Rat.le_of_lt hpn)
        rw [rabs_neg (Rat.le_of_lt a), rabs_neg (Rat.le_of_lt b)]; grind
      have := nat_rat_le (nval_le (f := f) (hm'.mono hm hle))
      have := Rat.mul_le_mul_of_nonneg_right this (Rat.le_of_lt hp)
      simp only [if_true]; grind
    · have := zero b hm'
      subst this
      rw [z0]
      simp only [if_true]; grind
    · rw [h2' b]
      simp only [if_true, Bool.false_eq_true, if_false]; grind
  · have := zero a hm
    subst this
    rw [z0]
    rcases rat_tri q' 0 with b | b | b
    · grind
    · have := zero b hm'
      subst this
      rw [z0]; grind
    · rw [h2' b]
      simp only [Bool.false_eq_true, if_false]; grind
  · rw [h2 a, h2' (by grind)]
    have hle : rabs q * (2 : Rat) ^ (-f.leastPlace) ≤ rabs q' * (2 : Rat) ^ (-f.leastPlace) := by
      apply Rat.mul_le_mul_of_nonneg_right _ (Rat.le_of_lt hpn)
      rw [rabs_pos (Rat.le_of_lt a), rabs_pos (by grind)]; exact hq
    have := nat_rat_le (nval_le (f := f) (hm.mono hm' hle))
    have := Rat.mul_le_mul_of_nonneg_right this (Rat.le_of_lt hp)
    simp only [Bool.false_eq_true, if_false]; grind
/-- what is written for a number -/
theorem near_num (f : Format) (hF : 1 ≤ f.fractionBits) (s : Bool) (m : Nat) (p : Int) : Near f (num s m p) (f.nearest s m p) := by
  obtain ⟨r, h1, h2⟩ := near_mid f hF s m p
  have hp := pw_pos p
  have hm : (0 : Rat) ≤ m := Rat.natCast_nonneg
  have hv : (0 : Rat) ≤ (m : Rat) * (2 : Rat) ^ p := Rat.mul_nonneg hm (Rat.le_of_lt hp)
  refine ⟨s, r, h1, ?_, ?_, ?_⟩
  · have e : num s m p = sg s * ((m : Rat) * (2 : Rat) ^ p) := by unfold num; grind
    rw [e, sg_abs s hv]
    have : (2 : Rat) ^ (p - f.leastPlace) = (2 : Rat) ^ p * (2 : Rat) ^ (-f.leastPlace) := by rw [← pw_add]; congr 1
    rw [this] at h2
    rw [Rat.mul_assoc]; exact h2
  · intro h
    unfold num sg at h
    cases s
    · simp only [Bool.false_eq_true, if_false] at h
      grind
    · rfl
  · intro h
    unfold num sg at h
    cases s
    · rfl
    · simp only [if_true] at h
      grind
end Go.Proofs.Ytnhikdjljjemlaa
/- Plain laws of floats as rational numbers: quotients. No condition. -/
namespace Go.Proofs.Ytnhikdjljjemlaa
open Go Go.RowKit Ieee
set_option linter.unusedVariables false
set_option linter.unusedSimpArgs false
theorem nval_dvd (f : Format) {k r : Nat} (h : (k + 1) * f.binade ≤ r) : ∃ b, nval f r = b * 2 ^ k := by
  have hB := binade_pos f
  have hr : f.binade ≤ r := by
    have : f.binade ≤ (k + 1) * f.binade := Nat.le_mul_of_pos_left _ (by omega)
    omega
  unfold nval
  rw [if_neg (by omega)]
  have h1 : k + 1 ≤ r / f.binade := (Nat.le_div_iff_mul_le hB).2 h
  obtain ⟨d, hd⟩ : ∃ d, r / f.binade - 1 = d + k := ⟨r / f.binade - 1 - k, by omega⟩
  rw [hd, Nat.pow_add]
  exact ⟨(f.binade + r % f.binade) * 2 ^ d, by rw [Nat.mul_assoc]⟩
theorem nval_head (f : Format) (k : Nat) : nval f ((k + 1) * f.binade) = f.binade * 2 ^ k := by
  have := nval_rung f k f.binade (.inr (Nat.le_refl _)) (by omega)
  rw [← this]; congr 1; rw [Nat.add_mul]; omega
/-- between a number and one that a bit stands for no threshold lies -/
theorem sticky_mid (f : Format) (hF : 1 ≤ f.fractionBits) (dq : Nat) (hd : 2 ^ (f.fractionBits + 1) ≤ dq) (P : Int) {Q : Rat} {r : Nat}
    (hm : Mid f (((2 * dq + 1 : Nat) : Rat) * (2 : Rat) ^ P) r) (q1 : ((2 * dq : Nat) : Rat) * (2 : Rat) ^ P < Q) (q2 : Q < ((2 * dq + 2 : Nat) : Rat) * (2 : Rat) ^ P) : Mid f Q r := by
  have hB := binade_pos f
  have hc := pw_pos P
  have e4 : (2 : Rat) ^ (P + 2) = 4 * (2 : Rat) ^ P := by
    have : (2 : Rat) ^ (2 : Int) = 4 := by decide +kernel
    rw [pw_add, this]; grind
  rw [Rat.natCast_add, Rat.natCast_mul] at hm q2
  rw [Rat.natCast_mul] at q1
  have c2 : ((2 : Nat) : Rat) = 2 := rfl
  have c1 : ((1 : Nat) : Rat) = 1 := rfl
  rw [c2] at hm q1 q2
  rw [c1] at hm
  -- a multiple of four units
  have low : ∀ b : Nat, (b : Rat) * (2 : Rat) ^ (P + 2) ≤ 2 * ((2 * (dq : Rat) + 1) * (2 : Rat) ^ P) → (b : Rat) * (2 : Rat) ^ (P + 2) < 2 * Q := by
    intro b hb
    rw [e4] at hb ⊢
    have h1 : 4 * (b : Rat) ≤ 4 * (dq : Rat) + 2 := by apply Rat.le_of_mul_le_mul_right _ hc; grind
    have h2 : b ≤ dq := by
      have : ((4 * b : Nat) : Rat) < ((4 * dq + 3 : Nat) : Rat) := by
        rw [Rat.natCast_mul, Rat.natCast_add, Rat.natCast_mul]
        have c4 : ((4 : Nat) : Rat) = 4 := rfl
        have c3 : ((3 : Nat) : Rat) = 3 := rfl
        rw [c4, c3]; grind
      have := Rat.natCast_lt_natCast.1 this
      omega
    have h3 := Rat.mul_le_mul_of_nonneg_right (nat_rat_le h2) (Rat.le_of_lt hc)
    grind
  have high : ∀ b : Nat, 2 * ((2 * (dq : Rat) + 1) * (2 : Rat) ^ P) ≤ (b : Rat) * (2 : Rat) ^ (P + 2) → 2 * Q < (b : Rat) * (2 : Rat) ^ (P + 2) := by
    intro b hb
    rw [e4] at hb ⊢
    have h1 : 4 * (dq : Rat) + 2 ≤ 4 * (b : Rat) := by apply Rat.le_of_mul_le_mul_right _ hc; grind
    have h2 : dq + 1 ≤ b := by
      have : ((4 * dq + 1 : Nat) : Rat) < ((4 * b : Nat) : Rat) := by
        rw [Rat.natCast_mul, Rat.natCast_add, Rat.natCast_mul]
        have c4 : ((4 : Nat) : Rat) = 4 := rfl
        rw [c4, c1]; grind
      have := Rat.natCast_lt_natCast.1 this
      omega
    have h3 := Rat.mul_le_mul_of_nonneg_right (nat_rat_le h2) (Rat.le_of_lt hc)
    rw [Rat.natCast_add, c1] at h3
    grind
  by_cases hk : P + 2 ≤ 0
  · -- fine units: every threshold is such a multiple
    obtain ⟨k, hkk⟩ : ∃ k : Nat, P + 2 = -(k : Int) := ⟨(-(P + 2)).toNat, by omega⟩
    have mult : ∀ N : Nat, (N : Rat) = ((N * 2 ^ k : Nat) : Rat) * (2 : Rat) ^ (P + 2) := by
      intro N
      rw [hkk, Rat.natCast_mul, ← pw_nat, Rat.mul_assoc, pw_cancel]; grind
    refine ⟨hm.le, ?_, ?_⟩
    · rcases hm.low with h | ⟨h1, h2⟩
      · exact .inl h
      · right
        have := low ((nval f (r - 1) + nval f r) * 2 ^ k) (by rw [← mult, Rat.natCast_add]; exact h1)
        rw [← mult, Rat.natCast_add] at this
        exact ⟨Rat.le_of_lt this, fun _ => this⟩
    · rcases hm.high with h | ⟨h1, h2⟩
      · exact .inl h
      · right
        have := high ((nval f r + nval f (r + 1)) * 2 ^ k) (by rw [← mult, Rat.natCast_add]; exact h1)
        rw [← mult, Rat.natCast_add] at this
        exact ⟨Rat.le_of_lt this, fun _ => this⟩
  · obtain ⟨k, hkk⟩ : ∃ k : Nat, P + 2 = (k : Int) := ⟨(P + 2).toNat, by omega⟩
    rw [hkk] at e4 low high
    -- the number is great
    have hbig : ((f.binade * 2 ^ k : Nat) : Rat) ≤ (2 * (dq : Rat) + 1) * (2 : Rat) ^ P := by
      have h1 : (f.binade * 2 : Nat) ≤ dq := by
        have : 2 ^ (f.fractionBits + 1) = f.binade * 2 := by rw [Nat.pow_succ]; rfl
        omega
      have h2 := Rat.mul_le_mul_of_nonneg_right (nat_rat_le h1) (Rat.le_of_lt hc)
      rw [Rat.natCast_mul, ← pw_nat, e4]
      rw [Rat.natCast_mul, c2] at h2
      grind
    have hdq : ((f.binade * 2 ^ k : Nat) : Rat) * 2 < 2 * Q := by
      have h1 : (f.binade * 2 : Nat) ≤ dq := by
        have : 2 ^ (f.fractionBits + 1) = f.binade * 2 := by rw [Nat.pow_succ]; rfl
        omega
      have h2 := Rat.mul_le_mul_of_nonneg_right (nat_rat_le h1) (Rat.le_of_lt hc)
      rw [Rat.natCast_mul, ← pw_nat, e4]
      rw [Rat.natCast_mul, c2] at h2
      grind
    have hrk : (k + 1) * f.binade ≤ f.infRung → (k + 1) * f.binade ≤ r := by
      intro hle
      exact (Mid.exact hle).mono hm (by rw [nval_head]; exact hbig)
    refine ⟨hm.le, ?_, ?_⟩
    · rcases hm.low with h | ⟨h1, h2⟩
      · exact .inl h
      · right
        have key : (nval f (r - 1) : Rat) + nval f r < 2 * Q := by
          rcases Nat.lt_or_ge ((k + 1) * f.binade) r with h3 | h3
          · obtain ⟨b1, e1⟩ := nval_dvd f (k := k) (r := r - 1) (by omega)
            obtain ⟨b2, e2⟩ := nval_dvd f (k := k) (r := r) (by omega)
            have e : (nval f (r - 1) : Rat) + nval f r = ((b1 + b2 : Nat) : Rat) * (2 : Rat) ^ (k : Int) := by
              rw [e1, e2, Rat.natCast_mul, Rat.natCast_mul, ← pw_nat, Rat.natCast_add]; grind
            rw [e]; apply low; rw [← e]; exact h1
          · have a1 : (nval f (r - 1) : Rat) ≤ ((f.binade * 2 ^ k : Nat) : Rat) := by rw [← nval_head]; exact nat_rat_le (nval_le (by omega))
            have a2 : (nval f r : Rat) ≤ ((f.binade * 2 ^ k : Nat) : Rat) := by rw [← nval_head]; exact nat_rat_le (nval_le h3)
            grind
        exact ⟨Rat.le_of_lt key, fun _ => key⟩
    · rcases hm.high with h | ⟨h1, h2⟩
      · exact .inl h
      · rcases Nat.lt_or_ge f.infRung ((k + 1) * f.binade) with h3 | h3
        · left
          refine Nat.le_antisymm hm.le ((Mid.exact (Nat.le_refl _)).mono hm ?_)
          have : (nval f f.infRung : Rat) ≤ ((f.binade * 2 ^ k : Nat) : Rat) := by rw [← nval_head]; exact nat_rat_le (nval_le (by omega))
          grind
        · right
          have hr := hrk h3
          obtain ⟨b1, e1⟩ := nval_dvd f (k := k) (r := r) hr
          obtain ⟨b2, e2⟩ := nval_dvd f (k := k) (r := r + 1) (by omega)
          have e : (nval f r : Rat) + nval f (r + 1) = ((b1 + b2 : Nat) : Rat) * (2 : Rat) ^ (k : Int) := by
            rw [e1, e2, Rat.natCast_mul, Rat.natCast_mul, ← pw_nat, Rat.natCast_add]; grind
          have key : 2 * Q < (nval f r : Rat) + nval f (r + 1) := by
            rw [e]; apply high; rw [← e]; exact h1
          exact ⟨Rat.le_of_lt key, fun _ => key⟩
theorem sg_xor (s t : Bool) : sg (s ^^ t) = sg s * sg t := by cases s <;> cases t <;> decide +kernel
theorem sg_sq (s : Bool) : sg s * sg s = 1 := by cases s <;> decide +kernel
/-- a quotient -/
theorem quo_near (f : Format) (hF : 1 ≤ f.fractionBits) (s t : Bool) (m n : Nat) (i j : Int) (hn : n ≠ 0) :
    ∃ d, (Datum.number s m i).quotient (f.fractionBits + 2) (.number t n j) = some d ∧ Near f (num s m i / num t n j) (f.write d) := by
  unfold Datum.quotient
  simp only [if_neg hn]
  refine ⟨_, rfl, ?_⟩
  simp only [Format.write]
  obtain ⟨more, hmore⟩ : ∃ more, more = f.fractionBits + 2 + n.log2 - m.log2 := ⟨_, rfl⟩
  rw [← hmore, Nat.shiftLeft_eq]
  obtain ⟨dv, hdv⟩ : ∃ dv, dv = m * 2 ^ more := ⟨_, rfl⟩
  rw [← hdv]
  have hn0 : 0 < n := Nat.pos_of_ne_zero hn
  have hnr : (0 : Rat) < n := by have := nat_rat_lt hn0; simpa using this
  obtain ⟨P, hP⟩ : ∃ P : Int, P = i - j - more - 1 := ⟨_, rfl⟩
  rw [← hP]
  -- the quotient's value
  obtain ⟨A, hA⟩ : ∃ A : Rat, A = 2 * ((dv : Rat) / n) * (2 : Rat) ^ P := ⟨_, rfl⟩
  have hA0 : 0 ≤ A := by
    rw [hA]
    refine Rat.mul_nonneg (Rat.mul_nonneg (by decide) ?_) (Rat.le_of_lt (pw_pos _))
    rw [Rat.div_def]
    exact Rat.mul_nonneg Rat.natCast_nonneg (Rat.le_of_lt (Rat.inv_pos.2 hnr))
  have hval : num s m i / num t n j = sg (s ^^ t) * A := by
    have h1 : num t n j ≠ 0 := by
      have := pw_pos j
      unfold num sg
      cases t
      · simp only [Bool.false_eq_true, if_false]; have := Rat.mul_pos hnr this; grind
      · simp only [if_true]; have := Rat.mul_pos hnr this; grind
    have h2 : num s m i = sg (s ^^ t) * A * num t n j := by
      rw [hA, hdv, sg_xor, Rat.natCast_mul, ← pw_nat]
      unfold num
      have e1 : (2 : Rat) ^ i = 2 * (2 : Rat) ^ (more : Int) * (2 : Rat) ^ P * (2 : Rat) ^ j := by
        have e21 : (2 : Rat) ^ (1 : Int) = 2 := by decide +kernel
        have e22 : (2 : Rat) ^ i = (2 : Rat) ^ (1 : Int) * (2 : Rat) ^ (more : Int) * (2 : Rat) ^ P * (2 : Rat) ^ j := by rw [← pw_add, ← pw_add, ← pw_add]; congr 1; omega
        rw [e21] at e22; exact e22
      have e2 : ((m : Rat) * (2 : Rat) ^ (more : Int)) / n * n = (m : Rat) * (2 : Rat) ^ (more : Int) := Rat.div_mul_cancel (by grind)
      have e3 := sg_sq t
      rw [e1]
      generalize ((m : Rat) * (2 : Rat) ^ (more : Int)) / n = z at *
      generalize (2 : Rat) ^ (more : Int) = a at *
      grind
    rw [h2, Rat.mul_div_cancel h1]
  rw [hval]
  have hsgn : ∀ {w : Nat} {r : Nat}, w = f.word (s ^^ t) r → Mid f (A * (2 : Rat) ^ (-f.leastPlace)) r → Near f (sg (s ^^ t) * A) w := by
    intro w r h1 h2
    refine ⟨s ^^ t, r, h1, by rw [sg_abs _ hA0]; exact h2, ?_, ?_⟩
    · intro h
      unfold sg at h
      cases hs : (s ^^ t)
      · rw [hs] at h; simp only [Bool.false_eq_true, if_false] at h; grind
      · rfl
    · intro h
      unfold sg at h
      cases hs : (s ^^ t)
      · rfl
      · rw [hs] at h; simp only [if_true] at h; grind
  obtain ⟨r, h1, h2⟩ := near_mid f hF (s ^^ t) (2 * (dv / n) + (dv % n != 0).toNat) P
  refine hsgn h1 ?_
  have eP : (2 : Rat) ^ (P - f.leastPlace) = (2 : Rat) ^ P * (2 : Rat) ^ (-f.leastPlace) := by rw [← pw_add]; congr 1
  have hdm := Nat.div_add_mod dv n
  have hml := Nat.mod_lt dv hn0
  have hdvr : (dv : Rat) / n * n = dv := Rat.div_mul_cancel (by grind)
  by_cases hrem : dv % n = 0
  · have e0 : (dv % n != 0).toNat = 0 := by rw [hrem]; rfl
    rw [e0, Nat.add_zero] at h2
    have e1 : (dv : Rat) / n = ((dv / n : Nat) : Rat) := by
      have : ((n * (dv / n) : Nat) : Rat) = dv := by congr 1; omega
      rw [Rat.natCast_mul] at this
      rw [← this, Rat.mul_comm, Rat.mul_div_cancel (by grind)]
    have e2 : A * (2 : Rat) ^ (-f.leastPlace) = ((2 * (dv / n) : Nat) : Rat) * (2 : Rat) ^ (P - f.leastPlace) := by
      rw [hA, e1, eP, Rat.natCast_mul]; have c2 : ((2 : Nat) : Rat) = 2 := rfl
      rw [c2]; grind
    rw [e2]; exact h2
  · have e0 : (dv % n != 0).toNat = 1 := by simp [hrem]
    rw [e0] at h2
    have hm0 : m ≠ 0 := by intro h; subst h; rw [hdv] at hrem; simp at hrem
    refine sticky_mid f hF (dv / n) ?_ (P - f.leastPlace) h2 ?_ ?_
    · rw [Nat.le_div_iff_mul_le hn0]
      have a1 : n < 2 ^ (n.log2 + 1) := Nat.lt_log2_self
      have a2 : 2 ^ m.log2 ≤ m := Nat.log2_self_le hm0
      have a3 : 2 ^ (f.fractionBits + 1) * n ≤ 2 ^ (f.fractionBits + 1) * 2 ^ (n.log2 + 1) := Nat.mul_le_mul_left _ (Nat.le_of_lt a1)
      rw [← Nat.pow_add] at a3
      have a4 : 2 ^ (m.log2 + more) ≤ dv := by rw [hdv, Nat.pow_add]; exact Nat.mul_le_mul_right _ a2
      have a5 : 2 ^ (f.fractionBits + 1 + (n.log2 + 1)) ≤ 2 ^ (m.log2 + more) := Nat.pow_le_pow_right (by decide) (by omega)
      omega
    · rw [hA, eP, Rat.natCast_mul]
      have c2 : ((2 : Nat) : Rat) = 2 := rfl
      rw [c2]
      have b1 : ((dv / n : Nat) : Rat) < (dv : Rat) / n := by
        rw [← Rat.not_le]; intro h
        have := Rat.mul_le_mul_of_nonneg_right h (Rat.le_of_lt hnr)
        rw [hdvr] at this
        have b2 : ((n * (dv / n) + 1 : Nat) : Rat) ≤ dv := nat_rat_le (by omega)
        rw [Rat.natCast_add, Rat.natCast_mul] at b2
        have c1 : ((1 : Nat) : Rat) = 1 := rfl
        rw [c1] at b2; grind
      have hc := Rat.mul_pos (pw_pos P) (pw_pos (-f.leastPlace))
      have := Rat.mul_lt_mul_of_pos_right b1 hc
      grind
    · rw [hA, eP, Rat.natCast_add, Rat.natCast_mul]
      have c2 : ((2 : Nat) : Rat) = 2 := rfl
      rw [c2]
      have b1 : (dv : Rat) / n < ((dv / n : Nat) : Rat) + 1 := by
        rw [← Rat.not_le]; intro h
        have := Rat.mul_le_mul_of_nonneg_right h (Rat.le_of_lt hnr)
        rw [hdvr] at this
        have b2 : (dv : Rat) < ((n * (dv / n) + n : Nat) : Rat) := nat_rat_lt (by omega)
        rw [Rat.natCast_add, Rat.natCast_mul] at b2
        grind
      have hc := Rat.mul_pos (pw_pos P) (pw_pos (-f.leastPlace))
      have := Rat.mul_lt_mul_of_pos_right b1 hc
      grind
end Go.Proofs.Ytnhikdjljjemlaa
/- Plain laws of floats as rational numbers: the operations on words; errors. No condition. -/
namespace Go.Proofs.Ytnhikdjljjemlaa
open Go Go.RowKit Ieee
set_option linter.unusedVariables false
set_option linter.unusedSimpArgs false
theorem Fin.read {f : Format} {w : Nat} (h : Fin f w) : ∃ s m p, f.read w = .number s m p ∧ val f w = num s m p := by
  obtain ⟨s, r, rfl, hr⟩ := h
  obtain ⟨m, p, h1, _⟩ := read_num f s hr
  exact ⟨s, m, p, h1, by unfold val; rw [h1]; rfl⟩
theorem one_frac (k : FloatKind) : 1 ≤ k.format.fractionBits := by cases k <;> decide
theorem inf_lt (k : FloatKind) : k.format.infRung < k.format.signWeight := by cases k <;> decide +kernel
theorem Near.write {k : FloatKind} {s : Bool} {m : Nat} {p : Int} {q : Rat} (h : num s m p = q) : Near k.format q (k.format.write (.number s m p)) := by
  rw [← h]; exact near_num k.format (one_frac k) s m p
theorem num_neg (s : Bool) (m : Nat) (p : Int) : num (!s) m p = -num s m p := by
  unfold num sg; cases s <;> simp <;> grind
theorem sum_num (s t : Bool) (m n : Nat) (i j : Int) : ∃ u M P, (Datum.number s m i).sum (.number t n j) = some (.number u M P) ∧ num u M P = num s m i + num t n j := by
  refine ⟨_, _, _, rfl, ?_⟩
  obtain ⟨b, hb⟩ : ∃ b, b = min i j := ⟨_, rfl⟩
  rw [← hb]
  have e1 := num_base (s := s) (m := m) (show b ≤ i by omega)
  have e2 := num_base (s := t) (m := n) (show b ≤ j by omega)
  rw [e1, e2]
  generalize signed s m (i - b).toNat = A
  generalize signed t n (j - b).toNat = B
  have hs : ((A : Rat)) * (2 : Rat) ^ b + (B : Rat) * (2 : Rat) ^ b = ((A + B : Int) : Rat) * (2 : Rat) ^ b := by rw [Rat.intCast_add]; grind
  rw [hs]
  generalize A + B = T
  unfold num sg
  by_cases h0 : T = 0
  · subst h0
    simp
  · rw [if_neg h0]
    have hT : (((if (decide (T < 0)) = true then (-1 : Rat) else 1)) * (T.natAbs : Rat)) = (T : Rat) := by
      by_cases h1 : T < 0
      · have : T = -(T.natAbs : Int) := by omega
        conv => rhs; rw [this]
        rw [Rat.intCast_neg, Rat.intCast_natCast]
        simp [h1]; grind
      · have : T = (T.natAbs : Int) := by omega
        conv => rhs; rw [this]
        rw [Rat.intCast_natCast]
        simp [h1]
    rw [hT]
theorem add_near {k : FloatKind} {x y : Nat} (hx : Fin k.format x) (hy : Fin k.format y) : ∃ r, floatBits .add k x y = some r ∧ Near k.format (val k.format x + val k.format y) r := by
  obtain ⟨s, m, p, h1, h2⟩ := hx.read
  obtain ⟨t, n, q, h3, h4⟩ := hy.read
  obtain ⟨u, M, P, h5, h6⟩ := sum_num s t m n p q
  refine ⟨k.format.write (.number u M P), ?_, Near.write (by rw [h6, h2, h4])⟩
  show ((k.format.read x).sum (k.format.read y)).map k.format.write = _
  rw [h1, h3, h5]; rfl
theorem sub_near {k : FloatKind} {x y : Nat} (hx : Fin k.format x) (hy : Fin k.format y) : ∃ r, floatBits .sub k x y = some r ∧ Near k.format (val k.format x - val k.format y) r := by
  obtain ⟨s, m, p, h1, h2⟩ := hx.read
  obtain ⟨t, n, q, h3, h4⟩ := hy.read
  obtain ⟨u, M, P, h5, h6⟩ := sum_num s (!t) m n p q
  refine ⟨k.format.write (.number u M P), ?_, Near.write (by rw [h6, h2, h4, num_neg]; grind)⟩
  show ((k.format.read x).sum (k.format.read y).opposite).map k.format.write = _
  rw [h1, h3]
  show ((Datum.number s m p).sum (.number (!t) n q)).map _ = _
  rw [h5]; rfl
theorem mul_near {k : FloatKind} {x y : Nat} (hx : Fin k.format x) (hy : Fin k.format y) : ∃ r, floatBits .mul k x y = some r ∧ Near k.format (val k.format x * val k.format y) r := by
  obtain ⟨s, m, p, h1, h2⟩ := hx.read
  obtain ⟨t, n, q, h3, h4⟩ := hy.read
  refine ⟨k.format.write (.number (s ^^ t) (m * n) (p + q)), ?_, Near.write ?_⟩
  · show ((k.format.read x).product (k.format.read y)).map k.format.write = _
    rw [h1, h3]; rfl
  · rw [h2, h4]
    unfold num
    rw [sg_xor, Rat.natCast_mul, pw_add]; grind
theorem num_ne {t : Bool} {n : Nat} {q : Int} (h : num t n q ≠ 0) : n ≠ 0 := by
  intro e; subst e; apply h; unfold num
  have : ((0 : Nat) : Rat) = 0 := rfl
  rw [this]; grind
theorem quo_nearW {k : FloatKind} {x y : Nat} (hx : Fin k.format x) (hy : Fin k.format y) (h0 : val k.format y ≠ 0) : ∃ r, floatBits .quo k x y = some r ∧ Near k.format (val k.format x / val k.format y) r := by
  obtain ⟨s, m, p, h1, h2⟩ := hx.read
  obtain ⟨t, n, q, h3, h4⟩ := hy.read
  rw [h4] at h0
  obtain ⟨d, h5, h6⟩ := quo_near k.format (one_frac k) s t m n p q (num_ne h0)
  refine ⟨k.format.write d, ?_, by rw [h2, h4]; exact h6⟩
  show ((k.format.read x).quotient (k.format.fractionBits + 2) (k.format.read y)).map k.format.write = _
  rw [h1, h3, h5]; rfl
theorem int_near (k : FloatKind) (n : Int) : Near k.format (n : Rat) (floatOfInt k n) := by
  have : num (decide (n < 0)) n.natAbs 0 = (n : Rat) := by
    unfold num sg
    rw [pw_zero, Rat.mul_one]
    by_cases h1 : n < 0
    · have e : n = -(n.natAbs : Int) := by omega
      conv => rhs; rw [e]
      rw [Rat.intCast_neg, Rat.intCast_natCast]
      simp [h1]; grind
    · have e : n = (n.natAbs : Int) := by omega
      conv => rhs; rw [e]
      rw [Rat.intCast_natCast]
      simp [h1]
  exact Near.write (k := k) this
theorem Near.fin {f : Format} {q : Rat} {w R : Nat} (h : Near f q w) (hR : R < f.infRung) (hq : rabs q * (2 : Rat) ^ (-f.leastPlace) ≤ nval f R) : Fin f w := by
  obtain ⟨s, r, rfl, hm, _⟩ := h
  exact ⟨s, r, rfl, by have := hm.mono (Mid.exact (Nat.le_of_lt hR)) hq; omega⟩
theorem narrow_near {x : Nat} (hx : Fin double x) : Near single (val double x) (fcv .f64 x .f32) := by
  obtain ⟨s, m, p, h1, h2⟩ := hx.read
  rw [h2]
  unfold fcv
  rw [if_neg (by decide), show FloatKind.f64.decode x = .number s m p from h1]
  exact near_num single (by decide) s m p
set_option exponentiation.threshold 2000 in
theorem wide_val {x : Nat} (hx : Fin single x) : Fin double (fcv .f32 x .f64) ∧ val double (fcv .f32 x .f64) = val single x := by
  obtain ⟨s, r, rfl, hr⟩ := hx
  obtain ⟨q, h1, h2, h3⟩ := wide_fin s hr
  have hn : isN .f32 (single.word s r) = false := read_word_le single s (by omega)
  have e := cn_wide (single.word s r) (default : World)
  rw [cn_not hn, h2, cn_not (show isN .f64 (double.word s q) = false from read_word_le double s (by omega))] at e
  rw [← e]
  refine ⟨⟨s, q, rfl, h1⟩, ?_⟩
  rw [val_word double s h1, val_word single s hr, h3, s_lp, d_lp, Rat.natCast_mul, ← pw_nat]
  have : (2 : Rat) ^ (-149 : Int) = (2 : Rat) ^ ((925 : Nat) : Int) * (2 : Rat) ^ (-1074 : Int) := by rw [← pw_add]; congr 1
  rw [this]; grind
theorem Fin.not {k : FloatKind} {x : Nat} (h : Fin k.format x) : isN k x = false := by
  obtain ⟨s, r, rfl, hr⟩ := h; exact read_word_le k.format s (Nat.le_of_lt hr)
theorem order_val {k : FloatKind} {x y : Nat} (hx : Fin k.format x) (hy : Fin k.format y) :
    (k.format.order x y = some .lt ↔ val k.format x < val k.format y) ∧ (k.format.order x y = some .gt ↔ val k.format y < val k.format x) ∧ (k.format.order x y = some .eq ↔ val k.format x = val k.format y) := by
  obtain ⟨s, m, p, h1, h2⟩ := hx.read
  obtain ⟨t, n, q, h3, h4⟩ := hy.read
  rw [h2, h4]
  unfold Format.order
  rw [h1, h3]
  exact order_num s t m n p q
/-- the gap behind a rung -/
theorem nval_gap (f : Format) (r : Nat) : nval f (r + 1) = nval f r + 1 ∨ ∃ g, nval f (r + 1) = nval f r + g ∧ f.binade * g ≤ nval f r := by
  have hB := binade_pos f
  rcases Nat.lt_or_ge r f.binade with h | h
  · left
    have e1 : nval f r = r := by unfold nval; rw [if_pos h]
    have e2 : nval f (r + 1) = r + 1 := by
      have := nval_rung f 0 (r + 1) (.inl rfl) (by omega)
      simpa using this
    rw [e1, e2]
  · right
    obtain ⟨e, he⟩ : ∃ e, r / f.binade = e + 1 := ⟨r / f.binade - 1, by have := (Nat.le_div_iff_mul_le hB).2 (show 1 * f.binade ≤ r by omega); omega⟩
    have hd := Nat.div_add_mod r f.binade
    have hm := Nat.mod_lt r hB
    have er : r = e * f.binade + (f.binade + r % f.binade) := by
      rw [he] at hd
      rw [Nat.mul_add, Nat.mul_one, Nat.mul_comm] at hd
      omega
    refine ⟨2 ^ e, ?_, ?_⟩
    · rw [er]
      rw [show e * f.binade + (f.binade + r % f.binade) + 1 = e * f.binade + (f.binade + r % f.binade + 1) by omega]
      rw [nval_rung f e _ (.inr (by omega)) (by omega), nval_rung f e _ (.inr (by omega)) (by omega), Nat.add_mul (f.binade + r % f.binade) 1]
      omega
    · rw [er, nval_rung f e _ (.inr (by omega)) (by omega)]
      exact Nat.mul_le_mul_right _ (by omega)
theorem Mid.err {f : Format} {V : Rat} {r : Nat} (h : Mid f V r) (hr : r < f.infRung) (hV : 0 ≤ V) : 2 * (f.binade : Rat) * ((nval f r : Rat) - V) ≤ V + f.binade ∧ 2 * (f.binade : Rat) * (V - nval f r) ≤ V + f.binade := by
  have hB : (0 : Rat) < f.binade := by have := nat_rat_lt (binade_pos f); simpa using this
  have gapR : ∀ q, ((nval f (q + 1) : Rat) - nval f q) * f.binade ≤ (nval f q : Rat) + f.binade := by
    intro q
    have h0 : (0 : Rat) ≤ nval f q := Rat.natCast_nonneg
    rcases nval_gap f q with h1 | ⟨g, h1, h2⟩
    · rw [h1, Rat.natCast_add]
      have : ((1 : Nat) : Rat) = 1 := rfl
      rw [this]; grind
    · rw [h1, Rat.natCast_add]
      have := nat_rat_le h2
      rw [Rat.natCast_mul] at this
      grind
  constructor
  · rcases h.low with h0 | ⟨h1, _⟩
    · subst h0
      rw [nval_zero]
      have : ((0 : Nat) : Rat) = 0 := rfl
      rw [this]
      have := Rat.mul_nonneg (Rat.le_of_lt hB) hV
      grind
    · have hr0 : 1 ≤ r ∨ r = 0 := by omega
      rcases hr0 with h2 | h2
      · have g := gapR (r - 1)
        rw [Nat.sub_add_cancel h2] at g
        have m := nat_rat_le (nval_le (f := f) (show r - 1 ≤ r by omega))
        have a : (nval f (r - 1) : Rat) ≤ V := by grind
        have b := Rat.mul_le_mul_of_nonneg_left h1 (Rat.le_of_lt hB)
        grind
      · subst h2
        rw [nval_zero]
        have : ((0 : Nat) : Rat) = 0 := rfl
        rw [this]
        have := Rat.mul_nonneg (Rat.le_of_lt hB) hV
        grind
  · obtain ⟨h1, _⟩ := h.high.resolve_left (by omega)
    have g := gapR r
    have b := Rat.mul_le_mul_of_nonneg_left h1 (Rat.le_of_lt hB)
    rcases rat_tri V (nval f r) with h2 | h2 | h2
    · have c : (f.binade : Rat) * (V - nval f r) ≤ 0 := by
        have := Rat.mul_le_mul_of_nonneg_left (Rat.le_of_lt h2) (Rat.le_of_lt hB)
        grind
      grind
    · rw [← h2]; grind
    · grind
end Go.Proofs.Ytnhikdjljjemlaa
/- Plain laws of floats: numbers with few digits are written as they are. No condition. -/
namespace Go.Proofs.Ytnhikdjljjemlaa
open Go Ieee
set_option linter.unusedVariables false
theorem log2_bounds {m : Nat} (hm : m ≠ 0) : 2 ^ m.log2 ≤ m ∧ m < 2 ^ (m.log2 + 1) := ⟨Nat.log2_self_le hm, Nat.lt_log2_self⟩
/-- the rung of a number with few digits -/
theorem digits_rung (f : Format) {m d : Nat} (hm : m ≠ 0) (hb : m < 2 * f.binade) (hd : (d + 2) * f.binade ≤ f.infRung) : ∃ r, r < f.infRung ∧ nval f r = m * 2 ^ d := by
  have hB := binade_pos f
  have hfb : f.binade = 2 ^ f.fractionBits := rfl
  obtain ⟨l1, l2⟩ := log2_bounds hm
  have hL : m.log2 ≤ f.fractionBits := by
    have h1 : 2 ^ m.log2 < 2 ^ (f.fractionBits + 1) := by rw [Nat.pow_succ, ← hfb]; omega
    have := (Nat.pow_lt_pow_iff_right (by decide : 1 < 2)).1 h1
    omega
  by_cases hc : d ≤ f.fractionBits - m.log2
  · refine ⟨0 * f.binade + m * 2 ^ d, ?_, ?_⟩
    · have h1 : m * 2 ^ d < 2 ^ (m.log2 + 1) * 2 ^ d := Nat.mul_lt_mul_of_pos_right l2 (Nat.two_pow_pos _)
      have h2 : 2 ^ (m.log2 + 1) * 2 ^ d ≤ 2 ^ (f.fractionBits + 1) := by rw [← Nat.pow_add]; exact Nat.pow_le_pow_right (by decide) (by omega)
      have h3 : 2 ^ (f.fractionBits + 1) = 2 * f.binade := by rw [Nat.pow_succ, hfb]; omega
      have h4 : 2 * f.binade ≤ (d + 2) * f.binade := Nat.mul_le_mul_right _ (by omega)
      omega
    · rw [nval_rung f 0 (m * 2 ^ d) (.inl rfl) ?_]
      · simp
      · have h1 : m * 2 ^ d < 2 ^ (m.log2 + 1) * 2 ^ d := Nat.mul_lt_mul_of_pos_right l2 (Nat.two_pow_pos _)
        have h2 : 2 ^ (m.log2 + 1) * 2 ^ d ≤ 2 ^ (f.fractionBits + 1) := by rw [← Nat.pow_add]; exact Nat.pow_le_pow_right (by decide) (by omega)
        have h3 : 2 ^ (f.fractionBits + 1) = 2 * f.binade := by rw [Nat.pow_succ, hfb]; omega
        omega
  · obtain ⟨e, he⟩ : ∃ e, d = e + (f.fractionBits - m.log2) := ⟨d - (f.fractionBits - m.log2), by omega⟩
    obtain ⟨k, hk⟩ : ∃ k, k = m * 2 ^ (f.fractionBits - m.log2) := ⟨_, rfl⟩
    have k1 : f.binade ≤ k := by
      rw [hk, hfb]
      have h1 : 2 ^ m.log2 * 2 ^ (f.fractionBits - m.log2) ≤ m * 2 ^ (f.fractionBits - m.log2) := Nat.mul_le_mul_right _ l1
      rw [← Nat.pow_add, show m.log2 + (f.fractionBits - m.log2) = f.fractionBits by omega] at h1
      exact h1
    have k2 : k < 2 * f.binade := by
      rw [hk]
      have h1 : m * 2 ^ (f.fractionBits - m.log2) < 2 ^ (m.log2 + 1) * 2 ^ (f.fractionBits - m.log2) := Nat.mul_lt_mul_of_pos_right l2 (Nat.two_pow_pos _)
      rw [← Nat.pow_add, show m.log2 + 1 + (f.fractionBits - m.log2) = f.fractionBits + 1 by omega, Nat.pow_succ, ← hfb] at h1
      omega
    refine ⟨e * f.binade + k, ?_, ?_⟩
    · have h1 : (e + 2) * f.binade ≤ (d + 2) * f.binade := Nat.mul_le_mul_right _ (by omega)
      have h2 : (e + 2) * f.binade = e * f.binade + 2 * f.binade := Nat.add_mul _ _ _
      omega
    · rw [nval_rung f e k (.inr k1) (by omega), hk, he, Nat.pow_add, Nat.mul_assoc, Nat.mul_comm (2 ^ (f.fractionBits - m.log2))]
/-- a number with few digits has a word -/
theorem exact_num (f : Format) (s : Bool) (m : Nat) (p : Int) (hb : m < 2 * f.binade) (h1 : f.leastPlace ≤ p) (h2 : ((p - f.leastPlace).toNat + 2) * f.binade ≤ f.infRung) : ∃ w, Fin f w ∧ val f w = num s m p := by
  by_cases hm : m = 0
  · subst hm
    have h3 : 0 < f.infRung := by have := binade_pos f; have : 2 * f.binade ≤ ((p - f.leastPlace).toNat + 2) * f.binade := Nat.mul_le_mul_right _ (by omega); omega
    refine ⟨f.word s 0, ⟨s, 0, rfl, h3⟩, ?_⟩
    rw [val_word f s h3, nval_zero]
    unfold num
    grind
  · obtain ⟨r, hr, hv⟩ := digits_rung f hm hb h2
    refine ⟨f.word s r, ⟨s, r, rfl, hr⟩, ?_⟩
    rw [val_word f s hr, hv]
    unfold num
    rw [Rat.natCast_mul, ← pw_nat, Rat.mul_assoc, Rat.mul_assoc, ← pw_add, show (((p - f.leastPlace).toNat : Nat) : Int) + f.leastPlace = p by omega]
theorem Near.num {f : Format} {s : Bool} {m : Nat} {p : Int} {w : Nat} (h : Near f (num s m p) w) (hb : m < 2 * f.binade) (h1 : f.leastPlace ≤ p) (h2 : ((p - f.leastPlace).toNat + 2) * f.binade ≤ f.infRung) : Fin f w ∧ val f w = Go.Proofs.Ytnhikdjljjemlaa.num s m p := by
  obtain ⟨w0, e1, e2⟩ := exact_num f s m p hb h1 h2
  exact Near.val_exact e1 e2.symm h
theorem num_int (n : Int) : num (decide (n < 0)) n.natAbs 0 = (n : Rat) := by
  unfold num sg
  rw [pw_zero]
  rcases (by omega : n < 0 ∨ 0 ≤ n) with h | h
  · rw [if_pos (decide_eq_true h)]
    have : (n : Int) = -((n.natAbs : Nat) : Int) := by omega
    rw [show ((n : Int) : Rat) = ((-((n.natAbs : Nat) : Int) : Int) : Rat) by rw [← this], Rat.intCast_neg, Rat.intCast_natCast]
    grind
  · rw [if_neg (by simpa using h)]
    have : (n : Int) = ((n.natAbs : Nat) : Int) := by omega
    rw [show ((n : Int) : Rat) = ((((n.natAbs : Nat) : Int) : Int) : Rat) by rw [← this], Rat.intCast_natCast]
    grind
theorem Near.int32 {n : Int} {w : Nat} (h : Near single (n : Rat) w) (hn : n.natAbs < 16777216) : Fin single w ∧ val single w = n := by
  rw [← num_int n] at h ⊢
  exact Near.num h (by have : single.binade = 8388608 := by decide +kernel
                       omega) (by rw [s_lp]; decide) (by decide +kernel)
theorem Near.int64 {n : Int} {w : Nat} (h : Near double (n : Rat) w) (hn : n.natAbs < 9007199254740992) : Fin double w ∧ val double w = n := by
  rw [← num_int n] at h ⊢
  exact Near.num h (by have : double.binade = 4503599627370496 := by decide +kernel
                       omega) (by rw [d_lp]; decide) (by decide +kernel)
theorem int_exact32 (n : Int) (hn : n.natAbs < 16777216) : Fin single (floatOfInt .f32 n) ∧ val single (floatOfInt .f32 n) = n := Near.int32 (int_near .f32 n) hn
theorem int_exact64 (n : Int) (hn : n.natAbs < 9007199254740992) : Fin double (floatOfInt .f64 n) ∧ val double (floatOfInt .f64 n) = n := Near.int64 (int_near .f64 n) hn
/-- numbers that are equal are found equal -/
theorem eq_val {k : FloatKind} {x y : Nat} (hx : Fin k.format x) (hy : Fin k.format y) (h : val k.format x = val k.format y) : k.format.order x y = some .eq := (order_val hx hy).2.2.2 h
theorem Fin.cn {k : FloatKind} {x y : Nat} (hx : Fin k.format x) (h : cn k y = x) : y = x := by
  have h1 : isN k y = false := by
    have e := isN_cn k y
    rw [h, hx.not] at e
    exact e.symm
  rw [cn_not h1] at h
  exact h
theorem fop_some {op : BinOp} {k : FloatKind} {x y r : Nat} (h : floatBits op k x y = some r) : fop op k x y = r := by simp [fop, h]
theorem half32 : Fin single 1056964608 ∧ val single 1056964608 = 1 / 2 := ⟨⟨false, 1056964608, by decide +kernel, by decide +kernel⟩, by unfold val; decide +kernel⟩
theorem four32 : Fin single 1082130432 ∧ val single 1082130432 = 4 := ⟨⟨false, 1082130432, by decide +kernel, by decide +kernel⟩, by unfold val; decide +kernel⟩
/-- an integer that is not great, halved and multiplied by 4, is the double one -/
theorem twice_int (n : Int) (hn : n.natAbs < 1000000) : Fin single (fop .mul .f32 (fop .mul .f32 (floatOfInt .f32 n) 1056964608) 1082130432) ∧ val single (fop .mul .f32 (fop .mul .f32 (floatOfInt .f32 n) 1056964608) 1082130432) = ((2 * n : Int) : Rat) := by
  obtain ⟨f1, v1⟩ := int_exact32 n (by omega)
  obtain ⟨r, e1, n1⟩ := mul_near (k := .f32) f1 half32.1
  rw [fop_some e1]
  have e2 : val FloatKind.f32.format (floatOfInt .f32 n) * val FloatKind.f32.format 1056964608 = num (decide (n < 0)) n.natAbs (-1) := by
    show val single _ * val single _ = _
    rw [v1, half32.2, ← num_int n]
    unfold num
    rw [show (-1 : Int) = 0 + -1 by rfl, pw_add, pw_zero]
    have : (2 : Rat) ^ (-1 : Int) = 1 / 2 := by decide +kernel
    rw [this]; grind
  rw [e2] at n1
  obtain ⟨f2, v2⟩ := Near.num n1 (by show _ < 2 * single.binade; have : single.binade = 8388608 := by decide +kernel
                                     omega) (by show single.leastPlace ≤ _; rw [s_lp]; decide) (by decide +kernel)
  obtain ⟨q, e3, n2⟩ := mul_near (k := .f32) f2 four32.1
  rw [fop_some e3]
  have e4 : val FloatKind.f32.format r * val FloatKind.f32.format 1082130432 = ((2 * n : Int) : Rat) := by
    show val FloatKind.f32.format r * val single _ = _
    rw [v2, four32.2, Rat.intCast_mul, ← num_int n]
    unfold num
    rw [show (-1 : Int) = 0 + -1 by rfl, pw_add, pw_zero]
    have : (2 : Rat) ^ (-1 : Int) = 1 / 2 := by decide +kernel
    rw [this]
    have : ((2 : Int) : Rat) = 2 := rfl
    rw [this]; grind
  rw [e4] at n2
  exact Near.int32 n2 (by omega)
/-- a code with the spread 1 -/
def one32 : Nat := 1065353216
theorem code_number : ∀ j : Nat, j < 255 → fop .mul .f32 (floatOfInt .f32 ((j : Int) - 127)) one32 = floatOfInt .f32 ((j : Int) - 127) := by decide +kernel
end Go.Proofs.Ytnhikdjljjemlaa
/- Plain laws of floats: bounds of results by integers. No condition. -/
namespace Go.Proofs.Ytnhikdjljjemlaa
open Go Ieee
set_option linter.unusedVariables false
/-- a number between two integers -/
structure Btw (k : FloatKind) (a b : Int) (w : Nat) : Prop where
  fin : Fin k.format w
  lo : (a : Rat) ≤ val k.format w
  hi : val k.format w ≤ (b : Rat)
def smallI (n : Int) : Prop := n.natAbs < 16777216
theorem int_exactK (k : FloatKind) {n : Int} (h : smallI n) : Fin k.format (floatOfInt k n) ∧ val k.format (floatOfInt k n) = n := by
  unfold smallI at h
  cases k
  · exact int_exact32 n h
  · exact int_exact64 n (by omega)
theorem rabs_le {q : Rat} {c : Rat} (h1 : -c ≤ q) (h2 : q ≤ c) : rabs q ≤ c := by unfold rabs; split <;> grind
theorem near_btw {k : FloatKind} {a b : Int} {q : Rat} {w : Nat} (ha : smallI a) (hb : smallI b) (h1 : (a : Rat) ≤ q) (h2 : q ≤ (b : Rat)) (h : Near k.format q w) : Btw k a b w := by
  obtain ⟨fa, va⟩ := int_exactK k ha
  obtain ⟨fb, vb⟩ := int_exactK k hb
  have hc : smallI (max (a.natAbs : Int) b.natAbs) := by unfold smallI at *; omega
  obtain ⟨fc, vc⟩ := int_exactK k hc
  have hw : Fin k.format w := by
    obtain ⟨s, r, e, hr⟩ := fc
    refine h.fin hr ?_
    have e1 := abs_val k.format s hr
    rw [← e, vc] at e1
    have hp := pw_pos (-k.format.leastPlace)
    have hle : rabs q ≤ rabs ((max (a.natAbs : Int) b.natAbs : Int) : Rat) := by
      have h0 : (0 : Rat) ≤ ((max (a.natAbs : Int) b.natAbs : Int) : Rat) := by
        have : (0 : Int) ≤ max (a.natAbs : Int) b.natAbs := by omega
        exact_mod_cast this
      rw [rabs_pos h0]
      refine rabs_le ?_ ?_
      · have h3 : -(max (a.natAbs : Int) b.natAbs) ≤ a := by omega
        have h4 : ((-(max (a.natAbs : Int) b.natAbs) : Int) : Rat) ≤ (a : Rat) := by exact_mod_cast h3
        rw [Rat.intCast_neg] at h4
        grind
      · have h3 : b ≤ max (a.natAbs : Int) b.natAbs := by omega
        have h4 : (b : Rat) ≤ ((max (a.natAbs : Int) b.natAbs : Int) : Rat) := by exact_mod_cast h3
        grind
    have h5 : rabs q * (2 : Rat) ^ (-k.format.leastPlace) ≤ rabs ((max (a.natAbs : Int) b.natAbs : Int) : Rat) * (2 : Rat) ^ (-k.format.leastPlace) := Rat.mul_le_mul_of_nonneg_right hle (Rat.le_of_lt hp)
    rw [e1] at h5
    exact h5
  refine ⟨hw, ?_, ?_⟩
  · have := (int_near k a).mono h fa hw (inf_lt k) h1
    rwa [va] at this
  · have := h.mono (int_near k b) hw fb (inf_lt k) h2
    rwa [vb] at this
theorem Btw.mono {k : FloatKind} {a b a' b' : Int} {w : Nat} (h : Btw k a b w) (h1 : a' ≤ a) (h2 : b ≤ b') : Btw k a' b' w := by
  have e1 : (a' : Rat) ≤ (a : Rat) := by exact_mod_cast h1
  have e2 : (b : Rat) ≤ (b' : Rat) := by exact_mod_cast h2
  exact ⟨h.fin, Rat.le_trans e1 h.lo, Rat.le_trans h.hi e2⟩
theorem Btw.int {k : FloatKind} {n : Int} (h : smallI n) : Btw k n n (floatOfInt k n) := by
  obtain ⟨f, v⟩ := int_exactK k h
  exact ⟨f, by rw [v]; exact Rat.le_refl, by rw [v]; exact Rat.le_refl⟩
theorem fop_add {k : FloatKind} {x y : Nat} (hx : Fin k.format x) (hy : Fin k.format y) : Near k.format (val k.format x + val k.format y) (fop .add k x y) := by
  obtain ⟨r, e, h⟩ := add_near hx hy; rw [fop_some e]; exact h
theorem fop_sub {k : FloatKind} {x y : Nat} (hx : Fin k.format x) (hy : Fin k.format y) : Near k.format (val k.format x - val k.format y) (fop .sub k x y) := by
  obtain ⟨r, e, h⟩ := sub_near hx hy; rw [fop_some e]; exact h
theorem fop_mul {k : FloatKind} {x y : Nat} (hx : Fin k.format x) (hy : Fin k.format y) : Near k.format (val k.format x * val k.format y) (fop .mul k x y) := by
  obtain ⟨r, e, h⟩ := mul_near hx hy; rw [fop_some e]; exact h
theorem fop_quo {k : FloatKind} {x y : Nat} (hx : Fin k.format x) (hy : Fin k.format y) (h0 : val k.format y ≠ 0) : Near k.format (val k.format x / val k.format y) (fop .quo k x y) := by
  obtain ⟨r, e, h⟩ := quo_nearW hx hy h0; rw [fop_some e]; exact h
theorem Btw.add {k : FloatKind} {a b c d : Int} {x y : Nat} (hx : Btw k a b x) (hy : Btw k c d y) (h1 : smallI (a + c)) (h2 : smallI (b + d)) : Btw k (a + c) (b + d) (fop .add k x y) :=
  near_btw h1 h2 (by rw [Rat.intCast_add]; have := hx.lo; have := hy.lo; grind) (by rw [Rat.intCast_add]; have := hx.hi; have := hy.hi; grind) (fop_add hx.fin hy.fin)
theorem Btw.sub {k : FloatKind} {a b c d : Int} {x y : Nat} (hx : Btw k a b x) (hy : Btw k c d y) (h1 : smallI (a - d)) (h2 : smallI (b - c)) : Btw k (a - d) (b - c) (fop .sub k x y) :=
  near_btw h1 h2 (by rw [Rat.intCast_sub]; have := hx.lo; have := hy.hi; grind) (by rw [Rat.intCast_sub]; have := hx.hi; have := hy.lo; grind) (fop_sub hx.fin hy.fin)
/-- a product, by the bounds that are told for the true one -/
theorem Btw.mulq {k : FloatKind} {a b : Int} {x y : Nat} (hx : Fin k.format x) (hy : Fin k.format y) (ha : smallI a) (hb : smallI b) (h1 : (a : Rat) ≤ val k.format x * val k.format y) (h2 : val k.format x * val k.format y ≤ (b : Rat)) : Btw k a b (fop .mul k x y) := near_btw ha hb h1 h2 (fop_mul hx hy)
theorem Btw.quoq {k : FloatKind} {a b : Int} {x y : Nat} (hx : Fin k.format x) (hy : Fin k.format y) (h0 : val k.format y ≠ 0) (ha : smallI a) (hb : smallI b) (h1 : (a : Rat) ≤ val k.format x / val k.format y) (h2 : val k.format x / val k.format y ≤ (b : Rat)) : Btw k a b (fop .quo k x y) := near_btw ha hb h1 h2 (fop_quo hx hy h0)
theorem mul_abs {p q c d : Rat} (h1 : -c ≤ p) (h2 : p ≤ c) (h3 : -d ≤ q) (h4 : q ≤ d) (hc : 0 ≤ c) (hd : 0 ≤ d) : -(c * d) ≤ p * q ∧ p * q ≤ c * d := by
  have hr : rabs p ≤ c := rabs_le h1 h2
  have hs : rabs q ≤ d := rabs_le h3 h4
  have hm : rabs (p * q) = rabs p * rabs q := by
    unfold rabs
    rcases rat_tri p 0 with a | a | a <;> rcases rat_tri q 0 with b | b | b
    · have := Rat.mul_pos (show (0 : Rat) < -p by grind) (show (0 : Rat) < -q by grind)
      rw [if_neg (by grind), if_pos a, if_pos b]; grind
    · subst b; simp
    · have := Rat.mul_pos (show (0 : Rat) < -p by grind) b
      rw [if_pos (by grind), if_pos a, if_neg (by grind)]; grind
    · subst a; simp
    · subst a; simp
    · subst a; simp
    · have := Rat.mul_pos a (show (0 : Rat) < -q by grind)
      rw [if_pos (by grind), if_neg (by grind), if_pos b]; grind
    · subst b; simp
    · have := Rat.mul_pos a b
      rw [if_neg (by grind), if_neg (by grind), if_neg (by grind)]
  have h5 : rabs p * rabs q ≤ c * d := Rat.le_trans (Rat.mul_le_mul_of_nonneg_right hr (rabs_nonneg q)) (Rat.mul_le_mul_of_nonneg_left hs hc)
  rw [← hm] at h5
  unfold rabs at h5
  split at h5 <;> constructor <;> grind
theorem cast_abs (c : Int) (d : Int) : ((c * d : Int) : Rat) = (c : Rat) * (d : Rat) := Rat.intCast_mul c d
/-- a product of numbers whose sizes are bounded -/
theorem Btw.mul {k : FloatKind} {c d : Int} {x y : Nat} (hx : Btw k (-c) c x) (hy : Btw k (-d) d y) (hc : 0 ≤ c) (hd : 0 ≤ d) (h : smallI (c * d)) : Btw k (-(c * d)) (c * d) (fop .mul k x y) := by
  have c0 : (0 : Rat) ≤ (c : Rat) := by exact_mod_cast hc
  have d0 : (0 : Rat) ≤ (d : Rat) := by exact_mod_cast hd
  have l1 := hx.lo; have l2 := hy.lo
  rw [Rat.intCast_neg] at l1 l2
  have hm := mul_abs l1 hx.hi l2 hy.hi c0 d0
  refine Btw.mulq hx.fin hy.fin (by unfold smallI at *; omega) h ?_ ?_
  · rw [Rat.intCast_neg, cast_abs]; exact hm.1
  · rw [cast_abs]; exact hm.2
/-- a small number is not too great for 32 bits -/
theorem Btw.narrow {a b : Int} {x : Nat} (h : Btw .f64 a b x) (ha : smallI a) (hb : smallI b) : cvWide .f64 x .f32 = false ∧ Btw .f32 a b (fcv .f64 x .f32) := by
  have hn := narrow_near h.fin
  have hb2 : Btw .f32 a b (fcv .f64 x .f32) := near_btw ha hb h.lo h.hi hn
  refine ⟨?_, hb2⟩
  obtain ⟨s, m, p, h1, h2⟩ := h.fin.read
  unfold cvWide
  rw [if_neg (by decide), show FloatKind.f64.decode x = .number s m p from h1]
  have e : fcv .f64 x .f32 = FloatKind.f32.encode (.number s m p) := by
    unfold fcv
    rw [if_neg (by decide), show FloatKind.f64.decode x = .number s m p from h1]
  show (FloatKind.f32.decode (FloatKind.f32.encode (.number s m p))).isInfinity = false
  rw [← e]
  obtain ⟨t, r, e2, hr⟩ := hb2.fin
  rw [e2]
  exact not_inf_of_lt single t hr
end Go.Proofs.Ytnhikdjljjemlaa
/- What the exponential functions of both sides compute. No condition. -/
namespace Go.Proofs.Ytnhikdjljjemlaa
open Go Go.RowKit
set_option linter.unusedVariables false
set_option linter.unusedSimpArgs false
def O64 : Nat := 4607182418800017408
def kW (j : Nat) : Nat := floatOfInt .f64 ((12 - j : Nat) : Int)
def hornE (t : Nat) : Nat → Nat
  | 0 => O64
  | j + 1 => fop .add .f64 O64 (fop .quo .f64 (fop .mul .f64 t (hornE t j)) (kW j))
def sqE (p : Nat) : Nat → Nat
  | 0 => p
  | j + 1 => fop .mul .f64 (sqE p j) (sqE p j)
/-- the exponential function in 64 bits -/
def expW (x : Nat) : Nat := sqE (hornE (fop .quo .f64 x 4643211215818981376) 12) 8
theorem kW_facts : ∀ j, j < 12 → (floatBits .sub .f64 (kW j) O64 = some (kW (j + 1)) ∧ (FloatKind.f64.format.order (kW j) O64 = some .gt ∨ FloatKind.f64.format.order (kW j) O64 = some .eq) ∧ kW (j + 1) < kW j) := by decide +kernel
theorem kW_end : FloatKind.f64.format.order (kW 12) O64 = some .lt := by decide +kernel
theorem kW_zero : kW 0 = 4622945017495814144 := by decide +kernel
theorem cn_O64 : cn .f64 O64 = O64 := by decide +kernel
theorem cn_kW (j : Nat) : cn .f64 (kW j) = kW j := cn_floatOfInt _ _
theorem cn_256 : cn .f64 4643211215818981376 = 4643211215818981376 := by decide +kernel
def fltOf : Value → Nat
  | .float _ b => b
  | _ => 0
theorem cn_horn {a t k j : Nat} (T : Nat) (hk : k = kW j) (ha : cn .f64 a = hornE T j) (ht : cn .f64 t = T) (w1 w2 w3 : World) : cn .f64 (fbits .add .f64 4607182418800017408 (fbits .quo .f64 (fbits .mul .f64 t a w1) k w2) w3) = hornE T (j + 1) := by
  rw [cn_fbits, cn_fbits, cn_fbits, ha, ht, hk, cn_kW]
  show fop .add .f64 (cn .f64 O64) _ = _
  rw [cn_O64]; rfl
theorem cn_sq {a p j : Nat} (ha : cn .f64 a = sqE p j) (w1 : World) : cn .f64 (fbits .mul .f64 a a w1) = sqE p (j + 1) := by
  rw [cn_fbits, ha]; rfl
set_option maxRecDepth 100000 in
set_option maxHeartbeats 1000000 in
theorem impl_exp64 (x : Nat) (w : World) : Calls Try.prog 103 #[.float .f64 x] w fun e w' => ∃ r, e = .returned (.float .f64 r) ∧ Hid (cn .f64 r = expW (cn .f64 x)) ∧ Dr w w' := by
  go_enter Try.func103, Try.ntmps103
  go_wp2
  generalize ht : fbits BinOp.quo FloatKind.f64 x 4643211215818981376 _ = t
  have htc : cn .f64 t = fop .quo .f64 (cn .f64 x) 4643211215818981376 := by rw [← ht, cn_fbits, cn_256]
  clear ht
  obtain ⟨T, hT⟩ : ∃ T, T = fop .quo .f64 (cn .f64 x) 4643211215818981376 := ⟨_, rfl⟩
  rw [← hT] at htc
  have HT := Lib.hid hT; have HTC := Lib.hid htc
  clear hT htc
  go_loopw [4, 5] (fun p k wr => ∃ j : Nat, j ≤ 12 ∧ ∃ a kv, k = .float .f64 kv ∧ p = .float .f64 a ∧ Hid (kv = kW j ∧ cn .f64 a = hornE T j) ∧ Dr w wr) (fun _ k _ => fltOf k)
  case atStart => exact ⟨0, by omega, _, _, rfl, rfl, Lib.hid ⟨kW_zero.symm, cn_O64⟩, (Dr.refl _).drewN _⟩
  case round =>
    obtain ⟨j, hj, a, kv, rfl, rfl, HK, hd⟩ := hrel
    have HD := Lib.hid hd; clear hd
    by_cases hlt : j < 12
    · obtain ⟨f1, f2, f3⟩ := kW_facts j hlt
      rw [← HK.out.1] at f1 f2 f3
      obtain ⟨kn, hkn⟩ : ∃ kn, kn = kW (j + 1) := ⟨_, rfl⟩
      rw [← hkn] at f1 f3
      have HKN := Lib.hid hkn
      have g1 := fun w => fbits_some f1 w
      have g2 := fdr_some f1
      unfold O64 at f2 g1 g2
      clear hkn f1
      rcases f2 with f2 | f2
      all_goals
        go_wp2
        go_roundw
        case rel => exact ⟨j + 1, hlt, _, _, rfl, rfl, Lib.hid ⟨HKN.out, cn_horn T HK.out.1 HK.out.2 HTC.out _ _ _⟩, HD.out.drewN _⟩
        case measure => simp [fltOf]; omega
    · have hj12 : j = 12 := by omega
      subst hj12
      have f2 := kW_end
      rw [← HK.out.1] at f2
      unfold O64 at f2
      obtain ⟨wo, hwo⟩ : ∃ wo : World, wo = wr := ⟨_, rfl⟩
      subst hwo
      go_wp2
      go_loopw [4, 18] (fun p i wr => ∃ j : Nat, i = .int .i64 j ∧ j ≤ 8 ∧ ∃ a, p = .float .f64 a ∧ Hid (cn .f64 a = sqE (hornE T 12) j) ∧ Dr wo wr) (fun _ i _ => 8 - (intOf i).toNat)
      case atStart => exact ⟨0, rfl, by omega, _, rfl, Lib.hid HK.out.2, Dr.refl _⟩
      case round =>
        obtain ⟨j, rfl, hj, b, rfl, HB, hd⟩ := hrel
        have HD2 := Lib.hid hd; clear hd
        by_cases hlt : j < 8
        · go_wp2
          go_roundw
          case rel => exact ⟨j + 1, by go_num, hlt, _, rfl, Lib.hid (cn_sq HB.out _), HD2.out.drewN _⟩
          case measure => simp [intOf]; omega
        · have hj8 : j = 8 := by omega
          subst hj8
          go_wp2
          go_ret
          exact ⟨_, rfl, Lib.hid (by rw [HB.out, HT.out]; rfl), HD.out.trans HD2.out⟩
def INF64 : Nat := 9218868437227405312
def expS (y : Nat) : Nat := if isN .f64 y = true then nanOf .f64 else if FloatKind.f64.format.order y 4641240890982006784 = some .gt then INF64 else if FloatKind.f64.format.order y 13864612927836782592 = some .lt then 0 else expW y
end Go.Proofs.Ytnhikdjljjemlaa
