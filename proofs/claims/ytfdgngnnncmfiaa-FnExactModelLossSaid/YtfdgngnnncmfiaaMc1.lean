/- Joined texts 1: Fl4 Fl5 Fl6 Abs Lab FF FG Ow0 Fl7 Fl8 Bf Gat Emp FH Ow1 Bx3 Ow2 Ow3 Ow4 Ow5 Ow6 Ow7 Seed Shf Shw Hub Clp Bat Tn0 Snm Tp0 Tp1 Tp3 Tp5 Tu0 Tu1 App Tp2 Tu2 Tp4 Tu3 Tn1 Tn2 Tn3 Rp0. Each is told at its own head. No condition. -/
import Derived.Laws.BitsAllLaws
import Derived.Laws.Runes
import GoSem.Extern.MathSqrt
import Derived.Deep.RegionWith
import Derived.Lib.Hide
import Derived.RegionTactic
import Derived.BigRegion
import Derived.Laws.AppendOwnNone
import Derived.Maps.AppendAt
import Derived.Deep.CutRange
import Derived.Deep.CutBlock
import Derived.Deep.DeepCutAuto
import Derived.Deep.RegionHeld3
import Derived.Test.YtfdgngnnncmfiaaMc0
/- Plain laws of floats, continued: what a format has exactly is written as it is. No condition. -/
namespace Go.Proofs.Ytfdgngnnncmfiaa
open Go Ieee
set_option linter.unusedVariables false
end Go.Proofs.Ytfdgngnnncmfiaa
/- Plain laws of floats, continued: a number made wider and narrower again, and absolute values. No condition. -/
namespace Go.Proofs.Ytfdgngnnncmfiaa
open Go Ieee
set_option linter.unusedVariables false
set_option linter.unusedSimpArgs false
end Go.Proofs.Ytfdgngnnncmfiaa
/- Plain laws of floats, continued: absolute values. No condition. -/
namespace Go.Proofs.Ytfdgngnnncmfiaa
open Go Go.RowKit Ieee
set_option linter.unusedVariables false
set_option linter.unusedSimpArgs false
@[go_sem] theorem run_neg_f {P : Program} (w : World) (k : FloatKind) (b : Nat) : (Op.unary .neg (.float k b)).run P w = .ok (.float k (Op.negFloat k b)) w := rfl
theorem word_lt (f : Format) (neg : Bool) {r : Nat} (h : r < f.signWeight) : f.word neg r < 2 * f.signWeight := by
  unfold Format.word; split <;> omega
end Go.Proofs.Ytfdgngnnncmfiaa
/- What absolute values, the greatest of two, a not-a-number are. No condition. -/
namespace Go.Proofs.Ytfdgngnnncmfiaa
open Go Go.RowKit
set_option linter.unusedVariables false
set_option linter.unusedSimpArgs false
end Go.Proofs.Ytfdgngnnncmfiaa
/- What the mean of absolute values and its gradients are. No condition. -/
namespace Go.Proofs.Ytfdgngnnncmfiaa
open Go Go.RowKit
set_option linter.unusedVariables false
set_option linter.unusedSimpArgs false
theorem Touch.setCell {w : World} {lo hi g k : Nat} {v : Value} (h1 : lo ≤ g) (h2 : g < hi) : Touch lo hi w (w.setCell ⟨g, k, none⟩ v) :=
  ⟨rfl, rfl, rfl, by simp [World.setCell], fun j hj hd => Below.heap_setCell _ _ _ _ (by intro e; simp at e; omega)⟩
theorem mem_getD {xs : List Nat} {k : Nat} (h : k < xs.length) : xs.getD k 0 ∈ xs := by
  rw [List.getD_eq_getElem?_getD, List.getElem?_eq_getElem h]; exact List.getElem_mem h
theorem isN_none {x : Nat} (h : FloatKind.f32.format.order x 0 = none) : isN .f32 x = true := by
  cases hx : isN .f32 x
  · exfalso
    have h0 : isN .f32 0 = false := by decide +kernel
    unfold isN at hx h0
    have h1 : (FloatKind.f32.format.read x).order (FloatKind.f32.format.read 0) = none := h
    cases e1 : FloatKind.f32.format.read x with
    | nan s t => rw [e1] at hx; cases hx
    | infinity s => rw [e1] at h1; cases e2 : FloatKind.f32.format.read 0 with
      | nan s t => rw [e2] at h0; cases h0
      | infinity t => rw [e2] at h1; cases h1
      | number t m p => rw [e2] at h1; cases h1
    | number s m p => rw [e1] at h1; cases e2 : FloatKind.f32.format.read 0 with
      | nan s t => rw [e2] at h0; cases h0
      | infinity t => rw [e2] at h1; cases h1
      | number t m p => rw [e2] at h1; cases h1
  · rfl
end Go.Proofs.Ytfdgngnnncmfiaa
/- What comparing, marking slices of slices of numbers does. No condition. -/
namespace Go.Proofs.Ytfdgngnnncmfiaa
open Go Go.RowKit
set_option linter.unusedVariables false
set_option linter.unusedSimpArgs false
end Go.Proofs.Ytfdgngnnncmfiaa
/- What comparing, marking slices of slices of numbers does: the walks. No condition. -/
namespace Go.Proofs.Ytfdgngnnncmfiaa
open Go Go.RowKit
set_option linter.unusedVariables false
set_option linter.unusedSimpArgs false
end Go.Proofs.Ytfdgngnnncmfiaa
/- Rows of a call's own in blocks apart; lists of records. No condition. -/
namespace Go.Proofs.Ytfdgngnnncmfiaa
open Go Go.RowKit
set_option linter.unusedVariables false
set_option linter.unusedSimpArgs false
/-- a row: the type of its elements, how many cells each has, where it lies, and its cells -/
structure RowD where
  e : TypeId
  size : Nat
  ad : Option Addr
  n : Nat
  cap : Nat
  vs : List Value
def RowD.val (x : RowD) : Value := .slice x.ad x.n x.cap
def Apart (v u : Value) : Prop := ∀ g, v.ownBlock = some g → u.ownBlock ≠ some g
theorem Apart.symm {v u : Value} (h : Apart v u) : Apart u v := fun g e1 e2 => h g e2 e1
/-- rows of the call's own in blocks apart -/
structure Own (w : World) (lo hi : Nat) (L : List RowD) : Prop where
  row : ∀ x ∈ L, Row w x.e x.size lo hi x.val x.n x.vs
  sep : (L.map RowD.val).Pairwise Apart
theorem Own.nil (w : World) (lo hi : Nat) : Own w lo hi [] := ⟨fun x hx => (nomatch hx), List.Pairwise.nil⟩
theorem Own.below {w w' : World} {lo hi : Nat} {L : List RowD} (h : Own w lo hi L) (hb : Below w.heap.size w w') : Own w' lo hi L := ⟨fun x hx => (h.row x hx).below hb, h.sep⟩
theorem Own.touch {w w' : World} {lo hi lo2 hi2 : Nat} {L : List RowD} (h : Own w lo hi L) (ht : Touch lo2 hi2 w w') (hd : hi ≤ lo2 ∨ hi2 ≤ lo) : Own w' lo hi L := ⟨fun x hx => (h.row x hx).touch ht hd, h.sep⟩
theorem Own.bounds {w : World} {lo hi lo' hi' : Nat} {L : List RowD} (h : Own w lo hi L) (h1 : lo' ≤ lo) (h2 : hi ≤ hi') : Own w lo' hi' L := ⟨fun x hx => (h.row x hx).bounds h1 h2, h.sep⟩
theorem Own.perm {w : World} {lo hi : Nat} {L M : List RowD} (h : Own w lo hi L) (p : L.Perm M) : Own w lo hi M :=
  ⟨fun x hx => h.row x (p.mem_iff.2 hx), ((p.map RowD.val).pairwise_iff (fun {a b} h => h.symm)).1 h.sep⟩
theorem Own.sub {w : World} {lo hi : Nat} {L M : List RowD} (h : Own w lo hi L) (s : M.Sublist L) : Own w lo hi M :=
  ⟨fun x hx => h.row x (s.subset hx), h.sep.sublist (s.map RowD.val)⟩
theorem Own.tail {w : World} {lo hi : Nat} {x : RowD} {L : List RowD} (h : Own w lo hi (x :: L)) : Own w lo hi L := h.sub (List.sublist_cons_self x L)
theorem Own.head {w : World} {lo hi : Nat} {x : RowD} {L : List RowD} (h : Own w lo hi (x :: L)) : Row w x.e x.size lo hi x.val x.n x.vs := h.row x (List.mem_cons_self ..)
theorem Own.apart {w : World} {lo hi : Nat} {x : RowD} {L : List RowD} (h : Own w lo hi (x :: L)) {y : RowD} (hy : y ∈ L) : Apart x.val y.val := (List.pairwise_cons.1 h.sep).1 _ (List.mem_map_of_mem hy)
theorem Own.cons {w : World} {lo hi : Nat} {x : RowD} {L : List RowD} (hx : Row w x.e x.size lo hi x.val x.n x.vs) (h : Own w lo hi L) (hs : ∀ y ∈ L, Apart x.val y.val) : Own w lo hi (x :: L) := by
  refine ⟨fun y hy => ?_, ?_⟩
  · rcases List.mem_cons.1 hy with rfl | hy
    · exact hx
    · exact h.row y hy
  · rw [List.map_cons, List.pairwise_cons]
    refine ⟨fun v hv => ?_, h.sep⟩
    obtain ⟨y, hy, rfl⟩ := List.mem_map.1 hv
    exact hs y hy
theorem Own.one {w : World} {lo hi : Nat} {x : RowD} (hx : Row w x.e x.size lo hi x.val x.n x.vs) : Own w lo hi [x] := Own.cons hx (Own.nil _ _ _) (fun y hy => (nomatch hy))
theorem Own.append {w : World} {lo mi hi : Nat} {L M : List RowD} (h : Own w lo mi L) (h2 : Own w mi hi M) (h3 : lo ≤ mi) (h4 : mi ≤ hi) : Own w lo hi (L ++ M) := by
  refine ⟨fun x hx => ?_, ?_⟩
  · rcases List.mem_append.1 hx with hx | hx
    · exact (h.row x hx).bounds (Nat.le_refl _) h4
    · exact (h2.row x hx).bounds h3 (Nat.le_refl _)
  · rw [List.map_append, List.pairwise_append]
    refine ⟨h.sep, h2.sep, fun v hv u hu => ?_⟩
    obtain ⟨x, hx, rfl⟩ := List.mem_map.1 hv
    obtain ⟨y, hy, rfl⟩ := List.mem_map.1 hu
    intro g e1 e2
    have := (h.row x hx).top g e1
    have := ((h2.row y hy).own.lt g e2).1
    omega
/-- the row at the head is written, or laid anew -/
theorem Own.grown {w w' : World} {lo hi hi' : Nat} {x y : RowD} {L : List RowD} (h : Own w lo hi (x :: L)) (hg : w.grownBy w' x.val.ownBlock) (hy : Row w' y.e y.size lo hi' y.val y.n y.vs) (hb : ∀ g, y.val.ownBlock = some g → x.val.ownBlock = some g ∨ hi ≤ g) (hh : hi ≤ hi') : Own w' lo hi' (y :: L) := by
  refine Own.cons hy ⟨fun z hz => ⟨((h.row z (List.mem_cons_of_mem _ hz)).own.kept hg ?_), fun g e => Nat.lt_of_lt_of_le ((h.row z (List.mem_cons_of_mem _ hz)).top g e) hh⟩, h.tail.sep⟩ fun z hz g e1 e2 => ?_
  · cases e : z.val.ownBlock with
    | none => exact .inl rfl
    | some g => exact .inr (fun e2 => (h.apart hz) g e2.symm e)
  · rcases hb g e1 with e3 | e3
    · exact h.apart hz g e3 e2
    · have := (h.row z (List.mem_cons_of_mem _ hz)).top g e2
      omega
theorem Own.store {w : World} {lo hi : Nat} {e : TypeId} {size g n cap : Nat} {vs : List Value} {L : List RowD} (h : Own w lo hi (⟨e, size, some ⟨g, 0, none⟩, n, cap, vs⟩ :: L)) (k : Nat) (v : Value) : Own (w.setCell ⟨g, k, none⟩ v) lo hi (⟨e, size, some ⟨g, 0, none⟩, n, cap, vs.set k v⟩ :: L) := by
  have h0 := h.head
  have hs := h0.own.stored k v
  exact h.grown (y := ⟨e, size, some ⟨g, 0, none⟩, n, cap, vs.set k v⟩) hs.2 ⟨hs.1, h0.top⟩ (fun g' e => .inl e) (Nat.le_refl _)
/-- a block is laid -/
theorem Own.alloc {w : World} {lo hi : Nat} {L : List RowD} (h : Own w lo hi L) (h1 : lo ≤ w.heap.size) (h2 : hi ≤ w.heap.size) (cs : Array Value) (t : TypeId) : Own (w.alloc (.cells cs t)) lo (w.heap.size + 1) (⟨t, cs.size, some ⟨w.heap.size, 0, none⟩, 1, 1, cs.toList⟩ :: L) := by
  have ho := World.ownsRow_lit (base := lo) (e := t) (size := cs.size) w cs 1 h1 (by decide) (by simp)
  refine Own.cons ⟨ho, fun g e => ?_⟩ ((h.below (below1 w _)).bounds (Nat.le_refl _) (by omega)) fun y hy g e1 e2 => ?_
  · cases e; exact Nat.lt_succ_self _
  · cases e1
    have h3 : w.heap.size < hi := (h.row y hy).top _ e2
    omega
/-- a row is laid -/
theorem Own.fresh {w w' : World} {lo hi hi' : Nat} {L M : List RowD} (h : Own w lo hi L) (h1 : lo ≤ w.heap.size) (h2 : hi ≤ w.heap.size) (hb : Below w.heap.size w w') (hm : Own w' w.heap.size hi' M) (h3 : w.heap.size ≤ hi') : Own w' lo hi' (L ++ M) :=
  Own.append ((h.below hb).bounds (Nat.le_refl _) h2) hm h1 h3
theorem Own.cell {w : World} {lo hi : Nat} {e : TypeId} {size g o n cap : Nat} {vs : List Value} {L : List RowD} (h : Own w lo hi L) (hm : ⟨e, size, some ⟨g, o, none⟩, n, cap, vs⟩ ∈ L) :
    o = 0 ∧ (lo ≤ g ∧ g < hi ∧ g < w.heap.size) ∧ (∀ k, k < vs.length → w.cell? ⟨g, k, none⟩ = vs[k]?) ∧ (∀ k, w.frozen? ⟨g, k, none⟩ = false) := by
  have h0 := h.row _ hm
  have h00 := h0.own
  have hl := h00.1
  have h1 : o = 0 := by
    rcases h0.own.2 with ⟨e1, _⟩ | ⟨g', cap', cur, e1, _⟩
    · cases e1
    · cases e1; rfl
  subst h1
  exact ⟨rfl, ⟨(h0.own.lt g rfl).1, h0.top g rfl, (h0.own.lt g rfl).2⟩, fun k hk => h0.own.cellAt k (by have hl2 : vs.length = n * size := hl; show k < n * size; omega), fun k => h0.own.frozenAt k⟩
/-- one row of many is written in place -/
theorem Own.setAt {w w' : World} {lo hi : Nat} {x y : RowD} {A B : List RowD} (h : Own w lo hi (A ++ x :: B)) (hg : w.grownBy w' x.val.ownBlock) (hy : Row w' y.e y.size lo hi y.val y.n y.vs) (hv : y.val = x.val) : Own w' lo hi (A ++ y :: B) := by
  have p : (A ++ x :: B).Perm (x :: (A ++ B)) := List.perm_middle
  have q : (A ++ y :: B).Perm (y :: (A ++ B)) := List.perm_middle
  exact ((h.perm p).grown hg hy (fun g e => .inl (by rw [← hv]; exact e)) (Nat.le_refl _)).perm q.symm
/-- a row that is read -/
structure SeeRow (w : World) (x : RowD) : Prop where
  le : x.n ≤ x.cap
  cap : x.cap ≤ maxLen
  len : x.vs.length = x.n * x.size
  rd : Rd w x.ad x.vs
theorem SeeRow.below {w w' : World} {x : RowD} (h : SeeRow w x) (hb : Below w.heap.size w w') : SeeRow w' x := ⟨h.le, h.cap, h.len, h.rd.below hb (Nat.le_refl _)⟩
theorem Row.seeRow {w : World} {lo hi : Nat} {x : RowD} (h : Row w x.e x.size lo hi x.val x.n x.vs) : SeeRow w x := by
  obtain ⟨ad, cap, e1, e2, e3, e4, _⟩ := Rd.of_owns h.own
  unfold RowD.val at e1
  cases e1
  exact ⟨e2, e3, h.own.1, e4⟩
/-- records: their cells, and the rows to which these point -/
structure RecT (α : Type) where
  e : TypeId
  size : Nat
  cells : α → List Value
  inn : α → List RowD
  ok : α → Prop
  len : ∀ a, (cells a).length = size
structure OwnR {α : Type} (R : RecT α) (w : World) (lo hi : Nat) (ad : Option Addr) (n cap : Nat) (us : List α) : Prop where
  own : Own w lo hi (⟨R.e, R.size, ad, n, cap, us.flatMap R.cells⟩ :: us.flatMap R.inn)
  len : us.length = n
  ok : ∀ a ∈ us, R.ok a
structure SeeR {α : Type} (R : RecT α) (w : World) (ad : Option Addr) (cap : Nat) (us : List α) : Prop where
  le : us.length ≤ cap
  cap : cap ≤ maxLen
  rd : Rd w ad (us.flatMap R.cells)
  inn : ∀ a ∈ us, ∀ x ∈ R.inn a, SeeRow w x
  ok : ∀ a ∈ us, R.ok a
section
variable {α : Type} {R : RecT α} {w w' : World} {lo hi : Nat} {ad : Option Addr} {n cap : Nat} {us : List α}
theorem SeeR.below (h : SeeR R w ad cap us) (hb : Below w.heap.size w w') : SeeR R w' ad cap us := ⟨h.le, h.cap, h.rd.below hb (Nat.le_refl _), fun a ha x hx => (h.inn a ha x hx).below hb, h.ok⟩
theorem OwnR.below (h : OwnR R w lo hi ad n cap us) (hb : Below w.heap.size w w') : OwnR R w' lo hi ad n cap us := ⟨h.own.below hb, h.len, h.ok⟩
theorem OwnR.touch {lo2 hi2 : Nat} (h : OwnR R w lo hi ad n cap us) (ht : Touch lo2 hi2 w w') (hd : hi ≤ lo2 ∨ hi2 ≤ lo) : OwnR R w' lo hi ad n cap us := ⟨h.own.touch ht hd, h.len, h.ok⟩
theorem OwnR.bounds {lo' hi' : Nat} (h : OwnR R w lo hi ad n cap us) (h1 : lo' ≤ lo) (h2 : hi ≤ hi') : OwnR R w lo' hi' ad n cap us := ⟨h.own.bounds h1 h2, h.len, h.ok⟩
theorem OwnR.see (h : OwnR R w lo hi ad n cap us) : SeeR R w ad cap us := by
  have h0 := h.own.head.seeRow
  exact ⟨by rw [h.len]; exact h0.le, h0.cap, h0.rd, fun a ha x hx => (h.own.tail.row x (List.mem_flatMap.2 ⟨a, ha, hx⟩)).seeRow, h.ok⟩
theorem flat_len (R : RecT α) (us : List α) : (us.flatMap R.cells).length = us.length * R.size := by
  induction us with
  | nil => simp
  | cons a us ih => rw [List.flatMap_cons, List.length_append, ih, R.len, List.length_cons, Nat.succ_mul, Nat.add_comm]
theorem flat_at (R : RecT α) (us : List α) {k j : Nat} {a : α} (hk : us[k]? = some a) (hj : j < R.size) : (us.flatMap R.cells)[k * R.size + j]? = (R.cells a)[j]? := by
  induction us generalizing k with
  | nil => simp at hk
  | cons x xs ih =>
    rw [List.flatMap_cons]
    cases k with
    | zero =>
      simp at hk; subst hk
      rw [Nat.zero_mul, Nat.zero_add, List.getElem?_append_left (by rw [R.len]; exact hj)]
    | succ k =>
      simp at hk
      rw [List.getElem?_append_right (by rw [R.len, Nat.succ_mul]; omega), R.len, ← ih hk]
      congr 1
      rw [Nat.succ_mul]; omega
theorem SeeR.spot (h : SeeR R w ad cap us) {k : Nat} {a : α} (hk : us[k]? = some a) (hs : 0 < R.size) : ∃ b off, ad = some ⟨b, off, none⟩ ∧ b < w.heap.size ∧ ∀ j, j < R.size → w.cell? ⟨b, off + k * R.size + j, none⟩ = (R.cells a)[j]? := by
  have hkl : k < us.length := (List.getElem?_eq_some_iff.1 hk).1
  have hl : ∀ j, j < R.size → k * R.size + j < (us.flatMap R.cells).length := by
    intro j hj
    rw [flat_len]
    have : (k + 1) * R.size ≤ us.length * R.size := Nat.mul_le_mul_right _ hkl
    rw [Nat.succ_mul] at this; omega
  obtain ⟨b, off, e, hb, hc⟩ := h.rd.spot (i := k * R.size + 0) (hl 0 hs)
  exact ⟨b, off, e, hb, fun j hj => by rw [Nat.add_assoc, hc _ (hl j hj), flat_at R us hk hj]⟩
theorem OwnR.spot (h : OwnR R w lo hi ad n cap us) {k : Nat} {a : α} (hk : us[k]? = some a) (hs : 0 < R.size) : ∃ g, ad = some ⟨g, 0, none⟩ ∧ (lo ≤ g ∧ g < hi ∧ g < w.heap.size) ∧ (∀ j, j < R.size → w.cell? ⟨g, k * R.size + j, none⟩ = (R.cells a)[j]?) ∧ ∀ j, w.frozen? ⟨g, j, none⟩ = false := by
  obtain ⟨b, off, e, hb, hc⟩ := h.see.spot hk hs
  subst e
  obtain ⟨rfl, hr, _, hf⟩ := h.own.cell (List.mem_cons_self ..)
  exact ⟨b, rfl, hr, fun j hj => by rw [← hc j hj, Nat.zero_add], hf⟩
/-- cells written one after another -/
def setL : List Value → Nat → List Value → List Value
  | vs, _, [] => vs
  | vs, i, c :: cs => setL (vs.set i c) (i + 1) cs
theorem setL_right (xs ys : List Value) (i : Nat) (cs : List Value) : setL (xs ++ ys) (xs.length + i) cs = xs ++ setL ys i cs := by
  induction cs generalizing ys i with
  | nil => rfl
  | cons c cs ih =>
    show setL ((xs ++ ys).set (xs.length + i) c) (xs.length + i + 1) cs = xs ++ setL (ys.set i c) (i + 1) cs
    rw [List.set_append, if_neg (by omega), Nat.add_sub_cancel_left, Nat.add_assoc]
    exact ih (ys.set i c) (i + 1)
theorem setL_left (xs ys cs : List Value) (h : xs.length = cs.length) : setL (xs ++ ys) 0 cs = cs ++ ys := by
  have key : ∀ (pre xs cs : List Value), xs.length = cs.length → setL (pre ++ xs ++ ys) pre.length cs = pre ++ cs ++ ys := by
    intro pre xs cs
    induction cs generalizing pre xs with
    | nil => intro h; cases xs with
      | nil => rfl
      | cons x xs => simp at h
    | cons c cs ih =>
      intro h
      cases xs with
      | nil => simp at h
      | cons x xs =>
        have h2 := ih (pre ++ [c]) xs (by simpa using h)
        show setL ((pre ++ x :: xs ++ ys).set pre.length c) (pre.length + 1) cs = pre ++ c :: cs ++ ys
        rw [List.append_assoc, List.set_append, if_neg (by omega), Nat.sub_self, List.cons_append, List.set_cons_zero]
        simpa [List.append_assoc] using h2
  simpa using key [] xs cs h
theorem flat_set (R : RecT α) (us : List α) {k : Nat} (hk : k < us.length) (a : α) : setL (us.flatMap R.cells) (k * R.size) (R.cells a) = (us.set k a).flatMap R.cells := by
  induction us generalizing k with
  | nil => simp at hk
  | cons x xs ih =>
    cases k with
    | zero =>
      rw [Nat.zero_mul, List.flatMap_cons, List.set_cons_zero, List.flatMap_cons]
      exact setL_left _ _ _ (by rw [R.len, R.len])
    | succ k =>
      rw [List.flatMap_cons, List.set_cons_succ, List.flatMap_cons, ← ih (by simpa using hk), ← setL_right, R.len, Nat.succ_mul, Nat.add_comm]
/-- an element is set whose rows are new -/
theorem OwnR.setNew {w1 w2 : World} {hi1 : Nat} (h : OwnR R w lo w.heap.size ad n cap us) (hlo : lo ≤ w.heap.size) (hb : Below w.heap.size w w1) {k : Nat} (hk : k < n) {a : α} (ha : R.ok a) (hn : Own w1 w.heap.size hi1 (R.inn a)) (hi1s : w.heap.size ≤ hi1)
    (hst : ∀ M, Own w1 lo hi1 (⟨R.e, R.size, ad, n, cap, us.flatMap R.cells⟩ :: M) → Own w2 lo hi1 (⟨R.e, R.size, ad, n, cap, setL (us.flatMap R.cells) (k * R.size) (R.cells a)⟩ :: M)) : OwnR R w2 lo hi1 ad n cap (us.set k a) := by
  have hkl : k < us.length := by rw [h.len]; exact hk
  refine ⟨?_, by rw [List.length_set]; exact h.len, fun b hb => ?_⟩
  · have h1 := Own.fresh h.own hlo (Nat.le_refl _) hb hn hi1s
    rw [List.cons_append] at h1
    have h2 := hst _ h1
    rw [flat_set R us hkl] at h2
    have e1 : us.flatMap R.inn = (us.take k).flatMap R.inn ++ (R.inn us[k] ++ (us.drop (k + 1)).flatMap R.inn) := by
      rw [← List.flatMap_cons, List.getElem_cons_drop, ← List.flatMap_append, List.take_append_drop]
    have e2 : (us.set k a).flatMap R.inn = (us.take k).flatMap R.inn ++ (R.inn a ++ (us.drop (k + 1)).flatMap R.inn) := by
      rw [List.set_eq_take_append_cons_drop, if_pos hkl, List.flatMap_append, List.flatMap_cons]
    rw [e1] at h2
    rw [e2]
    have h3 := h2.sub (M := ⟨R.e, R.size, ad, n, cap, (us.set k a).flatMap R.cells⟩ :: (((us.take k).flatMap R.inn ++ (us.drop (k + 1)).flatMap R.inn) ++ R.inn a)) (List.Sublist.cons_cons _ (List.Sublist.append (List.Sublist.append (List.Sublist.refl _) (List.sublist_append_right _ _)) (List.Sublist.refl _)))
    refine h3.perm (List.Perm.cons _ ?_)
    rw [List.append_assoc]
    exact List.Perm.append_left _ List.perm_append_comm
  · rcases List.mem_or_eq_of_mem_set hb with hb | rfl
    · exact h.ok b hb
    · exact ha
/-- one more element, whose rows are new -/
theorem OwnR.snoc {w1 w2 : World} {hi1 : Nat} {v' : Value} {a : α} {o : Obj} (h : OwnR R w lo w.heap.size ad n cap us) (hlo : lo ≤ w.heap.size) (hb : Below w.heap.size w w1) (ha : R.ok a) (hn : Own w1 w.heap.size hi1 (R.inn a)) (hi1s : hi1 ≤ w1.heap.size) (hi0 : w.heap.size ≤ hi1)
    (ho : w2.ownsRow lo R.e R.size v' (n + 1) (us.flatMap R.cells ++ R.cells a)) (hg : (w1.alloc o).grownBy w2 (Value.slice ad n cap).ownBlock) (hat : v'.ownBlock = (Value.slice ad n cap).ownBlock ∨ v'.ownBlock = some (w1.heap.size + 1)) :
    ∃ ad' cap', v' = .slice ad' (n + 1) cap' ∧ OwnR R w2 lo w2.heap.size ad' (n + 1) cap' (us ++ [a]) := by
  obtain ⟨ad', cap', rfl, _⟩ := Rd.of_owns ho
  refine ⟨ad', cap', rfl, ?_, by rw [List.length_append, h.len]; rfl, fun b hb => ?_⟩
  · have h1 := Own.fresh h.own hlo (Nat.le_refl _) hb hn hi0
    rw [List.cons_append] at h1
    have h2 : Own (w1.alloc o) lo hi1 _ := h1.below (below1 w1 o)
    have hs := hg.size
    have h3 := h2.grown (w' := w2) (hi' := w2.heap.size) (y := ⟨R.e, R.size, ad', n + 1, cap', (us ++ [a]).flatMap R.cells⟩) hg (by
      refine Row.mk' ?_
      rw [List.flatMap_append, List.flatMap_singleton]
      exact ho) (fun g e => ?_) (by simp at hs; omega)
    · have e : (us ++ [a]).flatMap R.inn = us.flatMap R.inn ++ R.inn a := by rw [List.flatMap_append, List.flatMap_singleton]
      rw [e]
      exact h3
    · rcases hat with e1 | e1
      · exact .inl (e1.symm.trans e)
      · right
        have e2 : some g = some (w1.heap.size + 1) := e.symm.trans e1
        cases e2
        omega
  · rcases List.mem_append.1 hb with hb | hb
    · exact h.ok b hb
    · simp at hb; subst hb; exact ha
/-- a row of nothing -/
def RowD.void (x : RowD) : Prop := x.ad = none ∧ x.n = 0 ∧ x.cap = 0 ∧ x.vs = []
theorem Own.voids {L : List RowD} (w : World) (lo hi : Nat) (h : ∀ x ∈ L, x.void) : Own w lo hi L := by
  induction L with
  | nil => exact Own.nil _ _ _
  | cons x L ih =>
    obtain ⟨e1, e2, e3, e4⟩ := h x (List.mem_cons_self ..)
    have ev : x.val = .slice none 0 0 := by unfold RowD.val; rw [e1, e2, e3]
    refine Own.cons ⟨?_, fun g e => by rw [ev] at e; cases e⟩ (ih fun y hy => h y (List.mem_cons_of_mem _ hy)) fun y hy g e => by rw [ev] at e; cases e
    rw [ev, e2, e4]
    exact ⟨by simp, .inl ⟨rfl, rfl⟩⟩
/-- rows that are made -/
theorem OwnR.made {w1 : World} {cs : List Value} {z : α} (h : w1.ownsRow w.heap.size R.e R.size (.slice (some ⟨w.heap.size, 0, none⟩) n n) n cs) (hc : cs = (List.replicate n z).flatMap R.cells) (hz : ∀ x ∈ R.inn z, x.void) (ho : R.ok z) :
    OwnR R w1 w.heap.size w1.heap.size (some ⟨w.heap.size, 0, none⟩) n n (List.replicate n z) := by
  refine ⟨?_, by simp, fun a ha => by rw [List.eq_of_mem_replicate ha]; exact ho⟩
  rw [← hc]
  have hv : ∀ x ∈ (List.replicate n z).flatMap R.inn, x.void := by
    intro x hx
    obtain ⟨a, ha, hx⟩ := List.mem_flatMap.1 hx
    rw [List.eq_of_mem_replicate ha] at hx
    exact hz x hx
  refine Own.cons (Row.mk' h) (Own.voids _ _ _ hv) fun y hy g e1 e2 => ?_
  obtain ⟨e3, _⟩ := hv y hy
  unfold RowD.val at e2
  rw [e3] at e2
  cases e2
end
end Go.Proofs.Ytfdgngnnncmfiaa
/- Plain laws of floats, continued: how great a written number is; square roots. No condition. -/
namespace Go.Proofs.Ytfdgngnnncmfiaa
open Go Go.RowKit Ieee
set_option linter.unusedVariables false
set_option linter.unusedSimpArgs false

end Go.Proofs.Ytfdgngnnncmfiaa
/- Plain laws of floats, continued: the nearest bfloat. No condition. -/
namespace Go.Proofs.Ytfdgngnnncmfiaa
open Go Go.RowKit Ieee
set_option linter.unusedVariables false
set_option linter.unusedSimpArgs false
end Go.Proofs.Ytfdgngnnncmfiaa
/- What the nearest bfloat is. No condition. -/
namespace Go.Proofs.Ytfdgngnnncmfiaa
open Go Go.RowKit
set_option linter.unusedVariables false
set_option linter.unusedSimpArgs false
end Go.Proofs.Ytfdgngnnncmfiaa
/- What gathered roundings are. No condition. -/
namespace Go.Proofs.Ytfdgngnnncmfiaa
open Go Go.RowKit
set_option linter.unusedVariables false
set_option linter.unusedSimpArgs false
theorem zeros_listOf (n : Nat) : (List.replicate n 0).map (cn .f32) = listOf n (fun _ => 0) := by
  apply List.ext_getElem
  · simp [listOf]
  · intro i h1 h2
    simp [listOf, cn_zero]
theorem zeros_own {w : World} {base n : Nat} {e : TypeId} {v : Value} (h : w.ownsRow base e 1 v n (madeCells #[Value.float .f32 0] n).toList) : w.ownsRow base e 1 v n ((List.replicate n 0).map (Value.float .f32)) := by
  rw [toList_madeCells_one] at h
  rwa [List.map_replicate]
theorem zeros_lt (n : Nat) : ∀ x ∈ List.replicate n 0, x < 4294967296 := by
  intro x hx
  rw [(List.mem_replicate.1 hx).2]; decide
theorem zeros_rep {w : World} {n : Nat} {g : Nat} (h : w.ownsRow g 49 1 (.slice (some ⟨g, 0, none⟩) n n) n (madeCells #[Value.float .f32 0] n).toList) : RepF w g w.heap.size (some ⟨g, 0, none⟩) n n (List.replicate n 0) := by
  obtain ⟨a1, c1, e1, hS⟩ := RepF.of_owns (zeros_own h) (zeros_lt n)
  cases e1
  exact hS
end Go.Proofs.Ytfdgngnnncmfiaa
/- What empty slots are. No condition. -/
namespace Go.Proofs.Ytfdgngnnncmfiaa
open Go Go.RowKit
set_option linter.unusedVariables false
set_option linter.unusedSimpArgs false
end Go.Proofs.Ytfdgngnnncmfiaa
/- What copying, measuring slices of slices of numbers does; rows set and appended. No condition. -/
namespace Go.Proofs.Ytfdgngnnncmfiaa
open Go Go.RowKit
set_option linter.unusedVariables false
set_option linter.unusedSimpArgs false
theorem sz_f32s (w : World) (ad : Option Addr) (n cap : Nat) (L : Int) (hn : n ≤ maxLen) (h0 : 0 ≤ L) (h1 : L ≤ 1048576) : Calls Try.prog 31 #[.slice ad n cap, .int .i64 L] w fun e w' => e = .returned (.int .i64 (if (n : Int) ≤ L then L - n else -1)) ∧ w = w' := by
  unfold maxLen at hn
  by_cases h : (n : Int) ≤ L
  · rw [if_pos h]
    go_enter Try.func31, Try.ntmps31
    go_wp2
    go_ret
    exact ⟨rfl, rfl⟩
  · rw [if_neg h]
    go_enter Try.func31, Try.ntmps31
    go_wp2
    go_ret
    exact ⟨rfl, rfl⟩
end Go.Proofs.Ytfdgngnnncmfiaa
/- Tensors, operations, rows of integers as records; how they are opened among arguments. No condition. -/
namespace Go.Proofs.Ytfdgngnnncmfiaa
open Go Go.RowKit Go.ChangeShapes Go.WideShapes
set_option linter.unusedVariables false
set_option linter.unusedSimpArgs false
def floatRow (ad : Option Addr) (cap : Nat) (xs : List Nat) : RowD := ⟨49, 1, ad, xs.length, cap, xs.map (Value.float .f32)⟩
def okF (xs : List Nat) : Prop := ∀ x ∈ xs, x < 4294967296
theorem SeeRow.f32s {w : World} {ad : Option Addr} {cap : Nat} {xs : List Nat} (h : SeeRow w (floatRow ad cap xs)) (ho : okF xs) : F32s w ad cap xs := ⟨h.le, h.cap, h.rd, ho⟩
theorem RepF.ownRow {w : World} {lo hi : Nat} {ad : Option Addr} {n cap : Nat} {xs : List Nat} (h : RepF w lo hi ad n cap xs) : Own w lo hi [floatRow ad cap xs] := by
  have hl := h.len
  subst hl
  exact Own.one h.row
theorem RepF.okF {w : World} {lo hi : Nat} {ad : Option Addr} {n cap : Nat} {xs : List Nat} (h : RepF w lo hi ad n cap xs) : okF xs := h.lt
theorem Own.repF {w : World} {lo hi : Nat} {ad : Option Addr} {cap : Nat} {xs : List Nat} {L : List RowD} (h : Own w lo hi L) (hm : floatRow ad cap xs ∈ L) (ho : okF xs) : RepF w lo hi ad xs.length cap xs := ⟨h.row _ hm, rfl, ho⟩
/-- a tensor: rows, columns, where its numbers lie, and the numbers -/
structure TenP where
  r : Int
  c : Int
  xs : List Nat
structure Ten extends TenP where
  ad : Option Addr
  cap : Nat
def TenP.can (t : TenP) : TenP := ⟨t.r, t.c, t.xs.map (cn .f32)⟩
def Ten.cells (t : Ten) : List Value := [.int .i64 t.r, .int .i64 t.c, .slice t.ad t.xs.length t.cap]
def tenR : RecT Ten := ⟨38, 3, Ten.cells, fun t => [floatRow t.ad t.cap t.xs], fun t => okF t.xs, fun _ => rfl⟩
/-- an operation of a tape -/
structure OpP where
  k : Int
  a : Int
  b : Int
  num : Nat
  r : Int
  c : Int
  xs : List Nat
structure OpD extends OpP where
  ad : Option Addr
  cap : Nat
def OpP.can (o : OpP) : OpP := ⟨o.k, o.a, o.b, cn .f32 o.num, o.r, o.c, o.xs.map (cn .f32)⟩
def OpD.cells (o : OpD) : List Value := [.int .i64 o.k, .int .i64 o.a, .int .i64 o.b, .float .f32 o.num, .int .i64 o.r, .int .i64 o.c, .slice o.ad o.xs.length o.cap]
def OpD.val (o : OpD) : Value := .agg #[.int .i64 o.k, .int .i64 o.a, .int .i64 o.b, .float .f32 o.num, .int .i64 o.r, .int .i64 o.c, .slice o.ad o.xs.length o.cap]
def OpD.ok (o : OpD) : Prop := okF o.xs ∧ o.num < 4294967296 ∧ (Lit.int .i64 o.k).wf = true ∧ (Lit.int .i64 o.a).wf = true ∧ (Lit.int .i64 o.b).wf = true ∧ (Lit.int .i64 o.r).wf = true ∧ (Lit.int .i64 o.c).wf = true
def opR : RecT OpD := ⟨68, 7, OpD.cells, fun o => [floatRow o.ad o.cap o.xs], OpD.ok, fun _ => rfl⟩
/-- one operation of a tape that is read: its cells and its row -/
theorem op_spot {w : World} {ad : Option Addr} {cap : Nat} {os : List OpD} (h : SeeR opR w ad cap os) {k : Nat} {o : OpD} (hk : os[k]? = some o) : ∃ b off, ad = some ⟨b, off, none⟩ ∧ b < w.heap.size ∧
    (w.cell? ⟨b, off + k * 7, none⟩ = some (.int .i64 o.k) ∧ w.cell? ⟨b, off + k * 7 + 1, none⟩ = some (.int .i64 o.a) ∧ w.cell? ⟨b, off + k * 7 + 2, none⟩ = some (.int .i64 o.b) ∧ w.cell? ⟨b, off + k * 7 + 3, none⟩ = some (.float .f32 o.num) ∧ w.cell? ⟨b, off + k * 7 + 4, none⟩ = some (.int .i64 o.r) ∧ w.cell? ⟨b, off + k * 7 + 5, none⟩ = some (.int .i64 o.c) ∧ w.cell? ⟨b, off + k * 7 + 6, none⟩ = some (.slice o.ad o.xs.length o.cap)) ∧
    F32s w o.ad o.cap o.xs ∧ o.ok := by
  obtain ⟨b, off, e, hb, hc⟩ := h.spot hk (by decide)
  have hm := List.mem_of_getElem? hk
  exact ⟨b, off, e, hb, ⟨hc 0 (by decide), hc 1 (by decide), hc 2 (by decide), hc 3 (by decide), hc 4 (by decide), hc 5 (by decide), hc 6 (by decide)⟩, (h.inn o hm _ (List.mem_singleton.2 rfl)).f32s (h.ok o hm).1, h.ok o hm⟩
section
variable {H : Type} {enc : TypeId × Value → H} {w : World} {base : Nat} {spare : Nat → Bool} {held : Bool}
end
end Go.Proofs.Ytfdgngnnncmfiaa
/- A block of three cells. No condition. -/
namespace Go.Proofs.Ytfdgngnnncmfiaa
open Go Go.RowKit
set_option linter.unusedVariables false
set_option linter.unusedSimpArgs false
theorem touch_keep3 {w w' : World} {lo hi c : Nat} (ht : Touch lo hi w w') (hc : c < w.heap.size) (hd : c < lo ∨ hi ≤ c) (o : Nat) : w'.cell? ⟨c, o, none⟩ = w.cell? ⟨c, o, none⟩ ∧ w'.frozen? ⟨c, o, none⟩ = w.frozen? ⟨c, o, none⟩ :=
  ⟨World.cell?_of_block (w := w) (ht.block c hc hd), by unfold World.frozen?; rw [ht.block c hc hd]⟩
/-- a block of three cells that may be written -/
structure Box3 (w : World) (c : Nat) (a b d : Value) : Prop where
  lt : c < w.heap.size
  c0 : w.cell? ⟨c, 0, none⟩ = some a
  c1 : w.cell? ⟨c, 1, none⟩ = some b
  c2 : w.cell? ⟨c, 2, none⟩ = some d
  fz : ∀ o, w.frozen? ⟨c, o, none⟩ = false
theorem Box3.alloc (w : World) (a b d : Value) (t : TypeId) : Box3 (w.alloc (.cells #[a, b, d] t)) w.heap.size a b d :=
  ⟨by simp, by rw [World.cell?_alloc_at _ _ _ _ rfl]; rfl, by rw [World.cell?_alloc_at _ _ _ _ rfl]; rfl, by rw [World.cell?_alloc_at _ _ _ _ rfl]; rfl, fun o => World.frozen?_alloc_at _ _ _ _ rfl⟩
/-- the second of two blocks -/
theorem Box3.alloc2 (w : World) (o : Obj) (a b d : Value) (t : TypeId) : Box3 ((w.alloc o).alloc (.cells #[a, b, d] t)) (w.heap.size + 1) a b d := by
  have h := Box3.alloc (w.alloc o) a b d t
  rwa [show (w.alloc o).heap.size = w.heap.size + 1 by simp] at h
theorem Box3.touch {w w' : World} {c lo hi : Nat} {a b d : Value} (h : Box3 w c a b d) (ht : Touch lo hi w w') (hd : c < lo ∨ hi ≤ c) : Box3 w' c a b d :=
  ⟨Nat.lt_of_lt_of_le h.lt ht.size, (touch_keep3 ht h.lt hd 0).1.trans h.c0, (touch_keep3 ht h.lt hd 1).1.trans h.c1, (touch_keep3 ht h.lt hd 2).1.trans h.c2, fun o => (touch_keep3 ht h.lt hd o).2.trans (h.fz o)⟩
theorem Box3.below {w w' : World} {c : Nat} {a b d : Value} (h : Box3 w c a b d) (hb : Below w.heap.size w w') : Box3 w' c a b d := h.touch (lo := w'.heap.size) (hi := w'.heap.size) (Touch.of_below hb) (.inl (Nat.lt_of_lt_of_le h.lt hb.size))
theorem set_at3 {w : World} {c i j : Nat} {u v : Value} (h : w.cell? ⟨c, j, none⟩ = some u) : (w.setCell ⟨c, i, none⟩ v).cell? ⟨c, j, none⟩ = some (if i = j then v else u) := by
  by_cases e : i = j
  · subst e; rw [if_pos rfl]; exact World.cell?_setCell_same' _ _ _ (by rw [h]; rfl)
  · rw [if_neg e, World.cell?_setCell_other w ⟨c, i, none⟩ ⟨c, j, none⟩ v (by intro h; cases h; exact e rfl)]; exact h
theorem Box3.set {w : World} {c : Nat} {a b d : Value} (h : Box3 w c a b d) (i : Nat) (v : Value) : Box3 (w.setCell ⟨c, i, none⟩ v) c (if i = 0 then v else a) (if i = 1 then v else b) (if i = 2 then v else d) :=
  ⟨by simpa [World.setCell] using h.lt, set_at3 h.c0, set_at3 h.c1, set_at3 h.c2, fun o => by rw [World.frozen?_setCell]; exact h.fz o⟩
theorem Box3.far {w : World} {c : Nat} {a b d : Value} (h : Box3 w c a b d) (c' i : Nat) (v : Value) (hc : c' ≠ c) : Box3 (w.setCell ⟨c', i, none⟩ v) c a b d := by
  have hk : ∀ j, (w.setCell ⟨c', i, none⟩ v).cell? ⟨c, j, none⟩ = w.cell? ⟨c, j, none⟩ := fun j => World.cell?_setCell_other w ⟨c', i, none⟩ ⟨c, j, none⟩ v (by intro h; cases h; exact hc rfl)
  exact ⟨by simpa [World.setCell] using h.lt, (hk 0).trans h.c0, (hk 1).trans h.c1, (hk 2).trans h.c2, fun o => by rw [World.frozen?_setCell]; exact h.fz o⟩
theorem F32s.cut3 {w : World} {g off cap : Nat} {xs : List Nat} (h : F32s w (some ⟨g, off, none⟩) cap xs) (m : Nat) (hm : m ≤ xs.length) : F32s w (some ⟨g, off, none⟩) cap (xs.take m) ∧ F32s w (some ⟨g, off + m, none⟩) (cap - m) (xs.drop m) := by
  have h1 := h.len; have h2 := h.cap
  refine ⟨⟨by simp; omega, h2, ?_, fun x hx => h.lt x (List.mem_of_mem_take hx)⟩, ⟨by simp; omega, by omega, ?_, fun x hx => h.lt x (List.mem_of_mem_drop hx)⟩⟩
  · rcases h.rd with h3 | ⟨b, o, e, hb, hc⟩
    · left; rw [List.map_take, h3]; simp
    · right
      refine ⟨b, o, e, hb, fun j hj => ?_⟩
      simp only [List.length_map, List.length_take] at hj
      rw [hc j (by simp; omega), List.map_take, List.getElem?_take, if_pos (by omega)]
  · rcases h.rd with h3 | ⟨b, o, e, hb, hc⟩
    · left; rw [List.map_drop, h3]; simp
    · right
      cases e
      refine ⟨g, off + m, rfl, hb, fun j hj => ?_⟩
      simp only [List.length_map, List.length_drop] at hj
      rw [Nat.add_assoc, hc (m + j) (by simp; omega), List.map_drop, List.getElem?_drop]
end Go.Proofs.Ytfdgngnnncmfiaa
/- What copying, comparing, marking tensors and operations of tapes does. No condition. -/
namespace Go.Proofs.Ytfdgngnnncmfiaa
open Go Go.RowKit
set_option linter.unusedVariables false
set_option linter.unusedSimpArgs false
theorem bel3 {B g : Nat} {w w' : World} (hb : Below B w w') (hg : B ≤ g) (a b d : Value) : Below B w (((w'.setCell ⟨g, 0, none⟩ a).setCell ⟨g, 1, none⟩ b).setCell ⟨g, 2, none⟩ d) :=
  Below.setCell (p := ⟨g, 2, none⟩) (Below.setCell (p := ⟨g, 1, none⟩) (Below.setCell (p := ⟨g, 0, none⟩) hb hg a) hg b) hg d
theorem tch3 (w' : World) (g : Nat) (a b d : Value) : Touch g (g + 1) w' (((w'.setCell ⟨g, 0, none⟩ a).setCell ⟨g, 1, none⟩ b).setCell ⟨g, 2, none⟩ d) :=
  ((Touch.setCell (Nat.le_refl _) (Nat.lt_succ_self _)).trans (Touch.setCell (Nat.le_refl _) (Nat.lt_succ_self _))).trans (Touch.setCell (Nat.le_refl _) (Nat.lt_succ_self _))
theorem size3 (w' : World) (g : Nat) (a b d : Value) : (((w'.setCell ⟨g, 0, none⟩ a).setCell ⟨g, 1, none⟩ b).setCell ⟨g, 2, none⟩ d).heap.size = w'.heap.size := by simp [World.setCell]
theorem rep3 {w' : World} {lo hi lo' g n cap : Nat} {ad : Option Addr} {xs : List Nat} (h : RepF w' lo hi ad n cap xs) (hg : g < lo) (h1 : lo' ≤ lo) (h2 : hi ≤ w'.heap.size) (a b d : Value) :
    RepF (((w'.setCell ⟨g, 0, none⟩ a).setCell ⟨g, 1, none⟩ b).setCell ⟨g, 2, none⟩ d) lo' (((w'.setCell ⟨g, 0, none⟩ a).setCell ⟨g, 1, none⟩ b).setCell ⟨g, 2, none⟩ d).heap.size ad n cap xs :=
  (h.touch (tch3 w' g a b d) (.inr (by omega))).bounds h1 (by rw [size3]; exact h2)
set_option maxHeartbeats 2000000 in
theorem T_to (w : World) (r c : Int) (ad : Option Addr) (cap : Nat) (xs : List Nat) (h : F32s w ad cap xs) (hn : xs.length ≤ 1048576) :
    Calls Try.prog 10 #[.agg #[.int .i64 r, .int .i64 c, .slice ad xs.length cap]] w fun e w' => ∃ ad' cap', e = .returned (.agg #[.int .i64 r, .int .i64 c, .slice ad' xs.length cap']) ∧ Hid (RepF w' w.heap.size w'.heap.size ad' xs.length cap' xs) ∧ Below w.heap.size w w' := by
  have b3 := below3 w (.cells #[.int .i64 r, .int .i64 c, .slice ad xs.length cap] 27) (.cells #[.int .i64 0, .int .i64 0, .slice none 0 0] 38) (.cells #[.int .i64 r, .int .i64 c, .slice none 0 0] 38)
  have K := Lib.hid (F_to _ ad cap xs (h.below b3) hn)
  have RB := Lib.hid ((Box3.alloc2 w (.cells #[.int .i64 r, .int .i64 c, .slice ad xs.length cap] 27) (.int .i64 0) (.int .i64 0) (.slice none 0 0) 38).below (below1 _ (.cells #[.int .i64 r, .int .i64 c, .slice none 0 0] 38)))
  have ob := Box3.alloc2 (w.alloc (.cells #[.int .i64 r, .int .i64 c, .slice ad xs.length cap] 27)) (.cells #[.int .i64 0, .int .i64 0, .slice none 0 0] 38) (.int .i64 r) (.int .i64 c) (.slice none 0 0) 38
  rw [show (w.alloc (.cells #[.int .i64 r, .int .i64 c, .slice ad xs.length cap] 27)).heap.size = w.heap.size + 1 by simp] at ob
  have OB := Lib.hid ob; have B := Lib.hid b3
  obtain ⟨n, hN⟩ : ∃ n, n = xs.length := ⟨_, rfl⟩
  rw [← hN] at K RB OB B ⊢
  clear ob b3 h hN hn
  go_enter Try.func10, Try.ntmps10
  go_wp2_with fail
  refine K.out.mono ?_
  rintro e w' ⟨a', c', rfl, hr, hb⟩
  obtain ⟨-, r0, r1, r2, rf⟩ := RB.out.below hb
  obtain ⟨-, o0, o1, o2, of⟩ := OB.out.below hb
  have HR := Lib.hid hr; have HB := Lib.hid (bthen B.out hb)
  have hz := hb.size
  simp at hz
  clear hr hb
  go_wp2
  refine bodyPost_ret (v := .agg #[.int .i64 r, .int .i64 c, .slice a' n c']) (by simp [results, Try.results10, go_sem, r0, r1, r2, o0, o1, o2]) rfl ⟨_, _, rfl, Lib.hid ?_, ?_⟩
  · exact rep3 (HR.out.touch (lo2 := w.heap.size + 2) (hi2 := w.heap.size + 3) (Touch.setCell (Nat.le_refl _) (Nat.lt_succ_self _)) (.inr (by simp))) (by simp) (by simp; omega) (by simp [World.setCell]) _ _ _
  · exact bel3 (HB.out.setCell (p := ⟨w.heap.size + 2, 2, none⟩) (by show w.heap.size ≤ w.heap.size + 2; omega) _) (by omega) _ _ _
/-- a block of some cells that may be written -/
structure BoxN (w : World) (g : Nat) (vs : List Value) : Prop where
  lt : g < w.heap.size
  at' : ∀ j, j < vs.length → w.cell? ⟨g, j, none⟩ = vs[j]?
  fz : ∀ o, w.frozen? ⟨g, o, none⟩ = false
theorem BoxN.alloc (w : World) (cs : Array Value) (t : TypeId) : BoxN (w.alloc (.cells cs t)) w.heap.size cs.toList :=
  ⟨by simp, fun j hj => by rw [World.cell?_alloc_at _ _ _ _ rfl]; simp, fun o => World.frozen?_alloc_at _ _ _ _ rfl⟩
theorem BoxN.alloc2 (w : World) (o : Obj) (cs : Array Value) (t : TypeId) : BoxN ((w.alloc o).alloc (.cells cs t)) (w.heap.size + 1) cs.toList := by
  have h := BoxN.alloc (w.alloc o) cs t
  rwa [show (w.alloc o).heap.size = w.heap.size + 1 by simp] at h
theorem BoxN.alloc3 (w : World) (o o2 : Obj) (cs : Array Value) (t : TypeId) : BoxN (((w.alloc o).alloc o2).alloc (.cells cs t)) (w.heap.size + 2) cs.toList := by
  have h := BoxN.alloc2 (w.alloc o) o2 cs t
  rwa [show (w.alloc o).heap.size = w.heap.size + 1 by simp] at h
theorem BoxN.touch {w w' : World} {g lo hi : Nat} {vs : List Value} (h : BoxN w g vs) (ht : Touch lo hi w w') (hd : g < lo ∨ hi ≤ g) : BoxN w' g vs :=
  ⟨Nat.lt_of_lt_of_le h.lt ht.size, fun j hj => (touch_keep3 ht h.lt hd j).1.trans (h.at' j hj), fun o => (touch_keep3 ht h.lt hd o).2.trans (h.fz o)⟩
theorem BoxN.below {w w' : World} {g : Nat} {vs : List Value} (h : BoxN w g vs) (hb : Below w.heap.size w w') : BoxN w' g vs := h.touch (lo := w'.heap.size) (hi := w'.heap.size) (Touch.of_below hb) (.inl (Nat.lt_of_lt_of_le h.lt hb.size))
theorem BoxN.set {w : World} {g : Nat} {vs : List Value} (h : BoxN w g vs) (i : Nat) (v : Value) : BoxN (w.setCell ⟨g, i, none⟩ v) g (vs.set i v) := by
  refine ⟨by simpa [World.setCell] using h.lt, fun j hj => ?_, fun o => by rw [World.frozen?_setCell]; exact h.fz o⟩
  rw [List.length_set] at hj
  have h1 := h.at' j hj
  rw [List.getElem?_eq_getElem hj] at h1
  rw [set_at3 h1, List.getElem?_set]
  by_cases e : i = j
  · subst e; rw [if_pos rfl, if_pos rfl, if_pos hj]
  · rw [if_neg e, if_neg e, List.getElem?_eq_getElem hj]
theorem BoxN.far {w : World} {g : Nat} {vs : List Value} (h : BoxN w g vs) (g' i : Nat) (v : Value) (hc : g' ≠ g) : BoxN (w.setCell ⟨g', i, none⟩ v) g vs := by
  have hk : ∀ j, (w.setCell ⟨g', i, none⟩ v).cell? ⟨g, j, none⟩ = w.cell? ⟨g, j, none⟩ := fun j => World.cell?_setCell_other w ⟨g', i, none⟩ ⟨g, j, none⟩ v (by intro h; cases h; exact hc rfl)
  exact ⟨by simpa [World.setCell] using h.lt, fun j hj => (hk j).trans (h.at' j hj), fun o => by rw [World.frozen?_setCell]; exact h.fz o⟩
theorem BoxN.seven {w : World} {g : Nat} {a b c d e f k : Value} (h : BoxN w g [a, b, c, d, e, f, k]) : g < w.heap.size ∧ w.cell? ⟨g, 0, none⟩ = some a ∧ w.cell? ⟨g, 1, none⟩ = some b ∧ w.cell? ⟨g, 2, none⟩ = some c ∧ w.cell? ⟨g, 3, none⟩ = some d ∧ w.cell? ⟨g, 4, none⟩ = some e ∧ w.cell? ⟨g, 5, none⟩ = some f ∧ w.cell? ⟨g, 6, none⟩ = some k ∧ (∀ o, w.frozen? ⟨g, o, none⟩ = false) :=
  ⟨h.lt, h.at' 0 (by simp), h.at' 1 (by simp), h.at' 2 (by simp), h.at' 3 (by simp), h.at' 4 (by simp), h.at' 5 (by simp), h.at' 6 (by simp), h.fz⟩
theorem BoxN.three {w : World} {g : Nat} {a b c : Value} (h : BoxN w g [a, b, c]) : g < w.heap.size ∧ w.cell? ⟨g, 0, none⟩ = some a ∧ w.cell? ⟨g, 1, none⟩ = some b ∧ w.cell? ⟨g, 2, none⟩ = some c ∧ (∀ o, w.frozen? ⟨g, o, none⟩ = false) :=
  ⟨h.lt, h.at' 0 (by simp), h.at' 1 (by simp), h.at' 2 (by simp), h.fz⟩
/-- cells of a block written one after another -/
def setCs : World → Nat → Nat → List Value → World
  | w, _, _, [] => w
  | w, g, i, v :: vs => setCs (w.setCell ⟨g, i, none⟩ v) g (i + 1) vs
theorem setCs_size (w : World) (g i : Nat) (vs : List Value) : (setCs w g i vs).heap.size = w.heap.size := by
  induction vs generalizing w i with
  | nil => rfl
  | cons v vs ih => exact (ih _ _).trans (by simp [World.setCell])
theorem setCs_below {B g : Nat} {w w' : World} (hb : Below B w w') (hg : B ≤ g) (i : Nat) (vs : List Value) : Below B w (setCs w' g i vs) := by
  induction vs generalizing w' i with
  | nil => exact hb
  | cons v vs ih => exact ih (hb.setCell (p := ⟨g, i, none⟩) hg v) (i + 1)
theorem setCs_touch (w : World) (g i : Nat) (vs : List Value) : Touch g (g + 1) w (setCs w g i vs) := by
  induction vs generalizing w i with
  | nil => exact Touch.refl _ _ _
  | cons v vs ih => exact Touch.trans (Touch.setCell (Nat.le_refl _) (Nat.lt_succ_self _)) (ih _ _)
theorem setCs_repF {w' : World} {lo hi lo' g n cap : Nat} {ad : Option Addr} {xs : List Nat} (h : RepF w' lo hi ad n cap xs) (hg : g < lo) (h1 : lo' ≤ lo) (h2 : hi ≤ w'.heap.size) (i : Nat) (vs : List Value) : RepF (setCs w' g i vs) lo' (setCs w' g i vs).heap.size ad n cap xs :=
  (h.touch (setCs_touch w' g i vs) (.inr (by omega))).bounds h1 (by rw [setCs_size]; exact h2)
theorem setCs_own {w : World} {lo hi : Nat} {e : TypeId} {size g n cap : Nat} {us : List Value} {L : List RowD} (h : Own w lo hi (⟨e, size, some ⟨g, 0, none⟩, n, cap, us⟩ :: L)) (i : Nat) (vs : List Value) : Own (setCs w g i vs) lo hi (⟨e, size, some ⟨g, 0, none⟩, n, cap, setL us i vs⟩ :: L) := by
  induction vs generalizing w i us with
  | nil => exact h
  | cons v vs ih => exact ih (h.store i v) (i + 1)
theorem T_sz (w : World) (r c : Int) (ad : Option Addr) (n cap : Nat) (L : Int) (hn : n ≤ maxLen) (h0 : 0 ≤ L) (h1 : L ≤ 1048576) : Calls Try.prog 7 #[.agg #[.int .i64 r, .int .i64 c, .slice ad n cap], .int .i64 L] w fun e w' => e = .returned (.int .i64 (if (n : Int) ≤ L then L - n else -1)) ∧ Below w.heap.size w w' := by
  have K := Lib.hid (fun W => sz_f32s W ad n cap L hn h0 h1)
  by_cases h : (n : Int) ≤ L
  · rw [if_pos h] at K ⊢
    have hp : 0 ≤ L - n := by omega
    go_enter Try.func7, Try.ntmps7
    go_wp2_with fail
    refine (K.out _).mono ?_
    rintro e w1 ⟨rfl, rfl⟩
    go_wp2
    go_ret
    exact ⟨rfl, below1 _ _⟩
  · rw [if_neg h] at K ⊢
    go_enter Try.func7, Try.ntmps7
    go_wp2_with fail
    refine (K.out _).mono ?_
    rintro e w1 ⟨rfl, rfl⟩
    go_wp2
    go_ret
    exact ⟨rfl, below1 _ _⟩
set_option maxHeartbeats 1000000 in
theorem T_eq (w : World) (r c : Int) (a1 a2 : Option Addr) (c1 c2 : Nat) (xs ys : List Nat) (h1 : F32s w a1 c1 xs) (h2 : F32s w a2 c2 ys) (hn : xs.length ≤ 1048576) (he : xs.map (cn .f32) = ys.map (cn .f32)) :
    Calls Try.prog 15 #[.agg #[.int .i64 r, .int .i64 c, .slice a1 xs.length c1], .agg #[.int .i64 r, .int .i64 c, .slice a2 ys.length c2]] w fun e w' => e = .returned (.bool true) ∧ Below w.heap.size w w' := by
  have b2 := below2 w (.cells #[.int .i64 r, .int .i64 c, .slice a1 xs.length c1] 38) (.cells #[.int .i64 r, .int .i64 c, .slice a2 ys.length c2] 38)
  have K := Lib.hid (laws_eqFloat32S a1 a2 c1 c2 xs ys _ (h1.below b2) (h2.below b2) hn he)
  have B := Lib.hid b2
  obtain ⟨n, hN⟩ : ∃ n, n = xs.length := ⟨_, rfl⟩
  obtain ⟨m, hM⟩ : ∃ m, m = ys.length := ⟨_, rfl⟩
  rw [← hN, ← hM] at K B ⊢
  clear b2 h1 h2 hn he hN hM
  go_enter Try.func15, Try.ntmps15
  go_wp2_with fail
  refine K.out.mono ?_
  rintro e w1 ⟨rfl, hd⟩
  go_wp2
  go_ret
  exact ⟨rfl, bthen B.out hd.below⟩
theorem T_mark (w : World) {lo hi : Nat} (r c : Int) {ad : Option Addr} {n cap : Nat} {xs : List Nat} (k0 : Nat) (h : RepF w lo hi ad n cap xs) (hhi : hi ≤ w.heap.size) (hn : n ≤ 1048576) (hk : k0 ≤ 100000000) :
    Calls Try.prog 17 #[.agg #[.int .i64 r, .int .i64 c, .slice ad n cap], .int .i64 k0] w fun e w' => e = .returned (.int .i64 (k0 + n : Nat)) ∧ RepF w' lo hi ad n cap (markF k0 n) ∧ Touch lo hi w w' := by
  have K := Lib.hid (fun W (hW : RepF W lo hi ad n cap xs) => F_mark W k0 hW hn hk)
  have b1 := below1 w (.cells #[.int .i64 r, .int .i64 c, .slice ad n cap] 38)
  have H := Lib.hid (h.below b1); have B := Lib.hid b1
  clear h b1
  go_enter Try.func17, Try.ntmps17
  go_wp2_with fail
  refine (K.out _ H.out).mono ?_
  rintro e w1 ⟨rfl, hr, ht⟩
  go_wp2
  go_ret
  exact ⟨rfl, hr, (Touch.of_below B.out).trans ht⟩
end Go.Proofs.Ytfdgngnnncmfiaa
/- What copying, comparing, marking operations of tapes does. No condition. -/
namespace Go.Proofs.Ytfdgngnnncmfiaa
open Go Go.RowKit
set_option linter.unusedVariables false
set_option linter.unusedSimpArgs false
end Go.Proofs.Ytfdgngnnncmfiaa
/- What measuring and copying lists of operations does. No condition. -/
namespace Go.Proofs.Ytfdgngnnncmfiaa
open Go Go.RowKit
set_option linter.unusedVariables false
set_option linter.unusedSimpArgs false
/-- how many numbers the first records have -/
def sumBy {α : Type} (f : α → Nat) (us : List α) (k : Nat) : Nat := ((us.take k).map f).sum
theorem sumBy_zero {α : Type} (f : α → Nat) (us : List α) : sumBy f us 0 = 0 := by simp [sumBy]
theorem sumBy_succ {α : Type} (f : α → Nat) {us : List α} {k : Nat} {a : α} (h : us[k]? = some a) : sumBy f us (k + 1) = sumBy f us k + f a := by
  obtain ⟨hk, rfl⟩ := List.getElem?_eq_some_iff.1 h
  unfold sumBy
  rw [List.take_succ_eq_append_getElem hk, List.map_append, List.sum_append]
  simp
theorem sumBy_le {α : Type} (f : α → Nat) (us : List α) {k n : Nat} (h : k ≤ n) : sumBy f us k ≤ sumBy f us n := by
  unfold sumBy
  have : us.take n = us.take k ++ (us.take n).drop k := by
    have := (List.take_append_drop k (us.take n)).symm
    rwa [List.take_take, Nat.min_eq_left h] at this
  rw [this, List.map_append, List.sum_append]; omega
theorem sumBy_mem {α : Type} (f : α → Nat) {us : List α} {a : α} (h : a ∈ us) : f a ≤ sumBy f us us.length := by
  unfold sumBy
  rw [List.take_length]
  induction us with
  | nil => cases h
  | cons x xs ih =>
    rw [List.map_cons, List.sum_cons]
    rcases List.mem_cons.1 h with rfl | h
    · omega
    · have := ih h; omega
def leftBy {α : Type} (f : α → Nat) (us : List α) (L : Int) : Int := if (us.length + sumBy f us us.length : Nat) ≤ L then L - (us.length + sumBy f us us.length : Nat) else -1
theorem getElem?_lt {α : Type} {us : List α} {k : Nat} (h : k < us.length) : ∃ a, us[k]? = some a := ⟨us[k], List.getElem?_eq_getElem h⟩
theorem info_op : (Try.prog.info? 68).map (fun i => (i.zero, i.size, i.bytes)) = some (some (.agg #[.int .i64 0, .int .i64 0, .int .i64 0, .float .f32 0, .int .i64 0, .int .i64 0, .slice none 0 0]), 7, 72) := by kernel_rfl
theorem info_ten : (Try.prog.info? 38).map (fun i => (i.zero, i.size, i.bytes)) = some (some (.agg #[.int .i64 0, .int .i64 0, .slice none 0 0]), 3, 40) := by kernel_rfl
theorem made_flat {α : Type} (R : RecT α) (z : α) (n : Nat) (cs : Array Value) (hcs : cs.toList = R.cells z) (hs : 0 < R.size) : (madeCells cs (n * R.size)).toList = (List.replicate n z).flatMap R.cells := by
  have hsz : cs.size = R.size := by have := R.len z; rw [← hcs] at this; simpa using this
  apply List.ext_getElem?
  intro j
  by_cases hj : j < n * R.size
  · have hk : j / R.size < n := (Nat.div_lt_iff_lt_mul hs).2 hj
    have hm := Nat.mod_lt j hs
    have e : j = (j / R.size) * R.size + j % R.size := by rw [Nat.mul_comm]; exact (Nat.div_add_mod j R.size).symm
    have e2 := flat_at R (List.replicate n z) (k := j / R.size) (j := j % R.size) (a := z) (by rw [List.getElem?_replicate, if_pos hk]) hm
    rw [← e] at e2
    rw [e2, ← hcs]
    have hm2 : j % cs.size < cs.size := by rw [hsz]; exact hm
    simp [madeCells, hj, hsz] 
    rw [getElem!_pos cs (j % R.size) (by rw [hsz]; exact hm), Array.getElem?_eq_getElem (by rw [hsz]; exact hm)]
  · rw [List.getElem?_eq_none (by simp [madeCells]; omega), List.getElem?_eq_none (by rw [flat_len]; simp; omega)]
end Go.Proofs.Ytfdgngnnncmfiaa
/- What copying, comparing, marking lists of operations does. No condition. -/
namespace Go.Proofs.Ytfdgngnnncmfiaa
open Go Go.RowKit
set_option linter.unusedVariables false
set_option linter.unusedSimpArgs false
theorem set_take {α β : Type} (f : α → β) {us : List α} {vs : List β} {k : Nat} {a : α} {b : β} (h : us.map f = vs.take k ++ (us.map f).drop k) (hk : k < us.length) (hl : us.length = vs.length) (hv : vs[k]? = some b) (hb : f a = b) : (us.set k a).map f = vs.take (k + 1) ++ ((us.set k a).map f).drop (k + 1) := by
  have hkv : k < vs.length := by omega
  have e1 : ((us.map f).take k) = vs.take k := by rw [h, List.take_append_of_le_length (by simp; omega), List.take_take]; simp
  have e2 : (us.set k a).map f = (us.map f).set k b := by rw [List.map_set, hb]
  rw [e2]
  obtain ⟨h3, rfl⟩ := List.getElem?_eq_some_iff.1 hv
  rw [List.take_succ_eq_append_getElem hkv, ← e1, List.drop_set, if_pos (by omega), List.set_eq_take_append_cons_drop, if_pos (by simpa using hk)]
  simp
end Go.Proofs.Ytfdgngnnncmfiaa
/- What comparing, marking lists of operations does. No condition. -/
namespace Go.Proofs.Ytfdgngnnncmfiaa
open Go Go.RowKit
set_option linter.unusedVariables false
set_option linter.unusedSimpArgs false
end Go.Proofs.Ytfdgngnnncmfiaa
/- What marking lists of operations does. No condition. -/
namespace Go.Proofs.Ytfdgngnnncmfiaa
open Go Go.RowKit
set_option linter.unusedVariables false
set_option linter.unusedSimpArgs false
theorem set_same {α : Type} {us : List α} {i : Nat} {a : α} (h : us[i]? = some a) : us.set i a = us := by
  obtain ⟨hi, rfl⟩ := List.getElem?_eq_some_iff.1 h
  exact List.set_getElem_self hi
theorem set_mid {α : Type} (A B : List α) (o p : α) : (A ++ o :: B).set A.length p = A ++ p :: B := by
  rw [List.set_append, if_neg (by omega), Nat.sub_self, List.set_cons_zero]
theorem get_mid {α : Type} (A B : List α) (o : α) : (A ++ o :: B)[A.length]? = some o := by
  rw [List.getElem?_append_right (Nat.le_refl _), Nat.sub_self]; rfl
theorem setL_append (vs : List Value) (i : Nat) (cs ds : List Value) : setL vs i (cs ++ ds) = setL (setL vs i cs) (i + cs.length) ds := by
  induction cs generalizing vs i with
  | nil => rfl
  | cons c cs ih =>
    show setL (vs.set i c) (i + 1) (cs ++ ds) = _
    rw [ih, List.length_cons, Nat.add_right_comm, Nat.add_assoc]; rfl
theorem setL_get (vs : List Value) (i : Nat) (cs : List Value) (j : Nat) (h : j < i ∨ i + cs.length ≤ j) : (setL vs i cs)[j]? = vs[j]? := by
  induction cs generalizing vs i with
  | nil => rfl
  | cons c cs ih =>
    show (setL (vs.set i c) (i + 1) cs)[j]? = _
    rw [ih _ _ (by simp at h; omega), List.getElem?_set_ne (by simp at h; omega)]
end Go.Proofs.Ytfdgngnnncmfiaa
/- What the next seed is. No condition. -/
namespace Go.Proofs.Ytfdgngnnncmfiaa
open Go Go.RowKit
set_option linter.unusedVariables false
end Go.Proofs.Ytfdgngnnncmfiaa
/- Plain laws of shuffled rows. No condition. -/
namespace Go.Proofs.Ytfdgngnnncmfiaa
open Go Go.RowKit
set_option linter.unusedVariables false
set_option linter.unusedSimpArgs false
end Go.Proofs.Ytfdgngnnncmfiaa
/- What shuffled rows and batches are. No condition. -/
namespace Go.Proofs.Ytfdgngnnncmfiaa
open Go Go.RowKit
set_option linter.unusedVariables false
set_option linter.unusedSimpArgs false
end Go.Proofs.Ytfdgngnnncmfiaa
/- What a loss that is bent and its gradients are. No condition. -/
namespace Go.Proofs.Ytfdgngnnncmfiaa
open Go Go.RowKit
set_option linter.unusedVariables false
set_option linter.unusedSimpArgs false
end Go.Proofs.Ytfdgngnnncmfiaa
/- What square roots, copies of lists and gradients that are not too long are. No condition. -/
namespace Go.Proofs.Ytfdgngnnncmfiaa
open Go Go.RowKit Ieee
set_option linter.unusedVariables false
set_option linter.unusedSimpArgs false
theorem RepF.nilcap {w : World} {lo hi : Nat} {ad : Option Addr} {n cap : Nat} {xs : List Nat} (h : RepF w lo hi ad n cap xs) : ad = none → cap = 0 := by
  intro e
  subst e
  rcases h.row.own.2 with ⟨h1, _⟩ | ⟨g, cap', cur, h1, _⟩
  · cases h1; rfl
  · cases h1
/-- a whole list is appended to a row of the call's own -/
theorem wp_cat {P : Program} {ops : Array Oper} {rest : List Oper} {o : Oper} {a : Act} {Q : Exit → Act → World → Prop} {e : TypeId} {W : World} (hgd : o.guard = none) (s x : Operand) (t : TypeId)
    (ho : o.op = .call { callee := .builtin .append, args := #[s, x], argTypes := #[t, t] })
    (base : Nat) (i : TypeInfo) (z : Value) (bytes : Nat) (ht : P.underlying t = some (.slice e)) (hi : P.info? e = some i) (hz : i.zero = some z)
    (hsize : i.size = 1) (hby : i.bytes = bytes) (hzs : z.cells.size = 1)
    (v : Value) (n : Nat) (xs : List Value) (hs : a.eval s = v) (hown : W.ownsRow base e 1 v n xs)
    (ad : Option Addr) (m c : Nat) (news : List Value) (hx : a.eval x = .slice ad m c) (hn : ad = none → c = 0) (hl : news.length = m) (hr : Rd W ad news) (h1 : ∀ u ∈ news, u.oneCell' = true)
    (h63 : n + m ≤ maxLen) (hbytes : (n + m) * bytes ≤ 140737488355328) (hbase : base ≤ W.heap.size)
    (h : ∀ v' w', w'.ownsRow base e 1 v' (n + m) (xs ++ news) → Below base W w' → base ≤ w'.heap.size → wpList P ops Q rest (a.put o.dst v') w') : wpList P ops Q (o :: rest) a W := by
  cases ad with
  | none =>
    obtain rfl := hn rfl
    have h0 : news = [] := by
      rcases hr with hr | ⟨b, off, hb, _⟩
      · exact hr
      · cases hb
    subst h0
    obtain rfl : m = 0 := hl.symm
    exact wpList_append_own_none hgd s x t ho base e i 1 ht hi v n xs hs hown hx (h v W (by simpa using hown) (Below.refl _ _) hbase)
  | some p =>
    refine wpList_append_own W hgd s x t ho base e i z 1 bytes ht hi hz hsize hby hzs (by decide) v n xs hs hown p m c news hx (by omega) ?_ h1 h63 hbytes hbase ?_
    · intro j u hj
      rcases hr with hr | ⟨b, off, hb, _, hc⟩
      · rw [hr] at hj; cases hj
      · cases hb
        have hlt : j < news.length := (List.getElem?_eq_some_iff.1 hj).1
        rw [Addr.add_lit]; exact (hc j hlt).trans hj
    · intro v' w' h2 hg _
      refine h v' w' h2 ((Below.refl _ _).grown hg hbase (fun j hj => (hown.lt j hj).1)) (Nat.le_trans hbase hg.size)
set_option maxRecDepth 100000 in
theorem spec_l02Own (w : World) (ad : Option Addr) (cap : Nat) (xs : List Nat) (h : F32s w ad cap xs) (hc : ad = none → cap = 0) (hn : xs.length ≤ 1048576) :
    Calls Try.prog 47 #[.slice ad xs.length cap] w fun e w' => ∃ (v : Value), e = .returned v ∧ w'.ownsRow w.heap.size 49 1 v xs.length (xs.map (Value.float .f32)) ∧ Below w.heap.size w w' := by
  obtain ⟨i0, hi, hz0, hz1, hz2⟩ := info_parts info_f32
  obtain ⟨n, hN⟩ : ∃ n, n = xs.length := ⟨_, rfl⟩
  have hr := h.rd
  have h1 : ∀ u ∈ xs.map (Value.float .f32), u.oneCell' = true := by intro u hu; obtain ⟨x, _, rfl⟩ := List.mem_map.1 hu; rfl
  have hl : (xs.map (Value.float .f32)).length = n := by rw [List.length_map, hN]
  rw [← hN] at hn ⊢
  have HL := Lib.hid hl; clear hN hl h
  go_enter Try.func47, Try.ntmps47
  go_wp2_with (at_builtin; refine wp_cat rfl _ _ 25 rfl w.heap.size i0 (.float .f32 0) 4 Try.underlying25 hi hz0 hz1 hz2 rfl _ 0 [] rfl (World.ownsRow_made _ _ _ (Nat.le_refl _) (Nat.zero_le _) rfl) ad n cap _ rfl hc HL.out (hr.below (below1 _ _) (Nat.le_refl _)) h1 ?c3 ?c4 ?c5 ?_)
  case c3 => unfold maxLen; omega
  case c4 => omega
  case c5 => simp
  intro v' w9 hown1 hb1 hbs1
  go_wp2
  go_ret
  exact ⟨_, rfl, by simpa using hown1, (below1 _ _).trans hb1⟩
set_option maxRecDepth 100000 in
theorem slices_Clone (w : World) (ad : Option Addr) (cap : Nat) (xs : List Nat) (h : F32s w ad cap xs) (hc : ad = none → cap = 0) (hn : xs.length ≤ 1048576) :
    Calls Try.prog 67 #[.slice ad xs.length cap] w fun e w' => ∃ (v : Value), e = .returned v ∧ w'.ownsRow w.heap.size 49 1 v xs.length (xs.map (Value.float .f32)) ∧ Below w.heap.size w w' := by
  obtain ⟨i0, hi, hz0, hz1, hz2⟩ := info_parts info_f32
  obtain ⟨n, hN⟩ : ∃ n, n = xs.length := ⟨_, rfl⟩
  have hr := h.rd
  have h1 : ∀ u ∈ xs.map (Value.float .f32), u.oneCell' = true := by intro u hu; obtain ⟨x, _, rfl⟩ := List.mem_map.1 hu; rfl
  have hl : (xs.map (Value.float .f32)).length = n := by rw [List.length_map, hN]
  rw [← hN] at hn ⊢
  have HL := Lib.hid hl; clear hN hl h
  cases ad with
  | none =>
    obtain rfl := hc rfl
    have h0 : xs = [] := by
      rcases hr with hr | ⟨b, off, hb, _⟩
      · simpa using hr
      · cases hb
    subst h0
    obtain rfl : n = 0 := HL.out.symm
    have he : ∀ w : World, (binOp .eql 25 (.slice none 0 0) (.slice none 0 0)).run Try.prog w = .ok (.bool true) w := fun _ => rfl
    go_enter Try.func67, Try.ntmps67
    go_wp2
    go_ret
    exact ⟨_, rfl, World.ownsRow_nil _ _ _ _, Below.refl _ _⟩
  | some p =>
    have he : ∀ w : World, (binOp .eql 25 (.slice (some p) n cap) (.slice none 0 0)).run Try.prog w = .ok (.bool false) w := fun _ => rfl
    go_enter Try.func67, Try.ntmps67
    go_wp2_with (at_builtin; refine wp_cat rfl _ _ 25 rfl w.heap.size i0 (.float .f32 0) 4 Try.underlying25 hi hz0 hz1 hz2 rfl _ 0 [] rfl (World.ownsRow_made _ _ _ (Nat.le_refl _) (Nat.zero_le _) rfl) (some p) n cap _ rfl (fun h => nomatch h) HL.out (hr.below (below1 _ _) (Nat.le_refl _)) h1 ?c3 ?c4 ?c5 ?_)
    case c3 => unfold maxLen; omega
    case c4 => omega
    case c5 => simp
    intro v' w9 hown1 hb1 hbs1
    go_wp2
    go_ret
    exact ⟨_, rfl, by simpa using hown1, (below1 _ _).trans hb1⟩
end Go.Proofs.Ytfdgngnnncmfiaa
/- What batches are. No condition. -/
namespace Go.Proofs.Ytfdgngnnncmfiaa
open Go Go.RowKit
set_option linter.unusedVariables false
set_option linter.unusedSimpArgs false
theorem impl_isTensorSide (n : Int) (w : World) : Calls Try.prog 66 #[.int .i64 n] w fun e w' => e = .returned (.bool (inB n 1 16)) ∧ w = w' := by
  have k1 := fun W => within_any n 1 16 W
  go_enter Try.func66, Try.ntmps66
  go_wp2_with fail
  refine (k1 _).mono ?_
  rintro e w1 ⟨rfl, rfl⟩
  go_wp2
  go_ret
  exact ⟨rfl, rfl⟩
end Go.Proofs.Ytfdgngnnncmfiaa
/- What the tensors' first functions do. No condition. -/
namespace Go.Proofs.Ytfdgngnnncmfiaa
open Go Go.RowKit
set_option linter.unusedVariables false
set_option linter.unusedSimpArgs false
/-- a tensor's sides fit its numbers -/
def tenB (r c : Int) (n : Nat) : Bool := inB r 1 16 && (inB c 1 16 && decide ((n : Int) = r * c))
theorem tenB_iff {r c : Int} {n : Nat} : tenB r c n = true ↔ (1 ≤ r ∧ r ≤ 16) ∧ (1 ≤ c ∧ c ≤ 16) ∧ (n : Int) = r * c := by
  unfold tenB; simp only [Bool.and_eq_true, inB_iff, decide_eq_true_eq]
set_option maxHeartbeats 1000000 in
theorem impl_ValidTensor (r c : Int) (ad : Option Addr) (n cap : Nat) (hn : n ≤ maxLen) (w : World) : Calls Try.prog 50 #[.agg #[.int .i64 r, .int .i64 c, .slice ad n cap]] w fun e w' => e = .returned (.bool (tenB r c n)) ∧ Below w.heap.size w w' := by
  unfold maxLen at hn
  have K1 := Lib.hid (fun W => impl_isTensorSide r W)
  have K2 := Lib.hid (fun W => impl_isTensorSide c W)
  have ht : tenB r c n = (inB r 1 16 && (inB c 1 16 && decide ((n : Int) = r * c))) := rfl
  rw [ht]
  clear ht
  cases h1 : inB r 1 16
  · rw [h1] at K1
    clear h1
    go_enter Try.func50, Try.ntmps50
    go_wp2_with fail
    refine (K1.out _).mono ?_
    rintro e w1 ⟨rfl, rfl⟩
    go_wp2
    go_ret
    exact ⟨rfl, below1 _ _⟩
  · rw [h1] at K1
    have ⟨a1, a2⟩ := inB_iff.1 h1
    clear h1
    cases h2 : inB c 1 16
    · rw [h2] at K2
      clear h2
      go_enter Try.func50, Try.ntmps50
      go_wp2_with fail
      refine (K1.out _).mono ?_
      rintro e w1 ⟨rfl, rfl⟩
      go_wp2_with fail
      refine (K2.out _).mono ?_
      rintro e w1 ⟨rfl, rfl⟩
      go_wp2
      go_ret
      exact ⟨rfl, below1 _ _⟩
    · rw [h2] at K2
      have ⟨b1, b2⟩ := inB_iff.1 h2
      clear h2
      obtain ⟨p, hp⟩ : ∃ p, p = r * c := ⟨_, rfl⟩
      have p1 : 0 ≤ p := by rw [hp]; exact Int.mul_nonneg (by omega) (by omega)
      have p2 : p ≤ 256 := by
        rw [hp]
        have h3 : r * c ≤ 16 * c := Int.mul_le_mul_of_nonneg_right a2 (by omega)
        omega
      rw [← hp]
      have hpw : wrap64 (r * c) = p := by rw [← hp]; unfold wrap64; omega
      clear hp
      go_enter Try.func50, Try.ntmps50
      go_wp2_with fail
      refine (K1.out _).mono ?_
      rintro e w1 ⟨rfl, rfl⟩
      go_wp2_with fail
      refine (K2.out _).mono ?_
      rintro e w1 ⟨rfl, rfl⟩
      go_wp2
      go_ret
      exact ⟨by congr 2, below1 _ _⟩
end Go.Proofs.Ytfdgngnnncmfiaa
/- What comparing two numbers bit by bit computes. No condition. -/
namespace Go.Proofs.Ytfdgngnnncmfiaa
open Go Go.RowKit Ieee
set_option linter.unusedVariables false
set_option linter.unusedSimpArgs false
end Go.Proofs.Ytfdgngnnncmfiaa
/- The shapes of the values of a tape. No condition. -/
namespace Go.Proofs.Ytfdgngnnncmfiaa
open Go Go.RowKit
set_option linter.unusedVariables false
set_option linter.unusedSimpArgs false
/-- rows and columns -/
abbrev Sh := Int × Int
def twoB (k : Int) : Bool := k == 1 || (k == 2 || (k == 3 || (k == 4 || k == 6)))
def zeroB (x : Nat) : Bool := decide (cn .f32 x = cn .f32 0)
def fitsB (i : Int) (o : OpP) : Bool :=
  inB o.k 0 10 && ((o.k == 5 || zeroB o.num) && (if o.k = 0 then (o.a == 0 && (o.b == 0 && tenB o.r o.c o.xs.length)) else (o.r == 0 && (o.c == 0 && (decide (o.xs.length = 0) && (inB o.a 0 (i - 1) && (if twoB o.k = true then inB o.b 0 (i - 1) else o.b == 0)))))))
/-- the shape of an operation's value, where it fits -/
def shapeOf (k : Int) (v w : Sh) : Option Sh :=
  if k = 1 ∨ k = 3 then (if v = w then some v else none)
  else if k = 2 ∨ k = 4 then (if w = (1, v.2) then some v else none)
  else if k = 6 then (if v.2 = w.1 then some (v.1, w.2) else none)
  else if k = 7 then some (v.2, v.1)
  else if k = 10 then some (1, 1)
  else some v
def shGet (S : List Sh) (i : Int) : Sh := S.getD i.toNat (0, 0)
def stepSh (S : List Sh) (o : OpP) : Option (List Sh) :=
  if fitsB S.length o = true then (if o.k = 0 then some (S ++ [(o.r, o.c)]) else (shapeOf o.k (shGet S o.a) (shGet S o.b)).map fun s => S ++ [s]) else none
def shapesN (os : List OpP) (k : Nat) : Option (List Sh) := (os.take k).foldlM stepSh []
/-- the shapes of a valid tape -/
def shapesP (os : List OpP) : Option (List Sh) := if 1 ≤ os.length ∧ os.length ≤ 48 then shapesN os os.length else none
theorem shapesN_succ {os : List OpP} {k : Nat} {o : OpP} (h : os[k]? = some o) : shapesN os (k + 1) = (shapesN os k).bind fun S => stepSh S o := by
  obtain ⟨hk, rfl⟩ := List.getElem?_eq_some_iff.1 h
  unfold shapesN
  rw [List.take_succ_eq_append_getElem hk, List.foldlM_append]
  simp [List.foldlM]
theorem stepSh_length {S S' : List Sh} {o : OpP} (h : stepSh S o = some S') : S'.length = S.length + 1 := by
  unfold stepSh at h
  split at h
  · split at h
    · cases h; simp
    · cases e : shapeOf o.k (shGet S o.a) (shGet S o.b) with
      | none => rw [e] at h; cases h
      | some s => rw [e] at h; cases h; simp
  · cases h
theorem shapesN_length {os : List OpP} {k : Nat} {S : List Sh} (hk : k ≤ os.length) (h : shapesN os k = some S) : S.length = k := by
  induction k generalizing S with
  | zero => unfold shapesN at h; simp at h; subst h; rfl
  | succ k ih =>
    obtain ⟨o, ho⟩ := getElem?_lt (show k < os.length by omega)
    rw [shapesN_succ ho] at h
    cases e : shapesN os k with
    | none => rw [e] at h; cases h
    | some S0 =>
      rw [e] at h
      have := stepSh_length h
      rw [this, ih (by omega) e]
theorem shapesN_none {os : List OpP} {k n : Nat} (h : shapesN os k = none) (hk : k ≤ n) (hn : n ≤ os.length) : shapesN os n = none := by
  induction n with
  | zero => have : k = 0 := by omega
            subst this; exact h
  | succ n ih =>
    by_cases e : k = n + 1
    · subst e; exact h
    · obtain ⟨o, ho⟩ := getElem?_lt (show n < os.length by omega)
      rw [shapesN_succ ho, ih (by omega) (by omega)]; rfl
end Go.Proofs.Ytfdgngnnncmfiaa
/- What the reference's small functions on tensors and operations are. No condition. -/
namespace Go.Proofs.Ytfdgngnnncmfiaa
open Go Go.RowKit
set_option linter.unusedVariables false
set_option linter.unusedSimpArgs false
theorem spec_l02Shape (r c : Int) (w : World) : Calls Try.prog 44 #[.int .i64 r, .int .i64 c] w fun e w' => e = .returned (.bool (inB r 1 16 && inB c 1 16)) ∧ w = w' := by
  have K1 := Lib.hid (fun W => l00In_any r 1 16 W)
  have K2 := Lib.hid (fun W => l00In_any c 1 16 W)
  cases h1 : inB r 1 16
  · rw [h1] at K1
    clear h1
    go_enter Try.func44, Try.ntmps44
    go_wp2_with fail
    refine (K1.out _).mono ?_
    rintro e w1 ⟨rfl, rfl⟩
    go_wp2
    go_ret
    exact ⟨rfl, rfl⟩
  · rw [h1] at K1
    clear h1
    go_enter Try.func44, Try.ntmps44
    go_wp2_with fail
    refine (K1.out _).mono ?_
    rintro e w1 ⟨rfl, rfl⟩
    go_wp2_with fail
    refine (K2.out _).mono ?_
    rintro e w1 ⟨rfl, rfl⟩
    go_wp2
    go_ret
    exact ⟨rfl, rfl⟩
set_option maxHeartbeats 2000000 in
theorem spec_l02Is (w : World) (g o : Nat) (r c : Int) (ad : Option Addr) (n cap : Nat) (hn : n ≤ maxLen) (p0 : w.cell? ⟨g, o, none⟩ = some (.int .i64 r)) (p1 : w.cell? ⟨g, o + 1, none⟩ = some (.int .i64 c)) (p2 : w.cell? ⟨g, o + 2, none⟩ = some (.slice ad n cap)) :
    Calls Try.prog 32 #[.pointer (some ⟨g, o, none⟩)] w fun e w' => e = .returned (.bool (tenB r c n)) ∧ Dr w w' := by
  unfold maxLen at hn
  have KS := Lib.hid (fun W => spec_l02Shape r c W)
  have ht : tenB r c n = ((inB r 1 16 && inB c 1 16) && decide ((n : Int) = r * c)) := by unfold tenB; rw [Bool.and_assoc]
  rw [ht]
  clear ht
  obtain ⟨p, hp⟩ : ∃ p, p = r * c := ⟨_, rfl⟩
  cases h1 : (inB r 1 16 && inB c 1 16)
  · rw [h1] at KS
    clear h1 hp
    go_enter Try.func32, Try.ntmps32
    go_wp2
    refine wp_region_drawn (fun f args v => v = .bool false) (by kernel_rfl) (by kernel_rfl) ?_
    repeat (refine wset_step (fun K hK nq => ?_); go_simp; refine hK _ ?_; clear hK K)
    refine wset_step (fun K hK nq => ?_)
    go_simp
    refine ⟨(KS.out _).mono ?_, ?_⟩
    · rintro e w' ⟨rfl, rfl⟩
      exact ⟨rfl, _, rfl⟩
    refine hK _ ?_
    clear hK K
    repeat (refine wset_step (fun K hK nq => ?_); go_simp; refine hK _ ?_; clear hK K)
    refine wset_nil ?_
    rintro w' ⟨q, rfl⟩
    go_wp2
    go_ret
    exact ⟨rfl, _, rfl⟩
  · rw [h1] at KS
    simp only [Bool.and_eq_true] at h1
    have ⟨a1, a2⟩ := inB_iff.1 h1.1
    have ⟨b1, b2⟩ := inB_iff.1 h1.2
    have q1 : 0 ≤ p := by rw [hp]; exact Int.mul_nonneg (by omega) (by omega)
    have q2 : p ≤ 256 := by
      rw [hp]
      have h3 : r * c ≤ 16 * c := Int.mul_le_mul_of_nonneg_right a2 (by omega)
      omega
    rw [← hp]
    have hpw : IntKind.i64.wrap (r * c) = p := by rw [← hp, IntKind.wrap_i64]; omega
    have hq : ((n : Int) == IntKind.i64.wrap (r * c)) = decide ((n : Int) = p) := by rw [hpw]; rfl
    have HQ := Lib.hid hq
    clear hp h1 a1 a2 b1 b2 hpw hq
    go_enter Try.func32, Try.ntmps32
    go_wp2
    refine wp_region_drawn (fun f args v => v = .bool true) (by kernel_rfl) (by kernel_rfl) ?_
    repeat (refine wset_step (fun K hK nq => ?_); go_simp; refine hK _ ?_; clear hK K)
    refine wset_step (fun K hK nq => ?_)
    go_simp
    refine ⟨(KS.out _).mono ?_, ?_⟩
    · rintro e w' ⟨rfl, rfl⟩
      exact ⟨rfl, _, rfl⟩
    refine hK _ ?_
    clear hK K
    repeat (refine wset_step (fun K hK nq => ?_); go_simp; refine hK _ ?_; clear hK K)
    refine wset_nil ?_
    rintro w' ⟨q, rfl⟩
    go_wp2
    go_ret
    refine ⟨?_, _, rfl⟩
    show Ending.returned (Value.bool _) = Ending.returned (Value.bool _)
    rw [HQ.out]; rfl
theorem spec_l04Two (k : Int) (w : World) : Calls Try.prog 79 #[.int .i64 k] w fun e w' => e = .returned (.bool (twoB k)) ∧ w = w' := by
  rcases (by omega : k = 1 ∨ k = 2 ∨ k = 3 ∨ k = 4 ∨ k = 6 ∨ (k ≠ 1 ∧ k ≠ 2 ∧ k ≠ 3 ∧ k ≠ 4 ∧ k ≠ 6)) with rfl | rfl | rfl | rfl | rfl | ⟨h1, h2, h3, h4, h6⟩
  rotate_right
  · have h1 : (k == 1) = false := by simpa using h1
    have h2 : (k == 2) = false := by simpa using h2
    have h3 : (k == 3) = false := by simpa using h3
    have h4 : (k == 4) = false := by simpa using h4
    have h6 : (k == 6) = false := by simpa using h6
    unfold twoB
    go_enter Try.func79, Try.ntmps79
    go_wp2
    go_ret
    refine ⟨?_, rfl⟩
    rw [h1, h2, h3, h4, h6]; rfl
  all_goals
    go_enter Try.func79, Try.ntmps79
    go_wp2
    go_ret
    exact ⟨rfl, rfl⟩
theorem impl_takesTwo (k : Int) (w : World) : Calls Try.prog 85 #[.int .i64 k] w fun e w' => e = .returned (.bool (twoB k)) ∧ w = w' := by
  rcases (by omega : k = 1 ∨ k = 2 ∨ k = 3 ∨ k = 4 ∨ k = 6 ∨ (k ≠ 1 ∧ k ≠ 2 ∧ k ≠ 3 ∧ k ≠ 4 ∧ k ≠ 6)) with rfl | rfl | rfl | rfl | rfl | ⟨h1, h2, h3, h4, h6⟩
  rotate_right
  · have h1 : (k == 1) = false := by simpa using h1
    have h2 : (k == 2) = false := by simpa using h2
    have h3 : (k == 3) = false := by simpa using h3
    have h4 : (k == 4) = false := by simpa using h4
    have h6 : (k == 6) = false := by simpa using h6
    unfold twoB
    go_enter Try.func85, Try.ntmps85
    go_wp2
    go_ret
    refine ⟨?_, rfl⟩
    rw [h1, h2, h3, h4, h6]; rfl
  all_goals
    go_enter Try.func85, Try.ntmps85
    go_wp2
    go_ret
    exact ⟨rfl, rfl⟩
end Go.Proofs.Ytfdgngnnncmfiaa
/- Whether the fields of an operation fit: the program. No condition. -/
namespace Go.Proofs.Ytfdgngnnncmfiaa
open Go Go.RowKit
set_option linter.unusedVariables false
set_option linter.unusedSimpArgs false
theorem fitsB_in {i : Int} {o : OpP} (h : fitsB i o = true) : 0 ≤ o.k ∧ o.k ≤ 10 := by
  unfold fitsB at h
  simp only [Bool.and_eq_true] at h
  exact inB_iff.1 h.1
theorem fitsB_args {i : Int} {o : OpP} (h : fitsB i o = true) (h0 : o.k ≠ 0) : (0 ≤ o.a ∧ o.a ≤ i - 1) ∧ (0 ≤ o.b ∧ o.b ≤ i - 1) ∧ (o.r = 0 ∧ o.c = 0 ∧ o.xs = []) := by
  unfold fitsB at h
  rw [if_neg h0] at h
  simp only [Bool.and_eq_true, beq_iff_eq, decide_eq_true_eq] at h
  obtain ⟨_, _, h1, h2, h3, h4, h5⟩ := h
  have ⟨a1, a2⟩ := inB_iff.1 h4
  refine ⟨⟨a1, a2⟩, ?_, h1, h2, List.eq_nil_of_length_eq_zero h3⟩
  split at h5
  · exact inB_iff.1 h5
  · have : o.b = 0 := by simpa using h5
    omega
theorem fitsB_input {i : Int} {o : OpP} (h : fitsB i o = true) (h0 : o.k = 0) : o.a = 0 ∧ o.b = 0 ∧ tenB o.r o.c o.xs.length = true := by
  unfold fitsB at h
  rw [if_pos h0] at h
  simp only [Bool.and_eq_true, beq_iff_eq] at h
  exact ⟨h.2.2.1, h.2.2.2.1, h.2.2.2.2⟩
end Go.Proofs.Ytfdgngnnncmfiaa
/- Bounds of the shapes of a tape. No condition. -/
namespace Go.Proofs.Ytfdgngnnncmfiaa
open Go Go.RowKit
set_option linter.unusedVariables false
set_option linter.unusedSimpArgs false
def sideP (s : Sh) : Prop := (1 ≤ s.1 ∧ s.1 ≤ 16) ∧ (1 ≤ s.2 ∧ s.2 ≤ 16)
theorem shGet_mem {S : List Sh} {i : Int} (h0 : 0 ≤ i) (h1 : i ≤ S.length - 1) : shGet S i ∈ S := by
  have hl : i.toNat < S.length := by omega
  unfold shGet
  rw [List.getD_eq_getElem?_getD, List.getElem?_eq_getElem hl]
  exact List.getElem_mem hl
theorem shapeOf_side {k : Int} {v w s : Sh} (hv : sideP v) (hw : sideP w) (h : shapeOf k v w = some s) : sideP s := by
  unfold shapeOf at h
  unfold sideP at hv hw ⊢
  split at h
  · split at h
    · cases h; exact hv
    · cases h
  · split at h
    · split at h
      · cases h; exact hv
      · cases h
    · split at h
      · split at h
        · cases h; exact ⟨hv.1, hw.2⟩
        · cases h
      · split at h
        · cases h; exact ⟨hv.2, hv.1⟩
        · split at h
          · cases h; exact ⟨⟨by decide, by decide⟩, ⟨by decide, by decide⟩⟩
          · cases h; exact hv
theorem stepSh_side {S S' : List Sh} {o : OpP} (hS : ∀ s ∈ S, sideP s) (h : stepSh S o = some S') : ∀ s ∈ S', sideP s := by
  unfold stepSh at h
  split at h
  · rename_i hf
    by_cases hk : o.k = 0
    · rw [if_pos hk] at h
      cases h
      intro s hs
      rcases List.mem_append.1 hs with hs | hs
      · exact hS s hs
      · have e : s = (o.r, o.c) := by simpa using hs
        subst e
        have := tenB_iff.1 (fitsB_input hf hk).2.2
        exact ⟨this.1, this.2.1⟩
    · rw [if_neg hk] at h
      have ha := fitsB_args hf hk
      cases e : shapeOf o.k (shGet S o.a) (shGet S o.b) with
      | none => rw [e] at h; cases h
      | some t =>
        rw [e] at h
        cases h
        intro s hs
        rcases List.mem_append.1 hs with hs | hs
        · exact hS s hs
        · have e2 : s = t := by simpa using hs
          subst e2
          exact shapeOf_side (hS _ (shGet_mem ha.1.1 ha.1.2)) (hS _ (shGet_mem ha.2.1.1 ha.2.1.2)) e
  · cases h
theorem shapesN_side {os : List OpP} {k : Nat} {S : List Sh} (hk : k ≤ os.length) (h : shapesN os k = some S) : ∀ s ∈ S, sideP s := by
  induction k generalizing S with
  | zero => unfold shapesN at h; simp at h; subst h; intro s hs; cases hs
  | succ k ih =>
    obtain ⟨o, ho⟩ := getElem?_lt (show k < os.length by omega)
    rw [shapesN_succ ho] at h
    cases e : shapesN os k with
    | none => rw [e] at h; cases h
    | some S0 => rw [e] at h; exact stepSh_side (ih (by omega) e) h
theorem shapesP_some {os : List OpP} {S : List Sh} (h : shapesP os = some S) : (1 ≤ os.length ∧ os.length ≤ 48) ∧ shapesN os os.length = some S ∧ S.length = os.length ∧ ∀ s ∈ S, sideP s := by
  unfold shapesP at h
  split at h
  · rename_i hl
    exact ⟨hl, h, shapesN_length (Nat.le_refl _) h, shapesN_side (Nat.le_refl _) h⟩
  · cases h
end Go.Proofs.Ytfdgngnnncmfiaa
/- Which operations a tape's last value depends on. No condition. -/
namespace Go.Proofs.Ytfdgngnnncmfiaa
open Go Go.RowKit
set_option linter.unusedVariables false
set_option linter.unusedSimpArgs false
/-- what an operation that is used makes used -/
def stepU (U : List Bool) (i : Nat) (o : OpP) : List Bool :=
  if U.getD i false = true ∧ o.k ≠ 0 then (if twoB o.k = true then (U.set o.a.toNat true).set o.b.toNat true else U.set o.a.toNat true) else U
def opAtP (os : List OpP) (i : Nat) : OpP := os.getD i ⟨0, 0, 0, 0, 0, 0, []⟩
/-- behind the last m operations -/
def usedM (os : List OpP) : Nat → List Bool
  | 0 => (List.replicate os.length false).set (os.length - 1) true
  | m + 1 => stepU (usedM os m) (os.length - 1 - m) (opAtP os (os.length - 1 - m))
theorem stepU_length (U : List Bool) (i : Nat) (o : OpP) : (stepU U i o).length = U.length := by
  unfold stepU; split
  · split <;> simp
  · rfl
theorem usedM_length (os : List OpP) (m : Nat) : (usedM os m).length = os.length := by
  induction m with
  | zero => simp [usedM]
  | succ m ih => rw [usedM, stepU_length, ih]
theorem opAtP_some {os : List OpP} {i : Nat} {o : OpP} (h : os[i]? = some o) : opAtP os i = o := by
  unfold opAtP; rw [List.getD_eq_getElem?_getD, h]; rfl
/-- the fields of a valid tape's operations fit -/
theorem shapesN_fit {os : List OpP} {k : Nat} {S : List Sh} (hk : k ≤ os.length) (h : shapesN os k = some S) : ∀ i o, i < k → os[i]? = some o → fitsB i o = true := by
  induction k generalizing S with
  | zero => intro i o hi; omega
  | succ k ih =>
    obtain ⟨o, ho⟩ := getElem?_lt (show k < os.length by omega)
    rw [shapesN_succ ho] at h
    cases e : shapesN os k with
    | none => rw [e] at h; cases h
    | some S0 =>
      rw [e] at h
      intro i p hi hp
      by_cases hik : i = k
      · subst hik
        rw [ho] at hp; cases hp
        have hl := shapesN_length (by omega) e
        have h2 : stepSh S0 o = some S := h
        unfold stepSh at h2
        split at h2
        · rename_i hf; rw [hl] at hf; exact hf
        · cases h2
      · exact ih (by omega) e i p (by omega) hp
theorem valid_fit {os : List OpP} {S : List Sh} (h : shapesP os = some S) {i : Nat} {o : OpP} (ho : os[i]? = some o) : fitsB i o = true :=
  shapesN_fit (Nat.le_refl _) (shapesP_some h).2.1 i o (List.getElem?_eq_some_iff.1 ho).1 ho
end Go.Proofs.Ytfdgngnnncmfiaa
/- What putting a number to its place ahead of greater ones does. No condition. -/
namespace Go.Proofs.Ytfdgngnnncmfiaa
open Go Go.RowKit
set_option linter.unusedVariables false
set_option linter.unusedSimpArgs false
end Go.Proofs.Ytfdgngnnncmfiaa
/- Rows of the call's own that grow by turns. No condition. -/
namespace Go.Proofs.Ytfdgngnnncmfiaa
open Go Go.RowKit
set_option linter.unusedVariables false
set_option linter.unusedSimpArgs false
/-- an element is appended to a row of the call's own; where it lies then is told -/
theorem wp_appA {P : Program} {ops : Array Oper} {rest : List Oper} {o : Oper} {a : Act} {Q : Exit → Act → World → Prop} {e : TypeId} {W : World} {cs : Array Value} (hgd : o.guard = none) (s x : Operand) (t : TypeId)
    (ho : o.op = .call { callee := .builtin .append, args := #[s, x], argTypes := #[t, t] })
    (base : Nat) (i : TypeInfo) (z : Value) (size bytes : Nat) (ht : P.underlying t = some (.slice e)) (hi : P.info? e = some i) (hz : i.zero = some z)
    (hsize : i.size = size) (hby : i.bytes = bytes) (hzs : z.cells.size = size) (hsz : 0 < size)
    (hcs : cs.size = size) (h1 : ∀ u ∈ cs.toList, u.oneCell' = true)
    (v : Value) (n : Nat) (xs : List Value) (hs : a.eval s = v) (hown : W.ownsRow base e size v n xs) (hx : a.eval x = .slice (some ⟨W.heap.size, 0, none⟩) 1 1)
    (h63 : n + 1 ≤ maxLen) (hbytes : (n + 1) * bytes ≤ 140737488355328) (hbase : base ≤ W.heap.size)
    (h : ∀ v' w', w'.ownsRow base e size v' (n + 1) (xs ++ cs.toList) → (W.alloc (.cells cs e)).grownBy w' v.ownBlock → (v'.ownBlock = v.ownBlock ∨ v'.ownBlock = some (W.heap.size + 1)) → Below base W w' → base ≤ w'.heap.size → wpList P ops Q rest (a.put o.dst v') w') : wpList P ops Q (o :: rest) a (W.alloc (.cells cs e)) := by
  refine wpList_append_own_at (W.alloc (.cells cs e)) hgd s x t ho base e i z size bytes ht hi hz hsize hby hzs hsz v n xs hs (hown.alloc _) ⟨W.heap.size, 0, none⟩ 1 1 cs.toList hx (by simpa using hcs) ?_ h1 h63 hbytes (by simp; omega) ?_
  · intro j u hj
    rw [Addr.add_lit, World.cell?_alloc_at _ _ _ _ rfl]
    simpa using hj
  · intro v' w' h2 hg _ hat
    have hb : Below base W w' := ((Below.refl _ _).alloc hbase _).grown hg (by simp; omega) (fun j hj => (hown.lt j hj).1)
    refine h v' w' h2 hg (by simpa using hat) hb ?_
    have := hg.size
    simp at this
    omega
end Go.Proofs.Ytfdgngnnncmfiaa
/- The shapes of the values of a tape: the reference. No condition. -/
namespace Go.Proofs.Ytfdgngnnncmfiaa
open Go Go.RowKit
set_option linter.unusedVariables false
set_option linter.unusedSimpArgs false
end Go.Proofs.Ytfdgngnnncmfiaa
/- Which operations a tape's last value depends on: the reference. No condition. -/
namespace Go.Proofs.Ytfdgngnnncmfiaa
open Go Go.RowKit
set_option linter.unusedVariables false
set_option linter.unusedSimpArgs false
theorem info_bool : (Try.prog.info? 4).map (fun i => (i.zero, i.size, i.bytes)) = some (some (.bool false), 1, 1) := by kernel_rfl
end Go.Proofs.Ytfdgngnnncmfiaa
/- The shapes of the values of a tape: the program. No condition. -/
namespace Go.Proofs.Ytfdgngnnncmfiaa
open Go Go.RowKit
set_option linter.unusedVariables false
set_option linter.unusedSimpArgs false
end Go.Proofs.Ytfdgngnnncmfiaa
/- Which operations a tape's last value depends on: the program. No condition. -/
namespace Go.Proofs.Ytfdgngnnncmfiaa
open Go Go.RowKit
set_option linter.unusedVariables false
set_option linter.unusedSimpArgs false
end Go.Proofs.Ytfdgngnnncmfiaa
/- Lists and tensors that are the same. No condition. -/
namespace Go.Proofs.Ytfdgngnnncmfiaa
open Go Go.RowKit
set_option linter.unusedVariables false
set_option linter.unusedSimpArgs false
end Go.Proofs.Ytfdgngnnncmfiaa
/- Tensors that are the same; rows. No condition. -/
namespace Go.Proofs.Ytfdgngnnncmfiaa
open Go Go.RowKit
set_option linter.unusedVariables false
set_option linter.unusedSimpArgs false
/-- a row of a tensor -/
theorem impl_row (w : World) (r c : Nat) (ad : Option Addr) (n cap : Nat) (hn : n = r * c) (hc1 : 1 ≤ c) (hc2 : c ≤ 16) (hr2 : r ≤ 16) (hcap : n ≤ cap) (i : Nat) (hi : i < r) (b off : Nat) (had : ad = some ⟨b, off, none⟩) :
    Calls Try.prog 108 #[.agg #[.int .i64 r, .int .i64 c, .slice ad n cap], .int .i64 i] w fun e w' => e = .returned (.slice (some ⟨b, off + i * c, none⟩) c (cap - i * c)) ∧ Below w.heap.size w w' := by
  subst had
  have h1 : i * c + c ≤ n := by
    rw [hn]
    have : (i + 1) * c ≤ r * c := Nat.mul_le_mul_right c (by omega)
    rw [Nat.succ_mul] at this; exact this
  have hnb : n ≤ 256 := by rw [hn]; exact Nat.le_trans (Nat.mul_le_mul hr2 hc2) (by decide)
  obtain ⟨p, hp⟩ : ∃ p, p = i * c := ⟨_, rfl⟩
  have e1 : ((i : Int) * (c : Int)) = (p : Int) := by rw [hp]; rfl
  have e2 : (((i : Int) + 1) * (c : Int)) = ((p + c : Nat) : Int) := by rw [hp, Int.add_mul, Int.one_mul]; rfl
  rw [← hp] at h1 ⊢
  clear hp hn
  go_enter Try.func108, Try.ntmps108
  go_wp2
  go_ret
  exact ⟨by rw [Nat.add_sub_cancel_left]; rfl, below1 _ _⟩
end Go.Proofs.Ytfdgngnnncmfiaa
/- Rows of a tensor. No condition. -/
namespace Go.Proofs.Ytfdgngnnncmfiaa
open Go Go.RowKit
set_option linter.unusedVariables false
set_option linter.unusedSimpArgs false
theorem slices_CloneF (w : World) (ad : Option Addr) (cap : Nat) (xs : List Nat) (h : F32s w ad cap xs) (hc : ad = none → cap = 0) (hn : xs.length ≤ 1048576) :
    Calls Try.prog 67 #[.slice ad xs.length cap] w fun e w' => ∃ ad' cap', e = .returned (.slice ad' xs.length cap') ∧ Hid (RepF w' w.heap.size w'.heap.size ad' xs.length cap' xs) ∧ Below w.heap.size w w' := by
  refine (slices_Clone w ad cap xs h hc hn).mono ?_
  rintro e w' ⟨v, rfl, ho, hb⟩
  obtain ⟨ad', cap', rfl, hr⟩ := RepF.of_owns ho h.lt
  exact ⟨ad', cap', rfl, Lib.hid hr, hb⟩
end Go.Proofs.Ytfdgngnnncmfiaa
/- Tapes that are copied by the program. No condition. -/
namespace Go.Proofs.Ytfdgngnnncmfiaa
open Go Go.RowKit
set_option linter.unusedVariables false
set_option linter.unusedSimpArgs false
/-- no list without a place has room -/
def nilOK (os : List OpD) : Prop := ∀ o ∈ os, o.ad = none → o.cap = 0
theorem OwnR.nilOK {w : World} {lo hi n cap : Nat} {ad : Option Addr} {us : List OpD} (h : OwnR opR w lo hi ad n cap us) : nilOK us := fun o ho =>
  (h.own.repF (List.mem_cons_of_mem _ (List.mem_flatMap.2 ⟨o, ho, List.mem_singleton.2 rfl⟩)) (h.ok o ho).1).nilcap
set_option maxHeartbeats 2000000 in
theorem impl_copyTensor (w : World) (r c : Int) (ad : Option Addr) (cap : Nat) (xs : List Nat) (h : F32s w ad cap xs) (hc : ad = none → cap = 0) (hn : xs.length ≤ 1048576) :
    Calls Try.prog 55 #[.agg #[.int .i64 r, .int .i64 c, .slice ad xs.length cap]] w fun e w' => ∃ ad' cap', e = .returned (.agg #[.int .i64 r, .int .i64 c, .slice ad' xs.length cap']) ∧ Hid (RepF w' w.heap.size w'.heap.size ad' xs.length cap' xs) ∧ Below w.heap.size w w' := by
  have b2 := below2 w (.cells #[.int .i64 r, .int .i64 c, .slice ad xs.length cap] 38) (.cells #[.int .i64 0, .int .i64 0, .slice none 0 0] 38)
  have K := Lib.hid (slices_CloneF _ ad cap xs (h.below b2) hc hn)
  have XB := Lib.hid ((BoxN.alloc w #[.int .i64 r, .int .i64 c, .slice ad xs.length cap] 38).below (below1 _ (.cells #[.int .i64 0, .int .i64 0, .slice none 0 0] 38)))
  have RB := Lib.hid (BoxN.alloc2 w (.cells #[.int .i64 r, .int .i64 c, .slice ad xs.length cap] 38) #[.int .i64 0, .int .i64 0, .slice none 0 0] 38)
  have B := Lib.hid b2
  obtain ⟨n, hN⟩ : ∃ n, n = xs.length := ⟨_, rfl⟩
  rw [← hN] at K XB RB B ⊢
  clear b2 h hN hn hc
  go_enter Try.func55, Try.ntmps55
  go_wp2_with fail
  refine K.out.mono ?_
  rintro e w' ⟨a', c', rfl, HR, hb⟩
  obtain ⟨-, x0, x1, x2, xf⟩ := (XB.out.below hb).three
  obtain ⟨-, r0, r1, r2, rf⟩ := (RB.out.below hb).three
  have HB := Lib.hid (bthen B.out hb)
  have hz := hb.size
  simp at hz
  clear hb
  go_wp2
  refine bodyPost_ret (v := .agg #[.int .i64 r, .int .i64 c, .slice a' n c']) (by simp [results, Try.results55, go_sem, r0, r1, r2, x0, x1, x2]) rfl ⟨_, _, rfl, Lib.hid ?_, ?_⟩
  · have h1 := setCs_repF (g := w.heap.size) (lo' := w.heap.size + 2) (i := 2) HR.out (by simp; omega) (by simp) (Nat.le_refl _) [.slice a' n c']
    have h2 := setCs_repF (g := w.heap.size + 1) (lo' := w.heap.size) (i := 0) h1 (by omega) (by omega) (Nat.le_refl _) [.int .i64 r, .int .i64 c, .slice a' n c']
    exact h2
  · exact setCs_below (setCs_below HB.out (g := w.heap.size) (by omega) 2 [.slice a' n c']) (g := w.heap.size + 1) (by omega) 0 [.int .i64 r, .int .i64 c, .slice a' n c']
end Go.Proofs.Ytfdgngnnncmfiaa
