/- Joined texts 2: Lab FF FG Ow0 Fl7 Fl8 Bf Gat Emp FH Ow1 Bx3 Ow2 Ow3 Ow4 Ow5 Ow6. Each is told at its own head. No condition. -/
import GoSem.Extern.MathSqrt
import Derived.Deep.RegionWith
import Derived.Test.YtfdgngnnncmfiaaMc1
/- What the mean of absolute values and its gradients are. No condition. -/
namespace Go.Proofs.Ytfdgngnnncmfiaa
open Go Go.RowKit
set_option linter.unusedVariables false
set_option linter.unusedSimpArgs false
theorem RepF.belowHi {w w' : World} {lo hi B : Nat} {ad : Option Addr} {n cap : Nat} {xs : List Nat} (h : RepF w lo hi ad n cap xs) (hb : Below B w w') (hB : hi ≤ B) : RepF w' lo hi ad n cap xs :=
  h.touch (lo2 := B) (hi2 := w.heap.size) ⟨hb.os, hb.tape, hb.output, hb.size, fun k hk hd => hb.block k (by omega)⟩ (.inl hB)
theorem Touch.setCell {w : World} {lo hi g k : Nat} {v : Value} (h1 : lo ≤ g) (h2 : g < hi) : Touch lo hi w (w.setCell ⟨g, k, none⟩ v) :=
  ⟨rfl, rfl, rfl, by simp [World.setCell], fun j hj hd => Below.heap_setCell _ _ _ _ (by intro e; simp at e; omega)⟩
theorem own_set {w : World} {base g k n : Nat} {v u : Value} {cs : List Value} (h : w.ownsRow base 49 1 v n cs) (hg : g < base) : (w.setCell ⟨g, k, none⟩ u).ownsRow base 49 1 v n cs :=
  ((Row.mk' h).touch (Touch.setCell (lo := 0) (hi := base) (Nat.zero_le _) hg) (.inr (Nat.le_refl _))).own
theorem RepF.lt_hi {w : World} {lo hi g n cap : Nat} {xs : List Nat} (h : RepF w lo hi (some ⟨g, 0, none⟩) n cap xs) : g < hi := h.row.top g rfl
theorem mem_getD {xs : List Nat} {k : Nat} (h : k < xs.length) : xs.getD k 0 ∈ xs := by
  rw [List.getD_eq_getElem?_getD, List.getElem?_eq_getElem h]; exact List.getElem_mem h
def abG (D : Nat → Nat) (n i : Nat) : Nat := match FloatKind.f32.format.order (D i) 0 with
  | some .gt => fop .quo .f32 1065353216 (floatOfInt .f32 n)
  | some .lt => fop .quo .f32 3212836864 (floatOfInt .f32 n)
  | some .eq => 0
  | none => nanOf .f32
def abA (D : Nat → Nat) (i : Nat) : Nat := absW (D i)
def abL (D : Nat → Nat) (n : Nat) : Nat := fop .quo .f32 (sumS (listOf n (abA D)) n) (floatOfInt .f32 n)
theorem cn_one : cn .f32 1065353216 = 1065353216 := by decide +kernel
theorem cn_minus : cn .f32 3212836864 = 3212836864 := by decide +kernel
theorem order_at {x d : Nat} (h : cn .f32 x = d) : FloatKind.f32.format.order d 0 = FloatKind.f32.format.order x 0 := by
  rw [← h, show (0 : Nat) = cn .f32 0 from cn_zero.symm, order_cn, cn_zero]
theorem isN_none {x : Nat} (h : FloatKind.f32.format.order x 0 = none) : isN .f32 x = true := by
  cases hx : isN .f32 x
  · exfalso
    have h0 : isN .f32 0 = false := by decide +kernel
    unfold isN at hx h0
    have h1 : (FloatKind.f32.format.read x).order (FloatKind.f32.format.read 0) = none := h
    cases e1 : FloatKind.f32.format.read x with
    | nan s t => rw [e1] at hx; cases hx
    | infinity s => rw [e1] at h1; cases e2 : FloatKind.f32.format.read 0 with
      | nan s t => rw [e2] at h0; cases h0
      | infinity t => rw [e2] at h1; cases h1
      | number t m p => rw [e2] at h1; cases h1
    | number s m p => rw [e1] at h1; cases e2 : FloatKind.f32.format.read 0 with
      | nan s t => rw [e2] at h0; cases h0
      | infinity t => rw [e2] at h1; cases h1
      | number t m p => rw [e2] at h1; cases h1
  · rfl
end Go.Proofs.Ytfdgngnnncmfiaa
/- What comparing, marking slices of slices of numbers does. No condition. -/
namespace Go.Proofs.Ytfdgngnnncmfiaa
open Go Go.RowKit
set_option linter.unusedVariables false
set_option linter.unusedSimpArgs false
end Go.Proofs.Ytfdgngnnncmfiaa
/- What comparing, marking slices of slices of numbers does: the walks. No condition. -/
namespace Go.Proofs.Ytfdgngnnncmfiaa
open Go Go.RowKit
set_option linter.unusedVariables false
set_option linter.unusedSimpArgs false
/-- how many numbers the first rows have -/
def cum (Xs : List (List Nat)) (k : Nat) : Nat := ((Xs.take k).map List.length).sum
theorem cum_succ (Xs : List (List Nat)) {k : Nat} (h : k < Xs.length) : cum Xs (k + 1) = cum Xs k + (Xs.getD k []).length := by
  unfold cum
  rw [List.take_succ_eq_append_getElem h, List.map_append, List.sum_append, List.getD_eq_getElem?_getD, List.getElem?_eq_getElem h]
  simp
theorem cum_le (Xs : List (List Nat)) {k n : Nat} (h : k ≤ n) : cum Xs k ≤ cum Xs n := by
  unfold cum
  have : Xs.take n = Xs.take k ++ (Xs.take n).drop k := by
    have := (List.take_append_drop k (Xs.take n)).symm
    rwa [List.take_take, Nat.min_eq_left h] at this
  rw [this, List.map_append, List.sum_append]; omega
theorem getD_set {α : Type} (l : List α) (k i : Nat) (x d : α) (hk : k < l.length) : (l.set k x).getD i d = if i = k then x else l.getD i d := by
  rw [List.getD_eq_getElem?_getD, List.getElem?_set]
  by_cases h : i = k
  · subst h; rw [if_pos rfl, if_pos rfl, if_pos hk]; rfl
  · rw [if_neg (by omega), if_neg h, List.getD_eq_getElem?_getD]
/-- the marks of a slice of slices -/
def Marked (k0 n : Nat) (Xs Ys : List (List Nat)) : Prop := ∀ i, i < n → Ys.getD i [] = markF (k0 + cum Xs i) (Xs.getD i []).length
end Go.Proofs.Ytfdgngnnncmfiaa
/- Rows of a call's own in blocks apart; lists of records. No condition. -/
namespace Go.Proofs.Ytfdgngnnncmfiaa
open Go Go.RowKit
set_option linter.unusedVariables false
set_option linter.unusedSimpArgs false
/-- a row: the type of its elements, how many cells each has, where it lies, and its cells -/
structure RowD where
  e : TypeId
  size : Nat
  ad : Option Addr
  n : Nat
  cap : Nat
  vs : List Value
def RowD.val (x : RowD) : Value := .slice x.ad x.n x.cap
def Apart (v u : Value) : Prop := ∀ g, v.ownBlock = some g → u.ownBlock ≠ some g
theorem Apart.symm {v u : Value} (h : Apart v u) : Apart u v := fun g e1 e2 => h g e2 e1
/-- rows of the call's own in blocks apart -/
structure Own (w : World) (lo hi : Nat) (L : List RowD) : Prop where
  row : ∀ x ∈ L, Row w x.e x.size lo hi x.val x.n x.vs
  sep : (L.map RowD.val).Pairwise Apart
theorem Own.nil (w : World) (lo hi : Nat) : Own w lo hi [] := ⟨fun x hx => (nomatch hx), List.Pairwise.nil⟩
theorem Own.below {w w' : World} {lo hi : Nat} {L : List RowD} (h : Own w lo hi L) (hb : Below w.heap.size w w') : Own w' lo hi L := ⟨fun x hx => (h.row x hx).below hb, h.sep⟩
theorem Own.touch {w w' : World} {lo hi lo2 hi2 : Nat} {L : List RowD} (h : Own w lo hi L) (ht : Touch lo2 hi2 w w') (hd : hi ≤ lo2 ∨ hi2 ≤ lo) : Own w' lo hi L := ⟨fun x hx => (h.row x hx).touch ht hd, h.sep⟩
theorem Own.bounds {w : World} {lo hi lo' hi' : Nat} {L : List RowD} (h : Own w lo hi L) (h1 : lo' ≤ lo) (h2 : hi ≤ hi') : Own w lo' hi' L := ⟨fun x hx => (h.row x hx).bounds h1 h2, h.sep⟩
theorem Own.perm {w : World} {lo hi : Nat} {L M : List RowD} (h : Own w lo hi L) (p : L.Perm M) : Own w lo hi M :=
  ⟨fun x hx => h.row x (p.mem_iff.2 hx), ((p.map RowD.val).pairwise_iff (fun {a b} h => h.symm)).1 h.sep⟩
theorem Own.sub {w : World} {lo hi : Nat} {L M : List RowD} (h : Own w lo hi L) (s : M.Sublist L) : Own w lo hi M :=
  ⟨fun x hx => h.row x (s.subset hx), h.sep.sublist (s.map RowD.val)⟩
theorem Own.tail {w : World} {lo hi : Nat} {x : RowD} {L : List RowD} (h : Own w lo hi (x :: L)) : Own w lo hi L := h.sub (List.sublist_cons_self x L)
theorem Own.head {w : World} {lo hi : Nat} {x : RowD} {L : List RowD} (h : Own w lo hi (x :: L)) : Row w x.e x.size lo hi x.val x.n x.vs := h.row x (List.mem_cons_self ..)
theorem Own.apart {w : World} {lo hi : Nat} {x : RowD} {L : List RowD} (h : Own w lo hi (x :: L)) {y : RowD} (hy : y ∈ L) : Apart x.val y.val := (List.pairwise_cons.1 h.sep).1 _ (List.mem_map_of_mem hy)
theorem Own.cons {w : World} {lo hi : Nat} {x : RowD} {L : List RowD} (hx : Row w x.e x.size lo hi x.val x.n x.vs) (h : Own w lo hi L) (hs : ∀ y ∈ L, Apart x.val y.val) : Own w lo hi (x :: L) := by
  refine ⟨fun y hy => ?_, ?_⟩
  · rcases List.mem_cons.1 hy with rfl | hy
    · exact hx
    · exact h.row y hy
  · rw [List.map_cons, List.pairwise_cons]
    refine ⟨fun v hv => ?_, h.sep⟩
    obtain ⟨y, hy, rfl⟩ := List.mem_map.1 hv
    exact hs y hy
theorem Own.one {w : World} {lo hi : Nat} {x : RowD} (hx : Row w x.e x.size lo hi x.val x.n x.vs) : Own w lo hi [x] := Own.cons hx (Own.nil _ _ _) (fun y hy => (nomatch hy))
theorem Own.append {w : World} {lo mi hi : Nat} {L M : List RowD} (h : Own w lo mi L) (h2 : Own w mi hi M) (h3 : lo ≤ mi) (h4 : mi ≤ hi) : Own w lo hi (L ++ M) := by
  refine ⟨fun x hx => ?_, ?_⟩
  · rcases List.mem_append.1 hx with hx | hx
    · exact (h.row x hx).bounds (Nat.le_refl _) h4
    · exact (h2.row x hx).bounds h3 (Nat.le_refl _)
  · rw [List.map_append, List.pairwise_append]
    refine ⟨h.sep, h2.sep, fun v hv u hu => ?_⟩
    obtain ⟨x, hx, rfl⟩ := List.mem_map.1 hv
    obtain ⟨y, hy, rfl⟩ := List.mem_map.1 hu
    intro g e1 e2
    have := (h.row x hx).top g e1
    have := ((h2.row y hy).own.lt g e2).1
    omega
/-- the row at the head is written, or laid anew -/
theorem Own.grown {w w' : World} {lo hi hi' : Nat} {x y : RowD} {L : List RowD} (h : Own w lo hi (x :: L)) (hg : w.grownBy w' x.val.ownBlock) (hy : Row w' y.e y.size lo hi' y.val y.n y.vs) (hb : ∀ g, y.val.ownBlock = some g → x.val.ownBlock = some g ∨ hi ≤ g) (hh : hi ≤ hi') : Own w' lo hi' (y :: L) := by
  refine Own.cons hy ⟨fun z hz => ⟨((h.row z (List.mem_cons_of_mem _ hz)).own.kept hg ?_), fun g e => Nat.lt_of_lt_of_le ((h.row z (List.mem_cons_of_mem _ hz)).top g e) hh⟩, h.tail.sep⟩ fun z hz g e1 e2 => ?_
  · cases e : z.val.ownBlock with
    | none => exact .inl rfl
    | some g => exact .inr (fun e2 => (h.apart hz) g e2.symm e)
  · rcases hb g e1 with e3 | e3
    · exact h.apart hz g e3 e2
    · have := (h.row z (List.mem_cons_of_mem _ hz)).top g e2
      omega
theorem Own.store {w : World} {lo hi : Nat} {e : TypeId} {size g n cap : Nat} {vs : List Value} {L : List RowD} (h : Own w lo hi (⟨e, size, some ⟨g, 0, none⟩, n, cap, vs⟩ :: L)) (k : Nat) (v : Value) : Own (w.setCell ⟨g, k, none⟩ v) lo hi (⟨e, size, some ⟨g, 0, none⟩, n, cap, vs.set k v⟩ :: L) := by
  have h0 := h.head
  have hs := h0.own.stored k v
  exact h.grown (y := ⟨e, size, some ⟨g, 0, none⟩, n, cap, vs.set k v⟩) hs.2 ⟨hs.1, h0.top⟩ (fun g' e => .inl e) (Nat.le_refl _)
/-- a block is laid -/
theorem Own.alloc {w : World} {lo hi : Nat} {L : List RowD} (h : Own w lo hi L) (h1 : lo ≤ w.heap.size) (h2 : hi ≤ w.heap.size) (cs : Array Value) (t : TypeId) : Own (w.alloc (.cells cs t)) lo (w.heap.size + 1) (⟨t, cs.size, some ⟨w.heap.size, 0, none⟩, 1, 1, cs.toList⟩ :: L) := by
  have ho := World.ownsRow_lit (base := lo) (e := t) (size := cs.size) w cs 1 h1 (by decide) (by simp)
  refine Own.cons ⟨ho, fun g e => ?_⟩ ((h.below (below1 w _)).bounds (Nat.le_refl _) (by omega)) fun y hy g e1 e2 => ?_
  · cases e; exact Nat.lt_succ_self _
  · cases e1
    have h3 : w.heap.size < hi := (h.row y hy).top _ e2
    omega
/-- a row is laid -/
theorem Own.fresh {w w' : World} {lo hi hi' : Nat} {L M : List RowD} (h : Own w lo hi L) (h1 : lo ≤ w.heap.size) (h2 : hi ≤ w.heap.size) (hb : Below w.heap.size w w') (hm : Own w' w.heap.size hi' M) (h3 : w.heap.size ≤ hi') : Own w' lo hi' (L ++ M) :=
  Own.append ((h.below hb).bounds (Nat.le_refl _) h2) hm h1 h3
theorem Own.cell {w : World} {lo hi : Nat} {e : TypeId} {size g o n cap : Nat} {vs : List Value} {L : List RowD} (h : Own w lo hi L) (hm : ⟨e, size, some ⟨g, o, none⟩, n, cap, vs⟩ ∈ L) :
    o = 0 ∧ (lo ≤ g ∧ g < hi ∧ g < w.heap.size) ∧ (∀ k, k < vs.length → w.cell? ⟨g, k, none⟩ = vs[k]?) ∧ (∀ k, w.frozen? ⟨g, k, none⟩ = false) := by
  have h0 := h.row _ hm
  have h00 := h0.own
  have hl := h00.1
  have h1 : o = 0 := by
    rcases h0.own.2 with ⟨e1, _⟩ | ⟨g', cap', cur, e1, _⟩
    · cases e1
    · cases e1; rfl
  subst h1
  exact ⟨rfl, ⟨(h0.own.lt g rfl).1, h0.top g rfl, (h0.own.lt g rfl).2⟩, fun k hk => h0.own.cellAt k (by have hl2 : vs.length = n * size := hl; show k < n * size; omega), fun k => h0.own.frozenAt k⟩
/-- one row of many is written in place -/
theorem Own.setAt {w w' : World} {lo hi : Nat} {x y : RowD} {A B : List RowD} (h : Own w lo hi (A ++ x :: B)) (hg : w.grownBy w' x.val.ownBlock) (hy : Row w' y.e y.size lo hi y.val y.n y.vs) (hv : y.val = x.val) : Own w' lo hi (A ++ y :: B) := by
  have p : (A ++ x :: B).Perm (x :: (A ++ B)) := List.perm_middle
  have q : (A ++ y :: B).Perm (y :: (A ++ B)) := List.perm_middle
  exact ((h.perm p).grown hg hy (fun g e => .inl (by rw [← hv]; exact e)) (Nat.le_refl _)).perm q.symm
/-- a row that is read -/
structure SeeRow (w : World) (x : RowD) : Prop where
  le : x.n ≤ x.cap
  cap : x.cap ≤ maxLen
  len : x.vs.length = x.n * x.size
  rd : Rd w x.ad x.vs
theorem SeeRow.below {w w' : World} {x : RowD} (h : SeeRow w x) (hb : Below w.heap.size w w') : SeeRow w' x := ⟨h.le, h.cap, h.len, h.rd.below hb (Nat.le_refl _)⟩
theorem Row.seeRow {w : World} {lo hi : Nat} {x : RowD} (h : Row w x.e x.size lo hi x.val x.n x.vs) : SeeRow w x := by
  obtain ⟨ad, cap, e1, e2, e3, e4, _⟩ := Rd.of_owns h.own
  unfold RowD.val at e1
  cases e1
  exact ⟨e2, e3, h.own.1, e4⟩
/-- records: their cells, and the rows to which these point -/
structure RecT (α : Type) where
  e : TypeId
  size : Nat
  cells : α → List Value
  inn : α → List RowD
  ok : α → Prop
  len : ∀ a, (cells a).length = size
structure OwnR {α : Type} (R : RecT α) (w : World) (lo hi : Nat) (ad : Option Addr) (n cap : Nat) (us : List α) : Prop where
  own : Own w lo hi (⟨R.e, R.size, ad, n, cap, us.flatMap R.cells⟩ :: us.flatMap R.inn)
  len : us.length = n
  ok : ∀ a ∈ us, R.ok a
structure SeeR {α : Type} (R : RecT α) (w : World) (ad : Option Addr) (cap : Nat) (us : List α) : Prop where
  le : us.length ≤ cap
  cap : cap ≤ maxLen
  rd : Rd w ad (us.flatMap R.cells)
  inn : ∀ a ∈ us, ∀ x ∈ R.inn a, SeeRow w x
  ok : ∀ a ∈ us, R.ok a
section
variable {α : Type} {R : RecT α} {w w' : World} {lo hi : Nat} {ad : Option Addr} {n cap : Nat} {us : List α}
theorem SeeR.below (h : SeeR R w ad cap us) (hb : Below w.heap.size w w') : SeeR R w' ad cap us := ⟨h.le, h.cap, h.rd.below hb (Nat.le_refl _), fun a ha x hx => (h.inn a ha x hx).below hb, h.ok⟩
theorem OwnR.below (h : OwnR R w lo hi ad n cap us) (hb : Below w.heap.size w w') : OwnR R w' lo hi ad n cap us := ⟨h.own.below hb, h.len, h.ok⟩
theorem OwnR.touch {lo2 hi2 : Nat} (h : OwnR R w lo hi ad n cap us) (ht : Touch lo2 hi2 w w') (hd : hi ≤ lo2 ∨ hi2 ≤ lo) : OwnR R w' lo hi ad n cap us := ⟨h.own.touch ht hd, h.len, h.ok⟩
theorem OwnR.bounds {lo' hi' : Nat} (h : OwnR R w lo hi ad n cap us) (h1 : lo' ≤ lo) (h2 : hi ≤ hi') : OwnR R w lo' hi' ad n cap us := ⟨h.own.bounds h1 h2, h.len, h.ok⟩
theorem OwnR.see (h : OwnR R w lo hi ad n cap us) : SeeR R w ad cap us := by
  have h0 := h.own.head.seeRow
  exact ⟨by rw [h.len]; exact h0.le, h0.cap, h0.rd, fun a ha x hx => (h.own.tail.row x (List.mem_flatMap.2 ⟨a, ha, hx⟩)).seeRow, h.ok⟩
theorem OwnR.nil (R : RecT α) (w : World) (lo hi : Nat) : OwnR R w lo hi none 0 0 [] :=
  ⟨Own.one ⟨⟨by simp, .inl ⟨rfl, rfl⟩⟩, fun k e => (nomatch e)⟩, rfl, fun a ha => (nomatch ha)⟩
theorem flat_len (R : RecT α) (us : List α) : (us.flatMap R.cells).length = us.length * R.size := by
  induction us with
  | nil => simp
  | cons a us ih => rw [List.flatMap_cons, List.length_append, ih, R.len, List.length_cons, Nat.succ_mul, Nat.add_comm]
theorem flat_at (R : RecT α) (us : List α) {k j : Nat} {a : α} (hk : us[k]? = some a) (hj : j < R.size) : (us.flatMap R.cells)[k * R.size + j]? = (R.cells a)[j]? := by
  induction us generalizing k with
  | nil => simp at hk
  | cons x xs ih =>
    rw [List.flatMap_cons]
    cases k with
    | zero =>
      simp at hk; subst hk
      rw [Nat.zero_mul, Nat.zero_add, List.getElem?_append_left (by rw [R.len]; exact hj)]
    | succ k =>
      simp at hk
      rw [List.getElem?_append_right (by rw [R.len, Nat.succ_mul]; omega), R.len, ← ih hk]
      congr 1
      rw [Nat.succ_mul]; omega
theorem SeeR.spot (h : SeeR R w ad cap us) {k : Nat} {a : α} (hk : us[k]? = some a) (hs : 0 < R.size) : ∃ b off, ad = some ⟨b, off, none⟩ ∧ b < w.heap.size ∧ ∀ j, j < R.size → w.cell? ⟨b, off + k * R.size + j, none⟩ = (R.cells a)[j]? := by
  have hkl : k < us.length := (List.getElem?_eq_some_iff.1 hk).1
  have hl : ∀ j, j < R.size → k * R.size + j < (us.flatMap R.cells).length := by
    intro j hj
    rw [flat_len]
    have : (k + 1) * R.size ≤ us.length * R.size := Nat.mul_le_mul_right _ hkl
    rw [Nat.succ_mul] at this; omega
  obtain ⟨b, off, e, hb, hc⟩ := h.rd.spot (i := k * R.size + 0) (hl 0 hs)
  exact ⟨b, off, e, hb, fun j hj => by rw [Nat.add_assoc, hc _ (hl j hj), flat_at R us hk hj]⟩
theorem OwnR.spot (h : OwnR R w lo hi ad n cap us) {k : Nat} {a : α} (hk : us[k]? = some a) (hs : 0 < R.size) : ∃ g, ad = some ⟨g, 0, none⟩ ∧ (lo ≤ g ∧ g < hi ∧ g < w.heap.size) ∧ (∀ j, j < R.size → w.cell? ⟨g, k * R.size + j, none⟩ = (R.cells a)[j]?) ∧ ∀ j, w.frozen? ⟨g, j, none⟩ = false := by
  obtain ⟨b, off, e, hb, hc⟩ := h.see.spot hk hs
  subst e
  obtain ⟨rfl, hr, _, hf⟩ := h.own.cell (List.mem_cons_self ..)
  exact ⟨b, rfl, hr, fun j hj => by rw [← hc j hj, Nat.zero_add], hf⟩
/-- cells written one after another -/
def setL : List Value → Nat → List Value → List Value
  | vs, _, [] => vs
  | vs, i, c :: cs => setL (vs.set i c) (i + 1) cs
theorem setL_nil (i : Nat) (cs : List Value) : setL [] i cs = [] := by
  induction cs generalizing i with
  | nil => rfl
  | cons c cs ih => exact ih (i + 1)
theorem setL_right (xs ys : List Value) (i : Nat) (cs : List Value) : setL (xs ++ ys) (xs.length + i) cs = xs ++ setL ys i cs := by
  induction cs generalizing ys i with
  | nil => rfl
  | cons c cs ih =>
    show setL ((xs ++ ys).set (xs.length + i) c) (xs.length + i + 1) cs = xs ++ setL (ys.set i c) (i + 1) cs
    rw [List.set_append, if_neg (by omega), Nat.add_sub_cancel_left, Nat.add_assoc]
    exact ih (ys.set i c) (i + 1)
theorem setL_left (xs ys cs : List Value) (h : xs.length = cs.length) : setL (xs ++ ys) 0 cs = cs ++ ys := by
  have key : ∀ (pre xs cs : List Value), xs.length = cs.length → setL (pre ++ xs ++ ys) pre.length cs = pre ++ cs ++ ys := by
    intro pre xs cs
    induction cs generalizing pre xs with
    | nil => intro h; cases xs with
      | nil => rfl
      | cons x xs => simp at h
    | cons c cs ih =>
      intro h
      cases xs with
      | nil => simp at h
      | cons x xs =>
        have h2 := ih (pre ++ [c]) xs (by simpa using h)
        show setL ((pre ++ x :: xs ++ ys).set pre.length c) (pre.length + 1) cs = pre ++ c :: cs ++ ys
        rw [List.append_assoc, List.set_append, if_neg (by omega), Nat.sub_self, List.cons_append, List.set_cons_zero]
        simpa [List.append_assoc] using h2
  simpa using key [] xs cs h
theorem flat_set (R : RecT α) (us : List α) {k : Nat} (hk : k < us.length) (a : α) : setL (us.flatMap R.cells) (k * R.size) (R.cells a) = (us.set k a).flatMap R.cells := by
  induction us generalizing k with
  | nil => simp at hk
  | cons x xs ih =>
    cases k with
    | zero =>
      rw [Nat.zero_mul, List.flatMap_cons, List.set_cons_zero, List.flatMap_cons]
      exact setL_left _ _ _ (by rw [R.len, R.len])
    | succ k =>
      rw [List.flatMap_cons, List.set_cons_succ, List.flatMap_cons, ← ih (by simpa using hk), ← setL_right, R.len, Nat.succ_mul, Nat.add_comm]
/-- an element is set whose rows are new -/
theorem OwnR.setNew {w1 w2 : World} {hi1 : Nat} (h : OwnR R w lo w.heap.size ad n cap us) (hlo : lo ≤ w.heap.size) (hb : Below w.heap.size w w1) {k : Nat} (hk : k < n) {a : α} (ha : R.ok a) (hn : Own w1 w.heap.size hi1 (R.inn a)) (hi1s : w.heap.size ≤ hi1)
    (hst : ∀ M, Own w1 lo hi1 (⟨R.e, R.size, ad, n, cap, us.flatMap R.cells⟩ :: M) → Own w2 lo hi1 (⟨R.e, R.size, ad, n, cap, setL (us.flatMap R.cells) (k * R.size) (R.cells a)⟩ :: M)) : OwnR R w2 lo hi1 ad n cap (us.set k a) := by
  have hkl : k < us.length := by rw [h.len]; exact hk
  refine ⟨?_, by rw [List.length_set]; exact h.len, fun b hb => ?_⟩
  · have h1 := Own.fresh h.own hlo (Nat.le_refl _) hb hn hi1s
    rw [List.cons_append] at h1
    have h2 := hst _ h1
    rw [flat_set R us hkl] at h2
    have e1 : us.flatMap R.inn = (us.take k).flatMap R.inn ++ (R.inn us[k] ++ (us.drop (k + 1)).flatMap R.inn) := by
      rw [← List.flatMap_cons, List.getElem_cons_drop, ← List.flatMap_append, List.take_append_drop]
    have e2 : (us.set k a).flatMap R.inn = (us.take k).flatMap R.inn ++ (R.inn a ++ (us.drop (k + 1)).flatMap R.inn) := by
      rw [List.set_eq_take_append_cons_drop, if_pos hkl, List.flatMap_append, List.flatMap_cons]
    rw [e1] at h2
    rw [e2]
    have h3 := h2.sub (M := ⟨R.e, R.size, ad, n, cap, (us.set k a).flatMap R.cells⟩ :: (((us.take k).flatMap R.inn ++ (us.drop (k + 1)).flatMap R.inn) ++ R.inn a)) (List.Sublist.cons_cons _ (List.Sublist.append (List.Sublist.append (List.Sublist.refl _) (List.sublist_append_right _ _)) (List.Sublist.refl _)))
    refine h3.perm (List.Perm.cons _ ?_)
    rw [List.append_assoc]
    exact List.Perm.append_left _ List.perm_append_comm
  · rcases List.mem_or_eq_of_mem_set hb with hb | rfl
    · exact h.ok b hb
    · exact ha
/-- one more element, whose rows are new -/
theorem OwnR.snoc {w1 w2 : World} {hi1 : Nat} {v' : Value} {a : α} {o : Obj} (h : OwnR R w lo w.heap.size ad n cap us) (hlo : lo ≤ w.heap.size) (hb : Below w.heap.size w w1) (ha : R.ok a) (hn : Own w1 w.heap.size hi1 (R.inn a)) (hi1s : hi1 ≤ w1.heap.size) (hi0 : w.heap.size ≤ hi1)
    (ho : w2.ownsRow lo R.e R.size v' (n + 1) (us.flatMap R.cells ++ R.cells a)) (hg : (w1.alloc o).grownBy w2 (Value.slice ad n cap).ownBlock) (hat : v'.ownBlock = (Value.slice ad n cap).ownBlock ∨ v'.ownBlock = some (w1.heap.size + 1)) :
    ∃ ad' cap', v' = .slice ad' (n + 1) cap' ∧ OwnR R w2 lo w2.heap.size ad' (n + 1) cap' (us ++ [a]) := by
  obtain ⟨ad', cap', rfl, _⟩ := Rd.of_owns ho
  refine ⟨ad', cap', rfl, ?_, by rw [List.length_append, h.len]; rfl, fun b hb => ?_⟩
  · have h1 := Own.fresh h.own hlo (Nat.le_refl _) hb hn hi0
    rw [List.cons_append] at h1
    have h2 : Own (w1.alloc o) lo hi1 _ := h1.below (below1 w1 o)
    have hs := hg.size
    have h3 := h2.grown (w' := w2) (hi' := w2.heap.size) (y := ⟨R.e, R.size, ad', n + 1, cap', (us ++ [a]).flatMap R.cells⟩) hg (by
      refine Row.mk' ?_
      rw [List.flatMap_append, List.flatMap_singleton]
      exact ho) (fun g e => ?_) (by simp at hs; omega)
    · have e : (us ++ [a]).flatMap R.inn = us.flatMap R.inn ++ R.inn a := by rw [List.flatMap_append, List.flatMap_singleton]
      rw [e]
      exact h3
    · rcases hat with e1 | e1
      · exact .inl (e1.symm.trans e)
      · right
        have e2 : some g = some (w1.heap.size + 1) := e.symm.trans e1
        cases e2
        omega
  · rcases List.mem_append.1 hb with hb | hb
    · exact h.ok b hb
    · simp at hb; subst hb; exact ha
/-- a row of nothing -/
def RowD.void (x : RowD) : Prop := x.ad = none ∧ x.n = 0 ∧ x.cap = 0 ∧ x.vs = []
theorem Own.voids {L : List RowD} (w : World) (lo hi : Nat) (h : ∀ x ∈ L, x.void) : Own w lo hi L := by
  induction L with
  | nil => exact Own.nil _ _ _
  | cons x L ih =>
    obtain ⟨e1, e2, e3, e4⟩ := h x (List.mem_cons_self ..)
    have ev : x.val = .slice none 0 0 := by unfold RowD.val; rw [e1, e2, e3]
    refine Own.cons ⟨?_, fun g e => by rw [ev] at e; cases e⟩ (ih fun y hy => h y (List.mem_cons_of_mem _ hy)) fun y hy g e => by rw [ev] at e; cases e
    rw [ev, e2, e4]
    exact ⟨by simp, .inl ⟨rfl, rfl⟩⟩
/-- rows that are made -/
theorem OwnR.made {w1 : World} {cs : List Value} {z : α} (h : w1.ownsRow w.heap.size R.e R.size (.slice (some ⟨w.heap.size, 0, none⟩) n n) n cs) (hc : cs = (List.replicate n z).flatMap R.cells) (hz : ∀ x ∈ R.inn z, x.void) (ho : R.ok z) :
    OwnR R w1 w.heap.size w1.heap.size (some ⟨w.heap.size, 0, none⟩) n n (List.replicate n z) := by
  refine ⟨?_, by simp, fun a ha => by rw [List.eq_of_mem_replicate ha]; exact ho⟩
  rw [← hc]
  have hv : ∀ x ∈ (List.replicate n z).flatMap R.inn, x.void := by
    intro x hx
    obtain ⟨a, ha, hx⟩ := List.mem_flatMap.1 hx
    rw [List.eq_of_mem_replicate ha] at hx
    exact hz x hx
  refine Own.cons (Row.mk' h) (Own.voids _ _ _ hv) fun y hy g e1 e2 => ?_
  obtain ⟨e3, _⟩ := hv y hy
  unfold RowD.val at e2
  rw [e3] at e2
  cases e2
end
end Go.Proofs.Ytfdgngnnncmfiaa
/- Plain laws of floats, continued: how great a written number is; square roots. No condition. -/
namespace Go.Proofs.Ytfdgngnnncmfiaa
open Go Go.RowKit Ieee
set_option linter.unusedVariables false
set_option linter.unusedSimpArgs false
theorem cut_le (neg : Bool) (n d : Nat) : Toward.even.cut neg n d ≤ n / (1 <<< min d (n.log2 + 2)) + 1 := by
  unfold Toward.cut
  exact Nat.add_le_add_left (Bool.toNat_le _) _
/-- the rung of a written number is not above a bound by its exponent -/
theorem nearest_bound (f : Format) (neg : Bool) {m : Nat} {p E : Int} (hE : p + m.log2 ≤ E) (hE2 : f.leastPlace ≤ E - f.fractionBits) :
    ∃ r, f.nearest neg m p = f.word neg r ∧ r ≤ (E - f.fractionBits - f.leastPlace).toNat * f.binade + 2 * f.binade ∧ r ≤ f.infRung := by
  have hB : f.binade = 2 ^ f.fractionBits := rfl
  by_cases hm : m = 0
  · subst hm
    unfold Format.nearest
    rw [if_pos rfl]
    exact ⟨0, rfl, Nat.zero_le _, Nat.zero_le _⟩
  obtain ⟨last, hlast⟩ : ∃ l, l = max (p + m.log2 - (f.fractionBits : Nat)) f.leastPlace := ⟨_, rfl⟩
  have h1 : last ≤ E - f.fractionBits := by omega
  have h2 : f.leastPlace ≤ last := by omega
  have h3 : p + m.log2 - (f.fractionBits : Nat) ≤ last := by omega
  unfold Format.nearest
  rw [if_neg hm]
  simp only [← hlast]
  refine ⟨_, rfl, Nat.le_trans (Nat.min_le_left _ _) ?_, Nat.min_le_right _ _⟩
  have hk : Toward.even.cut neg (m <<< (p - last).toNat) (last - p).toNat ≤ 2 * f.binade := by
    by_cases h : last ≤ p
    · have e : (last - p).toNat = 0 := by omega
      rw [e, cut_zero, Nat.shiftLeft_eq]
      have h4 : m.log2 + (p - last).toNat ≤ f.fractionBits := by omega
      have h5 := Nat.lt_log2_self (n := m)
      have h6 : m * 2 ^ (p - last).toNat < 2 ^ (m.log2 + 1) * 2 ^ (p - last).toNat := Nat.mul_lt_mul_of_pos_right h5 (Nat.two_pow_pos _)
      rw [← Nat.pow_add] at h6
      have h7 : 2 ^ (m.log2 + 1 + (p - last).toNat) ≤ 2 ^ (f.fractionBits + 1) := Nat.pow_le_pow_right (by decide) (by omega)
      rw [Nat.pow_succ] at h7
      omega
    · have e : (p - last).toNat = 0 := by omega
      rw [e, Nat.shiftLeft_zero]
      refine Nat.le_trans (cut_le _ _ _) ?_
      have h5 := Nat.lt_log2_self (n := m)
      by_cases h8 : (last - p).toNat ≤ m.log2 + 2
      · rw [Nat.min_eq_left h8, Nat.shiftLeft_eq, Nat.one_mul]
        have h9 : m < 2 ^ (f.fractionBits + 1) * 2 ^ (last - p).toNat := by
          rw [← Nat.pow_add]
          exact Nat.lt_of_lt_of_le h5 (Nat.pow_le_pow_right (by decide) (by omega))
        have h10 := Nat.div_lt_of_lt_mul (Nat.mul_comm _ _ ▸ h9)
        rw [Nat.pow_succ] at h10
        omega
      · rw [Nat.min_eq_right (by omega), Nat.shiftLeft_eq, Nat.one_mul]
        have h9 : m / 2 ^ (m.log2 + 2) = 0 := Nat.div_eq_of_lt (Nat.lt_of_lt_of_le h5 (Nat.pow_le_pow_right (by decide) (by omega)))
        rw [h9]
        have := Nat.two_pow_pos f.fractionBits
        omega
  have h4 : (last - f.leastPlace).toNat ≤ (E - f.fractionBits - f.leastPlace).toNat := by omega
  have := Nat.mul_le_mul_right f.binade h4
  omega
theorem s_bin : single.binade = 2 ^ 23 := by decide +kernel
theorem s_fb : single.fractionBits = 23 := rfl
theorem d_fb : double.fractionBits = 52 := rfl
/-- a wide number under 2 to the power of 127 is not too great for 32 bits -/
theorem narrow_small {b : Nat} {s : Bool} {m : Nat} {p : Int} (hd : FloatKind.f64.decode b = .number s m p) (h : p + m.log2 ≤ 126) : cvWide .f64 b .f32 = false := by
  unfold cvWide
  rw [if_neg (by decide), hd]
  show (single.read (single.nearest s m p)).isInfinity = false
  obtain ⟨r, e, hr, _⟩ := nearest_bound single s h (by rw [s_lp, s_fb]; decide)
  rw [e]
  apply not_inf_of_lt
  rw [s_lp, s_fb, s_bin] at hr
  rw [s_ir]
  have : (126 - (23 : Nat) - -149 : Int).toNat = 252 := by decide
  rw [this] at hr
  omega
/-- the exponent of a word, from its rung -/
theorem exp_of_rung (f : Format) {s : Bool} {r m : Nat} {p : Int} {E : Nat} (hr : r < f.infRung) (hd : f.read (f.word s r) = .number s m p) (hm : m ≠ 0) (hv : nval f r < 2 ^ (E + 1)) : p + m.log2 ≤ E + f.leastPlace := by
  obtain ⟨m', p', e1, e2, e3⟩ := read_fin f s hr
  rw [hd] at e1
  obtain ⟨_, rfl, rfl⟩ := Datum.number.inj e1
  rw [Nat.shiftLeft_eq] at e3
  have h1 : (nval f r).log2 < E + 1 := (Nat.log2_lt (by rw [← e3]; exact Nat.mul_ne_zero hm (by have := Nat.two_pow_pos (p - f.leastPlace).toNat; omega))).2 hv
  rw [← e3, log2_mul_pow hm] at h1
  omega
theorem rootFrom_lt (n : Nat) : ∀ todo root, Datum.rootFrom n todo root < root + 2 ^ todo
  | 0, root => by unfold Datum.rootFrom; simp
  | todo + 1, root => by
    unfold Datum.rootFrom
    have hs : root + 1 <<< todo = root + 2 ^ todo := by rw [Nat.shiftLeft_eq, Nat.one_mul]
    simp only [hs]
    split
    · have := rootFrom_lt n todo (root + 2 ^ todo)
      rw [Nat.pow_succ]; omega
    · have := rootFrom_lt n todo root
      rw [Nat.pow_succ]; have := Nat.two_pow_pos todo; omega

def sqbits (x : Nat) (w : World) : Nat := (double.sqrt x).getD ((Question.nanBits .f64 x x).cut (w.tape w.drawn (.nanBits .f64 x x)))
def sqdr (x : Nat) : Nat := if (double.sqrt x).isSome then 0 else 1
def fsq (x : Nat) : Nat := (double.sqrt x).getD (nanOf .f64)
theorem run_sqrt {P : Program} (w : World) (x : Nat) : (Extern.MathSqrt.sqrt #[.float .f64 x]).run P w = .ok (.float .f64 (sqbits x w)) (w.drewN (sqdr x)) := by
  unfold Extern.MathSqrt.sqrt sqbits sqdr
  show ((match double.sqrt x with
    | some r => (pure (.float .f64 r) : Sem Value)
    | none => do pure (.float .f64 (← choose (.nanBits .f64 x x)))).run P w) = _
  cases h : double.sqrt x with
  | some r => rfl
  | none => simp [choose, Sem.run, Question.forced, World.drewN]
theorem root_not {n : Nat} {a d : Datum} (h : a.root n = some d) : a.isNaN = false ∧ d.isNaN = false := by
  unfold Datum.root at h
  cases a with
  | nan s t => cases h
  | infinity s => cases s <;> simp at h; subst h; exact ⟨rfl, rfl⟩
  | number s m i =>
    refine ⟨rfl, ?_⟩
    simp only at h
    split at h
    · cases h; rfl
    · split at h
      · cases h
      · cases h; rfl
theorem sqrt_nan {x : Nat} (h : isN .f64 x = true) : double.sqrt x = none := by
  unfold Format.sqrt
  cases hr : (double.read x).root (double.fractionBits + 2) with
  | none => rfl
  | some d => have := (root_not hr).1; unfold isN at h; rw [show FloatKind.f64.format.read x = double.read x from rfl, this] at h; cases h
theorem sqrt_cn (x : Nat) : double.sqrt (cn .f64 x) = double.sqrt x := by
  cases h : isN .f64 x
  · rw [cn_not h]
  · rw [sqrt_nan h, sqrt_nan (by rw [isN_cn, h])]
theorem sqrt_not {x r : Nat} (h : double.sqrt x = some r) : isN .f64 r = false := by
  unfold Format.sqrt at h
  cases hr : (double.read x).root (double.fractionBits + 2) with
  | none => rw [hr] at h; cases h
  | some d =>
    rw [hr] at h
    have e : double.write d = r := by simpa using h
    rw [← e]
    exact write_not double (root_not hr).2
theorem cn_sqbits (x : Nat) (w : World) : cn .f64 (sqbits x w) = fsq (cn .f64 x) := by
  unfold sqbits fsq
  rw [sqrt_cn]
  cases h : double.sqrt x with
  | some r => exact cn_not (sqrt_not h)
  | none => exact cn_nan (drawn_nan .f64 x x _)
theorem d_ir2 : double.infRung = 2047 * 2 ^ 52 := by decide +kernel
theorem s_ir2 : single.infRung = 255 * 2 ^ 23 := by decide +kernel
theorem nval_top (f : Format) (k : Nat) (h : 1 ≤ k) : nval f (k * f.binade) = f.binade * 2 ^ (k - 1) := by
  have hB : 0 < f.binade := Nat.two_pow_pos _
  unfold nval
  have h1 : f.binade ≤ k * f.binade := Nat.le_mul_of_pos_left _ h
  rw [if_neg (by omega), Nat.mul_mod_left, Nat.mul_div_cancel _ hB, Nat.add_zero]
theorem nval_mono {f : Format} {x y : Nat} (h : x ≤ y) : nval f x ≤ nval f y := by
  rcases Nat.lt_or_eq_of_le h with h | h
  · exact Nat.le_of_lt (nval_lt h)
  · rw [h]; exact Nat.le_refl _
set_option exponentiation.threshold 2000 in
/-- a wide word that is not above 2 to the power of 67 is not too great for 32 bits -/
theorem narrow_rung (s : Bool) {q : Nat} (h : q ≤ 1090 * 2 ^ 52) : cvWide .f64 (double.word s q) .f32 = false := by
  have hq : q < double.infRung := by rw [d_ir2]; omega
  obtain ⟨m, p, e1, e2, e3⟩ := read_fin double s hq
  by_cases hm : m = 0
  · subst hm
    unfold cvWide
    rw [if_neg (by decide), show FloatKind.f64.decode (double.word s q) = _ from e1]
    show (single.read (single.nearest s 0 p)).isInfinity = false
    unfold Format.nearest
    rw [if_pos rfl]
    exact not_inf_of_lt _ _ (by rw [s_ir]; omega)
  · refine narrow_small (p := p) (m := m) (s := s) e1 ?_
    have hv : nval double q < 2 ^ (1141 + 1) := by
      have h1 : nval double q ≤ nval double (1090 * double.binade) := nval_mono (by rw [d_bin]; exact h)
      rw [nval_top double 1090 (by decide), d_bin, ← Nat.pow_add] at h1
      exact Nat.lt_of_le_of_lt h1 (Nat.pow_lt_pow_right (by decide) (by decide))
    have := exp_of_rung double hq e1 hm hv
    rw [d_lp] at this
    omega
set_option exponentiation.threshold 2000 in
/-- the square root of a wide 32-bit number is not too great for 32 bits -/
theorem root_small {x : Nat} (hx : x < 4294967296) (w w2 : World) : cvWide .f64 (sqbits (cvbits .f32 x .f64 w) w2) .f32 = false := by
  cases hr : double.sqrt (cvbits .f32 x .f64 w) with
  | none =>
    unfold sqbits
    rw [hr]
    exact wide_nan (drawn_nan .f64 (cvbits .f32 x .f64 w) (cvbits .f32 x .f64 w) _)
  | some t =>
    have ht : sqbits (cvbits .f32 x .f64 w) w2 = t := by unfold sqbits; rw [hr]; rfl
    rw [ht]
    have hN : isN .f32 x = false := by
      cases h : isN .f32 x
      · rfl
      · rw [sqrt_nan (isN_wide x w h)] at hr; cases hr
    obtain ⟨s, r, rfl, hrs⟩ := word_of single (x := x) (by rw [s_sw]; omega)
    rcases Nat.lt_trichotomy r single.infRung with h | h | h
    · obtain ⟨q, hq, hw, hv⟩ := wide_fin s h
      rw [hw w] at hr
      obtain ⟨m, i, e1, e2, e3⟩ := read_fin double s hq
      unfold Format.sqrt at hr
      rw [e1] at hr
      unfold Datum.root at hr
      simp only at hr
      by_cases hm : m = 0
      · subst hm
        rw [if_pos rfl] at hr
        have e : double.nearest s 0 i = t := by simpa [Format.write] using hr
        rw [← e]
        unfold Format.nearest
        rw [if_pos rfl]
        exact narrow_rung s (Nat.zero_le _)
      · rw [if_neg hm] at hr
        cases s
        · simp only [Bool.false_eq_true, if_false, Option.map_some, Option.some.injEq] at hr
          rw [← hr]
          have hvs : nval single r < 2 ^ 277 := by
            have h1 : nval single r < nval single (255 * single.binade) := nval_lt (by rw [s_bin, ← s_ir2]; exact h)
            rw [nval_top single 255 (by decide), s_bin, ← Nat.pow_add] at h1
            exact h1
          have hvd : nval double q < 2 ^ (1201 + 1) := by
            rw [hv]
            have := Nat.mul_lt_mul_of_pos_right hvs (Nat.two_pow_pos 925)
            rwa [← Nat.pow_add] at this
          have hb := exp_of_rung double hq e1 hm hvd
          rw [d_lp] at hb
          obtain ⟨mo, hmo⟩ : ∃ mo, mo = 2 * (double.fractionBits + 2) - m.log2 + ((i - ((2 * (double.fractionBits + 2) - m.log2 : Nat) : Int)) % 2).toNat := ⟨_, rfl⟩
          rw [← hmo]
          have hn : (m <<< mo).log2 = m.log2 + mo := by rw [Nat.shiftLeft_eq]; exact log2_mul_pow hm
          obtain ⟨W, hW⟩ : ∃ W, W = Datum.rootFrom (m <<< mo) ((m <<< mo).log2 / 2 + 1) 0 := ⟨_, rfl⟩
          have hWl := rootFrom_lt (m <<< mo) ((m <<< mo).log2 / 2 + 1) 0
          rw [← hW] at hWl ⊢
          rw [hn] at hWl
          obtain ⟨c, hc⟩ : ∃ c, c = (W * W != m <<< mo).toNat := ⟨_, rfl⟩
          have hc1 : c ≤ 1 := by rw [hc]; exact Bool.toNat_le _
          rw [← hc]
          have hM : (2 * W + c).log2 ≤ (m.log2 + mo) / 2 + 1 := by
            by_cases h0 : 2 * W + c = 0
            · rw [h0]; simp
            · have : (2 * W + c).log2 < (m.log2 + mo) / 2 + 1 + 1 := (Nat.log2_lt h0).2 (by rw [Nat.pow_succ]; omega)
              omega
          obtain ⟨r2, er, hr2, _⟩ := nearest_bound double false (m := 2 * W + c) (p := (i - (mo : Int)) / 2 - 1) (E := 66) (by omega) (by rw [d_lp, d_fb]; decide)
          rw [show double.write (.number false (2 * W + c) ((i - (mo : Int)) / 2 - 1)) = _ from er]
          refine narrow_rung false ?_
          rw [d_lp, d_fb, d_bin] at hr2
          have : (66 - (52 : Nat) - -1074 : Int).toNat = 1088 := by decide
          rw [this] at hr2
          omega
        · simp at hr
    · subst h
      have e1 : cvbits .f32 (single.word s single.infRung) .f64 w = double.word s double.infRung := by
        unfold cvbits
        rw [if_neg (by decide), show FloatKind.f32.decode (single.word s single.infRung) = _ from read_inf single single_binade s]
        rfl
      rw [e1] at hr
      unfold Format.sqrt at hr
      rw [read_inf double double_binade s] at hr
      cases s
      · have e : double.word false double.infRung = t := by simpa [Datum.root, Format.write] using hr
        rw [← e]
        unfold cvWide
        rw [if_neg (by decide), show FloatKind.f64.decode (double.word false double.infRung) = _ from read_inf double double_binade false]
      · simp [Datum.root] at hr
    · have := nan_word single single_binade s h hrs
      have h2 : isN .f32 (single.word s r) = true := this
      rw [hN] at h2; cases h2
def rootE (c : Nat) : Nat := fcv .f64 (fsq (fcv .f32 c .f64)) .f32
theorem cn_root {x : Nat} (hx : x < 4294967296) (w w2 w3 : World) : cn .f32 (cvbits .f64 (sqbits (cvbits .f32 x .f64 w) w2) .f32 w3) = rootE (cn .f32 x) ∧ cvbits .f64 (sqbits (cvbits .f32 x .f64 w) w2) .f32 w3 < 4294967296 := by
  have h := root_small hx w w2
  refine ⟨?_, cv_lt32 w3 h⟩
  rw [cn_cvbits w3 h, cn_sqbits, cn_wide]
  rfl
end Go.Proofs.Ytfdgngnnncmfiaa
/- Plain laws of floats, continued: the nearest bfloat. No condition. -/
namespace Go.Proofs.Ytfdgngnnncmfiaa
open Go Go.RowKit Ieee
set_option linter.unusedVariables false
set_option linter.unusedSimpArgs false
theorem and_16 (N a : Nat) (hN : 16 ≤ N) (ha : a < 2 ^ N) : a &&& (2 ^ N - (65535 + 1)) = a / 65536 * 65536 := by
  have h0 : 65535 < 2 ^ N := Nat.lt_of_lt_of_le (by decide : 65535 < 2 ^ 16) (Nat.pow_le_pow_right (by decide) hN)
  have e : a / 65536 * 65536 = (a >>> 16) <<< 16 := by rw [Nat.shiftLeft_eq, Nat.shiftRight_eq_div_pow]
  rw [e]
  apply Nat.eq_of_testBit_eq
  intro i
  rw [Nat.testBit_and, Nat.testBit_two_pow_sub_succ h0, Nat.testBit_shiftLeft, Nat.testBit_shiftRight, show 65535 = 2 ^ 16 - 1 by decide, Nat.testBit_two_pow_sub_one]
  by_cases h : i < N
  · by_cases h16 : i < 16
    · have : ¬ (i ≥ 16) := by omega
      simp [h, h16, this]
    · have h2 : i ≥ 16 := by omega
      simp [h, h16, h2, show 16 + (i - 16) = i by omega]
  · have h1 : a.testBit i = false := Nat.testBit_lt_two_pow (Nat.lt_of_lt_of_le ha (Nat.pow_le_pow_right (by decide) (by omega)))
    by_cases h2 : i ≥ 16
    · simp [h1, h2, show 16 + (i - 16) = i by omega]
    · simp [h1, h2]
theorem andNot_u32 (a : Nat) (ha : a < 4294967296) : bits .andNot .u32 (a : Int) 65535 = ((a / 65536 * 65536 : Nat) : Int) := by
  have := u32_andNot_nat a 65535 ha (by decide)
  rw [show ((65535 : Nat) : Int) = 65535 from rfl] at this
  rw [this, show 4294967295 - 65535 = 2 ^ 32 - (65535 + 1) by decide, and_16 32 a (by decide) (by omega)]
theorem andNot_i64 (a : Nat) (ha : a < 4611686018427387904) : bits .andNot .i64 (a : Int) 65535 = ((a / 65536 * 65536 : Nat) : Int) := by
  show IntKind.i64.wrap ((BitVec.ofInt 64 (a : Int) &&& ~~~BitVec.ofInt 64 65535).toNat : Int) = _
  have h1 : (BitVec.ofInt 64 65535).toNat = 65535 := by decide
  have h2 : (BitVec.ofInt 64 (a : Int)).toNat = a := by
    rw [BitVec.toNat_ofInt]; omega
  rw [BitVec.toNat_and, BitVec.toNat_not, h1, h2, show 2 ^ 64 - 1 - 65535 = 2 ^ 64 - (65535 + 1) by decide, and_16 64 a (by decide) (by omega)]
  exact wrap_small _ (by omega) (by omega)
/-- the word of the nearest bfloat of a word that is no NaN -/
def bfW (x : Nat) : Nat := (x + (32767 + x / 65536 % 2)) / 65536 * 65536
def bfE (c : Nat) : Nat := if isN .f32 c = true then nanOf .f32 else cn .f32 (bfW c)
theorem not_nan_bd {x : Nat} (hx : x < 4294967296) (h : isN .f32 x = false) : x ≤ 4286578688 := by
  obtain ⟨s, r, rfl, hr⟩ := word_of single (x := x) (by rw [s_sw]; omega)
  have hle : r ≤ single.infRung := by
    rcases Nat.lt_or_ge single.infRung r with h1 | h1
    · have h2 : isN .f32 (single.word s r) = true := nan_word single single_binade s h1 hr
      rw [h] at h2; cases h2
    · exact h1
  rw [s_ir] at hle
  unfold Format.word
  rw [s_sw]
  split <;> omega
theorem bfW_lt {x : Nat} (hx : x ≤ 4286578688) : bfW x < 4294967296 ∧ x + (32767 + x / 65536 % 2) < 4294967296 := by
  unfold bfW
  omega
theorem bfW_inf {x : Nat} (h : x = 2139095040 ∨ x = 4286578688) : bfW x = x := by rcases h with h | h <;> subst h <;> decide
theorem not_fin {x : Nat} (hx : x < 4294967296) (h : finB x = false) (hn : isN .f32 x = false) : x = 2139095040 ∨ x = 4286578688 := by
  obtain ⟨s, r, rfl, hr⟩ := word_of single (x := x) (by rw [s_sw]; omega)
  have hle : r = single.infRung := by
    rcases Nat.lt_trichotomy single.infRung r with h1 | h1 | h1
    · have h2 : isN .f32 (single.word s r) = true := nan_word single single_binade s h1 hr
      rw [hn] at h2; cases h2
    · exact h1.symm
    · obtain ⟨m, p, e, _⟩ := read_fin single s h1
      unfold finB at h
      rw [e] at h; cases h
  subst hle
  cases s
  · left; exact s_ir
  · right; unfold Format.word; rw [s_sw, s_ir]; rfl
theorem and1_u32 (a : Nat) (ha : a < 4294967296) : bits .and .u32 (a : Int) 1 = ((a % 2 : Nat) : Int) := by
  have := u32_and_nat a 1 ha (by decide)
  rw [show ((1 : Nat) : Int) = 1 from rfl] at this
  rw [this, Nat.and_one_is_mod]
theorem and1_i64 (a : Nat) (ha : a < 4294967296) : bits .and .i64 (a : Int) 1 = ((a % 2 : Nat) : Int) := by
  show IntKind.i64.wrap ((BitVec.ofInt 64 (a : Int) &&& BitVec.ofInt 64 1).toNat : Int) = _
  have h1 : (BitVec.ofInt 64 1).toNat = 1 := by decide
  have h2 : (BitVec.ofInt 64 (a : Int)).toNat = a := by
    rw [BitVec.toNat_ofInt]; omega
  rw [BitVec.toNat_and, h1, h2, Nat.and_one_is_mod]
  exact wrap_small _ (by omega) (by omega)
theorem bf_u32 {x : Nat} (h : x ≤ 4286578688) : (bits .andNot .u32 (((x : Int) + (32767 + bits .and .u32 ((x : Int) / 65536) 1)) % 4294967296) 65535).toNat = bfW x := by
  have h2 := (bfW_lt h).2
  rw [show (x : Int) / 65536 = ((x / 65536 : Nat) : Int) by omega, and1_u32 _ (by omega), show ((x : Int) + (32767 + ((x / 65536 % 2 : Nat) : Int))) % 4294967296 = ((x + (32767 + x / 65536 % 2) : Nat) : Int) by omega, andNot_u32 _ h2]
  rfl
theorem bf_i64 {x : Nat} (h : x ≤ 4286578688) : bits .andNot .i64 (wrap64 ((x : Int) + wrap64 (32767 + bits .and .i64 ((x : Int) / 65536) 1))) 65535 = ((bfW x : Nat) : Int) := by
  have h2 := (bfW_lt h).2
  rw [show (x : Int) / 65536 = ((x / 65536 : Nat) : Int) by omega, and1_i64 _ (by omega), show wrap64 ((x : Int) + wrap64 (32767 + ((x / 65536 % 2 : Nat) : Int))) = ((x + (32767 + x / 65536 % 2) : Nat) : Int) by unfold wrap64; omega, andNot_i64 _ (by omega)]
  rfl
end Go.Proofs.Ytfdgngnnncmfiaa
/- What the nearest bfloat is. No condition. -/
namespace Go.Proofs.Ytfdgngnnncmfiaa
open Go Go.RowKit
set_option linter.unusedVariables false
set_option linter.unusedSimpArgs false
end Go.Proofs.Ytfdgngnnncmfiaa
/- What gathered roundings are. No condition. -/
namespace Go.Proofs.Ytfdgngnnncmfiaa
open Go Go.RowKit
set_option linter.unusedVariables false
set_option linter.unusedSimpArgs false
def gR (X : List Nat) : Nat → Nat → Nat
  | 0, _ => 0
  | j + 1, i => fop .sub .f32 (fop .add .f32 (X.getD i 0) (gR X j i)) (bfE (fop .add .f32 (X.getD i 0) (gR X j i)))
def gS (X : List Nat) : Nat → Nat → Nat
  | 0, _ => 0
  | j + 1, i => fop .add .f32 (gS X j i) (bfE (fop .add .f32 (X.getD i 0) (gR X j i)))
theorem zeros_listOf (n : Nat) : (List.replicate n 0).map (cn .f32) = listOf n (fun _ => 0) := by
  apply List.ext_getElem
  · simp [listOf]
  · intro i h1 h2
    simp [listOf, cn_zero]
theorem zeros_own {w : World} {base n : Nat} {e : TypeId} {v : Value} (h : w.ownsRow base e 1 v n (madeCells #[Value.float .f32 0] n).toList) : w.ownsRow base e 1 v n ((List.replicate n 0).map (Value.float .f32)) := by
  rw [toList_madeCells_one] at h
  rwa [List.map_replicate]
theorem zeros_lt (n : Nat) : ∀ x ∈ List.replicate n 0, x < 4294967296 := by
  intro x hx
  rw [(List.mem_replicate.1 hx).2]; decide
theorem zeros_rep {w : World} {n : Nat} {g : Nat} (h : w.ownsRow g 49 1 (.slice (some ⟨g, 0, none⟩) n n) n (madeCells #[Value.float .f32 0] n).toList) : RepF w g w.heap.size (some ⟨g, 0, none⟩) n n (List.replicate n 0) := by
  obtain ⟨a1, c1, e1, hS⟩ := RepF.of_owns (zeros_own h) (zeros_lt n)
  cases e1
  exact hS
def gatOk (n : Nat) (r : Int) : Bool := decide (n ≤ 256) && inB r 0 20
end Go.Proofs.Ytfdgngnnncmfiaa
/- What empty slots are. No condition. -/
namespace Go.Proofs.Ytfdgngnnncmfiaa
open Go Go.RowKit
set_option linter.unusedVariables false
set_option linter.unusedSimpArgs false
/-- an element is appended to a row of the call's own; what is written is told -/
theorem wp_appG {P : Program} {ops : Array Oper} {rest : List Oper} {o : Oper} {a : Act} {Q : Exit → Act → World → Prop} {e : TypeId} {W : World} {cs : Array Value} (hgd : o.guard = none) (s x : Operand) (t : TypeId)
    (ho : o.op = .call { callee := .builtin .append, args := #[s, x], argTypes := #[t, t] })
    (base : Nat) (i : TypeInfo) (z : Value) (size bytes : Nat) (ht : P.underlying t = some (.slice e)) (hi : P.info? e = some i) (hz : i.zero = some z)
    (hsize : i.size = size) (hby : i.bytes = bytes) (hzs : z.cells.size = size) (hsz : 0 < size)
    (hcs : cs.size = size) (h1 : ∀ u ∈ cs.toList, u.oneCell' = true)
    (v : Value) (n : Nat) (xs : List Value) (hs : a.eval s = v) (hown : W.ownsRow base e size v n xs) (hx : a.eval x = .slice (some ⟨W.heap.size, 0, none⟩) 1 1)
    (h63 : n + 1 ≤ maxLen) (hbytes : (n + 1) * bytes ≤ 140737488355328) (hbase : base ≤ W.heap.size)
    (h : ∀ v' w', w'.ownsRow base e size v' (n + 1) (xs ++ cs.toList) → (W.alloc (.cells cs e)).grownBy w' v.ownBlock → Below base W w' → base ≤ w'.heap.size → wpList P ops Q rest (a.put o.dst v') w') : wpList P ops Q (o :: rest) a (W.alloc (.cells cs e)) := by
  refine wpList_append_own (W.alloc (.cells cs e)) hgd s x t ho base e i z size bytes ht hi hz hsize hby hzs hsz v n xs hs (hown.alloc _) ⟨W.heap.size, 0, none⟩ 1 1 cs.toList hx (by simpa using hcs) ?_ h1 h63 hbytes (by simp; omega) ?_
  · intro j u hj
    rw [Addr.add_lit, World.cell?_alloc_at _ _ _ _ rfl]
    simpa using hj
  · intro v' w' h2 hg _
    have hb : Below base W w' := ((Below.refl _ _).alloc hbase _).grown hg (by simp; omega) (fun j hj => (hown.lt j hj).1)
    refine h v' w' h2 hg hb ?_
    have := hg.size
    simp at this
    omega
def slotsN (k : Int) : Nat := if k = 0 then 0 else if k = 4 then 2 else 1
theorem slotsN_le (k : Int) : slotsN k ≤ 2 := by unfold slotsN; split <;> (try split) <;> omega
def emptyOk (k cnt : Int) : Bool := inB k 0 4 && inB cnt 0 256
def zeroRows (s n : Nat) : List (List Nat) := List.replicate s (List.replicate n 0)
end Go.Proofs.Ytfdgngnnncmfiaa
/- What copying, measuring slices of slices of numbers does; rows set and appended. No condition. -/
namespace Go.Proofs.Ytfdgngnnncmfiaa
open Go Go.RowKit
set_option linter.unusedVariables false
set_option linter.unusedSimpArgs false
theorem sz_f32s (w : World) (ad : Option Addr) (n cap : Nat) (L : Int) (hn : n ≤ maxLen) (h0 : 0 ≤ L) (h1 : L ≤ 1048576) : Calls Try.prog 31 #[.slice ad n cap, .int .i64 L] w fun e w' => e = .returned (.int .i64 (if (n : Int) ≤ L then L - n else -1)) ∧ w = w' := by
  unfold maxLen at hn
  by_cases h : (n : Int) ≤ L
  · rw [if_pos h]
    go_enter Try.func31, Try.ntmps31
    go_wp2
    go_ret
    exact ⟨rfl, rfl⟩
  · rw [if_neg h]
    go_enter Try.func31, Try.ntmps31
    go_wp2
    go_ret
    exact ⟨rfl, rfl⟩
end Go.Proofs.Ytfdgngnnncmfiaa
/- Tensors, operations, rows of integers as records; how they are opened among arguments. No condition. -/
namespace Go.Proofs.Ytfdgngnnncmfiaa
open Go Go.RowKit Go.ChangeShapes Go.WideShapes
set_option linter.unusedVariables false
set_option linter.unusedSimpArgs false
def floatRow (ad : Option Addr) (cap : Nat) (xs : List Nat) : RowD := ⟨49, 1, ad, xs.length, cap, xs.map (Value.float .f32)⟩
def okF (xs : List Nat) : Prop := ∀ x ∈ xs, x < 4294967296
theorem SeeRow.f32s {w : World} {ad : Option Addr} {cap : Nat} {xs : List Nat} (h : SeeRow w (floatRow ad cap xs)) (ho : okF xs) : F32s w ad cap xs := ⟨h.le, h.cap, h.rd, ho⟩
theorem F32s.seeRow {w : World} {ad : Option Addr} {cap : Nat} {xs : List Nat} (h : F32s w ad cap xs) : SeeRow w (floatRow ad cap xs) := ⟨h.len, h.cap, by simp [floatRow], h.rd⟩
theorem RepF.ownRow {w : World} {lo hi : Nat} {ad : Option Addr} {n cap : Nat} {xs : List Nat} (h : RepF w lo hi ad n cap xs) : Own w lo hi [floatRow ad cap xs] := by
  have hl := h.len
  subst hl
  exact Own.one h.row
theorem RepF.okF {w : World} {lo hi : Nat} {ad : Option Addr} {n cap : Nat} {xs : List Nat} (h : RepF w lo hi ad n cap xs) : okF xs := h.lt
theorem Own.repF {w : World} {lo hi : Nat} {ad : Option Addr} {cap : Nat} {xs : List Nat} {L : List RowD} (h : Own w lo hi L) (hm : floatRow ad cap xs ∈ L) (ho : okF xs) : RepF w lo hi ad xs.length cap xs := ⟨h.row _ hm, rfl, ho⟩
/-- a tensor: rows, columns, where its numbers lie, and the numbers -/
structure TenP where
  r : Int
  c : Int
  xs : List Nat
structure Ten extends TenP where
  ad : Option Addr
  cap : Nat
def TenP.can (t : TenP) : TenP := ⟨t.r, t.c, t.xs.map (cn .f32)⟩
def Ten.okI (t : Ten) : Prop := (Lit.int .i64 t.r).wf = true ∧ (Lit.int .i64 t.c).wf = true
def Ten.cells (t : Ten) : List Value := [.int .i64 t.r, .int .i64 t.c, .slice t.ad t.xs.length t.cap]
def Ten.val (t : Ten) : Value := .agg #[.int .i64 t.r, .int .i64 t.c, .slice t.ad t.xs.length t.cap]
def tenR : RecT Ten := ⟨38, 3, Ten.cells, fun t => [floatRow t.ad t.cap t.xs], fun t => okF t.xs, fun _ => rfl⟩
/-- an operation of a tape -/
structure OpP where
  k : Int
  a : Int
  b : Int
  num : Nat
  r : Int
  c : Int
  xs : List Nat
structure OpD extends OpP where
  ad : Option Addr
  cap : Nat
def OpP.can (o : OpP) : OpP := ⟨o.k, o.a, o.b, cn .f32 o.num, o.r, o.c, o.xs.map (cn .f32)⟩
def OpD.cells (o : OpD) : List Value := [.int .i64 o.k, .int .i64 o.a, .int .i64 o.b, .float .f32 o.num, .int .i64 o.r, .int .i64 o.c, .slice o.ad o.xs.length o.cap]
def OpD.val (o : OpD) : Value := .agg #[.int .i64 o.k, .int .i64 o.a, .int .i64 o.b, .float .f32 o.num, .int .i64 o.r, .int .i64 o.c, .slice o.ad o.xs.length o.cap]
def OpD.ok (o : OpD) : Prop := okF o.xs ∧ o.num < 4294967296 ∧ (Lit.int .i64 o.k).wf = true ∧ (Lit.int .i64 o.a).wf = true ∧ (Lit.int .i64 o.b).wf = true ∧ (Lit.int .i64 o.r).wf = true ∧ (Lit.int .i64 o.c).wf = true
def opR : RecT OpD := ⟨68, 7, OpD.cells, fun o => [floatRow o.ad o.cap o.xs], OpD.ok, fun _ => rfl⟩
/-- one operation of a tape that is read: its cells and its row -/
theorem op_spot {w : World} {ad : Option Addr} {cap : Nat} {os : List OpD} (h : SeeR opR w ad cap os) {k : Nat} {o : OpD} (hk : os[k]? = some o) : ∃ b off, ad = some ⟨b, off, none⟩ ∧ b < w.heap.size ∧
    (w.cell? ⟨b, off + k * 7, none⟩ = some (.int .i64 o.k) ∧ w.cell? ⟨b, off + k * 7 + 1, none⟩ = some (.int .i64 o.a) ∧ w.cell? ⟨b, off + k * 7 + 2, none⟩ = some (.int .i64 o.b) ∧ w.cell? ⟨b, off + k * 7 + 3, none⟩ = some (.float .f32 o.num) ∧ w.cell? ⟨b, off + k * 7 + 4, none⟩ = some (.int .i64 o.r) ∧ w.cell? ⟨b, off + k * 7 + 5, none⟩ = some (.int .i64 o.c) ∧ w.cell? ⟨b, off + k * 7 + 6, none⟩ = some (.slice o.ad o.xs.length o.cap)) ∧
    F32s w o.ad o.cap o.xs ∧ o.ok := by
  obtain ⟨b, off, e, hb, hc⟩ := h.spot hk (by decide)
  have hm := List.mem_of_getElem? hk
  exact ⟨b, off, e, hb, ⟨hc 0 (by decide), hc 1 (by decide), hc 2 (by decide), hc 3 (by decide), hc 4 (by decide), hc 5 (by decide), hc 6 (by decide)⟩, (h.inn o hm _ (List.mem_singleton.2 rfl)).f32s (h.ok o hm).1, h.ok o hm⟩
section
variable {H : Type} {enc : TypeId × Value → H} {w : World} {base : Nat} {spare : Nat → Bool} {held : Bool}
theorem dec_Tensor {n : Nat} {cs : List Value} {y : DataW H × List MemPlace} (h : DataW.trod enc Try.prog w base spare held n 27 cs = some y) :
    ∃ (r c : Int) (ad : Option Addr) (cap : Nat) (xs : List Nat), cs = [.int .i64 r, .int .i64 c, .slice ad xs.length cap] ∧ (Lit.int .i64 r).wf = true ∧ (Lit.int .i64 c).wf = true ∧ F32s w ad cap xs := by
  have c0 : Try.prog.cellsOf 27 = 3 := by kernel_rfl
  have c1 : Try.prog.cellsOf 2 = 1 := by kernel_rfl
  have c2 : Try.prog.cellsOf 25 = 1 := by kernel_rfl
  obtain ⟨n, hl, hp⟩ := trod_parts Try.underlying27 h
  rw [c0] at hl
  obtain ⟨x0, x1, x2, rfl⟩ := list3 hl
  obtain ⟨y0, h0⟩ := hp 0 2 0 1 _ rfl rfl rfl c1
  obtain ⟨y1, h1⟩ := hp 1 2 1 1 _ rfl rfl rfl c1
  obtain ⟨y2, h2⟩ := hp 2 25 2 1 _ rfl rfl rfl c2
  simp only [List.drop_succ_cons, List.drop_zero, List.take_succ_cons, List.take_zero] at h0 h1 h2
  obtain ⟨r, e0, _, w0⟩ := DataW.trod_int Try.underlying2 h0
  obtain ⟨g, e1, _, w1⟩ := DataW.trod_int Try.underlying2 h1
  obtain ⟨ad, cap, xs, e2, w2⟩ := dec_f32s Try.underlying25 Try.underlying49 h2
  simp only [List.cons.injEq, and_true] at e0 e1 e2
  subst e0 e1 e2
  exact ⟨r, g, ad, cap, xs, rfl, w0, w1, w2⟩
end
end Go.Proofs.Ytfdgngnnncmfiaa
/- A block of three cells. No condition. -/
namespace Go.Proofs.Ytfdgngnnncmfiaa
open Go Go.RowKit
set_option linter.unusedVariables false
set_option linter.unusedSimpArgs false
theorem touch_keep3 {w w' : World} {lo hi c : Nat} (ht : Touch lo hi w w') (hc : c < w.heap.size) (hd : c < lo ∨ hi ≤ c) (o : Nat) : w'.cell? ⟨c, o, none⟩ = w.cell? ⟨c, o, none⟩ ∧ w'.frozen? ⟨c, o, none⟩ = w.frozen? ⟨c, o, none⟩ :=
  ⟨World.cell?_of_block (w := w) (ht.block c hc hd), by unfold World.frozen?; rw [ht.block c hc hd]⟩
/-- a block of three cells that may be written -/
structure Box3 (w : World) (c : Nat) (a b d : Value) : Prop where
  lt : c < w.heap.size
  c0 : w.cell? ⟨c, 0, none⟩ = some a
  c1 : w.cell? ⟨c, 1, none⟩ = some b
  c2 : w.cell? ⟨c, 2, none⟩ = some d
  fz : ∀ o, w.frozen? ⟨c, o, none⟩ = false
theorem Box3.alloc (w : World) (a b d : Value) (t : TypeId) : Box3 (w.alloc (.cells #[a, b, d] t)) w.heap.size a b d :=
  ⟨by simp, by rw [World.cell?_alloc_at _ _ _ _ rfl]; rfl, by rw [World.cell?_alloc_at _ _ _ _ rfl]; rfl, by rw [World.cell?_alloc_at _ _ _ _ rfl]; rfl, fun o => World.frozen?_alloc_at _ _ _ _ rfl⟩
/-- the second of two blocks -/
theorem Box3.alloc2 (w : World) (o : Obj) (a b d : Value) (t : TypeId) : Box3 ((w.alloc o).alloc (.cells #[a, b, d] t)) (w.heap.size + 1) a b d := by
  have h := Box3.alloc (w.alloc o) a b d t
  rwa [show (w.alloc o).heap.size = w.heap.size + 1 by simp] at h
theorem Box3.touch {w w' : World} {c lo hi : Nat} {a b d : Value} (h : Box3 w c a b d) (ht : Touch lo hi w w') (hd : c < lo ∨ hi ≤ c) : Box3 w' c a b d :=
  ⟨Nat.lt_of_lt_of_le h.lt ht.size, (touch_keep3 ht h.lt hd 0).1.trans h.c0, (touch_keep3 ht h.lt hd 1).1.trans h.c1, (touch_keep3 ht h.lt hd 2).1.trans h.c2, fun o => (touch_keep3 ht h.lt hd o).2.trans (h.fz o)⟩
theorem Box3.below {w w' : World} {c : Nat} {a b d : Value} (h : Box3 w c a b d) (hb : Below w.heap.size w w') : Box3 w' c a b d := h.touch (lo := w'.heap.size) (hi := w'.heap.size) (Touch.of_below hb) (.inl (Nat.lt_of_lt_of_le h.lt hb.size))
theorem set_at3 {w : World} {c i j : Nat} {u v : Value} (h : w.cell? ⟨c, j, none⟩ = some u) : (w.setCell ⟨c, i, none⟩ v).cell? ⟨c, j, none⟩ = some (if i = j then v else u) := by
  by_cases e : i = j
  · subst e; rw [if_pos rfl]; exact World.cell?_setCell_same' _ _ _ (by rw [h]; rfl)
  · rw [if_neg e, World.cell?_setCell_other w ⟨c, i, none⟩ ⟨c, j, none⟩ v (by intro h; cases h; exact e rfl)]; exact h
theorem Box3.set {w : World} {c : Nat} {a b d : Value} (h : Box3 w c a b d) (i : Nat) (v : Value) : Box3 (w.setCell ⟨c, i, none⟩ v) c (if i = 0 then v else a) (if i = 1 then v else b) (if i = 2 then v else d) :=
  ⟨by simpa [World.setCell] using h.lt, set_at3 h.c0, set_at3 h.c1, set_at3 h.c2, fun o => by rw [World.frozen?_setCell]; exact h.fz o⟩
theorem Box3.far {w : World} {c : Nat} {a b d : Value} (h : Box3 w c a b d) (c' i : Nat) (v : Value) (hc : c' ≠ c) : Box3 (w.setCell ⟨c', i, none⟩ v) c a b d := by
  have hk : ∀ j, (w.setCell ⟨c', i, none⟩ v).cell? ⟨c, j, none⟩ = w.cell? ⟨c, j, none⟩ := fun j => World.cell?_setCell_other w ⟨c', i, none⟩ ⟨c, j, none⟩ v (by intro h; cases h; exact hc rfl)
  exact ⟨by simpa [World.setCell] using h.lt, (hk 0).trans h.c0, (hk 1).trans h.c1, (hk 2).trans h.c2, fun o => by rw [World.frozen?_setCell]; exact h.fz o⟩
theorem F32s.cut3 {w : World} {g off cap : Nat} {xs : List Nat} (h : F32s w (some ⟨g, off, none⟩) cap xs) (m : Nat) (hm : m ≤ xs.length) : F32s w (some ⟨g, off, none⟩) cap (xs.take m) ∧ F32s w (some ⟨g, off + m, none⟩) (cap - m) (xs.drop m) := by
  have h1 := h.len; have h2 := h.cap
  refine ⟨⟨by simp; omega, h2, ?_, fun x hx => h.lt x (List.mem_of_mem_take hx)⟩, ⟨by simp; omega, by omega, ?_, fun x hx => h.lt x (List.mem_of_mem_drop hx)⟩⟩
  · rcases h.rd with h3 | ⟨b, o, e, hb, hc⟩
    · left; rw [List.map_take, h3]; simp
    · right
      refine ⟨b, o, e, hb, fun j hj => ?_⟩
      simp only [List.length_map, List.length_take] at hj
      rw [hc j (by simp; omega), List.map_take, List.getElem?_take, if_pos (by omega)]
  · rcases h.rd with h3 | ⟨b, o, e, hb, hc⟩
    · left; rw [List.map_drop, h3]; simp
    · right
      cases e
      refine ⟨g, off + m, rfl, hb, fun j hj => ?_⟩
      simp only [List.length_map, List.length_drop] at hj
      rw [Nat.add_assoc, hc (m + j) (by simp; omega), List.map_drop, List.getElem?_drop]
end Go.Proofs.Ytfdgngnnncmfiaa
/- What copying, comparing, marking tensors and operations of tapes does. No condition. -/
namespace Go.Proofs.Ytfdgngnnncmfiaa
open Go Go.RowKit
set_option linter.unusedVariables false
set_option linter.unusedSimpArgs false
theorem bel3 {B g : Nat} {w w' : World} (hb : Below B w w') (hg : B ≤ g) (a b d : Value) : Below B w (((w'.setCell ⟨g, 0, none⟩ a).setCell ⟨g, 1, none⟩ b).setCell ⟨g, 2, none⟩ d) :=
  Below.setCell (p := ⟨g, 2, none⟩) (Below.setCell (p := ⟨g, 1, none⟩) (Below.setCell (p := ⟨g, 0, none⟩) hb hg a) hg b) hg d
theorem tch3 (w' : World) (g : Nat) (a b d : Value) : Touch g (g + 1) w' (((w'.setCell ⟨g, 0, none⟩ a).setCell ⟨g, 1, none⟩ b).setCell ⟨g, 2, none⟩ d) :=
  ((Touch.setCell (Nat.le_refl _) (Nat.lt_succ_self _)).trans (Touch.setCell (Nat.le_refl _) (Nat.lt_succ_self _))).trans (Touch.setCell (Nat.le_refl _) (Nat.lt_succ_self _))
theorem size3 (w' : World) (g : Nat) (a b d : Value) : (((w'.setCell ⟨g, 0, none⟩ a).setCell ⟨g, 1, none⟩ b).setCell ⟨g, 2, none⟩ d).heap.size = w'.heap.size := by simp [World.setCell]
theorem rep3 {w' : World} {lo hi lo' g n cap : Nat} {ad : Option Addr} {xs : List Nat} (h : RepF w' lo hi ad n cap xs) (hg : g < lo) (h1 : lo' ≤ lo) (h2 : hi ≤ w'.heap.size) (a b d : Value) :
    RepF (((w'.setCell ⟨g, 0, none⟩ a).setCell ⟨g, 1, none⟩ b).setCell ⟨g, 2, none⟩ d) lo' (((w'.setCell ⟨g, 0, none⟩ a).setCell ⟨g, 1, none⟩ b).setCell ⟨g, 2, none⟩ d).heap.size ad n cap xs :=
  (h.touch (tch3 w' g a b d) (.inr (by omega))).bounds h1 (by rw [size3]; exact h2)
set_option maxHeartbeats 2000000 in
theorem T_to (w : World) (r c : Int) (ad : Option Addr) (cap : Nat) (xs : List Nat) (h : F32s w ad cap xs) (hn : xs.length ≤ 1048576) :
    Calls Try.prog 10 #[.agg #[.int .i64 r, .int .i64 c, .slice ad xs.length cap]] w fun e w' => ∃ ad' cap', e = .returned (.agg #[.int .i64 r, .int .i64 c, .slice ad' xs.length cap']) ∧ Hid (RepF w' w.heap.size w'.heap.size ad' xs.length cap' xs) ∧ Below w.heap.size w w' := by
  have b3 := below3 w (.cells #[.int .i64 r, .int .i64 c, .slice ad xs.length cap] 27) (.cells #[.int .i64 0, .int .i64 0, .slice none 0 0] 38) (.cells #[.int .i64 r, .int .i64 c, .slice none 0 0] 38)
  have K := Lib.hid (F_to _ ad cap xs (h.below b3) hn)
  have RB := Lib.hid ((Box3.alloc2 w (.cells #[.int .i64 r, .int .i64 c, .slice ad xs.length cap] 27) (.int .i64 0) (.int .i64 0) (.slice none 0 0) 38).below (below1 _ (.cells #[.int .i64 r, .int .i64 c, .slice none 0 0] 38)))
  have ob := Box3.alloc2 (w.alloc (.cells #[.int .i64 r, .int .i64 c, .slice ad xs.length cap] 27)) (.cells #[.int .i64 0, .int .i64 0, .slice none 0 0] 38) (.int .i64 r) (.int .i64 c) (.slice none 0 0) 38
  rw [show (w.alloc (.cells #[.int .i64 r, .int .i64 c, .slice ad xs.length cap] 27)).heap.size = w.heap.size + 1 by simp] at ob
  have OB := Lib.hid ob; have B := Lib.hid b3
  obtain ⟨n, hN⟩ : ∃ n, n = xs.length := ⟨_, rfl⟩
  rw [← hN] at K RB OB B ⊢
  clear ob b3 h hN hn
  go_enter Try.func10, Try.ntmps10
  go_wp2_with fail
  refine K.out.mono ?_
  rintro e w' ⟨a', c', rfl, hr, hb⟩
  obtain ⟨-, r0, r1, r2, rf⟩ := RB.out.below hb
  obtain ⟨-, o0, o1, o2, of⟩ := OB.out.below hb
  have HR := Lib.hid hr; have HB := Lib.hid (bthen B.out hb)
  have hz := hb.size
  simp at hz
  clear hr hb
  go_wp2
  refine bodyPost_ret (v := .agg #[.int .i64 r, .int .i64 c, .slice a' n c']) (by simp [results, Try.results10, go_sem, r0, r1, r2, o0, o1, o2]) rfl ⟨_, _, rfl, Lib.hid ?_, ?_⟩
  · exact rep3 (HR.out.touch (lo2 := w.heap.size + 2) (hi2 := w.heap.size + 3) (Touch.setCell (Nat.le_refl _) (Nat.lt_succ_self _)) (.inr (by simp))) (by simp) (by simp; omega) (by simp [World.setCell]) _ _ _
  · exact bel3 (HB.out.setCell (p := ⟨w.heap.size + 2, 2, none⟩) (by show w.heap.size ≤ w.heap.size + 2; omega) _) (by omega) _ _ _
/-- a block of some cells that may be written -/
structure BoxN (w : World) (g : Nat) (vs : List Value) : Prop where
  lt : g < w.heap.size
  at' : ∀ j, j < vs.length → w.cell? ⟨g, j, none⟩ = vs[j]?
  fz : ∀ o, w.frozen? ⟨g, o, none⟩ = false
theorem BoxN.alloc (w : World) (cs : Array Value) (t : TypeId) : BoxN (w.alloc (.cells cs t)) w.heap.size cs.toList :=
  ⟨by simp, fun j hj => by rw [World.cell?_alloc_at _ _ _ _ rfl]; simp, fun o => World.frozen?_alloc_at _ _ _ _ rfl⟩
theorem BoxN.alloc2 (w : World) (o : Obj) (cs : Array Value) (t : TypeId) : BoxN ((w.alloc o).alloc (.cells cs t)) (w.heap.size + 1) cs.toList := by
  have h := BoxN.alloc (w.alloc o) cs t
  rwa [show (w.alloc o).heap.size = w.heap.size + 1 by simp] at h
theorem BoxN.alloc3 (w : World) (o o2 : Obj) (cs : Array Value) (t : TypeId) : BoxN (((w.alloc o).alloc o2).alloc (.cells cs t)) (w.heap.size + 2) cs.toList := by
  have h := BoxN.alloc2 (w.alloc o) o2 cs t
  rwa [show (w.alloc o).heap.size = w.heap.size + 1 by simp] at h
theorem BoxN.touch {w w' : World} {g lo hi : Nat} {vs : List Value} (h : BoxN w g vs) (ht : Touch lo hi w w') (hd : g < lo ∨ hi ≤ g) : BoxN w' g vs :=
  ⟨Nat.lt_of_lt_of_le h.lt ht.size, fun j hj => (touch_keep3 ht h.lt hd j).1.trans (h.at' j hj), fun o => (touch_keep3 ht h.lt hd o).2.trans (h.fz o)⟩
theorem BoxN.below {w w' : World} {g : Nat} {vs : List Value} (h : BoxN w g vs) (hb : Below w.heap.size w w') : BoxN w' g vs := h.touch (lo := w'.heap.size) (hi := w'.heap.size) (Touch.of_below hb) (.inl (Nat.lt_of_lt_of_le h.lt hb.size))
theorem BoxN.set {w : World} {g : Nat} {vs : List Value} (h : BoxN w g vs) (i : Nat) (v : Value) : BoxN (w.setCell ⟨g, i, none⟩ v) g (vs.set i v) := by
  refine ⟨by simpa [World.setCell] using h.lt, fun j hj => ?_, fun o => by rw [World.frozen?_setCell]; exact h.fz o⟩
  rw [List.length_set] at hj
  have h1 := h.at' j hj
  rw [List.getElem?_eq_getElem hj] at h1
  rw [set_at3 h1, List.getElem?_set]
  by_cases e : i = j
  · subst e; rw [if_pos rfl, if_pos rfl, if_pos hj]
  · rw [if_neg e, if_neg e, List.getElem?_eq_getElem hj]
theorem BoxN.far {w : World} {g : Nat} {vs : List Value} (h : BoxN w g vs) (g' i : Nat) (v : Value) (hc : g' ≠ g) : BoxN (w.setCell ⟨g', i, none⟩ v) g vs := by
  have hk : ∀ j, (w.setCell ⟨g', i, none⟩ v).cell? ⟨g, j, none⟩ = w.cell? ⟨g, j, none⟩ := fun j => World.cell?_setCell_other w ⟨g', i, none⟩ ⟨g, j, none⟩ v (by intro h; cases h; exact hc rfl)
  exact ⟨by simpa [World.setCell] using h.lt, fun j hj => (hk j).trans (h.at' j hj), fun o => by rw [World.frozen?_setCell]; exact h.fz o⟩
theorem BoxN.seven {w : World} {g : Nat} {a b c d e f k : Value} (h : BoxN w g [a, b, c, d, e, f, k]) : g < w.heap.size ∧ w.cell? ⟨g, 0, none⟩ = some a ∧ w.cell? ⟨g, 1, none⟩ = some b ∧ w.cell? ⟨g, 2, none⟩ = some c ∧ w.cell? ⟨g, 3, none⟩ = some d ∧ w.cell? ⟨g, 4, none⟩ = some e ∧ w.cell? ⟨g, 5, none⟩ = some f ∧ w.cell? ⟨g, 6, none⟩ = some k ∧ (∀ o, w.frozen? ⟨g, o, none⟩ = false) :=
  ⟨h.lt, h.at' 0 (by simp), h.at' 1 (by simp), h.at' 2 (by simp), h.at' 3 (by simp), h.at' 4 (by simp), h.at' 5 (by simp), h.at' 6 (by simp), h.fz⟩
theorem BoxN.three {w : World} {g : Nat} {a b c : Value} (h : BoxN w g [a, b, c]) : g < w.heap.size ∧ w.cell? ⟨g, 0, none⟩ = some a ∧ w.cell? ⟨g, 1, none⟩ = some b ∧ w.cell? ⟨g, 2, none⟩ = some c ∧ (∀ o, w.frozen? ⟨g, o, none⟩ = false) :=
  ⟨h.lt, h.at' 0 (by simp), h.at' 1 (by simp), h.at' 2 (by simp), h.fz⟩
theorem BoxN.two {w : World} {g : Nat} {a b : Value} (h : BoxN w g [a, b]) : g < w.heap.size ∧ w.cell? ⟨g, 0, none⟩ = some a ∧ w.cell? ⟨g, 1, none⟩ = some b ∧ (∀ o, w.frozen? ⟨g, o, none⟩ = false) :=
  ⟨h.lt, h.at' 0 (by simp), h.at' 1 (by simp), h.fz⟩
/-- cells of a block written one after another -/
def setCs : World → Nat → Nat → List Value → World
  | w, _, _, [] => w
  | w, g, i, v :: vs => setCs (w.setCell ⟨g, i, none⟩ v) g (i + 1) vs
theorem setCs_size (w : World) (g i : Nat) (vs : List Value) : (setCs w g i vs).heap.size = w.heap.size := by
  induction vs generalizing w i with
  | nil => rfl
  | cons v vs ih => exact (ih _ _).trans (by simp [World.setCell])
theorem setCs_below {B g : Nat} {w w' : World} (hb : Below B w w') (hg : B ≤ g) (i : Nat) (vs : List Value) : Below B w (setCs w' g i vs) := by
  induction vs generalizing w' i with
  | nil => exact hb
  | cons v vs ih => exact ih (hb.setCell (p := ⟨g, i, none⟩) hg v) (i + 1)
theorem setCs_touch (w : World) (g i : Nat) (vs : List Value) : Touch g (g + 1) w (setCs w g i vs) := by
  induction vs generalizing w i with
  | nil => exact Touch.refl _ _ _
  | cons v vs ih => exact Touch.trans (Touch.setCell (Nat.le_refl _) (Nat.lt_succ_self _)) (ih _ _)
theorem setCs_repF {w' : World} {lo hi lo' g n cap : Nat} {ad : Option Addr} {xs : List Nat} (h : RepF w' lo hi ad n cap xs) (hg : g < lo) (h1 : lo' ≤ lo) (h2 : hi ≤ w'.heap.size) (i : Nat) (vs : List Value) : RepF (setCs w' g i vs) lo' (setCs w' g i vs).heap.size ad n cap xs :=
  (h.touch (setCs_touch w' g i vs) (.inr (by omega))).bounds h1 (by rw [setCs_size]; exact h2)
theorem setCs_own {w : World} {lo hi : Nat} {e : TypeId} {size g n cap : Nat} {us : List Value} {L : List RowD} (h : Own w lo hi (⟨e, size, some ⟨g, 0, none⟩, n, cap, us⟩ :: L)) (i : Nat) (vs : List Value) : Own (setCs w g i vs) lo hi (⟨e, size, some ⟨g, 0, none⟩, n, cap, setL us i vs⟩ :: L) := by
  induction vs generalizing w i us with
  | nil => exact h
  | cons v vs ih => exact ih (h.store i v) (i + 1)
theorem T_sz (w : World) (r c : Int) (ad : Option Addr) (n cap : Nat) (L : Int) (hn : n ≤ maxLen) (h0 : 0 ≤ L) (h1 : L ≤ 1048576) : Calls Try.prog 7 #[.agg #[.int .i64 r, .int .i64 c, .slice ad n cap], .int .i64 L] w fun e w' => e = .returned (.int .i64 (if (n : Int) ≤ L then L - n else -1)) ∧ Below w.heap.size w w' := by
  have K := Lib.hid (fun W => sz_f32s W ad n cap L hn h0 h1)
  by_cases h : (n : Int) ≤ L
  · rw [if_pos h] at K ⊢
    have hp : 0 ≤ L - n := by omega
    go_enter Try.func7, Try.ntmps7
    go_wp2_with fail
    refine (K.out _).mono ?_
    rintro e w1 ⟨rfl, rfl⟩
    go_wp2
    go_ret
    exact ⟨rfl, below1 _ _⟩
  · rw [if_neg h] at K ⊢
    go_enter Try.func7, Try.ntmps7
    go_wp2_with fail
    refine (K.out _).mono ?_
    rintro e w1 ⟨rfl, rfl⟩
    go_wp2
    go_ret
    exact ⟨rfl, below1 _ _⟩
set_option maxHeartbeats 1000000 in
theorem T_eq (w : World) (r c : Int) (a1 a2 : Option Addr) (c1 c2 : Nat) (xs ys : List Nat) (h1 : F32s w a1 c1 xs) (h2 : F32s w a2 c2 ys) (hn : xs.length ≤ 1048576) (he : xs.map (cn .f32) = ys.map (cn .f32)) :
    Calls Try.prog 15 #[.agg #[.int .i64 r, .int .i64 c, .slice a1 xs.length c1], .agg #[.int .i64 r, .int .i64 c, .slice a2 ys.length c2]] w fun e w' => e = .returned (.bool true) ∧ Below w.heap.size w w' := by
  have b2 := below2 w (.cells #[.int .i64 r, .int .i64 c, .slice a1 xs.length c1] 38) (.cells #[.int .i64 r, .int .i64 c, .slice a2 ys.length c2] 38)
  have K := Lib.hid (laws_eqFloat32S a1 a2 c1 c2 xs ys _ (h1.below b2) (h2.below b2) hn he)
  have B := Lib.hid b2
  obtain ⟨n, hN⟩ : ∃ n, n = xs.length := ⟨_, rfl⟩
  obtain ⟨m, hM⟩ : ∃ m, m = ys.length := ⟨_, rfl⟩
  rw [← hN, ← hM] at K B ⊢
  clear b2 h1 h2 hn he hN hM
  go_enter Try.func15, Try.ntmps15
  go_wp2_with fail
  refine K.out.mono ?_
  rintro e w1 ⟨rfl, hd⟩
  go_wp2
  go_ret
  exact ⟨rfl, bthen B.out hd.below⟩
theorem T_mark (w : World) {lo hi : Nat} (r c : Int) {ad : Option Addr} {n cap : Nat} {xs : List Nat} (k0 : Nat) (h : RepF w lo hi ad n cap xs) (hhi : hi ≤ w.heap.size) (hn : n ≤ 1048576) (hk : k0 ≤ 100000000) :
    Calls Try.prog 17 #[.agg #[.int .i64 r, .int .i64 c, .slice ad n cap], .int .i64 k0] w fun e w' => e = .returned (.int .i64 (k0 + n : Nat)) ∧ RepF w' lo hi ad n cap (markF k0 n) ∧ Touch lo hi w w' := by
  have K := Lib.hid (fun W (hW : RepF W lo hi ad n cap xs) => F_mark W k0 hW hn hk)
  have b1 := below1 w (.cells #[.int .i64 r, .int .i64 c, .slice ad n cap] 38)
  have H := Lib.hid (h.below b1); have B := Lib.hid b1
  clear h b1
  go_enter Try.func17, Try.ntmps17
  go_wp2_with fail
  refine (K.out _ H.out).mono ?_
  rintro e w1 ⟨rfl, hr, ht⟩
  go_wp2
  go_ret
  exact ⟨rfl, hr, (Touch.of_below B.out).trans ht⟩
end Go.Proofs.Ytfdgngnnncmfiaa
/- What copying, comparing, marking operations of tapes does. No condition. -/
namespace Go.Proofs.Ytfdgngnnncmfiaa
open Go Go.RowKit
set_option linter.unusedVariables false
set_option linter.unusedSimpArgs false
end Go.Proofs.Ytfdgngnnncmfiaa
/- What measuring and copying lists of operations does. No condition. -/
namespace Go.Proofs.Ytfdgngnnncmfiaa
open Go Go.RowKit
set_option linter.unusedVariables false
set_option linter.unusedSimpArgs false
/-- how many numbers the first records have -/
def sumBy {α : Type} (f : α → Nat) (us : List α) (k : Nat) : Nat := ((us.take k).map f).sum
theorem sumBy_zero {α : Type} (f : α → Nat) (us : List α) : sumBy f us 0 = 0 := by simp [sumBy]
theorem sumBy_succ {α : Type} (f : α → Nat) {us : List α} {k : Nat} {a : α} (h : us[k]? = some a) : sumBy f us (k + 1) = sumBy f us k + f a := by
  obtain ⟨hk, rfl⟩ := List.getElem?_eq_some_iff.1 h
  unfold sumBy
  rw [List.take_succ_eq_append_getElem hk, List.map_append, List.sum_append]
  simp
theorem sumBy_le {α : Type} (f : α → Nat) (us : List α) {k n : Nat} (h : k ≤ n) : sumBy f us k ≤ sumBy f us n := by
  unfold sumBy
  have : us.take n = us.take k ++ (us.take n).drop k := by
    have := (List.take_append_drop k (us.take n)).symm
    rwa [List.take_take, Nat.min_eq_left h] at this
  rw [this, List.map_append, List.sum_append]; omega
theorem sumBy_mem {α : Type} (f : α → Nat) {us : List α} {a : α} (h : a ∈ us) : f a ≤ sumBy f us us.length := by
  unfold sumBy
  rw [List.take_length]
  induction us with
  | nil => cases h
  | cons x xs ih =>
    rw [List.map_cons, List.sum_cons]
    rcases List.mem_cons.1 h with rfl | h
    · omega
    · have := ih h; omega
def OpD.n (o : OpD) : Nat := o.xs.length
def leftBy {α : Type} (f : α → Nat) (us : List α) (L : Int) : Int := if (us.length + sumBy f us us.length : Nat) ≤ L then L - (us.length + sumBy f us us.length : Nat) else -1
theorem getElem?_lt {α : Type} {us : List α} {k : Nat} (h : k < us.length) : ∃ a, us[k]? = some a := ⟨us[k], List.getElem?_eq_getElem h⟩
theorem info_op : (Try.prog.info? 68).map (fun i => (i.zero, i.size, i.bytes)) = some (some (.agg #[.int .i64 0, .int .i64 0, .int .i64 0, .float .f32 0, .int .i64 0, .int .i64 0, .slice none 0 0]), 7, 72) := by kernel_rfl
theorem info_ten : (Try.prog.info? 38).map (fun i => (i.zero, i.size, i.bytes)) = some (some (.agg #[.int .i64 0, .int .i64 0, .slice none 0 0]), 3, 40) := by kernel_rfl
theorem made_flat {α : Type} (R : RecT α) (z : α) (n : Nat) (cs : Array Value) (hcs : cs.toList = R.cells z) (hs : 0 < R.size) : (madeCells cs (n * R.size)).toList = (List.replicate n z).flatMap R.cells := by
  have hsz : cs.size = R.size := by have := R.len z; rw [← hcs] at this; simpa using this
  apply List.ext_getElem?
  intro j
  by_cases hj : j < n * R.size
  · have hk : j / R.size < n := (Nat.div_lt_iff_lt_mul hs).2 hj
    have hm := Nat.mod_lt j hs
    have e : j = (j / R.size) * R.size + j % R.size := by rw [Nat.mul_comm]; exact (Nat.div_add_mod j R.size).symm
    have e2 := flat_at R (List.replicate n z) (k := j / R.size) (j := j % R.size) (a := z) (by rw [List.getElem?_replicate, if_pos hk]) hm
    rw [← e] at e2
    rw [e2, ← hcs]
    have hm2 : j % cs.size < cs.size := by rw [hsz]; exact hm
    simp [madeCells, hj, hsz] 
    rw [getElem!_pos cs (j % R.size) (by rw [hsz]; exact hm), Array.getElem?_eq_getElem (by rw [hsz]; exact hm)]
  · rw [List.getElem?_eq_none (by simp [madeCells]; omega), List.getElem?_eq_none (by rw [flat_len]; simp; omega)]
def zeroOp : OpD := ⟨⟨0, 0, 0, 0, 0, 0, []⟩, none, 0⟩
end Go.Proofs.Ytfdgngnnncmfiaa
/- What copying, comparing, marking lists of operations does. No condition. -/
namespace Go.Proofs.Ytfdgngnnncmfiaa
open Go Go.RowKit
set_option linter.unusedVariables false
set_option linter.unusedSimpArgs false
theorem set_take {α β : Type} (f : α → β) {us : List α} {vs : List β} {k : Nat} {a : α} {b : β} (h : us.map f = vs.take k ++ (us.map f).drop k) (hk : k < us.length) (hl : us.length = vs.length) (hv : vs[k]? = some b) (hb : f a = b) : (us.set k a).map f = vs.take (k + 1) ++ ((us.set k a).map f).drop (k + 1) := by
  have hkv : k < vs.length := by omega
  have e1 : ((us.map f).take k) = vs.take k := by rw [h, List.take_append_of_le_length (by simp; omega), List.take_take]; simp
  have e2 : (us.set k a).map f = (us.map f).set k b := by rw [List.map_set, hb]
  rw [e2]
  obtain ⟨h3, rfl⟩ := List.getElem?_eq_some_iff.1 hv
  rw [List.take_succ_eq_append_getElem hkv, ← e1, List.drop_set, if_pos (by omega), List.set_eq_take_append_cons_drop, if_pos (by simpa using hk)]
  simp
theorem op_own {w : World} {lo hi n cap : Nat} {ad : Option Addr} {us : List OpD} (h : OwnR opR w lo hi ad n cap us) {k : Nat} {o : OpD} (hk : us[k]? = some o) : ∃ g, ad = some ⟨g, 0, none⟩ ∧ (lo ≤ g ∧ g < hi ∧ g < w.heap.size) ∧
    (w.cell? ⟨g, k * 7, none⟩ = some (.int .i64 o.k) ∧ w.cell? ⟨g, k * 7 + 1, none⟩ = some (.int .i64 o.a) ∧ w.cell? ⟨g, k * 7 + 2, none⟩ = some (.int .i64 o.b) ∧ w.cell? ⟨g, k * 7 + 3, none⟩ = some (.float .f32 o.num) ∧ w.cell? ⟨g, k * 7 + 4, none⟩ = some (.int .i64 o.r) ∧ w.cell? ⟨g, k * 7 + 5, none⟩ = some (.int .i64 o.c) ∧ w.cell? ⟨g, k * 7 + 6, none⟩ = some (.slice o.ad o.xs.length o.cap)) ∧
    (∀ j, w.frozen? ⟨g, j, none⟩ = false) ∧ RepF w lo hi o.ad o.xs.length o.cap o.xs := by
  obtain ⟨g, e, hr, hc, hf⟩ := h.spot hk (by decide)
  have hm := List.mem_of_getElem? hk
  refine ⟨g, e, hr, ⟨hc 0 (by decide), hc 1 (by decide), hc 2 (by decide), hc 3 (by decide), hc 4 (by decide), hc 5 (by decide), hc 6 (by decide)⟩, hf, h.own.repF (List.mem_cons_of_mem _ (List.mem_flatMap.2 ⟨o, hm, List.mem_singleton.2 rfl⟩)) (h.ok o hm).1⟩
theorem OpD.ok_of {o o' : OpD} (h : o'.toOpP = o.toOpP) (ho : o.ok) : o'.ok := by unfold OpD.ok at ho ⊢; rw [h]; exact ho
set_option maxHeartbeats 1000000 in
theorem O_eq (w : World) (o p : OpD) (h1 : F32s w o.ad o.cap o.xs) (h2 : F32s w p.ad p.cap p.xs) (hn : o.xs.length ≤ 1048576) (he : o.toOpP.can = p.toOpP.can) :
    Calls Try.prog 38 #[o.val, p.val] w fun e w' => e = .returned (.bool true) ∧ Below w.heap.size w w' := by
  obtain ⟨⟨k, a, b, q, r, c, xs⟩, ad, cap⟩ := o
  obtain ⟨⟨k', a', b', q', r', c', ys⟩, ad', cap'⟩ := p
  unfold OpP.can at he
  simp only [OpP.mk.injEq] at he
  obtain ⟨rfl, rfl, rfl, hq, rfl, rfl, hx⟩ := he
  show Calls Try.prog 38 #[.agg #[.int .i64 k, .int .i64 a, .int .i64 b, .float .f32 q, .int .i64 r, .int .i64 c, .slice ad xs.length cap], .agg #[.int .i64 k, .int .i64 a, .int .i64 b, .float .f32 q', .int .i64 r, .int .i64 c, .slice ad' ys.length cap']] w _
  have h1 : F32s w ad cap xs := h1
  have h2 : F32s w ad' cap' ys := h2
  have hn : xs.length ≤ 1048576 := hn
  obtain ⟨n, hN⟩ : ∃ n, n = xs.length := ⟨_, rfl⟩
  obtain ⟨m, hM⟩ : ∃ m, m = ys.length := ⟨_, rfl⟩
  have b2 := below2 w (.cells #[.int .i64 k, .int .i64 a, .int .i64 b, .float .f32 q, .int .i64 r, .int .i64 c, .slice ad n cap] 68) (.cells #[.int .i64 k, .int .i64 a, .int .i64 b, .float .f32 q', .int .i64 r, .int .i64 c, .slice ad' m cap'] 68)
  have BA := Lib.hid ((BoxN.alloc w #[.int .i64 k, .int .i64 a, .int .i64 b, .float .f32 q, .int .i64 r, .int .i64 c, .slice ad n cap] 68).below (below1 _ (.cells #[.int .i64 k, .int .i64 a, .int .i64 b, .float .f32 q', .int .i64 r, .int .i64 c, .slice ad' m cap'] 68)))
  have BB := Lib.hid (BoxN.alloc2 w (.cells #[.int .i64 k, .int .i64 a, .int .i64 b, .float .f32 q, .int .i64 r, .int .i64 c, .slice ad n cap] 68) #[.int .i64 k, .int .i64 a, .int .i64 b, .float .f32 q', .int .i64 r, .int .i64 c, .slice ad' m cap'] 68)
  have K := Lib.hid (fun W hb => T_eq W r c ad ad' cap cap' xs ys ((h1.below b2).below hb) ((h2.below b2).below hb) hn hx)
  rw [← hN, ← hM] at K ⊢
  have B := Lib.hid b2
  clear b2 h1 h2 hn hN hM hx
  go_enter Try.func38, Try.ntmps38
  go_wp2_with fail
  refine (sameFloat_any _ _ (by rw [cn_wide, cn_wide, hq]) _).mono ?_
  rintro e w1 ⟨rfl, hd⟩
  have hb1 := (below_drewN (Below.refl _ _) _).trans hd.below
  obtain ⟨-, p0, p1, p2, p3, p4, p5, p6, -⟩ := (BA.out.below hb1).seven
  obtain ⟨-, q0, q1, q2, q3, q4, q5, q6, -⟩ := (BB.out.below hb1).seven
  have K1 := Lib.hid (K.out _ hb1); have B1 := Lib.hid (bthen B.out hb1)
  clear hb1 hd BA BB K B
  go_wp2_with fail
  refine K1.out.mono ?_
  rintro e w2 ⟨rfl, hb⟩
  go_wp2
  go_ret
  exact ⟨rfl, bthen B1.out hb⟩
end Go.Proofs.Ytfdgngnnncmfiaa
/- What comparing, marking lists of operations does. No condition. -/
namespace Go.Proofs.Ytfdgngnnncmfiaa
open Go Go.RowKit
set_option linter.unusedVariables false
set_option linter.unusedSimpArgs false
set_option maxHeartbeats 4000000 in
set_option maxRecDepth 100000 in
theorem OS_eq (w : World) {a1 a2 : Option Addr} {c1 c2 : Nat} {os ps : List OpD} (h1 : SeeR opR w a1 c1 os) (h2 : SeeR opR w a2 c2 ps) (he : os.map (fun o => o.toOpP.can) = ps.map (fun o => o.toOpP.can)) (hn : os.length ≤ 1048576) (hi : ∀ o ∈ os, o.xs.length ≤ 1048576) :
    Calls Try.prog 12 #[.slice a1 os.length c1, .slice a2 ps.length c2] w fun e w' => e = .returned (.bool true) ∧ Below w.heap.size w w' := by
  have hl : os.length = ps.length := by have := congrArg List.length he; simpa using this
  rw [← hl]
  obtain ⟨n, hN⟩ : ∃ n, n = os.length := ⟨_, rfl⟩
  have HL := Lib.hid hl; clear hl
  rw [← hN] at hn ⊢
  have HN := Lib.hid hN; have HE := Lib.hid he; have HI := Lib.hid hi; have H1 := Lib.hid h1; have H2 := Lib.hid h2
  clear hN he hi h1 h2
  go_enter Try.func12, Try.ntmps12
  go_wp2
  go_loopw [5] (fun i wt => ∃ k : Nat, i = .int .i64 k ∧ k ≤ n ∧ Hid (Below w.heap.size w wt)) (fun i _ => n - (intOf i).toNat)
  case atStart => exact ⟨0, rfl, Nat.zero_le _, Lib.hid (Below.refl _ _)⟩
  case round =>
    obtain ⟨k, rfl, hk, HB⟩ := hrel
    by_cases hlt : k < n
    · have hkx : k < os.length := by rw [← HN.out]; exact hlt
      obtain ⟨o, ho⟩ := getElem?_lt hkx
      obtain ⟨p, hp⟩ := getElem?_lt (show k < ps.length by rw [← HL.out]; exact hkx)
      obtain ⟨b, off, rfl, _, ⟨p0, p1, p2, p3, p4, p5, p6⟩, hf, hok⟩ := op_spot (H1.out.below HB.out) ho
      obtain ⟨b', off', rfl, _, ⟨q0, q1, q2, q3, q4, q5, q6⟩, hf', hok'⟩ := op_spot (H2.out.below HB.out) hp
      have e1 : o.toOpP.can = p.toOpP.can := by
        have e1 := congrArg (fun l => l[k]?) HE.out
        simpa [ho, hp] using e1
      have K := Lib.hid (fun W (hb : Below wr.heap.size wr W) => O_eq W o p (hf.below hb) (hf'.below hb) (HI.out o (List.mem_of_getElem? ho)) e1)
      unfold OpD.val at K
      obtain ⟨x, hx⟩ : ∃ x, x = o.xs.length := ⟨_, rfl⟩
      obtain ⟨y, hy⟩ : ∃ y, y = p.xs.length := ⟨_, rfl⟩
      rw [← hx] at K p6
      rw [← hy] at K q6
      clear hf hf' hok hok' ho hp e1 hx hy hkx
      go_wp2
      refine wp_region_tail 8 (fun f args u => False) (by kernel_rfl) (by kernel_rfl) ?_
      repeat (refine wset_step (fun K hK nq => ?_); go_simp; refine hK _ ?_; clear hK K)
      refine wset_nil ?_
      rintro w' ⟨q, rfl⟩
      go_wp2_with fail
      refine (K.out _ (below_drewN (Below.refl _ _) _)).mono ?_
      rintro e w2 ⟨rfl, hb⟩
      have HB2 := Lib.hid (bthen HB.out ((below_drewN (Below.refl _ _) _).trans hb)); clear hb
      go_wp2
      go_roundw
      case rel => exact ⟨k + 1, by go_num, hlt, HB2⟩
      case measure => simp [intOf]; omega
    · go_wp2
      go_ret
      exact ⟨rfl, HB.out⟩
end Go.Proofs.Ytfdgngnnncmfiaa
