/- Plain laws of memory: a row of cells that is read ('Rd'), how arguments are opened. No condition. -/
import Derived.Test.YtaocilimggpdjaaFlt
import Derived.WalkKit
import Derived.WalkSpells
import Derived.ProofKit
import Derived.OpenShut
import Derived.Below
import Derived.Carry
import Derived.DataElems
import Derived.Lib.SmallJoins
namespace Go.Proofs.Ytaocilimggpdjaa
open Go Go.RowKit Go.ChangeShapes Go.WideShapes

/-- from 'ad' on lie the cells 'vs' -/
def Rd (w : World) (ad : Option Addr) (vs : List Value) : Prop :=
  vs = [] ∨ ∃ b off, ad = some ⟨b, off, none⟩ ∧ b < w.heap.size ∧ ∀ i, i < vs.length → w.cell? ⟨b, off + i, none⟩ = vs[i]?

theorem Rd.nil (w : World) (ad : Option Addr) : Rd w ad [] := .inl rfl
theorem Rd.kept {w w' : World} {ad : Option Addr} {vs : List Value} (h : Rd w ad vs) (hs : w.heap.size ≤ w'.heap.size) (hc : ∀ b off, ad = some ⟨b, off, none⟩ → b < w.heap.size → w'.heap[b]? = w.heap[b]?) : Rd w' ad vs := by
  rcases h with h | ⟨b, off, h1, h2, h3⟩
  · exact .inl h
  · exact .inr ⟨b, off, h1, by omega, fun i hi => by rw [World.cell?_of_block (w := w) (hc b off h1 h2)]; exact h3 i hi⟩
theorem Rd.below {w w' : World} {B : Nat} {ad : Option Addr} {vs : List Value} (h : Rd w ad vs) (hb : Below B w w') (hB : w.heap.size ≤ B) : Rd w' ad vs :=
  h.kept hb.size fun b _ _ hl => hb.block b (by omega)
/-- a row below 'B' -/
theorem Rd.belowLt {w w' : World} {B : Nat} {ad : Option Addr} {vs : List Value} (h : Rd w ad vs) (hb : Below B w w') (hB : ∀ b off, ad = some ⟨b, off, none⟩ → b < B) : Rd w' ad vs :=
  h.kept hb.size fun b off e _ => hb.block b (hB b off e)
theorem Rd.grown {w w' : World} {row : Option Nat} {ad : Option Addr} {vs : List Value} (h : Rd w ad vs) (hg : w.grownBy w' row) (hB : ∀ b off, ad = some ⟨b, off, none⟩ → some b ≠ row) : Rd w' ad vs :=
  h.kept hg.size fun b off e hl => hg.block b hl (hB b off e)
theorem Rd.drewN {w : World} {ad : Option Addr} {vs : List Value} (h : Rd w ad vs) (n : Nat) : Rd (w.drewN n) ad vs := h
/-- one cell of it, and the address written out -/
theorem Rd.spot {w : World} {ad : Option Addr} {vs : List Value} (h : Rd w ad vs) {i : Nat} (hi : i < vs.length) : ∃ b off, ad = some ⟨b, off, none⟩ ∧ b < w.heap.size ∧ ∀ j, j < vs.length → w.cell? ⟨b, off + j, none⟩ = vs[j]? := by
  rcases h with h | h
  · rw [h] at hi; simp at hi
  · exact h
theorem Rd.of_owns {w : World} {base size n : Nat} {e : TypeId} {v : Value} {vs : List Value} (h : w.ownsRow base e size v n vs) : ∃ ad cap, v = .slice ad n cap ∧ n ≤ cap ∧ cap ≤ maxLen ∧ Rd w ad vs ∧ (∀ b off, ad = some ⟨b, off, none⟩ → base ≤ b ∧ b < w.heap.size) := by
  rcases h.2 with ⟨rfl, rfl⟩ | ⟨g, cap, cur, rfl, hb, hg, hn, hm, hs, ht⟩
  · have : vs = [] := by have := h.1; simpa using this
    exact ⟨none, 0, rfl, Nat.le_refl _, Nat.zero_le _, .inl this, fun b off e => by cases e⟩
  · have hlt : g < w.heap.size := (Array.getElem?_eq_some_iff.1 hg).1
    refine ⟨_, cap, rfl, hn, hm, .inr ⟨g, 0, rfl, hlt, fun i hi => ?_⟩, fun b off e => ?_⟩
    · have := h.cells (g := g) rfl i (vs[i]) (List.getElem?_eq_getElem hi)
      rw [List.getElem?_eq_getElem hi]
      rw [← this]
      congr 1
      unfold Addr.add
      split <;> simp_all
    · simp only [Option.some.injEq, Addr.mk.injEq] at e
      obtain ⟨rfl, _, _⟩ := e
      exact ⟨hb, hlt⟩

section
variable {H : Type} {enc : TypeId × Value → H} {P : Program} {w : World} {base : Nat} {spare : Nat → Bool} {held : Bool}

theorem trod_float {t : TypeId} {k : FloatKind} {fuel : Nat} {cs : List Value} {x : DataW H × List MemPlace} (ht : P.underlying t = some (.float k)) (h : DataW.trod enc P w base spare held fuel t cs = some x) : ∃ b, cs = [.float k b] ∧ (Lit.float k b).wf = true := by
  cases fuel with
  | zero => simp [DataW.trod] at h
  | succ n =>
    unfold DataW.trod at h
    rw [ht] at h
    split at h <;> simp_all
theorem f32_lt {b : Nat} (h : (Lit.float .f32 b).wf = true) : b < 4294967296 := by simpa [Lit.wf] using h
theorem f64_lt {b : Nat} (h : (Lit.float .f64 b).wf = true) : b < 18446744073709551616 := by simpa [Lit.wf] using h

/-- what a slice is, its elements decoded -/
theorem open_rows {β : Type} {t e : TypeId} {v : Value} {d : DataW H} {ps : List MemPlace} (cellsOf : β → List Value) (Good : β → Prop) (ht : P.underlying t = some (.slice e))
    (hdec : ∀ (n : Nat) (cs : List Value) (y : DataW H × List MemPlace), DataW.trod enc P w base spare held n e cs = some y → ∃ b, cs = cellsOf b ∧ Good b)
    (h : DataW.Trod enc P w base spare held t v d ps) (hv : ∃ a l c, v = .slice a l c) : ∃ (ad : Option Addr) (cap : Nat) (bs : List β), v = .slice ad (bs.length) cap ∧ bs.length ≤ cap ∧ cap ≤ maxLen ∧ Rd w ad (bs.flatMap cellsOf) ∧ (∀ b ∈ bs, Good b) := by
  obtain ⟨fuel, hf⟩ := h
  obtain ⟨a0, l0, c0, rfl⟩ := hv
  rcases DataW.trod_slice ht hf with ⟨hcs, _⟩ | ⟨a, len, cap, elems, rest, n, _, hcs, _, hb, hl, hm, hlen, hel, _⟩
  · simp [Value.cells] at hcs
    obtain ⟨rfl, rfl, rfl⟩ := hcs
    exact ⟨none, 0, [], rfl, Nat.le_refl _, Nat.zero_le _, .inl rfl, fun b hb => by cases hb⟩
  · simp [Value.cells] at hcs
    obtain ⟨rfl, rfl, rfl⟩ := hcs
    have key : ∀ m, m ≤ l0 → ∃ bs : List β, bs.length = m ∧ (∀ b ∈ bs, Good b) ∧ (bs.flatMap cellsOf).length = m * P.cellsOf e ∧ (∀ i, i < m * P.cellsOf e → w.cell? (a.add i) = (bs.flatMap cellsOf)[i]?) := by
      intro m
      induction m with
      | zero => intro _; exact ⟨[], rfl, (fun b hb => nomatch hb), by simp, (fun i hi => by simp at hi)⟩
      | succ m ih =>
        intro hm'
        obtain ⟨bs, h1, h2, h3, h4⟩ := ih (by omega)
        have hy := hel m (by omega)
        have hlt : m < elems.length := by omega
        rw [List.getElem?_eq_getElem hlt, Option.bind_eq_some_iff] at hy
        obtain ⟨cs, hcs, hy⟩ := hy
        obtain ⟨b, rfl, hg⟩ := hdec _ _ _ hy
        obtain ⟨_, hsz, hcell⟩ := World.cells?_some hcs
        refine ⟨bs ++ [b], by simp [h1], ?_, ?_, ?_⟩
        · intro b' hb'
          rcases List.mem_append.1 hb' with hb' | hb'
          · exact h2 b' hb'
          · simp at hb'; subst hb'; exact hg
        · simp [h3, hsz, Nat.succ_mul]
        · intro i hi
          rw [List.flatMap_append, List.flatMap_singleton]
          by_cases hlt' : i < m * P.cellsOf e
          · rw [List.getElem?_append_left (by omega)]; exact h4 i hlt'
          · rw [List.getElem?_append_right (by omega), h3]
            rw [Nat.succ_mul] at hi
            have := hcell (i - m * P.cellsOf e) (by omega)
            rw [← this, Addr.add_add]
            congr 2
            omega
    obtain ⟨bs, h1, h2, h3, h4⟩ := key l0 (Nat.le_refl _)
    refine ⟨some a, c0, bs, by rw [h1], by omega, hm, ?_, h2⟩
    by_cases hz : bs.flatMap cellsOf = []
    · exact .inl hz
    · have hpos : 0 < (bs.flatMap cellsOf).length := List.length_pos_iff.2 hz
      have h0 := h4 0 (by omega)
      rw [List.getElem?_eq_getElem hpos] at h0
      have hsp : a.spot = none := by
        have := World.cell?_spot h0
        unfold Addr.add at this
        split at this <;> simp_all
      obtain ⟨b, off, spot⟩ := a
      simp at hsp; subst hsp
      refine .inr ⟨b, off, rfl, ?_, fun i hi => ?_⟩
      · have := World.block_lt_of_cell? w _ h0
        simpa [Addr.add] using this
      · have := h4 i (by omega)
        rw [Addr.add_lit] at this; exact this

structure Ints (k : IntKind) (w : World) (ad : Option Addr) (cap : Nat) (xs : List Int) : Prop where
  len : xs.length ≤ cap
  cap : cap ≤ maxLen
  rd : Rd w ad (xs.map (Value.int k))
  wf : ∀ x ∈ xs, (Lit.int k x).wf = true
structure F32s (w : World) (ad : Option Addr) (cap : Nat) (xs : List Nat) : Prop where
  len : xs.length ≤ cap
  cap : cap ≤ maxLen
  rd : Rd w ad (xs.map (Value.float .f32))
  lt : ∀ x ∈ xs, x < 4294967296
theorem dec_f32s {t e : TypeId} {n : Nat} {cs : List Value} {y : DataW H × List MemPlace} (ht : P.underlying t = some (.slice e)) (he : P.underlying e = some (.float .f32))
    (h : DataW.trod enc P w base spare held n t cs = some y) : ∃ ad cap xs, cs = [.slice ad (List.length xs) cap] ∧ F32s w ad cap xs := by
  obtain ⟨a, l, c, rfl⟩ := Joins.slice_form ht h
  obtain ⟨ad, cap, bs, h1, h2, h3, h4, h5⟩ := open_rows (v := .slice a l c) (fun b => [Value.float .f32 b]) (fun b => b < 4294967296) ht (fun n cs y hy => by
    obtain ⟨b, hb, hw⟩ := trod_float he hy
    exact ⟨b, hb, f32_lt hw⟩) ⟨n, by simpa [Value.cells] using h⟩ ⟨a, l, c, rfl⟩
  exact ⟨ad, cap, bs, by rw [h1], ⟨h2, h3, by rw [← List.map_eq_flatMap] at h4; exact h4, h5⟩⟩
theorem dec_ints {t e : TypeId} {k : IntKind} {n : Nat} {cs : List Value} {y : DataW H × List MemPlace} (ht : P.underlying t = some (.slice e)) (he : P.underlying e = some (.int k))
    (h : DataW.trod enc P w base spare held n t cs = some y) : ∃ ad cap xs, cs = [.slice ad (List.length xs) cap] ∧ Ints k w ad cap xs := by
  obtain ⟨a, l, c, rfl⟩ := Joins.slice_form ht h
  obtain ⟨ad, cap, bs, h1, h2, h3, h4, h5⟩ := open_rows (v := .slice a l c) (fun b => [Value.int k b]) (fun b => (Lit.int k b).wf = true) ht (fun n cs y hy => by
    obtain ⟨b, hb, _, hw⟩ := DataW.trod_int he hy
    exact ⟨b, hb, hw⟩) ⟨n, by simpa [Value.cells] using h⟩ ⟨a, l, c, rfl⟩
  exact ⟨ad, cap, bs, by rw [h1], ⟨h2, h3, by rw [← List.map_eq_flatMap] at h4; exact h4, h5⟩⟩
/-- a slice among the arguments -/
theorem arg_slice {t e : TypeId} {r : Reach} {b0 : Nat} {v : Value} {d : DataW H} {ps : List MemPlace} (ht : P.underlying t = some (.slice e)) (hval : Value.okWide P w r b0 t v)
    (h : DataW.Trod enc P w base spare held t v d ps) : ∃ n, DataW.trod enc P w base spare held n t [v] = some (d, ps) := by
  obtain ⟨a, l, c, rfl⟩ := okWide_slice ht hval
  obtain ⟨n, hn⟩ := h
  exact ⟨n, by simpa [Value.cells] using hn⟩
theorem open_f32 {t : TypeId} {r : Reach} {b0 : Nat} {v : Value} {d : DataW H} {ps : List MemPlace} (ht : P.underlying t = some (.float .f32)) (hval : Value.okWide P w r b0 t v) (h : DataW.Trod enc P w base spare held t v d ps) :
    ∃ b, v = .float .f32 b ∧ b < 4294967296 := by
  obtain ⟨b, h1, _, _, h4⟩ := open_float ht hval h
  exact ⟨b, h1, f32_lt h4⟩
theorem open_f64 {t : TypeId} {r : Reach} {b0 : Nat} {v : Value} {d : DataW H} {ps : List MemPlace} (ht : P.underlying t = some (.float .f64)) (hval : Value.okWide P w r b0 t v) (h : DataW.Trod enc P w base spare held t v d ps) :
    ∃ b, v = .float .f64 b ∧ b < 18446744073709551616 := by
  obtain ⟨b, h1, _, _, h4⟩ := open_float ht hval h
  exact ⟨b, h1, f64_lt h4⟩

theorem agg_of {t : TypeId} {fs : Array Field} {r : Reach} {b0 : Nat} {v : Value} (hs : P.underlying t = some (.struct fs)) (hv : Value.okWide P w r b0 t v) : ∃ l : List Value, v = .agg l.toArray ∧ l.length = P.cellsOf t := by
  obtain ⟨cs, rfl, hsz⟩ := okWide_struct hs hv
  exact ⟨cs.toList, by simp, by simpa using hsz⟩
/-- the parts of a struct -/
theorem trod_parts {t : TypeId} {fs : Array Field} {fuel : Nat} {cs : List Value} {x : DataW H × List MemPlace} (ht : P.underlying t = some (.struct fs)) (h : DataW.trod enc P w base spare held fuel t cs = some x) :
    ∃ n, cs.length = P.cellsOf t ∧ ∀ (i ty off c : Nat) (f : Field), fs[i]? = some f → f.type = ty → f.offset = off → P.cellsOf ty = c → ∃ y, DataW.trod enc P w base spare held n ty ((cs.drop off).take c) = some y := by
  obtain ⟨xs, n, _, _, hl, hlen, hf⟩ := DataW.trod_struct ht h
  refine ⟨n, hl, fun i ty off c f hi hty hoff hc => ?_⟩
  subst hty hoff hc
  rw [hf i f hi]
  have : i < fs.size := (Array.getElem?_eq_some_iff.1 hi).1
  exact ⟨_, List.getElem?_eq_getElem (by omega)⟩
end
theorem arg_agg {H : Type} {enc : TypeId × Value → H} {P : Program} {w : World} {base : Nat} {spare : Nat → Bool} {held : Bool} {t : TypeId} {fs : Array Field} {r : Reach} {b0 : Nat} {v : Value} {d : DataW H} {ps : List MemPlace} (hs : P.underlying t = some (.struct fs)) (hv : Value.okWide P w r b0 t v)
    (h : DataW.Trod enc P w base spare held t v d ps) : ∃ l : List Value, v = .agg l.toArray ∧ ∃ n, DataW.trod enc P w base spare held n t l = some (d, ps) := by
  obtain ⟨l, rfl, _⟩ := agg_of hs hv
  obtain ⟨n, hn⟩ := h
  exact ⟨l, rfl, n, by simpa [Value.cells] using hn⟩
/-- what lies below stays: the walk's two rules behind a contract that ends in 'Below' -/
theorem bcell {B : Nat} {W w1 : World} (hb : Below B W w1) : (∀ b o, b < B → w1.cell? ⟨b, o, none⟩ = W.cell? ⟨b, o, none⟩) ∧ (∀ b o, b < B → w1.frozen? ⟨b, o, none⟩ = W.frozen? ⟨b, o, none⟩) :=
  ⟨fun b o h => hb.cell (p := ⟨b, o, none⟩) h, fun b o h => hb.frozen (p := ⟨b, o, none⟩) h⟩
/-- a block below stays: the rules for it behind a contract that ends in 'Below' -/
theorem bkeep {W w1 : World} (b : Nat) (hb : Below W.heap.size W w1) (h : b < W.heap.size) : (∀ o, w1.cell? ⟨b, o, none⟩ = W.cell? ⟨b, o, none⟩) ∧ (∀ o, w1.frozen? ⟨b, o, none⟩ = W.frozen? ⟨b, o, none⟩) ∧ b < w1.heap.size :=
  ⟨fun o => hb.cell (p := ⟨b, o, none⟩) h, fun o => hb.frozen (p := ⟨b, o, none⟩) h, Nat.lt_of_lt_of_le h hb.size⟩
theorem bthen {a w w' : World} (h : Below a.heap.size a w) (h2 : Below w.heap.size w w') : Below a.heap.size a w' := h.trans (h2.mono h.size)
theorem list3 {α : Type} {l : List α} (h : l.length = 3) : ∃ a b c, l = [a, b, c] := by
  match l, h with
  | [a, b, c], _ => exact ⟨a, b, c, rfl⟩
theorem list5 {α : Type} {l : List α} (h : l.length = 5) : ∃ a b c d e, l = [a, b, c, d, e] := by
  match l, h with
  | [a, b, c, d, e], _ => exact ⟨a, b, c, d, e, rfl⟩
theorem list7 {α : Type} {l : List α} (h : l.length = 7) : ∃ a b c d e f g, l = [a, b, c, d, e, f, g] := by
  match l, h with
  | [a, b, c, d, e, f, g], _ => exact ⟨a, b, c, d, e, f, g, rfl⟩
end Go.Proofs.Ytaocilimggpdjaa
