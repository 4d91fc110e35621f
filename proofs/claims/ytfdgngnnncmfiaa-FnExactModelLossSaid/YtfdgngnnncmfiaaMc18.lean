/- What the frame of the law names. No condition. -/
import Derived.Test.YtfdgngnnncmfiaaMc17
namespace Go.Proofs.Ytfdgngnnncmfiaa
open Go Go.RowKit Go.ChangeShapes Go.WideShapes
set_option linter.unusedVariables false
set_option linter.unusedSimpArgs false
section
variable {H : Type} {enc : TypeId × Value → H} {P : Program} {w : World} {base : Nat} {spare : Nat → Bool} {held : Bool}
theorem trod_float {t : TypeId} {k : FloatKind} {fuel : Nat} {cs : List Value} {x : DataW H × List MemPlace} (ht : P.underlying t = some (.float k)) (h : DataW.trod enc P w base spare held fuel t cs = some x) : ∃ b, cs = [.float k b] ∧ (Lit.float k b).wf = true := by
  cases fuel with
  | zero => simp [DataW.trod] at h
  | succ n =>
    unfold DataW.trod at h
    rw [ht] at h
    split at h <;> simp_all
theorem f32_lt {b : Nat} (h : (Lit.float .f32 b).wf = true) : b < 4294967296 := by simpa [Lit.wf] using h
/-- what a slice is, its elements decoded -/
theorem open_rows {β : Type} {t e : TypeId} {v : Value} {d : DataW H} {ps : List MemPlace} (cellsOf : β → List Value) (Good : β → Prop) (ht : P.underlying t = some (.slice e))
    (hdec : ∀ (n : Nat) (cs : List Value) (y : DataW H × List MemPlace), DataW.trod enc P w base spare held n e cs = some y → ∃ b, cs = cellsOf b ∧ Good b)
    (h : DataW.Trod enc P w base spare held t v d ps) (hv : ∃ a l c, v = .slice a l c) : ∃ (ad : Option Addr) (cap : Nat) (bs : List β), v = .slice ad (bs.length) cap ∧ bs.length ≤ cap ∧ cap ≤ maxLen ∧ Rd w ad (bs.flatMap cellsOf) ∧ (∀ b ∈ bs, Good b) := by
  obtain ⟨fuel, hf⟩ := h
  obtain ⟨a0, l0, c0, rfl⟩ := hv
  rcases DataW.trod_slice ht hf with ⟨hcs, _⟩ | ⟨a, len, cap, elems, rest, n, _, hcs, _, hb, hl, hm, hlen, hel, _⟩
  · simp [Value.cells] at hcs
    obtain ⟨rfl, rfl, rfl⟩ := hcs
    exact ⟨none, 0, [], rfl, Nat.le_refl _, Nat.zero_le _, .inl rfl, fun b hb => by cases hb⟩
  · simp [Value.cells] at hcs
    obtain ⟨rfl, rfl, rfl⟩ := hcs
    have key : ∀ m, m ≤ l0 → ∃ bs : List β, bs.length = m ∧ (∀ b ∈ bs, Good b) ∧ (bs.flatMap cellsOf).length = m * P.cellsOf e ∧ (∀ i, i < m * P.cellsOf e → w.cell? (a.add i) = (bs.flatMap cellsOf)[i]?) := by
      intro m
      induction m with
      | zero => intro _; exact ⟨[], rfl, (fun b hb => nomatch hb), by simp, (fun i hi => by simp at hi)⟩
      | succ m ih =>
        intro hm'
        obtain ⟨bs, h1, h2, h3, h4⟩ := ih (by omega)
        have hy := hel m (by omega)
        have hlt : m < elems.length := by omega
        rw [List.getElem?_eq_getElem hlt, Option.bind_eq_some_iff] at hy
        obtain ⟨cs, hcs, hy⟩ := hy
        obtain ⟨b, rfl, hg⟩ := hdec _ _ _ hy
        obtain ⟨_, hsz, hcell⟩ := World.cells?_some hcs
        refine ⟨bs ++ [b], by simp [h1], ?_, ?_, ?_⟩
        · intro b' hb'
          rcases List.mem_append.1 hb' with hb' | hb'
          · exact h2 b' hb'
          · simp at hb'; subst hb'; exact hg
        · simp [h3, hsz, Nat.succ_mul]
        · intro i hi
          rw [List.flatMap_append, List.flatMap_singleton]
          by_cases hlt' : i < m * P.cellsOf e
          · rw [List.getElem?_append_left (by omega)]; exact h4 i hlt'
          · rw [List.getElem?_append_right (by omega), h3]
            rw [Nat.succ_mul] at hi
            have := hcell (i - m * P.cellsOf e) (by omega)
            rw [← this, Addr.add_add]
            congr 2
            omega
    obtain ⟨bs, h1, h2, h3, h4⟩ := key l0 (Nat.le_refl _)
    refine ⟨some a, c0, bs, by rw [h1], by omega, hm, ?_, h2⟩
    by_cases hz : bs.flatMap cellsOf = []
    · exact .inl hz
    · have hpos : 0 < (bs.flatMap cellsOf).length := List.length_pos_iff.2 hz
      have h0 := h4 0 (by omega)
      rw [List.getElem?_eq_getElem hpos] at h0
      have hsp : a.spot = none := by
        have := World.cell?_spot h0
        unfold Addr.add at this
        split at this <;> simp_all
      obtain ⟨b, off, spot⟩ := a
      simp at hsp; subst hsp
      refine .inr ⟨b, off, rfl, ?_, fun i hi => ?_⟩
      · have := World.block_lt_of_cell? w _ h0
        simpa [Addr.add] using this
      · have := h4 i (by omega)
        rw [Addr.add_lit] at this; exact this
theorem dec_f32s {t e : TypeId} {n : Nat} {cs : List Value} {y : DataW H × List MemPlace} (ht : P.underlying t = some (.slice e)) (he : P.underlying e = some (.float .f32))
    (h : DataW.trod enc P w base spare held n t cs = some y) : ∃ ad cap xs, cs = [.slice ad (List.length xs) cap] ∧ F32s w ad cap xs := by
  obtain ⟨a, l, c, rfl⟩ := Joins.slice_form ht h
  obtain ⟨ad, cap, bs, h1, h2, h3, h4, h5⟩ := open_rows (v := .slice a l c) (fun b => [Value.float .f32 b]) (fun b => b < 4294967296) ht (fun n cs y hy => by
    obtain ⟨b, hb, hw⟩ := trod_float he hy
    exact ⟨b, hb, f32_lt hw⟩) ⟨n, by simpa [Value.cells] using h⟩ ⟨a, l, c, rfl⟩
  exact ⟨ad, cap, bs, by rw [h1], ⟨h2, h3, by rw [← List.map_eq_flatMap] at h4; exact h4, h5⟩⟩
theorem agg_of {t : TypeId} {fs : Array Field} {r : Reach} {b0 : Nat} {v : Value} (hs : P.underlying t = some (.struct fs)) (hv : Value.okWide P w r b0 t v) : ∃ l : List Value, v = .agg l.toArray ∧ l.length = P.cellsOf t := by
  obtain ⟨cs, rfl, hsz⟩ := okWide_struct hs hv
  exact ⟨cs.toList, by simp, by simpa using hsz⟩
/-- the parts of a struct -/
theorem trod_parts {t : TypeId} {fs : Array Field} {fuel : Nat} {cs : List Value} {x : DataW H × List MemPlace} (ht : P.underlying t = some (.struct fs)) (h : DataW.trod enc P w base spare held fuel t cs = some x) :
    ∃ n, cs.length = P.cellsOf t ∧ ∀ (i ty off c : Nat) (f : Field), fs[i]? = some f → f.type = ty → f.offset = off → P.cellsOf ty = c → ∃ y, DataW.trod enc P w base spare held n ty ((cs.drop off).take c) = some y := by
  obtain ⟨xs, n, _, _, hl, hlen, hf⟩ := DataW.trod_struct ht h
  refine ⟨n, hl, fun i ty off c f hi hty hoff hc => ?_⟩
  subst hty hoff hc
  rw [hf i f hi]
  have : i < fs.size := (Array.getElem?_eq_some_iff.1 hi).1
  exact ⟨_, List.getElem?_eq_getElem (by omega)⟩
theorem arg_agg {H : Type} {enc : TypeId × Value → H} {P : Program} {w : World} {base : Nat} {spare : Nat → Bool} {held : Bool} {t : TypeId} {fs : Array Field} {r : Reach} {b0 : Nat} {v : Value} {d : DataW H} {ps : List MemPlace} (hs : P.underlying t = some (.struct fs)) (hv : Value.okWide P w r b0 t v)
    (h : DataW.Trod enc P w base spare held t v d ps) : ∃ l : List Value, v = .agg l.toArray ∧ ∃ n, DataW.trod enc P w base spare held n t l = some (d, ps) := by
  obtain ⟨l, rfl, _⟩ := agg_of hs hv
  obtain ⟨n, hn⟩ := h
  exact ⟨l, rfl, n, by simpa [Value.cells] using hn⟩
theorem list3 {α : Type} {l : List α} (h : l.length = 3) : ∃ a b c, l = [a, b, c] := by
  match l, h with
  | [a, b, c], _ => exact ⟨a, b, c, rfl⟩
theorem list5 {α : Type} {l : List α} (h : l.length = 5) : ∃ a b c d e, l = [a, b, c, d, e] := by
  match l, h with
  | [a, b, c, d, e], _ => exact ⟨a, b, c, d, e, rfl⟩
end
section
variable {H : Type} {enc : TypeId × Value → H} {w : World} {base : Nat} {spare : Nat → Bool} {held : Bool}
theorem own_knob : ownKnob Try.prog.godebug = none := by kernel_rfl
theorem laid_out : laidOutB Try.prog = true := by kernel_rfl
theorem Ints.spot {k : IntKind} {w : World} {ad : Option Addr} {cap : Nat} {xs : List Int} (h : Ints k w ad cap xs) {i : Nat} (hk : i < xs.length) : ∃ b off, ad = some ⟨b, off, none⟩ ∧ b < w.heap.size ∧ ∀ j, j < xs.length → w.cell? ⟨b, off + j, none⟩ = some (.int k (xs.getD j 0)) := by
  obtain ⟨b, off, e, hb, hc⟩ := h.rd.spot (i := i) (by simpa using hk)
  refine ⟨b, off, e, hb, fun j hj => ?_⟩
  rw [hc j (by simpa using hj), List.getElem?_map, List.getElem?_eq_getElem hj, List.getD_eq_getElem?_getD, List.getElem?_eq_getElem hj]
  rfl
theorem F32s.seeRow {w : World} {ad : Option Addr} {cap : Nat} {xs : List Nat} (h : F32s w ad cap xs) : SeeRow w (floatRow ad cap xs) := ⟨h.len, h.cap, by simp [floatRow], h.rd⟩
theorem dec_Tensor {n : Nat} {cs : List Value} {y : DataW H × List MemPlace} (h : DataW.trod enc Try.prog w base spare held n 27 cs = some y) :
    ∃ (r c : Int) (ad : Option Addr) (cap : Nat) (xs : List Nat), cs = [.int .i64 r, .int .i64 c, .slice ad xs.length cap] ∧ (Lit.int .i64 r).wf = true ∧ (Lit.int .i64 c).wf = true ∧ F32s w ad cap xs := by
  have c0 : Try.prog.cellsOf 27 = 3 := by kernel_rfl
  have c1 : Try.prog.cellsOf 2 = 1 := by kernel_rfl
  have c2 : Try.prog.cellsOf 25 = 1 := by kernel_rfl
  obtain ⟨n, hl, hp⟩ := trod_parts Try.underlying27 h
  rw [c0] at hl
  obtain ⟨x0, x1, x2, rfl⟩ := list3 hl
  obtain ⟨y0, h0⟩ := hp 0 2 0 1 _ rfl rfl rfl c1
  obtain ⟨y1, h1⟩ := hp 1 2 1 1 _ rfl rfl rfl c1
  obtain ⟨y2, h2⟩ := hp 2 25 2 1 _ rfl rfl rfl c2
  simp only [List.drop_succ_cons, List.drop_zero, List.take_succ_cons, List.take_zero] at h0 h1 h2
  obtain ⟨r, e0, _, w0⟩ := DataW.trod_int Try.underlying2 h0
  obtain ⟨g, e1, _, w1⟩ := DataW.trod_int Try.underlying2 h1
  obtain ⟨ad, cap, xs, e2, w2⟩ := dec_f32s Try.underlying25 Try.underlying49 h2
  simp only [List.cons.injEq, and_true] at e0 e1 e2
  subst e0 e1 e2
  exact ⟨r, g, ad, cap, xs, rfl, w0, w1, w2⟩
theorem dec_Layer {n : Nat} {cs : List Value} {y : DataW H × List MemPlace} (h : DataW.trod enc Try.prog w base spare held n 76 cs = some y) :
    ∃ l : LayD, cs = l.cells ∧ (F32s w l.wa l.wk l.ws ∧ F32s w l.ba l.bk l.bs) ∧ l.ok := by
  have c0 : Try.prog.cellsOf 76 = 5 := by kernel_rfl
  have c1 : Try.prog.cellsOf 2 = 1 := by kernel_rfl
  have c2 : Try.prog.cellsOf 25 = 1 := by kernel_rfl
  obtain ⟨n, hl, hp⟩ := trod_parts Try.underlying76 h
  rw [c0] at hl
  obtain ⟨x0, x1, x2, x3, x4, rfl⟩ := list5 hl
  obtain ⟨y0, h0⟩ := hp 0 2 0 1 _ rfl rfl rfl c1
  obtain ⟨y1, h1⟩ := hp 1 2 1 1 _ rfl rfl rfl c1
  obtain ⟨y2, h2⟩ := hp 2 2 2 1 _ rfl rfl rfl c1
  obtain ⟨y3, h3⟩ := hp 3 25 3 1 _ rfl rfl rfl c2
  obtain ⟨y4, h4⟩ := hp 4 25 4 1 _ rfl rfl rfl c2
  simp only [List.drop_succ_cons, List.drop_zero, List.take_succ_cons, List.take_zero] at h0 h1 h2 h3 h4
  obtain ⟨k, e0, _, w0⟩ := DataW.trod_int Try.underlying2 h0
  obtain ⟨i, e1, _, w1⟩ := DataW.trod_int Try.underlying2 h1
  obtain ⟨o, e2, _, w2⟩ := DataW.trod_int Try.underlying2 h2
  obtain ⟨a3, c3, xs3, e3, w3⟩ := dec_f32s Try.underlying25 Try.underlying49 h3
  obtain ⟨a4, c4, xs4, e4, w4⟩ := dec_f32s Try.underlying25 Try.underlying49 h4
  simp only [List.cons.injEq, and_true] at e0 e1 e2 e3 e4
  subst e0 e1 e2 e3 e4
  exact ⟨⟨⟨k, i, o, xs3, xs4⟩, a3, c3, a4, c4⟩, rfl, ⟨w3, w4⟩, ⟨w3.lt, w4.lt⟩, w0, w1, w2⟩
theorem dec_layers {n : Nat} {cs : List Value} {y : DataW H × List MemPlace} (h : DataW.trod enc Try.prog w base spare held n 22 cs = some y) : ∃ ad cap ls, cs = [.slice ad (List.length ls) cap] ∧ SeeR layR w ad cap ls := by
  obtain ⟨a, l, c, rfl⟩ := Joins.slice_form Try.underlying22 h
  obtain ⟨ad, cap, bs, h1, h2, h3, h4, h5⟩ := open_rows (v := .slice a l c) LayD.cells (fun l => (F32s w l.wa l.wk l.ws ∧ F32s w l.ba l.bk l.bs) ∧ l.ok) Try.underlying22 (fun n cs y hy => dec_Layer hy) ⟨n, by simpa [Value.cells] using h⟩ ⟨a, l, c, rfl⟩
  refine ⟨ad, cap, bs, by rw [h1], ⟨h2, h3, h4, fun o ho x hx => ?_, fun o ho => (h5 o ho).2⟩⟩
  rcases List.mem_cons.1 hx with rfl | hx
  · exact (h5 o ho).1.1.seeRow
  · rw [List.mem_singleton.1 hx]
    exact (h5 o ho).1.2.seeRow
theorem dec_Model {n : Nat} {cs : List Value} {y : DataW H × List MemPlace} (h : DataW.trod enc Try.prog w base spare held n 24 cs = some y) : ∃ ad cap ls, cs = [.slice ad (List.length ls) cap] ∧ SeeR layR w ad cap ls := by
  have c0 : Try.prog.cellsOf 24 = 1 := by kernel_rfl
  have c1 : Try.prog.cellsOf 22 = 1 := by kernel_rfl
  obtain ⟨n, hl, hp⟩ := trod_parts Try.underlying24 h
  rw [c0] at hl
  obtain ⟨x0, rfl⟩ := List.length_eq_one_iff.1 hl
  obtain ⟨y0, h0⟩ := hp 0 22 0 1 _ rfl rfl rfl c1
  simp only [List.drop_zero, List.take_succ_cons, List.take_zero] at h0
  exact dec_layers h0
end
end Go.Proofs.Ytfdgngnnncmfiaa
