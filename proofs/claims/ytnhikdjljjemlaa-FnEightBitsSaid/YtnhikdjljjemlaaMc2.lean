/- Joined texts 2: Reg Sli SlI Code Fl8 Fl9 Qb. Each is told at its own head. No condition. -/
import Derived.StillTail
import Derived.Deep.Draws
import Derived.Tactics
import Derived.Tactics2
import Derived.Lib.Hide
import GoSem.Extern.MathFloor
import Derived.Test.YtnhikdjljjemlaaMc0
import Derived.Test.YtnhikdjljjemlaaMc1
/- A region whose order is open, whose operations may give one of several values (a NaN's bits) and leave a world of a class: one walk in the order of the text serves every order. No condition. -/
namespace Go.Proofs.Ytnhikdjljjemlaa
open Go
set_option linter.unusedVariables false
section
variable {P : Program} {ops : Array Oper} {C : World → Prop} {VC : FuncId → Array Value → Value → Prop}

/-- the values that an operation may give in a world of the class -/
def May (P : Program) (C : World → Prop) (VC : FuncId → Array Value → Value → Prop) (o : Oper) (a : Act) (v : Value) : Prop :=
  ∃ w w', C w ∧ ((execOp a.eval o).run P w = .ok (.value v) w' ∨ ((execOp a.eval o).run P w = .ok .skip w' ∧ v = undef) ∨ ∃ f args, (execOp a.eval o).run P w = .ok (.enter f args) w' ∧ VC f args v)
/-- it goes through in every world of the class, and stays in the class -/
def FineRes (P : Program) (C : World → Prop) (VC : FuncId → Array Value → Value → Prop) : Result Next → Prop
  | .ok (.value _) w' => C w'
  | .ok .skip w' => C w'
  | .ok (.enter f args) w' => C w' ∧ Calls P f args w' (fun e w'' => ∃ v, e = .returned v ∧ C w'' ∧ VC f args v)
  | _ => False
def Fine (P : Program) (C : World → Prop) (VC : FuncId → Array Value → Value → Prop) (o : Oper) (a : Act) : Prop := ∀ w, C w → FineRes P C VC ((execOp a.eval o).run P w)
def Good (P : Program) (ops : Array Oper) (C : World → Prop) (VC : FuncId → Array Value → Value → Prop) (o : Oper) (a : Act) : Prop := Region.wanted o (yielded ops a.tmps) = true → Fine P C VC o a
def Vals (P : Program) (ops : Array Oper) (C : World → Prop) (VC : FuncId → Array Value → Value → Prop) (o : Oper) (a : Act) (v : Value) : Prop :=
  (Region.wanted o (yielded ops a.tmps) = true ∧ May P C VC o a v) ∨ (Region.wanted o (yielded ops a.tmps) = false ∧ v = undef)

/-- the walk in the order of the text -/
def WSet (P : Program) (ops : Array Oper) (C : World → Prop) (VC : FuncId → Array Value → Value → Prop) (Q : Act → Prop) : List Oper → Act → Prop
  | [], a => Q a
  | o :: rest, a => Good P ops C VC o a ∧ ∀ v, Vals P ops C VC o a v → WSet P ops C VC Q rest (a.put o.dst v)

/-- the walk of every order -/
def ASet (P : Program) (md : Region.Mode) (ops : Array Oper) (C : World → Prop) (VC : FuncId → Array Value → Value → Prop) (Q : Act → Prop) : Nat → Array Bool → Act → Prop
  | 0, listed, a => Region.ready md ops listed = [] ∧ Q a
  | fuel + 1, listed, a => (Region.ready md ops listed = [] → Q a) ∧
    ∀ i ∈ Region.ready md ops listed, ∀ o, ops[i]? = some o → Good P ops C VC o a ∧ ∀ v, Vals P ops C VC o a v → ASet P md ops C VC Q fuel (listed.setIfInBounds i true) (a.put o.dst v)

theorem good_put {o : Oper} {a : Act} {d : Option Tmp} {u : Value} (he : execOp (a.put d u).eval o = execOp a.eval o) (hw : Region.wanted o (yielded ops (a.put d u).tmps) = Region.wanted o (yielded ops a.tmps)) :
    Good P ops C VC o (a.put d u) ↔ Good P ops C VC o a := by
  unfold Good Fine
  rw [he, hw]
theorem vals_put {o : Oper} {a : Act} {d : Option Tmp} {u v : Value} (he : execOp (a.put d u).eval o = execOp a.eval o) (hw : Region.wanted o (yielded ops (a.put d u).tmps) = Region.wanted o (yielded ops a.tmps)) :
    Vals P ops C VC o (a.put d u) v ↔ Vals P ops C VC o a v := by
  unfold Vals May
  rw [he, hw]

/-- what goes through gives a value (the callee's result being told apart from the class by choosing a stack) -/
theorem some_val {o : Oper} {a : Act} {w0 : World} (h0 : C w0) (h : Good P ops C VC o a) : ∃ v, Vals P ops C VC o a v := by
  by_cases hw : Region.wanted o (yielded ops a.tmps) = true
  · have hf := h hw w0 h0
    unfold FineRes at hf
    split at hf
    · rename_i v w' he; exact ⟨v, .inl ⟨hw, w0, w', h0, .inl he⟩⟩
    · rename_i w' he; exact ⟨undef, .inl ⟨hw, w0, w', h0, .inr (.inl ⟨he, rfl⟩)⟩⟩
    · rename_i f args w' he
      obtain ⟨_, hc⟩ := hf
      obtain ⟨e, w'', fr, ⟨v, _, _, hv⟩, _⟩ := hc []
      exact ⟨v, .inl ⟨hw, w0, w', h0, .inr (.inr ⟨f, args, he, hv⟩)⟩⟩
    · cases hf
  · exact ⟨undef, .inr ⟨by simpa using hw, rfl⟩⟩

theorem aset_first {md : Region.Mode} {Q : Act → Prop} {w0 : World} (h0 : C w0) {i : Nat} {oi : Oper} (hi : ops[i]? = some oi) (hsel : ∀ (j : Nat) (o : Oper) cs b, ops[j]? = some o → o.op ≠ .select cs b) :
    ∀ (fuel : Nat) (listed : Array Bool) (a : Act),
      (∀ j oj, ops[j]? = some oj → j ≠ i → listed.getD j true = false → (∀ e ∈ oj.after, Region.binds md e = true → e.on ≠ i) → oi.apart ops oj = true) →
      i ∈ Region.ready md ops listed → Good P ops C VC oi a →
      (∀ v, Vals P ops C VC oi a v → ASet P md ops C VC Q fuel (listed.setIfInBounds i true) (a.put oi.dst v)) → ASet P md ops C VC Q (fuel + 1) listed a
  | 0, listed, a, _, hr, hg, H => by
    refine ⟨fun e => (by rw [e] at hr; cases hr), fun j hj o ho => ?_⟩
    by_cases hji : j = i
    · subst hji
      obtain rfl : oi = o := Option.some.inj (hi.symm.trans ho)
      exact ⟨hg, H⟩
    · exfalso
      obtain ⟨v, hv⟩ := some_val h0 hg
      have := ready_mono hj hji
      rw [(H v hv).1] at this
      cases this
  | fuel + 1, listed, a, hfree, hr, hg, H => by
    refine ⟨fun e => (by rw [e] at hr; cases hr), fun j hj oj hoj => ?_⟩
    by_cases hji : j = i
    · subst hji
      obtain rfl : oi = oj := Option.some.inj (hi.symm.trans hoj)
      exact ⟨hg, H⟩
    · have hun : listed.getD j true = false := (mem_ready.1 hj).1
      have hno : ∀ e ∈ oj.after, Region.binds md e = true → e.on ≠ i := by
        intro e he hb hon
        obtain ⟨_, o', ho', hall⟩ := mem_ready.1 hj
        obtain rfl : oj = o' := Option.some.inj (hoj.symm.trans ho')
        have h1 := hall e he hb
        have h2 := (mem_ready.1 hr).1
        rw [hon] at h1
        rcases Nat.lt_or_ge i listed.size with hl | hl
        · simp only [Array.getD_eq_getD_getElem?, Array.getElem?_eq_getElem hl, Option.getD_some] at h1 h2
          rw [h1] at h2; cases h2
        · simp [Array.getElem?_eq_none hl] at h1
      obtain ⟨x1, x2, x3⟩ := Oper.apart_spec (hfree j oj hoj hji hun hno)
      have si := fun cs b => hsel i oi cs b hi
      have sj := fun cs b => hsel j oj cs b hoj
      -- what the one gives makes no difference to the other
      have gj : ∀ v, (Good P ops C VC oj (a.put oi.dst v) ↔ Good P ops C VC oj a) := fun v => good_put (execOp_put oj sj a oi.dst v x1) (wanted_put oj a oi.dst v x1)
      have vj : ∀ v u, (Vals P ops C VC oj (a.put oi.dst v) u ↔ Vals P ops C VC oj a u) := fun v u => vals_put (execOp_put oj sj a oi.dst v x1) (wanted_put oj a oi.dst v x1)
      have gi : ∀ u, (Good P ops C VC oi (a.put oj.dst u) ↔ Good P ops C VC oi a) := fun u => good_put (execOp_put oi si a oj.dst u x3) (wanted_put oi a oj.dst u x3)
      have vi : ∀ u v, (Vals P ops C VC oi (a.put oj.dst u) v ↔ Vals P ops C VC oi a v) := fun u v => vals_put (execOp_put oi si a oj.dst u x3) (wanted_put oi a oj.dst u x3)
      obtain ⟨v0, hv0⟩ := some_val h0 hg
      have hj' := ready_mono hj hji
      refine ⟨(gj v0).1 ((H v0 hv0).2 j hj' oj hoj).1, fun u hu => ?_⟩
      refine aset_first h0 hi hsel fuel (listed.setIfInBounds j true) (a.put oj.dst u) ?_ (ready_mono hr (Ne.symm hji)) ((gi u).2 hg) fun v hv => ?_
      · intro k ok hk hki hun' hno'
        refine hfree k ok hk hki ?_ hno'
        by_cases hjk : j = k
        · subst hjk; exact hun
        · rw [getD_set_ne true hjk] at hun'; exact hun'
      · have := ((H v ((vi u v).1 hv)).2 j hj' oj hoj).2 u ((vj v u).2 hu)
        rw [Array.setIfInBounds_comm _ _ hji, ← Act.put_comm a v u x2]
        exact this

theorem aset_lex {md : Region.Mode} {Q : Act → Prop} {w0 : World} (h0 : C w0) (hs : Region.noSelect ops = true) : ∀ (l : List Oper) (k : Nat) (listed : Array Bool) (a : Act), (∀ j, l[j]? = ops[k + j]?) →
    Region.lexFrom md ops l.length k listed = true → WSet P ops C VC Q l a → ASet P md ops C VC Q l.length listed a
  | [], _, _, _, _, hB, h => ⟨by simpa [Region.lexFrom] using hB, h⟩
  | o :: l, k, listed, a, hl, hB, h => by
    have hk : ops[k]? = some o := by simpa using (hl 0).symm
    simp only [List.length_cons, Region.lexFrom, Bool.and_eq_true] at hB
    obtain ⟨⟨hr, hf⟩, hB'⟩ := hB
    refine aset_first h0 hk (Region.noSelect_spec hs) l.length listed a (Region.free_spec hk hf) (by simpa using hr) h.1 fun v hv => ?_
    exact aset_lex h0 hs l (k + 1) _ _ (fun j => by have := hl (j + 1); simpa [Nat.add_assoc, Nat.add_comm 1 j] using this) hB' (h.2 v hv)

theorem any_of_aset {md : Region.Mode} {Q : Act → Prop} {Q' : Exit → Act → World → Prop} (hQ : ∀ a w, C w → Q a → Q' .normal a w) : ∀ (fuel : Nat) (listed : Array Bool) (a : Act) (w : World), C w →
    ASet P md ops C VC Q fuel listed a → wpAny P md ops Q' fuel listed a w
  | 0, _, _, _, hw, h => ⟨h.1, hQ _ _ hw h.2⟩
  | fuel + 1, listed, a, w, hw, h => by
    refine ⟨fun e => hQ _ _ hw (h.1 e), fun i hi => ?_⟩
    obtain ⟨_, o, ho, _⟩ := mem_ready.1 hi
    obtain ⟨hg, hv⟩ := h.2 i hi o ho
    unfold wpOp
    simp only [ho]
    by_cases hwant : Region.wanted o (yielded ops a.tmps) = true
    · rw [if_pos hwant]
      left
      have hf := hg hwant w hw
      unfold Oper.wp
      unfold FineRes at hf
      split at hf
      · rename_i v w' he
        rw [he]
        exact any_of_aset hQ fuel _ _ w' hf (hv v (.inl ⟨hwant, w, w', hw, .inl he⟩))
      · rename_i w' he
        rw [he]
        exact any_of_aset hQ fuel _ _ w' hf (hv undef (.inl ⟨hwant, w, w', hw, .inr (.inl ⟨he, rfl⟩)⟩))
      · rename_i f args w' he
        rw [he]
        obtain ⟨hC', hc⟩ := hf
        refine hc.mono fun e w'' ⟨v, hev, hC'', hvc⟩ => ?_
        subst hev
        exact any_of_aset hQ fuel _ _ w'' hC'' (hv v (.inl ⟨hwant, w, w', hw, .inr (.inr ⟨f, args, he, hvc⟩)⟩))
      · cases hf
    · have hwant' : Region.wanted o (yielded ops a.tmps) = false := by simpa using hwant
      rw [if_neg hwant]
      exact any_of_aset hQ fuel _ _ w hw (hv undef (.inr ⟨hwant', rfl⟩))

/-- the region, by the walk in the order of the text -/
theorem wp_region_set {id : Nat} {Q : Exit → Act → World → Prop} {a : Act} {w : World} {l : List Oper} (C : World → Prop) (VC : FuncId → Array Value → Value → Prop) (hm : P.follows .mixedOrders = true) (hB : Region.lexB .any l.toArray = true)
    (hC : C { w with drawn := w.drawn + 1 }) (h : WSet P l.toArray C VC (fun a' => ∀ w', C w' → Q .normal a' w') l a) : (Code.region id l.toArray true).wp P Q a w := by
  simp only [Region.lexB, Bool.and_eq_true] at hB
  refine wp_region_any hm (any_of_aset (VC := VC) (Q := fun a' => ∀ w', C w' → Q .normal a' w') (fun _ w' hw' h => h w' hw') _ _ _ _ hC ?_)
  have := aset_lex (VC := VC) (md := .any) hC hB.1 l 0 (Array.replicate l.toArray.size false) a (by simp) (by simpa using hB.2) h
  simpa using this

/-! the steps of the walk, at the class 'w behind some draws' -/
def Drawn (w : World) : World → Prop := fun w' => ∃ n, w' = w.drewN n
variable {w : World} {Q : Act → Prop} {o : Oper} {rest : List Oper} {a : Act}
@[go_sem] theorem drawn_self (n : Nat) : Drawn w (w.drewN n) = True := eq_true ⟨n, rfl⟩
/-- what is asked of one operation: every value that it gives leads on -/
@[go_sem] def UponS (P : Program) (VC : FuncId → Array Value → Value → Prop) (w : World) (K : Value → Prop) : Result Next → Prop
  | .ok (.value v) w' => Drawn w w' ∧ K v
  | .ok .skip w' => Drawn w w' ∧ K undef
  | .ok (.enter f args) w' => Drawn w w' ∧ (Calls P f args w' fun e w'' => ∃ v, e = .returned v ∧ Drawn w w'' ∧ VC f args v) ∧ ∀ v, VC f args v → K v
  | _ => False
theorem wset_step (h : ∀ K : Act → Prop, (∀ a, WSet P ops (Drawn w) VC Q rest a → K a) → ∀ n : Nat, if Region.wanted o (yielded ops a.tmps) then UponS P VC w (fun v => K (a.put o.dst v)) ((execOp a.eval o).run P (w.drewN n)) else K (a.put o.dst undef)) :
    WSet P ops (Drawn w) VC Q (o :: rest) a := by
  have h := h _ (fun _ h => h)
  refine ⟨fun hw w' ⟨n, hn⟩ => ?_, fun v hv => ?_⟩
  · have := h n
    rw [if_pos hw] at this
    rw [hn]
    unfold UponS at this
    unfold FineRes
    split at this
    · exact this.1
    · exact this.1
    · exact ⟨this.1, this.2.1⟩
    · cases this
  · rcases hv with ⟨hw, w1, w2, ⟨n, rfl⟩, hv⟩ | ⟨hw, rfl⟩
    · have := h n
      rw [if_pos hw] at this
      unfold UponS at this
      rcases hv with hv | ⟨hv, rfl⟩ | ⟨f, args, hv, hvc⟩
      · rw [hv] at this; exact this.2
      · rw [hv] at this; exact this.2
      · rw [hv] at this; exact this.2.2 v hvc
    · have := h 0
      rwa [if_neg (by rw [hw]; exact Bool.false_ne_true)] at this
theorem wset_nil (hq : Q a) : WSet P ops (Drawn w) VC Q [] a := hq
/-! a region whose last operations (an append, a store) wait for all others -/
structure HInv (md : Region.Mode) (ops : Array Oper) (n : Nat) (listed : Array Bool) : Prop where
  size : listed.size = ops.size
  closed : ∀ j o, ops[j]? = some o → listed.getD j false = true → ∀ e ∈ o.after, Region.binds md e = true → listed.getD e.on false = true
  tail : ∀ t, n ≤ t → t < ops.size → listed.getD t true = false
def waitsP (md : Region.Mode) (ops : Array Oper) (k j : Nat) : Bool := match ops[k]? with
  | some o => o.after.any fun e => Region.binds md e && e.on == j
  | none => false
theorem waitsP_spec {md : Region.Mode} {k j : Nat} (h : waitsP md ops k j = true) : ∃ o, ops[k]? = some o ∧ ∃ e ∈ o.after, Region.binds md e = true ∧ e.on = j := by
  unfold waitsP at h
  split at h
  · rename_i o ho
    obtain ⟨e, he, hb⟩ := Array.any_eq_true'.1 h
    simp only [Bool.and_eq_true, beq_iff_eq] at hb
    exact ⟨o, ho, e, he, hb.1, hb.2⟩
  · cases h
def sinkP (md : Region.Mode) (ops : Array Oper) (p n : Nat) : Bool := (List.range n).all fun j => decide (j < p) || (List.range (n + 1)).any fun k => decide (j < k) && waitsP md ops k j
def chainP (md : Region.Mode) (ops : Array Oper) (n : Nat) : Bool := (List.range ops.size).all fun t => decide (t ≤ n) || waitsP md ops t (t - 1)
theorem getD_two {l : Array Bool} {i : Nat} (h : l.getD i true = false) : l.getD i false = false := by
  rcases Nat.lt_or_ge i l.size with hl | hl
  · simp only [Array.getD_eq_getD_getElem?, Array.getElem?_eq_getElem hl, Option.getD_some] at h ⊢; exact h
  · simp [Array.getElem?_eq_none hl] at h
theorem getD_in2 {l : Array Bool} {i : Nat} (hl : i < l.size) (h : l.getD i false = false) : l.getD i true = false := by
  simp only [Array.getD_eq_getD_getElem?, Array.getElem?_eq_getElem hl, Option.getD_some] at h ⊢; exact h
theorem late {md : Region.Mode} {p n : Nat} {listed : Array Bool} (hs : sinkP md ops p n = true) (hc : chainP md ops n = true) (hn : n < ops.size) (inv : HInv md ops n listed) (hp : ∀ j, j < p → listed.getD j false = true) :
    ∀ (d i : Nat), n - i = d → i < n → listed.getD i true = false → ∀ t, n ≤ t → t ∉ Region.ready md ops listed := by
  intro d
  induction d using Nat.strongRecOn with
  | _ d ih =>
    intro i hd hi hun t ht hr
    have hip : ¬ i < p := fun h => by have := hp i h; rw [getD_two hun] at this; cases this
    have h1 := List.all_eq_true.1 hs i (List.mem_range.2 hi)
    simp only [Bool.or_eq_true, decide_eq_true_eq, hip, false_or, List.any_eq_true, List.mem_range, Bool.and_eq_true] at h1
    obtain ⟨k, hk, hik, hw⟩ := h1
    obtain ⟨ok, hok, e, he, hb, hon⟩ := waitsP_spec hw
    have hks : k < ops.size := (Array.getElem?_eq_some_iff.1 hok).1
    obtain ⟨hunt, ot, hot, hall⟩ := mem_ready.1 hr
    have htlt : t < ops.size := (Array.getElem?_eq_some_iff.1 hot).1
    by_cases hkn : k = n
    · subst hkn
      by_cases htk : t = k
      · subst htk
        obtain rfl : ok = ot := Option.some.inj (hok.symm.trans hot)
        have := hall e he hb
        rw [hon, getD_two hun] at this; cases this
      · have h2 := List.all_eq_true.1 hc t (List.mem_range.2 htlt)
        simp only [Bool.or_eq_true, decide_eq_true_eq] at h2
        rcases h2 with h2 | h2
        · omega
        · obtain ⟨o', ho', e', he', hb', hon'⟩ := waitsP_spec h2
          obtain rfl : o' = ot := Option.some.inj (ho'.symm.trans hot)
          have := hall e' he' hb'
          rw [hon', getD_two (inv.tail (t - 1) (by omega) (by omega))] at this; cases this
    · have hkl : listed.getD k false = false := by
        cases hl : listed.getD k false with
        | false => rfl
        | true => have := inv.closed k ok hok hl e he hb; rw [hon, getD_two hun] at this; cases this
      exact ih (n - k) (by omega) k rfl (by omega) (getD_in2 (by rw [inv.size]; exact hks) hkl) t ht hr
theorem HInv.set {md : Region.Mode} {n j : Nat} {listed : Array Bool} (h : HInv md ops n listed) (hj : j ∈ Region.ready md ops listed) (hn : j < n) : HInv md ops n (listed.setIfInBounds j true) := by
  refine ⟨by simpa using h.size, fun k o ho hl e he hb => ?_, fun t ht hts => ?_⟩
  · by_cases hjk : j = k
    · subst hjk
      obtain ⟨_, o', ho', hall⟩ := mem_ready.1 hj
      obtain rfl : o = o' := Option.some.inj (ho.symm.trans ho')
      exact getD_set_true (hall e he hb)
    · rw [getD_set_ne false hjk] at hl
      exact getD_set_true (h.closed k o ho hl e he hb)
  · rw [getD_set_ne true (by omega)]; exact h.tail t ht hts

/-- the walk of every order of the head, then the tail 'L' -/
def TSet (P : Program) (md : Region.Mode) (ops : Array Oper) (C : World → Prop) (VC : FuncId → Array Value → Value → Prop) (n : Nat) (L : Array Bool → Act → Prop) : Nat → Array Bool → Act → Prop
  | 0, listed, a => L listed a
  | fuel + 1, listed, a => Region.ready md ops listed ≠ [] ∧
    ∀ i ∈ Region.ready md ops listed, ∀ o, ops[i]? = some o → i < n ∧ Good P ops C VC o a ∧ ∀ v, Vals P ops C VC o a v → TSet P md ops C VC n L fuel (listed.setIfInBounds i true) (a.put o.dst v)

theorem tset_first {md : Region.Mode} {p n : Nat} {L : Array Bool → Act → Prop} {w0 : World} (h0 : C w0) {i : Nat} {oi : Oper} (hi : ops[i]? = some oi) (hsel : ∀ (j : Nat) (o : Oper) cs b, ops[j]? = some o → o.op ≠ .select cs b)
    (hs : sinkP md ops p n = true) (hc : chainP md ops n = true) (hn : n < ops.size) (hin : i < n) (hdone : ∀ listed a, L listed a → ∀ j ∈ Region.ready md ops listed, n ≤ j) :
    ∀ (fuel : Nat) (listed : Array Bool) (a : Act), HInv md ops n listed → (∀ j, j < p → listed.getD j false = true) →
      (∀ j oj, ops[j]? = some oj → j ≠ i → listed.getD j true = false → (∀ e ∈ oj.after, Region.binds md e = true → e.on ≠ i) → oi.apart ops oj = true) →
      i ∈ Region.ready md ops listed → Good P ops C VC oi a →
      (∀ v, Vals P ops C VC oi a v → TSet P md ops C VC n L fuel (listed.setIfInBounds i true) (a.put oi.dst v)) → TSet P md ops C VC n L (fuel + 1) listed a
  | 0, listed, a, inv, hp, _, hr, hg, H => by
    have hun := (mem_ready.1 hr).1
    refine ⟨fun e => (by rw [e] at hr; cases hr), fun j hj o ho => ?_⟩
    have hjn : j < n := by
      rcases Nat.lt_or_ge j n with h | h
      · exact h
      · exact absurd hj (late hs hc hn inv hp _ i rfl hin hun j h)
    by_cases hji : j = i
    · subst hji
      obtain rfl : oi = o := Option.some.inj (hi.symm.trans ho)
      exact ⟨hjn, hg, H⟩
    · exfalso
      obtain ⟨v, hv⟩ := some_val h0 hg
      have := hdone _ _ (H v hv) j (ready_mono hj hji)
      omega
  | fuel + 1, listed, a, inv, hp, hfree, hr, hg, H => by
    have huni := (mem_ready.1 hr).1
    refine ⟨fun e => (by rw [e] at hr; cases hr), fun j hj oj hoj => ?_⟩
    have hjn : j < n := by
      rcases Nat.lt_or_ge j n with h | h
      · exact h
      · exact absurd hj (late hs hc hn inv hp _ i rfl hin huni j h)
    by_cases hji : j = i
    · subst hji
      obtain rfl : oi = oj := Option.some.inj (hi.symm.trans hoj)
      exact ⟨hjn, hg, H⟩
    · have hun : listed.getD j true = false := (mem_ready.1 hj).1
      have hno : ∀ e ∈ oj.after, Region.binds md e = true → e.on ≠ i := by
        intro e he hb hon
        obtain ⟨_, o', ho', hall⟩ := mem_ready.1 hj
        obtain rfl : oj = o' := Option.some.inj (hoj.symm.trans ho')
        have h1 := hall e he hb
        rw [hon, getD_two huni] at h1; cases h1
      obtain ⟨x1, x2, x3⟩ := Oper.apart_spec (hfree j oj hoj hji hun hno)
      have si := fun cs b => hsel i oi cs b hi
      have sj := fun cs b => hsel j oj cs b hoj
      have gj : ∀ v, (Good P ops C VC oj (a.put oi.dst v) ↔ Good P ops C VC oj a) := fun v => good_put (execOp_put oj sj a oi.dst v x1) (wanted_put oj a oi.dst v x1)
      have vj : ∀ v u, (Vals P ops C VC oj (a.put oi.dst v) u ↔ Vals P ops C VC oj a u) := fun v u => vals_put (execOp_put oj sj a oi.dst v x1) (wanted_put oj a oi.dst v x1)
      have gi : ∀ u, (Good P ops C VC oi (a.put oj.dst u) ↔ Good P ops C VC oi a) := fun u => good_put (execOp_put oi si a oj.dst u x3) (wanted_put oi a oj.dst u x3)
      have vi : ∀ u v, (Vals P ops C VC oi (a.put oj.dst u) v ↔ Vals P ops C VC oi a v) := fun u v => vals_put (execOp_put oi si a oj.dst u x3) (wanted_put oi a oj.dst u x3)
      obtain ⟨v0, hv0⟩ := some_val h0 hg
      have hj' := ready_mono hj hji
      refine ⟨hjn, (gj v0).1 ((H v0 hv0).2 j hj' oj hoj).2.1, fun u hu => ?_⟩
      refine tset_first h0 hi hsel hs hc hn hin hdone fuel (listed.setIfInBounds j true) (a.put oj.dst u) (inv.set hj hjn) (fun q hq => getD_set_true (hp q hq)) ?_ (ready_mono hr (Ne.symm hji)) ((gi u).2 hg) fun v hv => ?_
      · intro k ok hk hki hun' hno'
        refine hfree k ok hk hki ?_ hno'
        by_cases hjk : j = k
        · subst hjk; exact hun
        · rw [getD_set_ne true hjk] at hun'; exact hun'
      · have := ((H v ((vi u v).1 hv)).2 j hj' oj hoj).2.2 u ((vj v u).2 hu)
        rw [Array.setIfInBounds_comm _ _ hji, ← Act.put_comm a v u x2]
        exact this
theorem tset_lex {md : Region.Mode} {p n g : Nat} {Lq : Act → Prop} {w0 : World} (h0 : C w0) (hsel : Region.noSelect ops = true) (hs : sinkP md ops p n = true) (hc : chainP md ops n = true) (hn : n < ops.size) :
    ∀ (l : List Oper) (k : Nat) (listed : Array Bool) (a : Act), (∀ j, j < l.length → l[j]? = ops[k + j]?) → k + l.length = n → HInv md ops n listed → (∀ j, j < p → listed.getD j false = true) →
    Region.lexHead md ops g l.length k listed = true → WSet P ops C VC Lq l a →
    TSet P md ops C VC n (fun listed' a' => Region.seqB md ops g n listed' = true ∧ Lq a') l.length listed a
  | [], k, listed, a, _, hk, _, _, hB, h => by
    have : k = n := by simpa using hk
    subst this
    exact ⟨by simpa [Region.lexHead] using hB, h⟩
  | o :: l, k, listed, a, hl, hk, inv, hp, hB, h => by
    have hk0 : ops[k]? = some o := by simpa using (hl 0 (by simp)).symm
    simp only [List.length_cons, Region.lexHead, Bool.and_eq_true] at hB
    obtain ⟨⟨hr, hf⟩, hB'⟩ := hB
    have hkn : k < n := by simp only [List.length_cons] at hk; omega
    have hr' : k ∈ Region.ready md ops listed := by simpa using hr
    refine tset_first h0 hk0 (Region.noSelect_spec hsel) hs hc hn hkn (fun listed' a' hL => seqB_ready hL.1) l.length listed a inv hp (Region.free_spec hk0 hf) hr' h.1 fun v hv => ?_
    exact tset_lex h0 hsel hs hc hn l (k + 1) _ _ (fun j hj => by have := hl (j + 1) (by simp; omega); simpa [Nat.add_assoc, Nat.add_comm 1 j] using this) (by simp only [List.length_cons] at hk; omega) (inv.set hr' hkn) (fun q hq => getD_set_true (hp q hq)) hB' (h.2 v hv)
theorem any_of_tset {md : Region.Mode} {n g : Nat} {L : Array Bool → Act → Prop} {Q' : Exit → Act → World → Prop} (hL : ∀ listed a w, C w → L listed a → wpAny P md ops Q' g listed a w) : ∀ (fuel : Nat) (listed : Array Bool) (a : Act) (w : World), C w →
    TSet P md ops C VC n L fuel listed a → wpAny P md ops Q' (fuel + g) listed a w
  | 0, _, _, _, hw, h => by rw [Nat.zero_add]; exact hL _ _ _ hw h
  | fuel + 1, listed, a, w, hw, h => by
    rw [show fuel + 1 + g = (fuel + g) + 1 by omega]
    refine ⟨fun e => absurd e h.1, fun i hi => ?_⟩
    obtain ⟨_, o, ho, _⟩ := mem_ready.1 hi
    obtain ⟨_, hg, hv⟩ := h.2 i hi o ho
    unfold wpOp
    simp only [ho]
    by_cases hwant : Region.wanted o (yielded ops a.tmps) = true
    · rw [if_pos hwant]
      left
      have hf := hg hwant w hw
      unfold Oper.wp
      unfold FineRes at hf
      split at hf
      · rename_i v w' he
        rw [he]
        exact any_of_tset hL fuel _ _ w' hf (hv v (.inl ⟨hwant, w, w', hw, .inl he⟩))
      · rename_i w' he
        rw [he]
        exact any_of_tset hL fuel _ _ w' hf (hv undef (.inl ⟨hwant, w, w', hw, .inr (.inl ⟨he, rfl⟩)⟩))
      · rename_i f args w' he
        rw [he]
        obtain ⟨hC', hc⟩ := hf
        refine hc.mono fun e w'' ⟨v, hev, hC'', hvc⟩ => ?_
        subst hev
        exact any_of_tset hL fuel _ _ w'' hC'' (hv v (.inl ⟨hwant, w, w', hw, .inr (.inr ⟨f, args, he, hvc⟩)⟩))
      · cases hf
    · have hwant' : Region.wanted o (yielded ops a.tmps) = false := by simpa using hwant
      rw [if_neg hwant]
      exact any_of_tset hL fuel _ _ w hw (hv undef (.inr ⟨hwant', rfl⟩))
def tailB (ops : Array Oper) (n : Nat) : Bool :=
  Region.noSelect ops && decide (n < ops.size) && sinkP .any ops 0 n && chainP .any ops n && Region.lexHead .any ops (ops.size - n) n 0 (Array.replicate ops.size false)
/-- **a region whose operations from 'n' on wait for all others** -/
theorem wp_region_tail {id : Nat} {Q : Exit → Act → World → Prop} {a : Act} {w : World} {l : List Oper} (n : Nat) (VC : FuncId → Array Value → Value → Prop) (hm : P.follows .mixedOrders = true) (hB : tailB l.toArray n = true)
    (h : WSet P l.toArray (Drawn w) VC (fun a' => ∀ w', Drawn w w' → wpList P l.toArray Q (l.drop n) a' w') (l.take n) a) : (Code.region id l.toArray true).wp P Q a w := by
  simp only [tailB, Bool.and_eq_true, decide_eq_true_eq] at hB
  obtain ⟨⟨⟨⟨hsel, hn⟩, hs⟩, hc⟩, hlex⟩ := hB
  have hn' : n < l.length := by simpa using hn
  have htl : (l.take n).length = n := by simp; omega
  have hdl : (l.drop n).length = l.toArray.size - n := by simp
  have gf : ∀ i, (Array.replicate l.toArray.size false).getD i false = false := fun i => by
    simp only [Array.getD_eq_getD_getElem?, Array.getElem?_replicate]; split <;> rfl
  have inv0 : HInv .any l.toArray n (Array.replicate l.toArray.size false) :=
    ⟨by simp, fun j oj _ hl => (by rw [gf] at hl; cases hl), fun t _ ht => getD_in2 (by simpa using ht) (gf t)⟩
  have hd : Drawn w { w with drawn := w.drawn + 1 } := ⟨1, rfl⟩
  have H := tset_lex (VC := VC) (md := .any) (g := l.toArray.size - n) hd hsel hs hc hn (l.take n) 0 _ a (fun j hj => by
    have hj' : j < n := by rw [htl] at hj; exact hj
    simp [hj']) (by simpa using htl) inv0 (fun j hj => by omega) (by rw [htl]; exact hlex) h
  refine wp_region_any hm ?_
  have := any_of_tset (Q' := Q) (g := l.toArray.size - n) (fun listed a' w' hw' hL => by
    have := wpAny_of_seq (md := .any) (Q' := Q) (l.drop n) n listed a' w' (fun j => by simp [List.getElem?_drop]) (by rw [hdl]; exact hL.1) (hL.2 w' hw')
    rwa [hdl] at this) _ _ _ _ hd H
  rw [htl, show n + (l.toArray.size - n) = l.toArray.size by omega] at this
  exact this
def tailB1 (ops : Array Oper) (n : Nat) : Bool :=
  Region.noSelect ops && decide (n < ops.size) && decide (1 ≤ n) && sinkP .any ops 1 n && chainP .any ops n && (Region.ready .any ops (Array.replicate ops.size false)).contains 0 && Region.free .any ops (Array.replicate ops.size false) 0 &&
    Region.lexHead .any ops (ops.size - n) (n - 1) 1 ((Array.replicate ops.size false).setIfInBounds 0 true)
/-- **the same where the first operation is a move that the tail alone asks for** -/
theorem wp_region_tail1 {id : Nat} {Q : Exit → Act → World → Prop} {a : Act} {w : World} {o : Oper} {l : List Oper} (n : Nat) (x : Operand) (VC : FuncId → Array Value → Value → Prop) (hm : P.follows .mixedOrders = true) (hB : tailB1 (o :: l).toArray n = true)
    (ho : o.op = .move x) (hg : o.guard = none) (hQ : ∀ c b w, Q (.panic c) (b.put o.dst (a.eval x)) w → Q (.panic c) b w)
    (h : WSet P (o :: l).toArray (Drawn w) VC (fun a' => ∀ w', Drawn w w' → wpList P (o :: l).toArray Q ((o :: l).drop n) a' w') (l.take (n - 1)) (a.put o.dst (a.eval x))) : (Code.region id (o :: l).toArray true).wp P Q a w := by
  simp only [tailB1, Bool.and_eq_true, decide_eq_true_eq] at hB
  obtain ⟨⟨⟨⟨⟨⟨⟨hsel, hn⟩, h1n⟩, hs⟩, hc⟩, hr0⟩, hf0⟩, hlex⟩ := hB
  have hn' : n < l.length + 1 := by simpa using hn
  have htl : (l.take (n - 1)).length = n - 1 := by simp; omega
  have hdl : ((o :: l).drop n).length = (o :: l).toArray.size - n := by simp
  have gf : ∀ i, (Array.replicate (o :: l).toArray.size false).getD i false = false := fun i => by
    simp only [Array.getD_eq_getD_getElem?, Array.getElem?_replicate]; split <;> rfl
  have inv0 : HInv .any (o :: l).toArray n (Array.replicate (o :: l).toArray.size false) :=
    ⟨by simp, fun j oj _ hl => (by rw [gf] at hl; cases hl), fun t _ ht => getD_in2 (by simpa using ht) (gf t)⟩
  have hr0' : 0 ∈ Region.ready .any (o :: l).toArray (Array.replicate (o :: l).toArray.size false) := by simpa using hr0
  have hd : Drawn w { w with drawn := w.drawn + 1 } := ⟨1, rfl⟩
  have h00 : (o :: l).toArray[0]? = some o := by simp
  have H := tset_lex (VC := VC) (md := .any) (p := 1) (g := (o :: l).toArray.size - n) hd hsel hs hc hn (l.take (n - 1)) 1 ((Array.replicate (o :: l).toArray.size false).setIfInBounds 0 true) (a.put o.dst (a.eval x)) (fun j hj => by
    have hj' : j < n - 1 := by rw [htl] at hj; exact hj
    rw [List.getElem?_take, if_pos hj', Nat.add_comm 1 j]; simp) (by rw [htl]; omega) (inv0.set hr0' (by omega)) (fun j hj => by
      obtain rfl : j = 0 := by omega
      simp) (by rw [htl]; exact hlex) h
  refine wp_region_any hm ?_
  have := any_of_tset (Q' := Q) (g := (o :: l).toArray.size - n) (fun listed a' w' hw' hL => by
    have := wpAny_of_seq (md := .any) (Q' := Q) ((o :: l).drop n) n listed a' w' (fun j => by rw [List.getElem?_drop]; simp) (by rw [hdl]; exact hL.1) (hL.2 w' hw')
    rwa [hdl] at this) _ _ _ _ hd H
  rw [htl] at this
  have hsz : (o :: l).toArray.size = (n - 1 + ((o :: l).toArray.size - n)) + 1 := by omega
  rw [show (wpAny P .any (o :: l).toArray Q (o :: l).toArray.size) = wpAny P .any (o :: l).toArray Q ((n - 1 + ((o :: l).toArray.size - n)) + 1) by rw [← hsz]]
  refine wpAny_take h00 hsel hf0 hr0 hQ (.inl ⟨by simp [Region.wanted, hg], fun w => ?_⟩) this
  simp [execOp, ho]

/-- the region at that class -/
theorem wp_region_drawn {id : Nat} {Q : Exit → Act → World → Prop} {a : Act} {w : World} {l : List Oper} (VC : FuncId → Array Value → Value → Prop) (hm : P.follows .mixedOrders = true) (hB : Region.lexB .any l.toArray = true)
    (h : WSet P l.toArray (Drawn w) VC (fun a' => ∀ w', Drawn w w' → Q .normal a' w') l a) : (Code.region id l.toArray true).wp P Q a w :=
  wp_region_set (Drawn w) VC hm hB ⟨1, rfl⟩ h
end
end Go.Proofs.Ytnhikdjljjemlaa
/- What copying, comparing, marking slices of numbers does. No condition. -/
namespace Go.Proofs.Ytnhikdjljjemlaa
open Go Go.RowKit
set_option linter.unusedVariables false
theorem F32s.below {w w' : World} {ad : Option Addr} {cap : Nat} {xs : List Nat} (h : F32s w ad cap xs) (hb : Below w.heap.size w w') : F32s w' ad cap xs := ⟨h.len, h.cap, h.rd.below hb (Nat.le_refl _), h.lt⟩
theorem Ints.below {k : IntKind} {w w' : World} {ad : Option Addr} {cap : Nat} {xs : List Int} (h : Ints k w ad cap xs) (hb : Below w.heap.size w w') : Ints k w' ad cap xs := ⟨h.len, h.cap, h.rd.below hb (Nat.le_refl _), h.wf⟩
theorem F32s.of_owns {w : World} {base n cap : Nat} {e : TypeId} {ad : Option Addr} {xs : List Nat} (h : w.ownsRow base e 1 (.slice ad n cap) n (xs.map (Value.float .f32))) (hx : ∀ x ∈ xs, x < 4294967296) : n = xs.length ∧ F32s w ad cap xs := by
  obtain ⟨ad', cap', e1, e2, e3, e4, _⟩ := Rd.of_owns h
  cases e1
  have hl : n = xs.length := by have := h.1; simpa using this.symm
  exact ⟨hl, by omega, e3, e4, hx⟩
theorem Ints.of_owns {k : IntKind} {w : World} {base n cap : Nat} {e : TypeId} {ad : Option Addr} {xs : List Int} (h : w.ownsRow base e 1 (.slice ad n cap) n (xs.map (Value.int k))) (hx : ∀ x ∈ xs, (Lit.int k x).wf = true) : n = xs.length ∧ Ints k w ad cap xs := by
  obtain ⟨ad', cap', e1, e2, e3, e4, _⟩ := Rd.of_owns h
  cases e1
  have hl : n = xs.length := by have := h.1; simpa using this.symm
  exact ⟨hl, by omega, e3, e4, hx⟩
/-- one number of a row, and its address -/
theorem F32s.spot {w : World} {ad : Option Addr} {cap : Nat} {xs : List Nat} (h : F32s w ad cap xs) {k : Nat} (hk : k < xs.length) : ∃ b off, ad = some ⟨b, off, none⟩ ∧ b < w.heap.size ∧ ∀ j, j < xs.length → w.cell? ⟨b, off + j, none⟩ = some (.float .f32 (xs.getD j 0)) := by
  obtain ⟨b, off, e, hb, hc⟩ := h.rd.spot (i := k) (by simpa using hk)
  refine ⟨b, off, e, hb, fun j hj => ?_⟩
  rw [hc j (by simpa using hj), List.getElem?_map, List.getElem?_eq_getElem hj, List.getD_eq_getElem?_getD, List.getElem?_eq_getElem hj]
  rfl
theorem Ints.spot {k : IntKind} {w : World} {ad : Option Addr} {cap : Nat} {xs : List Int} (h : Ints k w ad cap xs) {i : Nat} (hk : i < xs.length) : ∃ b off, ad = some ⟨b, off, none⟩ ∧ b < w.heap.size ∧ ∀ j, j < xs.length → w.cell? ⟨b, off + j, none⟩ = some (.int k (xs.getD j 0)) := by
  obtain ⟨b, off, e, hb, hc⟩ := h.rd.spot (i := i) (by simpa using hk)
  refine ⟨b, off, e, hb, fun j hj => ?_⟩
  rw [hc j (by simpa using hj), List.getElem?_map, List.getElem?_eq_getElem hj, List.getD_eq_getElem?_getD, List.getElem?_eq_getElem hj]
  rfl
/-- an element of so many cells is appended to a row of the call's own -/
theorem wp_app {P : Program} {ops : Array Oper} {rest : List Oper} {o : Oper} {a : Act} {Q : Exit → Act → World → Prop} {e : TypeId} {W : World} {cs : Array Value} (hgd : o.guard = none) (s x : Operand) (t : TypeId)
    (ho : o.op = .call { callee := .builtin .append, args := #[s, x], argTypes := #[t, t] })
    (base : Nat) (i : TypeInfo) (z : Value) (size bytes : Nat) (ht : P.underlying t = some (.slice e)) (hi : P.info? e = some i) (hz : i.zero = some z)
    (hsize : i.size = size) (hby : i.bytes = bytes) (hzs : z.cells.size = size) (hsz : 0 < size)
    (hcs : cs.size = size) (h1 : ∀ u ∈ cs.toList, u.oneCell' = true)
    (v : Value) (n : Nat) (xs : List Value) (hs : a.eval s = v) (hown : W.ownsRow base e size v n xs) (hx : a.eval x = .slice (some ⟨W.heap.size, 0, none⟩) 1 1)
    (h63 : n + 1 ≤ maxLen) (hbytes : (n + 1) * bytes ≤ 140737488355328) (hbase : base ≤ W.heap.size)
    (h : ∀ v' w', w'.ownsRow base e size v' (n + 1) (xs ++ cs.toList) → Below base W w' → base ≤ w'.heap.size → wpList P ops Q rest (a.put o.dst v') w') : wpList P ops Q (o :: rest) a (W.alloc (.cells cs e)) := by
  refine wpList_append_own (W.alloc (.cells cs e)) hgd s x t ho base e i z size bytes ht hi hz hsize hby hzs hsz v n xs hs (hown.alloc _) ⟨W.heap.size, 0, none⟩ 1 1 cs.toList hx (by simpa using hcs) ?_ h1 h63 hbytes (by simp; omega) ?_
  · intro j u hj
    rw [Addr.add_lit, World.cell?_alloc_at _ _ _ _ rfl]
    simpa using hj
  · intro v' w' h2 hg _
    refine h v' w' h2 (((Below.refl _ _).alloc hbase _).grown hg (by simp; omega) (fun j hj => (hown.lt j hj).1)) ?_
    have := hg.size
    simp at this
    omega
theorem one_cell (x : Value) (h : x.oneCell' = true) : ∀ u ∈ (#[x] : Array Value).toList, u.oneCell' = true := by
  intro u hu
  simp at hu
  rw [hu]; exact h
theorem take_set_next {α : Type} {ys zs : List α} {k : Nat} {x : α} (h : ys.take k = zs.take k) (hk : k < ys.length) (hz : zs[k]? = some x) : (ys.set k x).take (k + 1) = zs.take (k + 1) := by
  have hk2 : k < zs.length := (List.getElem?_eq_some_iff.1 hz).1
  rw [List.take_succ_eq_append_getElem (by simpa using hk), List.take_succ_eq_append_getElem hk2, List.take_set, List.set_eq_of_length_le (by simp; omega), h]
  simp [List.getElem?_eq_some_iff.1 hz |>.2]
/-- the numbers with which a list is marked -/
def markF (k0 n : Nat) : List Nat := (List.range n).map fun i => floatOfInt .f32 (k0 + i : Nat)
theorem markF_lt (k0 n : Nat) : ∀ x ∈ markF k0 n, x < 4294967296 := by
  intro x hx
  obtain ⟨i, _, rfl⟩ := List.mem_map.1 hx
  exact FloatKind.f32.format.nearest_lt _ _ _
theorem markF_length (k0 n : Nat) : (markF k0 n).length = n := by simp [markF]
/-- a row of the call's own, with the bounds of its block -/
structure Row (w : World) (e : TypeId) (size lo hi : Nat) (v : Value) (n : Nat) (cs : List Value) : Prop where
  own : w.ownsRow lo e size v n cs
  top : ∀ k, v.ownBlock = some k → k < hi
theorem Row.mk' {w : World} {e : TypeId} {size lo : Nat} {v : Value} {n : Nat} {cs : List Value} (h : w.ownsRow lo e size v n cs) : Row w e size lo w.heap.size v n cs := ⟨h, fun k hk => (h.lt k hk).2⟩
theorem owns_below {w w' : World} {e : TypeId} {size lo : Nat} {v : Value} {n : Nat} {cs : List Value} (h : w.ownsRow lo e size v n cs) (hb : Below w.heap.size w w') : w'.ownsRow lo e size v n cs := by
  refine ⟨h.1, ?_⟩
  rcases h.2 with h2 | ⟨g, cap, cur, hv, hg, hh, r⟩
  · exact .inl h2
  · exact .inr ⟨g, cap, cur, hv, hg, by rw [hb.block g (Array.getElem?_eq_some_iff.1 hh).1]; exact hh, r⟩
theorem Row.below {w w' : World} {e : TypeId} {size lo hi : Nat} {v : Value} {n : Nat} {cs : List Value} (h : Row w e size lo hi v n cs) (hb : Below w.heap.size w w') : Row w' e size lo hi v n cs := ⟨owns_below h.own hb, h.top⟩
/-- another row is written -/
theorem Row.other {w w' : World} {e e2 : TypeId} {size size2 lo hi lo2 hi2 : Nat} {v v2 : Value} {n n2 : Nat} {cs cs2 : List Value} (h : Row w e size lo hi v n cs) (h2 : Row w e2 size2 lo2 hi2 v2 n2 cs2) (hg : w.grownBy w' v2.ownBlock) (hd : hi ≤ lo2 ∨ hi2 ≤ lo) : Row w' e size lo hi v n cs := by
  refine ⟨h.own.kept hg ?_, h.top⟩
  cases hv : v.ownBlock with
  | none => exact .inl rfl
  | some g =>
    right
    intro e3
    have h3 := (h2.own.lt g e3.symm).1
    have h4 := h2.top g e3.symm
    have h5 := (h.own.lt g hv).1
    have h6 := h.top g hv
    omega
theorem Row.form {w : World} {e : TypeId} {size lo hi : Nat} {v : Value} {n : Nat} {cs : List Value} (h : Row w e size lo hi v n cs) : ∃ ad cap, v = .slice ad n cap := by
  obtain ⟨ad, cap, e1, _⟩ := Rd.of_owns h.own
  exact ⟨ad, cap, e1⟩
theorem Row.f32s {w : World} {e : TypeId} {lo hi n cap : Nat} {ad : Option Addr} {xs : List Nat} (h : Row w e 1 lo hi (.slice ad n cap) n (xs.map (Value.float .f32))) (hx : ∀ x ∈ xs, x < 4294967296) : F32s w ad cap xs := (F32s.of_owns h.own hx).2
theorem Row.nil (w : World) (e : TypeId) (lo hi : Nat) : Row w e 1 lo hi (.slice none 0 0) 0 [] := ⟨World.ownsRow_nil _ _ _ _, fun k hk => by cases hk⟩
/-- behind a mark of a row of the call's own -/
theorem below_mark {w0 w w' : World} {e : TypeId} {size lo hi : Nat} {v : Value} {n : Nat} {cs : List Value} (hb : Below w0.heap.size w0 w) (h : Row w e size lo hi v n cs) (hl : w0.heap.size ≤ lo) (hg : w.grownBy w' v.ownBlock) : Below w0.heap.size w0 w' :=
  hb.grown hg hb.size (fun k hk => Nat.le_trans hl (h.own.lt k hk).1)
theorem F32s.marked {w0 w w' : World} {e : TypeId} {size lo hi : Nat} {v : Value} {n : Nat} {cs : List Value} {ad : Option Addr} {cap : Nat} {xs : List Nat} (h0 : F32s w0 ad cap xs) (hb : Below w0.heap.size w0 w') : F32s w' ad cap xs := h0.below hb
theorem info_f32 : (Try.prog.info? 24).map (fun i => (i.zero, i.size, i.bytes)) = some (some (.float .f32 0), 1, 4) := by kernel_rfl
theorem info_i64 : (Try.prog.info? 2).map (fun i => (i.zero, i.size, i.bytes)) = some (some (.int .i64 0), 1, 8) := by kernel_rfl
/-- blocks from 'lo' up to 'hi' alone have been written, and new ones laid -/
structure Touch (lo hi : Nat) (w w' : World) : Prop where
  os : w'.os = w.os
  tape : w'.tape = w.tape
  output : w'.output = w.output
  size : w.heap.size ≤ w'.heap.size
  block : ∀ k, k < w.heap.size → (k < lo ∨ hi ≤ k) → w'.heap[k]? = w.heap[k]?
theorem Touch.of_grown {w w' : World} {e : TypeId} {size lo hi : Nat} {v : Value} {n : Nat} {cs : List Value} (h : Row w e size lo hi v n cs) (hg : w.grownBy w' v.ownBlock) : Touch lo hi w w' :=
  ⟨hg.os, hg.tape, hg.output, hg.size, fun k hk hd => hg.block k hk fun e3 => by have h3 := (h.own.lt k e3.symm).1; have h4 := h.top k e3.symm; omega⟩
theorem Touch.of_below {lo hi : Nat} {w w' : World} (h : Below w.heap.size w w') : Touch lo hi w w' := ⟨h.os, h.tape, h.output, h.size, fun k hk _ => h.block k hk⟩
theorem Touch.refl (lo hi : Nat) (w : World) : Touch lo hi w w := ⟨rfl, rfl, rfl, Nat.le_refl _, fun _ _ _ => rfl⟩
theorem Touch.trans {lo hi : Nat} {a b c : World} (h : Touch lo hi a b) (k : Touch lo hi b c) : Touch lo hi a c :=
  ⟨k.os.trans h.os, k.tape.trans h.tape, k.output.trans h.output, Nat.le_trans h.size k.size, fun i hi hd => (k.block i (Nat.lt_of_lt_of_le hi h.size) hd).trans (h.block i hi hd)⟩
theorem Touch.mono {lo hi lo' hi' : Nat} {a b : World} (h : Touch lo hi a b) (h1 : lo' ≤ lo) (h2 : hi ≤ hi') : Touch lo' hi' a b := ⟨h.os, h.tape, h.output, h.size, fun k hk hd => h.block k hk (by omega)⟩
/-- what the call owns is written: what lay there before is as it was -/
theorem touch_below {w0 w w' : World} {lo hi : Nat} (hb : Below w0.heap.size w0 w) (ht : Touch lo hi w w') (hl : w0.heap.size ≤ lo) : Below w0.heap.size w0 w' :=
  hb.trans ⟨ht.os, ht.tape, ht.output, ht.size, fun k hk => ht.block k (Nat.lt_of_lt_of_le hk hb.size) (.inl (by omega))⟩
theorem Row.touch {w w' : World} {e : TypeId} {size lo hi lo2 hi2 : Nat} {v : Value} {n : Nat} {cs : List Value} (h : Row w e size lo hi v n cs) (ht : Touch lo2 hi2 w w') (hd : hi ≤ lo2 ∨ hi2 ≤ lo) : Row w' e size lo hi v n cs := by
  refine ⟨⟨h.own.1, ?_⟩, h.top⟩
  rcases h.own.2 with h2 | ⟨g, cap, cur, hv, hg, hh, r⟩
  · exact .inl h2
  · have h4 := h.top g (by rw [hv]; rfl)
    exact .inr ⟨g, cap, cur, hv, hg, by rw [ht.block g (Array.getElem?_eq_some_iff.1 hh).1 (by omega)]; exact hh, r⟩
theorem Row.bounds {w : World} {e : TypeId} {size lo hi lo' hi' : Nat} {v : Value} {n : Nat} {cs : List Value} (h : Row w e size lo hi v n cs) (h1 : lo' ≤ lo) (h2 : hi ≤ hi') : Row w e size lo' hi' v n cs :=
  ⟨Joins.ownsRow_le h.own h1, fun k hk => Nat.lt_of_lt_of_le (h.top k hk) h2⟩
/-- a slice of 32-bit numbers that the call owns -/
structure RepF (w : World) (lo hi : Nat) (ad : Option Addr) (n cap : Nat) (xs : List Nat) : Prop where
  row : Row w 24 1 lo hi (.slice ad n cap) n (xs.map (Value.float .f32))
  len : xs.length = n
  lt : ∀ x ∈ xs, x < 4294967296
theorem RepF.arg {w : World} {lo hi : Nat} {ad : Option Addr} {n cap : Nat} {xs : List Nat} (h : RepF w lo hi ad n cap xs) : F32s w ad cap xs := (F32s.of_owns h.row.own h.lt).2
theorem RepF.below {w w' : World} {lo hi : Nat} {ad : Option Addr} {n cap : Nat} {xs : List Nat} (h : RepF w lo hi ad n cap xs) (hb : Below w.heap.size w w') : RepF w' lo hi ad n cap xs := ⟨h.row.below hb, h.len, h.lt⟩
theorem RepF.touch {w w' : World} {lo hi lo2 hi2 : Nat} {ad : Option Addr} {n cap : Nat} {xs : List Nat} (h : RepF w lo hi ad n cap xs) (ht : Touch lo2 hi2 w w') (hd : hi ≤ lo2 ∨ hi2 ≤ lo) : RepF w' lo hi ad n cap xs := ⟨h.row.touch ht hd, h.len, h.lt⟩
theorem RepF.bounds {w : World} {lo hi lo' hi' : Nat} {ad : Option Addr} {n cap : Nat} {xs : List Nat} (h : RepF w lo hi ad n cap xs) (h1 : lo' ≤ lo) (h2 : hi ≤ hi') : RepF w lo' hi' ad n cap xs := ⟨h.row.bounds h1 h2, h.len, h.lt⟩
theorem RepF.nil (w : World) (lo hi : Nat) : RepF w lo hi none 0 0 [] := ⟨Row.nil _ _ _ _, rfl, fun x hx => nomatch hx⟩
theorem RepF.of_owns {w : World} {lo : Nat} {v : Value} {n : Nat} {xs : List Nat} (h : w.ownsRow lo 24 1 v n (xs.map (Value.float .f32))) (hx : ∀ x ∈ xs, x < 4294967296) : ∃ ad cap, v = .slice ad n cap ∧ RepF w lo w.heap.size ad n cap xs := by
  obtain ⟨ad, cap, rfl, _⟩ := Rd.of_owns h
  exact ⟨ad, cap, rfl, Row.mk' h, by have := h.1; simpa using this, hx⟩
end Go.Proofs.Ytnhikdjljjemlaa
/- What copying, comparing, marking slices of integers does. No condition. -/
namespace Go.Proofs.Ytnhikdjljjemlaa
open Go Go.RowKit
set_option linter.unusedVariables false
set_option linter.unusedSimpArgs false
/-- the integers with which a list is marked -/
def markI (k0 n : Nat) : List Int := (List.range n).map fun i => ((k0 + i : Nat) : Int)
theorem markI_lt (k0 n : Nat) (h : k0 + n ≤ 1000000000) : ∀ x ∈ markI k0 n, (Lit.int .i64 x).wf = true := by
  intro x hx
  obtain ⟨i, hi, rfl⟩ := List.mem_map.1 hx
  have := List.mem_range.1 hi
  simp [Lit.wf, IntKind.min, IntKind.max, IntKind.signed, IntKind.bits]
  omega
theorem markI_length (k0 n : Nat) : (markI k0 n).length = n := by simp [markI]
/-- a slice of integers that the call owns -/
structure RepI (w : World) (lo hi : Nat) (ad : Option Addr) (n cap : Nat) (xs : List Int) : Prop where
  row : Row w 2 1 lo hi (.slice ad n cap) n (xs.map (Value.int .i64))
  len : xs.length = n
  lt : ∀ x ∈ xs, (Lit.int .i64 x).wf = true
theorem RepI.arg {w : World} {lo hi : Nat} {ad : Option Addr} {n cap : Nat} {xs : List Int} (h : RepI w lo hi ad n cap xs) : Ints .i64 w ad cap xs := (Ints.of_owns h.row.own h.lt).2
theorem RepI.below {w w' : World} {lo hi : Nat} {ad : Option Addr} {n cap : Nat} {xs : List Int} (h : RepI w lo hi ad n cap xs) (hb : Below w.heap.size w w') : RepI w' lo hi ad n cap xs := ⟨h.row.below hb, h.len, h.lt⟩
theorem RepI.touch {w w' : World} {lo hi lo2 hi2 : Nat} {ad : Option Addr} {n cap : Nat} {xs : List Int} (h : RepI w lo hi ad n cap xs) (ht : Touch lo2 hi2 w w') (hd : hi ≤ lo2 ∨ hi2 ≤ lo) : RepI w' lo hi ad n cap xs := ⟨h.row.touch ht hd, h.len, h.lt⟩
theorem RepI.bounds {w : World} {lo hi lo' hi' : Nat} {ad : Option Addr} {n cap : Nat} {xs : List Int} (h : RepI w lo hi ad n cap xs) (h1 : lo' ≤ lo) (h2 : hi ≤ hi') : RepI w lo' hi' ad n cap xs := ⟨h.row.bounds h1 h2, h.len, h.lt⟩
theorem RepI.nil (w : World) (lo hi : Nat) : RepI w lo hi none 0 0 [] := ⟨Row.nil _ _ _ _, rfl, fun x hx => nomatch hx⟩
theorem RepI.of_owns {w : World} {lo : Nat} {v : Value} {n : Nat} {xs : List Int} (h : w.ownsRow lo 2 1 v n (xs.map (Value.int .i64))) (hx : ∀ x ∈ xs, (Lit.int .i64 x).wf = true) : ∃ ad cap, v = .slice ad n cap ∧ RepI w lo w.heap.size ad n cap xs := by
  obtain ⟨ad, cap, rfl, _⟩ := Rd.of_owns h
  exact ⟨ad, cap, rfl, Row.mk' h, by have := h.1; simpa using this, hx⟩
end Go.Proofs.Ytnhikdjljjemlaa
/- What codes, spreads and finite numbers are. No condition. -/
namespace Go.Proofs.Ytnhikdjljjemlaa
open Go Go.RowKit Ieee
set_option linter.unusedVariables false
set_option linter.unusedSimpArgs false
/-- a finite number -/
def finB (x : Nat) : Bool := match single.read x with
  | .number .. => true
  | _ => false
theorem finB_not {x : Nat} (h : finB x = true) : isN .f32 x = false := by
  unfold finB at h
  unfold isN
  show (single.read x).isNaN = false
  cases hd : single.read x with
  | nan s t => rw [hd] at h; cases h
  | infinity s => rw [hd] at h; cases h
  | number s m p => rfl
theorem sub_self_fin {x : Nat} (h : finB x = true) : floatBits .sub .f32 x x = some 0 := by
  show ((single.read x).sum (single.read x).opposite).map single.write = some 0
  unfold finB at h
  cases hd : single.read x with
  | nan s t => rw [hd] at h; cases h
  | infinity s => rw [hd] at h; cases h
  | number s m p =>
    have hs : ∀ k, signed s m k + signed (!s) m k = 0 := by intro k; unfold signed; cases s <;> simp <;> omega
    simp only [Datum.sum, Datum.opposite, hs, Option.map_some]
    cases s <;> simp [Format.write, Format.nearest, Format.word]
theorem sub_self_not {x : Nat} (h : finB x = false) : floatBits .sub .f32 x x = none := by
  show ((single.read x).sum (single.read x).opposite).map single.write = none
  unfold finB at h
  cases hd : single.read x with
  | nan s t => rfl
  | infinity s => cases s <;> rfl
  | number s m p => rw [hd] at h; cases h
/-- 'x - x == 0' -/
theorem order_sub_self (x : Nat) (w : World) : (FloatKind.f32.format.order (fbits .sub .f32 x x w) 0 == some .eq) = finB x := by
  cases h : finB x
  · have hn : isN .f32 (fbits .sub .f32 x x w) = true := by
      unfold fbits
      rw [sub_self_not h]
      exact drawn_nan .f32 x x _
    rw [order_none (.inl hn)]; rfl
  · rw [fbits_some (sub_self_fin h)]
    have : FloatKind.f32.format.order 0 0 = some .eq := by decide +kernel
    rw [this]; rfl
def geF (x y : Nat) : Bool := FloatKind.f32.format.order x y == some .gt || FloatKind.f32.format.order x y == some .eq
def spreadOk (x : Nat) : Bool := finB x && geF x 0 && decide (x ≠ 2147483648)
def codesOk (xs : List Int) : Bool := decide (xs.length ≤ 256) && xs.all fun n => inB n (-127) 127
def fewFin (xs : List Nat) : Bool := decide (xs.length ≤ 256) && xs.all finB
theorem few_of {xs : List Nat} (h : fewFin xs = true) : xs.length ≤ 256 ∧ ∀ x ∈ xs, finB x = true := by
  simp only [fewFin, Bool.and_eq_true, decide_eq_true_eq, List.all_eq_true] at h; exact h

/-- the sign of a number made wider -/
theorem cv_number {k k2 : FloatKind} {b : Nat} {s : Bool} {m : Nat} {e : Int} (hd : k.decode b = .number s m e) (hne : k ≠ k2) (hi : cvWide k b k2 = false) (w : World) : cvbits k b k2 w = k2.format.nearest s m e := by
  unfold cvWide at hi
  rw [if_neg hne, hd] at hi
  simp only at hi
  unfold cvbits
  rw [if_neg hne, hd]
  simp only
  rw [hi]
  rfl
theorem fin_rung {neg : Bool} {r : Nat} (hr : r < single.signWeight) (hf : finB (single.word neg r) = true) : r < single.infRung := by
  rcases Nat.lt_trichotomy r single.infRung with h | h | h
  · exact h
  · subst h; unfold finB at hf; rw [read_inf single single_binade neg] at hf; cases hf
  · have hn : isN .f32 (single.word neg r) = true := nan_word single single_binade neg h hr
    rw [finB_not hf] at hn; cases hn
theorem word_sign (f : Format) (neg : Bool) {r : Nat} (h : r < f.signWeight) : decide (f.word neg r < f.signWeight) = !neg := by
  unfold Format.word
  cases neg
  · simpa using h
  · simp
theorem wide_sign {x : Nat} (hx : x < 4294967296) (hf : finB x = true) (w : World) : (decide (cvbits .f32 x .f64 w < 9223372036854775808) = decide (x < 2147483648)) := by
  have hsw : single.signWeight = 2147483648 := by decide +kernel
  have hdw : double.signWeight = 9223372036854775808 := by decide +kernel
  obtain ⟨neg, r, rfl, hr⟩ := word_of single (x := x) (by rw [hsw]; omega)
  obtain ⟨m, p, e1, _, _⟩ := read_fin single neg (fin_rung hr hf)
  rw [cv_number (k := .f32) (k2 := .f64) e1 (by decide) (wide_ok _) w]
  obtain ⟨q, hq, hle⟩ := nearest_word double neg m p
  rw [show FloatKind.f64.format.nearest neg m p = _ from hq, ← hdw, ← hsw, word_sign single neg hr, word_sign double neg (Nat.lt_of_le_of_lt hle double.infRung_lt)]
theorem cv64_lt (x : Nat) (w : World) : cvbits .f32 x .f64 w < 18446744073709551616 := by
  by_cases hN : ∃ s m e, FloatKind.f32.decode x = .number s m e
  · obtain ⟨s, m, e, hd⟩ := hN
    rw [cv_number (k := .f32) (k2 := .f64) hd (by decide) (wide_ok _) w]
    obtain ⟨q, hq, hle⟩ := nearest_word double s m e
    rw [show FloatKind.f64.format.nearest s m e = _ from hq]
    have hdw : double.signWeight = 9223372036854775808 := by decide +kernel
    have := double.infRung_lt
    unfold Format.word
    rw [hdw]
    rw [hdw] at this
    cases s
    · simp only [Bool.false_eq_true, if_false]; omega
    · simp only [if_true]; omega
  · unfold cvbits
    rw [if_neg (by decide)]
    cases hd : FloatKind.f32.decode x with
    | nan s t => exact drawn_lt .f64 0 0 _
    | infinity s => show FloatKind.f64.encode (.infinity s) < _; cases s <;> decide +kernel
    | number s m e => exact absurd ⟨s, m, e, hd⟩ hN
/-- a number that is not less than 0 has a sign only if it is -0 -/
theorem ge_zero_sign {x : Nat} (hx : x < 4294967296) (hg : geF x 0 = true) : decide (x < 2147483648) = decide (x ≠ 2147483648) := by
  obtain ⟨neg, r, rfl, hr⟩ := word_of single (x := x) (by have : single.signWeight = 2147483648 := by decide +kernel
                                                          omega)
  have hsw : single.signWeight = 2147483648 := by decide +kernel
  cases neg
  · have : single.word false r = r := rfl
    rw [this]; rw [hsw] at hr
    rw [decide_eq_true (by omega), decide_eq_true (by omega)]
  · have e : single.word true r = 2147483648 + r := by unfold Format.word; rw [hsw]; rfl
    have h0 : r = 0 := by
      rcases Nat.lt_trichotomy r single.infRung with h | h | h
      · have ho := order_fin single true false h (y := 0) (by decide +kernel)
        unfold geF at hg
        rw [show FloatKind.f32.format.order (single.word true r) 0 = _ from ho] at hg
        simp only [sval, if_true, Bool.false_eq_true, if_false, nval_zero] at hg
        rcases Nat.eq_zero_or_pos r with h1 | h1
        · exact h1
        · exfalso
          have hp : 0 < nval single r := by have := nval_lt (f := single) h1; rw [nval_zero] at this; exact this
          have hlt : -(nval single r : Int) < 0 := by omega
          rw [show compare (-(nval single r : Int)) ((0 : Nat) : Int) = .lt from by simp [compare, compareOfLessAndEq]; omega] at hg
          simp at hg
      · exfalso
        subst h
        unfold geF at hg
        have e1 := read_inf single single_binade true
        have e2 : single.read 0 = .number false 0 (-149) := by decide +kernel
        rw [show FloatKind.f32.format.order (single.word true single.infRung) 0 = (single.read (single.word true single.infRung)).order (single.read 0) from rfl, e1, e2] at hg
        simp [Datum.order] at hg
      · exfalso
        have hn : isN .f32 (single.word true r) = true := nan_word single single_binade true h hr
        unfold geF at hg
        rw [order_none (.inl hn)] at hg
        simp at hg
    rw [e, h0]
    rw [decide_eq_false (by omega), decide_eq_false (by omega)]
theorem impl_IsFinite (x : Nat) (w : World) : Calls Try.prog 20 #[.float .f32 x] w fun e w' => e = .returned (.bool (finB x)) ∧ Dr w w' := by
  have h := fun w => order_sub_self x w
  go_enter Try.func20, Try.ntmps20
  go_wp2
  go_ret
  exact ⟨rfl, _, rfl⟩
theorem spec_l01Finite (x : Nat) (w : World) : Calls Try.prog 58 #[.float .f32 x] w fun e w' => e = .returned (.bool (finB x)) ∧ Dr w w' := by
  have h := fun w => order_sub_self x w
  go_enter Try.func58, Try.ntmps58
  go_wp2
  go_ret
  exact ⟨rfl, _, rfl⟩
theorem run_f64bits (x : Nat) (w : World) : (callFunc 86 #[.float .f64 x]).run Try.prog w = .ok (.value (.int .u64 (x : Nat))) w := by
  rw [run_callFunc_extern (show Try.prog.funcs[86]? = some Try.f86 by kernel_rfl) (by kernel_rfl) (by kernel_rfl) (by kernel_rfl) (e := Extern.MathFloatBits.float64bits) (by kernel_rfl)]
  rfl
theorem run_f32bits (x : Nat) (w : World) : (callFunc 90 #[.float .f32 x]).run Try.prog w = .ok (.value (.int .u32 (x : Nat))) w := by
  rw [run_callFunc_extern (show Try.prog.funcs[90]? = some Try.f90 by kernel_rfl) (by kernel_rfl) (by kernel_rfl) (by kernel_rfl) (e := Extern.MathFloatBits.float32bits) (by kernel_rfl)]
  rfl
theorem math_Signbit (b : Nat) (hb : b < 18446744073709551616) (w : World) : Calls Try.prog 54 #[.float .f64 b] w fun e w' => e = .returned (.bool !(decide (b < 9223372036854775808))) ∧ w = w' := by
  have hd := run_f64bits
  by_cases hs : b < 9223372036854775808
  · rw [decide_eq_true hs]
    go_enter Try.func54, Try.ntmps54
    go_wp2
    go_ret
    exact ⟨by rw [decide_eq_false (show ¬ ((b : Int) < 0) by omega)]; rfl, rfl⟩
  · rw [decide_eq_false hs]
    have hw : wrap64 (b : Int) < 0 := by unfold wrap64; omega
    go_enter Try.func54, Try.ntmps54
    go_wp2
    go_ret
    exact ⟨rfl, rfl⟩
theorem spec_l01Bits (x : Nat) (hx : x < 4294967296) (w : World) : Calls Try.prog 57 #[.float .f32 x] w fun e w' => e = .returned (.int .i64 (cn .f32 x : Nat)) ∧ w = w' := by
  have hd := run_f32bits
  cases h : isN .f32 x
  · have ho : FloatKind.f32.format.order x x = some .eq := by rw [order_self, h]; rfl
    rw [cn_not h]
    clear h
    go_enter Try.func57, Try.ntmps57
    go_wp2
    go_ret
    exact ⟨rfl, rfl⟩
  · have ho : FloatKind.f32.format.order x x = none := by rw [order_self, h]; rfl
    rw [cn_nan h]
    clear h
    go_enter Try.func57, Try.ntmps57
    go_wp2
    go_ret
    exact ⟨rfl, rfl⟩
theorem impl_isSpread (x : Nat) (hx : x < 4294967296) (w : World) : Calls Try.prog 68 #[.float .f32 x] w fun e w' => e = .returned (.bool (spreadOk x)) ∧ Dr w w' := by
  unfold spreadOk
  cases h1 : finB x
  · go_enter Try.func68, Try.ntmps68
    go_wp2_with (go_at_call 20; refine (impl_IsFinite _ _).mono ?_; rintro e w' ⟨rfl, ⟨q, rfl⟩⟩)
    go_ret
    exact ⟨rfl, _, rfl⟩
  · cases h2 : geF x 0
    · have h2' := h2
      unfold geF at h2'
      simp only [Bool.or_eq_false_iff] at h2'
      obtain ⟨o1, o2⟩ := h2'
      go_enter Try.func68, Try.ntmps68
      go_wp2_with (go_at_call 20; refine (impl_IsFinite _ _).mono ?_; rintro e w' ⟨rfl, ⟨q, rfl⟩⟩)
      go_ret
      exact ⟨by simp_all, _, rfl⟩
    · have h3 := ge_zero_sign hx h2
      have h4 := fun w => wide_sign hx h1 w
      have h5 := fun w => cv64_lt x w
      have h2' := h2
      unfold geF at h2'
      have H2 := Lib.hid h2; have H3 := Lib.hid h3; have H4 := Lib.hid h4; clear h3 h4 h2
      go_enter Try.func68, Try.ntmps68
      go_wp2_with (first | (go_at_call 20; refine (impl_IsFinite _ _).mono ?_; rintro e w' ⟨rfl, ⟨q, rfl⟩⟩) | (go_at_call 54; refine (math_Signbit _ (h5 _) _).mono ?_; rintro e w' ⟨rfl, rfl⟩))
      go_ret
      refine ⟨?_, _, rfl⟩
      have h4 := H4.out; have h3 := H3.out
      rw [h4, h3]
      simp
theorem impl_areCodes_1 (n : Int) (w : World) : Calls Try.prog 96 #[.int .i64 n] w fun e w' => e = .returned (.bool !(inB n (-127) 127)) ∧ w = w' := by
  go_enter Try.func96, Try.ntmps96
  go_wp2_with (go_at_call 40; refine (within_any _ _ _ _).mono ?_; rintro e w' ⟨rfl, rfl⟩)
  go_ret
  exact ⟨rfl, rfl⟩
/-- an index that is not negative exactly if some element holds -/
def IdxPost (p : Int → Bool) (xs : List Int) (w : World) (e : Ending) (w' : World) : Prop := ∃ i : Int, e = .returned (.int .i64 i) ∧ decide (0 ≤ i) = xs.any p ∧ w = w'
theorem idx_codes (w : World) (ad : Option Addr) (cap : Nat) (xs : List Int) (h : Ints .i64 w ad cap xs) (hn : xs.length ≤ 1048576) :
    Calls Try.prog 93 #[.slice ad xs.length cap, .func (.func 96) #[] #[]] w (IdxPost (fun n => !(inB n (-127) 127)) xs w) := by
  obtain ⟨n, hN⟩ : ∃ n, n = xs.length := ⟨_, rfl⟩
  rw [← hN] at hn ⊢
  have HN := Lib.hid hN; clear hN
  go_enter Try.func93, Try.ntmps93
  go_wp2
  go_loop [8] (fun i => ∃ k : Nat, i = .int .i64 k ∧ k ≤ n ∧ (xs.take k).any (fun n => !(inB n (-127) 127)) = false) (fun i => n - (intOf i).toNat)
  case atStart => exact ⟨0, rfl, Nat.zero_le _, rfl⟩
  case round =>
    obtain ⟨k, rfl, hk, hno⟩ := hrel
    have HO := Lib.hid hno; clear hno
    by_cases hlt : k < n
    · have hkx : k < xs.length := by rw [← HN.out]; exact hlt
      obtain ⟨b, off, rfl, _, hc⟩ := h.spot (i := k) hkx
      have hc1 := hc k hkx
      obtain ⟨x, hx⟩ : ∃ x, x = xs.getD k 0 := ⟨_, rfl⟩
      rw [← hx] at hc1
      have HX := Lib.hid hx; clear hx hc
      cases hb : inB x (-127) 127
      · go_wp2_with (go_at_call 96; refine (impl_areCodes_1 _ _).mono ?_; rintro e w' ⟨rfl, rfl⟩)
        go_ret
        refine ⟨k, rfl, ?_, rfl⟩
        have : (xs.any fun n => !(inB n (-127) 127)) = true := by
          rw [List.any_eq_true]
          exact ⟨xs.getD k 0, by rw [List.getD_eq_getElem?_getD, List.getElem?_eq_getElem hkx]; exact List.getElem_mem hkx, by rw [← HX.out, hb]; rfl⟩
        rw [this]; simp
      · go_wp2_with (go_at_call 96; refine (impl_areCodes_1 _ _).mono ?_; rintro e w' ⟨rfl, rfl⟩)
        go_round
        case rel =>
          refine ⟨k + 1, by go_num, hlt, ?_⟩
          rw [List.take_succ_eq_append_getElem hkx, List.any_append, HO.out]
          have : xs[k] = x := by rw [HX.out, List.getD_eq_getElem?_getD, List.getElem?_eq_getElem hkx]; rfl
          simp [this, hb]
        case measure => simp [intOf]; omega
    · have hkn : k = n := by omega
      subst hkn
      go_wp2
      go_ret
      refine ⟨-1, rfl, ?_, rfl⟩
      have := HO.out
      rw [HN.out, List.take_length] at this
      rw [this]; rfl
theorem contains_codes (w : World) (ad : Option Addr) (cap : Nat) (xs : List Int) (h : Ints .i64 w ad cap xs) (hn : xs.length ≤ 1048576) :
    Calls Try.prog 72 #[.slice ad xs.length cap, .func (.func 96) #[] #[]] w fun e w' => e = .returned (.bool (xs.any (fun n => !(inB n (-127) 127)))) ∧ w = w' := by
  have hc := idx_codes w ad cap xs h hn
  have HC := Lib.hid hc; clear hc
  go_enter Try.func72, Try.ntmps72
  go_wp2_with fail
  refine HC.out.mono ?_
  rintro e w' ⟨i, rfl, hi, rfl⟩
  have HI := Lib.hid hi; clear hi
  go_wp2
  go_ret
  exact ⟨by rw [← HI.out]; rfl, rfl⟩
theorem impl_areCodes (w : World) (ad : Option Addr) (cap : Nat) (xs : List Int) (h : Ints .i64 w ad cap xs) :
    Calls Try.prog 76 #[.slice ad xs.length cap] w fun e w' => e = .returned (.bool (codesOk xs)) ∧ w = w' := by
  unfold codesOk
  by_cases hn : xs.length ≤ 256
  · rw [decide_eq_true hn]
    have hc := contains_codes w ad cap xs h (by omega)
    have HC := Lib.hid hc; clear hc
    go_enter Try.func76, Try.ntmps76
    go_wp2_with (refine HC.out.mono ?_; rintro e w' ⟨rfl, rfl⟩)
    go_ret
    exact ⟨by simp [List.all_eq_not_any_not], rfl⟩
  · rw [decide_eq_false hn]
    go_enter Try.func76, Try.ntmps76
    go_wp2
    go_ret
    exact ⟨rfl, rfl⟩
end Go.Proofs.Ytnhikdjljjemlaa
/- Plain laws of floats, continued: the nearest bfloat. No condition. -/
namespace Go.Proofs.Ytnhikdjljjemlaa
open Go Go.RowKit Ieee
set_option linter.unusedVariables false
set_option linter.unusedSimpArgs false
theorem and_16 (N a : Nat) (hN : 16 ≤ N) (ha : a < 2 ^ N) : a &&& (2 ^ N - (65535 + 1)) = a / 65536 * 65536 := by
  have h0 : 65535 < 2 ^ N := Nat.lt_of_lt_of_le (by decide : 65535 < 2 ^ 16) (Nat.pow_le_pow_right (by decide) hN)
  have e : a / 65536 * 65536 = (a >>> 16) <<< 16 := by rw [Nat.shiftLeft_eq, Nat.shiftRight_eq_div_pow]
  rw [e]
  apply Nat.eq_of_testBit_eq
  intro i
  rw [Nat.testBit_and, Nat.testBit_two_pow_sub_succ h0, Nat.testBit_shiftLeft, Nat.testBit_shiftRight, show 65535 = 2 ^ 16 - 1 by decide, Nat.testBit_two_pow_sub_one]
  by_cases h : i < N
  · by_cases h16 : i < 16
    · have : ¬ (i ≥ 16) := by omega
      simp [h, h16, this]
    · have h2 : i ≥ 16 := by omega
      simp [h, h16, h2, show 16 + (i - 16) = i by omega]
  · have h1 : a.testBit i = false := Nat.testBit_lt_two_pow (Nat.lt_of_lt_of_le ha (Nat.pow_le_pow_right (by decide) (by omega)))
    by_cases h2 : i ≥ 16
    · simp [h1, h2, show 16 + (i - 16) = i by omega]
    · simp [h1, h2]
theorem andNot_u32 (a : Nat) (ha : a < 4294967296) : bits .andNot .u32 (a : Int) 65535 = ((a / 65536 * 65536 : Nat) : Int) := by
  have := u32_andNot_nat a 65535 ha (by decide)
  rw [show ((65535 : Nat) : Int) = 65535 from rfl] at this
  rw [this, show 4294967295 - 65535 = 2 ^ 32 - (65535 + 1) by decide, and_16 32 a (by decide) (by omega)]
theorem andNot_i64 (a : Nat) (ha : a < 4611686018427387904) : bits .andNot .i64 (a : Int) 65535 = ((a / 65536 * 65536 : Nat) : Int) := by
  show IntKind.i64.wrap ((BitVec.ofInt 64 (a : Int) &&& ~~~BitVec.ofInt 64 65535).toNat : Int) = _
  have h1 : (BitVec.ofInt 64 65535).toNat = 65535 := by decide
  have h2 : (BitVec.ofInt 64 (a : Int)).toNat = a := by
    rw [BitVec.toNat_ofInt]; omega
  rw [BitVec.toNat_and, BitVec.toNat_not, h1, h2, show 2 ^ 64 - 1 - 65535 = 2 ^ 64 - (65535 + 1) by decide, and_16 64 a (by decide) (by omega)]
  exact wrap_small _ (by omega) (by omega)
/-- the word of the nearest bfloat of a word that is no NaN -/
def bfW (x : Nat) : Nat := (x + (32767 + x / 65536 % 2)) / 65536 * 65536
def bfE (c : Nat) : Nat := if isN .f32 c = true then nanOf .f32 else cn .f32 (bfW c)
theorem not_nan_bd {x : Nat} (hx : x < 4294967296) (h : isN .f32 x = false) : x ≤ 4286578688 := by
  obtain ⟨s, r, rfl, hr⟩ := word_of single (x := x) (by rw [s_sw]; omega)
  have hle : r ≤ single.infRung := by
    rcases Nat.lt_or_ge single.infRung r with h1 | h1
    · have h2 : isN .f32 (single.word s r) = true := nan_word single single_binade s h1 hr
      rw [h] at h2; cases h2
    · exact h1
  rw [s_ir] at hle
  unfold Format.word
  rw [s_sw]
  split <;> omega
theorem bfW_lt {x : Nat} (hx : x ≤ 4286578688) : bfW x < 4294967296 ∧ x + (32767 + x / 65536 % 2) < 4294967296 := by
  unfold bfW
  omega
theorem bfW_inf {x : Nat} (h : x = 2139095040 ∨ x = 4286578688) : bfW x = x := by rcases h with h | h <;> subst h <;> decide
theorem not_fin {x : Nat} (hx : x < 4294967296) (h : finB x = false) (hn : isN .f32 x = false) : x = 2139095040 ∨ x = 4286578688 := by
  obtain ⟨s, r, rfl, hr⟩ := word_of single (x := x) (by rw [s_sw]; omega)
  have hle : r = single.infRung := by
    rcases Nat.lt_trichotomy single.infRung r with h1 | h1 | h1
    · have h2 : isN .f32 (single.word s r) = true := nan_word single single_binade s h1 hr
      rw [hn] at h2; cases h2
    · exact h1.symm
    · obtain ⟨m, p, e, _⟩ := read_fin single s h1
      unfold finB at h
      rw [e] at h; cases h
  subst hle
  cases s
  · left; exact s_ir
  · right; unfold Format.word; rw [s_sw, s_ir]; rfl
theorem and1_u32 (a : Nat) (ha : a < 4294967296) : bits .and .u32 (a : Int) 1 = ((a % 2 : Nat) : Int) := by
  have := u32_and_nat a 1 ha (by decide)
  rw [show ((1 : Nat) : Int) = 1 from rfl] at this
  rw [this, Nat.and_one_is_mod]
theorem and1_i64 (a : Nat) (ha : a < 4294967296) : bits .and .i64 (a : Int) 1 = ((a % 2 : Nat) : Int) := by
  show IntKind.i64.wrap ((BitVec.ofInt 64 (a : Int) &&& BitVec.ofInt 64 1).toNat : Int) = _
  have h1 : (BitVec.ofInt 64 1).toNat = 1 := by decide
  have h2 : (BitVec.ofInt 64 (a : Int)).toNat = a := by
    rw [BitVec.toNat_ofInt]; omega
  rw [BitVec.toNat_and, h1, h2, Nat.and_one_is_mod]
  exact wrap_small _ (by omega) (by omega)
theorem bf_u32 {x : Nat} (h : x ≤ 4286578688) : (bits .andNot .u32 (((x : Int) + (32767 + bits .and .u32 ((x : Int) / 65536) 1)) % 4294967296) 65535).toNat = bfW x := by
  have h2 := (bfW_lt h).2
  rw [show (x : Int) / 65536 = ((x / 65536 : Nat) : Int) by omega, and1_u32 _ (by omega), show ((x : Int) + (32767 + ((x / 65536 % 2 : Nat) : Int))) % 4294967296 = ((x + (32767 + x / 65536 % 2) : Nat) : Int) by omega, andNot_u32 _ h2]
  rfl
theorem bf_i64 {x : Nat} (h : x ≤ 4286578688) : bits .andNot .i64 (wrap64 ((x : Int) + wrap64 (32767 + bits .and .i64 ((x : Int) / 65536) 1))) 65535 = ((bfW x : Nat) : Int) := by
  have h2 := (bfW_lt h).2
  rw [show (x : Int) / 65536 = ((x / 65536 : Nat) : Int) by omega, and1_i64 _ (by omega), show wrap64 ((x : Int) + wrap64 (32767 + ((x / 65536 % 2 : Nat) : Int))) = ((x + (32767 + x / 65536 % 2) : Nat) : Int) by unfold wrap64; omega, andNot_i64 _ (by omega)]
  rfl
end Go.Proofs.Ytnhikdjljjemlaa
/- Plain laws of floats, continued: numbers made whole, and clamped. No condition. -/
namespace Go.Proofs.Ytnhikdjljjemlaa
open Go Go.RowKit Ieee
set_option linter.unusedVariables false
set_option linter.unusedSimpArgs false
theorem order_someK {k : FloatKind} {x y : Nat} (hx : isN k x = false) (hy : isN k y = false) : ∃ c, k.format.order x y = some c := by
  unfold isN at hx hy
  show ∃ c, (k.format.read x).order (k.format.read y) = some c
  cases h1 : k.format.read x with
  | nan s t => rw [h1] at hx; cases hx
  | infinity s =>
    cases h2 : k.format.read y with
    | nan s t => rw [h2] at hy; cases hy
    | infinity t => exact ⟨_, rfl⟩
    | number t m p => exact ⟨_, rfl⟩
  | number s m p =>
    cases h2 : k.format.read y with
    | nan s t => rw [h2] at hy; cases hy
    | infinity t => exact ⟨_, rfl⟩
    | number t m p => exact ⟨_, rfl⟩
/-- a number made whole, as a word -/
def whole (way : Toward) (x : Nat) : Nat := double.write ((double.read x).integral way)
theorem whole_arm (name : String) (way : Toward) (x : Nat) : ∃ arm : Bool → Nat → Sem Value, Extern.MathFloor.toIntegral name way #[.float .f64 x] =
    Extern.MathFloor.toIntegral.match_1 (fun _ => Sem Value) (FloatKind.f64.decode x) arm (fun d => pure (.float .f64 (FloatKind.f64.encode (d.integral way)))) := ⟨_, rfl⟩
theorem run_whole {P : Program} (name : String) (way : Toward) (w : World) (x : Nat) (hx : isN .f64 x = false) : (Extern.MathFloor.toIntegral name way #[.float .f64 x]).run P w = .ok (.float .f64 (whole way x)) w := by
  obtain ⟨arm, e⟩ := whole_arm name way x
  rw [e]
  unfold isN at hx
  unfold whole
  cases h : double.read x with
  | nan s t => rw [show FloatKind.f64.format.read x = _ from h] at hx; cases hx
  | infinity s => rw [show FloatKind.f64.decode x = _ from h]; rfl
  | number s m p => rw [show FloatKind.f64.decode x = _ from h]; rfl
theorem whole_not (way : Toward) {x : Nat} (hx : isN .f64 x = false) : isN .f64 (whole way x) = false := by
  unfold whole
  apply write_not double
  unfold isN at hx
  cases h : double.read x with
  | nan s t => rw [show FloatKind.f64.format.read x = _ from h] at hx; cases hx
  | infinity s => rfl
  | number s m p => rfl
end Go.Proofs.Ytnhikdjljjemlaa
/- Plain laws: a 64-bit number clamped and made an integer. No condition. -/
namespace Go.Proofs.Ytnhikdjljjemlaa
open Go Go.RowKit Ieee
set_option linter.unusedVariables false
set_option linter.unusedSimpArgs false
def c127 : Nat := 4638637247447433216
def cm127 : Nat := 13862009284302209024
def toI (x : Nat) : Int := ((double.read x).toInt .zero).getD 0
def clampI (x : Nat) : Int := if FloatKind.f64.format.order x c127 = some .gt then 127 else if FloatKind.f64.format.order x cm127 = some .lt then -127 else toI x
theorem read_127 : double.read c127 = .number false (127 * 2 ^ 46) (-46) := by decide +kernel
theorem read_m127 : double.read cm127 = .number true (127 * 2 ^ 46) (-46) := by decide +kernel
theorem num_127 : num false (127 * 2 ^ 46) (-46) = 127 := by decide +kernel
theorem num_m127 : num true (127 * 2 ^ 46) (-46) = -127 := by decide +kernel
theorem cut_zero_le (s : Bool) (N d : Nat) : (Toward.zero.cut s N d) * 2 ^ d ≤ N := by
  unfold Toward.cut
  simp only [Bool.toNat_false, Nat.add_zero, Nat.shiftLeft_eq, Nat.one_mul]
  by_cases h : d ≤ N.log2 + 2
  · rw [Nat.min_eq_left h]; exact Nat.div_mul_le_self _ _
  · rw [Nat.min_eq_right (by omega)]
    have : N < 2 ^ (N.log2 + 2) := Nat.lt_of_lt_of_le Nat.lt_log2_self (Nat.pow_le_pow_right (by decide) (by omega))
    rw [Nat.div_eq_of_lt this]; omega
/-- a number, as an integer towards zero -/
theorem toInt_num (s : Bool) (m : Nat) (p : Int) {B : Nat} (h1 : num s m p ≤ (B : Rat)) (h2 : -(B : Rat) ≤ num s m p) : ∃ n, (Datum.number s m p).toInt .zero = some n ∧ -(B : Int) ≤ n ∧ n ≤ B := by
  have hL := cut_zero_le s (m <<< p.toNat) (-p).toNat
  obtain ⟨L, hLe⟩ : ∃ L, L = Toward.zero.cut s (m <<< p.toNat) (-p).toNat := ⟨_, rfl⟩
  rw [← hLe] at hL
  have key : (m : Rat) * (2 : Rat) ^ p ≤ B := by
    unfold num sg at h1 h2
    cases s
    · simp at h1; exact h1
    · simp at h2; grind
  have e : (2 : Rat) ^ p * ((2 ^ (-p).toNat : Nat) : Rat) = ((2 ^ p.toNat : Nat) : Rat) := by
    rw [← pw_nat, ← pw_nat, ← pw_add]; congr 1; omega
  have hb : L ≤ B := by
    have h3 : (L : Rat) * ((2 ^ (-p).toNat : Nat) : Rat) ≤ (B : Rat) * ((2 ^ (-p).toNat : Nat) : Rat) := by
      have h4 : ((L * 2 ^ (-p).toNat : Nat) : Rat) ≤ ((m <<< p.toNat : Nat) : Rat) := Rat.natCast_le_natCast.2 hL
      rw [Nat.shiftLeft_eq, Rat.natCast_mul, Rat.natCast_mul] at h4
      have h5 : (m : Rat) * ((2 ^ p.toNat : Nat) : Rat) ≤ (B : Rat) * ((2 ^ (-p).toNat : Nat) : Rat) := by
        rw [← e, ← Rat.mul_assoc]
        exact Rat.mul_le_mul_of_nonneg_right key (Rat.natCast_nonneg)
      exact Rat.le_trans h4 h5
    have hp : (0 : Rat) < ((2 ^ (-p).toNat : Nat) : Rat) := by rw [← pw_nat]; exact pw_pos _
    exact Rat.natCast_le_natCast.1 (Rat.le_of_mul_le_mul_right h3 hp)
  refine ⟨signed s L 0, by unfold Datum.toInt Datum.integral; simp only [hLe], ?_⟩
  unfold signed
  cases s <;> simp <;> omega
theorem order_eq_words {x : Nat} (hx : x < 18446744073709551616) (h : FloatKind.f64.format.order x c127 = some .eq) : x = c127 := by
  obtain ⟨s, r, e, hr⟩ := word_of double (x := x) (by rw [d_sw]; omega)
  have hri : r < double.infRung := by
    by_cases h1 : r < double.infRung
    · exact h1
    · exfalso
      by_cases h2 : r = double.infRung
      · rw [h2] at e
        have : double.read x = .infinity s := by rw [e]; exact read_inf double double_binade s
        have h3 : (double.read x).order (double.read c127) = some .eq := h
        rw [this, read_127] at h3
        cases s <;> cases h3
      · have hn : isN .f64 x = true := by rw [e]; exact nan_word double double_binade s (by omega) hr
        rw [order_none (.inl hn)] at h; cases h
  have h127 : c127 = double.word false c127 := rfl
  have h127r : c127 < double.infRung := by decide +kernel
  have h3 : double.order (double.word s r) (double.word false c127) = some .eq := by rw [← e]; exact h
  rw [order_fin double s false hri h127r] at h3
  have h4 := Int.compare_eq_eq.1 (Option.some.inj h3)
  unfold sval at h4
  have h5 : 0 < nval double c127 := by
    have := nval_lt (f := double) (show 0 < c127 by decide)
    rw [nval_zero] at this; exact this
  cases s
  · simp at h4
    have := nval_inj (f := double) (Int.ofNat.inj h4)
    rw [e, this]; rfl
  · simp at h4; omega
theorem clamp_ok {x : Nat} (hn : isN .f64 x = false) (hx : x < 18446744073709551616) :
    ∃ m M, minF .f64 x c127 = some m ∧ maxF .f64 cm127 m = some M ∧ floatToIntVal .f64 M .i64 = some (clampI x) ∧ -127 ≤ clampI x ∧ clampI x ≤ 127 := by
  have hf127 : floatToIntVal .f64 c127 .i64 = some 127 := by decide +kernel
  have hfm : floatToIntVal .f64 cm127 .i64 = some (-127) := by decide +kernel
  have hmm : maxF .f64 cm127 c127 = some c127 := by decide +kernel
  obtain ⟨c, hc⟩ := order_someK (k := .f64) (x := x) (y := c127) hn (by decide +kernel)
  by_cases h1 : FloatKind.f64.format.order x c127 = some .gt
  · have hcl : clampI x = 127 := by unfold clampI; rw [if_pos h1]
    exact ⟨c127, c127, by unfold minF; rw [h1], hmm, by rw [hcl]; exact hf127, by omega, by omega⟩
  have hm : minF .f64 x c127 = some x := by
    unfold minF
    cases c
    · rw [hc]
    · have := order_eq_words hx hc
      subst this
      rw [hc]; rfl
    · exact absurd hc h1
  obtain ⟨d, hd⟩ := order_someK (k := .f64) (x := x) (y := cm127) hn (by decide +kernel)
  obtain ⟨d', hd'⟩ := order_someK (k := .f64) (x := cm127) (y := x) (by decide +kernel) hn
  cases hr : double.read x with
  | nan s t => unfold isN at hn; rw [show FloatKind.f64.format.read x = _ from hr] at hn; cases hn
  | infinity s =>
    have h2 : (double.read x).order (double.read c127) ≠ some .gt := h1
    rw [hr, read_127] at h2
    cases s
    · exact absurd rfl h2
    · have h3 : FloatKind.f64.format.order x cm127 = some .lt := by show (double.read x).order (double.read cm127) = _; rw [hr, read_m127]; rfl
      have h4 : FloatKind.f64.format.order cm127 x = some .gt := by show (double.read cm127).order (double.read x) = _; rw [hr, read_m127]; rfl
      have hcl : clampI x = -127 := by unfold clampI; rw [if_neg h1, if_pos h3]
      exact ⟨x, cm127, hm, by unfold maxF; rw [h4], by rw [hcl]; exact hfm, by omega, by omega⟩
  | number s m p =>
    have o1 := order_num s false m (127 * 2 ^ 46) p (-46)
    have o2 := order_num s true m (127 * 2 ^ 46) p (-46)
    have o3 := order_num true s (127 * 2 ^ 46) m (-46) p
    rw [num_127] at o1
    rw [num_m127] at o2 o3
    have e1 : FloatKind.f64.format.order x c127 = (Datum.number s m p).order (.number false (127 * 2 ^ 46) (-46)) := by rw [← hr, ← read_127]; rfl
    have e2 : FloatKind.f64.format.order x cm127 = (Datum.number s m p).order (.number true (127 * 2 ^ 46) (-46)) := by rw [← hr, ← read_m127]; rfl
    have e3 : FloatKind.f64.format.order cm127 x = (Datum.number true (127 * 2 ^ 46) (-46)).order (.number s m p) := by rw [← hr, ← read_m127]; rfl
    have g1 : num s m p ≤ 127 := by rw [← Rat.not_lt]; intro h; exact h1 (by rw [e1]; exact o1.2.1.2 h)
    by_cases h3 : FloatKind.f64.format.order x cm127 = some .lt
    · have g3 : num s m p < -127 := o2.1.1 (by rw [← e2]; exact h3)
      have h4 : FloatKind.f64.format.order cm127 x = some .gt := by rw [e3]; exact o3.2.1.2 g3
      have hcl : clampI x = -127 := by unfold clampI; rw [if_neg h1, if_pos h3]
      exact ⟨x, cm127, hm, by unfold maxF; rw [h4], by rw [hcl]; exact hfm, by omega, by omega⟩
    · have g2 : -127 ≤ num s m p := by rw [← Rat.not_lt]; intro h; exact h3 (by rw [e2]; exact o2.1.2 h)
      have h4 : FloatKind.f64.format.order cm127 x ≠ some .gt := by
        intro h; rw [e3] at h; have := o3.2.1.1 h; grind
      have hM : maxF .f64 cm127 x = some x := by
        unfold maxF
        cases d'
        · rw [hd']
        · rw [hd']; rfl
        · exact absurd hd' h4
      obtain ⟨n, hn1, hn2, hn3⟩ := toInt_num s m p (B := 127) (by simpa using g1) (by simpa using g2)
      have hcl : clampI x = n := by unfold clampI toI; rw [if_neg h1, if_neg h3, hr, hn1]; rfl
      refine ⟨x, x, hm, hM, ?_, by omega, by omega⟩
      rw [hcl]
      unfold floatToIntVal
      rw [show FloatKind.f64.decode x = .number s m p from hr, hn1]
      simp only
      rw [if_pos (by simp [IntKind.min, IntKind.max, IntKind.signed, IntKind.bits]; omega)]
end Go.Proofs.Ytnhikdjljjemlaa
