/- Joined texts 6: Rg4 Rp3 Rg2 Rp1 Rp2. Each is told at its own head. No condition. -/
import Derived.Maps.AppendAt
import Derived.Deep.AppendLies
import Derived.Deep.RegionHeld3
import Derived.Deep.CutRange
import Derived.Deep.DeepCutAuto
import Derived.Test.YtmkfcaahdmdpaaaMc0
import Derived.Test.YtmkfcaahdmdpaaaMc4
import Derived.Test.YtmkfcaahdmdpaaaMc5
/- A region whose order is open, with some operations (a literal laid, a call that makes memory, an append) that come one after another, between others that only read and draw: one walk in the order of the text serves every order. No condition. -/
namespace Go.Proofs.Ytmkfcaahdmdpaaa
open Go Go.RowKit
set_option linter.unusedVariables false
section
variable {P : Program} {ops : Array Oper} {S : World → Prop} {VC : FuncId → Array Value → Value → Prop} {D : FuncId → Array Value → World → Value → World → Prop} {sp : List Nat}
/-- an operation that only reads and draws goes through in every world of the class -/
def GoodM (P : Program) (ops : Array Oper) (S : World → Prop) (VC : FuncId → Array Value → Value → Prop) (o : Oper) (a : Act) : Prop := Region.wanted o (yielded ops a.tmps) = true → ∀ W, S W → FineRes P (Drawn W) VC ((execOp a.eval o).run P W)
/-- what is asked of one that changes the world -/
@[go_sem] def SpecRes (P : Program) (D : FuncId → Array Value → World → Value → World → Prop) (K : Value → World → Prop) : Result Next → Prop
  | .ok (.value v) w' => K v w'
  | .ok .skip w' => K undef w'
  | .ok (.enter f args) w' => (Calls P f args w' fun e w'' => ∃ v, e = .returned v ∧ D f args w' v w'') ∧ ∀ v w'', D f args w' v w'' → K v w''
  | _ => False
def SpecAt (P : Program) (ops : Array Oper) (D : FuncId → Array Value → World → Value → World → Prop) (o : Oper) (a : Act) (w : World) (K : Value → World → Prop) : Prop :=
  (Region.wanted o (yielded ops a.tmps) = true → ∀ n : Nat, SpecRes P D K ((execOp a.eval o).run P (w.drewN n))) ∧ (Region.wanted o (yielded ops a.tmps) = false → K undef w)
theorem SpecRes.mono {K K' : Value → World → Prop} {r : Result Next} (h : SpecRes P D K r) (hk : ∀ v w, K v w → K' v w) : SpecRes P D K' r := by
  revert h
  unfold SpecRes
  split
  · exact fun h => hk _ _ h
  · exact fun h => hk _ _ h
  · exact fun h => ⟨h.1, fun v w'' hd => hk _ _ (h.2 v w'' hd)⟩
  · exact fun h => h
theorem SpecRes.all {ι : Type} {V : ι → Prop} {K : ι → Value → World → Prop} {r : Result Next} (i0 : ι) (h0 : V i0) (h : ∀ i, V i → SpecRes P D (K i) r) : SpecRes P D (fun v w => ∀ i, V i → K i v w) r := by
  revert h
  unfold SpecRes
  split
  · exact fun h i hi => h i hi
  · exact fun h i hi => h i hi
  · exact fun h => ⟨(h i0 h0).1, fun v w'' hd i hi => (h i hi).2 v w'' hd⟩
  · exact fun h => h i0 h0
theorem SpecRes.some {K : Value → World → Prop} {r : Result Next} (h : SpecRes P D K r) : ∃ v w, K v w := by
  revert h
  unfold SpecRes
  split
  · exact fun h => ⟨_, _, h⟩
  · exact fun h => ⟨_, _, h⟩
  · intro h
    obtain ⟨e, w'', fr, ⟨v, _, hd⟩, _⟩ := h.1 []
    exact ⟨v, w'', h.2 v w'' hd⟩
  · exact fun h => h.elim
theorem SpecAt.mono {o : Oper} {a : Act} {w : World} {K K' : Value → World → Prop} (h : SpecAt P ops D o a w K) (hk : ∀ v w, K v w → K' v w) : SpecAt P ops D o a w K' :=
  ⟨fun hw n => (h.1 hw n).mono hk, fun hw => hk _ _ (h.2 hw)⟩
theorem SpecAt.all {o : Oper} {a : Act} {w : World} {ι : Type} {V : ι → Prop} {K : ι → Value → World → Prop} (i0 : ι) (h0 : V i0) (h : ∀ i, V i → SpecAt P ops D o a w (K i)) : SpecAt P ops D o a w (fun v w => ∀ i, V i → K i v w) :=
  ⟨fun hw n => SpecRes.all i0 h0 fun i hi => (h i hi).1 hw n, fun hw i hi => (h i hi).2 hw⟩
theorem SpecAt.some {o : Oper} {a : Act} {w : World} {K : Value → World → Prop} (h : SpecAt P ops D o a w K) : ∃ v w, K v w := by
  cases hw : Region.wanted o (yielded ops a.tmps)
  · exact ⟨_, _, h.2 hw⟩
  · exact (h.1 hw 0).some
theorem specAt_put {o : Oper} {a : Act} {d : Option Tmp} {u : Value} {w : World} {K : Value → World → Prop} (he : execOp (a.put d u).eval o = execOp a.eval o) (hw : Region.wanted o (yielded ops (a.put d u).tmps) = Region.wanted o (yielded ops a.tmps)) :
    SpecAt P ops D o (a.put d u) w K ↔ SpecAt P ops D o a w K := by
  unfold SpecAt
  rw [he, hw]
theorem goodM_put {o : Oper} {a : Act} {d : Option Tmp} {u : Value} (he : execOp (a.put d u).eval o = execOp a.eval o) (hw : Region.wanted o (yielded ops (a.put d u).tmps) = Region.wanted o (yielded ops a.tmps)) :
    GoodM P ops S VC o (a.put d u) ↔ GoodM P ops S VC o a := by
  unfold GoodM
  rw [he, hw]
theorem some_valM {o : Oper} {a : Act} {w0 : World} (h0 : S w0) (h : GoodM P ops S VC o a) : ∃ v, Vals P ops S VC o a v := by
  by_cases hw : Region.wanted o (yielded ops a.tmps) = true
  · have hf := h hw w0 h0
    unfold FineRes at hf
    split at hf
    · rename_i v w' he; exact ⟨v, .inl ⟨hw, w0, w', h0, .inl he⟩⟩
    · rename_i w' he; exact ⟨undef, .inl ⟨hw, w0, w', h0, .inr (.inl ⟨he, rfl⟩)⟩⟩
    · rename_i f args w' he
      obtain ⟨_, hc⟩ := hf
      obtain ⟨e, w'', fr, ⟨v, _, _, hv⟩, _⟩ := hc []
      exact ⟨v, .inl ⟨hw, w0, w', h0, .inr (.inr ⟨f, args, he, hv⟩)⟩⟩
    · cases hf
  · exact ⟨undef, .inr ⟨by simpa using hw, rfl⟩⟩
/-- the walk of every order up to 'n', then 'L' -/
def MSet (P : Program) (md : Region.Mode) (ops : Array Oper) (S : World → Prop) (VC : FuncId → Array Value → Value → Prop) (D : FuncId → Array Value → World → Value → World → Prop) (sp : List Nat) (n : Nat) (L : Array Bool → Act → World → Prop) : Nat → Array Bool → Act → World → Prop
  | 0, listed, a, w => L listed a w
  | fuel + 1, listed, a, w => Region.ready md ops listed ≠ [] ∧
    ∀ i ∈ Region.ready md ops listed, ∀ o, ops[i]? = some o → i < n ∧
      (sp.contains i = true → SpecAt P ops D o a w fun v w' => S w' ∧ MSet P md ops S VC D sp n L fuel (listed.setIfInBounds i true) (a.put o.dst v) w') ∧
      (sp.contains i = false → GoodM P ops S VC o a ∧ ∀ v, Vals P ops S VC o a v → MSet P md ops S VC D sp n L fuel (listed.setIfInBounds i true) (a.put o.dst v) w)
structure MInv (md : Region.Mode) (ops : Array Oper) (n : Nat) (listed : Array Bool) : Prop where
  inv : HInv md ops n listed
theorem mset_plain {md : Region.Mode} {n : Nat} {L : Array Bool → Act → World → Prop} {i : Nat} {oi : Oper} (hi : ops[i]? = some oi) (hsp : sp.contains i = false) (hsel : ∀ (j : Nat) (o : Oper) cs b, ops[j]? = some o → o.op ≠ .select cs b)
    (hlt : ∀ listed, HInv md ops n listed → listed.getD i true = false → ∀ j ∈ Region.ready md ops listed, j < n) (hdone : ∀ listed a w, L listed a w → ∀ j ∈ Region.ready md ops listed, n ≤ j) :
    ∀ (fuel : Nat) (listed : Array Bool) (a : Act) (w : World), S w → HInv md ops n listed →
      (∀ j oj, ops[j]? = some oj → j ≠ i → listed.getD j true = false → (∀ e ∈ oj.after, Region.binds md e = true → e.on ≠ i) → oi.apart ops oj = true) →
      i ∈ Region.ready md ops listed → GoodM P ops S VC oi a →
      (∀ v, Vals P ops S VC oi a v → MSet P md ops S VC D sp n L fuel (listed.setIfInBounds i true) (a.put oi.dst v) w) → MSet P md ops S VC D sp n L (fuel + 1) listed a w
  | 0, listed, a, w, h0, inv, _, hr, hg, H => by
    have hun := (mem_ready.1 hr).1
    refine ⟨fun e => (by rw [e] at hr; cases hr), fun j hj o ho => ?_⟩
    have hjn := hlt listed inv hun j hj
    by_cases hji : j = i
    · subst hji
      obtain rfl : oi = o := Option.some.inj (hi.symm.trans ho)
      exact ⟨hjn, fun h => (by rw [hsp] at h; cases h), fun _ => ⟨hg, H⟩⟩
    · exfalso
      obtain ⟨v, hv⟩ := some_valM h0 hg
      have := hdone _ _ _ (H v hv) j (ready_mono hj hji)
      omega
  | fuel + 1, listed, a, w, h0, inv, hfree, hr, hg, H => by
    have huni := (mem_ready.1 hr).1
    refine ⟨fun e => (by rw [e] at hr; cases hr), fun j hj oj hoj => ?_⟩
    have hjn := hlt listed inv huni j hj
    by_cases hji : j = i
    · subst hji
      obtain rfl : oi = oj := Option.some.inj (hi.symm.trans hoj)
      exact ⟨hjn, fun h => (by rw [hsp] at h; cases h), fun _ => ⟨hg, H⟩⟩
    · have hun : listed.getD j true = false := (mem_ready.1 hj).1
      have hno : ∀ e ∈ oj.after, Region.binds md e = true → e.on ≠ i := by
        intro e he hb hon
        obtain ⟨_, o', ho', hall⟩ := mem_ready.1 hj
        obtain rfl : oj = o' := Option.some.inj (hoj.symm.trans ho')
        have h1 := hall e he hb
        rw [hon, getD_two huni] at h1; cases h1
      obtain ⟨x1, x2, x3⟩ := Oper.apart_spec (hfree j oj hoj hji hun hno)
      have si := fun cs b => hsel i oi cs b hi
      have sj := fun cs b => hsel j oj cs b hoj
      have ej : ∀ v, execOp (a.put oi.dst v).eval oj = execOp a.eval oj := fun v => execOp_put oj sj a oi.dst v x1
      have wj : ∀ v, Region.wanted oj (yielded ops (a.put oi.dst v).tmps) = Region.wanted oj (yielded ops a.tmps) := fun v => wanted_put oj a oi.dst v x1
      have gi : ∀ u, (GoodM P ops S VC oi (a.put oj.dst u) ↔ GoodM P ops S VC oi a) := fun u => goodM_put (execOp_put oi si a oj.dst u x3) (wanted_put oi a oj.dst u x3)
      have vi : ∀ u v, (Vals P ops S VC oi (a.put oj.dst u) v ↔ Vals P ops S VC oi a v) := fun u v => vals_put (execOp_put oi si a oj.dst u x3) (wanted_put oi a oj.dst u x3)
      obtain ⟨v0, hv0⟩ := some_valM h0 hg
      have hj' := ready_mono hj hji
      have hfree' : ∀ k ok, ops[k]? = some ok → k ≠ i → (listed.setIfInBounds j true).getD k true = false → (∀ e ∈ ok.after, Region.binds md e = true → e.on ≠ i) → oi.apart ops ok = true := by
        intro k ok hk hki hun' hno'
        refine hfree k ok hk hki ?_ hno'
        by_cases hjk : j = k
        · subst hjk; exact hun
        · rw [getD_set_ne true hjk] at hun'; exact hun'
      refine ⟨hjn, fun hs => ?_, fun hs => ?_⟩
      · have h1 : ∀ v, Vals P ops S VC oi a v → SpecAt P ops D oj a w fun u w' => S w' ∧ MSet P md ops S VC D sp n L fuel ((listed.setIfInBounds i true).setIfInBounds j true) ((a.put oi.dst v).put oj.dst u) w' := fun v hv =>
          (specAt_put (ej v) (wj v)).1 (((H v hv).2 j hj' oj hoj).2.1 hs)
        refine (SpecAt.all v0 hv0 h1).mono fun u w' hK => ⟨(hK v0 hv0).1, ?_⟩
        refine mset_plain hi hsp hsel hlt hdone fuel (listed.setIfInBounds j true) (a.put oj.dst u) w' (hK v0 hv0).1 (inv.set hj hjn) hfree' (ready_mono hr (Ne.symm hji)) ((gi u).2 hg) fun v hv => ?_
        have := (hK v ((vi u v).1 hv)).2
        rw [Array.setIfInBounds_comm _ _ hji, ← Act.put_comm a v u x2]
        exact this
      · have gj : ∀ v, (GoodM P ops S VC oj (a.put oi.dst v) ↔ GoodM P ops S VC oj a) := fun v => goodM_put (ej v) (wj v)
        have vj : ∀ v u, (Vals P ops S VC oj (a.put oi.dst v) u ↔ Vals P ops S VC oj a u) := fun v u => vals_put (ej v) (wj v)
        refine ⟨(gj v0).1 (((H v0 hv0).2 j hj' oj hoj).2.2 hs).1, fun u hu => ?_⟩
        refine mset_plain hi hsp hsel hlt hdone fuel (listed.setIfInBounds j true) (a.put oj.dst u) w h0 (inv.set hj hjn) hfree' (ready_mono hr (Ne.symm hji)) ((gi u).2 hg) fun v hv => ?_
        have := (((H v ((vi u v).1 hv)).2 j hj' oj hoj).2.2 hs).2 u ((vj v u).2 hu)
        rw [Array.setIfInBounds_comm _ _ hji, ← Act.put_comm a v u x2]
        exact this
theorem mset_spec {md : Region.Mode} {n : Nat} {L : Array Bool → Act → World → Prop} {i : Nat} {oi : Oper} (hi : ops[i]? = some oi) (hsp : sp.contains i = true) (hsel : ∀ (j : Nat) (o : Oper) cs b, ops[j]? = some o → o.op ≠ .select cs b)
    (hlt : ∀ listed, HInv md ops n listed → listed.getD i true = false → ∀ j ∈ Region.ready md ops listed, j < n) (hdone : ∀ listed a w, L listed a w → ∀ j ∈ Region.ready md ops listed, n ≤ j)
    (hone : ∀ listed, HInv md ops n listed → (∀ j, j < i → listed.getD j false = true) → listed.getD i true = false → ∀ j ∈ Region.ready md ops listed, j ≠ i → sp.contains j = false) :
    ∀ (fuel : Nat) (listed : Array Bool) (a : Act) (w : World), S w → HInv md ops n listed → (∀ j, j < i → listed.getD j false = true) →
      (∀ j oj, ops[j]? = some oj → j ≠ i → listed.getD j true = false → (∀ e ∈ oj.after, Region.binds md e = true → e.on ≠ i) → oi.apart ops oj = true) →
      i ∈ Region.ready md ops listed →
      (SpecAt P ops D oi a w fun v w' => S w' ∧ MSet P md ops S VC D sp n L fuel (listed.setIfInBounds i true) (a.put oi.dst v) w') → MSet P md ops S VC D sp n L (fuel + 1) listed a w
  | 0, listed, a, w, h0, inv, hp, _, hr, H => by
    have hun := (mem_ready.1 hr).1
    refine ⟨fun e => (by rw [e] at hr; cases hr), fun j hj o ho => ?_⟩
    have hjn := hlt listed inv hun j hj
    by_cases hji : j = i
    · subst hji
      obtain rfl : oi = o := Option.some.inj (hi.symm.trans ho)
      exact ⟨hjn, fun _ => H, fun h => (by rw [hsp] at h; cases h)⟩
    · exfalso
      obtain ⟨v, w', _, hL⟩ := H.some
      have := hdone _ _ _ hL j (ready_mono hj hji)
      omega
  | fuel + 1, listed, a, w, h0, inv, hp, hfree, hr, H => by
    have huni := (mem_ready.1 hr).1
    refine ⟨fun e => (by rw [e] at hr; cases hr), fun j hj oj hoj => ?_⟩
    have hjn := hlt listed inv huni j hj
    by_cases hji : j = i
    · subst hji
      obtain rfl : oi = oj := Option.some.inj (hi.symm.trans hoj)
      exact ⟨hjn, fun _ => H, fun h => (by rw [hsp] at h; cases h)⟩
    · have hun : listed.getD j true = false := (mem_ready.1 hj).1
      have hjs := hone listed inv hp huni j hj hji
      have hno : ∀ e ∈ oj.after, Region.binds md e = true → e.on ≠ i := by
        intro e he hb hon
        obtain ⟨_, o', ho', hall⟩ := mem_ready.1 hj
        obtain rfl : oj = o' := Option.some.inj (hoj.symm.trans ho')
        have h1 := hall e he hb
        rw [hon, getD_two huni] at h1; cases h1
      obtain ⟨x1, x2, x3⟩ := Oper.apart_spec (hfree j oj hoj hji hun hno)
      have si := fun cs b => hsel i oi cs b hi
      have sj := fun cs b => hsel j oj cs b hoj
      have ej : ∀ v, execOp (a.put oi.dst v).eval oj = execOp a.eval oj := fun v => execOp_put oj sj a oi.dst v x1
      have wj : ∀ v, Region.wanted oj (yielded ops (a.put oi.dst v).tmps) = Region.wanted oj (yielded ops a.tmps) := fun v => wanted_put oj a oi.dst v x1
      have gj : ∀ v, (GoodM P ops S VC oj (a.put oi.dst v) ↔ GoodM P ops S VC oj a) := fun v => goodM_put (ej v) (wj v)
      have vj : ∀ v u, (Vals P ops S VC oj (a.put oi.dst v) u ↔ Vals P ops S VC oj a u) := fun v u => vals_put (ej v) (wj v)
      have hj' := ready_mono hj hji
      have hfree' : ∀ k ok, ops[k]? = some ok → k ≠ i → (listed.setIfInBounds j true).getD k true = false → (∀ e ∈ ok.after, Region.binds md e = true → e.on ≠ i) → oi.apart ops ok = true := by
        intro k ok hk hki hun' hno'
        refine hfree k ok hk hki ?_ hno'
        by_cases hjk : j = k
        · subst hjk; exact hun
        · rw [getD_set_ne true hjk] at hun'; exact hun'
      refine ⟨hjn, fun hs => (by rw [hjs] at hs; cases hs), fun hs => ?_⟩
      obtain ⟨v0, w0, _, hv0⟩ := H.some
      refine ⟨(gj v0).1 ((hv0.2 j hj' oj hoj).2.2 hs).1, fun u hu => ?_⟩
      refine mset_spec hi hsp hsel hlt hdone hone fuel (listed.setIfInBounds j true) (a.put oj.dst u) w h0 (inv.set hj hjn) (fun q hq => getD_set_true (hp q hq)) hfree' (ready_mono hr (Ne.symm hji)) ?_
      refine (specAt_put (execOp_put oi si a oj.dst u x3) (wanted_put oi a oj.dst u x3)).2 (H.mono fun v w' hK => ⟨hK.1, ?_⟩)
      have := ((hK.2.2 j hj' oj hoj).2.2 hs).2 u ((vj v u).2 hu)
      rw [Array.setIfInBounds_comm _ _ hji, ← Act.put_comm a v u x2]
      exact this
/-- the walk in the order of the text -/
def MWalk (P : Program) (ops : Array Oper) (S : World → Prop) (VC : FuncId → Array Value → Value → Prop) (D : FuncId → Array Value → World → Value → World → Prop) (sp : List Nat) (Q : Act → World → Prop) : Nat → List Oper → Act → World → Prop
  | _, [], a, w => Q a w
  | k, o :: rest, a, w =>
    (sp.contains k = true → SpecAt P ops D o a w fun v w' => S w' ∧ MWalk P ops S VC D sp Q (k + 1) rest (a.put o.dst v) w') ∧
    (sp.contains k = false → GoodM P ops S VC o a ∧ ∀ v, Vals P ops S VC o a v → MWalk P ops S VC D sp Q (k + 1) rest (a.put o.dst v) w)
/-- 't' waits for 'i' -/
def depB (md : Region.Mode) (ops : Array Oper) : Nat → Nat → Nat → Bool
  | 0, _, _ => false
  | f + 1, t, i => match ops[t]? with
    | none => false
    | some o => o.after.any fun e => Region.binds md e && (e.on == i || depB md ops f e.on i)
theorem depB_listed {md : Region.Mode} {n : Nat} {listed : Array Bool} (inv : HInv md ops n listed) {i : Nat} : ∀ (f t : Nat), listed.getD t false = true → depB md ops f t i = true → listed.getD i false = true
  | 0, _, _, h => by cases h
  | f + 1, t, ht, h => by
    unfold depB at h
    split at h
    · cases h
    · rename_i o ho
      obtain ⟨e, he, hb⟩ := Array.any_eq_true'.1 h
      simp only [Bool.and_eq_true, Bool.or_eq_true, beq_iff_eq] at hb
      have h1 := inv.closed t o ho ht e he hb.1
      rcases hb.2 with h2 | h2
      · rw [← h2]; exact h1
      · exact depB_listed inv f e.on h1 h2
theorem depB_ready {md : Region.Mode} {n : Nat} {listed : Array Bool} (inv : HInv md ops n listed) {i : Nat} (f t : Nat) (ht : t ∈ Region.ready md ops listed) (h : depB md ops f t i = true) : listed.getD i false = true := by
  cases f with
  | zero => cases h
  | succ f =>
    unfold depB at h
    obtain ⟨_, ot, hot, hall⟩ := mem_ready.1 ht
    rw [hot] at h
    obtain ⟨e, he, hb⟩ := Array.any_eq_true'.1 h
    simp only [Bool.and_eq_true, Bool.or_eq_true, beq_iff_eq] at hb
    have h1 := hall e he hb.1
    rcases hb.2 with h2 | h2
    · rw [← h2]; exact h1
    · exact depB_listed inv f e.on h1 h2
def specB (md : Region.Mode) (ops : Array Oper) (sp : List Nat) : Bool := sp.all fun i => sp.all fun j => decide (j ≤ i) || depB md ops ops.size j i
theorem one_of_specB {md : Region.Mode} {n i : Nat} (hB : specB md ops sp = true) (hi : sp.contains i = true) (listed : Array Bool) (inv : HInv md ops n listed) (hp : ∀ j, j < i → listed.getD j false = true) (hun : listed.getD i true = false) :
    ∀ j ∈ Region.ready md ops listed, j ≠ i → sp.contains j = false := by
  intro j hj hji
  cases hs : sp.contains j with
  | false => rfl
  | true =>
    exfalso
    have h1 := List.all_eq_true.1 (List.all_eq_true.1 hB i (by simpa using hi)) j (by simpa using hs)
    simp only [Bool.or_eq_true, decide_eq_true_eq] at h1
    rcases h1 with h1 | h1
    · have h2 := hp j (by omega)
      have h3 := getD_two (mem_ready.1 hj).1
      rw [h2] at h3; cases h3
    · have h2 := depB_ready inv _ j hj h1
      rw [getD_two hun] at h2; cases h2
theorem mset_lex {md : Region.Mode} {n : Nat} {L : Array Bool → Act → World → Prop} {Lq : Act → World → Prop} (hS : ∀ W q, S W → S (W.drewN q)) (hsel : Region.noSelect ops = true) (hB2 : specB md ops sp = true)
    (hlt : ∀ i, i < n → ∀ listed, HInv md ops n listed → listed.getD i true = false → ∀ j ∈ Region.ready md ops listed, j < n) (hdone : ∀ listed a w, L listed a w → ∀ j ∈ Region.ready md ops listed, n ≤ j)
    (lex : Nat → Nat → Array Bool → Bool) (hlex : ∀ len k listed, lex (len + 1) k listed = true → (Region.ready md ops listed).contains k = true ∧ Region.free md ops listed k = true ∧ lex len (k + 1) (listed.setIfInBounds k true) = true)
    (hend : ∀ listed a w, lex 0 n listed = true → Lq a w → L listed a w) :
    ∀ (l : List Oper) (k : Nat) (listed : Array Bool) (a : Act) (w : World), S w → (∀ j, j < l.length → l[j]? = ops[k + j]?) → k + l.length = n → HInv md ops n listed → (∀ j, j < k → listed.getD j false = true) →
    lex l.length k listed = true → MWalk P ops S VC D sp Lq k l a w → MSet P md ops S VC D sp n L l.length listed a w
  | [], k, listed, a, w, _, _, hk, _, _, hB, h => by
    have : k = n := by simpa using hk
    subst this
    exact hend listed a w hB h
  | o :: l, k, listed, a, w, h0, hl, hk, inv, hp, hB, h => by
    have hk0 : ops[k]? = some o := by simpa using (hl 0 (by simp)).symm
    obtain ⟨hr, hf, hB'⟩ := hlex _ _ _ hB
    have hkn : k < n := by simp only [List.length_cons] at hk; omega
    have hks : k < ops.size := (Array.getElem?_eq_some_iff.1 hk0).1
    have hr' : k ∈ Region.ready md ops listed := by simpa using hr
    have hl' : ∀ j, j < l.length → l[j]? = ops[k + 1 + j]? := fun j hj => by have := hl (j + 1) (by simp; omega); simpa [Nat.add_assoc, Nat.add_comm 1 j] using this
    have hkl : k + 1 + l.length = n := by simp only [List.length_cons] at hk; omega
    have hp' : ∀ j, j < k + 1 → (listed.setIfInBounds k true).getD j false = true := fun j hj => by
      by_cases e : j = k
      · subst e
        have : j < listed.size := by rw [inv.size]; exact hks
        simp [Array.getD_eq_getD_getElem?, this]
      · exact getD_set_true (hp j (by omega))
    cases hsp : sp.contains k with
    | true =>
      refine mset_spec hk0 hsp (Region.noSelect_spec hsel) (hlt k hkn) hdone (one_of_specB hB2 hsp) l.length listed a w h0 inv hp (Region.free_spec hk0 hf) hr' ?_
      exact (h.1 hsp).mono fun v w' hK => ⟨hK.1, mset_lex hS hsel hB2 hlt hdone lex hlex hend l (k + 1) _ _ w' hK.1 hl' hkl (inv.set hr' hkn) hp' hB' hK.2⟩
    | false =>
      refine mset_plain hk0 hsp (Region.noSelect_spec hsel) (hlt k hkn) hdone l.length listed a w h0 inv (Region.free_spec hk0 hf) hr' (h.2 hsp).1 fun v hv => ?_
      exact mset_lex hS hsel hB2 hlt hdone lex hlex hend l (k + 1) _ _ w h0 hl' hkl (inv.set hr' hkn) hp' hB' ((h.2 hsp).2 v hv)
theorem any_of_mset {md : Region.Mode} {n g : Nat} {L : Array Bool → Act → World → Prop} {Q' : Exit → Act → World → Prop} (hS : ∀ W q, S W → S (W.drewN q)) (hL : ∀ listed a w q, S w → L listed a w → wpAny P md ops Q' g listed a (w.drewN q)) :
    ∀ (fuel : Nat) (listed : Array Bool) (a : Act) (w : World) (q : Nat), S w → MSet P md ops S VC D sp n L fuel listed a w → wpAny P md ops Q' (fuel + g) listed a (w.drewN q)
  | 0, _, _, _, _, hw, h => by rw [Nat.zero_add]; exact hL _ _ _ _ hw h
  | fuel + 1, listed, a, w, q, hw, h => by
    rw [show fuel + 1 + g = (fuel + g) + 1 by omega]
    refine ⟨fun e => absurd e h.1, fun i hi => ?_⟩
    obtain ⟨_, o, ho, _⟩ := mem_ready.1 hi
    obtain ⟨_, h1, h2⟩ := h.2 i hi o ho
    unfold wpOp
    simp only [ho]
    cases hsp : sp.contains i with
    | true =>
      obtain ⟨h3, h4⟩ := h1 hsp
      by_cases hwant : Region.wanted o (yielded ops a.tmps) = true
      · rw [if_pos hwant]
        left
        have hf := h3 hwant q
        unfold Oper.wp
        unfold SpecRes at hf
        split at hf
        · rename_i v w' he
          rw [he]
          exact any_of_mset hS hL fuel _ _ w' 0 hf.1 hf.2
        · rename_i w' he
          rw [he]
          exact any_of_mset hS hL fuel _ _ w' 0 hf.1 hf.2
        · rename_i f args w' he
          rw [he]
          obtain ⟨hc, hk⟩ := hf
          refine hc.mono fun e w'' ⟨v, hev, hd⟩ => ?_
          subst hev
          exact any_of_mset hS hL fuel _ _ w'' 0 (hk v w'' hd).1 (hk v w'' hd).2
        · cases hf
      · have hwant' : Region.wanted o (yielded ops a.tmps) = false := by simpa using hwant
        rw [if_neg hwant]
        exact any_of_mset hS hL fuel _ _ w q (h4 hwant').1 (h4 hwant').2
    | false =>
      obtain ⟨hg, hv⟩ := h2 hsp
      have hSq := hS w q hw
      have hadd : ∀ m, (w.drewN q).drewN m = w.drewN (q + m) := fun m => by simp [World.drewN, Nat.add_assoc]
      by_cases hwant : Region.wanted o (yielded ops a.tmps) = true
      · rw [if_pos hwant]
        left
        have hf := hg hwant _ hSq
        unfold Oper.wp
        unfold FineRes at hf
        split at hf
        · rename_i v w' he
          rw [he]
          obtain ⟨m, rfl⟩ := hf
          have h5 := any_of_mset hS hL fuel _ _ w (q + m) hw (hv v (.inl ⟨hwant, _, _, hSq, .inl he⟩))
          rw [← hadd] at h5
          exact h5
        · rename_i w' he
          rw [he]
          obtain ⟨m, rfl⟩ := hf
          have h5 := any_of_mset hS hL fuel _ _ w (q + m) hw (hv undef (.inl ⟨hwant, _, _, hSq, .inr (.inl ⟨he, rfl⟩)⟩))
          rw [← hadd] at h5
          exact h5
        · rename_i f args w' he
          rw [he]
          obtain ⟨hC', hc⟩ := hf
          refine hc.mono fun e w'' ⟨v, hev, ⟨m, hm⟩, hvc⟩ => ?_
          subst hev
          subst hm
          have h5 := any_of_mset hS hL fuel _ _ w (q + m) hw (hv v (.inl ⟨hwant, _, _, hSq, .inr (.inr ⟨f, args, he, hvc⟩)⟩))
          rw [← hadd] at h5
          exact h5
        · cases hf
      · have hwant' : Region.wanted o (yielded ops a.tmps) = false := by simpa using hwant
        rw [if_neg hwant]
        exact any_of_mset hS hL fuel _ _ w q hw (hv undef (.inr ⟨hwant', rfl⟩))
def mixB (ops : Array Oper) (n : Nat) (sp : List Nat) : Bool :=
  Region.noSelect ops && decide (n < ops.size) && sinkP .any ops 0 n && chainP .any ops n && specB .any ops sp && Region.lexHead .any ops (ops.size - n) n 0 (Array.replicate ops.size false)
def mixB0 (ops : Array Oper) (sp : List Nat) : Bool := Region.noSelect ops && specB .any ops sp && Region.lexFrom .any ops ops.size 0 (Array.replicate ops.size false)
/-- **a region of readers and of operations, numbers 'sp', that come one after another; from 'n' on its operations wait for all others** -/
theorem wp_region_mix {id : Nat} {Q : Exit → Act → World → Prop} {a : Act} {w : World} {l : List Oper} (n : Nat) (sp : List Nat) (S : World → Prop) (VC : FuncId → Array Value → Value → Prop) (D : FuncId → Array Value → World → Value → World → Prop) (hm : P.follows .mixedOrders = true) (hB : mixB l.toArray n sp = true)
    (hS0 : S w) (hS : ∀ W q, S W → S (W.drewN q)) (h : MWalk P l.toArray S VC D sp (fun a' w1 => ∀ q, wpList P l.toArray Q (l.drop n) a' (w1.drewN q)) 0 (l.take n) a w) : (Code.region id l.toArray true).wp P Q a w := by
  simp only [mixB, Bool.and_eq_true, decide_eq_true_eq] at hB
  obtain ⟨⟨⟨⟨⟨hsel, hn⟩, hs⟩, hc⟩, hsp⟩, hlex⟩ := hB
  have hn' : n < l.length := by simpa using hn
  have htl : (l.take n).length = n := by simp; omega
  have hdl : (l.drop n).length = l.toArray.size - n := by simp
  have gf : ∀ i, (Array.replicate l.toArray.size false).getD i false = false := fun i => by
    simp only [Array.getD_eq_getD_getElem?, Array.getElem?_replicate]; split <;> rfl
  have inv0 : HInv .any l.toArray n (Array.replicate l.toArray.size false) :=
    ⟨by simp, fun j oj _ hl => (by rw [gf] at hl; cases hl), fun t _ ht => getD_in2 (by simpa using ht) (gf t)⟩
  have H := mset_lex (md := .any) (L := fun listed' a' w' => Region.seqB .any l.toArray (l.toArray.size - n) n listed' = true ∧ ∀ q, wpList P l.toArray Q (l.drop n) a' (w'.drewN q)) hS hsel hsp
    (fun i hi listed inv hun j hj => by
      rcases Nat.lt_or_ge j n with h | h
      · exact h
      · exact absurd hj (late hs hc hn inv (p := 0) (fun j hj => by omega) _ i rfl hi hun j h))
    (fun listed a w hL => seqB_ready hL.1) (fun len k listed => Region.lexHead .any l.toArray (l.toArray.size - n) len k listed)
    (fun len k listed h => by
      have h : Region.lexHead .any l.toArray (l.toArray.size - n) (len + 1) k listed = true := h
      simp only [Region.lexHead, Bool.and_eq_true] at h
      exact ⟨h.1.1, h.1.2, h.2⟩)
    (fun listed a w he hq => ⟨by simpa [Region.lexHead] using he, hq⟩)
    (l.take n) 0 _ a w hS0 (fun j hj => by
      have hj' : j < n := by rw [htl] at hj; exact hj
      simp [hj']) (by simpa using htl) inv0 (fun j hj => by omega) (by rw [htl]; exact hlex) h
  refine wp_region_any hm ?_
  have := any_of_mset (Q' := Q) (g := l.toArray.size - n) hS (fun listed a' w' q hw' hL => by
    have := wpAny_of_seq (md := .any) (Q' := Q) (l.drop n) n listed a' (w'.drewN q) (fun j => by simp [List.getElem?_drop]) (by rw [hdl]; exact hL.1) (hL.2 q)
    rwa [hdl] at this) _ _ _ _ 1 hS0 H
  rw [htl, show n + (l.toArray.size - n) = l.toArray.size by omega] at this
  exact this
/-- **the same without a tail** -/
theorem wp_region_mix0 {id : Nat} {Q : Exit → Act → World → Prop} {a : Act} {w : World} {l : List Oper} (sp : List Nat) (S : World → Prop) (VC : FuncId → Array Value → Value → Prop) (D : FuncId → Array Value → World → Value → World → Prop) (hm : P.follows .mixedOrders = true) (hB : mixB0 l.toArray sp = true)
    (hS0 : S w) (hS : ∀ W q, S W → S (W.drewN q)) (h : MWalk P l.toArray S VC D sp (fun a' w1 => ∀ q, Q .normal a' (w1.drewN q)) 0 l a w) : (Code.region id l.toArray true).wp P Q a w := by
  simp only [mixB0, Bool.and_eq_true] at hB
  obtain ⟨⟨hsel, hsp⟩, hlex⟩ := hB
  have gf : ∀ i, (Array.replicate l.toArray.size false).getD i false = false := fun i => by
    simp only [Array.getD_eq_getD_getElem?, Array.getElem?_replicate]; split <;> rfl
  have inv0 : HInv .any l.toArray l.length (Array.replicate l.toArray.size false) :=
    ⟨by simp, fun j oj _ hl => (by rw [gf] at hl; cases hl), fun t h1 ht => getD_in2 (by simpa using ht) (gf t)⟩
  have H := mset_lex (md := .any) (L := fun listed' a' w' => Region.ready .any l.toArray listed' = [] ∧ ∀ q, Q .normal a' (w'.drewN q)) hS hsel hsp
    (fun i hi listed inv hun j hj => by
      obtain ⟨_, oj, hoj, _⟩ := mem_ready.1 hj
      have := (Array.getElem?_eq_some_iff.1 hoj).1
      simpa using this)
    (fun listed a w hL j hj => by rw [hL.1] at hj; cases hj) (fun len k listed => Region.lexFrom .any l.toArray len k listed)
    (fun len k listed h => by
      have h : Region.lexFrom .any l.toArray (len + 1) k listed = true := h
      simp only [Region.lexFrom, Bool.and_eq_true] at h
      exact ⟨h.1.1, h.1.2, h.2⟩)
    (fun listed a w he hq => ⟨by simpa [Region.lexFrom] using he, hq⟩)
    l 0 _ a w hS0 (fun j hj => by simp) (by simp) inv0 (fun j hj => by omega) (by simpa using hlex) h
  refine wp_region_any hm ?_
  have := any_of_mset (Q' := Q) (g := 0) hS (fun listed a' w' q hw' hL => ⟨hL.1, hL.2 q⟩) _ _ _ _ 1 hS0 H
  rw [Nat.add_zero] at this
  exact this
/-! the steps of the walk -/
variable {Q : Act → World → Prop} {o : Oper} {rest : List Oper} {a : Act} {w : World} {k : Nat}
@[go_sem] theorem drawn_refl (w : World) : Drawn w w = True := eq_true ⟨0, rfl⟩
theorem mwalk_plain (hk : sp.contains k = false) (h0 : S w) (h : ∀ K : Act → Prop, (∀ a, MWalk P ops S VC D sp Q (k + 1) rest a w → K a) → ∀ W : World, S W → if Region.wanted o (yielded ops a.tmps) then UponC P VC (Drawn W) (fun v => K (a.put o.dst v)) ((execOp a.eval o).run P W) else K (a.put o.dst undef)) :
    MWalk P ops S VC D sp Q k (o :: rest) a w := by
  have h := h _ (fun _ h => h)
  refine ⟨fun e => (by rw [hk] at e; cases e), fun _ => ⟨fun hw W hW => ?_, fun v hv => ?_⟩⟩
  · have := h W hW
    rw [if_pos hw] at this
    revert this
    generalize (execOp a.eval o).run P W = r
    intro this
    unfold UponC at this
    unfold FineRes
    split at this
    · exact this.1
    · exact this.1
    · exact ⟨this.1, this.2.1⟩
    · cases this
  · rcases hv with ⟨hw, w1, w2, hS, hv⟩ | ⟨hw, rfl⟩
    · have := h w1 hS
      rw [if_pos hw] at this
      unfold UponC at this
      rcases hv with hv | ⟨hv, rfl⟩ | ⟨f, args, hv, hvc⟩
      · rw [hv] at this; exact this.2
      · rw [hv] at this; exact this.2
      · rw [hv] at this; exact this.2.2 v hvc
    · have := h w h0
      rwa [if_neg (by rw [hw]; exact Bool.false_ne_true)] at this
theorem mwalk_spec (hk : sp.contains k = true) (h0 : S w) (h : ∀ K : Act → World → Prop, (∀ a w', MWalk P ops S VC D sp Q (k + 1) rest a w' → K a w') → ∀ n : Nat, if Region.wanted o (yielded ops a.tmps) then SpecRes P D (fun v w' => S w' ∧ K (a.put o.dst v) w') ((execOp a.eval o).run P (w.drewN n)) else K (a.put o.dst undef) w) :
    MWalk P ops S VC D sp Q k (o :: rest) a w := by
  have h := h _ (fun _ _ h => h)
  refine ⟨fun _ => ⟨fun hw n => ?_, fun hw => ?_⟩, fun e => (by rw [hk] at e; cases e)⟩
  · have := h n
    rwa [if_pos hw] at this
  · have := h 0
    rw [if_neg (by rw [hw]; exact Bool.false_ne_true)] at this
    exact ⟨h0, this⟩
theorem mwalk_nil (hq : Q a w) : MWalk P ops S VC D sp Q k [] a w := hq
/-- an append, where the new list lies told -/
theorem specRes_append {K : Value → World → Prop} {E : Prop} (hgd : o.guard = none) (s x : Operand) (t : TypeId)
    (ho : o.op = .call { callee := .builtin .append, args := #[s, x], argTypes := #[t, t] })
    (base : Nat) (e : TypeId) (i : TypeInfo) (z : Value) (size bytes : Nat) (ht : P.underlying t = some (.slice e)) (hi : P.info? e = some i) (hz : i.zero = some z)
    (hsize : i.size = size) (hby : i.bytes = bytes) (hzs : z.cells.size = size) (hsz : 0 < size)
    (v : Value) (n : Nat) (xs : List Value) (hs : a.eval s = v) (hown : w.ownsRow base e size v n xs)
    (ad : Addr) (m c : Nat) (news : List Value) (hx : a.eval x = .slice (some ad) m c) (hl : news.length = m * size) (hnews : ∀ j u, news[j]? = some u → w.cell? (ad.add j) = some u) (h1 : ∀ u ∈ news, u.oneCell' = true)
    (h63 : n + m ≤ maxLen) (hbytes : (n + m) * bytes ≤ 140737488355328) (hbase : base ≤ w.heap.size)
    (h : ∀ v' w', w'.ownsRow base e size v' (n + m) (xs ++ news) → w.grownBy w' v.ownBlock → (v'.ownBlock = v.ownBlock ∨ v'.ownBlock = some w.heap.size) → Below base w w' → K v' w') :
    if Region.wanted o (yielded ops a.tmps) = true then SpecRes P D K ((execOp a.eval o).run P w) else E := by
  have hw : Region.wanted o (yielded ops a.tmps) = true := by simp [Region.wanted, hgd]
  rw [if_pos hw]
  obtain ⟨v', w', hr, h2, h3, _, h5⟩ := run_append_own_at (P := P) w base t o.type e i z size bytes ht hi hz hsize hby hzs hsz v n xs hown ad m c news hl hnews h1 h63 hbytes hbase
  unfold execOp
  simp only [ho, resolve, invoke, builtin, Sem.run_bind, Sem.run_pure, Result.andThen_ok, List.map_toArray, List.map_cons, List.map_nil, hs, hx, hr]
  exact h v' w' h2 h3 h5 ((Below.refl _ _).grown h3 hbase (fun j hj => (hown.lt j hj).1))
end
end Go.Proofs.Ytmkfcaahdmdpaaa
/- Tapes that are copied by the reference. No condition. -/
namespace Go.Proofs.Ytmkfcaahdmdpaaa
open Go Go.RowKit
set_option linter.unusedVariables false
set_option linter.unusedSimpArgs false
theorem spec_l02OwnF (w : World) (ad : Option Addr) (cap : Nat) (xs : List Nat) (h : F32s w ad cap xs) (hc : ad = none → cap = 0) (hn : xs.length ≤ 1048576) :
    Calls Try.prog 147 #[.slice ad xs.length cap] w fun e w' => ∃ ad' cap', e = .returned (.slice ad' xs.length cap') ∧ Hid (RepF w' w.heap.size w'.heap.size ad' xs.length cap' xs) ∧ Below w.heap.size w w' := by
  refine (spec_l02Own w ad cap xs h hc hn).mono ?_
  rintro e w' ⟨v, rfl, ho, hb⟩
  obtain ⟨ad', cap', rfl, hr⟩ := RepF.of_owns ho h.lt
  exact ⟨ad', cap', rfl, Lib.hid hr, hb⟩
theorem os_snoc {w W w9 : World} {B k cap : Nat} {ad : Option Addr} {S : List OpD} {s : OpD} {v' : Value} {o : Obj} (h : OwnR opR w B w.heap.size ad k cap S) (hB : B ≤ w.heap.size) (hb : Below w.heap.size w W) (hok : s.ok) {hi1 : Nat} (hr : RepF W w.heap.size hi1 s.ad s.xs.length s.cap s.xs) (hh : hi1 ≤ W.heap.size) (hh0 : w.heap.size ≤ hi1)
    (ho : w9.ownsRow B 111 7 v' (k + 1) (S.flatMap opR.cells ++ s.cells)) (hg : (W.alloc o).grownBy w9 (Value.slice ad k cap).ownBlock) (hat : v'.ownBlock = (Value.slice ad k cap).ownBlock ∨ v'.ownBlock = some (W.heap.size + 1)) :
    ∃ ad' cap', v' = .slice ad' (k + 1) cap' ∧ OwnR opR w9 B w9.heap.size ad' (k + 1) cap' (S ++ [s]) :=
  h.snoc hB hb hok hr.ownRow hh hh0 ho hg hat
theorem os_row {w W : World} {B k cap : Nat} {ad : Option Addr} {S : List OpD} (h : OwnR opR w B w.heap.size ad k cap S) (hb : Below w.heap.size w W) : W.ownsRow B 111 7 (.slice ad k cap) k (S.flatMap opR.cells) := (h.below hb).own.head.own
theorem OwnR.nil1 {α : Type} (R : RecT α) (w : World) : OwnR R (w.alloc (.cells #[] R.e)) w.heap.size (w.alloc (.cells #[] R.e)).heap.size (some ⟨w.heap.size, 0, none⟩) 0 0 [] :=
  ⟨Own.one (Row.mk' (World.ownsRow_made _ _ _ (Nat.le_refl _) (Nat.zero_le _) (by simp))), rfl, fun a ha => (nomatch ha)⟩
/-- what a call gives that copies a list -/
def OwnF (n : Nat) (xs : List Nat) (f : FuncId) (args : Array Value) (w1 : World) (v : Value) (w2 : World) : Prop := ∃ ad cap, v = .slice ad n cap ∧ RepF w2 w1.heap.size w2.heap.size ad n cap xs ∧ Below w1.heap.size w1 w2
set_option maxHeartbeats 4000000 in
set_option maxRecDepth 100000 in
theorem spec_l04Own (w : World) (ad : Option Addr) (cap : Nat) (os : List OpD) (h : SeeR opR w ad cap os) (hno : nilOK os) (hn : os.length ≤ 1048576) (hi2 : ∀ o ∈ os, o.xs.length ≤ 1048576) :
    Calls Try.prog 146 #[.slice ad os.length cap] w fun e w' => ∃ ad' cap' us, e = .returned (.slice ad' os.length cap') ∧ Hid (OwnR opR w' w.heap.size w'.heap.size ad' os.length cap' us ∧ us.map OpD.toOpP = os.map OpD.toOpP) ∧ Below w.heap.size w w' := by
  obtain ⟨i0, hi0, hz0, hzs, hz2⟩ := info_parts info_op
  obtain ⟨n, hN⟩ : ∃ n, n = os.length := ⟨_, rfl⟩
  rw [← hN] at hn ⊢
  have HN := Lib.hid hN; have HI2 := Lib.hid hi2; have H := Lib.hid h; have HNO := Lib.hid hno; clear hN hi2 h hno
  go_enter Try.func146, Try.ntmps146
  go_wp2
  go_loopw [3, 4] (fun v i wt => ∃ k : Nat, i = .int .i64 k ∧ k ≤ n ∧ ∃ (ad' : Option Addr) (cap' : Nat) (us : List OpD), v = .slice ad' k cap' ∧ Hid (OwnR opR wt w.heap.size wt.heap.size ad' k cap' us) ∧ Hid (us.map OpD.toOpP = (os.map OpD.toOpP).take k) ∧ Hid (Below w.heap.size w wt)) (fun _ i _ => n - (intOf i).toNat)
  case atStart => exact ⟨0, rfl, Nat.zero_le _, _, _, [], rfl, Lib.hid (OwnR.nil1 opR w), Lib.hid rfl, Lib.hid (below1 _ _)⟩
  case round =>
    obtain ⟨k, rfl, hk, ad', cap', us, rfl, HR, HE, HB⟩ := hrel
    by_cases hlt : k < n
    · obtain ⟨o, ho⟩ := getElem?_lt (show k < os.length by rw [← HN.out]; exact hlt)
      obtain ⟨b, off, rfl, hbl, ⟨p0, p1, p2, p3, p4, p5, p6⟩, hf, hok⟩ := op_spot (H.out.below HB.out) ho
      have hm := List.mem_of_getElem? ho
      have K := Lib.hid (fun W (hb : Below wr.heap.size wr W) => spec_l02OwnF W o.ad o.cap o.xs (hf.below hb) (HNO.out o hm) (HI2.out o hm))
      have HO := Lib.hid ho; have HK := Lib.hid hok
      have hbx := BoxN.alloc wr o.cells.toArray 111
      have BX := Lib.hid (show BoxN (wr.alloc (.cells o.cells.toArray 111)) wr.heap.size o.cells from hbx)
      clear hf ho hok hm hbx
      obtain ⟨⟨kk, a, b', q, r, c, xs⟩, adx, capx⟩ := o
      unfold OpD.cells at BX
      simp only at p0 p1 p2 p3 p4 p5 p6 K BX
      obtain ⟨m, hM⟩ : ∃ m, m = xs.length := ⟨_, rfl⟩
      rw [← hM] at p6 K BX
      have HM := Lib.hid hM
      clear hM
      have B1 := Lib.hid (below1 wr (.cells #[.int .i64 kk, .int .i64 a, .int .i64 b', .float .f32 q, .int .i64 r, .int .i64 c, .slice adx m capx] 111))
      obtain ⟨xl, x0, x1, x2, x3, x4, x5, x6, xf⟩ := BX.out.seven
      go_upto_region 6 with fail
      obtain ⟨W1, hW1⟩ : ∃ W1, W1 = wr.alloc (.cells #[.int .i64 kk, .int .i64 a, .int .i64 b', .float .f32 q, .int .i64 r, .int .i64 c, .slice adx m capx] 111) := ⟨_, rfl⟩
      rw [← hW1]
      rw [← hW1] at x4 x5 x6
      have hS0 : W1.cell? ⟨wr.heap.size, 4, none⟩ = some (.int .i64 r) ∧ W1.cell? ⟨wr.heap.size, 4 + 1, none⟩ = some (.int .i64 c) ∧ W1.cell? ⟨wr.heap.size, 4 + 2, none⟩ = some (.slice adx m capx) := ⟨x4, x5, x6⟩
      have HS0 := Lib.hid hS0; have HW1 := Lib.hid hW1
      clear hS0 hW1 x0 x1 x2 x3 x4 x5 x6 p0 p1 p2 p3 p4 p5 p6 xl xf
      refine wp_region_mix 12 [9] (fun W => W.cell? ⟨wr.heap.size, 4, none⟩ = some (.int .i64 r) ∧ W.cell? ⟨wr.heap.size, 4 + 1, none⟩ = some (.int .i64 c) ∧ W.cell? ⟨wr.heap.size, 4 + 2, none⟩ = some (.slice adx m capx)) (fun _ _ _ => False) (OwnF m xs) (by kernel_rfl) (by kernel_rfl) HS0.out (fun W q h => by simpa using h) ?_
      iterate 9 (refine mwalk_plain (by rfl) HS0.out (fun K hK W hW => ?_); obtain ⟨d4, d5, d6⟩ := hW; go_simp; refine hK _ ?_; clear hK K d4 d5 d6)
      refine mwalk_spec (by rfl) HS0.out (fun K' hK dq => ?_)
      go_simp
      have hb1 : Below wr.heap.size wr (W1.drewN dq) := below_drewN (by rw [HW1.out]; exact B1.out) dq
      have BXQ := Lib.hid ((show BoxN W1 wr.heap.size _ by rw [HW1.out]; exact BX.out).below (below_drewN (Below.refl _ _) dq))
      have hz1 : W1.heap.size = wr.heap.size + 1 := by rw [HW1.out]; simp
      refine ⟨(K.out _ hb1).mono ?_, ?_⟩
      · rintro e w1 ⟨a2, c2, rfl, HX, hb⟩
        exact ⟨_, rfl, _, _, rfl, HX.out, hb⟩
      rintro v w2 ⟨a2, c2, rfl, hx2, hb2⟩
      have BX2 := Lib.hid (BXQ.out.below hb2)
      obtain ⟨xl, x0, x1, x2, x3, x4, x5, x6, xf⟩ := BX2.out.seven
      refine ⟨⟨x4, x5, x6⟩, hK _ _ ?_⟩
      have hB2 : Below wr.heap.size wr w2 := bthen hb1 hb2
      have hz2 : wr.heap.size + 1 ≤ w2.heap.size := by have := hb2.size; simp at this; omega
      have HX2 := Lib.hid hx2; have HB2 := Lib.hid hB2; have HS2 := Lib.hid (show w2.cell? ⟨wr.heap.size, 4, none⟩ = some (.int .i64 r) ∧ w2.cell? ⟨wr.heap.size, 4 + 1, none⟩ = some (.int .i64 c) ∧ w2.cell? ⟨wr.heap.size, 4 + 2, none⟩ = some (.slice adx m capx) from ⟨x4, x5, x6⟩)
      clear hK K' hb1 hb2 hx2 hB2 BXQ x0 x1 x2 x3 x4 x5 x6 K
      iterate 2 (refine mwalk_plain (by rfl) HS2.out (fun K hK W hW => ?_); obtain ⟨d4, d5, d6⟩ := hW; go_simp; refine hK _ ?_; clear hK K d4 d5 d6)
      refine mwalk_nil (fun q3 => ?_)
      have BX3 := Lib.hid (BX2.out.below (below_drewN (Below.refl _ _) q3))
      have HX3 := Lib.hid (HX2.out.below (below_drewN (Below.refl _ _) q3))
      have HB3 := Lib.hid (below_drewN HB2.out q3)
      have hz3 : wr.heap.size + 1 ≤ (w2.drewN q3).heap.size := by simpa using hz2
      have hup : W1.heap.size ≤ w2.heap.size := by omega
      have HUP : Hid ((W1.drewN dq).heap.size = wr.heap.size + 1 ∧ w2.heap.size ≤ (w2.drewN q3).heap.size) := Lib.hid ⟨by simpa using hz1, by simp⟩
      generalize w2.drewN q3 = w3 at BX3 HX3 HB3 hz3 HUP ⊢
      obtain ⟨xl, x0, x1, x2, x3, x4, x5, x6, xf⟩ := BX3.out.seven
      clear BX2 HX2 HB2 HS2 hup hz2
      have hr4 := setCs_repF (g := wr.heap.size) (lo' := wr.heap.size) (i := 4) HX3.out (by rw [HUP.out.1]; omega) (by rw [HUP.out.1]; omega) HUP.out.2 [.int .i64 r, .int .i64 c, .slice a2 m c2]
      have hb4 := setCs_below HB3.out (g := wr.heap.size) (Nat.le_refl _) 4 [.int .i64 r, .int .i64 c, .slice a2 m c2]
      have HR4 := Lib.hid hr4; have HB4 := Lib.hid hb4
      clear hr4 hb4 HX3 HB3 HUP hz1
      have HRW := Lib.hid (fun W hb => os_row HR.out (W := W) hb)
      go_wp2_with (at_builtin; refine wp_appA rfl _ _ 73 rfl w.heap.size i0 (.agg #[.int .i64 0, .int .i64 0, .int .i64 0, .float .f32 0, .int .i64 0, .int .i64 0, .slice none 0 0]) 7 72 Try.underlying73 hi0 hz0 hzs hz2 rfl (by decide) rfl (by intro u hu; simp at hu; rcases hu with rfl | rfl | rfl | rfl | rfl | rfl | rfl <;> rfl) _ _ _ rfl (HRW.out _ HB4.out) (by go_simp) ?c3 ?c4 ?c5 ?_)
      case c3 => unfold maxLen; omega
      case c4 => omega
      case c5 => exact Nat.le_trans HB.out.size HB4.out.size
      intro v' w9 ho9 hg9 hat9 hb9 hs9
      have hM := HM.out
      obtain ⟨ad9, cap9, rfl, hown9⟩ := os_snoc (s := ⟨⟨kk, a, b', q, r, c, xs⟩, a2, c2⟩) HR.out HB.out.size HB4.out HK.out (by rw [← hM]; exact HR4.out) (Nat.le_refl _) (setCs_size w3 _ _ _ ▸ Nat.le_trans (Nat.le_succ _) hz3) (by show w9.ownsRow _ _ _ _ _ (_ ++ [Value.int .i64 kk, .int .i64 a, .int .i64 b', .float .f32 q, .int .i64 r, .int .i64 c, .slice a2 xs.length c2]); rw [← hM]; exact ho9) hg9 (by rw [setCs_size]; simpa [World.setCell] using hat9)
      have HO9 := Lib.hid hown9; have HB9 := Lib.hid ((HB.out.trans (HB4.out.mono HB.out.size)).trans hb9)
      have HE9 : Hid ((us ++ [(⟨⟨kk, a, b', q, r, c, xs⟩, a2, c2⟩ : OpD)]).map OpD.toOpP = (os.map OpD.toOpP).take (k + 1)) := Lib.hid (by
        rw [List.map_append, HE.out, List.take_add_one, List.getElem?_map, HO.out]; rfl)
      clear ho9 hg9 hat9 hb9 hown9 HR HE HB HB4 HR4 HRW hM x0 x1 x2 x3 x4 x5 x6 BX3
      go_wp2
      go_roundw
      case rel => exact ⟨k + 1, by go_num, hlt, _, _, _, rfl, HO9, HE9, HB9⟩
      case measure => simp [intOf]; omega
    · have hkn : k = n := by omega
      subst hkn
      have hE : us.map OpD.toOpP = os.map OpD.toOpP := by
        have := HE.out
        rwa [List.take_of_length_le (by simp [HN.out])] at this
      have HA := Lib.hid (And.intro HR.out hE)
      clear hE
      go_wp2
      go_ret
      exact ⟨_, _, us, rfl, HA, HB.out⟩
end Go.Proofs.Ytmkfcaahdmdpaaa
/- A region whose operations before a call serve it alone, and whose operations behind it look at its results: one walk. No condition. -/
namespace Go.Proofs.Ytmkfcaahdmdpaaa
open Go
set_option linter.unusedVariables false
section
variable {P : Program} {ops : Array Oper} {C : World → Prop} {VC : FuncId → Array Value → Value → Prop}
def chainQ (md : Region.Mode) (ops : Array Oper) (n : Nat) : Bool := (List.range ops.size).all fun t => decide (t ≤ n) || (List.range t).any fun t' => decide (n ≤ t') && waitsP md ops t t'
def afterC (md : Region.Mode) (ops : Array Oper) (g k : Nat) (listed : Array Bool) : Bool := decide (Region.ready md ops listed = [k]) && Region.lexFrom md ops g (k + 1) (listed.setIfInBounds k true)
def lexHeadC (md : Region.Mode) (ops : Array Oper) (g : Nat) : Nat → Nat → Array Bool → Bool
  | 0, k, listed => afterC md ops g k listed
  | f + 1, k, listed => (Region.ready md ops listed).contains k && Region.free md ops listed k && lexHeadC md ops g f (k + 1) (listed.setIfInBounds k true)
theorem afterC_ready {md : Region.Mode} {g k : Nat} {listed : Array Bool} (h : afterC md ops g k listed = true) : ∀ j ∈ Region.ready md ops listed, k ≤ j := by
  intro j hj
  simp only [afterC, Bool.and_eq_true, decide_eq_true_eq] at h
  rw [h.1] at hj
  simp at hj; omega
theorem late2 {md : Region.Mode} {p n : Nat} {listed : Array Bool} (hs : sinkP md ops p n = true) (hc : chainQ md ops n = true) (hn : n < ops.size) (inv : HInv md ops n listed) (hp : ∀ j, j < p → listed.getD j false = true) :
    ∀ (d i : Nat), n - i = d → i < n → listed.getD i true = false → ∀ t, n ≤ t → t ∉ Region.ready md ops listed := by
  intro d
  induction d using Nat.strongRecOn with
  | _ d ih =>
    intro i hd hi hun t ht hr
    have hip : ¬ i < p := fun h => by have := hp i h; rw [getD_two hun] at this; cases this
    have h1 := List.all_eq_true.1 hs i (List.mem_range.2 hi)
    simp only [Bool.or_eq_true, decide_eq_true_eq, hip, false_or, List.any_eq_true, List.mem_range, Bool.and_eq_true] at h1
    obtain ⟨k, hk, hik, hw⟩ := h1
    obtain ⟨ok, hok, e, he, hb, hon⟩ := waitsP_spec hw
    have hks : k < ops.size := (Array.getElem?_eq_some_iff.1 hok).1
    obtain ⟨hunt, ot, hot, hall⟩ := mem_ready.1 hr
    have htlt : t < ops.size := (Array.getElem?_eq_some_iff.1 hot).1
    by_cases hkn : k = n
    · subst hkn
      by_cases htk : t = k
      · subst htk
        obtain rfl : ok = ot := Option.some.inj (hok.symm.trans hot)
        have := hall e he hb
        rw [hon, getD_two hun] at this; cases this
      · have h2 := List.all_eq_true.1 hc t (List.mem_range.2 htlt)
        simp only [Bool.or_eq_true, decide_eq_true_eq] at h2
        rcases h2 with h2 | h2
        · omega
        · obtain ⟨t', ht', hq⟩ := List.any_eq_true.1 h2
          simp only [Bool.and_eq_true, decide_eq_true_eq] at hq
          have ht'' := List.mem_range.1 ht'
          obtain ⟨o', ho', e', he', hb', hon'⟩ := waitsP_spec hq.2
          obtain rfl : o' = ot := Option.some.inj (ho'.symm.trans hot)
          have := hall e' he' hb'
          rw [hon', getD_two (inv.tail t' (by omega) (by omega))] at this; cases this
    · have hkl : listed.getD k false = false := by
        cases hl : listed.getD k false with
        | false => rfl
        | true => have := inv.closed k ok hok hl e he hb; rw [hon, getD_two hun] at this; cases this
      exact ih (n - k) (by omega) k rfl (by omega) (getD_in2 (by rw [inv.size]; exact hks) hkl) t ht hr
theorem tset_first2 {md : Region.Mode} {p n : Nat} {L : Array Bool → Act → Prop} {w0 : World} (h0 : C w0) {i : Nat} {oi : Oper} (hi : ops[i]? = some oi) (hsel : ∀ (j : Nat) (o : Oper) cs b, ops[j]? = some o → o.op ≠ .select cs b)
    (hs : sinkP md ops p n = true) (hc : chainQ md ops n = true) (hn : n < ops.size) (hin : i < n) (hdone : ∀ listed a, L listed a → ∀ j ∈ Region.ready md ops listed, n ≤ j) :
    ∀ (fuel : Nat) (listed : Array Bool) (a : Act), HInv md ops n listed → (∀ j, j < p → listed.getD j false = true) →
      (∀ j oj, ops[j]? = some oj → j ≠ i → listed.getD j true = false → (∀ e ∈ oj.after, Region.binds md e = true → e.on ≠ i) → oi.apart ops oj = true) →
      i ∈ Region.ready md ops listed → Good P ops C VC oi a →
      (∀ v, Vals P ops C VC oi a v → TSet P md ops C VC n L fuel (listed.setIfInBounds i true) (a.put oi.dst v)) → TSet P md ops C VC n L (fuel + 1) listed a
  | 0, listed, a, inv, hp, _, hr, hg, H => by
    have hun := (mem_ready.1 hr).1
    refine ⟨fun e => (by rw [e] at hr; cases hr), fun j hj o ho => ?_⟩
    have hjn : j < n := by
      rcases Nat.lt_or_ge j n with h | h
      · exact h
      · exact absurd hj (late2 hs hc hn inv hp _ i rfl hin hun j h)
    by_cases hji : j = i
    · subst hji
      obtain rfl : oi = o := Option.some.inj (hi.symm.trans ho)
      exact ⟨hjn, hg, H⟩
    · exfalso
      obtain ⟨v, hv⟩ := some_val h0 hg
      have := hdone _ _ (H v hv) j (ready_mono hj hji)
      omega
  | fuel + 1, listed, a, inv, hp, hfree, hr, hg, H => by
    have huni := (mem_ready.1 hr).1
    refine ⟨fun e => (by rw [e] at hr; cases hr), fun j hj oj hoj => ?_⟩
    have hjn : j < n := by
      rcases Nat.lt_or_ge j n with h | h
      · exact h
      · exact absurd hj (late2 hs hc hn inv hp _ i rfl hin huni j h)
    by_cases hji : j = i
    · subst hji
      obtain rfl : oi = oj := Option.some.inj (hi.symm.trans hoj)
      exact ⟨hjn, hg, H⟩
    · have hun : listed.getD j true = false := (mem_ready.1 hj).1
      have hno : ∀ e ∈ oj.after, Region.binds md e = true → e.on ≠ i := by
        intro e he hb hon
        obtain ⟨_, o', ho', hall⟩ := mem_ready.1 hj
        obtain rfl : oj = o' := Option.some.inj (hoj.symm.trans ho')
        have h1 := hall e he hb
        rw [hon, getD_two huni] at h1; cases h1
      obtain ⟨x1, x2, x3⟩ := Oper.apart_spec (hfree j oj hoj hji hun hno)
      have si := fun cs b => hsel i oi cs b hi
      have sj := fun cs b => hsel j oj cs b hoj
      have gj : ∀ v, (Good P ops C VC oj (a.put oi.dst v) ↔ Good P ops C VC oj a) := fun v => good_put (execOp_put oj sj a oi.dst v x1) (wanted_put oj a oi.dst v x1)
      have vj : ∀ v u, (Vals P ops C VC oj (a.put oi.dst v) u ↔ Vals P ops C VC oj a u) := fun v u => vals_put (execOp_put oj sj a oi.dst v x1) (wanted_put oj a oi.dst v x1)
      have gi : ∀ u, (Good P ops C VC oi (a.put oj.dst u) ↔ Good P ops C VC oi a) := fun u => good_put (execOp_put oi si a oj.dst u x3) (wanted_put oi a oj.dst u x3)
      have vi : ∀ u v, (Vals P ops C VC oi (a.put oj.dst u) v ↔ Vals P ops C VC oi a v) := fun u v => vals_put (execOp_put oi si a oj.dst u x3) (wanted_put oi a oj.dst u x3)
      obtain ⟨v0, hv0⟩ := some_val h0 hg
      have hj' := ready_mono hj hji
      refine ⟨hjn, (gj v0).1 ((H v0 hv0).2 j hj' oj hoj).2.1, fun u hu => ?_⟩
      refine tset_first2 h0 hi hsel hs hc hn hin hdone fuel (listed.setIfInBounds j true) (a.put oj.dst u) (inv.set hj hjn) (fun q hq => getD_set_true (hp q hq)) ?_ (ready_mono hr (Ne.symm hji)) ((gi u).2 hg) fun v hv => ?_
      · intro k ok hk hki hun' hno'
        refine hfree k ok hk hki ?_ hno'
        by_cases hjk : j = k
        · subst hjk; exact hun
        · rw [getD_set_ne true hjk] at hun'; exact hun'
      · have := ((H v ((vi u v).1 hv)).2 j hj' oj hoj).2.2 u ((vj v u).2 hu)
        rw [Array.setIfInBounds_comm _ _ hji, ← Act.put_comm a v u x2]
        exact this
theorem tset_lex2 {md : Region.Mode} {p n g : Nat} {Lq : Act → Prop} {w0 : World} (h0 : C w0) (hsel : Region.noSelect ops = true) (hs : sinkP md ops p n = true) (hc : chainQ md ops n = true) (hn : n < ops.size) :
    ∀ (l : List Oper) (k : Nat) (listed : Array Bool) (a : Act), (∀ j, j < l.length → l[j]? = ops[k + j]?) → k + l.length = n → HInv md ops n listed → (∀ j, j < p → listed.getD j false = true) →
    lexHeadC md ops g l.length k listed = true → WSet P ops C VC Lq l a →
    TSet P md ops C VC n (fun listed' a' => afterC md ops g n listed' = true ∧ Lq a') l.length listed a
  | [], k, listed, a, _, hk, _, _, hB, h => by
    have : k = n := by simpa using hk
    subst this
    exact ⟨by simpa [lexHeadC] using hB, h⟩
  | o :: l, k, listed, a, hl, hk, inv, hp, hB, h => by
    have hk0 : ops[k]? = some o := by simpa using (hl 0 (by simp)).symm
    simp only [List.length_cons, lexHeadC, Bool.and_eq_true] at hB
    obtain ⟨⟨hr, hf⟩, hB'⟩ := hB
    have hkn : k < n := by simp only [List.length_cons] at hk; omega
    have hr' : k ∈ Region.ready md ops listed := by simpa using hr
    refine tset_first2 h0 hk0 (Region.noSelect_spec hsel) hs hc hn hkn (fun listed' a' hL => afterC_ready hL.1) l.length listed a inv hp (Region.free_spec hk0 hf) hr' h.1 fun v hv => ?_
    exact tset_lex2 h0 hsel hs hc hn l (k + 1) _ _ (fun j hj => by have := hl (j + 1) (by simp; omega); simpa [Nat.add_assoc, Nat.add_comm 1 j] using this) (by simp only [List.length_cons] at hk; omega) (inv.set hr' hkn) (fun q hq => getD_set_true (hp q hq)) hB' (h.2 v hv)

/-- what is asked of the call -/
@[go_sem] def EnterS (P : Program) (w : World) (K : FuncId → Array Value → Prop) : Result Next → Prop
  | .ok (.enter f args) w' => w' = w ∧ K f args
  | _ => False
def callB (ops : Array Oper) (n : Nat) : Bool :=
  Region.noSelect ops && decide (n < ops.size) && sinkP .any ops 0 n && chainQ .any ops n && lexHeadC .any ops (ops.size - n - 1) n 0 (Array.replicate ops.size false)
/-- **a region with a call, number 'n', that all before it serve and all behind it wait for** -/
theorem wp_region_call {id : Nat} {Q : Exit → Act → World → Prop} {a : Act} {w : World} {l : List Oper} (n : Nat) (VC : FuncId → Array Value → Value → Prop) (o : Oper) (ho : l[n]? = some o) (hgd : o.guard = none) (hm : P.follows .mixedOrders = true) (hB : callB l.toArray n = true)
    (h : WSet P l.toArray (Drawn w) VC (fun a' => ∀ w', Drawn w w' → EnterS P w' (fun f args => Calls P f args w' fun e w'' => ∃ v, e = .returned v ∧ WSet P l.toArray (Drawn w'') VC (fun a3 => ∀ w3, Drawn w'' w3 → Q .normal a3 w3) (l.drop (n + 1)) (a'.put o.dst v)) ((execOp a'.eval o).run P w')) (l.take n) a) :
    (Code.region id l.toArray true).wp P Q a w := by
  simp only [callB, Bool.and_eq_true, decide_eq_true_eq] at hB
  obtain ⟨⟨⟨⟨hsel, hn⟩, hs⟩, hc⟩, hlex⟩ := hB
  have hn' : n < l.length := by simpa using hn
  have htl : (l.take n).length = n := by simp; omega
  have hdl : (l.drop (n + 1)).length = l.toArray.size - n - 1 := by simp; omega
  have gf : ∀ i, (Array.replicate l.toArray.size false).getD i false = false := fun i => by
    simp only [Array.getD_eq_getD_getElem?, Array.getElem?_replicate]; split <;> rfl
  have inv0 : HInv .any l.toArray n (Array.replicate l.toArray.size false) :=
    ⟨by simp, fun j oj _ hl => (by rw [gf] at hl; cases hl), fun t _ ht => getD_in2 (by simpa using ht) (gf t)⟩
  have hd : Drawn w { w with drawn := w.drawn + 1 } := ⟨1, rfl⟩
  have H := tset_lex2 (VC := VC) (md := .any) (g := l.toArray.size - n - 1) hd hsel hs hc hn (l.take n) 0 _ a (fun j hj => by
    have hj' : j < n := by rw [htl] at hj; exact hj
    simp [hj']) (by simpa using htl) inv0 (fun j hj => by omega) (by rw [htl]; exact hlex) h
  refine wp_region_any hm ?_
  have := any_of_tset (Q' := Q) (g := (l.toArray.size - n - 1) + 1) (fun listed a' w' hw' hL => by
    obtain ⟨hL1, hL2⟩ := hL
    simp only [afterC, Bool.and_eq_true, decide_eq_true_eq] at hL1
    refine ⟨fun e => (by rw [hL1.1] at e; cases e), fun i hi => ?_⟩
    rw [hL1.1] at hi
    obtain rfl : i = n := by simpa using hi
    have ho' : l.toArray[i]? = some o := by simpa using ho
    have hE := hL2 w' hw'
    unfold wpOp
    simp only [ho']
    have hwant : Region.wanted o (yielded l.toArray a'.tmps) = true := by simp [Region.wanted, hgd]
    rw [if_pos hwant]
    left
    unfold Oper.wp
    unfold EnterS at hE
    split at hE
    · rename_i f args w1 he
      obtain ⟨rfl, hC⟩ := hE
      rw [he]
      refine hC.mono fun e w'' ⟨v, hev, hW⟩ => ?_
      subst hev
      have h1 := aset_lex (VC := VC) (md := .any) (C := Drawn w'') (w0 := w'') ⟨0, rfl⟩ hsel (l.drop (i + 1)) (i + 1) (listed.setIfInBounds i true) _ (fun j => by simp [List.getElem?_drop]) (by rw [hdl]; exact hL1.2) hW
      have h2 := any_of_aset (Q' := Q) (fun a3 w3 hw3 hq => hq w3 hw3) _ _ _ w'' ⟨0, rfl⟩ h1
      rwa [hdl] at h2
    · cases hE) _ _ _ _ hd H
  rw [htl, show n + ((l.toArray.size - n - 1) + 1) = l.toArray.size by omega] at this
  exact this
end
end Go.Proofs.Ytmkfcaahdmdpaaa
/- Whether an operation is an input; whether two tensors are alike; an input is replaced: the program. No condition. -/
namespace Go.Proofs.Ytmkfcaahdmdpaaa
open Go Go.RowKit
set_option linter.unusedVariables false
set_option linter.unusedSimpArgs false
/-- an operation of a valid tape is an input -/
def inpB (os : List OpP) (op : Int) : Bool := (shapesP os).isSome && (inB op 0 (os.length - 1) && (opAtP os op.toNat).k == 0)
theorem inpB_at {os : List OpP} {op : Int} (h : inpB os op = true) : ∃ S k o, shapesP os = some S ∧ op = (k : Nat) ∧ os[k]? = some o ∧ o.k = 0 ∧ tenB o.r o.c o.xs.length = true := by
  unfold inpB at h
  rw [Bool.and_eq_true, Bool.and_eq_true, inB_iff] at h
  obtain ⟨h1, ⟨h2, h3⟩, h4⟩ := h
  obtain ⟨S, hS⟩ := Option.isSome_iff_exists.1 h1
  obtain ⟨k, rfl⟩ : ∃ k : Nat, op = k := ⟨op.toNat, by omega⟩
  have hk : k < os.length := by omega
  have ho := List.getElem?_eq_getElem hk
  rw [show ((k : Nat) : Int).toNat = k by simp, opAtP_some ho] at h4
  have h5 : os[k].k = 0 := by simpa using h4
  exact ⟨S, k, os[k], hS, rfl, ho, h5, (fitsB_input (valid_fit hS ho) h5).2.2⟩
set_option maxHeartbeats 2000000 in
theorem impl_isInput (w : World) (ad : Option Addr) (cap : Nat) (os : List OpD) (h : SeeR opR w ad cap os) (op : Int) :
    Calls Try.prog 150 #[.slice ad os.length cap, .int .i64 op] w fun e w' => e = .returned (.bool (inpB (os.map OpD.toOpP) op)) ∧ Below w.heap.size w w' := by
  have K := Lib.hid (impl_ValidTape w ad cap os h)
  have hmx := Nat.le_trans h.le h.cap
  unfold maxLen at hmx
  have hE : inpB (os.map OpD.toOpP) op = ((shapesP (os.map OpD.toOpP)).isSome && (inB op 0 ((os.length : Int) - 1) && (opAtP (os.map OpD.toOpP) op.toNat).k == 0)) := by unfold inpB; rw [List.length_map]
  obtain ⟨n, hN⟩ : ∃ n, n = os.length := ⟨_, rfl⟩
  rw [← hN] at K hmx hE ⊢
  have KW := Lib.hid (fun W => within_any op 0 ((n : Int) - 1) W)
  have HE := Lib.hid hE; have HN := Lib.hid hN; have H := Lib.hid h
  clear hE hN h
  cases e1 : (shapesP (os.map OpD.toOpP)).isSome
  · rw [e1] at K
    have E1 := Lib.hid e1; clear e1
    go_enter Try.func150, Try.ntmps150
    go_wp2_with fail
    refine K.out.mono ?_
    rintro e w1 ⟨rfl, hb⟩
    go_wp2
    go_ret
    exact ⟨by rw [HE.out, E1.out]; rfl, hb⟩
  rw [e1] at K
  have E1 := Lib.hid e1; clear e1
  cases e2 : inB op 0 ((n : Int) - 1)
  · rw [e2] at KW
    have E2 := Lib.hid e2; clear e2
    go_enter Try.func150, Try.ntmps150
    go_wp2_with fail
    refine K.out.mono ?_
    rintro e w1 ⟨rfl, hb⟩
    go_wp2_with fail
    refine (KW.out _).mono ?_
    rintro e w2 ⟨rfl, rfl⟩
    go_wp2
    go_ret
    exact ⟨by rw [HE.out, E1.out, E2.out]; rfl, hb⟩
  rw [e2] at KW
  have ⟨h1, h2⟩ := inB_iff.1 e2
  have E2 := Lib.hid e2; clear e2
  obtain ⟨k, rfl⟩ : ∃ k : Nat, op = k := ⟨op.toNat, by omega⟩
  have hk : k < n := by omega
  obtain ⟨o, ho⟩ := getElem?_lt (show k < os.length by rw [← HN.out]; exact hk)
  have hk2 : (opAtP (os.map OpD.toOpP) ((k : Nat) : Int).toNat).k = o.k := by
    rw [show ((k : Nat) : Int).toNat = k by simp, opAtP_some (o := o.toOpP) (by rw [List.getElem?_map, ho]; rfl)]
  have HK2 := Lib.hid hk2
  have HF := Lib.hid (fun W hb => (op_spot (H.out.below (w' := W) hb) ho))
  obtain ⟨b, off, rfl, -, -⟩ := op_spot H.out ho
  have HP : Hid (∀ W, Below w.heap.size w W → W.cell? ⟨b, off + k * 7, none⟩ = some (.int .i64 o.k)) := Lib.hid (fun W hb => by
    obtain ⟨b', off', e, -, ⟨p0, -⟩, -⟩ := HF.out W hb
    cases e
    exact p0)
  clear HF hk2 ho h1 h2
  go_enter Try.func150, Try.ntmps150
  go_wp2_with fail
  refine K.out.mono ?_
  rintro e w1 ⟨rfl, hb⟩
  go_wp2_with fail
  refine (KW.out _).mono ?_
  rintro e w2 ⟨rfl, rfl⟩
  have p0 := HP.out _ hb
  have HB := Lib.hid hb; clear hb
  go_wp2
  go_ret
  exact ⟨by rw [HE.out, E1.out, E2.out, HK2.out]; rfl, HB.out⟩
/-- two tensors are valid and have as many rows and columns -/
def alikeB (r c : Int) (n : Nat) (r2 c2 : Int) (m : Nat) : Bool := tenB r c n && (tenB r2 c2 m && (decide (r = r2) && decide (c = c2)))
set_option maxHeartbeats 2000000 in
theorem impl_areAlike (w : World) (r c : Int) (a : Option Addr) (n ca : Nat) (r2 c2 : Int) (b : Option Addr) (m cb : Nat) (hn : n ≤ maxLen) (hm : m ≤ maxLen) :
    Calls Try.prog 106 #[.agg #[.int .i64 r, .int .i64 c, .slice a n ca], .agg #[.int .i64 r2, .int .i64 c2, .slice b m cb]] w fun e w' => e = .returned (.bool (alikeB r c n r2 c2 m)) ∧ Below w.heap.size w w' := by
  have K1 := Lib.hid (fun W => impl_ValidTensor r c a n ca hn W)
  have K2 := Lib.hid (fun W => impl_ValidTensor r2 c2 b m cb hm W)
  have K3 := Lib.hid (fun W => impl_sameShape r c r2 c2 (.slice a n ca) (.slice b m cb) W rfl rfl)
  have hE : alikeB r c n r2 c2 m = (tenB r c n && (tenB r2 c2 m && (decide (r = r2) && decide (c = c2)))) := rfl
  obtain ⟨E, hE0⟩ : ∃ E, E = alikeB r c n r2 c2 m := ⟨_, rfl⟩
  rw [← hE0] at hE ⊢
  have B1 := Lib.hid ((BoxN.alloc w #[.int .i64 r, .int .i64 c, .slice a n ca] 27).below (below1 _ (.cells #[.int .i64 r2, .int .i64 c2, .slice b m cb] 27)))
  have B2 := Lib.hid (BoxN.alloc2 w (.cells #[.int .i64 r, .int .i64 c, .slice a n ca] 27) #[.int .i64 r2, .int .i64 c2, .slice b m cb] 27)
  have B := Lib.hid (below2 w (.cells #[.int .i64 r, .int .i64 c, .slice a n ca] 27) (.cells #[.int .i64 r2, .int .i64 c2, .slice b m cb] 27))
  have HE := Lib.hid hE
  clear hE hE0 hn hm
  cases e1 : tenB r c n
  · rw [e1] at K1
    have E1 := Lib.hid e1; clear e1
    go_enter Try.func106, Try.ntmps106
    go_wp2_with fail
    refine (K1.out _).mono ?_
    rintro e w1 ⟨rfl, hb⟩
    have B := Lib.hid (bthen B.out hb); clear hb
    go_wp2
    go_ret
    exact ⟨by rw [HE.out, E1.out]; rfl, B.out⟩
  rw [e1] at K1
  have E1 := Lib.hid e1; clear e1
  cases e2 : tenB r2 c2 m
  · rw [e2] at K2
    have E2 := Lib.hid e2; clear e2
    go_enter Try.func106, Try.ntmps106
    go_wp2_with fail
    refine (K1.out _).mono ?_
    rintro e w1 ⟨rfl, hb⟩
    have B := Lib.hid (bthen B.out hb); have B1 := Lib.hid (B1.out.below hb); have B2 := Lib.hid (B2.out.below hb); clear hb
    obtain ⟨-, p0, p1, p2, -⟩ := B1.out.three; obtain ⟨-, q0, q1, q2, -⟩ := B2.out.three
    go_wp2_with fail
    refine (K2.out _).mono ?_
    rintro e w2 ⟨rfl, hb⟩
    have B := Lib.hid (bthen B.out hb); clear hb p0 p1 p2 q0 q1 q2
    go_wp2
    go_ret
    exact ⟨by rw [HE.out, E1.out, E2.out]; rfl, B.out⟩
  rw [e2] at K2
  have E2 := Lib.hid e2; clear e2
  obtain ⟨D, hD⟩ : ∃ D, D = (decide (r = r2) && decide (c = c2)) := ⟨_, rfl⟩
  rw [← hD] at K3
  have HD := Lib.hid hD; clear hD
  go_enter Try.func106, Try.ntmps106
  go_wp2_with fail
  refine (K1.out _).mono ?_
  rintro e w1 ⟨rfl, hb⟩
  have B := Lib.hid (bthen B.out hb); have B1 := Lib.hid (B1.out.below hb); have B2 := Lib.hid (B2.out.below hb); clear hb
  obtain ⟨-, p0, p1, p2, -⟩ := B1.out.three; obtain ⟨-, q0, q1, q2, -⟩ := B2.out.three
  go_wp2_with fail
  refine (K2.out _).mono ?_
  rintro e w2 ⟨rfl, hb⟩
  have B := Lib.hid (bthen B.out hb); have B1 := Lib.hid (B1.out.below hb); have B2 := Lib.hid (B2.out.below hb); clear hb p0 p1 p2 q0 q1 q2
  obtain ⟨-, p0, p1, p2, -⟩ := B1.out.three; obtain ⟨-, q0, q1, q2, -⟩ := B2.out.three
  go_wp2_with fail
  refine (K3.out _).mono ?_
  rintro e w3 ⟨rfl, hb⟩
  have B := Lib.hid (bthen B.out hb); clear hb p0 p1 p2 q0 q1 q2
  go_wp2
  go_ret
  exact ⟨by rw [HE.out, E1.out, E2.out, ← HD.out]; rfl, B.out⟩
end Go.Proofs.Ytmkfcaahdmdpaaa
/- An input is replaced: the program. No condition. -/
namespace Go.Proofs.Ytmkfcaahdmdpaaa
open Go Go.RowKit
set_option linter.unusedVariables false
set_option linter.unusedSimpArgs false
/-- the tape in which an input has other numbers; none if there is no such input, or the numbers do not fit -/
def replP (os : List OpP) (op : Int) (r c : Int) (xs : List Nat) : Option (List OpP) :=
  if inpB os op = true ∧ alikeB (opAtP os op.toNat).r (opAtP os op.toNat).c (opAtP os op.toNat).xs.length r c xs.length = true then some (os.set op.toNat { opAtP os op.toNat with xs := xs }) else none
theorem replP_no1 {os : List OpP} {op r c : Int} {xs : List Nat} (h : inpB os op = false) : replP os op r c xs = none := by
  unfold replP; rw [if_neg (fun e => by rw [h] at e; exact absurd e.1 (by decide))]
theorem replP_no2 {os : List OpP} {k : Nat} {r c : Int} {xs : List Nat} {o : OpP} (ho : os[k]? = some o) (h : alikeB o.r o.c o.xs.length r c xs.length = false) : replP os (k : Nat) r c xs = none := by
  unfold replP
  rw [show ((k : Nat) : Int).toNat = k by simp, opAtP_some ho, if_neg (fun e => by rw [h] at e; exact absurd e.2 (by decide))]
theorem replP_yes {os : List OpP} {k : Nat} {r c : Int} {xs : List Nat} {o : OpP} (ho : os[k]? = some o) (h1 : inpB os (k : Nat) = true) (h : alikeB o.r o.c o.xs.length r c xs.length = true) : replP os (k : Nat) r c xs = some (os.set k { o with xs := xs }) := by
  unfold replP
  rw [show ((k : Nat) : Int).toNat = k by simp, opAtP_some ho, if_pos ⟨h1, h⟩]
theorem alikeB_in {r c : Int} {n : Nat} {r2 c2 : Int} {m : Nat} (h : alikeB r c n r2 c2 m = true) : r2 = r ∧ c2 = c ∧ m = n ∧ tenB r c n = true := by
  unfold alikeB at h
  rw [Bool.and_eq_true, Bool.and_eq_true, Bool.and_eq_true, decide_eq_true_eq, decide_eq_true_eq] at h
  obtain ⟨h1, h2, rfl, rfl⟩ := h
  have e1 := (tenB_iff.1 h1).2.2
  have e2 := (tenB_iff.1 h2).2.2
  exact ⟨rfl, rfl, by omega, h1⟩
/-- a tape that is given back, or nothing -/
def OOOut (res : Option (List OpP)) (w w' : World) (ad : Option Addr) (n cap : Nat) (b : Bool) (us : List OpD) : Prop := (b = res.isSome ∧ us.map OpD.toOpP = res.getD []) ∧ OwnR opR w' w.heap.size w'.heap.size ad n cap us
theorem OOOut.no {res : Option (List OpP)} (h : res = none) (w w' : World) : OOOut res w w' none 0 0 false [] := ⟨⟨by rw [h]; rfl, by rw [h]; rfl⟩, OwnR.nil _ _ _ _⟩
def OOPost (res : Option (List OpP)) (w : World) (e : Ending) (w' : World) : Prop := ∃ ad' n' cap' b us, e = .returned (.tuple #[.slice ad' n' cap', .bool b]) ∧ Hid (OOOut res w w' ad' n' cap' b us) ∧ Below w.heap.size w w'
set_option maxHeartbeats 8000000 in
set_option maxRecDepth 100000 in
theorem impl_ReplaceInput (w : World) (ad : Option Addr) (cap : Nat) (os : List OpD) (h : SeeR opR w ad cap os) (hc : ad = none → cap = 0) (hno : nilOK os) (op : Int) (r c : Int) (av : Option Addr) (cv : Nat) (xs : List Nat) (hv : F32s w av cv xs) (hvc : av = none → cv = 0) (hi2 : ∀ o ∈ os, o.xs.length ≤ 1048576) :
    Calls Try.prog 62 #[.slice ad os.length cap, .int .i64 op, .agg #[.int .i64 r, .int .i64 c, .slice av xs.length cv]] w (OOPost (replP (os.map OpD.toOpP) op r c xs) w) := by
  have b1 := below1 w (.cells #[.int .i64 r, .int .i64 c, .slice av xs.length cv] 27)
  have K1 := Lib.hid (fun W (hb : Below w.heap.size w W) => impl_isInput W ad cap os (h.below hb) op)
  have XB := Lib.hid (BoxN.alloc w #[.int .i64 r, .int .i64 c, .slice av xs.length cv] 27)
  have hxm := Nat.le_trans hv.len hv.cap
  obtain ⟨m, hM⟩ : ∃ m, m = xs.length := ⟨_, rfl⟩
  obtain ⟨n, hN⟩ : ∃ n, n = os.length := ⟨_, rfl⟩
  rw [← hM] at XB hxm b1 ⊢
  rw [← hN] at K1 ⊢
  have HM := Lib.hid hM; have HN := Lib.hid hN; have H := Lib.hid h; have HV := Lib.hid hv; have HNO := Lib.hid hno; have HI2 := Lib.hid hi2; have HC := Lib.hid hc; have HVC := Lib.hid hvc
  have B1 := Lib.hid b1
  clear hM hN h hv hno hi2 hc hvc b1
  cases e1 : inpB (os.map OpD.toOpP) op
  · rw [e1] at K1
    have E1 := Lib.hid (fun W => OOOut.no (replP_no1 (r := r) (c := c) (xs := xs) e1) w W)
    clear e1
    go_enter Try.func62, Try.ntmps62
    go_wp2_with fail
    refine wp_region_low (VC1 (.bool false)) (by kernel_rfl) (by kernel_rfl) ?_
    repeat (refine cset_step (low_self _) (fun K hK W hW => ?_); first | (go_simp; refine hK _ ?_; clear hK K) | (go_simp; refine ⟨(K1.out _ (B1.out.trans (Below.mono hW (by simp)))).mono ?_, ?_⟩; (rintro e w1 ⟨rfl, hb⟩; exact ⟨_, rfl, bthen hW hb, rfl⟩); (rintro v hv; obtain rfl := hv; refine hK _ ?_; clear hK K)))
    refine cset_nil ?_
    intro w1 hw1
    have HB := Lib.hid (B1.out.trans (Below.mono hw1 (by simp))); clear hw1
    all_goals
      go_wp2
      go_ret2
      exact ⟨_, _, _, _, [], rfl, Lib.hid (E1.out _), HB.out⟩
  rw [e1] at K1
  obtain ⟨S, k, p, hS, rfl, hp, hk0, hten⟩ := inpB_at e1
  obtain ⟨o, ho, rfl⟩ : ∃ o, os[k]? = some o ∧ o.toOpP = p := by
    rw [List.getElem?_map] at hp
    obtain ⟨o, ho, e⟩ := Option.map_eq_some_iff.1 hp
    exact ⟨o, ho, e⟩
  have hkn : k < n := by rw [HN.out]; exact (List.getElem?_eq_some_iff.1 ho).1
  have hnm := Nat.le_trans H.out.le H.out.cap
  rw [← HN.out] at hnm
  unfold maxLen at hnm
  obtain ⟨b, off, hbe, hbl, ⟨-, -, -, -, p4, p5, p6⟩, hf, hok⟩ := op_spot H.out ho
  have K2 := Lib.hid (fun W => impl_areAlike W o.r o.c o.ad o.xs.length o.cap r c av m cv (Nat.le_trans hf.len hf.cap) hxm)
  have CM : Hid (∀ W, Below w.heap.size w W → W.cell? ⟨b, off + k * 7 + 4, none⟩ = some (.int .i64 o.r) ∧ W.cell? ⟨b, off + k * 7 + 4 + 1, none⟩ = some (.int .i64 o.c) ∧ W.cell? ⟨b, off + k * 7 + 4 + 2, none⟩ = some (.slice o.ad o.xs.length o.cap)) := Lib.hid (fun W hb => ⟨(hb.cell (p := ⟨b, off + k * 7 + 4, none⟩) hbl).trans p4, (hb.cell (p := ⟨b, off + k * 7 + 4 + 1, none⟩) hbl).trans p5, (hb.cell (p := ⟨b, off + k * 7 + 4 + 2, none⟩) hbl).trans p6⟩)
  have PO := Lib.hid ho; have PP := Lib.hid hp; have HK := Lib.hid hok; have HBE := Lib.hid hbe
  clear p4 p5 p6 hf hok hp ho hk0 hten hS
  cases e2 : alikeB o.r o.c o.xs.length r c m
  · rw [e2] at K2
    have E1 := Lib.hid (fun W => OOOut.no (replP_no2 (r := r) (c := c) (xs := xs) PP.out (by rw [← HM.out]; exact e2)) w W)
    have hbc := hbe
    obtain ⟨x, hx⟩ : ∃ x, x = o.xs.length := ⟨_, rfl⟩
    rw [← hx] at K2 CM
    clear e1 e2 HBE hx
    subst hbc
    go_enter Try.func62, Try.ntmps62
    go_wp2_with fail
    refine wp_region_low (VC2 150 (.bool true) 106 (.bool false)) (by kernel_rfl) (by kernel_rfl) ?_
    repeat (refine cset_step (low_self _) (fun K hK W hW => ?_); obtain ⟨d4, d5, d6⟩ := CM.out W (B1.out.trans (Below.mono hW (by simp))); obtain ⟨yl, y0, y1, y2, yf⟩ := (XB.out.below hW).three; first | (go_simp; refine hK _ ?_; clear hK K d4 d5 d6 yl y0 y1 y2 yf) | (go_simp; refine ⟨(K1.out _ (B1.out.trans (Below.mono hW (by simp)))).mono ?_, ?_⟩; (rintro e w1 ⟨rfl, hb⟩; exact ⟨_, rfl, bthen hW hb, VC2.one (by decide)⟩); (rintro v hv; obtain rfl := hv.1 rfl; refine hK _ ?_; clear hK K d4 d5 d6 yl y0 y1 y2 yf)) | (go_simp; refine ⟨(K2.out _).mono ?_, ?_⟩; (rintro e w1 ⟨rfl, hb⟩; exact ⟨_, rfl, bthen hW hb, VC2.two (by decide)⟩); (rintro v hv; obtain rfl := hv.2 rfl; refine hK _ ?_; clear hK K d4 d5 d6 yl y0 y1 y2 yf)))
    refine cset_nil ?_
    intro w1 hw1
    have HB2 := Lib.hid (B1.out.trans (Below.mono hw1 (by simp))); clear hw1
    all_goals
      go_wp2
      go_ret2
      exact ⟨_, _, _, _, [], rfl, Lib.hid (E1.out _), HB2.out⟩
  rw [e2] at K2
  obtain ⟨rfl, rfl, hmm, hten⟩ := alikeB_in e2
  have HY := Lib.hid (replP_yes (r := o.r) (c := o.c) (xs := xs) PP.out e1 (by rw [← HM.out]; exact e2))
  have hm6 : m ≤ 1048576 := by rw [hmm]; exact HI2.out o (List.mem_of_getElem? PO.out)
  have hn6 : n ≤ 1048576 := by
    obtain ⟨S, _, _, hS, _⟩ := inpB_at e1
    have := (shapesP_some hS).1.2
    rw [List.length_map, ← HN.out] at this
    omega
  have KC := Lib.hid (fun W (hb : Below w.heap.size w W) => impl_copyTape W ad cap os (H.out.below hb) HC.out HNO.out (by rw [← HN.out]; exact hn6) HI2.out)
  have KT := Lib.hid (fun W (hb : Below w.heap.size w W) => impl_copyTensor W o.r o.c av cv xs (HV.out.below hb) HVC.out (by rw [← HM.out]; exact hm6))
  rw [← HN.out] at KC
  rw [← HM.out] at KT
  have hbc := hbe
  obtain ⟨x, hx⟩ : ∃ x, x = o.xs.length := ⟨_, rfl⟩
  rw [← hx] at K2 CM
  have HX : Hid (x = m) := Lib.hid (by rw [hx, hmm])
  clear e1 e2 HBE hx hmm hten
  subst hbc
  obtain ⟨xl, x0, x1, x2, xf⟩ := XB.out.three
  go_enter Try.func62, Try.ntmps62
  go_wp2_with fail
  refine wp_region_low (VC2 150 (.bool true) 106 (.bool true)) (by kernel_rfl) (by kernel_rfl) ?_
  repeat (refine cset_step (low_self _) (fun K hK W hW => ?_); obtain ⟨d4, d5, d6⟩ := CM.out W (B1.out.trans (Below.mono hW (by simp))); obtain ⟨yl, y0, y1, y2, yf⟩ := (XB.out.below hW).three; first | (go_simp; refine hK _ ?_; clear hK K d4 d5 d6 yl y0 y1 y2 yf) | (go_simp; refine ⟨(K1.out _ (B1.out.trans (Below.mono hW (by simp)))).mono ?_, ?_⟩; (rintro e w1 ⟨rfl, hb⟩; exact ⟨_, rfl, bthen hW hb, VC2.one (by decide)⟩); (rintro v hv; obtain rfl := hv.1 rfl; refine hK _ ?_; clear hK K d4 d5 d6 yl y0 y1 y2 yf)) | (go_simp; refine ⟨(K2.out _).mono ?_, ?_⟩; (rintro e w1 ⟨rfl, hb⟩; exact ⟨_, rfl, bthen hW hb, VC2.two (by decide)⟩); (rintro v hv; obtain rfl := hv.2 rfl; refine hK _ ?_; clear hK K d4 d5 d6 yl y0 y1 y2 yf)))
  refine cset_nil ?_
  intro w1 hw1
  have XB1 := Lib.hid (XB.out.below hw1)
  have HB1 := Lib.hid (B1.out.trans (Below.mono hw1 (by simp))); clear hw1 x0 x1 x2 xf xl XB
  go_wp2_with fail
  refine (KC.out _ HB1.out).mono ?_
  rintro e w2 ⟨ad2, cap2, us, rfl, HU, hb2⟩
  have XB2 := Lib.hid (XB1.out.below hb2)
  have HB2 := Lib.hid (bthen HB1.out hb2); clear XB1
  obtain ⟨xl, x0, x1, x2, xf⟩ := XB2.out.three
  go_wp2_with fail
  refine (KT.out _ HB2.out).mono ?_
  rintro e w3 ⟨ad3, cap3, rfl, HR, hb3⟩
  have hB1s := HB1.out.size
  have hU := HU.out.1.bounds (lo' := w.heap.size) (hi' := w2.heap.size) hB1s (Nat.le_refl _)
  obtain ⟨u, hu⟩ := getElem?_lt (show k < us.length by rw [hU.len]; exact hkn)
  have hup : u.toOpP = o.toOpP := by
    have := congrArg (fun l => l[k]?) HU.out.2
    simp only [List.getElem?_map, hu, PO.out, Option.map_some, Option.some.injEq] at this
    exact this
  obtain ⟨g, rfl, hgr, ⟨-, -, -, -, q4, q5, q6⟩, hfz, -⟩ := op_own (hU.below hb3) hu
  have hs3 := hb3.size
  have hbs := HB2.out.size
  have hr3 := HR.out
  have hml : m = xs.length := HM.out
  rw [hml] at hr3
  have htl := RecT.tail opR hu (a := ⟨⟨o.k, o.a, o.b, o.num, o.r, o.c, xs⟩, ad3, cap3⟩) [.int .i64 o.k, .int .i64 o.a, .int .i64 o.b, .float .f32 o.num] [.int .i64 o.r, .int .i64 o.c, .slice ad3 xs.length cap3] rfl (fun j hj => by
    obtain ⟨⟨uk, ua, ub, un, ur, uc, ux⟩, uad, ucap⟩ := u
    obtain ⟨⟨ok, oa, ob, on, or, oc, ox⟩, oad, ocap⟩ := o
    simp only [OpP.mk.injEq] at hup
    obtain ⟨rfl, rfl, rfl, rfl, rfl, rfl, rfl⟩ := hup
    rcases (by simp at hj; omega : j = 0 ∨ j = 1 ∨ j = 2 ∨ j = 3) with rfl | rfl | rfl | rfl <;> rfl)
  have hnew := OwnR.setNew (w2 := setCs w3 g (k * 7 + 4) [.int .i64 o.r, .int .i64 o.c, .slice ad3 xs.length cap3]) hU hbs hb3 hkn (a := ⟨⟨o.k, o.a, o.b, o.num, o.r, o.c, xs⟩, ad3, cap3⟩) ⟨HV.out.lt, HK.out.2⟩ (hr3.ownRow) hs3 (fun M hM => by
    rw [htl]
    exact setCs_own hM (k * 7 + 4) _)
  have hbb := setCs_below (HB2.out.trans (hb3.mono hbs)) hgr.1 (k * 7 + 4) [.int .i64 o.r, .int .i64 o.c, .slice ad3 xs.length cap3]
  have hmp : (us.set k ⟨⟨o.k, o.a, o.b, o.num, o.r, o.c, xs⟩, ad3, cap3⟩).map OpD.toOpP = ((os.map OpD.toOpP).set k { o.toOpP with xs := xs }) := by
    rw [List.map_set, HU.out.2]
  rw [← hml] at hnew hbb
  have HW := Lib.hid hnew; have HBB := Lib.hid hbb; have HMP := Lib.hid hmp
  clear hnew hbb htl hr3 hb3 hb2 HU hU hu hup hmp hml hgr hbs hB1s K1 K2 KC KT HB1 HB2 HR x0 x1 x2 xf XB2 CM
  go_wp2
  go_ret2
  exact ⟨_, _, _, _, _, rfl, Lib.hid ⟨⟨by rw [HY.out]; rfl, by rw [HY.out]; exact HMP.out⟩, HW.out.bounds (Nat.le_refl _) (by simp [World.setCell])⟩, HBB.out⟩
end Go.Proofs.Ytmkfcaahdmdpaaa
