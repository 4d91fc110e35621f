/- Joined texts 5: Rg4 Rp3 Gr1 Tn5 Tn6 Tn7 Ts0 Ts1. Each is told at its own head. No condition. -/
import Derived.Maps.AppendAt
import Derived.Deep.AppendLies
import Derived.Deep.RegionHeld3
import Derived.Deep.CutRange
import Derived.Deep.DeepCutAuto
import Derived.Deep.RegionLaw
import Derived.Test.YtfjfjgegdaekbaaMc1
import Derived.Test.YtfjfjgegdaekbaaMc2
import Derived.Test.YtfjfjgegdaekbaaMc3
import Derived.Test.YtfjfjgegdaekbaaMc4
/- A region whose order is open, with some operations (a literal laid, a call that makes memory, an append) that come one after another, between others that only read and draw: one walk in the order of the text serves every order. No condition. -/
namespace Go.Proofs.Ytfjfjgegdaekbaa
open Go Go.RowKit
set_option linter.unusedVariables false
section
variable {P : Program} {ops : Array Oper} {S : World → Prop} {VC : FuncId → Array Value → Value → Prop} {D : FuncId → Array Value → World → Value → World → Prop} {sp : List Nat}
/-- an operation that only reads and draws goes through in every world of the class -/
def GoodM (P : Program) (ops : Array Oper) (S : World → Prop) (VC : FuncId → Array Value → Value → Prop) (o : Oper) (a : Act) : Prop := Region.wanted o (yielded ops a.tmps) = true → ∀ W, S W → FineRes P (Drawn W) VC ((execOp a.eval o).run P W)
/-- what is asked of one that changes the world -/
@[go_sem] def SpecRes (P : Program) (D : FuncId → Array Value → World → Value → World → Prop) (K : Value → World → Prop) : Result Next → Prop
  | .ok (.value v) w' => K v w'
  | .ok .skip w' => K undef w'
  | .ok (.enter f args) w' => (Calls P f args w' fun e w'' => ∃ v, e = .returned v ∧ D f args w' v w'') ∧ ∀ v w'', D f args w' v w'' → K v w''
  | _ => False
def SpecAt (P : Program) (ops : Array Oper) (D : FuncId → Array Value → World → Value → World → Prop) (o : Oper) (a : Act) (w : World) (K : Value → World → Prop) : Prop :=
  (Region.wanted o (yielded ops a.tmps) = true → ∀ n : Nat, SpecRes P D K ((execOp a.eval o).run P (w.drewN n))) ∧ (Region.wanted o (yielded ops a.tmps) = false → K undef w)
theorem SpecRes.mono {K K' : Value → World → Prop} {r : Result Next} (h : SpecRes P D K r) (hk : ∀ v w, K v w → K' v w) : SpecRes P D K' r := by
  revert h
  unfold SpecRes
  split
  · exact fun h => hk _ _ h
  · exact fun h => hk _ _ h
  · exact fun h => ⟨h.1, fun v w'' hd => hk _ _ (h.2 v w'' hd)⟩
  · exact fun h => h
theorem SpecRes.all {ι : Type} {V : ι → Prop} {K : ι → Value → World → Prop} {r : Result Next} (i0 : ι) (h0 : V i0) (h : ∀ i, V i → SpecRes P D (K i) r) : SpecRes P D (fun v w => ∀ i, V i → K i v w) r := by
  revert h
  unfold SpecRes
  split
  · exact fun h i hi => h i hi
  · exact fun h i hi => h i hi
  · exact fun h => ⟨(h i0 h0).1, fun v w'' hd i hi => (h i hi).2 v w'' hd⟩
  · exact fun h => h i0 h0
theorem SpecRes.some {K : Value → World → Prop} {r : Result Next} (h : SpecRes P D K r) : ∃ v w, K v w := by
  revert h
  unfold SpecRes
  split
  · exact fun h => ⟨_, _, h⟩
  · exact fun h => ⟨_, _, h⟩
  · intro h
    obtain ⟨e, w'', fr, ⟨v, _, hd⟩, _⟩ := h.1 []
    exact ⟨v, w'', h.2 v w'' hd⟩
  · exact fun h => h.elim
theorem SpecAt.mono {o : Oper} {a : Act} {w : World} {K K' : Value → World → Prop} (h : SpecAt P ops D o a w K) (hk : ∀ v w, K v w → K' v w) : SpecAt P ops D o a w K' :=
  ⟨fun hw n => (h.1 hw n).mono hk, fun hw => hk _ _ (h.2 hw)⟩
theorem SpecAt.all {o : Oper} {a : Act} {w : World} {ι : Type} {V : ι → Prop} {K : ι → Value → World → Prop} (i0 : ι) (h0 : V i0) (h : ∀ i, V i → SpecAt P ops D o a w (K i)) : SpecAt P ops D o a w (fun v w => ∀ i, V i → K i v w) :=
  ⟨fun hw n => SpecRes.all i0 h0 fun i hi => (h i hi).1 hw n, fun hw i hi => (h i hi).2 hw⟩
theorem SpecAt.some {o : Oper} {a : Act} {w : World} {K : Value → World → Prop} (h : SpecAt P ops D o a w K) : ∃ v w, K v w := by
  cases hw : Region.wanted o (yielded ops a.tmps)
  · exact ⟨_, _, h.2 hw⟩
  · exact (h.1 hw 0).some
theorem specAt_put {o : Oper} {a : Act} {d : Option Tmp} {u : Value} {w : World} {K : Value → World → Prop} (he : execOp (a.put d u).eval o = execOp a.eval o) (hw : Region.wanted o (yielded ops (a.put d u).tmps) = Region.wanted o (yielded ops a.tmps)) :
    SpecAt P ops D o (a.put d u) w K ↔ SpecAt P ops D o a w K := by
  unfold SpecAt
  rw [he, hw]
theorem goodM_put {o : Oper} {a : Act} {d : Option Tmp} {u : Value} (he : execOp (a.put d u).eval o = execOp a.eval o) (hw : Region.wanted o (yielded ops (a.put d u).tmps) = Region.wanted o (yielded ops a.tmps)) :
    GoodM P ops S VC o (a.put d u) ↔ GoodM P ops S VC o a := by
  unfold GoodM
  rw [he, hw]
theorem some_valM {o : Oper} {a : Act} {w0 : World} (h0 : S w0) (h : GoodM P ops S VC o a) : ∃ v, Vals P ops S VC o a v := by
  by_cases hw : Region.wanted o (yielded ops a.tmps) = true
  · have hf := h hw w0 h0
    unfold FineRes at hf
    split at hf
    · rename_i v w' he; exact ⟨v, .inl ⟨hw, w0, w', h0, .inl he⟩⟩
    · rename_i w' he; exact ⟨undef, .inl ⟨hw, w0, w', h0, .inr (.inl ⟨he, rfl⟩)⟩⟩
    · rename_i f args w' he
      obtain ⟨_, hc⟩ := hf
      obtain ⟨e, w'', fr, ⟨v, _, _, hv⟩, _⟩ := hc []
      exact ⟨v, .inl ⟨hw, w0, w', h0, .inr (.inr ⟨f, args, he, hv⟩)⟩⟩
    · cases hf
  · exact ⟨undef, .inr ⟨by simpa using hw, rfl⟩⟩
/-- the walk of every order up to 'n', then 'L' -/
def MSet (P : Program) (md : Region.Mode) (ops : Array Oper) (S : World → Prop) (VC : FuncId → Array Value → Value → Prop) (D : FuncId → Array Value → World → Value → World → Prop) (sp : List Nat) (n : Nat) (L : Array Bool → Act → World → Prop) : Nat → Array Bool → Act → World → Prop
  | 0, listed, a, w => L listed a w
  | fuel + 1, listed, a, w => Region.ready md ops listed ≠ [] ∧
    ∀ i ∈ Region.ready md ops listed, ∀ o, ops[i]? = some o → i < n ∧
      (sp.contains i = true → SpecAt P ops D o a w fun v w' => S w' ∧ MSet P md ops S VC D sp n L fuel (listed.setIfInBounds i true) (a.put o.dst v) w') ∧
      (sp.contains i = false → GoodM P ops S VC o a ∧ ∀ v, Vals P ops S VC o a v → MSet P md ops S VC D sp n L fuel (listed.setIfInBounds i true) (a.put o.dst v) w)
structure MInv (md : Region.Mode) (ops : Array Oper) (n : Nat) (listed : Array Bool) : Prop where
  inv : HInv md ops n listed
theorem mset_plain {md : Region.Mode} {n : Nat} {L : Array Bool → Act → World → Prop} {i : Nat} {oi : Oper} (hi : ops[i]? = some oi) (hsp : sp.contains i = false) (hsel : ∀ (j : Nat) (o : Oper) cs b, ops[j]? = some o → o.op ≠ .select cs b)
    (hlt : ∀ listed, HInv md ops n listed → listed.getD i true = false → ∀ j ∈ Region.ready md ops listed, j < n) (hdone : ∀ listed a w, L listed a w → ∀ j ∈ Region.ready md ops listed, n ≤ j) :
    ∀ (fuel : Nat) (listed : Array Bool) (a : Act) (w : World), S w → HInv md ops n listed →
      (∀ j oj, ops[j]? = some oj → j ≠ i → listed.getD j true = false → (∀ e ∈ oj.after, Region.binds md e = true → e.on ≠ i) → oi.apart ops oj = true) →
      i ∈ Region.ready md ops listed → GoodM P ops S VC oi a →
      (∀ v, Vals P ops S VC oi a v → MSet P md ops S VC D sp n L fuel (listed.setIfInBounds i true) (a.put oi.dst v) w) → MSet P md ops S VC D sp n L (fuel + 1) listed a w
  | 0, listed, a, w, h0, inv, _, hr, hg, H => by
    have hun := (mem_ready.1 hr).1
    refine ⟨fun e => (by rw [e] at hr; cases hr), fun j hj o ho => ?_⟩
    have hjn := hlt listed inv hun j hj
    by_cases hji : j = i
    · subst hji
      obtain rfl : oi = o := Option.some.inj (hi.symm.trans ho)
      exact ⟨hjn, fun h => (by rw [hsp] at h; cases h), fun _ => ⟨hg, H⟩⟩
    · exfalso
      obtain ⟨v, hv⟩ := some_valM h0 hg
      have := hdone _ _ _ (H v hv) j (ready_mono hj hji)
      omega
  | fuel + 1, listed, a, w, h0, inv, hfree, hr, hg, H => by
    have huni := (mem_ready.1 hr).1
    refine ⟨fun e => (by rw [e] at hr; cases hr), fun j hj oj hoj => ?_⟩
    have hjn := hlt listed inv huni j hj
    by_cases hji : j = i
    · subst hji
      obtain rfl : oi = oj := Option.some.inj (hi.symm.trans hoj)
      exact ⟨hjn, fun h => (by rw [hsp] at h; cases h), fun _ => ⟨hg, H⟩⟩
    · have hun : listed.getD j true = false := (mem_ready.1 hj).1
      have hno : ∀ e ∈ oj.after, Region.binds md e = true → e.on ≠ i := by
        intro e he hb hon
        obtain ⟨_, o', ho', hall⟩ := mem_ready.1 hj
        obtain rfl : oj = o' := Option.some.inj (hoj.symm.trans ho')
        have h1 := hall e he hb
        rw [hon, getD_two huni] at h1; cases h1
      obtain ⟨x1, x2, x3⟩ := Oper.apart_spec (hfree j oj hoj hji hun hno)
      have si := fun cs b => hsel i oi cs b hi
      have sj := fun cs b => hsel j oj cs b hoj
      have ej : ∀ v, execOp (a.put oi.dst v).eval oj = execOp a.eval oj := fun v => execOp_put oj sj a oi.dst v x1
      have wj : ∀ v, Region.wanted oj (yielded ops (a.put oi.dst v).tmps) = Region.wanted oj (yielded ops a.tmps) := fun v => wanted_put oj a oi.dst v x1
      have gi : ∀ u, (GoodM P ops S VC oi (a.put oj.dst u) ↔ GoodM P ops S VC oi a) := fun u => goodM_put (execOp_put oi si a oj.dst u x3) (wanted_put oi a oj.dst u x3)
      have vi : ∀ u v, (Vals P ops S VC oi (a.put oj.dst u) v ↔ Vals P ops S VC oi a v) := fun u v => vals_put (execOp_put oi si a oj.dst u x3) (wanted_put oi a oj.dst u x3)
      obtain ⟨v0, hv0⟩ := some_valM h0 hg
      have hj' := ready_mono hj hji
      have hfree' : ∀ k ok, ops[k]? = some ok → k ≠ i → (listed.setIfInBounds j true).getD k true = false → (∀ e ∈ ok.after, Region.binds md e = true → e.on ≠ i) → oi.apart ops ok = true := by
        intro k ok hk hki hun' hno'
        refine hfree k ok hk hki ?_ hno'
        by_cases hjk : j = k
        · subst hjk; exact hun
        · rw [getD_set_ne true hjk] at hun'; exact hun'
      refine ⟨hjn, fun hs => ?_, fun hs => ?_⟩
      · have h1 : ∀ v, Vals P ops S VC oi a v → SpecAt P ops D oj a w fun u w' => S w' ∧ MSet P md ops S VC D sp n L fuel ((listed.setIfInBounds i true).setIfInBounds j true) ((a.put oi.dst v).put oj.dst u) w' := fun v hv =>
          (specAt_put (ej v) (wj v)).1 (((H v hv).2 j hj' oj hoj).2.1 hs)
        refine (SpecAt.all v0 hv0 h1).mono fun u w' hK => ⟨(hK v0 hv0).1, ?_⟩
        refine mset_plain hi hsp hsel hlt hdone fuel (listed.setIfInBounds j true) (a.put oj.dst u) w' (hK v0 hv0).1 (inv.set hj hjn) hfree' (ready_mono hr (Ne.symm hji)) ((gi u).2 hg) fun v hv => ?_
        have := (hK v ((vi u v).1 hv)).2
        rw [Array.setIfInBounds_comm _ _ hji, ← Act.put_comm a v u x2]
        exact this
      · have gj : ∀ v, (GoodM P ops S VC oj (a.put oi.dst v) ↔ GoodM P ops S VC oj a) := fun v => goodM_put (ej v) (wj v)
        have vj : ∀ v u, (Vals P ops S VC oj (a.put oi.dst v) u ↔ Vals P ops S VC oj a u) := fun v u => vals_put (ej v) (wj v)
        refine ⟨(gj v0).1 (((H v0 hv0).2 j hj' oj hoj).2.2 hs).1, fun u hu => ?_⟩
        refine mset_plain hi hsp hsel hlt hdone fuel (listed.setIfInBounds j true) (a.put oj.dst u) w h0 (inv.set hj hjn) hfree' (ready_mono hr (Ne.symm hji)) ((gi u).2 hg) fun v hv => ?_
        have := (((H v ((vi u v).1 hv)).2 j hj' oj hoj).2.2 hs).2 u ((vj v u).2 hu)
        rw [Array.setIfInBounds_comm _ _ hji, ← Act.put_comm a v u x2]
        exact this
theorem mset_spec {md : Region.Mode} {n : Nat} {L : Array Bool → Act → World → Prop} {i : Nat} {oi : Oper} (hi : ops[i]? = some oi) (hsp : sp.contains i = true) (hsel : ∀ (j : Nat) (o : Oper) cs b, ops[j]? = some o → o.op ≠ .select cs b)
    (hlt : ∀ listed, HInv md ops n listed → listed.getD i true = false → ∀ j ∈ Region.ready md ops listed, j < n) (hdone : ∀ listed a w, L listed a w → ∀ j ∈ Region.ready md ops listed, n ≤ j)
    (hone : ∀ listed, HInv md ops n listed → (∀ j, j < i → listed.getD j false = true) → listed.getD i true = false → ∀ j ∈ Region.ready md ops listed, j ≠ i → sp.contains j = false) :
    ∀ (fuel : Nat) (listed : Array Bool) (a : Act) (w : World), S w → HInv md ops n listed → (∀ j, j < i → listed.getD j false = true) →
      (∀ j oj, ops[j]? = some oj → j ≠ i → listed.getD j true = false → (∀ e ∈ oj.after, Region.binds md e = true → e.on ≠ i) → oi.apart ops oj = true) →
      i ∈ Region.ready md ops listed →
      (SpecAt P ops D oi a w fun v w' => S w' ∧ MSet P md ops S VC D sp n L fuel (listed.setIfInBounds i true) (a.put oi.dst v) w') → MSet P md ops S VC D sp n L (fuel + 1) listed a w
  | 0, listed, a, w, h0, inv, hp, _, hr, H => by
    have hun := (mem_ready.1 hr).1
    refine ⟨fun e => (by rw [e] at hr; cases hr), fun j hj o ho => ?_⟩
    have hjn := hlt listed inv hun j hj
    by_cases hji : j = i
    · subst hji
      obtain rfl : oi = o := Option.some.inj (hi.symm.trans ho)
      exact ⟨hjn, fun _ => H, fun h => (by rw [hsp] at h; cases h)⟩
    · exfalso
      obtain ⟨v, w', _, hL⟩ := H.some
      have := hdone _ _ _ hL j (ready_mono hj hji)
      omega
  | fuel + 1, listed, a, w, h0, inv, hp, hfree, hr, H => by
    have huni := (mem_ready.1 hr).1
    refine ⟨fun e => (by rw [e] at hr; cases hr), fun j hj oj hoj => ?_⟩
    have hjn := hlt listed inv huni j hj
    by_cases hji : j = i
    · subst hji
      obtain rfl : oi = oj := Option.some.inj (hi.symm.trans hoj)
      exact ⟨hjn, fun _ => H, fun h => (by rw [hsp] at h; cases h)⟩
    · have hun : listed.getD j true = false := (mem_ready.1 hj).1
      have hjs := hone listed inv hp huni j hj hji
      have hno : ∀ e ∈ oj.after, Region.binds md e = true → e.on ≠ i := by
        intro e he hb hon
        obtain ⟨_, o', ho', hall⟩ := mem_ready.1 hj
        obtain rfl : oj = o' := Option.some.inj (hoj.symm.trans ho')
        have h1 := hall e he hb
        rw [hon, getD_two huni] at h1; cases h1
      obtain ⟨x1, x2, x3⟩ := Oper.apart_spec (hfree j oj hoj hji hun hno)
      have si := fun cs b => hsel i oi cs b hi
      have sj := fun cs b => hsel j oj cs b hoj
      have ej : ∀ v, execOp (a.put oi.dst v).eval oj = execOp a.eval oj := fun v => execOp_put oj sj a oi.dst v x1
      have wj : ∀ v, Region.wanted oj (yielded ops (a.put oi.dst v).tmps) = Region.wanted oj (yielded ops a.tmps) := fun v => wanted_put oj a oi.dst v x1
      have gj : ∀ v, (GoodM P ops S VC oj (a.put oi.dst v) ↔ GoodM P ops S VC oj a) := fun v => goodM_put (ej v) (wj v)
      have vj : ∀ v u, (Vals P ops S VC oj (a.put oi.dst v) u ↔ Vals P ops S VC oj a u) := fun v u => vals_put (ej v) (wj v)
      have hj' := ready_mono hj hji
      have hfree' : ∀ k ok, ops[k]? = some ok → k ≠ i → (listed.setIfInBounds j true).getD k true = false → (∀ e ∈ ok.after, Region.binds md e = true → e.on ≠ i) → oi.apart ops ok = true := by
        intro k ok hk hki hun' hno'
        refine hfree k ok hk hki ?_ hno'
        by_cases hjk : j = k
        · subst hjk; exact hun
        · rw [getD_set_ne true hjk] at hun'; exact hun'
      refine ⟨hjn, fun hs => (by rw [hjs] at hs; cases hs), fun hs => ?_⟩
      obtain ⟨v0, w0, _, hv0⟩ := H.some
      refine ⟨(gj v0).1 ((hv0.2 j hj' oj hoj).2.2 hs).1, fun u hu => ?_⟩
      refine mset_spec hi hsp hsel hlt hdone hone fuel (listed.setIfInBounds j true) (a.put oj.dst u) w h0 (inv.set hj hjn) (fun q hq => getD_set_true (hp q hq)) hfree' (ready_mono hr (Ne.symm hji)) ?_
      refine (specAt_put (execOp_put oi si a oj.dst u x3) (wanted_put oi a oj.dst u x3)).2 (H.mono fun v w' hK => ⟨hK.1, ?_⟩)
      have := ((hK.2.2 j hj' oj hoj).2.2 hs).2 u ((vj v u).2 hu)
      rw [Array.setIfInBounds_comm _ _ hji, ← Act.put_comm a v u x2]
      exact this
/-- the walk in the order of the text -/
def MWalk (P : Program) (ops : Array Oper) (S : World → Prop) (VC : FuncId → Array Value → Value → Prop) (D : FuncId → Array Value → World → Value → World → Prop) (sp : List Nat) (Q : Act → World → Prop) : Nat → List Oper → Act → World → Prop
  | _, [], a, w => Q a w
  | k, o :: rest, a, w =>
    (sp.contains k = true → SpecAt P ops D o a w fun v w' => S w' ∧ MWalk P ops S VC D sp Q (k + 1) rest (a.put o.dst v) w') ∧
    (sp.contains k = false → GoodM P ops S VC o a ∧ ∀ v, Vals P ops S VC o a v → MWalk P ops S VC D sp Q (k + 1) rest (a.put o.dst v) w)
/-- 't' waits for 'i' -/
def depB (md : Region.Mode) (ops : Array Oper) : Nat → Nat → Nat → Bool
  | 0, _, _ => false
  | f + 1, t, i => match ops[t]? with
    | none => false
    | some o => o.after.any fun e => Region.binds md e && (e.on == i || depB md ops f e.on i)
theorem depB_listed {md : Region.Mode} {n : Nat} {listed : Array Bool} (inv : HInv md ops n listed) {i : Nat} : ∀ (f t : Nat), listed.getD t false = true → depB md ops f t i = true → listed.getD i false = true
  | 0, _, _, h => by cases h
  | f + 1, t, ht, h => by
    unfold depB at h
    split at h
    · cases h
    · rename_i o ho
      obtain ⟨e, he, hb⟩ := Array.any_eq_true'.1 h
      simp only [Bool.and_eq_true, Bool.or_eq_true, beq_iff_eq] at hb
      have h1 := inv.closed t o ho ht e he hb.1
      rcases hb.2 with h2 | h2
      · rw [← h2]; exact h1
      · exact depB_listed inv f e.on h1 h2
theorem depB_ready {md : Region.Mode} {n : Nat} {listed : Array Bool} (inv : HInv md ops n listed) {i : Nat} (f t : Nat) (ht : t ∈ Region.ready md ops listed) (h : depB md ops f t i = true) : listed.getD i false = true := by
  cases f with
  | zero => cases h
  | succ f =>
    unfold depB at h
    obtain ⟨_, ot, hot, hall⟩ := mem_ready.1 ht
    rw [hot] at h
    obtain ⟨e, he, hb⟩ := Array.any_eq_true'.1 h
    simp only [Bool.and_eq_true, Bool.or_eq_true, beq_iff_eq] at hb
    have h1 := hall e he hb.1
    rcases hb.2 with h2 | h2
    · rw [← h2]; exact h1
    · exact depB_listed inv f e.on h1 h2
def specB (md : Region.Mode) (ops : Array Oper) (sp : List Nat) : Bool := sp.all fun i => sp.all fun j => decide (j ≤ i) || depB md ops ops.size j i
theorem one_of_specB {md : Region.Mode} {n i : Nat} (hB : specB md ops sp = true) (hi : sp.contains i = true) (listed : Array Bool) (inv : HInv md ops n listed) (hp : ∀ j, j < i → listed.getD j false = true) (hun : listed.getD i true = false) :
    ∀ j ∈ Region.ready md ops listed, j ≠ i → sp.contains j = false := by
  intro j hj hji
  cases hs : sp.contains j with
  | false => rfl
  | true =>
    exfalso
    have h1 := List.all_eq_true.1 (List.all_eq_true.1 hB i (by simpa using hi)) j (by simpa using hs)
    simp only [Bool.or_eq_true, decide_eq_true_eq] at h1
    rcases h1 with h1 | h1
    · have h2 := hp j (by omega)
      have h3 := getD_two (mem_ready.1 hj).1
      rw [h2] at h3; cases h3
    · have h2 := depB_ready inv _ j hj h1
      rw [getD_two hun] at h2; cases h2
theorem mset_lex {md : Region.Mode} {n : Nat} {L : Array Bool → Act → World → Prop} {Lq : Act → World → Prop} (hS : ∀ W q, S W → S (W.drewN q)) (hsel : Region.noSelect ops = true) (hB2 : specB md ops sp = true)
    (hlt : ∀ i, i < n → ∀ listed, HInv md ops n listed → listed.getD i true = false → ∀ j ∈ Region.ready md ops listed, j < n) (hdone : ∀ listed a w, L listed a w → ∀ j ∈ Region.ready md ops listed, n ≤ j)
    (lex : Nat → Nat → Array Bool → Bool) (hlex : ∀ len k listed, lex (len + 1) k listed = true → (Region.ready md ops listed).contains k = true ∧ Region.free md ops listed k = true ∧ lex len (k + 1) (listed.setIfInBounds k true) = true)
    (hend : ∀ listed a w, lex 0 n listed = true → Lq a w → L listed a w) :
    ∀ (l : List Oper) (k : Nat) (listed : Array Bool) (a : Act) (w : World), S w → (∀ j, j < l.length → l[j]? = ops[k + j]?) → k + l.length = n → HInv md ops n listed → (∀ j, j < k → listed.getD j false = true) →
    lex l.length k listed = true → MWalk P ops S VC D sp Lq k l a w → MSet P md ops S VC D sp n L l.length listed a w
  | [], k, listed, a, w, _, _, hk, _, _, hB, h => by
    have : k = n := by simpa using hk
    subst this
    exact hend listed a w hB h
  | o :: l, k, listed, a, w, h0, hl, hk, inv, hp, hB, h => by
    have hk0 : ops[k]? = some o := by simpa using (hl 0 (by simp)).symm
    obtain ⟨hr, hf, hB'⟩ := hlex _ _ _ hB
    have hkn : k < n := by simp only [List.length_cons] at hk; omega
    have hks : k < ops.size := (Array.getElem?_eq_some_iff.1 hk0).1
    have hr' : k ∈ Region.ready md ops listed := by simpa using hr
    have hl' : ∀ j, j < l.length → l[j]? = ops[k + 1 + j]? := fun j hj => by have := hl (j + 1) (by simp; omega); simpa [Nat.add_assoc, Nat.add_comm 1 j] using this
    have hkl : k + 1 + l.length = n := by simp only [List.length_cons] at hk; omega
    have hp' : ∀ j, j < k + 1 → (listed.setIfInBounds k true).getD j false = true := fun j hj => by
      by_cases e : j = k
      · subst e
        have : j < listed.size := by rw [inv.size]; exact hks
        simp [Array.getD_eq_getD_getElem?, this]
      · exact getD_set_true (hp j (by omega))
    cases hsp : sp.contains k with
    | true =>
      refine mset_spec hk0 hsp (Region.noSelect_spec hsel) (hlt k hkn) hdone (one_of_specB hB2 hsp) l.length listed a w h0 inv hp (Region.free_spec hk0 hf) hr' ?_
      exact (h.1 hsp).mono fun v w' hK => ⟨hK.1, mset_lex hS hsel hB2 hlt hdone lex hlex hend l (k + 1) _ _ w' hK.1 hl' hkl (inv.set hr' hkn) hp' hB' hK.2⟩
    | false =>
      refine mset_plain hk0 hsp (Region.noSelect_spec hsel) (hlt k hkn) hdone l.length listed a w h0 inv (Region.free_spec hk0 hf) hr' (h.2 hsp).1 fun v hv => ?_
      exact mset_lex hS hsel hB2 hlt hdone lex hlex hend l (k + 1) _ _ w h0 hl' hkl (inv.set hr' hkn) hp' hB' ((h.2 hsp).2 v hv)
theorem any_of_mset {md : Region.Mode} {n g : Nat} {L : Array Bool → Act → World → Prop} {Q' : Exit → Act → World → Prop} (hS : ∀ W q, S W → S (W.drewN q)) (hL : ∀ listed a w q, S w → L listed a w → wpAny P md ops Q' g listed a (w.drewN q)) :
    ∀ (fuel : Nat) (listed : Array Bool) (a : Act) (w : World) (q : Nat), S w → MSet P md ops S VC D sp n L fuel listed a w → wpAny P md ops Q' (fuel + g) listed a (w.drewN q)
  | 0, _, _, _, _, hw, h => by rw [Nat.zero_add]; exact hL _ _ _ _ hw h
  | fuel + 1, listed, a, w, q, hw, h => by
    rw [show fuel + 1 + g = (fuel + g) + 1 by omega]
    refine ⟨fun e => absurd e h.1, fun i hi => ?_⟩
    obtain ⟨_, o, ho, _⟩ := mem_ready.1 hi
    obtain ⟨_, h1, h2⟩ := h.2 i hi o ho
    unfold wpOp
    simp only [ho]
    cases hsp : sp.contains i with
    | true =>
      obtain ⟨h3, h4⟩ := h1 hsp
      by_cases hwant : Region.wanted o (yielded ops a.tmps) = true
      · rw [if_pos hwant]
        left
        have hf := h3 hwant q
        unfold Oper.wp
        unfold SpecRes at hf
        split at hf
        · rename_i v w' he
          rw [he]
          exact any_of_mset hS hL fuel _ _ w' 0 hf.1 hf.2
        · rename_i w' he
          rw [he]
          exact any_of_mset hS hL fuel _ _ w' 0 hf.1 hf.2
        · rename_i f args w' he
          rw [he]
          obtain ⟨hc, hk⟩ := hf
          refine hc.mono fun e w'' ⟨v, hev, hd⟩ => ?_
          subst hev
          exact any_of_mset hS hL fuel _ _ w'' 0 (hk v w'' hd).1 (hk v w'' hd).2
        · cases hf
      · have hwant' : Region.wanted o (yielded ops a.tmps) = false := by simpa using hwant
        rw [if_neg hwant]
        exact any_of_mset hS hL fuel _ _ w q (h4 hwant').1 (h4 hwant').2
    | false =>
      obtain ⟨hg, hv⟩ := h2 hsp
      have hSq := hS w q hw
      have hadd : ∀ m, (w.drewN q).drewN m = w.drewN (q + m) := fun m => by simp [World.drewN, Nat.add_assoc]
      by_cases hwant : Region.wanted o (yielded ops a.tmps) = true
      · rw [if_pos hwant]
        left
        have hf := hg hwant _ hSq
        unfold Oper.wp
        unfold FineRes at hf
        split at hf
        · rename_i v w' he
          rw [he]
          obtain ⟨m, rfl⟩ := hf
          have h5 := any_of_mset hS hL fuel _ _ w (q + m) hw (hv v (.inl ⟨hwant, _, _, hSq, .inl he⟩))
          rw [← hadd] at h5
          exact h5
        · rename_i w' he
          rw [he]
          obtain ⟨m, rfl⟩ := hf
          have h5 := any_of_mset hS hL fuel _ _ w (q + m) hw (hv undef (.inl ⟨hwant, _, _, hSq, .inr (.inl ⟨he, rfl⟩)⟩))
          rw [← hadd] at h5
          exact h5
        · rename_i f args w' he
          rw [he]
          obtain ⟨hC', hc⟩ := hf
          refine hc.mono fun e w'' ⟨v, hev, ⟨m, hm⟩, hvc⟩ => ?_
          subst hev
          subst hm
          have h5 := any_of_mset hS hL fuel _ _ w (q + m) hw (hv v (.inl ⟨hwant, _, _, hSq, .inr (.inr ⟨f, args, he, hvc⟩)⟩))
          rw [← hadd] at h5
          exact h5
        · cases hf
      · have hwant' : Region.wanted o (yielded ops a.tmps) = false := by simpa using hwant
        rw [if_neg hwant]
        exact any_of_mset hS hL fuel _ _ w q hw (hv undef (.inr ⟨hwant', rfl⟩))
def mixB (ops : Array Oper) (n : Nat) (sp : List Nat) : Bool :=
  Region.noSelect ops && decide (n < ops.size) && sinkP .any ops 0 n && chainP .any ops n && specB .any ops sp && Region.lexHead .any ops (ops.size - n) n 0 (Array.replicate ops.size false)
def mixB0 (ops : Array Oper) (sp : List Nat) : Bool := Region.noSelect ops && specB .any ops sp && Region.lexFrom .any ops ops.size 0 (Array.replicate ops.size false)
/-- **a region of readers and of operations, numbers 'sp', that come one after another; from 'n' on its operations wait for all others** -/
theorem wp_region_mix {id : Nat} {Q : Exit → Act → World → Prop} {a : Act} {w : World} {l : List Oper} (n : Nat) (sp : List Nat) (S : World → Prop) (VC : FuncId → Array Value → Value → Prop) (D : FuncId → Array Value → World → Value → World → Prop) (hm : P.follows .mixedOrders = true) (hB : mixB l.toArray n sp = true)
    (hS0 : S w) (hS : ∀ W q, S W → S (W.drewN q)) (h : MWalk P l.toArray S VC D sp (fun a' w1 => ∀ q, wpList P l.toArray Q (l.drop n) a' (w1.drewN q)) 0 (l.take n) a w) : (Code.region id l.toArray true).wp P Q a w := by
  simp only [mixB, Bool.and_eq_true, decide_eq_true_eq] at hB
  obtain ⟨⟨⟨⟨⟨hsel, hn⟩, hs⟩, hc⟩, hsp⟩, hlex⟩ := hB
  have hn' : n < l.length := by simpa using hn
  have htl : (l.take n).length = n := by simp; omega
  have hdl : (l.drop n).length = l.toArray.size - n := by simp
  have gf : ∀ i, (Array.replicate l.toArray.size false).getD i false = false := fun i => by
    simp only [Array.getD_eq_getD_getElem?, Array.getElem?_replicate]; split <;> rfl
  have inv0 : HInv .any l.toArray n (Array.replicate l.toArray.size false) :=
    ⟨by simp, fun j oj _ hl => (by rw [gf] at hl; cases hl), fun t _ ht => getD_in2 (by simpa using ht) (gf t)⟩
  have H := mset_lex (md := .any) (L := fun listed' a' w' => Region.seqB .any l.toArray (l.toArray.size - n) n listed' = true ∧ ∀ q, wpList P l.toArray Q (l.drop n) a' (w'.drewN q)) hS hsel hsp
    (fun i hi listed inv hun j hj => by
      rcases Nat.lt_or_ge j n with h | h
      · exact h
      · exact absurd hj (late hs hc hn inv (p := 0) (fun j hj => by omega) _ i rfl hi hun j h))
    (fun listed a w hL => seqB_ready hL.1) (fun len k listed => Region.lexHead .any l.toArray (l.toArray.size - n) len k listed)
    (fun len k listed h => by
      have h : Region.lexHead .any l.toArray (l.toArray.size - n) (len + 1) k listed = true := h
      simp only [Region.lexHead, Bool.and_eq_true] at h
      exact ⟨h.1.1, h.1.2, h.2⟩)
    (fun listed a w he hq => ⟨by simpa [Region.lexHead] using he, hq⟩)
    (l.take n) 0 _ a w hS0 (fun j hj => by
      have hj' : j < n := by rw [htl] at hj; exact hj
      simp [hj']) (by simpa using htl) inv0 (fun j hj => by omega) (by rw [htl]; exact hlex) h
  refine wp_region_any hm ?_
  have := any_of_mset (Q' := Q) (g := l.toArray.size - n) hS (fun listed a' w' q hw' hL => by
    have := wpAny_of_seq (md := .any) (Q' := Q) (l.drop n) n listed a' (w'.drewN q) (fun j => by simp [List.getElem?_drop]) (by rw [hdl]; exact hL.1) (hL.2 q)
    rwa [hdl] at this) _ _ _ _ 1 hS0 H
  rw [htl, show n + (l.toArray.size - n) = l.toArray.size by omega] at this
  exact this
/-- **the same without a tail** -/
theorem wp_region_mix0 {id : Nat} {Q : Exit → Act → World → Prop} {a : Act} {w : World} {l : List Oper} (sp : List Nat) (S : World → Prop) (VC : FuncId → Array Value → Value → Prop) (D : FuncId → Array Value → World → Value → World → Prop) (hm : P.follows .mixedOrders = true) (hB : mixB0 l.toArray sp = true)
    (hS0 : S w) (hS : ∀ W q, S W → S (W.drewN q)) (h : MWalk P l.toArray S VC D sp (fun a' w1 => ∀ q, Q .normal a' (w1.drewN q)) 0 l a w) : (Code.region id l.toArray true).wp P Q a w := by
  simp only [mixB0, Bool.and_eq_true] at hB
  obtain ⟨⟨hsel, hsp⟩, hlex⟩ := hB
  have gf : ∀ i, (Array.replicate l.toArray.size false).getD i false = false := fun i => by
    simp only [Array.getD_eq_getD_getElem?, Array.getElem?_replicate]; split <;> rfl
  have inv0 : HInv .any l.toArray l.length (Array.replicate l.toArray.size false) :=
    ⟨by simp, fun j oj _ hl => (by rw [gf] at hl; cases hl), fun t h1 ht => getD_in2 (by simpa using ht) (gf t)⟩
  have H := mset_lex (md := .any) (L := fun listed' a' w' => Region.ready .any l.toArray listed' = [] ∧ ∀ q, Q .normal a' (w'.drewN q)) hS hsel hsp
    (fun i hi listed inv hun j hj => by
      obtain ⟨_, oj, hoj, _⟩ := mem_ready.1 hj
      have := (Array.getElem?_eq_some_iff.1 hoj).1
      simpa using this)
    (fun listed a w hL j hj => by rw [hL.1] at hj; cases hj) (fun len k listed => Region.lexFrom .any l.toArray len k listed)
    (fun len k listed h => by
      have h : Region.lexFrom .any l.toArray (len + 1) k listed = true := h
      simp only [Region.lexFrom, Bool.and_eq_true] at h
      exact ⟨h.1.1, h.1.2, h.2⟩)
    (fun listed a w he hq => ⟨by simpa [Region.lexFrom] using he, hq⟩)
    l 0 _ a w hS0 (fun j hj => by simp) (by simp) inv0 (fun j hj => by omega) (by simpa using hlex) h
  refine wp_region_any hm ?_
  have := any_of_mset (Q' := Q) (g := 0) hS (fun listed a' w' q hw' hL => ⟨hL.1, hL.2 q⟩) _ _ _ _ 1 hS0 H
  rw [Nat.add_zero] at this
  exact this
/-! the steps of the walk -/
variable {Q : Act → World → Prop} {o : Oper} {rest : List Oper} {a : Act} {w : World} {k : Nat}
@[go_sem] theorem drawn_refl (w : World) : Drawn w w = True := eq_true ⟨0, rfl⟩
theorem mwalk_plain (hk : sp.contains k = false) (h0 : S w) (h : ∀ K : Act → Prop, (∀ a, MWalk P ops S VC D sp Q (k + 1) rest a w → K a) → ∀ W : World, S W → if Region.wanted o (yielded ops a.tmps) then UponC P VC (Drawn W) (fun v => K (a.put o.dst v)) ((execOp a.eval o).run P W) else K (a.put o.dst undef)) :
    MWalk P ops S VC D sp Q k (o :: rest) a w := by
  have h := h _ (fun _ h => h)
  refine ⟨fun e => (by rw [hk] at e; cases e), fun _ => ⟨fun hw W hW => ?_, fun v hv => ?_⟩⟩
  · have := h W hW
    rw [if_pos hw] at this
    revert this
    generalize (execOp a.eval o).run P W = r
    intro this
    unfold UponC at this
    unfold FineRes
    split at this
    · exact this.1
    · exact this.1
    · exact ⟨this.1, this.2.1⟩
    · cases this
  · rcases hv with ⟨hw, w1, w2, hS, hv⟩ | ⟨hw, rfl⟩
    · have := h w1 hS
      rw [if_pos hw] at this
      unfold UponC at this
      rcases hv with hv | ⟨hv, rfl⟩ | ⟨f, args, hv, hvc⟩
      · rw [hv] at this; exact this.2
      · rw [hv] at this; exact this.2
      · rw [hv] at this; exact this.2.2 v hvc
    · have := h w h0
      rwa [if_neg (by rw [hw]; exact Bool.false_ne_true)] at this
theorem mwalk_spec (hk : sp.contains k = true) (h0 : S w) (h : ∀ K : Act → World → Prop, (∀ a w', MWalk P ops S VC D sp Q (k + 1) rest a w' → K a w') → ∀ n : Nat, if Region.wanted o (yielded ops a.tmps) then SpecRes P D (fun v w' => S w' ∧ K (a.put o.dst v) w') ((execOp a.eval o).run P (w.drewN n)) else K (a.put o.dst undef) w) :
    MWalk P ops S VC D sp Q k (o :: rest) a w := by
  have h := h _ (fun _ _ h => h)
  refine ⟨fun _ => ⟨fun hw n => ?_, fun hw => ?_⟩, fun e => (by rw [hk] at e; cases e)⟩
  · have := h n
    rwa [if_pos hw] at this
  · have := h 0
    rw [if_neg (by rw [hw]; exact Bool.false_ne_true)] at this
    exact ⟨h0, this⟩
theorem mwalk_nil (hq : Q a w) : MWalk P ops S VC D sp Q k [] a w := hq
/-- an append, where the new list lies told -/
theorem specRes_append {K : Value → World → Prop} {E : Prop} (hgd : o.guard = none) (s x : Operand) (t : TypeId)
    (ho : o.op = .call { callee := .builtin .append, args := #[s, x], argTypes := #[t, t] })
    (base : Nat) (e : TypeId) (i : TypeInfo) (z : Value) (size bytes : Nat) (ht : P.underlying t = some (.slice e)) (hi : P.info? e = some i) (hz : i.zero = some z)
    (hsize : i.size = size) (hby : i.bytes = bytes) (hzs : z.cells.size = size) (hsz : 0 < size)
    (v : Value) (n : Nat) (xs : List Value) (hs : a.eval s = v) (hown : w.ownsRow base e size v n xs)
    (ad : Addr) (m c : Nat) (news : List Value) (hx : a.eval x = .slice (some ad) m c) (hl : news.length = m * size) (hnews : ∀ j u, news[j]? = some u → w.cell? (ad.add j) = some u) (h1 : ∀ u ∈ news, u.oneCell' = true)
    (h63 : n + m ≤ maxLen) (hbytes : (n + m) * bytes ≤ 140737488355328) (hbase : base ≤ w.heap.size)
    (h : ∀ v' w', w'.ownsRow base e size v' (n + m) (xs ++ news) → w.grownBy w' v.ownBlock → (v'.ownBlock = v.ownBlock ∨ v'.ownBlock = some w.heap.size) → Below base w w' → K v' w') :
    if Region.wanted o (yielded ops a.tmps) = true then SpecRes P D K ((execOp a.eval o).run P w) else E := by
  have hw : Region.wanted o (yielded ops a.tmps) = true := by simp [Region.wanted, hgd]
  rw [if_pos hw]
  obtain ⟨v', w', hr, h2, h3, _, h5⟩ := run_append_own_at (P := P) w base t o.type e i z size bytes ht hi hz hsize hby hzs hsz v n xs hown ad m c news hl hnews h1 h63 hbytes hbase
  unfold execOp
  simp only [ho, resolve, invoke, builtin, Sem.run_bind, Sem.run_pure, Result.andThen_ok, List.map_toArray, List.map_cons, List.map_nil, hs, hx, hr]
  exact h v' w' h2 h3 h5 ((Below.refl _ _).grown h3 hbase (fun j hj => (hown.lt j hj).1))
end
end Go.Proofs.Ytfjfjgegdaekbaa
/- Tapes that are copied by the reference. No condition. -/
namespace Go.Proofs.Ytfjfjgegdaekbaa
open Go Go.RowKit
set_option linter.unusedVariables false
set_option linter.unusedSimpArgs false
theorem spec_l02OwnF (w : World) (ad : Option Addr) (cap : Nat) (xs : List Nat) (h : F32s w ad cap xs) (hc : ad = none → cap = 0) (hn : xs.length ≤ 1048576) :
    Calls Try.prog 56 #[.slice ad xs.length cap] w fun e w' => ∃ ad' cap', e = .returned (.slice ad' xs.length cap') ∧ Hid (RepF w' w.heap.size w'.heap.size ad' xs.length cap' xs) ∧ Below w.heap.size w w' := by
  refine (spec_l02Own w ad cap xs h hc hn).mono ?_
  rintro e w' ⟨v, rfl, ho, hb⟩
  obtain ⟨ad', cap', rfl, hr⟩ := RepF.of_owns ho h.lt
  exact ⟨ad', cap', rfl, Lib.hid hr, hb⟩
theorem os_snoc {w W w9 : World} {B k cap : Nat} {ad : Option Addr} {S : List OpD} {s : OpD} {v' : Value} {o : Obj} (h : OwnR opR w B w.heap.size ad k cap S) (hB : B ≤ w.heap.size) (hb : Below w.heap.size w W) (hok : s.ok) {hi1 : Nat} (hr : RepF W w.heap.size hi1 s.ad s.xs.length s.cap s.xs) (hh : hi1 ≤ W.heap.size) (hh0 : w.heap.size ≤ hi1)
    (ho : w9.ownsRow B 46 7 v' (k + 1) (S.flatMap opR.cells ++ s.cells)) (hg : (W.alloc o).grownBy w9 (Value.slice ad k cap).ownBlock) (hat : v'.ownBlock = (Value.slice ad k cap).ownBlock ∨ v'.ownBlock = some (W.heap.size + 1)) :
    ∃ ad' cap', v' = .slice ad' (k + 1) cap' ∧ OwnR opR w9 B w9.heap.size ad' (k + 1) cap' (S ++ [s]) :=
  h.snoc hB hb hok hr.ownRow hh hh0 ho hg hat
theorem os_row {w W : World} {B k cap : Nat} {ad : Option Addr} {S : List OpD} (h : OwnR opR w B w.heap.size ad k cap S) (hb : Below w.heap.size w W) : W.ownsRow B 46 7 (.slice ad k cap) k (S.flatMap opR.cells) := (h.below hb).own.head.own
theorem OwnR.nil1 {α : Type} (R : RecT α) (w : World) : OwnR R (w.alloc (.cells #[] R.e)) w.heap.size (w.alloc (.cells #[] R.e)).heap.size (some ⟨w.heap.size, 0, none⟩) 0 0 [] :=
  ⟨Own.one (Row.mk' (World.ownsRow_made _ _ _ (Nat.le_refl _) (Nat.zero_le _) (by simp))), rfl, fun a ha => (nomatch ha)⟩
/-- what a call gives that copies a list -/
def OwnF (n : Nat) (xs : List Nat) (f : FuncId) (args : Array Value) (w1 : World) (v : Value) (w2 : World) : Prop := ∃ ad cap, v = .slice ad n cap ∧ RepF w2 w1.heap.size w2.heap.size ad n cap xs ∧ Below w1.heap.size w1 w2
end Go.Proofs.Ytfjfjgegdaekbaa
/- Lists of records beside other rows of the call's own. No condition. -/
namespace Go.Proofs.Ytfjfjgegdaekbaa
open Go Go.RowKit
set_option linter.unusedVariables false
set_option linter.unusedSimpArgs false
structure OwnX {α : Type} (R : RecT α) (w : World) (lo hi : Nat) (ad : Option Addr) (n cap : Nat) (us : List α) (E : List RowD) : Prop where
  own : Own w lo hi (⟨R.e, R.size, ad, n, cap, us.flatMap R.cells⟩ :: (us.flatMap R.inn ++ E))
  len : us.length = n
  ok : ∀ a ∈ us, R.ok a
section
variable {α : Type} {R : RecT α} {w w' : World} {lo hi : Nat} {ad : Option Addr} {n cap : Nat} {us : List α} {E : List RowD}
theorem OwnX.r (h : OwnX R w lo hi ad n cap us E) : OwnR R w lo hi ad n cap us := ⟨h.own.sub (List.Sublist.cons_cons _ (List.sublist_append_left _ _)), h.len, h.ok⟩
theorem OwnX.below (h : OwnX R w lo hi ad n cap us E) (hb : Below w.heap.size w w') : OwnX R w' lo hi ad n cap us E := ⟨h.own.below hb, h.len, h.ok⟩
theorem OwnX.touch {lo2 hi2 : Nat} (h : OwnX R w lo hi ad n cap us E) (ht : Touch lo2 hi2 w w') (hd : hi ≤ lo2 ∨ hi2 ≤ lo) : OwnX R w' lo hi ad n cap us E := ⟨h.own.touch ht hd, h.len, h.ok⟩
theorem OwnX.bounds {lo' hi' : Nat} (h : OwnX R w lo hi ad n cap us E) (h1 : lo' ≤ lo) (h2 : hi ≤ hi') : OwnX R w lo' hi' ad n cap us E := ⟨h.own.bounds h1 h2, h.len, h.ok⟩
/-- other rows that are there already -/
theorem OwnX.beside (h : OwnR R w lo hi ad n cap us) {hi2 : Nat} (hE : Own w hi hi2 E) (h1 : lo ≤ hi) (h2 : hi ≤ hi2) : OwnX R w lo hi2 ad n cap us E := by
  refine ⟨?_, h.len, h.ok⟩
  rw [← List.cons_append]
  exact Own.append h.own hE h1 h2
/-- an element is set whose rows are new -/
theorem OwnX.setNew {w1 w2 : World} {hi1 : Nat} (h : OwnX R w lo w.heap.size ad n cap us E) (hlo : lo ≤ w.heap.size) (hb : Below w.heap.size w w1) {k : Nat} (hk : k < n) {a : α} (ha : R.ok a) (hn : Own w1 w.heap.size hi1 (R.inn a)) (hi1s : w.heap.size ≤ hi1)
    (hst : ∀ M, Own w1 lo hi1 (⟨R.e, R.size, ad, n, cap, us.flatMap R.cells⟩ :: M) → Own w2 lo hi1 (⟨R.e, R.size, ad, n, cap, setL (us.flatMap R.cells) (k * R.size) (R.cells a)⟩ :: M)) : OwnX R w2 lo hi1 ad n cap (us.set k a) E := by
  have hkl : k < us.length := by rw [h.len]; exact hk
  refine ⟨?_, by rw [List.length_set]; exact h.len, fun b hb => ?_⟩
  · have h1 := Own.fresh h.own hlo (Nat.le_refl _) hb hn hi1s
    rw [List.cons_append] at h1
    have h2 := hst _ h1
    rw [flat_set R us hkl] at h2
    have e1 : us.flatMap R.inn = (us.take k).flatMap R.inn ++ (R.inn us[k] ++ (us.drop (k + 1)).flatMap R.inn) := by
      rw [← List.flatMap_cons, List.getElem_cons_drop, ← List.flatMap_append, List.take_append_drop]
    have e2 : (us.set k a).flatMap R.inn = (us.take k).flatMap R.inn ++ (R.inn a ++ (us.drop (k + 1)).flatMap R.inn) := by
      rw [List.set_eq_take_append_cons_drop, if_pos hkl, List.flatMap_append, List.flatMap_cons]
    rw [e1] at h2
    rw [e2]
    have h3 := h2.sub (M := ⟨R.e, R.size, ad, n, cap, (us.set k a).flatMap R.cells⟩ :: ((((us.take k).flatMap R.inn ++ (us.drop (k + 1)).flatMap R.inn) ++ E) ++ R.inn a)) (List.Sublist.cons_cons _ (List.Sublist.append (List.Sublist.append (List.Sublist.append (List.Sublist.refl _) (List.sublist_append_right _ _)) (List.Sublist.refl _)) (List.Sublist.refl _)))
    refine h3.perm (List.Perm.cons _ ?_)
    simp only [List.append_assoc]
    refine List.Perm.append_left _ ?_
    rw [← List.append_assoc, ← List.append_assoc]
    refine List.perm_append_comm.trans ?_
    rw [List.append_assoc]
  · rcases List.mem_or_eq_of_mem_set hb with hb | rfl
    · exact h.ok b hb
    · exact ha
/-- one more element, whose rows are new -/
theorem OwnX.snoc {w1 w2 : World} {hi1 : Nat} {v' : Value} {a : α} {o : Obj} (h : OwnX R w lo w.heap.size ad n cap us E) (hlo : lo ≤ w.heap.size) (hb : Below w.heap.size w w1) (ha : R.ok a) (hn : Own w1 w.heap.size hi1 (R.inn a)) (hi1s : hi1 ≤ w1.heap.size) (hi0 : w.heap.size ≤ hi1)
    (ho : w2.ownsRow lo R.e R.size v' (n + 1) (us.flatMap R.cells ++ R.cells a)) (hg : (w1.alloc o).grownBy w2 (Value.slice ad n cap).ownBlock) (hat : v'.ownBlock = (Value.slice ad n cap).ownBlock ∨ v'.ownBlock = some (w1.heap.size + 1)) :
    ∃ ad' cap', v' = .slice ad' (n + 1) cap' ∧ OwnX R w2 lo w2.heap.size ad' (n + 1) cap' (us ++ [a]) E := by
  obtain ⟨ad', cap', rfl, _⟩ := Rd.of_owns ho
  refine ⟨ad', cap', rfl, ?_, by rw [List.length_append, h.len]; rfl, fun b hb => ?_⟩
  · have h1 := Own.fresh h.own hlo (Nat.le_refl _) hb hn hi0
    rw [List.cons_append] at h1
    have h2 : Own (w1.alloc o) lo hi1 _ := h1.below (below1 w1 o)
    have hs := hg.size
    have h3 := h2.grown (w' := w2) (hi' := w2.heap.size) (y := ⟨R.e, R.size, ad', n + 1, cap', (us ++ [a]).flatMap R.cells⟩) hg (by
      refine Row.mk' ?_
      rw [List.flatMap_append, List.flatMap_singleton]
      exact ho) (fun g e => ?_) (by simp at hs; omega)
    · have e : (us ++ [a]).flatMap R.inn = us.flatMap R.inn ++ R.inn a := by rw [List.flatMap_append, List.flatMap_singleton]
      rw [e]
      refine h3.perm (List.Perm.cons _ ?_)
      simp only [List.append_assoc]
      exact List.Perm.append_left _ List.perm_append_comm
    · rcases hat with e1 | e1
      · exact .inl (e1.symm.trans e)
      · right
        have e2 : some g = some (w1.heap.size + 1) := e.symm.trans e1
        cases e2
        omega
  · rcases List.mem_append.1 hb with hb | hb
    · exact h.ok b hb
    · simp at hb; subst hb; exact ha
/-- the first of the other rows is written -/
theorem OwnX.storeE {e : TypeId} {size g m c : Nat} {vs : List Value} {E : List RowD} (h : OwnX R w lo hi ad n cap us (⟨e, size, some ⟨g, 0, none⟩, m, c, vs⟩ :: E)) (k : Nat) (v : Value) : OwnX R (w.setCell ⟨g, k, none⟩ v) lo hi ad n cap us (⟨e, size, some ⟨g, 0, none⟩, m, c, vs.set k v⟩ :: E) := by
  refine ⟨?_, h.len, h.ok⟩
  have p : ∀ (x : RowD), (⟨R.e, R.size, ad, n, cap, us.flatMap R.cells⟩ :: (us.flatMap R.inn ++ x :: E)).Perm (x :: (⟨R.e, R.size, ad, n, cap, us.flatMap R.cells⟩ :: (us.flatMap R.inn ++ E))) := fun x =>
    (List.Perm.cons _ List.perm_middle).trans (List.Perm.swap _ _ _)
  exact ((h.own.perm (p _)).store k v).perm (p _).symm
theorem OwnX.memE {x : RowD} (h : OwnX R w lo hi ad n cap us E) (hx : x ∈ E) : x ∈ (⟨R.e, R.size, ad, n, cap, us.flatMap R.cells⟩ :: (us.flatMap R.inn ++ E) : List RowD) := List.mem_cons_of_mem _ (List.mem_append_right _ hx)
end
/-- marks beside a list -/
def uRow (g n : Nat) (U : List Bool) : RowD := ⟨4, 1, some ⟨g, 0, none⟩, n, n, U.map Value.bool⟩
section
variable {α : Type} {R : RecT α} {w w' : World} {lo hi : Nat} {ad : Option Addr} {n cap : Nat} {us : List α} {g m : Nat} {U : List Bool} {E : List RowD}
theorem OwnX.u (h : OwnX R w lo hi ad n cap us (uRow g m U :: E)) : g < w.heap.size ∧ lo ≤ g ∧ (∀ k, k < U.length → w.cell? ⟨g, k, none⟩ = some (.bool (U.getD k false))) ∧ ∀ k, w.frozen? ⟨g, k, none⟩ = false := by
  obtain ⟨_, h1, h2, h3⟩ := h.own.cell (h.memE (List.mem_cons_self ..))
  refine ⟨h1.2.2, h1.1, fun k hk => ?_, h3⟩
  rw [h2 k (by simpa using hk), List.getElem?_map, List.getElem?_eq_getElem hk, List.getD_eq_getElem?_getD, List.getElem?_eq_getElem hk]; rfl
theorem OwnX.setU (h : OwnX R w lo hi ad n cap us (uRow g m U :: E)) (k : Nat) : OwnX R (w.setCell ⟨g, k, none⟩ (.bool true)) lo hi ad n cap us (uRow g m (U.set k true) :: E) := by
  have := h.storeE k (.bool true)
  unfold uRow
  rw [List.map_set]
  exact this
end
end Go.Proofs.Ytfjfjgegdaekbaa
/- A tensor of what a function makes of each number. No condition. -/
namespace Go.Proofs.Ytfjfjgegdaekbaa
open Go Go.RowKit
set_option linter.unusedVariables false
set_option linter.unusedSimpArgs false
theorem owns_touch5 {w w' : World} {lo hi size base n : Nat} {e : TypeId} {v : Value} {cs : List Value} (h : w.ownsRow base e size v n cs) (ht : Touch lo hi w w') (hd : hi ≤ base) : w'.ownsRow base e size v n cs := ((Row.mk' h).touch ht (.inr hd)).own
theorem cell_after {w2 w9 : World} {o : Obj} {c j : Nat} {row : Option Nat} {v : Value} (hg : (w2.alloc o).grownBy w9 row) (hc : c < w2.heap.size) (hne : row ≠ some c) (hf : w2.cell? ⟨c, j, none⟩ = some v) : w9.cell? ⟨c, j, none⟩ = some v := by
  rw [hg.cell_far ⟨c, j, none⟩ (by simp; omega) (Ne.symm hne)]
  have h : (w2.alloc o).cell? ⟨c, j, none⟩ = w2.cell? ⟨c, j, none⟩ := World.cell?_of_block (heap_alloc_old _ _ hc)
  rw [h]; exact hf
/-- a call of a function value, as one step of a region that draws -/
theorem step_call_value {P : Program} {ops : Array Oper} {o : Oper} {a : Act} {w : World} {K : Act → World → Prop} {Q : Exit → Act → World → Prop} {E : Prop} (hg : o.guard = none) (f : FuncId) (args : Array Value)
    (he : (execOp a.eval o).run P w = .ok (.enter f args) w) (hC : Calls P f args w (fun e w' => ∃ v, e = .returned v ∧ K (a.put o.dst v) w')) : if Region.wanted o (yielded ops a.tmps) = true then Oper.wp P o a w K Q else E := by
  have hw : Region.wanted o (yielded ops a.tmps) = true := by simp [Region.wanted, hg]
  rw [if_pos hw]
  unfold Oper.wp
  rw [he]
  refine hC.mono fun e w' ⟨v, hv, hk⟩ => ?_
  subst hv
  exact hk
theorem frozen_after {w2 w9 : World} {o : Obj} {c j : Nat} {row : Option Nat} (hg : (w2.alloc o).grownBy w9 row) (hc : c < w2.heap.size) (hne : row ≠ some c) (hf : w2.frozen? ⟨c, j, none⟩ = false) : w9.frozen? ⟨c, j, none⟩ = false := by
  rw [hg.frozen_far ⟨c, j, none⟩ (by simp; omega) (Ne.symm hne)]
  have h : (w2.alloc o).frozen? ⟨c, j, none⟩ = w2.frozen? ⟨c, j, none⟩ := World.frozen?_of_block (heap_alloc_old _ _ hc)
  rw [h]; exact hf
/-- what is told of the numbers that the function makes -/
def Made (P : Nat → Nat → Nat → Prop) (xs ys : List Nat) : Prop := ∀ i, i < ys.length → P i (xs.getD i 0) (ys.getD i 0) ∧ ys.getD i 0 < 4294967296
theorem Made.snoc {P : Nat → Nat → Nat → Prop} {xs ys : List Nat} {y : Nat} (h : Made P xs ys) (hp : P ys.length (xs.getD ys.length 0) y) (hy : y < 4294967296) : Made P xs (ys ++ [y]) := by
  intro i hi
  rw [List.length_append] at hi
  simp at hi
  by_cases e : i = ys.length
  · subst e
    rw [List.getD_eq_getElem?_getD, List.getD_eq_getElem?_getD, List.getElem?_append_right (Nat.le_refl _)]
    rw [List.getD_eq_getElem?_getD] at hp
    simpa using ⟨hp, hy⟩
  · have h1 := h i (by omega)
    have e2 : (ys ++ [y]).getD i 0 = ys.getD i 0 := by
      rw [List.getD_eq_getElem?_getD, List.getD_eq_getElem?_getD, List.getElem?_append_left (by omega)]
    rw [e2]; exact h1
set_option maxHeartbeats 4000000 in
set_option maxRecDepth 100000 in
theorem ten_mapped (w : World) (r c : Nat) (ad : Option Addr) (cap : Nat) (xs : List Nat) (h : F32s w ad cap xs) (hl : xs.length ≤ 256) (G : Nat) (caps : Array Value) (P : Nat → Nat → Nat → Prop) (hG : ∀ (args : Array Value) (W : World), (callFunc G args).run Try.prog W = .ok (.enter G args) W)
    (hcl : ∀ W (i x : Nat), Below w.heap.size w W → i < xs.length → x = xs.getD i 0 → Calls Try.prog G (#[.int .i64 i, .float .f32 x] ++ caps) W fun e w' => ∃ y, e = .returned (.float .f32 y) ∧ Hid (P i x y ∧ y < 4294967296) ∧ Below W.heap.size W w') :
    Calls Try.prog 59 #[.agg #[.int .i64 r, .int .i64 c, .slice ad xs.length cap], .func (.func G) #[] caps] w fun e w' => ∃ ad' cap' ys, e = .returned (.agg #[.int .i64 r, .int .i64 c, .slice ad' xs.length cap']) ∧ Hid (RepF w' w.heap.size w'.heap.size ad' xs.length cap' ys) ∧ Hid (Made P xs ys) ∧ Below w.heap.size w w' := by
  obtain ⟨i0, hi0, hz0, hz1, hz2⟩ := info_parts info_f32
  obtain ⟨n, hn⟩ : ∃ n, n = xs.length := ⟨_, rfl⟩
  have NX := Lib.hid hn
  rw [← hn] at hl hcl ⊢
  have HC := Lib.hid hcl; have H := Lib.hid h
  have rb0 := (Box3.alloc2 w (.cells #[.int .i64 r, .int .i64 c, .slice ad n cap] 44) (.int .i64 0) (.int .i64 0) (.slice none 0 0) 44).below (below1 _ (.cells #[.int .i64 r, .int .i64 c, .slice none 0 0] 44))
  have ob0 := Box3.alloc2 (w.alloc (.cells #[.int .i64 r, .int .i64 c, .slice ad n cap] 44)) (.cells #[.int .i64 0, .int .i64 0, .slice none 0 0] 44) (.int .i64 r) (.int .i64 c) (.slice none 0 0) 44
  rw [show (w.alloc (.cells #[.int .i64 r, .int .i64 c, .slice ad n cap] 44)).heap.size = w.heap.size + 1 by simp] at ob0
  have b00 := below3 w (.cells #[.int .i64 r, .int .i64 c, .slice ad n cap] 44) (.cells #[.int .i64 0, .int .i64 0, .slice none 0 0] 44) (.cells #[.int .i64 r, .int .i64 c, .slice none 0 0] 44)
  have hsz : (((w.alloc (.cells #[.int .i64 r, .int .i64 c, .slice ad n cap] 44)).alloc (.cells #[.int .i64 0, .int .i64 0, .slice none 0 0] 44)).alloc (.cells #[.int .i64 r, .int .i64 c, .slice none 0 0] 44)).heap.size = w.heap.size + 3 := by simp
  have RB := Lib.hid rb0; have OB := Lib.hid ob0; have B0 := Lib.hid b00; have SZ := Lib.hid hsz
  clear hsz rb0 ob0 b00
  clear hcl h hn
  go_enter Try.func59, Try.ntmps59
  go_wp2
  generalize (((w.alloc (.cells #[.int .i64 r, .int .i64 c, .slice ad n cap] 44)).alloc (.cells #[.int .i64 0, .int .i64 0, .slice none 0 0] 44)).alloc (.cells #[.int .i64 r, .int .i64 c, .slice none 0 0] 44)) = W0 at RB OB B0 SZ ⊢
  obtain ⟨ob, hob⟩ : ∃ ob, ob = w.heap.size + 1 + 1 := ⟨_, rfl⟩
  rw [← hob] at OB ⊢
  have hob2 : ob = w.heap.size + 2 := hob
  have HOB := Lib.hid hob2
  have hob3 : ob < w.heap.size + 3 := by omega
  clear hob hob2
  go_loopw [16, 6, 7] (fun i _ _ wt => ∃ k : Nat, i = .int .i64 k ∧ k ≤ n ∧ ∃ (vv : Value) (ys : List Nat), Hid (Box3 wt (ob) (.int .i64 r) (.int .i64 c) vv) ∧ Hid (Box3 wt (w.heap.size + 1) (.int .i64 0) (.int .i64 0) (.slice none 0 0)) ∧ Hid (wt.ownsRow (w.heap.size + 3) 35 1 vv k (ys.map (Value.float .f32)) ∧ ys.length = k ∧ Made P xs ys) ∧ Hid (Below w.heap.size w wt) ∧ w.heap.size + 3 ≤ wt.heap.size) (fun i _ _ _ => n - (intOf i).toNat)
  case atStart => exact ⟨0, rfl, Nat.zero_le _, .slice none 0 0, [], Lib.hid OB.out, Lib.hid RB.out, Lib.hid ⟨⟨rfl, .inl ⟨rfl, rfl⟩⟩, rfl, fun i hi => by simp at hi⟩, Lib.hid B0.out, by rw [SZ.out]; exact Nat.le_refl _⟩
  case round =>
    clear RB OB B0 SZ
    obtain ⟨k, rfl, hk, vv, ys, OB, RB, OW, B, hsz⟩ := hrel
    by_cases hlt : k < n
    · have kx : k < xs.length := by rw [← NX.out]; exact hlt
      have h2 := H.out.below B.out
      obtain ⟨b, off, rfl, _, c1⟩ := h2.spot (k := k) kx
      have c1 := c1 k kx
      obtain ⟨x, hx⟩ : ∃ x, x = xs.getD k 0 := ⟨_, rfl⟩
      rw [← hx] at c1
      have KC := Lib.hid (HC.out wr.drew k x (Below.drew B.out) hlt hx); have HXS := Lib.hid hx
      obtain ⟨va, vc, rfl⟩ : ∃ va vc, vv = .slice va k vc := by
        obtain ⟨ad', cap', e, _⟩ := Rd.of_owns OW.out.1
        exact ⟨ad', cap', e⟩
      have hne : (Value.slice va k vc).ownBlock ≠ some (ob) := by
        intro e
        have := (OW.out.1.lt _ e).1
        omega
      have HO1 := Lib.hid (owns_below OW.out.1 (Below.drew (Below.refl _ _)))
      obtain ⟨q5, q0, q1, q2, qf⟩ := OB.out
      clear h2 hx kx
      go_wp2
      go_region_law
        (first
          | (refine step_call_value (by rfl) G (#[.int .i64 k, .float .f32 x] ++ caps) (by go_simp) ?_; refine KC.out.mono ?_; rintro e w2 ⟨y, rfl, hy, hb2⟩; refine ⟨_, rfl, ?_⟩; have hzz2 : wr.heap.size ≤ w2.heap.size := hb2.size; have HO2 := Lib.hid (owns_below HO1.out hb2); obtain ⟨p5, p0, p1, p2, pf⟩ := (OB.out.below (Below.drew (Below.refl _ _))).below hb2)
          | (refine step_append_lies _ (by rfl) _ _ _ (by rfl) (w.heap.size + 3) 35 i0 _ 1 4 Try.underlying36 hi0 hz0 hz1 hz2 rfl (by omega) (.slice va k vc) k (ys.map (Value.float .f32)) (by rfl) (HO2.out.alloc _)
              ⟨w2.heap.size, 0, none⟩ 1 1 [.float .f32 y] (by rfl) (by rfl) (World.news_of_block (cs := #[.float .f32 y]) (t := 35) (fr := (0, 0)) (heap_alloc_new w2 _)) (by simp [Value.oneCell'])
              (by omega) (by unfold maxLen; omega) (by omega) (by simp; omega) (w2.heap.size + 1) (by simp) ?_; intro gg cap9 w9 hown1 hgrow hat hlt9; have cf0 := cell_after hgrow p5 hne p0; have cf1 := cell_after hgrow p5 hne p1; have cf9 := cell_after hgrow p5 hne p2; have uf9 : w9.frozen? ⟨ob, 2, none⟩ = false := frozen_after hgrow p5 hne (pf 2)))
      all_goals
        have hs9 := hgrow.size
        simp at hs9
        have B9 : Box3 w9 ob (.int .i64 r) (.int .i64 c) (.slice va k vc) := ⟨by omega, cf0, cf1, cf9, fun o => frozen_after hgrow p5 hne (pf o)⟩
        have hne2 : (Value.slice va k vc).ownBlock ≠ some (w.heap.size + 1) := by
          intro e
          have := (OW.out.1.lt _ e).1
          omega
        obtain ⟨r5, r0, r1, r2, rf⟩ := (RB.out.below (Below.drew (Below.refl _ _))).below hb2
        have R9 : Box3 w9 (w.heap.size + 1) (.int .i64 0) (.int .i64 0) (.slice none 0 0) := ⟨by omega, cell_after hgrow r5 hne2 r0, cell_after hgrow r5 hne2 r1, cell_after hgrow r5 hne2 r2, fun o => frozen_after hgrow r5 hne2 (rf o)⟩
        have hbw : Below w.heap.size w w9 := Below.grown (Below.alloc (bthen (Below.drew B.out) hb2) (by omega) _) hgrow (by simp; omega) (fun g e => by have := (OW.out.1.lt g e).1; omega)
        have ho9 := owns_touch5 (lo := ob) (hi := ob + 1) hown1 (Touch.setCell (w := w9) (g := ob) (k := 2) (v := .slice (some ⟨gg, 0, none⟩) (k + 1) cap9) (Nat.le_refl _) (by omega)) (by omega)
        have hob1 : w.heap.size + 1 ≠ ob := by have := HOB.out; omega
        have hm := OW.out.2.2.snoc (y := y) (by rw [OW.out.2.1, ← HXS.out]; exact hy.out.1) hy.out.2
        have NB := Lib.hid (B9.set 2 (.slice (some ⟨gg, 0, none⟩) (k + 1) cap9)); have NR := Lib.hid (R9.far ob 2 (.slice (some ⟨gg, 0, none⟩) (k + 1) cap9) (Ne.symm hob1))
        have NO := Lib.hid ho9; have NM := Lib.hid hm; have NW := Lib.hid (Below.setCell (p := ⟨ob, 2, none⟩) hbw (by show w.heap.size ≤ ob; have := HOB.out; omega) (.slice (some ⟨gg, 0, none⟩) (k + 1) cap9))
        have hz9 : w.heap.size + 3 ≤ w9.heap.size := by omega
        clear B9 R9 hbw ho9 hm hown1 hgrow hat cf0 cf1 cf9 uf9 p0 p1 p2 pf r0 r1 r2 rf hb2 KC HO1 HO2
        go_wp2
        refine ⟨?rel, ?measure⟩
        case rel => exact ⟨k + 1, by go_num, hlt, _, ys ++ [y], Lib.hid NB.out, NR, Lib.hid ⟨by rw [List.map_append]; exact NO.out, by rw [List.length_append, OW.out.2.1]; rfl, NM.out⟩, NW, by simp [World.setCell]; omega⟩
        case measure => simp [intOf]; omega
    · have hkn : k = n := by omega
      subst hkn
      obtain ⟨va, vc, rfl⟩ : ∃ va vc, vv = .slice va k vc := by
        obtain ⟨ad', cap', e, _⟩ := Rd.of_owns OW.out.1
        exact ⟨ad', cap', e⟩
      obtain ⟨q5, q0, q1, q2, qf⟩ := OB.out
      obtain ⟨r5, r0, r1, r2, rf⟩ := RB.out
      have hbf : ∀ a b d : Value, Below w.heap.size w (((wr.setCell ⟨w.heap.size + 1, 0, none⟩ a).setCell ⟨w.heap.size + 1, 1, none⟩ b).setCell ⟨w.heap.size + 1, 2, none⟩ d) := fun a b d =>
        Below.setCell (p := ⟨w.heap.size + 1, 2, none⟩) (Below.setCell (p := ⟨w.heap.size + 1, 1, none⟩) (Below.setCell (p := ⟨w.heap.size + 1, 0, none⟩) B.out (by show w.heap.size ≤ w.heap.size + 1; omega) a) (by show w.heap.size ≤ w.heap.size + 1; omega) b) (by show w.heap.size ≤ w.heap.size + 1; omega) d
      have htf : ∀ a b d : Value, Touch (w.heap.size + 1) (w.heap.size + 2) wr (((wr.setCell ⟨w.heap.size + 1, 0, none⟩ a).setCell ⟨w.heap.size + 1, 1, none⟩ b).setCell ⟨w.heap.size + 1, 2, none⟩ d) := fun a b d =>
        ((Touch.setCell (Nat.le_refl _) (by omega)).trans (Touch.setCell (Nat.le_refl _) (by omega))).trans (Touch.setCell (Nat.le_refl _) (by omega))
      have HBF := Lib.hid hbf; have HTF := Lib.hid htf
      have hob1 : w.heap.size + 1 ≠ ob := by have := HOB.out; omega
      have hob2 : ob ≠ w.heap.size + 1 := Ne.symm hob1
      clear hbf htf HC
      go_wp2
      try simp only [Exit.inBlock, Exit.then]
      refine bodyPost_ret (v := .agg #[.int .i64 r, .int .i64 c, .slice va k vc]) (by simp [results, Try.results59, go_sem, r0, r1, r2]) rfl ⟨va, vc, ys, rfl, Lib.hid ?_, Lib.hid OW.out.2.2, HBF.out _ _ _⟩
      have h1 := owns_touch5 OW.out.1 (HTF.out (.int .i64 r) (.int .i64 c) (.slice va k vc)) (by omega)
      obtain ⟨a', c', e, h2⟩ := RepF.of_owns h1 (fun y hy => by
        obtain ⟨i, hi, rfl⟩ := List.getElem_of_mem hy
        have := (OW.out.2.2 i hi).2
        rwa [List.getD_eq_getElem?_getD, List.getElem?_eq_getElem hi] at this)
      cases e
      exact h2.bounds (by omega) (Nat.le_refl _)
end Go.Proofs.Ytfjfjgegdaekbaa
/- What ReluTensor does. No condition. -/
namespace Go.Proofs.Ytfjfjgegdaekbaa
open Go Go.RowKit
set_option linter.unusedVariables false
set_option linter.unusedSimpArgs false
/-- a number that is greater than 0 or none, and +0 for all others -/
def reluW (x : Nat) : Nat := if (FloatKind.f32.format.order x 0 == some .gt || isN .f32 x) = true then x else 0
theorem impl_relu (x : Nat) (w : World) : Calls Try.prog 88 #[.float .f32 x] w fun e w' => e = .returned (.float .f32 (reluW x)) ∧ w = w' := by
  have hs := order_self .f32 x
  unfold reluW
  cases h1 : (FloatKind.f32.format.order x 0 == some .gt)
  · cases h2 : isN .f32 x
    · rw [h2, if_neg (by decide)] at hs
      rw [if_neg (by decide)]
      have hs2 : (FloatKind.f32.format.order x x != some .eq) = false := by rw [hs]; rfl
      clear h2
      go_enter Try.func88, Try.ntmps88
      go_wp2
      go_ret
      exact ⟨rfl, rfl⟩
    · rw [h2, if_pos rfl] at hs
      rw [if_pos (by decide)]
      have hs2 : (FloatKind.f32.format.order x x != some .eq) = true := by rw [hs]; rfl
      clear h2
      go_enter Try.func88, Try.ntmps88
      go_wp2
      go_ret
      exact ⟨rfl, rfl⟩
  · rw [Bool.true_or, if_pos rfl]
    clear hs
    go_enter Try.func88, Try.ntmps88
    go_wp2
    go_ret
    exact ⟨rfl, rfl⟩
theorem reluW_lt {x : Nat} (h : x < 4294967296) : reluW x < 4294967296 := by unfold reluW; split <;> omega
theorem impl_reluTensor1 (i x : Nat) (w : World) : Calls Try.prog 87 #[.int .i64 i, .float .f32 x] w fun e w' => e = .returned (.float .f32 (reluW x)) ∧ w = w' := by
  have K := Lib.hid (fun W => impl_relu x W)
  go_enter Try.func87, Try.ntmps87
  go_wp2_with fail
  refine (K.out _).mono ?_
  rintro e w1 ⟨rfl, rfl⟩
  go_wp2
  go_ret
  exact ⟨rfl, rfl⟩
set_option maxHeartbeats 2000000 in
theorem impl_reluTensor (w : World) (r c : Nat) (ad : Option Addr) (cap : Nat) (xs : List Nat) (h : F32s w ad cap xs) (hl : xs.length ≤ 256) :
    Calls Try.prog 72 #[.agg #[.int .i64 r, .int .i64 c, .slice ad xs.length cap]] w fun e w' => ∃ ad' cap' ys, e = .returned (.agg #[.int .i64 r, .int .i64 c, .slice ad' xs.length cap']) ∧ Hid (RepF w' w.heap.size w'.heap.size ad' xs.length cap' ys) ∧ Hid (Made (fun _ x y => y = reluW x) xs ys) ∧ Below w.heap.size w w' := by
  have K := Lib.hid (fun W (hW : F32s W ad cap xs) => ten_mapped W r c ad cap xs hW hl 87 #[] (fun _ x y => y = reluW x) (fun args W => by kernel_rfl) (fun W' i x hb hi hx => (impl_reluTensor1 i x W').mono fun e w' ⟨he, hw⟩ => ⟨reluW x, he, Lib.hid ⟨rfl, reluW_lt (by rw [hx]; exact h.lt _ (mem_getD hi))⟩, by rw [← hw]; exact Below.refl _ _⟩))
  have hs1 := below2 w (.cells #[.int .i64 r, .int .i64 c, .slice ad xs.length cap] 44) (.cells #[.int .i64 0, .int .i64 0, .slice none 0 0] 44)
  have RB := Lib.hid (Box3.alloc2 w (.cells #[.int .i64 r, .int .i64 c, .slice ad xs.length cap] 44) (.int .i64 0) (.int .i64 0) (.slice none 0 0) 44)
  have B := Lib.hid hs1
  have H := Lib.hid (h.below hs1)
  obtain ⟨n, hn⟩ : ∃ n, n = xs.length := ⟨_, rfl⟩
  rw [← hn] at K RB B H ⊢
  clear hs1 h hn hl
  go_enter Try.func72, Try.ntmps72
  go_wp2_with fail
  refine (K.out _ H.out).mono ?_
  rintro e w' ⟨va, vc, ys, rfl, RO, RM, hb⟩
  obtain ⟨r5, r0, r1, r2, rf⟩ := RB.out.below hb
  have hbw := bthen B.out hb
  have hz := hb.size
  simp at hz
  have hbf : ∀ a b d : Value, Below w.heap.size w (((w'.setCell ⟨w.heap.size + 1, 0, none⟩ a).setCell ⟨w.heap.size + 1, 1, none⟩ b).setCell ⟨w.heap.size + 1, 2, none⟩ d) := fun a b d =>
    Below.setCell (p := ⟨w.heap.size + 1, 2, none⟩) (Below.setCell (p := ⟨w.heap.size + 1, 1, none⟩) (Below.setCell (p := ⟨w.heap.size + 1, 0, none⟩) hbw (by show w.heap.size ≤ w.heap.size + 1; omega) a) (by show w.heap.size ≤ w.heap.size + 1; omega) b) (by show w.heap.size ≤ w.heap.size + 1; omega) d
  have htf : ∀ a b d : Value, Touch (w.heap.size + 1) (w.heap.size + 2) w' (((w'.setCell ⟨w.heap.size + 1, 0, none⟩ a).setCell ⟨w.heap.size + 1, 1, none⟩ b).setCell ⟨w.heap.size + 1, 2, none⟩ d) := fun a b d =>
    ((Touch.setCell (Nat.le_refl _) (by omega)).trans (Touch.setCell (Nat.le_refl _) (by omega))).trans (Touch.setCell (Nat.le_refl _) (by omega))
  have HBF := Lib.hid hbf; have HTF := Lib.hid htf
  clear hbf htf hbw hb
  go_wp2
  try simp only [Exit.inBlock, Exit.then]
  refine bodyPost_ret (v := .agg #[.int .i64 r, .int .i64 c, .slice va n vc]) (by simp [results, Try.results72, go_sem, r0, r1, r2]) rfl ⟨va, vc, ys, rfl, Lib.hid ?_, RM, HBF.out _ _ _⟩
  have h1 := RO.out.touch (HTF.out (.int .i64 r) (.int .i64 c) (.slice va n vc)) (.inr (by simp))
  exact h1.bounds (by simp; omega) (by simp [World.setCell])
end Go.Proofs.Ytfjfjgegdaekbaa
/- What ScaleTensor does. No condition. -/
namespace Go.Proofs.Ytfjfjgegdaekbaa
open Go Go.RowKit
set_option linter.unusedVariables false
set_option linter.unusedSimpArgs false
theorem impl_scaleTensor1 (i x z g : Nat) (w : World) (hz : w.cell? ⟨g, 0, none⟩ = some (.float .f32 z)) : Calls Try.prog 82 (#[.int .i64 i, .float .f32 x] ++ #[.pointer (some ⟨g, 0, none⟩)]) w fun e w' => ∃ y, e = .returned (.float .f32 y) ∧ Hid (cn .f32 y = fop .mul .f32 (cn .f32 x) (cn .f32 z) ∧ y < 4294967296) ∧ Dr w w' := by
  show Calls Try.prog 82 #[.int .i64 i, .float .f32 x, .pointer (some ⟨g, 0, none⟩)] w _
  go_enter Try.func82, Try.ntmps82
  go_wp2
  go_ret
  exact ⟨_, rfl, Lib.hid ⟨cn_fbits _ _ _ _ _, fbits_lt _ .f32 _ _ _⟩, (Dr.refl _).drewN _⟩
set_option maxHeartbeats 2000000 in
theorem impl_scaleTensor (w : World) (r c : Nat) (ad : Option Addr) (cap : Nat) (xs : List Nat) (h : F32s w ad cap xs) (hl : xs.length ≤ 256) (z : Nat) :
    Calls Try.prog 67 #[.agg #[.int .i64 r, .int .i64 c, .slice ad xs.length cap], .float .f32 z] w fun e w' => ∃ ad' cap' ys, e = .returned (.agg #[.int .i64 r, .int .i64 c, .slice ad' xs.length cap']) ∧ Hid (RepF w' w.heap.size w'.heap.size ad' xs.length cap' ys) ∧ Hid (Made (fun _ x y => cn .f32 y = fop .mul .f32 (cn .f32 x) (cn .f32 z)) xs ys) ∧ Below w.heap.size w w' := by
  have K := Lib.hid (fun W (hW : F32s W ad cap xs) (hz : W.cell? ⟨w.heap.size + 1, 0, none⟩ = some (.float .f32 z)) (hzl : w.heap.size + 1 < W.heap.size) => ten_mapped W r c ad cap xs hW hl 82 #[.pointer (some ⟨w.heap.size + 1, 0, none⟩)] (fun _ x y => cn .f32 y = fop .mul .f32 (cn .f32 x) (cn .f32 z)) (fun args W => by kernel_rfl) (fun W' i x hb hi hx => (impl_scaleTensor1 i x z (w.heap.size + 1) W' ((hb.cell (p := ⟨w.heap.size + 1, 0, none⟩) hzl).trans hz)).mono fun e w' ⟨y, he, hy, hd⟩ => ⟨y, he, hy, hd.below⟩))
  have hs1 := below3 w (.cells #[.int .i64 r, .int .i64 c, .slice ad xs.length cap] 44) (.cells #[.float .f32 z] 35) (.cells #[.int .i64 0, .int .i64 0, .slice none 0 0] 44)
  have RB := Lib.hid (Box3.alloc2 (w.alloc (.cells #[.int .i64 r, .int .i64 c, .slice ad xs.length cap] 44)) (.cells #[.float .f32 z] 35) (.int .i64 0) (.int .i64 0) (.slice none 0 0) 44)
  rw [show (w.alloc (.cells #[.int .i64 r, .int .i64 c, .slice ad xs.length cap] 44)).heap.size = w.heap.size + 1 by simp] at RB
  have B := Lib.hid hs1
  have H := Lib.hid (h.below hs1)
  obtain ⟨n, hn⟩ : ∃ n, n = xs.length := ⟨_, rfl⟩
  rw [← hn] at K RB B H ⊢
  clear hs1 h hn hl
  go_enter Try.func67, Try.ntmps67
  go_wp2_with fail
  refine (K.out _ H.out (by go_simp) (by simp)).mono ?_
  rintro e w' ⟨va, vc, ys, rfl, RO, RM, hb⟩
  obtain ⟨r5, r0, r1, r2, rf⟩ := RB.out.below hb
  have hbw := bthen B.out hb
  have hz := hb.size
  simp at hz
  have hbf : ∀ a b d : Value, Below w.heap.size w (((w'.setCell ⟨w.heap.size + 1 + 1, 0, none⟩ a).setCell ⟨w.heap.size + 1 + 1, 1, none⟩ b).setCell ⟨w.heap.size + 1 + 1, 2, none⟩ d) := fun a b d =>
    Below.setCell (p := ⟨w.heap.size + 1 + 1, 2, none⟩) (Below.setCell (p := ⟨w.heap.size + 1 + 1, 1, none⟩) (Below.setCell (p := ⟨w.heap.size + 1 + 1, 0, none⟩) hbw (by show w.heap.size ≤ w.heap.size + 1 + 1; omega) a) (by show w.heap.size ≤ w.heap.size + 1 + 1; omega) b) (by show w.heap.size ≤ w.heap.size + 1 + 1; omega) d
  have htf : ∀ a b d : Value, Touch (w.heap.size + 1 + 1) (w.heap.size + 3) w' (((w'.setCell ⟨w.heap.size + 1 + 1, 0, none⟩ a).setCell ⟨w.heap.size + 1 + 1, 1, none⟩ b).setCell ⟨w.heap.size + 1 + 1, 2, none⟩ d) := fun a b d =>
    ((Touch.setCell (Nat.le_refl _) (by omega)).trans (Touch.setCell (Nat.le_refl _) (by omega))).trans (Touch.setCell (Nat.le_refl _) (by omega))
  have HBF := Lib.hid hbf; have HTF := Lib.hid htf
  clear hbf htf hbw hb
  go_wp2
  try simp only [Exit.inBlock, Exit.then]
  refine bodyPost_ret (v := .agg #[.int .i64 r, .int .i64 c, .slice va n vc]) (by simp [results, Try.results67, go_sem, r0, r1, r2]) rfl ⟨va, vc, ys, rfl, Lib.hid ?_, RM, HBF.out _ _ _⟩
  have h1 := RO.out.touch (HTF.out (.int .i64 r) (.int .i64 c) (.slice va n vc)) (.inr (by simp))
  exact h1.bounds (by simp; omega) (by simp [World.setCell])
end Go.Proofs.Ytfjfjgegdaekbaa
/- A tensor that a loop builds. No condition. -/
namespace Go.Proofs.Ytfjfjgegdaekbaa
open Go Go.RowKit
set_option linter.unusedVariables false
set_option linter.unusedSimpArgs false
/-- a tensor that is given: its numbers, NaNs made one -/
def TenPost (r c : Int) (n : Nat) (P : List Nat) (w : World) (e : Ending) (w' : World) : Prop := ∃ ad cap zs, e = .returned (.agg #[.int .i64 r, .int .i64 c, .slice ad n cap]) ∧ Hid (RepF w' w.heap.size w'.heap.size ad n cap zs) ∧ Hid (zs.map (cn .f32) = P) ∧ Below w.heap.size w w'
def tRow (va : Option Addr) (k vc : Nat) (ys : List Nat) : RowD := ⟨35, 1, va, k, vc, ys.map (Value.float .f32)⟩
def bRow (g : Nat) (cs : List Value) : RowD := ⟨44, 3, some ⟨g, 0, none⟩, 1, 1, cs⟩
/-- a tensor under way: its numbers, its own box, the result's box -/
structure Bld (w0 : World) (wt : World) (rb ob : Nat) (r c : Int) (va : Option Addr) (k vc : Nat) (ys : List Nat) : Prop where
  own : Own wt w0.heap.size wt.heap.size [tRow va k vc ys, bRow ob [.int .i64 r, .int .i64 c, .slice va k vc], bRow rb [.int .i64 0, .int .i64 0, .slice none 0 0]]
  len : ys.length = k
  ok : okF ys
  below : Below w0.heap.size w0 wt
section
variable {w0 wt : World} {rb ob : Nat} {r c : Int} {va : Option Addr} {k vc : Nat} {ys : List Nat}
theorem Bld.move (h : Bld w0 wt rb ob r c va k vc ys) {W : World} (hb : Below wt.heap.size wt W) : Bld w0 W rb ob r c va k vc ys :=
  ⟨(h.own.below hb).bounds (Nat.le_refl _) hb.size, h.len, h.ok, h.below.trans (hb.mono h.below.size)⟩
theorem Bld.out (h : Bld w0 wt rb ob r c va k vc ys) : BoxN wt ob [.int .i64 r, .int .i64 c, .slice va k vc] := by
  obtain ⟨_, hl, hc, hf⟩ := h.own.cell (List.mem_cons_of_mem _ (List.mem_cons_self ..))
  exact ⟨hl.2.2, hc, hf⟩
theorem Bld.res (h : Bld w0 wt rb ob r c va k vc ys) : BoxN wt rb [.int .i64 0, .int .i64 0, .slice none 0 0] := by
  obtain ⟨_, hl, hc, hf⟩ := h.own.cell (List.mem_cons_of_mem _ (List.mem_cons_of_mem _ (List.mem_cons_self ..)))
  exact ⟨hl.2.2, hc, hf⟩
theorem Bld.row (h : Bld w0 wt rb ob r c va k vc ys) : wt.ownsRow w0.heap.size 35 1 (.slice va k vc) k (ys.map (Value.float .f32)) := h.own.head.own
theorem Bld.apart (h : Bld w0 wt rb ob r c va k vc ys) : (Value.slice va k vc).ownBlock ≠ some ob := by
  intro e
  exact h.own.apart (List.mem_cons_self ..) ob e rfl
/-- one more number -/
theorem Bld.push (h : Bld w0 wt rb ob r c va k vc ys) {W w9 : World} {x : Nat} {v' : Value} {o : Obj} (hx : x < 4294967296) (hb : Below wt.heap.size wt W) (ho : w9.ownsRow w0.heap.size 35 1 v' (k + 1) (ys.map (Value.float .f32) ++ [.float .f32 x]))
    (hg : (W.alloc o).grownBy w9 (Value.slice va k vc).ownBlock) (hat : v'.ownBlock = (Value.slice va k vc).ownBlock ∨ v'.ownBlock = some (W.heap.size + 1)) :
    ∃ va' vc', v' = .slice va' (k + 1) vc' ∧ w9.cell? ⟨ob, 2, none⟩ = some (.slice va k vc) ∧ w9.frozen? ⟨ob, 2, none⟩ = false ∧ Below w0.heap.size w0 w9 ∧ Bld w0 (w9.setCell ⟨ob, 2, none⟩ (.slice va' (k + 1) vc')) rb ob r c va' (k + 1) vc' (ys ++ [x]) := by
  obtain ⟨va', vc', rfl, _⟩ := Rd.of_owns ho
  have h1 := (h.own.below hb).below (below1 W o)
  have hs := hg.size
  have hbs := hb.size
  simp at hs
  have hB := h.below.size
  have hbel : Below w0.heap.size w0 w9 := by
    refine Below.grown ((h.below.trans (hb.mono hB)).alloc (by omega) o) hg (by simp; omega) (fun j e => (h.row.lt j e).1)
  have h2 := h1.grown (w' := w9) (hi' := w9.heap.size) (y := tRow va' (k + 1) vc' (ys ++ [x])) hg (by
    refine Row.mk' ?_
    show w9.ownsRow w0.heap.size 35 1 (.slice va' (k + 1) vc') (k + 1) ((ys ++ [x]).map (Value.float .f32))
    rw [List.map_append]; exact ho) (fun g e => by
      rcases hat with e1 | e1
      · exact .inl (e1.symm.trans e)
      · right
        have e2 : some g = some (W.heap.size + 1) := e.symm.trans e1
        cases e2
        omega) (by omega)
  have hbl := h.out.lt
  have hcell : w9.cell? ⟨ob, 2, none⟩ = some (.slice va k vc) := by
    rw [hg.cell_far ⟨ob, 2, none⟩ (by simp; omega) (Ne.symm h.apart), World.cell?_alloc_lt _ _ _ (show ob < W.heap.size by omega)]
    exact ((h.move hb).out).three.2.2.2.1
  have hfz : w9.frozen? ⟨ob, 2, none⟩ = false := by
    rw [hg.frozen_far ⟨ob, 2, none⟩ (by simp; omega) (Ne.symm h.apart)]
    exact ((h.move hb).out.below (below1 W o)).fz 2
  refine ⟨va', vc', rfl, hcell, hfz, hbel, ?_⟩
  have p1 : [tRow va' (k + 1) vc' (ys ++ [x]), bRow ob [.int .i64 r, .int .i64 c, .slice va k vc], bRow rb [.int .i64 0, .int .i64 0, .slice none 0 0]].Perm [bRow ob [.int .i64 r, .int .i64 c, .slice va k vc], tRow va' (k + 1) vc' (ys ++ [x]), bRow rb [.int .i64 0, .int .i64 0, .slice none 0 0]] := List.Perm.swap _ _ _
  have h3 := (h2.perm p1).store 2 (.slice va' (k + 1) vc')
  have h4 := h3.perm (M := [tRow va' (k + 1) vc' (ys ++ [x]), bRow ob [.int .i64 r, .int .i64 c, .slice va' (k + 1) vc'], bRow rb [.int .i64 0, .int .i64 0, .slice none 0 0]]) (List.Perm.swap _ _ _)
  refine ⟨h4.bounds (Nat.le_refl _) (by simp [World.setCell]), by simp [h.len], fun y hy => ?_, hbel.setCell (p := ⟨ob, 2, none⟩) ?_ _⟩
  · rcases List.mem_append.1 hy with hy | hy
    · exact h.ok y hy
    · simp at hy; subst hy; exact hx
  · exact (h.own.cell (List.mem_cons_of_mem _ (List.mem_cons_self ..))).2.1.1
/-- the end: the tensor is laid into the result's box -/
theorem Bld.fin (h : Bld w0 wt rb ob r c va k vc ys) : RepF (setCs wt rb 0 [.int .i64 r, .int .i64 c, .slice va k vc]) w0.heap.size (setCs wt rb 0 [.int .i64 r, .int .i64 c, .slice va k vc]).heap.size va k vc ys ∧ Below w0.heap.size w0 (setCs wt rb 0 [.int .i64 r, .int .i64 c, .slice va k vc]) := by
  have hl := h.len
  subst hl
  have p1 : [tRow va ys.length vc ys, bRow ob [.int .i64 r, .int .i64 c, .slice va ys.length vc], bRow rb [.int .i64 0, .int .i64 0, .slice none 0 0]].Perm [bRow rb [.int .i64 0, .int .i64 0, .slice none 0 0], tRow va ys.length vc ys, bRow ob [.int .i64 r, .int .i64 c, .slice va ys.length vc]] :=
    (List.perm_append_comm (l₁ := [tRow va ys.length vc ys, bRow ob [.int .i64 r, .int .i64 c, .slice va ys.length vc]]) (l₂ := [bRow rb [.int .i64 0, .int .i64 0, .slice none 0 0]]))
  have h1 := setCs_own (h.own.perm p1) 0 [.int .i64 r, .int .i64 c, .slice va ys.length vc]
  have hrb := (h.own.cell (List.mem_cons_of_mem _ (List.mem_cons_of_mem _ (List.mem_cons_self ..)))).2.1.1
  refine ⟨(h1.repF (List.mem_cons_of_mem _ (List.mem_cons_self ..)) h.ok).bounds (Nat.le_refl _) (by rw [setCs_size]; exact Nat.le_refl _), setCs_below h.below hrb 0 _⟩
end
theorem Bld.start1 (w : World) (r c : Int) : Bld w (((w.alloc (.cells #[.int .i64 0, .int .i64 0, .slice none 0 0] 44)).alloc (.cells #[] 35)).alloc (.cells #[.int .i64 r, .int .i64 c, .slice (some ⟨w.heap.size + 1, 0, none⟩) 0 0] 44)) w.heap.size (w.heap.size + 1 + 1) r c (some ⟨w.heap.size + 1, 0, none⟩) 0 0 [] := by
  refine ⟨?_, rfl, fun x hx => (nomatch hx), below3 w _ _ _⟩
  have h1 := (Own.nil w w.heap.size w.heap.size).alloc (Nat.le_refl _) (Nat.le_refl _) #[.int .i64 0, .int .i64 0, .slice none 0 0] 44
  have h := World.ownsRow_made (base := w.heap.size) (e := 35) (size := 1) (w.alloc (.cells #[.int .i64 0, .int .i64 0, .slice none 0 0] 44)) #[] 0 (by simp) (Nat.zero_le _) rfl
  have e1 : (w.alloc (.cells #[.int .i64 0, .int .i64 0, .slice none 0 0] 44)).heap.size = w.heap.size + 1 := by simp
  rw [e1] at h
  have h2 : Own ((w.alloc (.cells #[.int .i64 0, .int .i64 0, .slice none 0 0] 44)).alloc (.cells #[] 35)) w.heap.size (w.heap.size + 1 + 1) [tRow (some ⟨w.heap.size + 1, 0, none⟩) 0 0 [], bRow w.heap.size [.int .i64 0, .int .i64 0, .slice none 0 0]] := by
    refine Own.cons ⟨h, fun g e => ?_⟩ ((h1.below (below1 _ _)).bounds (Nat.le_refl _) (Nat.le_succ _)) fun y hy g e1 e2 => ?_
    · cases e; show w.heap.size + 1 < w.heap.size + 1 + 1; omega
    · simp at hy; subst hy
      cases e1
      have e3 : w.heap.size = w.heap.size + 1 := by injection e2
      omega
  have h3 := h2.alloc (by simp; omega) (by simp) #[.int .i64 r, .int .i64 c, .slice (some ⟨w.heap.size + 1, 0, none⟩) 0 0] 44
  have e2 : ((w.alloc (.cells #[.int .i64 0, .int .i64 0, .slice none 0 0] 44)).alloc (.cells #[] 35)).heap.size = w.heap.size + 1 + 1 := by simp
  rw [e2] at h3
  exact (h3.perm (List.Perm.swap _ _ _)).bounds (Nat.le_refl _) (by simp)
theorem Bld.start2 (w : World) (r c : Int) : Bld w (((w.alloc (.cells #[.int .i64 0, .int .i64 0, .slice none 0 0] 44)).alloc (.cells #[.int .i64 r, .int .i64 c, .slice (some ⟨w.heap.size + 1 + 1, 0, none⟩) 0 0] 44)).alloc (.cells #[] 35)) w.heap.size (w.heap.size + 1) r c (some ⟨w.heap.size + 1 + 1, 0, none⟩) 0 0 [] := by
  refine ⟨?_, rfl, fun x hx => (nomatch hx), below3 w _ _ _⟩
  have h1 := (Own.nil w w.heap.size w.heap.size).alloc (Nat.le_refl _) (Nat.le_refl _) #[.int .i64 0, .int .i64 0, .slice none 0 0] 44
  have h2 := h1.alloc (by simp) (by simp) #[.int .i64 r, .int .i64 c, .slice (some ⟨w.heap.size + 1 + 1, 0, none⟩) 0 0] 44
  have h := World.ownsRow_made (base := w.heap.size) (e := 35) (size := 1) ((w.alloc (.cells #[.int .i64 0, .int .i64 0, .slice none 0 0] 44)).alloc (.cells #[.int .i64 r, .int .i64 c, .slice (some ⟨w.heap.size + 1 + 1, 0, none⟩) 0 0] 44)) #[] 0 (by simp; omega) (Nat.zero_le _) rfl
  have e1 : ((w.alloc (.cells #[.int .i64 0, .int .i64 0, .slice none 0 0] 44)).alloc (.cells #[.int .i64 r, .int .i64 c, .slice (some ⟨w.heap.size + 1 + 1, 0, none⟩) 0 0] 44)).heap.size = w.heap.size + 1 + 1 := by simp
  have e0 : (w.alloc (.cells #[.int .i64 0, .int .i64 0, .slice none 0 0] 44)).heap.size = w.heap.size + 1 := by simp
  rw [e1] at h
  rw [e0] at h2
  refine (Own.cons (x := tRow (some ⟨w.heap.size + 1 + 1, 0, none⟩) 0 0 []) ⟨h, fun g e => ?_⟩ ((h2.below (below1 _ _)).bounds (Nat.le_refl _) (Nat.le_succ _)) fun y hy g e1 e2 => ?_).bounds (Nat.le_refl _) (by simp)
  · cases e; show w.heap.size + 1 + 1 < w.heap.size + 1 + 1 + 1; omega
  · simp at hy
    cases e1
    rcases hy with rfl | rfl
    · have e3 : w.heap.size + 1 = w.heap.size + 1 + 1 := by injection e2
      omega
    · have e3 : w.heap.size = w.heap.size + 1 + 1 := by injection e2
      omega
end Go.Proofs.Ytfjfjgegdaekbaa
/- Sums of tensors: the reference. No condition. -/
namespace Go.Proofs.Ytfjfjgegdaekbaa
open Go Go.RowKit
set_option linter.unusedVariables false
set_option linter.unusedSimpArgs false
def tenE (op : BinOp) (X Y : List Nat) (n : Nat) : List Nat := listOf n fun i => fop op .f32 (X.getD i 0) (Y.getD i 0)
theorem map_push {zs : List Nat} {k : Nat} {f : Nat → Nat} {z : Nat} (h : zs.map (cn .f32) = listOf k f) (hz : cn .f32 z = f k) : (zs ++ [z]).map (cn .f32) = listOf (k + 1) f := by
  rw [List.map_append, h, listOf_succ, List.map_cons, List.map_nil, hz]
set_option maxHeartbeats 8000000 in
set_option maxRecDepth 100000 in
theorem spec_l02Add (w : World) (g1 o1 g2 o2 : Nat) (r c : Int) (a1 a2 : Option Addr) (c1 c2 n : Nat) (xs ys : List Nat) (p0 : w.cell? ⟨g1, o1, none⟩ = some (.int .i64 r)) (p1 : w.cell? ⟨g1, o1 + 1, none⟩ = some (.int .i64 c)) (p2 : w.cell? ⟨g1, o1 + 2, none⟩ = some (.slice a1 n c1)) (q2 : w.cell? ⟨g2, o2 + 2, none⟩ = some (.slice a2 n c2))
    (hx : F32s w a1 c1 xs) (hy : F32s w a2 c2 ys) (hxl : xs.length = n) (hyl : ys.length = n) (hn : n ≤ 256) :
    Calls Try.prog 34 #[.pointer (some ⟨g1, o1, none⟩), .pointer (some ⟨g2, o2, none⟩)] w (TenPost r c n (tenE .add (xs.map (cn .f32)) (ys.map (cn .f32)) n) w) := by
  obtain ⟨i0, hi0, hz0, hzs, hz2⟩ := info_parts info_f32
  have HX := Lib.hid hx; have HY := Lib.hid hy; have HXL := Lib.hid hxl; have HYL := Lib.hid hyl
  clear hx hy hxl hyl
  have hg1 := World.block_lt_of_cell? w _ p0
  have hg2 := World.block_lt_of_cell? w _ q2
  simp only at hg1 hg2
  go_enter Try.func34, Try.ntmps34
  go_upto_region 1 with fail
  obtain ⟨W0, hW0⟩ : ∃ W, W = w.alloc (.cells #[.int .i64 0, .int .i64 0, .slice none 0 0] 44) := ⟨_, rfl⟩
  have k0 : W0.cell? ⟨g1, o1, none⟩ = some (.int .i64 r) := by rw [hW0]; go_simp
  have k1 : W0.cell? ⟨g1, o1 + 1, none⟩ = some (.int .i64 c) := by rw [hW0]; go_simp
  have HW0 := Lib.hid hW0
  have hs0 : W0.heap.size = w.heap.size + 1 := by rw [hW0]; simp
  rw [← hW0]
  have HP := Lib.hid (And.intro p0 (And.intro p1 (And.intro p2 q2)))
  clear hW0 p0 p1 p2 q2
  go_cut [5] (fun p5 wx => ∃ ob va vc, p5 = .pointer (some ⟨ob, 0, none⟩) ∧ Hid (Bld w wx w.heap.size ob r c va 0 vc []))
  case first =>
    go_region_held3 (fun w' => w'.cell? ⟨g1, o1, none⟩ = some (.int .i64 r) ∧ w'.cell? ⟨g1, o1 + 1, none⟩ = some (.int .i64 c)) (go_keep) (first | fail)
    all_goals (try go_wp2_with fail)
    all_goals go_meet
    · exact ⟨_, _, _, rfl, Lib.hid (by rw [HW0.out]; exact (Bld.start1 w r c).move (Below.drew (Below.refl _ _)))⟩
    · exact ⟨_, _, _, rfl, Lib.hid (by rw [HW0.out]; exact (Bld.start2 w r c).move (Below.drew (Below.refl _ _)))⟩
  case rest =>
    obtain ⟨ob, va, vc, rfl, HB⟩ := hcut
    clear k0 k1 HW0 hs0
    go_wp2
    go_loopw [6] (fun i wt => ∃ k : Nat, i = .int .i64 k ∧ k ≤ n ∧ ∃ va vc zs, Hid (Bld w wt w.heap.size ob r c va k vc zs) ∧ Hid (zs.map (cn .f32) = tenE .add (xs.map (cn .f32)) (ys.map (cn .f32)) k)) (fun i _ => n - (intOf i).toNat)
    case atStart => exact ⟨0, rfl, Nat.zero_le _, va, vc, [], HB, Lib.hid rfl⟩
    case round =>
      clear HB
      obtain ⟨k, rfl, hk, va, vc, zs, HB, HZ⟩ := hrel
      have hbb := HB.out.below
      have hP := HP.out
      have r2 : wr.cell? ⟨g1, o1 + 2, none⟩ = some (.slice a1 n c1) := (hbb.cell (p := ⟨g1, o1 + 2, none⟩) hg1).trans hP.2.2.1
      have s2 : wr.cell? ⟨g2, o2 + 2, none⟩ = some (.slice a2 n c2) := (hbb.cell (p := ⟨g2, o2 + 2, none⟩) hg2).trans hP.2.2.2
      by_cases hlt : k < n
      · obtain ⟨b1, f1, rfl, hl1, hc1⟩ := HX.out.spot (k := k) (by rw [HXL.out]; exact hlt)
        obtain ⟨b2, f2, rfl, hl2, hc2⟩ := HY.out.spot (k := k) (by rw [HYL.out]; exact hlt)
        have d1 := hc1 k (by rw [HXL.out]; exact hlt)
        have d2 := hc2 k (by rw [HYL.out]; exact hlt)
        have hx2 := cn_getD xs k
        have hy2 := cn_getD ys k
        obtain ⟨x, hx⟩ : ∃ x, x = xs.getD k 0 := ⟨_, rfl⟩
        obtain ⟨y, hy⟩ : ∃ y, y = ys.getD k 0 := ⟨_, rfl⟩
        rw [← hx] at d1 hx2
        rw [← hy] at d2 hy2
        have KS : Hid (∀ W, Below w.heap.size w W → W.cell? ⟨ob, 2, none⟩ = some (.slice va k vc) → W.cell? ⟨g1, o1 + 2, none⟩ = some (.slice (some ⟨b1, f1, none⟩) n c1) ∧ W.cell? ⟨g2, o2 + 2, none⟩ = some (.slice (some ⟨b2, f2, none⟩) n c2) ∧ W.cell? ⟨b1, f1 + k, none⟩ = some (.float .f32 x) ∧ W.cell? ⟨b2, f2 + k, none⟩ = some (.float .f32 y) ∧ W.cell? ⟨ob, 2, none⟩ = some (.slice va k vc)) := Lib.hid (fun W hb ho => ⟨(hb.cell (p := ⟨g1, o1 + 2, none⟩) hg1).trans hP.2.2.1, (hb.cell (p := ⟨g2, o2 + 2, none⟩) hg2).trans hP.2.2.2, (hb.cell (p := ⟨b1, f1 + k, none⟩) hl1).trans d1, (hb.cell (p := ⟨b2, f2 + k, none⟩) hl2).trans d2, ho⟩)
        have HXY := Lib.hid (And.intro hx2 hy2)
        have HS := Lib.hid (KS.out wr HB.out.below HB.out.out.three.2.2.2.1)
        clear hc1 hc2 hx hy d1 d2 hx2 hy2 hbb hP
        go_upto_region 5 with fail
        clear r2 s2
        refine wp_region_mix 20 [17, 18] (fun W => W.cell? ⟨g1, o1 + 2, none⟩ = some (.slice (some ⟨b1, f1, none⟩) n c1) ∧ W.cell? ⟨g2, o2 + 2, none⟩ = some (.slice (some ⟨b2, f2, none⟩) n c2) ∧ W.cell? ⟨b1, f1 + k, none⟩ = some (.float .f32 x) ∧ W.cell? ⟨b2, f2 + k, none⟩ = some (.float .f32 y) ∧ W.cell? ⟨ob, 2, none⟩ = some (.slice va k vc)) (fun _ _ _ => False) (fun _ _ _ _ _ => False) (by kernel_rfl) (by kernel_rfl) HS.out (fun W q h => by simpa using h) ?_
        iterate 16 (refine mwalk_plain (by rfl) HS.out (fun K hK W hW => ?_); obtain ⟨e1, e2, e3, e4, e5⟩ := hW; go_simp; refine hK _ ?_; clear hK K e1 e2 e3 e4 e5)
        refine mwalk_plain (by rfl) HS.out (fun K hK W hW => ?_)
        go_simp
        have hz := cn_fbits .add .f32 x y W
        have hzl := fbits_lt .add .f32 x y W
        generalize fbits .add .f32 x y W = z at hz hzl ⊢
        refine hK _ ?_
        have HZ2 := Lib.hid hz; have HZL := Lib.hid hzl
        clear hK K hW hz hzl
        refine mwalk_spec (by rfl) HS.out (fun K hK q => ?_)
        have hbq := below_drewN (Below.refl wr.heap.size wr) q
        go_simp
        have hbA : Below wr.heap.size wr ((wr.drewN q).alloc (.cells #[.float .f32 z] 35)) := hbq.alloc (by simp) _
        have hs1 := KS.out _ ((HB.out.below.trans (hbA.mono HB.out.below.size))) ((HB.out.move hbA).out.three.2.2.2.1)
        have HBA := Lib.hid hbA; have HS1 := Lib.hid hs1
        refine ⟨hs1, hK _ _ ?_⟩
        clear hK K hbq hbA hs1
        refine mwalk_spec (by rfl) HS1.out (fun K hK q2 => ?_)
        refine specRes_append rfl _ _ 36 rfl w.heap.size 35 i0 _ 1 4 Try.underlying36 hi0 hz0 hzs hz2 rfl (by decide) (.slice va k vc) k (zs.map (Value.float .f32)) rfl (HB.out.move (below_drewN HBA.out q2)).row ⟨wr.heap.size, 0, none⟩ 1 1 [.float .f32 z] rfl rfl (World.news_of_block (cs := #[.float .f32 z]) (t := 35) (fr := (0, 0)) (heap_alloc_new (wr.drewN q) _)) (by simp [Value.oneCell']) (by unfold maxLen; omega) (by omega) (Nat.le_trans HB.out.below.size (Nat.le_trans HBA.out.size (Nat.le_refl _))) ?_
        intro v' w9 ho9 hg9 hat9 hb9
        obtain ⟨va', vc', rfl, hc9, hf9, hbel9, hnew⟩ := HB.out.push (W := (wr.drewN q).drewN q2) HZL.out (below_drewN (below_drewN (Below.refl _ _) q) q2) ho9 hg9 (by simpa using hat9)
        have hs9 := KS.out w9 hbel9 hc9
        have HS9 := Lib.hid hs9; have HF9 := Lib.hid (And.intro hc9 hf9); have HN9 := Lib.hid hnew
        have HM9 := Lib.hid (map_push HZ.out (f := fun i => fop .add .f32 ((xs.map (cn .f32)).getD i 0) ((ys.map (cn .f32)).getD i 0)) (by rw [HZ2.out, HXY.out.1, HXY.out.2]))
        refine ⟨hs9, hK _ _ ?_⟩
        clear hK K ho9 hg9 hat9 hb9 hc9 hf9 hbel9 hnew hs9 HS1 HBA
        refine mwalk_plain (by rfl) HS9.out (fun K hK W hW => ?_)
        go_simp
        refine hK _ ?_
        clear hK K hW
        refine mwalk_nil (fun q3 => ?_)
        have hc9 : (w9.drewN q3).cell? ⟨ob, 2, none⟩ = some (.slice va k vc) := by simpa using HF9.out.1
        have hf9 : (w9.drewN q3).frozen? ⟨ob, 2, none⟩ = false := by simpa using HF9.out.2
        have HN := Lib.hid (HN9.out.move (below_drewN (Below.refl _ _) q3))
        clear HN9 HS9 HF9 HB HZ HS KS
        go_wp2
        go_roundw
        case rel => exact ⟨k + 1, by go_num, hlt, _, _, _, HN, HM9⟩
        case measure => simp [intOf]; omega
      · have hkn : k = n := by omega
        subst hkn
        obtain ⟨ol, t0, t1, t2, tf⟩ := HB.out.out.three
        obtain ⟨rl, u0, u1, u2, uf⟩ := HB.out.res.three
        have HFIN := Lib.hid HB.out.fin
        clear s2 hbb hP
        go_wp2
        try simp only [Exit.inBlock, Exit.then]
        refine bodyPost_ret (v := .agg #[.int .i64 r, .int .i64 c, .slice va k vc]) (by simp [results, Try.results34, go_sem, u0, u1, u2]) rfl ⟨va, vc, zs, rfl, Lib.hid HFIN.out.1, HZ, HFIN.out.2⟩
end Go.Proofs.Ytfjfjgegdaekbaa
