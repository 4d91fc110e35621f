/- Joined texts 10: Tp8 Tw0 Rg2 Ali Rp1 Rp2 Rp4 Tw1 Tw2 Tw3 Gr3 Gr5. Each is told at its own head. No condition. -/
import Derived.Deep.RegionHeld3
import Derived.Deep.CutRange
import Derived.Deep.DeepCutAuto
import Derived.Test.YtfjfjgegdaekbaaMc0
import Derived.Test.YtfjfjgegdaekbaaMc3
import Derived.Test.YtfjfjgegdaekbaaMc4
import Derived.Test.YtfjfjgegdaekbaaMc5
import Derived.Test.YtfjfjgegdaekbaaMc6
import Derived.Test.YtfjfjgegdaekbaaMc8
import Derived.Test.YtfjfjgegdaekbaaMc9
/- What comparing, marking rows of rows of integers does. No condition. -/
namespace Go.Proofs.Ytfjfjgegdaekbaa
open Go Go.RowKit
set_option linter.unusedVariables false
set_option linter.unusedSimpArgs false
end Go.Proofs.Ytfjfjgegdaekbaa
/- Bounds for the walks of laws over tapes. No condition. -/
namespace Go.Proofs.Ytfjfjgegdaekbaa
open Go Go.RowKit
set_option linter.unusedVariables false
set_option linter.unusedSimpArgs false
theorem left_bounds {os : List OpD} {L R : Int} (h : L = leftBy OpD.n os R) (h0 : 0 ≤ L) (h1 : R ≤ 1048576) : os.length ≤ 1048576 ∧ L ≤ 1048576 ∧ (∀ o ∈ os, o.xs.length ≤ 1048576) ∧ totO os ≤ 8000000 := by
  unfold leftBy at h
  split at h
  · rename_i hle
    have ht : totO os = 6 * os.length + sumBy OpD.n os os.length := by
      unfold totO sumBy
      rw [List.take_length]
      clear h hle h0 h1
      induction os with
      | nil => rfl
      | cons o os ih => rw [List.map_cons, List.sum_cons, ih, List.map_cons, List.sum_cons, List.length_cons]; unfold OpD.w OpD.n; omega
    refine ⟨by omega, by omega, fun o ho => ?_, by omega⟩
    have := sumBy_mem OpD.n ho
    unfold OpD.n at *
    omega
  · omega
theorem left_bound1 {n : Nat} {L R : Int} (h : L = if (n : Int) ≤ R then R - n else -1) (h0 : 0 ≤ L) (h1 : R ≤ 1048576) : n ≤ 1048576 ∧ L ≤ 1048576 := by
  split at h <;> omega
theorem tot_of {us os : List OpD} (h : us.map OpD.toOpP = os.map OpD.toOpP) : totO us = totO os := by
  have h1 : ∀ l : List OpD, totO l = ((l.map OpD.toOpP).map (fun p : OpP => 6 + p.xs.length)).sum := by
    intro l; unfold totO; rw [List.map_map]; rfl
  rw [h1, h1, h]
theorem lens_of {us os : List OpD} (h : us.map OpD.toOpP = os.map OpD.toOpP) (hb : ∀ o ∈ os, o.xs.length ≤ 1048576) : ∀ o ∈ us, o.xs.length ≤ 1048576 := by
  intro o ho
  have h1 : o.toOpP ∈ os.map OpD.toOpP := by rw [← h]; exact List.mem_map_of_mem ho
  obtain ⟨p, hp, e⟩ := List.mem_map.1 h1
  have := hb p hp
  rw [← e]; exact this
theorem can_of {us os : List OpD} (h : us.map OpD.toOpP = os.map OpD.toOpP) : us.map (fun o => o.toOpP.can) = os.map (fun o => o.toOpP.can) := by
  have h1 : ∀ l : List OpD, l.map (fun o => o.toOpP.can) = (l.map OpD.toOpP).map OpP.can := by intro l; rw [List.map_map]; rfl
  rw [h1, h1, h]
end Go.Proofs.Ytfjfjgegdaekbaa
/- A region whose operations before a call serve it alone, and whose operations behind it look at its results: one walk. No condition. -/
namespace Go.Proofs.Ytfjfjgegdaekbaa
open Go
set_option linter.unusedVariables false
section
variable {P : Program} {ops : Array Oper} {C : World → Prop} {VC : FuncId → Array Value → Value → Prop}
def chainQ (md : Region.Mode) (ops : Array Oper) (n : Nat) : Bool := (List.range ops.size).all fun t => decide (t ≤ n) || (List.range t).any fun t' => decide (n ≤ t') && waitsP md ops t t'
def afterC (md : Region.Mode) (ops : Array Oper) (g k : Nat) (listed : Array Bool) : Bool := decide (Region.ready md ops listed = [k]) && Region.lexFrom md ops g (k + 1) (listed.setIfInBounds k true)
def lexHeadC (md : Region.Mode) (ops : Array Oper) (g : Nat) : Nat → Nat → Array Bool → Bool
  | 0, k, listed => afterC md ops g k listed
  | f + 1, k, listed => (Region.ready md ops listed).contains k && Region.free md ops listed k && lexHeadC md ops g f (k + 1) (listed.setIfInBounds k true)
theorem afterC_ready {md : Region.Mode} {g k : Nat} {listed : Array Bool} (h : afterC md ops g k listed = true) : ∀ j ∈ Region.ready md ops listed, k ≤ j := by
  intro j hj
  simp only [afterC, Bool.and_eq_true, decide_eq_true_eq] at h
  rw [h.1] at hj
  simp at hj; omega
theorem late2 {md : Region.Mode} {p n : Nat} {listed : Array Bool} (hs : sinkP md ops p n = true) (hc : chainQ md ops n = true) (hn : n < ops.size) (inv : HInv md ops n listed) (hp : ∀ j, j < p → listed.getD j false = true) :
    ∀ (d i : Nat), n - i = d → i < n → listed.getD i true = false → ∀ t, n ≤ t → t ∉ Region.ready md ops listed := by
  intro d
  induction d using Nat.strongRecOn with
  | _ d ih =>
    intro i hd hi hun t ht hr
    have hip : ¬ i < p := fun h => by have := hp i h; rw [getD_two hun] at this; cases this
    have h1 := List.all_eq_true.1 hs i (List.mem_range.2 hi)
    simp only [Bool.or_eq_true, decide_eq_true_eq, hip, false_or, List.any_eq_true, List.mem_range, Bool.and_eq_true] at h1
    obtain ⟨k, hk, hik, hw⟩ := h1
    obtain ⟨ok, hok, e, he, hb, hon⟩ := waitsP_spec hw
    have hks : k < ops.size := (Array.getElem?_eq_some_iff.1 hok).1
    obtain ⟨hunt, ot, hot, hall⟩ := mem_ready.1 hr
    have htlt : t < ops.size := (Array.getElem?_eq_some_iff.1 hot).1
    by_cases hkn : k = n
    · subst hkn
      by_cases htk : t = k
      · subst htk
        obtain rfl : ok = ot := Option.some.inj (hok.symm.trans hot)
        have := hall e he hb
        rw [hon, getD_two hun] at this; cases this
      · have h2 := List.all_eq_true.1 hc t (List.mem_range.2 htlt)
        simp only [Bool.or_eq_true, decide_eq_true_eq] at h2
        rcases h2 with h2 | h2
        · omega
        · obtain ⟨t', ht', hq⟩ := List.any_eq_true.1 h2
          simp only [Bool.and_eq_true, decide_eq_true_eq] at hq
          have ht'' := List.mem_range.1 ht'
          obtain ⟨o', ho', e', he', hb', hon'⟩ := waitsP_spec hq.2
          obtain rfl : o' = ot := Option.some.inj (ho'.symm.trans hot)
          have := hall e' he' hb'
          rw [hon', getD_two (inv.tail t' (by omega) (by omega))] at this; cases this
    · have hkl : listed.getD k false = false := by
        cases hl : listed.getD k false with
        | false => rfl
        | true => have := inv.closed k ok hok hl e he hb; rw [hon, getD_two hun] at this; cases this
      exact ih (n - k) (by omega) k rfl (by omega) (getD_in2 (by rw [inv.size]; exact hks) hkl) t ht hr
theorem tset_first2 {md : Region.Mode} {p n : Nat} {L : Array Bool → Act → Prop} {w0 : World} (h0 : C w0) {i : Nat} {oi : Oper} (hi : ops[i]? = some oi) (hsel : ∀ (j : Nat) (o : Oper) cs b, ops[j]? = some o → o.op ≠ .select cs b)
    (hs : sinkP md ops p n = true) (hc : chainQ md ops n = true) (hn : n < ops.size) (hin : i < n) (hdone : ∀ listed a, L listed a → ∀ j ∈ Region.ready md ops listed, n ≤ j) :
    ∀ (fuel : Nat) (listed : Array Bool) (a : Act), HInv md ops n listed → (∀ j, j < p → listed.getD j false = true) →
      (∀ j oj, ops[j]? = some oj → j ≠ i → listed.getD j true = false → (∀ e ∈ oj.after, Region.binds md e = true → e.on ≠ i) → oi.apart ops oj = true) →
      i ∈ Region.ready md ops listed → Good P ops C VC oi a →
      (∀ v, Vals P ops C VC oi a v → TSet P md ops C VC n L fuel (listed.setIfInBounds i true) (a.put oi.dst v)) → TSet P md ops C VC n L (fuel + 1) listed a
  | 0, listed, a, inv, hp, _, hr, hg, H => by
    have hun := (mem_ready.1 hr).1
    refine ⟨fun e => (by rw [e] at hr; cases hr), fun j hj o ho => ?_⟩
    have hjn : j < n := by
      rcases Nat.lt_or_ge j n with h | h
      · exact h
      · exact absurd hj (late2 hs hc hn inv hp _ i rfl hin hun j h)
    by_cases hji : j = i
    · subst hji
      obtain rfl : oi = o := Option.some.inj (hi.symm.trans ho)
      exact ⟨hjn, hg, H⟩
    · exfalso
      obtain ⟨v, hv⟩ := some_val h0 hg
      have := hdone _ _ (H v hv) j (ready_mono hj hji)
      omega
  | fuel + 1, listed, a, inv, hp, hfree, hr, hg, H => by
    have huni := (mem_ready.1 hr).1
    refine ⟨fun e => (by rw [e] at hr; cases hr), fun j hj oj hoj => ?_⟩
    have hjn : j < n := by
      rcases Nat.lt_or_ge j n with h | h
      · exact h
      · exact absurd hj (late2 hs hc hn inv hp _ i rfl hin huni j h)
    by_cases hji : j = i
    · subst hji
      obtain rfl : oi = oj := Option.some.inj (hi.symm.trans hoj)
      exact ⟨hjn, hg, H⟩
    · have hun : listed.getD j true = false := (mem_ready.1 hj).1
      have hno : ∀ e ∈ oj.after, Region.binds md e = true → e.on ≠ i := by
        intro e he hb hon
        obtain ⟨_, o', ho', hall⟩ := mem_ready.1 hj
        obtain rfl : oj = o' := Option.some.inj (hoj.symm.trans ho')
        have h1 := hall e he hb
        rw [hon, getD_two huni] at h1; cases h1
      obtain ⟨x1, x2, x3⟩ := Oper.apart_spec (hfree j oj hoj hji hun hno)
      have si := fun cs b => hsel i oi cs b hi
      have sj := fun cs b => hsel j oj cs b hoj
      have gj : ∀ v, (Good P ops C VC oj (a.put oi.dst v) ↔ Good P ops C VC oj a) := fun v => good_put (execOp_put oj sj a oi.dst v x1) (wanted_put oj a oi.dst v x1)
      have vj : ∀ v u, (Vals P ops C VC oj (a.put oi.dst v) u ↔ Vals P ops C VC oj a u) := fun v u => vals_put (execOp_put oj sj a oi.dst v x1) (wanted_put oj a oi.dst v x1)
      have gi : ∀ u, (Good P ops C VC oi (a.put oj.dst u) ↔ Good P ops C VC oi a) := fun u => good_put (execOp_put oi si a oj.dst u x3) (wanted_put oi a oj.dst u x3)
      have vi : ∀ u v, (Vals P ops C VC oi (a.put oj.dst u) v ↔ Vals P ops C VC oi a v) := fun u v => vals_put (execOp_put oi si a oj.dst u x3) (wanted_put oi a oj.dst u x3)
      obtain ⟨v0, hv0⟩ := some_val h0 hg
      have hj' := ready_mono hj hji
      refine ⟨hjn, (gj v0).1 ((H v0 hv0).2 j hj' oj hoj).2.1, fun u hu => ?_⟩
      refine tset_first2 h0 hi hsel hs hc hn hin hdone fuel (listed.setIfInBounds j true) (a.put oj.dst u) (inv.set hj hjn) (fun q hq => getD_set_true (hp q hq)) ?_ (ready_mono hr (Ne.symm hji)) ((gi u).2 hg) fun v hv => ?_
      · intro k ok hk hki hun' hno'
        refine hfree k ok hk hki ?_ hno'
        by_cases hjk : j = k
        · subst hjk; exact hun
        · rw [getD_set_ne true hjk] at hun'; exact hun'
      · have := ((H v ((vi u v).1 hv)).2 j hj' oj hoj).2.2 u ((vj v u).2 hu)
        rw [Array.setIfInBounds_comm _ _ hji, ← Act.put_comm a v u x2]
        exact this
theorem tset_lex2 {md : Region.Mode} {p n g : Nat} {Lq : Act → Prop} {w0 : World} (h0 : C w0) (hsel : Region.noSelect ops = true) (hs : sinkP md ops p n = true) (hc : chainQ md ops n = true) (hn : n < ops.size) :
    ∀ (l : List Oper) (k : Nat) (listed : Array Bool) (a : Act), (∀ j, j < l.length → l[j]? = ops[k + j]?) → k + l.length = n → HInv md ops n listed → (∀ j, j < p → listed.getD j false = true) →
    lexHeadC md ops g l.length k listed = true → WSet P ops C VC Lq l a →
    TSet P md ops C VC n (fun listed' a' => afterC md ops g n listed' = true ∧ Lq a') l.length listed a
  | [], k, listed, a, _, hk, _, _, hB, h => by
    have : k = n := by simpa using hk
    subst this
    exact ⟨by simpa [lexHeadC] using hB, h⟩
  | o :: l, k, listed, a, hl, hk, inv, hp, hB, h => by
    have hk0 : ops[k]? = some o := by simpa using (hl 0 (by simp)).symm
    simp only [List.length_cons, lexHeadC, Bool.and_eq_true] at hB
    obtain ⟨⟨hr, hf⟩, hB'⟩ := hB
    have hkn : k < n := by simp only [List.length_cons] at hk; omega
    have hr' : k ∈ Region.ready md ops listed := by simpa using hr
    refine tset_first2 h0 hk0 (Region.noSelect_spec hsel) hs hc hn hkn (fun listed' a' hL => afterC_ready hL.1) l.length listed a inv hp (Region.free_spec hk0 hf) hr' h.1 fun v hv => ?_
    exact tset_lex2 h0 hsel hs hc hn l (k + 1) _ _ (fun j hj => by have := hl (j + 1) (by simp; omega); simpa [Nat.add_assoc, Nat.add_comm 1 j] using this) (by simp only [List.length_cons] at hk; omega) (inv.set hr' hkn) (fun q hq => getD_set_true (hp q hq)) hB' (h.2 v hv)

/-- what is asked of the call -/
@[go_sem] def EnterS (P : Program) (w : World) (K : FuncId → Array Value → Prop) : Result Next → Prop
  | .ok (.enter f args) w' => w' = w ∧ K f args
  | _ => False
def callB (ops : Array Oper) (n : Nat) : Bool :=
  Region.noSelect ops && decide (n < ops.size) && sinkP .any ops 0 n && chainQ .any ops n && lexHeadC .any ops (ops.size - n - 1) n 0 (Array.replicate ops.size false)
/-- **a region with a call, number 'n', that all before it serve and all behind it wait for** -/
theorem wp_region_call {id : Nat} {Q : Exit → Act → World → Prop} {a : Act} {w : World} {l : List Oper} (n : Nat) (VC : FuncId → Array Value → Value → Prop) (o : Oper) (ho : l[n]? = some o) (hgd : o.guard = none) (hm : P.follows .mixedOrders = true) (hB : callB l.toArray n = true)
    (h : WSet P l.toArray (Drawn w) VC (fun a' => ∀ w', Drawn w w' → EnterS P w' (fun f args => Calls P f args w' fun e w'' => ∃ v, e = .returned v ∧ WSet P l.toArray (Drawn w'') VC (fun a3 => ∀ w3, Drawn w'' w3 → Q .normal a3 w3) (l.drop (n + 1)) (a'.put o.dst v)) ((execOp a'.eval o).run P w')) (l.take n) a) :
    (Code.region id l.toArray true).wp P Q a w := by
  simp only [callB, Bool.and_eq_true, decide_eq_true_eq] at hB
  obtain ⟨⟨⟨⟨hsel, hn⟩, hs⟩, hc⟩, hlex⟩ := hB
  have hn' : n < l.length := by simpa using hn
  have htl : (l.take n).length = n := by simp; omega
  have hdl : (l.drop (n + 1)).length = l.toArray.size - n - 1 := by simp; omega
  have gf : ∀ i, (Array.replicate l.toArray.size false).getD i false = false := fun i => by
    simp only [Array.getD_eq_getD_getElem?, Array.getElem?_replicate]; split <;> rfl
  have inv0 : HInv .any l.toArray n (Array.replicate l.toArray.size false) :=
    ⟨by simp, fun j oj _ hl => (by rw [gf] at hl; cases hl), fun t _ ht => getD_in2 (by simpa using ht) (gf t)⟩
  have hd : Drawn w { w with drawn := w.drawn + 1 } := ⟨1, rfl⟩
  have H := tset_lex2 (VC := VC) (md := .any) (g := l.toArray.size - n - 1) hd hsel hs hc hn (l.take n) 0 _ a (fun j hj => by
    have hj' : j < n := by rw [htl] at hj; exact hj
    simp [hj']) (by simpa using htl) inv0 (fun j hj => by omega) (by rw [htl]; exact hlex) h
  refine wp_region_any hm ?_
  have := any_of_tset (Q' := Q) (g := (l.toArray.size - n - 1) + 1) (fun listed a' w' hw' hL => by
    obtain ⟨hL1, hL2⟩ := hL
    simp only [afterC, Bool.and_eq_true, decide_eq_true_eq] at hL1
    refine ⟨fun e => (by rw [hL1.1] at e; cases e), fun i hi => ?_⟩
    rw [hL1.1] at hi
    obtain rfl : i = n := by simpa using hi
    have ho' : l.toArray[i]? = some o := by simpa using ho
    have hE := hL2 w' hw'
    unfold wpOp
    simp only [ho']
    have hwant : Region.wanted o (yielded l.toArray a'.tmps) = true := by simp [Region.wanted, hgd]
    rw [if_pos hwant]
    left
    unfold Oper.wp
    unfold EnterS at hE
    split at hE
    · rename_i f args w1 he
      obtain ⟨rfl, hC⟩ := hE
      rw [he]
      refine hC.mono fun e w'' ⟨v, hev, hW⟩ => ?_
      subst hev
      have h1 := aset_lex (VC := VC) (md := .any) (C := Drawn w'') (w0 := w'') ⟨0, rfl⟩ hsel (l.drop (i + 1)) (i + 1) (listed.setIfInBounds i true) _ (fun j => by simp [List.getElem?_drop]) (by rw [hdl]; exact hL1.2) hW
      have h2 := any_of_aset (Q' := Q) (fun a3 w3 hw3 hq => hq w3 hw3) _ _ _ w'' ⟨0, rfl⟩ h1
      rwa [hdl] at h2
    · cases hE) _ _ _ _ hd H
  rw [htl, show n + ((l.toArray.size - n - 1) + 1) = l.toArray.size by omega] at this
  exact this
end
end Go.Proofs.Ytfjfjgegdaekbaa
/- Whether two tensors are alike: the program. No condition. -/
namespace Go.Proofs.Ytfjfjgegdaekbaa
open Go Go.RowKit
set_option linter.unusedVariables false
set_option linter.unusedSimpArgs false
/-- two tensors are valid and have as many rows and columns -/
def alikeB (r c : Int) (n : Nat) (r2 c2 : Int) (m : Nat) : Bool := tenB r c n && (tenB r2 c2 m && (decide (r = r2) && decide (c = c2)))
end Go.Proofs.Ytfjfjgegdaekbaa
/- Whether an operation is an input; whether two tensors are alike; an input is replaced: the program. No condition. -/
namespace Go.Proofs.Ytfjfjgegdaekbaa
open Go Go.RowKit
set_option linter.unusedVariables false
set_option linter.unusedSimpArgs false
/-- an operation of a valid tape is an input -/
def inpB (os : List OpP) (op : Int) : Bool := (shapesP os).isSome && (inB op 0 (os.length - 1) && (opAtP os op.toNat).k == 0)
theorem inpB_at {os : List OpP} {op : Int} (h : inpB os op = true) : ∃ S k o, shapesP os = some S ∧ op = (k : Nat) ∧ os[k]? = some o ∧ o.k = 0 ∧ tenB o.r o.c o.xs.length = true := by
  unfold inpB at h
  rw [Bool.and_eq_true, Bool.and_eq_true, inB_iff] at h
  obtain ⟨h1, ⟨h2, h3⟩, h4⟩ := h
  obtain ⟨S, hS⟩ := Option.isSome_iff_exists.1 h1
  obtain ⟨k, rfl⟩ : ∃ k : Nat, op = k := ⟨op.toNat, by omega⟩
  have hk : k < os.length := by omega
  have ho := List.getElem?_eq_getElem hk
  rw [show ((k : Nat) : Int).toNat = k by simp, opAtP_some ho] at h4
  have h5 : os[k].k = 0 := by simpa using h4
  exact ⟨S, k, os[k], hS, rfl, ho, h5, (fitsB_input (valid_fit hS ho) h5).2.2⟩
end Go.Proofs.Ytfjfjgegdaekbaa
/- An input is replaced: the program. No condition. -/
namespace Go.Proofs.Ytfjfjgegdaekbaa
open Go Go.RowKit
set_option linter.unusedVariables false
set_option linter.unusedSimpArgs false
/-- the tape in which an input has other numbers; none if there is no such input, or the numbers do not fit -/
def replP (os : List OpP) (op : Int) (r c : Int) (xs : List Nat) : Option (List OpP) :=
  if inpB os op = true ∧ alikeB (opAtP os op.toNat).r (opAtP os op.toNat).c (opAtP os op.toNat).xs.length r c xs.length = true then some (os.set op.toNat { opAtP os op.toNat with xs := xs }) else none
theorem replP_no1 {os : List OpP} {op r c : Int} {xs : List Nat} (h : inpB os op = false) : replP os op r c xs = none := by
  unfold replP; rw [if_neg (fun e => by rw [h] at e; exact absurd e.1 (by decide))]
theorem replP_no2 {os : List OpP} {k : Nat} {r c : Int} {xs : List Nat} {o : OpP} (ho : os[k]? = some o) (h : alikeB o.r o.c o.xs.length r c xs.length = false) : replP os (k : Nat) r c xs = none := by
  unfold replP
  rw [show ((k : Nat) : Int).toNat = k by simp, opAtP_some ho, if_neg (fun e => by rw [h] at e; exact absurd e.2 (by decide))]
theorem replP_yes {os : List OpP} {k : Nat} {r c : Int} {xs : List Nat} {o : OpP} (ho : os[k]? = some o) (h1 : inpB os (k : Nat) = true) (h : alikeB o.r o.c o.xs.length r c xs.length = true) : replP os (k : Nat) r c xs = some (os.set k { o with xs := xs }) := by
  unfold replP
  rw [show ((k : Nat) : Int).toNat = k by simp, opAtP_some ho, if_pos ⟨h1, h⟩]
theorem alikeB_in {r c : Int} {n : Nat} {r2 c2 : Int} {m : Nat} (h : alikeB r c n r2 c2 m = true) : r2 = r ∧ c2 = c ∧ m = n ∧ tenB r c n = true := by
  unfold alikeB at h
  rw [Bool.and_eq_true, Bool.and_eq_true, Bool.and_eq_true, decide_eq_true_eq, decide_eq_true_eq] at h
  obtain ⟨h1, h2, rfl, rfl⟩ := h
  have e1 := (tenB_iff.1 h1).2.2
  have e2 := (tenB_iff.1 h2).2.2
  exact ⟨rfl, rfl, by omega, h1⟩
/-- a tape that is given back, or nothing -/
def OOOut (res : Option (List OpP)) (w w' : World) (ad : Option Addr) (n cap : Nat) (b : Bool) (us : List OpD) : Prop := (b = res.isSome ∧ us.map OpD.toOpP = res.getD []) ∧ OwnR opR w' w.heap.size w'.heap.size ad n cap us
theorem OOOut.no {res : Option (List OpP)} (h : res = none) (w w' : World) : OOOut res w w' none 0 0 false [] := ⟨⟨by rw [h]; rfl, by rw [h]; rfl⟩, OwnR.nil _ _ _ _⟩
def OOPost (res : Option (List OpP)) (w : World) (e : Ending) (w' : World) : Prop := ∃ ad' n' cap' b us, e = .returned (.tuple #[.slice ad' n' cap', .bool b]) ∧ Hid (OOOut res w w' ad' n' cap' b us) ∧ Below w.heap.size w w'
end Go.Proofs.Ytfjfjgegdaekbaa
/- An input is replaced: the reference. No condition. -/
namespace Go.Proofs.Ytfjfjgegdaekbaa
open Go Go.RowKit
set_option linter.unusedVariables false
set_option linter.unusedSimpArgs false
end Go.Proofs.Ytfjfjgegdaekbaa
/- Tapes as results, for the walks of laws. No condition. -/
namespace Go.Proofs.Ytfjfjgegdaekbaa
open Go Go.RowKit
set_option linter.unusedVariables false
set_option linter.unusedSimpArgs false
/-- bounds of a tape that is a result -/
def bndO (n : Nat) (us : List OpD) : Prop := n ≤ 1048576 ∧ totO us ≤ 9000000 ∧ ∀ u ∈ us, u.xs.length ≤ 1048576
def lenP (p : OpP) : Nat := 6 + p.xs.length
theorem totO_lenP (us : List OpD) : totO us = ((us.map OpD.toOpP).map lenP).sum := by unfold totO; rw [List.map_map]; rfl
theorem set_id' {α : Type} {us : List α} {k : Nat} {a : α} (h : us[k]? = some a) : us.set k a = us := by
  obtain ⟨hk, rfl⟩ := List.getElem?_eq_some_iff.1 h
  exact List.set_getElem_self hk
theorem repl_bound {us l : List OpD} {op r c : Int} {xs : List Nat} (h : us.map OpD.toOpP = (replP (l.map OpD.toOpP) op r c xs).getD []) (h1 : l.length ≤ 1048576) (h2 : totO l ≤ 8000000) (h3 : ∀ o ∈ l, o.xs.length ≤ 1048576) : us.length ≤ 1048576 ∧ totO us ≤ 9000000 ∧ ∀ u ∈ us, u.xs.length ≤ 1048576 := by
  cases e : replP (l.map OpD.toOpP) op r c xs with
  | none =>
    rw [e] at h
    have h0 : us = [] := by simpa using h
    subst h0
    exact ⟨by decide, by decide, fun u hu => (nomatch hu)⟩
  | some P =>
    rw [e] at h
    have h0 : us.map OpD.toOpP = P := h
    have hP : P.map lenP = (l.map OpD.toOpP).map lenP := by
      unfold replP at e
      split at e
      · rename_i hc
        cases e
        obtain ⟨S, k, o, _, rfl, ho, _⟩ := inpB_at hc.1
        obtain ⟨_, _, hm, _⟩ := alikeB_in hc.2
        rw [show ((k : Nat) : Int).toNat = k by simp, opAtP_some ho] at hm ⊢
        rw [List.map_set]
        refine set_id' ?_
        rw [List.getElem?_map, ho]
        show some (lenP o) = some (lenP _)
        unfold lenP
        rw [hm]
      · cases e
    have hl : (us.map OpD.toOpP).map lenP = (l.map OpD.toOpP).map lenP := by rw [h0, hP]
    refine ⟨?_, by rw [totO_lenP, hl, ← totO_lenP]; omega, fun u hu => ?_⟩
    · have := congrArg List.length hl
      simp only [List.length_map] at this
      omega
    · have h4 : lenP u.toOpP ∈ (l.map OpD.toOpP).map lenP := by rw [← hl]; exact List.mem_map_of_mem (List.mem_map_of_mem hu)
      obtain ⟨p, hp, e5⟩ := List.mem_map.1 h4
      obtain ⟨o, ho, rfl⟩ := List.mem_map.1 hp
      have := h3 o ho
      unfold lenP at e5
      have e6 : u.toOpP.xs.length = u.xs.length := rfl
      have e7 : o.toOpP.xs.length = o.xs.length := rfl
      omega
end Go.Proofs.Ytfjfjgegdaekbaa
/- Copies of arguments behind a draw, for the walks of laws. No condition. -/
namespace Go.Proofs.Ytfjfjgegdaekbaa
open Go Go.RowKit
set_option linter.unusedVariables false
set_option linter.unusedSimpArgs false
theorem below_dr1 {w w' : World} (hb : Below w.drew.heap.size w.drew w') : Below w.heap.size w w' := bthen (Below.drew (Below.refl _ _)) hb
theorem OS_toD (w : World) (ad : Option Addr) (cap : Nat) (os : List OpD) (h : SeeR opR w ad cap os) (hn : os.length ≤ 1048576) (hi2 : ∀ o ∈ os, o.xs.length ≤ 1048576) :
    Calls Try.prog 6 #[.slice ad os.length cap] w.drew fun e w' => ∃ ad' cap', ∃ os' : List OpD, e = .returned (.slice ad' os.length cap') ∧ os'.map OpD.toOpP = os.map OpD.toOpP ∧ Hid (OwnR opR w' w.heap.size w'.heap.size ad' os.length cap' os') ∧ Below w.heap.size w w' := by
  refine (OS_to w.drew ad cap os (h.below (Below.drew (Below.refl _ _))) hn hi2).mono ?_
  rintro e w' ⟨a, c, os', h1, h2, h3, h4⟩
  exact ⟨a, c, os', h1, h2, h3, below_dr1 h4⟩
theorem T_toD (w : World) (r c : Int) (ad : Option Addr) (cap : Nat) (xs : List Nat) (h : F32s w ad cap xs) (hn : xs.length ≤ 1048576) :
    Calls Try.prog 40 #[.agg #[.int .i64 r, .int .i64 c, .slice ad xs.length cap]] w.drew fun e w' => ∃ ad' cap', e = .returned (.agg #[.int .i64 r, .int .i64 c, .slice ad' xs.length cap']) ∧ Hid (RepF w' w.heap.size w'.heap.size ad' xs.length cap' xs) ∧ Below w.heap.size w w' := by
  refine (T_to w.drew r c ad cap xs (h.below (Below.drew (Below.refl _ _))) hn).mono ?_
  rintro e w' ⟨a, c, h1, h3, h4⟩
  exact ⟨a, c, h1, h3, below_dr1 h4⟩
end Go.Proofs.Ytfjfjgegdaekbaa
/- Lists of tensors compared and marked, for the walks of laws. No condition. -/
namespace Go.Proofs.Ytfjfjgegdaekbaa
open Go Go.RowKit
set_option linter.unusedVariables false
set_option linter.unusedSimpArgs false
theorem ten_own {w : World} {lo hi n cap : Nat} {ad : Option Addr} {us : List Ten} (h : OwnR tenR w lo hi ad n cap us) {k : Nat} {t : Ten} (hk : us[k]? = some t) : ∃ g, ad = some ⟨g, 0, none⟩ ∧ (lo ≤ g ∧ g < hi ∧ g < w.heap.size) ∧
    (w.cell? ⟨g, k * 3, none⟩ = some (.int .i64 t.r) ∧ w.cell? ⟨g, k * 3 + 1, none⟩ = some (.int .i64 t.c) ∧ w.cell? ⟨g, k * 3 + 2, none⟩ = some (.slice t.ad t.xs.length t.cap)) ∧
    (∀ j, w.frozen? ⟨g, j, none⟩ = false) ∧ RepF w lo hi t.ad t.xs.length t.cap t.xs := by
  obtain ⟨g, e, hr, hc, hf⟩ := h.spot hk (by decide)
  have hm := List.mem_of_getElem? hk
  refine ⟨g, e, hr, ⟨hc 0 (by decide), hc 1 (by decide), hc 2 (by decide)⟩, hf, h.own.repF (List.mem_cons_of_mem _ (List.mem_flatMap.2 ⟨t, hm, List.mem_singleton.2 rfl⟩)) (h.ok t hm)⟩
set_option maxHeartbeats 4000000 in
set_option maxRecDepth 100000 in
theorem TS_eq (w : World) {a1 a2 : Option Addr} {c1 c2 : Nat} {us vs : List Ten} (h1 : SeeR tenR w a1 c1 us) (h2 : SeeR tenR w a2 c2 vs) (he : us.map (fun t => t.toTenP.can) = vs.map (fun t => t.toTenP.can)) (hn : us.length ≤ 1048576) (hi : ∀ t ∈ us, t.xs.length ≤ 1048576) :
    Calls Try.prog 8 #[.slice a1 us.length c1, .slice a2 vs.length c2] w fun e w' => e = .returned (.bool true) ∧ Below w.heap.size w w' := by
  have hl : us.length = vs.length := by have := congrArg List.length he; simpa using this
  rw [← hl]
  obtain ⟨n, hN⟩ : ∃ n, n = us.length := ⟨_, rfl⟩
  have HL := Lib.hid hl; clear hl
  rw [← hN] at hn ⊢
  have HN := Lib.hid hN; have HE := Lib.hid he; have HI := Lib.hid hi; have H1 := Lib.hid h1; have H2 := Lib.hid h2
  clear hN he hi h1 h2
  go_enter Try.func8, Try.ntmps8
  go_wp2
  go_loopw [5] (fun i wt => ∃ k : Nat, i = .int .i64 k ∧ k ≤ n ∧ Hid (Below w.heap.size w wt)) (fun i _ => n - (intOf i).toNat)
  case atStart => exact ⟨0, rfl, Nat.zero_le _, Lib.hid (Below.refl _ _)⟩
  case round =>
    obtain ⟨k, rfl, hk, HB⟩ := hrel
    by_cases hlt : k < n
    · have hkx : k < us.length := by rw [← HN.out]; exact hlt
      obtain ⟨o, ho⟩ := getElem?_lt hkx
      obtain ⟨p, hp⟩ := getElem?_lt (show k < vs.length by rw [← HL.out]; exact hkx)
      obtain ⟨b, off, rfl, _, ⟨p0, p1, p2⟩, hf⟩ := ten_spot (H1.out.below HB.out) ho
      obtain ⟨b', off', rfl, _, ⟨q0, q1, q2⟩, hf'⟩ := ten_spot (H2.out.below HB.out) hp
      have e1 : o.toTenP.can = p.toTenP.can := by
        have e1 := congrArg (fun l => l[k]?) HE.out
        simpa [ho, hp] using e1
      have hio := HI.out o (List.mem_of_getElem? ho)
      obtain ⟨⟨r, c, xs⟩, ax, cx⟩ := o
      obtain ⟨⟨r2, c2', ys⟩, ay, cy⟩ := p
      unfold TenP.can at e1
      simp only [TenP.mk.injEq] at e1
      obtain ⟨e2, e3, e4⟩ := e1
      simp only at e2 e3 e4 p0 p1 p2 q0 q1 q2 hf hf' hio
      subst e2 e3
      have K := Lib.hid (fun W (hb : Below wr.heap.size wr W) => T_eq W r c ax ay cx cy xs ys (hf.below hb) (hf'.below hb) hio e4)
      obtain ⟨x, hx⟩ : ∃ x, x = xs.length := ⟨_, rfl⟩
      obtain ⟨y, hy⟩ : ∃ y, y = ys.length := ⟨_, rfl⟩
      rw [← hx] at K p2
      rw [← hy] at K q2
      clear hf hf' ho hp e4 hx hy hkx hio
      go_wp2
      refine wp_region_tail 8 (fun f args u => False) (by kernel_rfl) (by kernel_rfl) ?_
      repeat (refine wset_step (fun K hK nq => ?_); go_simp; refine hK _ ?_; clear hK K)
      refine wset_nil ?_
      rintro w' ⟨q, rfl⟩
      go_wp2_with fail
      refine (K.out _ (below_drewN (Below.refl _ _) _)).mono ?_
      rintro e w2 ⟨rfl, hb⟩
      have HB2 := Lib.hid (bthen HB.out ((below_drewN (Below.refl _ _) _).trans hb)); clear hb
      go_wp2
      go_roundw
      case rel => exact ⟨k + 1, by go_num, hlt, HB2⟩
      case measure => simp [intOf]; omega
    · go_wp2
      go_ret
      exact ⟨rfl, HB.out⟩
/-- the marks of a tensor -/
def markT (k0 : Nat) (t : Ten) : Ten := ⟨⟨(k0 : Nat), (k0 + 1 : Nat), markF (k0 + 2) t.xs.length⟩, t.ad, t.cap⟩
def Ten.w (t : Ten) : Nat := 2 + t.xs.length
def totT (us : List Ten) : Nat := (us.map Ten.w).sum
def markTs : Nat → List Ten → List Ten
  | _, [] => []
  | k0, t :: us => markT k0 t :: markTs (k0 + t.w) us
theorem totT_snoc (A : List Ten) (t : Ten) : totT (A ++ [t]) = totT A + t.w := by simp [totT]
theorem totT_append (A B : List Ten) : totT (A ++ B) = totT A + totT B := by simp [totT]
theorem totT_cons (t : Ten) (B : List Ten) : totT (t :: B) = t.w + totT B := by simp [totT]
theorem markTs_length (k0 : Nat) (A : List Ten) : (markTs k0 A).length = A.length := by
  induction A generalizing k0 with
  | nil => rfl
  | cons o A ih => simp [markTs, ih]
theorem markTs_snoc (k0 : Nat) (A : List Ten) (t : Ten) : markTs k0 (A ++ [t]) = markTs k0 A ++ [markT (k0 + totT A) t] := by
  induction A generalizing k0 with
  | nil => simp [markTs, totT]
  | cons p A ih => rw [List.cons_append, markTs, ih, totT_cons, markTs, List.cons_append, Nat.add_assoc]
theorem markTs_at (k0 : Nat) (A B : List Ten) (t : Ten) : (markTs k0 (A ++ t :: B))[A.length]? = some (markT (k0 + totT A) t) := by
  induction A generalizing k0 with
  | nil => simp [markTs, totT]
  | cons p A ih => rw [List.cons_append, markTs, List.length_cons, List.getElem?_cons_succ, ih, totT_cons, Nat.add_assoc]
theorem OwnR.markTAt {w w2 : World} {lo hi n cap g k0 : Nat} {A B : List Ten} {o : Ten} (h : OwnR tenR w lo hi (some ⟨g, 0, none⟩) n cap (A ++ o :: B)) (hk : k0 ≤ 100000000)
    (ho : w2.ownsRow lo 35 1 (.slice o.ad o.xs.length o.cap) o.xs.length ((markF (k0 + 2) o.xs.length).map (Value.float .f32)))
    (hg : (setCs w g (A.length * 3) [.int .i64 (k0 : Nat), .int .i64 (k0 + 1 : Nat)]).grownBy w2 (Value.slice o.ad o.xs.length o.cap).ownBlock) :
    OwnR tenR w2 lo hi (some ⟨g, 0, none⟩) n cap (A ++ markT k0 o :: B) := by
  have h1 := setCs_own h.own (A.length * 3) [.int .i64 (k0 : Nat), .int .i64 (k0 + 1 : Nat)]
  have e1 : (A ++ o :: B).flatMap tenR.inn = A.flatMap tenR.inn ++ floatRow o.ad o.cap o.xs :: B.flatMap tenR.inn := by
    rw [List.flatMap_append, List.flatMap_cons]; rfl
  have e2 : (A ++ markT k0 o :: B).flatMap tenR.inn = A.flatMap tenR.inn ++ floatRow o.ad o.cap (markF (k0 + 2) o.xs.length) :: B.flatMap tenR.inn := by
    rw [List.flatMap_append, List.flatMap_cons]; rfl
  rw [e1, ← List.cons_append] at h1
  have hl : (markF (k0 + 2) o.xs.length).length = o.xs.length := markF_length _ _
  have h2 := h1.setAt (y := floatRow o.ad o.cap (markF (k0 + 2) o.xs.length)) hg (by
    refine ⟨?_, ?_⟩
    · show w2.ownsRow lo 35 1 (.slice o.ad (markF (k0 + 2) o.xs.length).length o.cap) (markF (k0 + 2) o.xs.length).length _
      rw [hl]; exact ho
    · intro g' e
      have h3 := (h1.row (floatRow o.ad o.cap o.xs) (List.mem_append_right _ (List.mem_cons_self ..))).top g'
      have e5 : (Value.slice o.ad (markF (k0 + 2) o.xs.length).length o.cap).ownBlock = some g' := e
      rw [hl] at e5
      exact h3 e5) (by show Value.slice o.ad (markF (k0 + 2) o.xs.length).length o.cap = Value.slice o.ad o.xs.length o.cap; rw [hl])
  rw [List.cons_append, ← e2] at h2
  have e3 : (A ++ markT k0 o :: B).flatMap tenR.cells = setL ((A ++ o :: B).flatMap tenR.cells) (A.length * 3) [.int .i64 (k0 : Nat), .int .i64 (k0 + 1 : Nat)] := by
    have h3 := flat_set tenR (A ++ o :: B) (k := A.length) (by simp) (markT k0 o)
    rw [set_mid] at h3
    rw [← h3]
    have e4 : tenR.cells (markT k0 o) = [.int .i64 (k0 : Nat), .int .i64 (k0 + 1 : Nat)] ++ [.slice o.ad o.xs.length o.cap] := by
      show Ten.cells (markT k0 o) = _
      unfold Ten.cells markT
      simp [hl]
    rw [e4, setL_append]
    refine set_same ?_
    rw [setL_get _ _ _ _ (.inr (by simp))]
    exact (flat_at tenR (A ++ o :: B) (k := A.length) (j := 2) (get_mid A B o) (by decide)).trans rfl
  refine ⟨?_, ?_, fun p hp => ?_⟩
  · rw [e3]; exact h2
  · have := h.len; simp at this ⊢; exact this
  · rcases List.mem_append.1 hp with hp | hp
    · exact h.ok p (List.mem_append_left _ hp)
    · rcases List.mem_cons.1 hp with rfl | hp
      · exact markF_lt _ _
      · exact h.ok p (List.mem_append_right _ (List.mem_cons_of_mem _ hp))
set_option maxHeartbeats 4000000 in
set_option maxRecDepth 100000 in
theorem TS_mark (w : World) {lo hi : Nat} {ad : Option Addr} {n cap : Nat} {os : List Ten} (k0 : Nat) (h : OwnR tenR w lo hi ad n cap os) (hhi : hi ≤ w.heap.size) (hn : n ≤ 1048576) (hk : k0 + totT os ≤ 10000000) (hi2 : ∀ o ∈ os, o.xs.length ≤ 1048576) :
    Calls Try.prog 11 #[.slice ad n cap, .int .i64 k0] w fun e w' => e = .returned (.int .i64 (k0 + totT os : Nat)) ∧ Hid (OwnR tenR w' lo hi ad n cap (markTs k0 os)) ∧ Touch lo hi w w' := by
  have HN := Lib.hid h.len; have HI2 := Lib.hid hi2; have HH := Lib.hid h; clear hi2 h
  go_enter Try.func11, Try.ntmps11
  go_wp2
  go_loopw [1, 5] (fun q i wt => ∃ k k1 : Nat, i = .int .i64 k ∧ q = .int .i64 k1 ∧ k ≤ n ∧ k1 ≤ 10000000 ∧ Hid (∃ A B, os = A ++ B ∧ A.length = k ∧ k1 = k0 + totT A ∧ OwnR tenR wt lo hi ad n cap (markTs k0 A ++ B)) ∧ Hid (Touch lo hi w wt)) (fun _ i _ => n - (intOf i).toNat)
  case atStart => exact ⟨0, k0, rfl, rfl, Nat.zero_le _, by omega, Lib.hid ⟨[], os, rfl, rfl, rfl, HH.out⟩, Lib.hid (Touch.refl _ _ _)⟩
  case round =>
    clear HH
    obtain ⟨k, k1, rfl, rfl, hkn, hk1, HX, HT⟩ := hrel
    by_cases hlt : k < n
    · obtain ⟨A, B0, e1, e2, e3, hown⟩ := HX.out
      cases B0 with
      | nil => exfalso; have := HN.out; rw [e1, List.append_nil] at this; omega
      | cons o B =>
        have HE1 := Lib.hid e1; have HE3 := Lib.hid e3; have HE2 := Lib.hid e2; have HO := Lib.hid hown
        have hml : (markTs k0 A).length = k := by rw [markTs_length, e2]
        have HML := Lib.hid hml
        have hget := get_mid (markTs k0 A) B o
        rw [hml] at hget
        obtain ⟨g, rfl, hgr, ⟨p0, p1, p2⟩, hfz, hrf⟩ := ten_own hown hget
        have hmb := HI2.out o (by rw [e1]; simp)
        have htot : k1 + o.w ≤ 10000000 := by
          have := hk
          rw [e1, totT_append, totT_cons] at this
          omega
        unfold Ten.w at htot
        have hm := fun W (ho : W.ownsRow lo 35 1 (.slice o.ad o.xs.length o.cap) o.xs.length (o.xs.map (Value.float .f32))) => laws_markFloat32S lo o.ad o.cap o.xs.length (o.xs.map (Value.float .f32)) (k1 + 2) W hmb (by omega) ho
        have HM := Lib.hid hm
        have hW := (setCs_own hown.own (k * 3) [.int .i64 (k1 : Nat), .int .i64 (k1 + 1 : Nat)]).row (floatRow o.ad o.cap o.xs) (List.mem_cons_of_mem _ (List.mem_flatMap.2 ⟨o, by simp, List.mem_singleton.2 rfl⟩))
        have HW := Lib.hid hW.own
        have htw := ((setCs_touch wr g (k * 3) [.int .i64 (k1 : Nat), .int .i64 (k1 + 1 : Nat)]).mono hgr.1 hgr.2.1)
        have HTW := Lib.hid htw; have HRF := Lib.hid hW
        clear e1 e2 e3 hown hget hrf hm hW htw hml hgr
        obtain ⟨m, hm0⟩ : ∃ m, m = o.xs.length := ⟨_, rfl⟩
        rw [← hm0] at p2 hmb htot HM
        have HM0 := Lib.hid hm0; clear hm0
        go_wp2_with fail
        refine (HM.out _ (by rw [HM0.out]; exact HW.out)).mono ?_
        rintro e w2 ⟨rfl, ho2, hg2⟩
        have hmk := OwnR.markTAt (A := markTs k0 A) (B := B) (o := o) HO.out (k0 := k1) (by omega) (by rw [← HM0.out]; exact ho2) (by rw [HML.out, ← HM0.out]; exact hg2)
        have ht2 : Touch lo hi w w2 := HT.out.trans (HTW.out.trans (Touch.of_grown HRF.out (by rw [floatRow, RowD.val, ← HM0.out]; exact hg2)))
        have HMK := Lib.hid hmk; have HT2 := Lib.hid ht2
        clear hmk ht2 ho2 hg2 HO HTW HRF HW p0 p1 p2 hfz HM HT
        go_wp2
        refine ⟨?rel, ?measure⟩
        case rel => exact ⟨k + 1, k1 + 2 + m, by go_num, by go_num, hlt, by omega, Lib.hid ⟨A ++ [o], B, by rw [HE1.out]; simp, by simp [HE2.out], by rw [totT_snoc, HE3.out, Ten.w, HM0.out]; omega, by rw [markTs_snoc, ← HE3.out, List.append_assoc]; exact HMK.out⟩, HT2⟩
        case measure => simp [intOf]; omega
    · have hkn2 : k = n := by omega
      subst hkn2
      obtain ⟨A, B, e1, e2, e3, hown⟩ := HX.out
      have hB : B = [] := by
        have := HN.out; rw [e1, List.length_append, e2] at this
        exact List.eq_nil_of_length_eq_zero (by omega)
      subst hB
      rw [List.append_nil] at e1 hown
      subst e1
      have HO := Lib.hid hown; clear hown HX
      subst e3
      clear e2
      go_wp2
      go_ret
      exact ⟨rfl, HO, HT.out⟩
set_option maxHeartbeats 4000000 in
set_option maxRecDepth 100000 in
theorem TS_held (w : World) {ad : Option Addr} {n cap : Nat} {os : List Ten} (k0 : Nat) (h : SeeR tenR w ad cap (markTs k0 os)) (hl : os.length = n) (hn : n ≤ 1048576) (hk : k0 + totT os ≤ 10000000) (hi2 : ∀ o ∈ os, o.xs.length ≤ 1048576) :
    Calls Try.prog 12 #[.slice ad n cap, .int .i64 k0] w fun e w' => e = .returned (.int .i64 (k0 + totT os : Nat)) ∧ w = w' := by
  have HN := Lib.hid hl; have HI2 := Lib.hid hi2; have HH := Lib.hid h; clear hi2 h hl
  go_enter Try.func12, Try.ntmps12
  go_wp2
  go_loop [1, 5] (fun q i => ∃ k k1 : Nat, i = .int .i64 k ∧ q = .int .i64 k1 ∧ k ≤ n ∧ k1 ≤ 10000000 ∧ Hid (∃ A B, os = A ++ B ∧ A.length = k ∧ k1 = k0 + totT A)) (fun _ i => n - (intOf i).toNat)
  case atStart => exact ⟨0, k0, rfl, rfl, Nat.zero_le _, by omega, Lib.hid ⟨[], os, rfl, rfl, rfl⟩⟩
  case round =>
    obtain ⟨k, k1, rfl, rfl, hkn, hk1, HX⟩ := hrel
    by_cases hlt : k < n
    · obtain ⟨A, B0, e1, e2, e3⟩ := HX.out
      cases B0 with
      | nil => exfalso; have := HN.out; rw [e1, List.append_nil] at this; omega
      | cons o B =>
        have HE1 := Lib.hid e1; have HE3 := Lib.hid e3; have HE2 := Lib.hid e2
        have hget := markTs_at k0 A B o
        rw [← e1, e2, ← e3] at hget
        obtain ⟨b, off, rfl, hb, ⟨p0, p1, p2⟩, hf⟩ := ten_spot HH.out hget
        have hmb := HI2.out o (by rw [e1]; simp)
        have htot : k1 + o.w ≤ 10000000 := by
          have := hk
          rw [e1, totT_append, totT_cons] at this
          omega
        unfold Ten.w at htot
        simp only [markT, markF_length] at p0 p1 p2 hf
        obtain ⟨m, hm0⟩ : ∃ m, m = o.xs.length := ⟨_, rfl⟩
        rw [← hm0] at p2 hmb htot hf
        have hheld := fun W hW => laws_heldFloat32S o.ad o.cap m (markF (k1 + 2) m) (k1 + 2) W (by omega) (by omega) hW rfl
        have HM := Lib.hid hheld; have HF := Lib.hid hf
        have HM0 := Lib.hid hm0
        clear e1 e2 e3 hget hheld hf hm0
        go_wp2_with fail
        refine (HM.out _ HF.out).mono ?_
        rintro e w2 ⟨rfl, rfl⟩
        have hnn : 0 ≤ ((k1 + 2 + m : Nat) : Int) := by omega
        clear p0 p1 p2
        go_wp2
        go_round
        case rel => exact ⟨k + 1, k1 + 2 + m, by go_num, rfl, hlt, by omega, Lib.hid ⟨A ++ [o], B, by rw [HE1.out]; simp, by simp [HE2.out], by rw [totT_snoc, HE3.out, Ten.w, HM0.out]; omega⟩⟩
        case measure => simp [intOf]; omega
    · have hkn2 : k = n := by omega
      obtain ⟨A, B, e1, e2, e3⟩ := HX.out
      have hB : B = [] := by
        have := HN.out; rw [e1, List.length_append, e2] at this
        exact List.eq_nil_of_length_eq_zero (by omega)
      subst hB
      rw [List.append_nil] at e1
      subst e1
      subst e3
      clear HX e2
      go_wp2
      go_ret
      exact ⟨rfl, rfl⟩
theorem TT_eq2 (w : World) {lo1 hi1 lo2 hi2 : Nat} {a1 a2 : Option Addr} {n1 n2 c1 c2 : Nat} {us vs : List Ten} (h1 : OwnR tenR w lo1 hi1 a1 n1 c1 us) (h2 : OwnR tenR w lo2 hi2 a2 n2 c2 vs) (he : us.map (fun t => t.toTenP.can) = vs.map (fun t => t.toTenP.can)) (hm : n1 ≤ 1048576 ∧ totT us ≤ 9000000 ∧ ∀ u ∈ us, u.xs.length ≤ 1048576) :
    Calls Try.prog 8 #[.slice a1 n1 c1, .slice a2 n2 c2] w fun e w' => e = .returned (.bool true) ∧ Below w.heap.size w w' := by
  have e1 := h1.len; have e2 := h2.len
  subst e1 e2
  exact TS_eq w h1.see h2.see he hm.1 hm.2.2
theorem TT_mark2 (w : World) {lo hi : Nat} {ad : Option Addr} {n cap : Nat} {us : List Ten} (k0 : Nat) (h : OwnR tenR w lo hi ad n cap us) (hhi : hi ≤ w.heap.size) (hm : n ≤ 1048576 ∧ totT us ≤ 9000000 ∧ ∀ u ∈ us, u.xs.length ≤ 1048576) (hk : k0 + totT us ≤ 10000000) :
    Calls Try.prog 11 #[.slice ad n cap, .int .i64 k0] w fun e w' => e = .returned (.int .i64 (k0 + totT us : Nat)) ∧ Hid (OwnR tenR w' lo hi ad n cap (markTs k0 us)) ∧ Touch lo hi w w' :=
  TS_mark w k0 h hhi hm.1 hk hm.2.2
theorem TT_held2 (w : World) {lo hi : Nat} {ad : Option Addr} {n cap : Nat} {us : List Ten} (k0 : Nat) (h : OwnR tenR w lo hi ad n cap (markTs k0 us)) (hm : n ≤ 1048576 ∧ totT us ≤ 9000000 ∧ ∀ u ∈ us, u.xs.length ≤ 1048576) (hk : k0 + totT us ≤ 10000000) :
    Calls Try.prog 12 #[.slice ad n cap, .int .i64 k0] w fun e w' => e = .returned (.int .i64 (k0 + totT us : Nat)) ∧ w = w' :=
  TS_held w k0 h.see (by rw [← markTs_length k0 us]; exact h.len) hm.1 hk hm.2.2
/-- bounds of the values of a tape -/
theorem tt_bounds {us : List Ten} {P : List OpP} (h : us.map (fun t => t.toTenP.can) = (runP P).getD []) : us.length ≤ 1048576 ∧ totT us ≤ 9000000 ∧ ∀ u ∈ us, u.xs.length ≤ 1048576 := by
  have hV : (∀ t ∈ (runP P).getD [], t.xs.length ≤ 256) ∧ ((runP P).getD []).length ≤ 48 := by
    unfold runP
    cases e : shapesP P with
    | none => exact ⟨fun t ht => (nomatch ht), by simp⟩
    | some S =>
      have hp := shapesP_some e
      have hv := valsN_ok (Nat.le_refl _) hp.2.1
      refine ⟨fun t ht => (hv.2 t ht).le, ?_⟩
      have := congrArg List.length hv.1
      rw [List.length_map, hp.2.2.1] at this
      show (valsN P P.length).length ≤ 48
      rw [this]; exact hp.1.2
  have hl : us.length ≤ 48 := by have := congrArg List.length h; rw [List.length_map] at this; rw [this]; exact hV.2
  have hx : ∀ u ∈ us, u.xs.length ≤ 256 := by
    intro u hu
    have := hV.1 u.toTenP.can (by rw [← h]; exact List.mem_map_of_mem hu)
    simpa [TenP.can] using this
  have ht : totT us ≤ 258 * us.length := by
    clear h hl
    induction us with
    | nil => simp [totT]
    | cons a us ih =>
      rw [totT_cons, List.length_cons]
      have h1 := hx a (List.mem_cons_self ..)
      have h2 := ih (fun u hu => hx u (List.mem_cons_of_mem _ hu))
      unfold Ten.w; omega
  exact ⟨by omega, by omega, fun u hu => by have := hx u hu; omega⟩
end Go.Proofs.Ytfjfjgegdaekbaa
/- A part is given to an operation's gradient: the program's closure. No condition. -/
namespace Go.Proofs.Ytfjfjgegdaekbaa
open Go Go.RowKit
set_option linter.unusedVariables false
set_option linter.unusedSimpArgs false
/-- only two blocks of the old ones are written -/
structure Keep2 (g h : Nat) (w w' : World) : Prop where
  os : w'.os = w.os
  tape : w'.tape = w.tape
  output : w'.output = w.output
  size : w.heap.size ≤ w'.heap.size
  block : ∀ k, k < w.heap.size → k ≠ g → k ≠ h → w'.heap[k]? = w.heap[k]?
section
variable {g h : Nat} {w w' w2 : World}
theorem Keep2.refl (g h : Nat) (w : World) : Keep2 g h w w := ⟨rfl, rfl, rfl, Nat.le_refl _, fun _ _ _ _ => rfl⟩
theorem Keep2.trans (a : Keep2 g h w w') (b : Keep2 g h w' w2) : Keep2 g h w w2 :=
  ⟨b.os.trans a.os, b.tape.trans a.tape, b.output.trans a.output, Nat.le_trans a.size b.size, fun k hk h1 h2 => (b.block k (Nat.lt_of_lt_of_le hk a.size) h1 h2).trans (a.block k hk h1 h2)⟩
theorem Keep2.of_below (hb : Below w.heap.size w w') : Keep2 g h w w' := ⟨hb.os, hb.tape, hb.output, hb.size, fun k hk _ _ => hb.block k hk⟩
theorem Keep2.of_touch1 (ht : Touch g (g + 1) w w') : Keep2 g h w w' := ⟨ht.os, ht.tape, ht.output, ht.size, fun k hk h1 _ => ht.block k hk (by omega)⟩
theorem Keep2.of_touch2 (ht : Touch h (h + 1) w w') : Keep2 g h w w' := ⟨ht.os, ht.tape, ht.output, ht.size, fun k hk _ h2 => ht.block k hk (by omega)⟩
theorem Keep2.below {B : Nat} {w0 : World} (a : Keep2 g h w w') (hb : Below B w0 w) (hB : B ≤ w.heap.size) (h1 : B ≤ g) (h2 : B ≤ h) : Below B w0 w' :=
  ⟨a.os.trans hb.os, a.tape.trans hb.tape, a.output.trans hb.output, Nat.le_trans hb.size a.size, fun k hk => (a.block k (by omega) (by omega) (by omega)).trans (hb.block k hk)⟩
theorem F32s.keep {a : Option Addr} {k : Nat} {xs : List Nat} (hf : F32s w a k xs) (hk : Keep2 g h w w') (hne : ∀ b o, a = some ⟨b, o, none⟩ → b ≠ g ∧ b ≠ h) : F32s w' a k xs :=
  ⟨hf.len, hf.cap, hf.rd.kept hk.size (fun b off e hb => hk.block b hb (hne b off e).1 (hne b off e).2), hf.lt⟩
theorem BoxN.keep {b : Nat} {vs : List Value} (hx : BoxN w b vs) (hk : Keep2 g h w w') (h1 : b ≠ g) (h2 : b ≠ h) : BoxN w' b vs :=
  ⟨Nat.lt_of_lt_of_le hx.lt hk.size, fun j hj => (World.cell?_of_block (w := w) (hk.block b hx.lt h1 h2)).trans (hx.at' j hj), fun o => (World.frozen?_of_block (w := w) (hk.block b hx.lt h1 h2)).trans (hx.fz o)⟩
end
theorem BoxN.one {w : World} {g : Nat} {a : Value} (h : BoxN w g [a]) : g < w.heap.size ∧ w.cell? ⟨g, 0, none⟩ = some a ∧ (∀ o, w.frozen? ⟨g, o, none⟩ = false) := ⟨h.lt, h.at' 0 (by simp), h.fz⟩
theorem Dsc.At.keep {g h : Nat} {w w' : World} {t : Dsc} (ht : t.At w) (hk : Keep2 g h w w') (hne : ∀ b o, t.a = some ⟨b, o, none⟩ → b ≠ g ∧ b ≠ h) : t.At w' := ⟨ht.see.keep hk hne, ht.r1, ht.r2, ht.c1, ht.c2, ht.len⟩
def Dsc.ten (t : Dsc) : Ten := ⟨⟨t.r, t.c, t.xs⟩, t.a, t.k⟩
theorem Dsc.ten_can (t : Dsc) : t.ten.toTenP.can = t.can := rfl
/-- a tensor of a list is a told one -/
theorem ten_dsc {t : Ten} (h : okT t.toTenP.can) : ∃ d : Dsc, t = d.ten := by
  obtain ⟨⟨r, c, xs⟩, a, k⟩ := t
  obtain ⟨r', c', e1, e2, _⟩ := h.nat
  replace e1 : r = r' := e1
  replace e2 : c = c' := e2
  subst e1 e2
  exact ⟨⟨r', c', a, k, xs⟩, rfl⟩
theorem Dsc.at_of {t : Dsc} {w : World} (h : okT t.can) (hf : F32s w t.a t.k t.xs) : t.At w := by
  obtain ⟨r', c', e1, e2, h1, h2, h3⟩ := h.nat
  have e3 : ((t.r : Nat) : Int) = r' := e1
  have e4 : ((t.c : Nat) : Int) = c' := e2
  have e5 : (t.xs.map (cn .f32)).length = r' * c' := h3
  have e6 : t.r = r' := by omega
  have e7 : t.c = c' := by omega
  rw [List.length_map] at e5
  exact ⟨hf, by omega, by omega, by omega, by omega, by rw [e5, e6, e7]⟩
section
variable {w w1 : World} {B g n cp : Nat} {us : List Ten} {E : List RowD}
/-- an element is set to a new tensor -/
theorem gi_set (h : OwnX tenR w B w.heap.size (some ⟨g, 0, none⟩) n cp us E) (hB : B ≤ w.heap.size) (hb : Below w.heap.size w w1) {i : Nat} (hi : i < n) {t : Dsc} (hr : RepF w1 w.heap.size w1.heap.size t.a t.xs.length t.k t.xs) :
    OwnX tenR (setCs w1 g (i * 3) t.cells) B (setCs w1 g (i * 3) t.cells).heap.size (some ⟨g, 0, none⟩) n cp (us.set i t.ten) E := by
  have h1 := h.setNew (w1 := w1) (w2 := setCs w1 g (i * 3) t.cells) (hi1 := w1.heap.size) hB hb hi (a := t.ten) hr.okF hr.ownRow hb.size (fun M hM => setCs_own hM (i * 3) t.cells)
  exact h1.bounds (Nat.le_refl _) (by rw [setCs_size]; exact Nat.le_refl _)
theorem gi_ten (h : OwnX tenR w B w.heap.size (some ⟨g, 0, none⟩) n cp us E) {k : Nat} {t : Ten} (hk : us[k]? = some t) : (B ≤ g ∧ g < w.heap.size) ∧
    (w.cell? ⟨g, k * 3, none⟩ = some (.int .i64 t.r) ∧ w.cell? ⟨g, k * 3 + 1, none⟩ = some (.int .i64 t.c) ∧ w.cell? ⟨g, k * 3 + 2, none⟩ = some (.slice t.ad t.xs.length t.cap)) ∧
    (∀ j, w.frozen? ⟨g, j, none⟩ = false) ∧ F32s w t.ad t.cap t.xs := by
  obtain ⟨g', e, hr, hc, hf, hx⟩ := ten_own h.r hk
  cases e
  exact ⟨⟨hr.1, hr.2.2⟩, hc, hf, hx.arg⟩
end
/-- an element's numbers lie neither with the elements nor with the marks -/
theorem gi_apart {w : World} {B g h n m cp : Nat} {us : List Ten} {U : List Bool} {E : List RowD} (hx : OwnX tenR w B w.heap.size (some ⟨g, 0, none⟩) n cp us (uRow h m U :: E)) {k : Nat} {t : Ten} (hk : us[k]? = some t) (hl : 1 ≤ t.xs.length) : ∀ b o, t.ad = some ⟨b, o, none⟩ → b ≠ g ∧ b ≠ h := by
  intro b o e
  have hm : floatRow t.ad t.cap t.xs ∈ us.flatMap tenR.inn := List.mem_flatMap.2 ⟨t, List.mem_of_getElem? hk, List.mem_singleton.2 rfl⟩
  have hown := hx.own.row _ (List.mem_cons_of_mem _ (List.mem_append_left _ hm))
  have hob : (floatRow t.ad t.cap t.xs).val.ownBlock = some b := by
    rcases hown.own.2 with h2 | ⟨g', cap', cur, hv, _⟩
    · have : t.xs.length = 0 := by
        have h3 := hown.own.1
        have h4 := h2.2
        simpa [floatRow] using h4
      omega
    · have hv2 : Value.slice t.ad t.xs.length t.cap = .slice (some ⟨g', 0, none⟩) t.xs.length cap' := hv
      injection hv2 with h5 h6 h7
      rw [e] at h5
      cases h5
      show (Value.slice t.ad t.xs.length t.cap).ownBlock = _
      rw [e]; rfl
  refine ⟨fun e1 => ?_, fun e1 => ?_⟩
  · have h1 := hx.own.apart (List.mem_append_left _ hm) g rfl
    rw [e1] at hob
    exact h1 hob
  · subst e1
    have h1 := hx.own.sep
    rw [List.map_cons, List.pairwise_cons, List.map_append, List.pairwise_append] at h1
    exact h1.2.2.2 _ (List.mem_map_of_mem hm) _ (List.mem_map_of_mem (List.mem_cons_self ..)) b hob rfl

set_option maxHeartbeats 16000000 in
set_option maxRecDepth 100000 in
theorem impl_give (w : World) (B g h bo bh n cp : Nat) (us : List Ten) (U : List Bool) (hI : OwnX tenR w B w.heap.size (some ⟨g, 0, none⟩) n cp us [uRow h n U]) (hB : B ≤ w.heap.size) (hU : U.length = n) (hbo : BoxN w bo [.slice (some ⟨g, 0, none⟩) n cp]) (hbh : BoxN w bh [.slice (some ⟨h, 0, none⟩) n n])
    (hne : (bo ≠ g ∧ bo ≠ h) ∧ (bh ≠ g ∧ bh ≠ h)) (hn : n ≤ 48) (i : Nat) (hi : i < n) (t : Dsc) (ht : t.At w) (old : Ten) (ho : us[i]? = some old) (hold : U.getD i false = true → okT old.toTenP.can ∧ old.toTenP.can.sh = t.can.sh) :
    Calls Try.prog 42 #[.int .i64 i, t.val, .pointer (some ⟨bh, 0, none⟩), .pointer (some ⟨bo, 0, none⟩)] w fun e w' => e = .returned (.tuple #[]) ∧ Keep2 g h w w' ∧ ∃ t' : Dsc, Hid (OwnX tenR w' B w'.heap.size (some ⟨g, 0, none⟩) n cp (us.set i t'.ten) [uRow h n (U.set i true)]) ∧ t'.can = giveV (U.getD i false) old.toTenP.can t.can := by
  obtain ⟨tr, tc, ta, tk, tx⟩ := t
  obtain ⟨hhl, hhB, hhc, hhf⟩ := hI.u
  obtain ⟨⟨hgB, hgl⟩, ⟨hg0, hg1, hg2⟩, hgf, hgx⟩ := gi_ten hI ho
  have hgh : g ≠ h := by
    intro e
    have h1 := hI.own.sep
    rw [List.map_cons, List.pairwise_cons] at h1
    exact h1.1 _ (List.mem_map_of_mem (List.mem_append_right _ (List.mem_singleton.2 rfl))) g rfl (by rw [e]; rfl)
  show Calls Try.prog 42 #[.int .i64 i, .agg #[.int .i64 tr, .int .i64 tc, .slice ta tx.length tk], .pointer (some ⟨bh, 0, none⟩), .pointer (some ⟨bo, 0, none⟩)] w _
  have uh := hhc i (by rw [hU]; exact hi)
  have hb1 := below1 w (.cells #[.int .i64 tr, .int .i64 tc, .slice ta tx.length tk] 44)
  have PB := Lib.hid (BoxN.alloc w #[.int .i64 tr, .int .i64 tc, .slice ta tx.length tk] 44)
  have HBO := Lib.hid hbo; have HBH := Lib.hid hbh
  have HNE := Lib.hid hne; have HGH := Lib.hid hgh
  obtain ⟨-, bo0, bof⟩ := hbo.one
  obtain ⟨-, bh0, bhf⟩ := hbh.one
  clear bof bhf hbo hbh hne hgh
  have HI := Lib.hid hI; have HT := Lib.hid ht; have HOL := Lib.hid hold; have HO := Lib.hid ho
  have HC := Lib.hid (And.intro hg0 (And.intro hg1 (And.intro hg2 hgf)))
  have HL := Lib.hid (And.intro hhl (And.intro hhB (And.intro hgl hgB)))
  have HX := Lib.hid hgx
  have HHF := Lib.hid hhf
  have HB1 := Lib.hid hb1
  clear hI ht hold hg0 hg1 hg2 hgf hhc hgx hhf hb1 ho hhB hgB
  -- the end, from the world where the part is in its box
  cases hu : U.getD i false
  · as_aux_lemma =>
    have HV : Hid (Dsc.can ⟨tr, tc, ta, tk, tx⟩ = giveV false old.toTenP.can (Dsc.can ⟨tr, tc, ta, tk, tx⟩)) := Lib.hid rfl
    obtain ⟨pr, hpr⟩ : ∃ p, p = tr := ⟨_, rfl⟩
    obtain ⟨pc, hpc⟩ : ∃ p, p = tc := ⟨_, rfl⟩
    obtain ⟨pa, hpa⟩ : ∃ p, p = ta := ⟨_, rfl⟩
    obtain ⟨pk, hpk⟩ : ∃ p, p = tk := ⟨_, rfl⟩
    obtain ⟨px, hpx⟩ : ∃ p, p = tx := ⟨_, rfl⟩
    rw [← hpr, ← hpc, ← hpa, ← hpk, ← hpx] at HV HB1 PB HT ⊢
    clear hpr hpc hpa hpk hpx
    have uh' := (HB1.out.cell (p := ⟨h, i, none⟩) HL.out.1).trans uh
    rw [hu] at uh'
    have bh1 := (HBH.out.below HB1.out).one.2.1
    have HUH := Lib.hid hu
    clear uh hu HOL bo0 bh0
    go_enter Try.func42, Try.ntmps42
    go_upto_region 3 with fail
    clear uh' bh1
    have B3 := HB1; have P3 := PB
    have AT3 := Lib.hid (HT.out.below HB1.out)
    clear HB1 PB HT
    generalize w.alloc (.cells #[.int .i64 pr, .int .i64 pc, .slice pa px.length pk] 44) = w3 at B3 P3 AT3 ⊢
    have e0 := P3.out
    obtain ⟨-, p0, p1, p2, pf⟩ := P3.out.three
    obtain ⟨-, bo1, bof1⟩ := (HBO.out.below B3.out).one
    have S3 : Hid ((fun W => W.cell? ⟨bo, 0, none⟩ = some (.slice (some ⟨g, 0, none⟩) n cp) ∧ W.cell? ⟨w.heap.size, 0, none⟩ = some (.int .i64 pr) ∧ W.cell? ⟨w.heap.size, 1, none⟩ = some (.int .i64 pc) ∧ W.cell? ⟨w.heap.size, 2, none⟩ = some (.slice pa px.length pk)) w3) := Lib.hid ⟨bo1, p0, p1, p2⟩
    go_upto_region 3 with fail
    clear p0 p1 p2 pf bo1 bof1 e0
    refine wp_region_mix 5 [3] (fun W => W.cell? ⟨bo, 0, none⟩ = some (.slice (some ⟨g, 0, none⟩) n cp) ∧ W.cell? ⟨w.heap.size, 0, none⟩ = some (.int .i64 pr) ∧ W.cell? ⟨w.heap.size, 1, none⟩ = some (.int .i64 pc) ∧ W.cell? ⟨w.heap.size, 2, none⟩ = some (.slice pa px.length pk)) (fun _ _ _ => False) (fun f args w1 v w2 => RTen (Dsc.can ⟨pr, pc, pa, pk, px⟩) w1 v w2) (by kernel_rfl) (by kernel_rfl) S3.out (fun W q h => by simpa using h) ?_
    iterate 3 (refine mwalk_plain (by rfl) S3.out (fun K hK W hW => ?_); obtain ⟨e0, e1, e2, e3⟩ := hW; go_simp; refine hK _ ?_; clear hK K e0 e1 e2 e3)
    refine mwalk_spec (by rfl) S3.out (fun K hK q1 => ?_)
    go_simp
    have D1 := Lib.hid (below_drewN (Below.refl w3.heap.size w3) q1)
    refine ⟨(impl_copyTensorT _ pr pc pa pk px (AT3.out.below D1.out).see AT3.out.nil px.length rfl (by have := AT3.out.le; simp only at this; omega)).mono (fun e w2 hh => RTen.of hh rfl), ?_⟩
    rintro v w4 hd
    obtain ⟨⟨nr, nc, na, nk, nx⟩, rfl, he, hr, hb⟩ := hd
    have B4 := Lib.hid (bthen (bthen B3.out D1.out) hb)
    have P4 := Lib.hid (P3.out.below (bthen D1.out hb))
    have hs4 : (fun W => W.cell? ⟨bo, 0, none⟩ = some (.slice (some ⟨g, 0, none⟩) n cp) ∧ W.cell? ⟨w.heap.size, 0, none⟩ = some (.int .i64 pr) ∧ W.cell? ⟨w.heap.size, 1, none⟩ = some (.int .i64 pc) ∧ W.cell? ⟨w.heap.size, 2, none⟩ = some (.slice pa px.length pk)) w4 := ⟨(HBO.out.below B4.out).one.2.1, P4.out.three.2.1, P4.out.three.2.2.1, P4.out.three.2.2.2.1⟩
    have S4 := Lib.hid hs4
    refine ⟨hs4, hK _ _ ?_⟩
    have E4 := Lib.hid he; have R4 := Lib.hid hr
    clear hK K he hr hb hs4
    refine mwalk_plain (by rfl) S4.out (fun K hK W hW => ?_)
    obtain ⟨e0, e1, e2, e3⟩ := hW
    go_simp
    refine hK _ ?_
    clear hK K e0 e1 e2 e3
    refine mwalk_nil (fun q9 => ?_)
    have B5 := Lib.hid (below_drewN B4.out q9)
    have R5 : Hid (RepF (w4.drewN q9) w.heap.size (w4.drewN q9).heap.size na nx.length nk nx) := Lib.hid ((R4.out.below (below_drewN (Below.refl _ _) q9)).bounds (Nat.le_trans B3.out.size D1.out.size) (by simp))
    have c50 := (B5.out.cell (p := ⟨g, i * 3, none⟩) HL.out.2.2.1).trans HC.out.1
    have c51 := (B5.out.cell (p := ⟨g, i * 3 + 1, none⟩) HL.out.2.2.1).trans HC.out.2.1
    have c52 := (B5.out.cell (p := ⟨g, i * 3 + 2, none⟩) HL.out.2.2.1).trans HC.out.2.2.1
    have f5 : ∀ j, (w4.drewN q9).frozen? ⟨g, j, none⟩ = false := fun j => (B5.out.frozen (p := ⟨g, j, none⟩) HL.out.2.2.1).trans (HC.out.2.2.2 j)
    have H5 := Lib.hid (HBH.out.below B5.out)
    generalize w4.drewN q9 = w5 at B5 R5 c50 c51 c52 f5 H5 ⊢
    have f50 := f5 (i * 3); have f51 := f5 (i * 3 + 1); have f52 := f5 (i * 3 + 2)
    have X6 : Hid (OwnX tenR (setCs w5 g (i * 3) [.int .i64 nr, .int .i64 nc, .slice na nx.length nk]) B (setCs w5 g (i * 3) [.int .i64 nr, .int .i64 nc, .slice na nx.length nk]).heap.size (some ⟨g, 0, none⟩) n cp (us.set i (Dsc.ten ⟨nr, nc, na, nk, nx⟩)) [uRow h n U]) := Lib.hid (gi_set HI.out hB B5.out hi (t := ⟨nr, nc, na, nk, nx⟩) R5.out)
    have K6 : Hid (Keep2 g h w (setCs w5 g (i * 3) [.int .i64 nr, .int .i64 nc, .slice na nx.length nk])) := Lib.hid ((Keep2.of_below B5.out).trans (Keep2.of_touch1 (setCs_touch _ _ _ _)))
    have H6 := Lib.hid (H5.out.touch (setCs_touch w5 g (i * 3) [.int .i64 nr, .int .i64 nc, .slice na nx.length nk]) (by have := HNE.out.2.1; omega))
    clear f5 S3 S4 D1 B4 R4 P4 B5
    try unfold Dsc.val
    try simp only
    go_upto_region 4 with fail
    clear c50 c51 c52 f50 f51 f52
    change Code.wp _ _ _ _ (setCs w5 g (i * 3) [.int .i64 nr, .int .i64 nc, .slice na nx.length nk])
    generalize setCs w5 g (i * 3) [.int .i64 nr, .int .i64 nc, .slice na nx.length nk] = w6 at X6 K6 H6 ⊢
    obtain ⟨-, h60, h6f⟩ := H6.out.one
    obtain ⟨hl6, hB6, hc6, hf6⟩ := X6.out.u
    have u6 := hc6 i (by rw [hU]; exact hi)
    have v6 := hf6 i
    have X7 := Lib.hid (X6.out.setU i)
    have K7 : Hid (Keep2 g h w (w6.setCell ⟨h, i, none⟩ (.bool true))) := Lib.hid (K6.out.trans (Keep2.of_touch2 (setCs_touch w6 h i [.bool true])))
    clear hc6 hf6 h6f hB6
    go_wp2
    go_end0
    exact ⟨rfl, K7.out, ⟨nr, nc, na, nk, nx⟩, Lib.hid (by have := X7.out; exact this.bounds (Nat.le_refl _) (by simp [World.setCell])), by rw [E4.out]; exact HV.out⟩
  · as_aux_lemma =>
    obtain ⟨hok, hsh⟩ := HOL.out hu
    obtain ⟨d, rfl⟩ := ten_dsc hok
    obtain ⟨dr, dc, da, dk, dx⟩ := d
    have HSH : Hid (dr = tr ∧ dc = tc) := Lib.hid (by have : (((dr : Nat) : Int), ((dc : Nat) : Int)) = (((tr : Nat) : Int), ((tc : Nat) : Int)) := hsh; simp at this; omega)
    have DT : Hid (∀ W, Below w.heap.size w W → (⟨dr, dc, da, dk, dx⟩ : Dsc).At W) := Lib.hid (fun W hb => Dsc.at_of hok (HX.out.below hb))
    have HUH := Lib.hid hu
    have uh' := (HB1.out.cell (p := ⟨h, i, none⟩) HL.out.1).trans uh
    rw [hu] at uh'
    have bh1 := (HBH.out.below HB1.out).one.2.1
    clear uh hu HOL hok hsh bo0 bh0
    go_enter Try.func42, Try.ntmps42
    go_upto_region 2 with fail
    clear uh' bh1
    generalize w.alloc (.cells #[.int .i64 tr, .int .i64 tc, .slice ta tx.length tk] 44) = w1 at HB1 PB ⊢
    have KS : Hid (∀ W, Below w1.heap.size w1 W → (fun W => W.cell? ⟨bo, 0, none⟩ = some (.slice (some ⟨g, 0, none⟩) n cp) ∧ (W.cell? ⟨g, i * 3, none⟩ = some (.int .i64 dr) ∧ W.cell? ⟨g, i * 3 + 1, none⟩ = some (.int .i64 dc) ∧ W.cell? ⟨g, i * 3 + 2, none⟩ = some (.slice da dx.length dk)) ∧ (W.cell? ⟨w.heap.size, 0, none⟩ = some (.int .i64 tr) ∧ W.cell? ⟨w.heap.size, 1, none⟩ = some (.int .i64 tc) ∧ W.cell? ⟨w.heap.size, 2, none⟩ = some (.slice ta tx.length tk))) W) := Lib.hid (fun W hb => ⟨(HBO.out.below (bthen HB1.out hb)).one.2.1, ⟨((bthen HB1.out hb).cell (p := ⟨g, i * 3, none⟩) HL.out.2.2.1).trans HC.out.1, ((bthen HB1.out hb).cell (p := ⟨g, i * 3 + 1, none⟩) HL.out.2.2.1).trans HC.out.2.1, ((bthen HB1.out hb).cell (p := ⟨g, i * 3 + 2, none⟩) HL.out.2.2.1).trans HC.out.2.2.1⟩, (PB.out.below hb).three.2.imp_right (fun h => h.imp_right And.left)⟩)
    have S0 := Lib.hid (KS.out w1 (Below.refl _ _))
    refine wp_region_mix 6 [5] (fun W => W.cell? ⟨bo, 0, none⟩ = some (.slice (some ⟨g, 0, none⟩) n cp) ∧ (W.cell? ⟨g, i * 3, none⟩ = some (.int .i64 dr) ∧ W.cell? ⟨g, i * 3 + 1, none⟩ = some (.int .i64 dc) ∧ W.cell? ⟨g, i * 3 + 2, none⟩ = some (.slice da dx.length dk)) ∧ (W.cell? ⟨w.heap.size, 0, none⟩ = some (.int .i64 tr) ∧ W.cell? ⟨w.heap.size, 1, none⟩ = some (.int .i64 tc) ∧ W.cell? ⟨w.heap.size, 2, none⟩ = some (.slice ta tx.length tk))) (fun _ _ _ => False) DAll (by kernel_rfl) (by kernel_rfl) S0.out (fun W q h => by simpa using h) ?_
    iterate 5 (refine mwalk_plain (by rfl) S0.out (fun K hK W hW => ?_); obtain ⟨e0, ⟨e1, e2, e3⟩, e4, e5, e6⟩ := hW; go_simp; refine hK _ ?_; clear hK K e0 e1 e2 e3 e4 e5 e6)
    refine mwalk_spec (by rfl) S0.out (fun K hK q0 => ?_)
    go_simp
    have D0 := Lib.hid (below_drewN (Below.refl w1.heap.size w1) q0)
    have A1 := Lib.hid (DT.out _ (bthen HB1.out D0.out)); have A2 := Lib.hid (HT.out.below (bthen HB1.out D0.out))
    refine ⟨(call_addTensors (t := ⟨dr, dc, da, dk, dx⟩) (u := ⟨tr, tc, ta, tk, tx⟩) A1.out A2.out HSH.out.1 HSH.out.2), ?_⟩
    rintro v w2 hd
    obtain ⟨⟨pr, pc, pa, pk, px⟩, rfl, he, ha, hr, hb⟩ := (DAll.addTensors (t := ⟨dr, dc, da, dk, dx⟩) (u := ⟨tr, tc, ta, tk, tx⟩) hd A1.out A2.out).at' (addV_ok A1.out.okT).1
    have C2 := Lib.hid (bthen D0.out hb)
    have hs2 := KS.out w2 C2.out
    refine ⟨hs2, hK _ _ ?_⟩
    have HV : Hid (Dsc.can ⟨pr, pc, pa, pk, px⟩ = giveV true (Dsc.ten ⟨dr, dc, da, dk, dx⟩).toTenP.can (Dsc.can ⟨tr, tc, ta, tk, tx⟩)) := Lib.hid he
    have A4 := Lib.hid ha
    have RZ := Lib.hid hr
    have HZD : Hid (w1.heap.size ≤ (w1.drewN q0).heap.size) := Lib.hid D0.out.size
    clear hK K hd he ha hr hb hs2 A1 A2
    refine mwalk_nil (fun q1 => ?_)
    obtain ⟨-, p0, p1, p2, pf⟩ := (PB.out.below (bthen C2.out (below_drewN (Below.refl _ _) q1))).three
    have B2 := Lib.hid (bthen HB1.out (bthen C2.out (below_drewN (Below.refl _ _) q1)))
    have A5 := Lib.hid (RZ.out.below (below_drewN (Below.refl _ _) q1)); have P5 := Lib.hid (PB.out.below (bthen C2.out (below_drewN (Below.refl _ _) q1)))
    have HO5 := Lib.hid A4.out.okT
    have HZ5 := Lib.hid (show w2.heap.size ≤ (w2.drewN q1).heap.size by simp)
    generalize w2.drewN q1 = w2' at p0 p1 p2 pf B2 A5 P5 HZ5 ⊢
    have pf0 := pf 0; have pf1 := pf 1; have pf2 := pf 2
    clear pf
    try unfold Dsc.val
    try simp only
    go_upto_region 3 with fail
    change Code.wp _ _ _ _ (setCs w2' w.heap.size 0 [.int .i64 pr, .int .i64 pc, .slice pa px.length pk])
    have B3 : Hid (Below w.heap.size w (setCs w2' w.heap.size 0 [.int .i64 pr, .int .i64 pc, .slice pa px.length pk])) := Lib.hid (setCs_below B2.out (Nat.le_refl _) 0 _)
    have P3 : Hid (BoxN (setCs w2' w.heap.size 0 [.int .i64 pr, .int .i64 pc, .slice pa px.length pk]) w.heap.size [.int .i64 pr, .int .i64 pc, .slice pa px.length pk]) := Lib.hid P5.out.set3
    have AT3 : Hid ((⟨pr, pc, pa, pk, px⟩ : Dsc).At (setCs w2' w.heap.size 0 [.int .i64 pr, .int .i64 pc, .slice pa px.length pk])) := Lib.hid (Dsc.at_of HO5.out (A5.out.touch (setCs_touch w2' w.heap.size 0 _) (.inr (by have := HZD.out; have := PB.out.lt; omega))).arg)
    clear p0 p1 p2 pf0 pf1 pf2 B2 A5 P5 HZ5 A4 RZ HZD C2 D0 S0 KS HT DT HSH HB1 PB
    generalize setCs w2' w.heap.size 0 [.int .i64 pr, .int .i64 pc, .slice pa px.length pk] = w3 at B3 P3 AT3 ⊢
    have e0 := P3.out
    obtain ⟨-, p0, p1, p2, pf⟩ := P3.out.three
    obtain ⟨-, bo1, bof1⟩ := (HBO.out.below B3.out).one
    have S3 : Hid ((fun W => W.cell? ⟨bo, 0, none⟩ = some (.slice (some ⟨g, 0, none⟩) n cp) ∧ W.cell? ⟨w.heap.size, 0, none⟩ = some (.int .i64 pr) ∧ W.cell? ⟨w.heap.size, 1, none⟩ = some (.int .i64 pc) ∧ W.cell? ⟨w.heap.size, 2, none⟩ = some (.slice pa px.length pk)) w3) := Lib.hid ⟨bo1, p0, p1, p2⟩
    go_upto_region 3 with fail
    clear p0 p1 p2 pf bo1 bof1 e0
    refine wp_region_mix 5 [3] (fun W => W.cell? ⟨bo, 0, none⟩ = some (.slice (some ⟨g, 0, none⟩) n cp) ∧ W.cell? ⟨w.heap.size, 0, none⟩ = some (.int .i64 pr) ∧ W.cell? ⟨w.heap.size, 1, none⟩ = some (.int .i64 pc) ∧ W.cell? ⟨w.heap.size, 2, none⟩ = some (.slice pa px.length pk)) (fun _ _ _ => False) (fun f args w1 v w2 => RTen (Dsc.can ⟨pr, pc, pa, pk, px⟩) w1 v w2) (by kernel_rfl) (by kernel_rfl) S3.out (fun W q h => by simpa using h) ?_
    iterate 3 (refine mwalk_plain (by rfl) S3.out (fun K hK W hW => ?_); obtain ⟨e0, e1, e2, e3⟩ := hW; go_simp; refine hK _ ?_; clear hK K e0 e1 e2 e3)
    refine mwalk_spec (by rfl) S3.out (fun K hK q1 => ?_)
    go_simp
    have D1 := Lib.hid (below_drewN (Below.refl w3.heap.size w3) q1)
    refine ⟨(impl_copyTensorT _ pr pc pa pk px (AT3.out.below D1.out).see AT3.out.nil px.length rfl (by have := AT3.out.le; simp only at this; omega)).mono (fun e w2 hh => RTen.of hh rfl), ?_⟩
    rintro v w4 hd
    obtain ⟨⟨nr, nc, na, nk, nx⟩, rfl, he, hr, hb⟩ := hd
    have B4 := Lib.hid (bthen (bthen B3.out D1.out) hb)
    have P4 := Lib.hid (P3.out.below (bthen D1.out hb))
    have hs4 : (fun W => W.cell? ⟨bo, 0, none⟩ = some (.slice (some ⟨g, 0, none⟩) n cp) ∧ W.cell? ⟨w.heap.size, 0, none⟩ = some (.int .i64 pr) ∧ W.cell? ⟨w.heap.size, 1, none⟩ = some (.int .i64 pc) ∧ W.cell? ⟨w.heap.size, 2, none⟩ = some (.slice pa px.length pk)) w4 := ⟨(HBO.out.below B4.out).one.2.1, P4.out.three.2.1, P4.out.three.2.2.1, P4.out.three.2.2.2.1⟩
    have S4 := Lib.hid hs4
    refine ⟨hs4, hK _ _ ?_⟩
    have E4 := Lib.hid he; have R4 := Lib.hid hr
    clear hK K he hr hb hs4
    refine mwalk_plain (by rfl) S4.out (fun K hK W hW => ?_)
    obtain ⟨e0, e1, e2, e3⟩ := hW
    go_simp
    refine hK _ ?_
    clear hK K e0 e1 e2 e3
    refine mwalk_nil (fun q9 => ?_)
    have B5 := Lib.hid (below_drewN B4.out q9)
    have R5 : Hid (RepF (w4.drewN q9) w.heap.size (w4.drewN q9).heap.size na nx.length nk nx) := Lib.hid ((R4.out.below (below_drewN (Below.refl _ _) q9)).bounds (Nat.le_trans B3.out.size D1.out.size) (by simp))
    have c50 := (B5.out.cell (p := ⟨g, i * 3, none⟩) HL.out.2.2.1).trans HC.out.1
    have c51 := (B5.out.cell (p := ⟨g, i * 3 + 1, none⟩) HL.out.2.2.1).trans HC.out.2.1
    have c52 := (B5.out.cell (p := ⟨g, i * 3 + 2, none⟩) HL.out.2.2.1).trans HC.out.2.2.1
    have f5 : ∀ j, (w4.drewN q9).frozen? ⟨g, j, none⟩ = false := fun j => (B5.out.frozen (p := ⟨g, j, none⟩) HL.out.2.2.1).trans (HC.out.2.2.2 j)
    have H5 := Lib.hid (HBH.out.below B5.out)
    generalize w4.drewN q9 = w5 at B5 R5 c50 c51 c52 f5 H5 ⊢
    have f50 := f5 (i * 3); have f51 := f5 (i * 3 + 1); have f52 := f5 (i * 3 + 2)
    have X6 : Hid (OwnX tenR (setCs w5 g (i * 3) [.int .i64 nr, .int .i64 nc, .slice na nx.length nk]) B (setCs w5 g (i * 3) [.int .i64 nr, .int .i64 nc, .slice na nx.length nk]).heap.size (some ⟨g, 0, none⟩) n cp (us.set i (Dsc.ten ⟨nr, nc, na, nk, nx⟩)) [uRow h n U]) := Lib.hid (gi_set HI.out hB B5.out hi (t := ⟨nr, nc, na, nk, nx⟩) R5.out)
    have K6 : Hid (Keep2 g h w (setCs w5 g (i * 3) [.int .i64 nr, .int .i64 nc, .slice na nx.length nk])) := Lib.hid ((Keep2.of_below B5.out).trans (Keep2.of_touch1 (setCs_touch _ _ _ _)))
    have H6 := Lib.hid (H5.out.touch (setCs_touch w5 g (i * 3) [.int .i64 nr, .int .i64 nc, .slice na nx.length nk]) (by have := HNE.out.2.1; omega))
    clear f5 S3 S4 D1 B4 R4 P4 B5
    try unfold Dsc.val
    try simp only
    go_upto_region 4 with fail
    clear c50 c51 c52 f50 f51 f52
    change Code.wp _ _ _ _ (setCs w5 g (i * 3) [.int .i64 nr, .int .i64 nc, .slice na nx.length nk])
    generalize setCs w5 g (i * 3) [.int .i64 nr, .int .i64 nc, .slice na nx.length nk] = w6 at X6 K6 H6 ⊢
    obtain ⟨-, h60, h6f⟩ := H6.out.one
    obtain ⟨hl6, hB6, hc6, hf6⟩ := X6.out.u
    have u6 := hc6 i (by rw [hU]; exact hi)
    have v6 := hf6 i
    have X7 := Lib.hid (X6.out.setU i)
    have K7 : Hid (Keep2 g h w (w6.setCell ⟨h, i, none⟩ (.bool true))) := Lib.hid (K6.out.trans (Keep2.of_touch2 (setCs_touch w6 h i [.bool true])))
    clear hc6 hf6 h6f hB6
    go_wp2
    go_end0
    exact ⟨rfl, K7.out, ⟨nr, nc, na, nk, nx⟩, Lib.hid (by have := X7.out; exact this.bounds (Nat.le_refl _) (by simp [World.setCell])), by rw [E4.out]; exact HV.out⟩
end Go.Proofs.Ytfjfjgegdaekbaa
/- Two boxes laid in any order about a call. No condition. -/
namespace Go.Proofs.Ytfjfjgegdaekbaa
open Go Go.RowKit
set_option linter.unusedVariables false
set_option linter.unusedSimpArgs false
def GotL (T : TenP) (G : Dsc) (lo : Nat) (w' : World) (t : Dsc) : Prop := t.can = T ∧ (t = G ∨ RepF w' lo w'.heap.size t.a t.xs.length t.k t.xs)
theorem GotL.of {T : TenP} {G t : Dsc} {w w' : World} {lo : Nat} (h : GotOk T G w w' t) (hl : lo ≤ w.heap.size) : GotL T G lo w' t := ⟨h.1, h.2.imp id (fun h => h.bounds hl (Nat.le_refl _))⟩
theorem GotL.to {T : TenP} {G t : Dsc} {w w' : World} {lo : Nat} (h : GotL T G lo w' t) (hl : w.heap.size ≤ lo) : GotOk T G w w' t := ⟨h.1, h.2.imp id (fun h => h.bounds hl (Nat.le_refl _))⟩
theorem GotL.alloc {T : TenP} {G t : Dsc} {w : World} {lo : Nat} (h : GotL T G lo w t) (o : Obj) : GotL T G lo (w.alloc o) t := ⟨h.1, h.2.imp id (fun h => (h.below (below1 w o)).bounds (Nat.le_refl _) (by simp))⟩
theorem GotL.setCell {T : TenP} {G t : Dsc} {w : World} {lo g k : Nat} {v : Value} (h : GotL T G lo w t) (hg : g < lo) : GotL T G lo (w.setCell ⟨g, k, none⟩ v) t := ⟨h.1, h.2.imp id (fun h => (h.touch (lo2 := g) (hi2 := g + 1) (Touch.setCell (Nat.le_refl _) (Nat.lt_succ_self _)) (.inr (by omega))).bounds (Nat.le_refl _) (by simp [World.setCell]))⟩
def CutOk (wq : World) (T1 T2 : TenP) (G : Dsc) (two : Bool) (wz : World) (ba bb : Nat) (t u : Dsc) : Prop := (BoxN wz ba t.cells ∧ BoxN wz bb u.cells) ∧ (wq.heap.size ≤ ba ∧ wq.heap.size ≤ bb) ∧ Below wq.heap.size wq wz ∧ GotOk T1 G wq wz t ∧ (two = true → GotOk T2 G wq wz u)
theorem GotL.setCs {T : TenP} {G t : Dsc} {w : World} {lo g : Nat} (h : GotL T G lo w t) (k : Nat) (vs : List Value) (hg : g < lo) : GotL T G lo (setCs w g k vs) t := ⟨h.1, h.2.imp id (fun h => (h.touch (setCs_touch w g k vs) (.inr (by omega))).bounds (Nat.le_refl _) (by rw [setCs_size]; exact Nat.le_refl _))⟩
section
variable {wq w5 : World} {T1 T2 : TenP} {G : Dsc} {two : Bool} {tr tc tk ur uc uk : Nat} {ta ua : Option Addr} {tx ux : List Nat}
theorem leaf1 (hb : Below wq.heap.size wq w5) (ht : GotL T1 G wq.heap.size w5 ⟨tr, tc, ta, tk, tx⟩) (hu : two = true → GotL T2 G wq.heap.size w5 ⟨ur, uc, ua, uk, ux⟩) :
    CutOk wq T1 T2 G two ((w5.alloc (.cells #[.int .i64 tr, .int .i64 tc, .slice ta tx.length tk] 44)).alloc (.cells #[.int .i64 ur, .int .i64 uc, .slice ua ux.length uk] 44)) w5.heap.size (w5.heap.size + 1) ⟨tr, tc, ta, tk, tx⟩ ⟨ur, uc, ua, uk, ux⟩ :=
  ⟨⟨(BoxN.alloc w5 #[.int .i64 tr, .int .i64 tc, .slice ta tx.length tk] 44).below (below1 _ _), BoxN.alloc2 w5 _ #[.int .i64 ur, .int .i64 uc, .slice ua ux.length uk] 44⟩, ⟨hb.size, Nat.le_succ_of_le hb.size⟩, bthen hb (below2 w5 _ _), ((ht.alloc _).alloc _).to (Nat.le_refl _), fun h => (((hu h).alloc _).alloc _).to (Nat.le_refl _)⟩
theorem leaf2 (hb : Below wq.heap.size wq w5) (ht : GotL T1 G wq.heap.size w5 ⟨tr, tc, ta, tk, tx⟩) (hu : two = true → GotL T2 G wq.heap.size w5 ⟨ur, uc, ua, uk, ux⟩) :
    CutOk wq T1 T2 G two ((w5.alloc (.cells #[.int .i64 ur, .int .i64 uc, .slice ua ux.length uk] 44)).alloc (.cells #[.int .i64 tr, .int .i64 tc, .slice ta tx.length tk] 44)) (w5.heap.size + 1) w5.heap.size ⟨tr, tc, ta, tk, tx⟩ ⟨ur, uc, ua, uk, ux⟩ :=
  ⟨⟨BoxN.alloc2 w5 _ #[.int .i64 tr, .int .i64 tc, .slice ta tx.length tk] 44, (BoxN.alloc w5 #[.int .i64 ur, .int .i64 uc, .slice ua ux.length uk] 44).below (below1 _ _)⟩, ⟨Nat.le_succ_of_le hb.size, hb.size⟩, bthen hb (below2 w5 _ _), ((ht.alloc _).alloc _).to (Nat.le_refl _), fun h => (((hu h).alloc _).alloc _).to (Nat.le_refl _)⟩
theorem leaf4 (hb : Below wq.heap.size wq w5) (hz : BoxN w5 wq.heap.size [.int .i64 0, .int .i64 0, .slice none 0 0]) (ht : GotL T1 G (wq.heap.size + 1) w5 ⟨tr, tc, ta, tk, tx⟩) (hu : two = true → GotL T2 G (wq.heap.size + 1) w5 ⟨ur, uc, ua, uk, ux⟩) :
    CutOk wq T1 T2 G two ((((w5.setCell ⟨wq.heap.size, 0, none⟩ (.int .i64 tr)).setCell ⟨wq.heap.size, 1, none⟩ (.int .i64 tc)).setCell ⟨wq.heap.size, 2, none⟩ (.slice ta tx.length tk)).alloc (.cells #[.int .i64 ur, .int .i64 uc, .slice ua ux.length uk] 44)) wq.heap.size w5.heap.size ⟨tr, tc, ta, tk, tx⟩ ⟨ur, uc, ua, uk, ux⟩ := by
  show CutOk wq T1 T2 G two ((setCs w5 wq.heap.size 0 [.int .i64 tr, .int .i64 tc, .slice ta tx.length tk]).alloc (.cells #[.int .i64 ur, .int .i64 uc, .slice ua ux.length uk] 44)) _ _ _ _
  have h2 := BoxN.alloc (setCs w5 wq.heap.size 0 [.int .i64 tr, .int .i64 tc, .slice ta tx.length tk]) #[.int .i64 ur, .int .i64 uc, .slice ua ux.length uk] 44
  rw [setCs_size] at h2
  exact ⟨⟨(hz.set3 (x := .int .i64 tr) (y := .int .i64 tc) (z := .slice ta tx.length tk)).below (below1 _ _), h2⟩, ⟨Nat.le_refl _, hb.size⟩, bthen (setCs_below hb (Nat.le_refl _) 0 [.int .i64 tr, .int .i64 tc, .slice ta tx.length tk]) (below1 _ _), ((ht.setCs 0 [.int .i64 tr, .int .i64 tc, .slice ta tx.length tk] (Nat.lt_succ_self _)).alloc _).to (Nat.le_succ _), fun h => (((hu h).setCs 0 [.int .i64 tr, .int .i64 tc, .slice ta tx.length tk] (Nat.lt_succ_self _)).alloc _).to (Nat.le_succ _)⟩
theorem leaf6 (hb : Below wq.heap.size wq w5) (hz : BoxN w5 wq.heap.size [.int .i64 0, .int .i64 0, .slice none 0 0]) (ht : GotL T1 G (wq.heap.size + 1) w5 ⟨tr, tc, ta, tk, tx⟩) (hu : two = true → GotL T2 G (wq.heap.size + 1) w5 ⟨ur, uc, ua, uk, ux⟩) :
    CutOk wq T1 T2 G two ((((w5.setCell ⟨wq.heap.size, 0, none⟩ (.int .i64 ur)).setCell ⟨wq.heap.size, 1, none⟩ (.int .i64 uc)).setCell ⟨wq.heap.size, 2, none⟩ (.slice ua ux.length uk)).alloc (.cells #[.int .i64 tr, .int .i64 tc, .slice ta tx.length tk] 44)) w5.heap.size wq.heap.size ⟨tr, tc, ta, tk, tx⟩ ⟨ur, uc, ua, uk, ux⟩ := by
  show CutOk wq T1 T2 G two ((setCs w5 wq.heap.size 0 [.int .i64 ur, .int .i64 uc, .slice ua ux.length uk]).alloc (.cells #[.int .i64 tr, .int .i64 tc, .slice ta tx.length tk] 44)) _ _ _ _
  have h2 := BoxN.alloc (setCs w5 wq.heap.size 0 [.int .i64 ur, .int .i64 uc, .slice ua ux.length uk]) #[.int .i64 tr, .int .i64 tc, .slice ta tx.length tk] 44
  rw [setCs_size] at h2
  exact ⟨⟨h2, (hz.set3 (x := .int .i64 ur) (y := .int .i64 uc) (z := .slice ua ux.length uk)).below (below1 _ _)⟩, ⟨hb.size, Nat.le_refl _⟩, bthen (setCs_below hb (Nat.le_refl _) 0 [.int .i64 ur, .int .i64 uc, .slice ua ux.length uk]) (below1 _ _), ((ht.setCs 0 [.int .i64 ur, .int .i64 uc, .slice ua ux.length uk] (Nat.lt_succ_self _)).alloc _).to (Nat.le_succ _), fun h => (((hu h).setCs 0 [.int .i64 ur, .int .i64 uc, .slice ua ux.length uk] (Nat.lt_succ_self _)).alloc _).to (Nat.le_succ _)⟩
theorem leaf5 (hb : Below wq.heap.size wq w5) (hz : BoxN w5 wq.heap.size [.int .i64 0, .int .i64 0, .slice none 0 0]) (hy : BoxN w5 (wq.heap.size + 1) [.int .i64 0, .int .i64 0, .slice none 0 0]) (ht : GotL T1 G (wq.heap.size + 2) w5 ⟨tr, tc, ta, tk, tx⟩) (hu : two = true → GotL T2 G (wq.heap.size + 2) w5 ⟨ur, uc, ua, uk, ux⟩) :
    CutOk wq T1 T2 G two ((((((w5.setCell ⟨wq.heap.size, 0, none⟩ (.int .i64 tr)).setCell ⟨wq.heap.size, 1, none⟩ (.int .i64 tc)).setCell ⟨wq.heap.size, 2, none⟩ (.slice ta tx.length tk)).setCell ⟨wq.heap.size + 1, 0, none⟩ (.int .i64 ur)).setCell ⟨wq.heap.size + 1, 1, none⟩ (.int .i64 uc)).setCell ⟨wq.heap.size + 1, 2, none⟩ (.slice ua ux.length uk)) wq.heap.size (wq.heap.size + 1) ⟨tr, tc, ta, tk, tx⟩ ⟨ur, uc, ua, uk, ux⟩ := by
  show CutOk wq T1 T2 G two (setCs (setCs w5 wq.heap.size 0 [.int .i64 tr, .int .i64 tc, .slice ta tx.length tk]) (wq.heap.size + 1) 0 [.int .i64 ur, .int .i64 uc, .slice ua ux.length uk]) _ _ _ _
  have h1 := (hz.set3 (x := .int .i64 tr) (y := .int .i64 tc) (z := .slice ta tx.length tk)).touch (setCs_touch _ (wq.heap.size + 1) 0 [.int .i64 ur, .int .i64 uc, .slice ua ux.length uk]) (.inl (Nat.lt_succ_self _))
  have h2 := (hy.touch (setCs_touch w5 wq.heap.size 0 [.int .i64 tr, .int .i64 tc, .slice ta tx.length tk]) (.inr (Nat.le_refl _))).set3 (x := .int .i64 ur) (y := .int .i64 uc) (z := .slice ua ux.length uk)
  exact ⟨⟨h1, h2⟩, ⟨Nat.le_refl _, Nat.le_succ _⟩, setCs_below (setCs_below hb (Nat.le_refl _) 0 [.int .i64 tr, .int .i64 tc, .slice ta tx.length tk]) (Nat.le_succ _) 0 [.int .i64 ur, .int .i64 uc, .slice ua ux.length uk], ((ht.setCs 0 [.int .i64 tr, .int .i64 tc, .slice ta tx.length tk] (show wq.heap.size < _ by omega)).setCs 0 [.int .i64 ur, .int .i64 uc, .slice ua ux.length uk] (show wq.heap.size + 1 < _ by omega)).to (by omega), fun h => (((hu h).setCs 0 [.int .i64 tr, .int .i64 tc, .slice ta tx.length tk] (show wq.heap.size < _ by omega)).setCs 0 [.int .i64 ur, .int .i64 uc, .slice ua ux.length uk] (show wq.heap.size + 1 < _ by omega)).to (by omega)⟩
theorem leaf7 (hb : Below wq.heap.size wq w5) (hz : BoxN w5 wq.heap.size [.int .i64 0, .int .i64 0, .slice none 0 0]) (hy : BoxN w5 (wq.heap.size + 1) [.int .i64 0, .int .i64 0, .slice none 0 0]) (ht : GotL T1 G (wq.heap.size + 2) w5 ⟨tr, tc, ta, tk, tx⟩) (hu : two = true → GotL T2 G (wq.heap.size + 2) w5 ⟨ur, uc, ua, uk, ux⟩) :
    CutOk wq T1 T2 G two ((((((w5.setCell ⟨wq.heap.size + 1, 0, none⟩ (.int .i64 tr)).setCell ⟨wq.heap.size + 1, 1, none⟩ (.int .i64 tc)).setCell ⟨wq.heap.size + 1, 2, none⟩ (.slice ta tx.length tk)).setCell ⟨wq.heap.size, 0, none⟩ (.int .i64 ur)).setCell ⟨wq.heap.size, 1, none⟩ (.int .i64 uc)).setCell ⟨wq.heap.size, 2, none⟩ (.slice ua ux.length uk)) (wq.heap.size + 1) wq.heap.size ⟨tr, tc, ta, tk, tx⟩ ⟨ur, uc, ua, uk, ux⟩ := by
  show CutOk wq T1 T2 G two (setCs (setCs w5 (wq.heap.size + 1) 0 [.int .i64 tr, .int .i64 tc, .slice ta tx.length tk]) wq.heap.size 0 [.int .i64 ur, .int .i64 uc, .slice ua ux.length uk]) _ _ _ _
  have h1 := (hy.set3 (x := .int .i64 tr) (y := .int .i64 tc) (z := .slice ta tx.length tk)).touch (setCs_touch _ wq.heap.size 0 [.int .i64 ur, .int .i64 uc, .slice ua ux.length uk]) (.inr (Nat.le_refl _))
  have h2 := (hz.touch (setCs_touch w5 (wq.heap.size + 1) 0 [.int .i64 tr, .int .i64 tc, .slice ta tx.length tk]) (.inl (Nat.lt_succ_self _))).set3 (x := .int .i64 ur) (y := .int .i64 uc) (z := .slice ua ux.length uk)
  exact ⟨⟨h1, h2⟩, ⟨Nat.le_succ _, Nat.le_refl _⟩, setCs_below (setCs_below hb (Nat.le_succ _) 0 [.int .i64 tr, .int .i64 tc, .slice ta tx.length tk]) (Nat.le_refl _) 0 [.int .i64 ur, .int .i64 uc, .slice ua ux.length uk], ((ht.setCs 0 [.int .i64 tr, .int .i64 tc, .slice ta tx.length tk] (show wq.heap.size + 1 < _ by omega)).setCs 0 [.int .i64 ur, .int .i64 uc, .slice ua ux.length uk] (show wq.heap.size < _ by omega)).to (by omega), fun h => (((hu h).setCs 0 [.int .i64 tr, .int .i64 tc, .slice ta tx.length tk] (show wq.heap.size + 1 < _ by omega)).setCs 0 [.int .i64 ur, .int .i64 uc, .slice ua ux.length uk] (show wq.heap.size < _ by omega)).to (by omega)⟩
end
end Go.Proofs.Ytfjfjgegdaekbaa
