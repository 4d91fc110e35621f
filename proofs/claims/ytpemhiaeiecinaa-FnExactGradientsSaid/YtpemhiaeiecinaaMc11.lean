/- Joined texts 11: Tp8 Tw0 Rg2 Ali Rp1 Rp2 Rp4 Tw1 Tw2 Tw3. Each is told at its own head. No condition. -/
import Derived.Deep.RegionHeld3
import Derived.Deep.CutRange
import Derived.Deep.DeepCutAuto
import Derived.Test.YtpemhiaeiecinaaMc0
import Derived.Test.YtpemhiaeiecinaaMc3
import Derived.Test.YtpemhiaeiecinaaMc4
import Derived.Test.YtpemhiaeiecinaaMc5
import Derived.Test.YtpemhiaeiecinaaMc7
import Derived.Test.YtpemhiaeiecinaaMc9
/- What comparing, marking rows of rows of integers does. No condition. -/
namespace Go.Proofs.Ytpemhiaeiecinaa
open Go Go.RowKit
set_option linter.unusedVariables false
set_option linter.unusedSimpArgs false
theorem ii_spot {w : World} {ad : Option Addr} {cap : Nat} {us : List IRow} (h : SeeR iiR w ad cap us) {k : Nat} {u : IRow} (hk : us[k]? = some u) : ∃ b off, ad = some ⟨b, off, none⟩ ∧ b < w.heap.size ∧ w.cell? ⟨b, off + k, none⟩ = some (.slice u.ad u.xs.length u.cap) ∧ Ints .i64 w u.ad u.cap u.xs := by
  obtain ⟨b, off, e, hb, hc⟩ := h.spot hk (by decide)
  have hm := List.mem_of_getElem? hk
  have h1 := hc 0 (by decide)
  rw [show off + k * iiR.size + 0 = off + k by show off + k * 1 + 0 = off + k; omega] at h1
  have h2 := h.inn u hm _ (List.mem_singleton.2 rfl)
  exact ⟨b, off, e, hb, h1, ⟨by have := h2.le; exact this, h2.cap, h2.rd, h.ok u hm⟩⟩
def markII : Nat → List IRow → List IRow
  | _, [] => []
  | k0, u :: us => ⟨u.ad, u.cap, markI k0 u.xs.length⟩ :: markII (k0 + u.xs.length) us
def totI (us : List IRow) : Nat := (us.map fun u => u.xs.length).sum
theorem totI_append (A B : List IRow) : totI (A ++ B) = totI A + totI B := by simp [totI]
theorem totI_cons (u : IRow) (B : List IRow) : totI (u :: B) = u.xs.length + totI B := by simp [totI]
theorem totI_snoc (A : List IRow) (u : IRow) : totI (A ++ [u]) = totI A + u.xs.length := by simp [totI]
theorem markII_length (k0 : Nat) (A : List IRow) : (markII k0 A).length = A.length := by
  induction A generalizing k0 with
  | nil => rfl
  | cons u A ih => simp [markII, ih]
theorem markII_snoc (k0 : Nat) (A : List IRow) (u : IRow) : markII k0 (A ++ [u]) = markII k0 A ++ [⟨u.ad, u.cap, markI (k0 + totI A) u.xs.length⟩] := by
  induction A generalizing k0 with
  | nil => simp [markII, totI]
  | cons p A ih => rw [List.cons_append, markII, ih, totI_cons, markII, List.cons_append, Nat.add_assoc]
theorem markII_at (k0 : Nat) (A B : List IRow) (u : IRow) : (markII k0 (A ++ u :: B))[A.length]? = some ⟨u.ad, u.cap, markI (k0 + totI A) u.xs.length⟩ := by
  induction A generalizing k0 with
  | nil => simp [markII, totI]
  | cons p A ih => rw [List.cons_append, markII, List.length_cons, List.getElem?_cons_succ, ih, totI_cons, Nat.add_assoc]
end Go.Proofs.Ytpemhiaeiecinaa
/- Bounds for the walks of laws over tapes. No condition. -/
namespace Go.Proofs.Ytpemhiaeiecinaa
open Go Go.RowKit
set_option linter.unusedVariables false
set_option linter.unusedSimpArgs false
theorem left_bounds {os : List OpD} {L R : Int} (h : L = leftBy OpD.n os R) (h0 : 0 ≤ L) (h1 : R ≤ 1048576) : os.length ≤ 1048576 ∧ L ≤ 1048576 ∧ (∀ o ∈ os, o.xs.length ≤ 1048576) ∧ totO os ≤ 8000000 := by
  unfold leftBy at h
  split at h
  · rename_i hle
    have ht : totO os = 6 * os.length + sumBy OpD.n os os.length := by
      unfold totO sumBy
      rw [List.take_length]
      clear h hle h0 h1
      induction os with
      | nil => rfl
      | cons o os ih => rw [List.map_cons, List.sum_cons, ih, List.map_cons, List.sum_cons, List.length_cons]; unfold OpD.w OpD.n; omega
    refine ⟨by omega, by omega, fun o ho => ?_, by omega⟩
    have := sumBy_mem OpD.n ho
    unfold OpD.n at *
    omega
  · omega
theorem left_bound1 {n : Nat} {L R : Int} (h : L = if (n : Int) ≤ R then R - n else -1) (h0 : 0 ≤ L) (h1 : R ≤ 1048576) : n ≤ 1048576 ∧ L ≤ 1048576 := by
  split at h <;> omega
theorem tot_of {us os : List OpD} (h : us.map OpD.toOpP = os.map OpD.toOpP) : totO us = totO os := by
  have h1 : ∀ l : List OpD, totO l = ((l.map OpD.toOpP).map (fun p : OpP => 6 + p.xs.length)).sum := by
    intro l; unfold totO; rw [List.map_map]; rfl
  rw [h1, h1, h]
theorem lens_of {us os : List OpD} (h : us.map OpD.toOpP = os.map OpD.toOpP) (hb : ∀ o ∈ os, o.xs.length ≤ 1048576) : ∀ o ∈ us, o.xs.length ≤ 1048576 := by
  intro o ho
  have h1 : o.toOpP ∈ os.map OpD.toOpP := by rw [← h]; exact List.mem_map_of_mem ho
  obtain ⟨p, hp, e⟩ := List.mem_map.1 h1
  have := hb p hp
  rw [← e]; exact this
theorem can_of {us os : List OpD} (h : us.map OpD.toOpP = os.map OpD.toOpP) : us.map (fun o => o.toOpP.can) = os.map (fun o => o.toOpP.can) := by
  have h1 : ∀ l : List OpD, l.map (fun o => o.toOpP.can) = (l.map OpD.toOpP).map OpP.can := by intro l; rw [List.map_map]; rfl
  rw [h1, h1, h]
end Go.Proofs.Ytpemhiaeiecinaa
/- A region whose operations before a call serve it alone, and whose operations behind it look at its results: one walk. No condition. -/
namespace Go.Proofs.Ytpemhiaeiecinaa
open Go
set_option linter.unusedVariables false
section
variable {P : Program} {ops : Array Oper} {C : World → Prop} {VC : FuncId → Array Value → Value → Prop}
def chainQ (md : Region.Mode) (ops : Array Oper) (n : Nat) : Bool := (List.range ops.size).all fun t => decide (t ≤ n) || (List.range t).any fun t' => decide (n ≤ t') && waitsP md ops t t'
def afterC (md : Region.Mode) (ops : Array Oper) (g k : Nat) (listed : Array Bool) : Bool := decide (Region.ready md ops listed = [k]) && Region.lexFrom md ops g (k + 1) (listed.setIfInBounds k true)
def lexHeadC (md : Region.Mode) (ops : Array Oper) (g : Nat) : Nat → Nat → Array Bool → Bool
  | 0, k, listed => afterC md ops g k listed
  | f + 1, k, listed => (Region.ready md ops listed).contains k && Region.free md ops listed k && lexHeadC md ops g f (k + 1) (listed.setIfInBounds k true)
theorem afterC_ready {md : Region.Mode} {g k : Nat} {listed : Array Bool} (h : afterC md ops g k listed = true) : ∀ j ∈ Region.ready md ops listed, k ≤ j := by
  intro j hj
  simp only [afterC, Bool.and_eq_true, decide_eq_true_eq] at h
  rw [h.1] at hj
  simp at hj; omega
theorem late2 {md : Region.Mode} {p n : Nat} {listed : Array Bool} (hs : sinkP md ops p n = true) (hc : chainQ md ops n = true) (hn : n < ops.size) (inv : HInv md ops n listed) (hp : ∀ j, j < p → listed.getD j false = true) :
    ∀ (d i : Nat), n - i = d → i < n → listed.getD i true = false → ∀ t, n ≤ t → t ∉ Region.ready md ops listed := by
  intro d
  induction d using Nat.strongRecOn with
  | _ d ih =>
    intro i hd hi hun t ht hr
    have hip : ¬ i < p := fun h => by have := hp i h; rw [getD_two hun] at this; cases this
    have h1 := List.all_eq_true.1 hs i (List.mem_range.2 hi)
    simp only [Bool.or_eq_true, decide_eq_true_eq, hip, false_or, List.any_eq_true, List.mem_range, Bool.and_eq_true] at h1
    obtain ⟨k, hk, hik, hw⟩ := h1
    obtain ⟨ok, hok, e, he, hb, hon⟩ := waitsP_spec hw
    have hks : k < ops.size := (Array.getElem?_eq_some_iff.1 hok).1
    obtain ⟨hunt, ot, hot, hall⟩ := mem_ready.1 hr
    have htlt : t < ops.size := (Array.getElem?_eq_some_iff.1 hot).1
    by_cases hkn : k = n
    · subst hkn
      by_cases htk : t = k
      · subst htk
        obtain rfl : ok = ot := Option.some.inj (hok.symm.trans hot)
        have := hall e he hb
        rw [hon, getD_two hun] at this; cases this
      · have h2 := List.all_eq_true.1 hc t (List.mem_range.2 htlt)
        simp only [Bool.or_eq_true, decide_eq_true_eq] at h2
        rcases h2 with h2 | h2
        · omega
        · obtain ⟨t', ht', hq⟩ := List.any_eq_true.1 h2
          simp only [Bool.and_eq_true, decide_eq_true_eq] at hq
          have ht'' := List.mem_range.1 ht'
          obtain ⟨o', ho', e', he', hb', hon'⟩ := waitsP_spec hq.2
          obtain rfl : o' = ot := Option.some.inj (ho'.symm.trans hot)
          have := hall e' he' hb'
          rw [hon', getD_two (inv.tail t' (by omega) (by omega))] at this; cases this
    · have hkl : listed.getD k false = false := by
        cases hl : listed.getD k false with
        | false => rfl
        | true => have := inv.closed k ok hok hl e he hb; rw [hon, getD_two hun] at this; cases this
      exact ih (n - k) (by omega) k rfl (by omega) (getD_in2 (by rw [inv.size]; exact hks) hkl) t ht hr
theorem tset_first2 {md : Region.Mode} {p n : Nat} {L : Array Bool → Act → Prop} {w0 : World} (h0 : C w0) {i : Nat} {oi : Oper} (hi : ops[i]? = some oi) (hsel : ∀ (j : Nat) (o : Oper) cs b, ops[j]? = some o → o.op ≠ .select cs b)
    (hs : sinkP md ops p n = true) (hc : chainQ md ops n = true) (hn : n < ops.size) (hin : i < n) (hdone : ∀ listed a, L listed a → ∀ j ∈ Region.ready md ops listed, n ≤ j) :
    ∀ (fuel : Nat) (listed : Array Bool) (a : Act), HInv md ops n listed → (∀ j, j < p → listed.getD j false = true) →
      (∀ j oj, ops[j]? = some oj → j ≠ i → listed.getD j true = false → (∀ e ∈ oj.after, Region.binds md e = true → e.on ≠ i) → oi.apart ops oj = true) →
      i ∈ Region.ready md ops listed → Good P ops C VC oi a →
      (∀ v, Vals P ops C VC oi a v → TSet P md ops C VC n L fuel (listed.setIfInBounds i true) (a.put oi.dst v)) → TSet P md ops C VC n L (fuel + 1) listed a
  | 0, listed, a, inv, hp, _, hr, hg, H => by
    have hun := (mem_ready.1 hr).1
    refine ⟨fun e => (by rw [e] at hr; cases hr), fun j hj o ho => ?_⟩
    have hjn : j < n := by
      rcases Nat.lt_or_ge j n with h | h
      · exact h
      · exact absurd hj (late2 hs hc hn inv hp _ i rfl hin hun j h)
    by_cases hji : j = i
    · subst hji
      obtain rfl : oi = o := Option.some.inj (hi.symm.trans ho)
      exact ⟨hjn, hg, H⟩
    · exfalso
      obtain ⟨v, hv⟩ := some_val h0 hg
      have := hdone _ _ (H v hv) j (ready_mono hj hji)
      omega
  | fuel + 1, listed, a, inv, hp, hfree, hr, hg, H => by
    have huni := (mem_ready.1 hr).1
    refine ⟨fun e => (by rw [e] at hr; cases hr), fun j hj oj hoj => ?_⟩
    have hjn : j < n := by
      rcases Nat.lt_or_ge j n with h | h
      · exact h
      · exact absurd hj (late2 hs hc hn inv hp _ i rfl hin huni j h)
    by_cases hji : j = i
    · subst hji
      obtain rfl : oi = oj := Option.some.inj (hi.symm.trans hoj)
      exact ⟨hjn, hg, H⟩
    · have hun : listed.getD j true = false := (mem_ready.1 hj).1
      have hno : ∀ e ∈ oj.after, Region.binds md e = true → e.on ≠ i := by
        intro e he hb hon
        obtain ⟨_, o', ho', hall⟩ := mem_ready.1 hj
        obtain rfl : oj = o' := Option.some.inj (hoj.symm.trans ho')
        have h1 := hall e he hb
        rw [hon, getD_two huni] at h1; cases h1
      obtain ⟨x1, x2, x3⟩ := Oper.apart_spec (hfree j oj hoj hji hun hno)
      have si := fun cs b => hsel i oi cs b hi
      have sj := fun cs b => hsel j oj cs b hoj
      have gj : ∀ v, (Good P ops C VC oj (a.put oi.dst v) ↔ Good P ops C VC oj a) := fun v => good_put (execOp_put oj sj a oi.dst v x1) (wanted_put oj a oi.dst v x1)
      have vj : ∀ v u, (Vals P ops C VC oj (a.put oi.dst v) u ↔ Vals P ops C VC oj a u) := fun v u => vals_put (execOp_put oj sj a oi.dst v x1) (wanted_put oj a oi.dst v x1)
      have gi : ∀ u, (Good P ops C VC oi (a.put oj.dst u) ↔ Good P ops C VC oi a) := fun u => good_put (execOp_put oi si a oj.dst u x3) (wanted_put oi a oj.dst u x3)
      have vi : ∀ u v, (Vals P ops C VC oi (a.put oj.dst u) v ↔ Vals P ops C VC oi a v) := fun u v => vals_put (execOp_put oi si a oj.dst u x3) (wanted_put oi a oj.dst u x3)
      obtain ⟨v0, hv0⟩ := some_val h0 hg
      have hj' := ready_mono hj hji
      refine ⟨hjn, (gj v0).1 ((H v0 hv0).2 j hj' oj hoj).2.1, fun u hu => ?_⟩
      refine tset_first2 h0 hi hsel hs hc hn hin hdone fuel (listed.setIfInBounds j true) (a.put oj.dst u) (inv.set hj hjn) (fun q hq => getD_set_true (hp q hq)) ?_ (ready_mono hr (Ne.symm hji)) ((gi u).2 hg) fun v hv => ?_
      · intro k ok hk hki hun' hno'
        refine hfree k ok hk hki ?_ hno'
        by_cases hjk : j = k
        · subst hjk; exact hun
        · rw [getD_set_ne true hjk] at hun'; exact hun'
      · have := ((H v ((vi u v).1 hv)).2 j hj' oj hoj).2.2 u ((vj v u).2 hu)
        rw [Array.setIfInBounds_comm _ _ hji, ← Act.put_comm a v u x2]
        exact this
theorem tset_lex2 {md : Region.Mode} {p n g : Nat} {Lq : Act → Prop} {w0 : World} (h0 : C w0) (hsel : Region.noSelect ops = true) (hs : sinkP md ops p n = true) (hc : chainQ md ops n = true) (hn : n < ops.size) :
    ∀ (l : List Oper) (k : Nat) (listed : Array Bool) (a : Act), (∀ j, j < l.length → l[j]? = ops[k + j]?) → k + l.length = n → HInv md ops n listed → (∀ j, j < p → listed.getD j false = true) →
    lexHeadC md ops g l.length k listed = true → WSet P ops C VC Lq l a →
    TSet P md ops C VC n (fun listed' a' => afterC md ops g n listed' = true ∧ Lq a') l.length listed a
  | [], k, listed, a, _, hk, _, _, hB, h => by
    have : k = n := by simpa using hk
    subst this
    exact ⟨by simpa [lexHeadC] using hB, h⟩
  | o :: l, k, listed, a, hl, hk, inv, hp, hB, h => by
    have hk0 : ops[k]? = some o := by simpa using (hl 0 (by simp)).symm
    simp only [List.length_cons, lexHeadC, Bool.and_eq_true] at hB
    obtain ⟨⟨hr, hf⟩, hB'⟩ := hB
    have hkn : k < n := by simp only [List.length_cons] at hk; omega
    have hr' : k ∈ Region.ready md ops listed := by simpa using hr
    refine tset_first2 h0 hk0 (Region.noSelect_spec hsel) hs hc hn hkn (fun listed' a' hL => afterC_ready hL.1) l.length listed a inv hp (Region.free_spec hk0 hf) hr' h.1 fun v hv => ?_
    exact tset_lex2 h0 hsel hs hc hn l (k + 1) _ _ (fun j hj => by have := hl (j + 1) (by simp; omega); simpa [Nat.add_assoc, Nat.add_comm 1 j] using this) (by simp only [List.length_cons] at hk; omega) (inv.set hr' hkn) (fun q hq => getD_set_true (hp q hq)) hB' (h.2 v hv)

/-- what is asked of the call -/
@[go_sem] def EnterS (P : Program) (w : World) (K : FuncId → Array Value → Prop) : Result Next → Prop
  | .ok (.enter f args) w' => w' = w ∧ K f args
  | _ => False
def callB (ops : Array Oper) (n : Nat) : Bool :=
  Region.noSelect ops && decide (n < ops.size) && sinkP .any ops 0 n && chainQ .any ops n && lexHeadC .any ops (ops.size - n - 1) n 0 (Array.replicate ops.size false)
/-- **a region with a call, number 'n', that all before it serve and all behind it wait for** -/
theorem wp_region_call {id : Nat} {Q : Exit → Act → World → Prop} {a : Act} {w : World} {l : List Oper} (n : Nat) (VC : FuncId → Array Value → Value → Prop) (o : Oper) (ho : l[n]? = some o) (hgd : o.guard = none) (hm : P.follows .mixedOrders = true) (hB : callB l.toArray n = true)
    (h : WSet P l.toArray (Drawn w) VC (fun a' => ∀ w', Drawn w w' → EnterS P w' (fun f args => Calls P f args w' fun e w'' => ∃ v, e = .returned v ∧ WSet P l.toArray (Drawn w'') VC (fun a3 => ∀ w3, Drawn w'' w3 → Q .normal a3 w3) (l.drop (n + 1)) (a'.put o.dst v)) ((execOp a'.eval o).run P w')) (l.take n) a) :
    (Code.region id l.toArray true).wp P Q a w := by
  simp only [callB, Bool.and_eq_true, decide_eq_true_eq] at hB
  obtain ⟨⟨⟨⟨hsel, hn⟩, hs⟩, hc⟩, hlex⟩ := hB
  have hn' : n < l.length := by simpa using hn
  have htl : (l.take n).length = n := by simp; omega
  have hdl : (l.drop (n + 1)).length = l.toArray.size - n - 1 := by simp; omega
  have gf : ∀ i, (Array.replicate l.toArray.size false).getD i false = false := fun i => by
    simp only [Array.getD_eq_getD_getElem?, Array.getElem?_replicate]; split <;> rfl
  have inv0 : HInv .any l.toArray n (Array.replicate l.toArray.size false) :=
    ⟨by simp, fun j oj _ hl => (by rw [gf] at hl; cases hl), fun t _ ht => getD_in2 (by simpa using ht) (gf t)⟩
  have hd : Drawn w { w with drawn := w.drawn + 1 } := ⟨1, rfl⟩
  have H := tset_lex2 (VC := VC) (md := .any) (g := l.toArray.size - n - 1) hd hsel hs hc hn (l.take n) 0 _ a (fun j hj => by
    have hj' : j < n := by rw [htl] at hj; exact hj
    simp [hj']) (by simpa using htl) inv0 (fun j hj => by omega) (by rw [htl]; exact hlex) h
  refine wp_region_any hm ?_
  have := any_of_tset (Q' := Q) (g := (l.toArray.size - n - 1) + 1) (fun listed a' w' hw' hL => by
    obtain ⟨hL1, hL2⟩ := hL
    simp only [afterC, Bool.and_eq_true, decide_eq_true_eq] at hL1
    refine ⟨fun e => (by rw [hL1.1] at e; cases e), fun i hi => ?_⟩
    rw [hL1.1] at hi
    obtain rfl : i = n := by simpa using hi
    have ho' : l.toArray[i]? = some o := by simpa using ho
    have hE := hL2 w' hw'
    unfold wpOp
    simp only [ho']
    have hwant : Region.wanted o (yielded l.toArray a'.tmps) = true := by simp [Region.wanted, hgd]
    rw [if_pos hwant]
    left
    unfold Oper.wp
    unfold EnterS at hE
    split at hE
    · rename_i f args w1 he
      obtain ⟨rfl, hC⟩ := hE
      rw [he]
      refine hC.mono fun e w'' ⟨v, hev, hW⟩ => ?_
      subst hev
      have h1 := aset_lex (VC := VC) (md := .any) (C := Drawn w'') (w0 := w'') ⟨0, rfl⟩ hsel (l.drop (i + 1)) (i + 1) (listed.setIfInBounds i true) _ (fun j => by simp [List.getElem?_drop]) (by rw [hdl]; exact hL1.2) hW
      have h2 := any_of_aset (Q' := Q) (fun a3 w3 hw3 hq => hq w3 hw3) _ _ _ w'' ⟨0, rfl⟩ h1
      rwa [hdl] at h2
    · cases hE) _ _ _ _ hd H
  rw [htl, show n + ((l.toArray.size - n - 1) + 1) = l.toArray.size by omega] at this
  exact this
end
end Go.Proofs.Ytpemhiaeiecinaa
/- Whether two tensors are alike: the program. No condition. -/
namespace Go.Proofs.Ytpemhiaeiecinaa
open Go Go.RowKit
set_option linter.unusedVariables false
set_option linter.unusedSimpArgs false
/-- two tensors are valid and have as many rows and columns -/
def alikeB (r c : Int) (n : Nat) (r2 c2 : Int) (m : Nat) : Bool := tenB r c n && (tenB r2 c2 m && (decide (r = r2) && decide (c = c2)))
set_option maxHeartbeats 2000000 in
theorem impl_areAlike (w : World) (r c : Int) (a : Option Addr) (n ca : Nat) (r2 c2 : Int) (b : Option Addr) (m cb : Nat) (hn : n ≤ maxLen) (hm : m ≤ maxLen) :
    Calls Try.prog 112 #[.agg #[.int .i64 r, .int .i64 c, .slice a n ca], .agg #[.int .i64 r2, .int .i64 c2, .slice b m cb]] w fun e w' => e = .returned (.bool (alikeB r c n r2 c2 m)) ∧ Below w.heap.size w w' := by
  have K1 := Lib.hid (fun W => impl_ValidTensor r c a n ca hn W)
  have K2 := Lib.hid (fun W => impl_ValidTensor r2 c2 b m cb hm W)
  have K3 := Lib.hid (fun W => impl_sameShape r c r2 c2 (.slice a n ca) (.slice b m cb) W rfl rfl)
  have hE : alikeB r c n r2 c2 m = (tenB r c n && (tenB r2 c2 m && (decide (r = r2) && decide (c = c2)))) := rfl
  obtain ⟨E, hE0⟩ : ∃ E, E = alikeB r c n r2 c2 m := ⟨_, rfl⟩
  rw [← hE0] at hE ⊢
  have B1 := Lib.hid ((BoxN.alloc w #[.int .i64 r, .int .i64 c, .slice a n ca] 27).below (below1 _ (.cells #[.int .i64 r2, .int .i64 c2, .slice b m cb] 27)))
  have B2 := Lib.hid (BoxN.alloc2 w (.cells #[.int .i64 r, .int .i64 c, .slice a n ca] 27) #[.int .i64 r2, .int .i64 c2, .slice b m cb] 27)
  have B := Lib.hid (below2 w (.cells #[.int .i64 r, .int .i64 c, .slice a n ca] 27) (.cells #[.int .i64 r2, .int .i64 c2, .slice b m cb] 27))
  have HE := Lib.hid hE
  clear hE hE0 hn hm
  cases e1 : tenB r c n
  · rw [e1] at K1
    have E1 := Lib.hid e1; clear e1
    go_enter Try.func112, Try.ntmps112
    go_wp2_with fail
    refine (K1.out _).mono ?_
    rintro e w1 ⟨rfl, hb⟩
    have B := Lib.hid (bthen B.out hb); clear hb
    go_wp2
    go_ret
    exact ⟨by rw [HE.out, E1.out]; rfl, B.out⟩
  rw [e1] at K1
  have E1 := Lib.hid e1; clear e1
  cases e2 : tenB r2 c2 m
  · rw [e2] at K2
    have E2 := Lib.hid e2; clear e2
    go_enter Try.func112, Try.ntmps112
    go_wp2_with fail
    refine (K1.out _).mono ?_
    rintro e w1 ⟨rfl, hb⟩
    have B := Lib.hid (bthen B.out hb); have B1 := Lib.hid (B1.out.below hb); have B2 := Lib.hid (B2.out.below hb); clear hb
    obtain ⟨-, p0, p1, p2, -⟩ := B1.out.three; obtain ⟨-, q0, q1, q2, -⟩ := B2.out.three
    go_wp2_with fail
    refine (K2.out _).mono ?_
    rintro e w2 ⟨rfl, hb⟩
    have B := Lib.hid (bthen B.out hb); clear hb p0 p1 p2 q0 q1 q2
    go_wp2
    go_ret
    exact ⟨by rw [HE.out, E1.out, E2.out]; rfl, B.out⟩
  rw [e2] at K2
  have E2 := Lib.hid e2; clear e2
  obtain ⟨D, hD⟩ : ∃ D, D = (decide (r = r2) && decide (c = c2)) := ⟨_, rfl⟩
  rw [← hD] at K3
  have HD := Lib.hid hD; clear hD
  go_enter Try.func112, Try.ntmps112
  go_wp2_with fail
  refine (K1.out _).mono ?_
  rintro e w1 ⟨rfl, hb⟩
  have B := Lib.hid (bthen B.out hb); have B1 := Lib.hid (B1.out.below hb); have B2 := Lib.hid (B2.out.below hb); clear hb
  obtain ⟨-, p0, p1, p2, -⟩ := B1.out.three; obtain ⟨-, q0, q1, q2, -⟩ := B2.out.three
  go_wp2_with fail
  refine (K2.out _).mono ?_
  rintro e w2 ⟨rfl, hb⟩
  have B := Lib.hid (bthen B.out hb); have B1 := Lib.hid (B1.out.below hb); have B2 := Lib.hid (B2.out.below hb); clear hb p0 p1 p2 q0 q1 q2
  obtain ⟨-, p0, p1, p2, -⟩ := B1.out.three; obtain ⟨-, q0, q1, q2, -⟩ := B2.out.three
  go_wp2_with fail
  refine (K3.out _).mono ?_
  rintro e w3 ⟨rfl, hb⟩
  have B := Lib.hid (bthen B.out hb); clear hb p0 p1 p2 q0 q1 q2
  go_wp2
  go_ret
  exact ⟨by rw [HE.out, E1.out, E2.out, ← HD.out]; rfl, B.out⟩
end Go.Proofs.Ytpemhiaeiecinaa
/- Whether an operation is an input; whether two tensors are alike; an input is replaced: the program. No condition. -/
namespace Go.Proofs.Ytpemhiaeiecinaa
open Go Go.RowKit
set_option linter.unusedVariables false
set_option linter.unusedSimpArgs false
/-- an operation of a valid tape is an input -/
def inpB (os : List OpP) (op : Int) : Bool := (shapesP os).isSome && (inB op 0 (os.length - 1) && (opAtP os op.toNat).k == 0)
theorem inpB_at {os : List OpP} {op : Int} (h : inpB os op = true) : ∃ S k o, shapesP os = some S ∧ op = (k : Nat) ∧ os[k]? = some o ∧ o.k = 0 ∧ tenB o.r o.c o.xs.length = true := by
  unfold inpB at h
  rw [Bool.and_eq_true, Bool.and_eq_true, inB_iff] at h
  obtain ⟨h1, ⟨h2, h3⟩, h4⟩ := h
  obtain ⟨S, hS⟩ := Option.isSome_iff_exists.1 h1
  obtain ⟨k, rfl⟩ : ∃ k : Nat, op = k := ⟨op.toNat, by omega⟩
  have hk : k < os.length := by omega
  have ho := List.getElem?_eq_getElem hk
  rw [show ((k : Nat) : Int).toNat = k by simp, opAtP_some ho] at h4
  have h5 : os[k].k = 0 := by simpa using h4
  exact ⟨S, k, os[k], hS, rfl, ho, h5, (fitsB_input (valid_fit hS ho) h5).2.2⟩
set_option maxHeartbeats 2000000 in
theorem impl_isInput (w : World) (ad : Option Addr) (cap : Nat) (os : List OpD) (h : SeeR opR w ad cap os) (op : Int) :
    Calls Try.prog 149 #[.slice ad os.length cap, .int .i64 op] w fun e w' => e = .returned (.bool (inpB (os.map OpD.toOpP) op)) ∧ Below w.heap.size w w' := by
  have K := Lib.hid (impl_ValidTape w ad cap os h)
  have hmx := Nat.le_trans h.le h.cap
  unfold maxLen at hmx
  have hE : inpB (os.map OpD.toOpP) op = ((shapesP (os.map OpD.toOpP)).isSome && (inB op 0 ((os.length : Int) - 1) && (opAtP (os.map OpD.toOpP) op.toNat).k == 0)) := by unfold inpB; rw [List.length_map]
  obtain ⟨n, hN⟩ : ∃ n, n = os.length := ⟨_, rfl⟩
  rw [← hN] at K hmx hE ⊢
  have KW := Lib.hid (fun W => within_any op 0 ((n : Int) - 1) W)
  have HE := Lib.hid hE; have HN := Lib.hid hN; have H := Lib.hid h
  clear hE hN h
  cases e1 : (shapesP (os.map OpD.toOpP)).isSome
  · rw [e1] at K
    have E1 := Lib.hid e1; clear e1
    go_enter Try.func149, Try.ntmps149
    go_wp2_with fail
    refine K.out.mono ?_
    rintro e w1 ⟨rfl, hb⟩
    go_wp2
    go_ret
    exact ⟨by rw [HE.out, E1.out]; rfl, hb⟩
  rw [e1] at K
  have E1 := Lib.hid e1; clear e1
  cases e2 : inB op 0 ((n : Int) - 1)
  · rw [e2] at KW
    have E2 := Lib.hid e2; clear e2
    go_enter Try.func149, Try.ntmps149
    go_wp2_with fail
    refine K.out.mono ?_
    rintro e w1 ⟨rfl, hb⟩
    go_wp2_with fail
    refine (KW.out _).mono ?_
    rintro e w2 ⟨rfl, rfl⟩
    go_wp2
    go_ret
    exact ⟨by rw [HE.out, E1.out, E2.out]; rfl, hb⟩
  rw [e2] at KW
  have ⟨h1, h2⟩ := inB_iff.1 e2
  have E2 := Lib.hid e2; clear e2
  obtain ⟨k, rfl⟩ : ∃ k : Nat, op = k := ⟨op.toNat, by omega⟩
  have hk : k < n := by omega
  obtain ⟨o, ho⟩ := getElem?_lt (show k < os.length by rw [← HN.out]; exact hk)
  have hk2 : (opAtP (os.map OpD.toOpP) ((k : Nat) : Int).toNat).k = o.k := by
    rw [show ((k : Nat) : Int).toNat = k by simp, opAtP_some (o := o.toOpP) (by rw [List.getElem?_map, ho]; rfl)]
  have HK2 := Lib.hid hk2
  have HF := Lib.hid (fun W hb => (op_spot (H.out.below (w' := W) hb) ho))
  obtain ⟨b, off, rfl, -, -⟩ := op_spot H.out ho
  have HP : Hid (∀ W, Below w.heap.size w W → W.cell? ⟨b, off + k * 7, none⟩ = some (.int .i64 o.k)) := Lib.hid (fun W hb => by
    obtain ⟨b', off', e, -, ⟨p0, -⟩, -⟩ := HF.out W hb
    cases e
    exact p0)
  clear HF hk2 ho h1 h2
  go_enter Try.func149, Try.ntmps149
  go_wp2_with fail
  refine K.out.mono ?_
  rintro e w1 ⟨rfl, hb⟩
  go_wp2_with fail
  refine (KW.out _).mono ?_
  rintro e w2 ⟨rfl, rfl⟩
  have p0 := HP.out _ hb
  have HB := Lib.hid hb; clear hb
  go_wp2
  go_ret
  exact ⟨by rw [HE.out, E1.out, E2.out, HK2.out]; rfl, HB.out⟩
end Go.Proofs.Ytpemhiaeiecinaa
/- An input is replaced: the program. No condition. -/
namespace Go.Proofs.Ytpemhiaeiecinaa
open Go Go.RowKit
set_option linter.unusedVariables false
set_option linter.unusedSimpArgs false
/-- the tape in which an input has other numbers; none if there is no such input, or the numbers do not fit -/
def replP (os : List OpP) (op : Int) (r c : Int) (xs : List Nat) : Option (List OpP) :=
  if inpB os op = true ∧ alikeB (opAtP os op.toNat).r (opAtP os op.toNat).c (opAtP os op.toNat).xs.length r c xs.length = true then some (os.set op.toNat { opAtP os op.toNat with xs := xs }) else none
theorem replP_no1 {os : List OpP} {op r c : Int} {xs : List Nat} (h : inpB os op = false) : replP os op r c xs = none := by
  unfold replP; rw [if_neg (fun e => by rw [h] at e; exact absurd e.1 (by decide))]
theorem replP_no2 {os : List OpP} {k : Nat} {r c : Int} {xs : List Nat} {o : OpP} (ho : os[k]? = some o) (h : alikeB o.r o.c o.xs.length r c xs.length = false) : replP os (k : Nat) r c xs = none := by
  unfold replP
  rw [show ((k : Nat) : Int).toNat = k by simp, opAtP_some ho, if_neg (fun e => by rw [h] at e; exact absurd e.2 (by decide))]
theorem replP_yes {os : List OpP} {k : Nat} {r c : Int} {xs : List Nat} {o : OpP} (ho : os[k]? = some o) (h1 : inpB os (k : Nat) = true) (h : alikeB o.r o.c o.xs.length r c xs.length = true) : replP os (k : Nat) r c xs = some (os.set k { o with xs := xs }) := by
  unfold replP
  rw [show ((k : Nat) : Int).toNat = k by simp, opAtP_some ho, if_pos ⟨h1, h⟩]
theorem alikeB_in {r c : Int} {n : Nat} {r2 c2 : Int} {m : Nat} (h : alikeB r c n r2 c2 m = true) : r2 = r ∧ c2 = c ∧ m = n ∧ tenB r c n = true := by
  unfold alikeB at h
  rw [Bool.and_eq_true, Bool.and_eq_true, Bool.and_eq_true, decide_eq_true_eq, decide_eq_true_eq] at h
  obtain ⟨h1, h2, rfl, rfl⟩ := h
  have e1 := (tenB_iff.1 h1).2.2
  have e2 := (tenB_iff.1 h2).2.2
  exact ⟨rfl, rfl, by omega, h1⟩
/-- a tape that is given back, or nothing -/
def OOOut (res : Option (List OpP)) (w w' : World) (ad : Option Addr) (n cap : Nat) (b : Bool) (us : List OpD) : Prop := (b = res.isSome ∧ us.map OpD.toOpP = res.getD []) ∧ OwnR opR w' w.heap.size w'.heap.size ad n cap us
theorem OOOut.no {res : Option (List OpP)} (h : res = none) (w w' : World) : OOOut res w w' none 0 0 false [] := ⟨⟨by rw [h]; rfl, by rw [h]; rfl⟩, OwnR.nil _ _ _ _⟩
def OOPost (res : Option (List OpP)) (w : World) (e : Ending) (w' : World) : Prop := ∃ ad' n' cap' b us, e = .returned (.tuple #[.slice ad' n' cap', .bool b]) ∧ Hid (OOOut res w w' ad' n' cap' b us) ∧ Below w.heap.size w w'
set_option maxHeartbeats 8000000 in
set_option maxRecDepth 100000 in
theorem impl_ReplaceInput (w : World) (ad : Option Addr) (cap : Nat) (os : List OpD) (h : SeeR opR w ad cap os) (hc : ad = none → cap = 0) (hno : nilOK os) (op : Int) (r c : Int) (av : Option Addr) (cv : Nat) (xs : List Nat) (hv : F32s w av cv xs) (hvc : av = none → cv = 0) (hi2 : ∀ o ∈ os, o.xs.length ≤ 1048576) :
    Calls Try.prog 87 #[.slice ad os.length cap, .int .i64 op, .agg #[.int .i64 r, .int .i64 c, .slice av xs.length cv]] w (OOPost (replP (os.map OpD.toOpP) op r c xs) w) := by
  have b1 := below1 w (.cells #[.int .i64 r, .int .i64 c, .slice av xs.length cv] 27)
  have K1 := Lib.hid (fun W (hb : Below w.heap.size w W) => impl_isInput W ad cap os (h.below hb) op)
  have XB := Lib.hid (BoxN.alloc w #[.int .i64 r, .int .i64 c, .slice av xs.length cv] 27)
  have hxm := Nat.le_trans hv.len hv.cap
  obtain ⟨m, hM⟩ : ∃ m, m = xs.length := ⟨_, rfl⟩
  obtain ⟨n, hN⟩ : ∃ n, n = os.length := ⟨_, rfl⟩
  rw [← hM] at XB hxm b1 ⊢
  rw [← hN] at K1 ⊢
  have HM := Lib.hid hM; have HN := Lib.hid hN; have H := Lib.hid h; have HV := Lib.hid hv; have HNO := Lib.hid hno; have HI2 := Lib.hid hi2; have HC := Lib.hid hc; have HVC := Lib.hid hvc
  have B1 := Lib.hid b1
  clear hM hN h hv hno hi2 hc hvc b1
  cases e1 : inpB (os.map OpD.toOpP) op
  · rw [e1] at K1
    have E1 := Lib.hid (fun W => OOOut.no (replP_no1 (r := r) (c := c) (xs := xs) e1) w W)
    clear e1
    go_enter Try.func87, Try.ntmps87
    go_wp2_with fail
    refine wp_region_low (VC1 (.bool false)) (by kernel_rfl) (by kernel_rfl) ?_
    repeat (refine cset_step (low_self _) (fun K hK W hW => ?_); first | (go_simp; refine hK _ ?_; clear hK K) | (go_simp; refine ⟨(K1.out _ (B1.out.trans (Below.mono hW (by simp)))).mono ?_, ?_⟩; (rintro e w1 ⟨rfl, hb⟩; exact ⟨_, rfl, bthen hW hb, rfl⟩); (rintro v hv; obtain rfl := hv; refine hK _ ?_; clear hK K)))
    refine cset_nil ?_
    intro w1 hw1
    have HB := Lib.hid (B1.out.trans (Below.mono hw1 (by simp))); clear hw1
    all_goals
      go_wp2
      go_ret2
      exact ⟨_, _, _, _, [], rfl, Lib.hid (E1.out _), HB.out⟩
  rw [e1] at K1
  obtain ⟨S, k, p, hS, rfl, hp, hk0, hten⟩ := inpB_at e1
  obtain ⟨o, ho, rfl⟩ : ∃ o, os[k]? = some o ∧ o.toOpP = p := by
    rw [List.getElem?_map] at hp
    obtain ⟨o, ho, e⟩ := Option.map_eq_some_iff.1 hp
    exact ⟨o, ho, e⟩
  have hkn : k < n := by rw [HN.out]; exact (List.getElem?_eq_some_iff.1 ho).1
  have hnm := Nat.le_trans H.out.le H.out.cap
  rw [← HN.out] at hnm
  unfold maxLen at hnm
  obtain ⟨b, off, hbe, hbl, ⟨-, -, -, -, p4, p5, p6⟩, hf, hok⟩ := op_spot H.out ho
  have K2 := Lib.hid (fun W => impl_areAlike W o.r o.c o.ad o.xs.length o.cap r c av m cv (Nat.le_trans hf.len hf.cap) hxm)
  have CM : Hid (∀ W, Below w.heap.size w W → W.cell? ⟨b, off + k * 7 + 4, none⟩ = some (.int .i64 o.r) ∧ W.cell? ⟨b, off + k * 7 + 4 + 1, none⟩ = some (.int .i64 o.c) ∧ W.cell? ⟨b, off + k * 7 + 4 + 2, none⟩ = some (.slice o.ad o.xs.length o.cap)) := Lib.hid (fun W hb => ⟨(hb.cell (p := ⟨b, off + k * 7 + 4, none⟩) hbl).trans p4, (hb.cell (p := ⟨b, off + k * 7 + 4 + 1, none⟩) hbl).trans p5, (hb.cell (p := ⟨b, off + k * 7 + 4 + 2, none⟩) hbl).trans p6⟩)
  have PO := Lib.hid ho; have PP := Lib.hid hp; have HK := Lib.hid hok; have HBE := Lib.hid hbe
  clear p4 p5 p6 hf hok hp ho hk0 hten hS
  cases e2 : alikeB o.r o.c o.xs.length r c m
  · rw [e2] at K2
    have E1 := Lib.hid (fun W => OOOut.no (replP_no2 (r := r) (c := c) (xs := xs) PP.out (by rw [← HM.out]; exact e2)) w W)
    have hbc := hbe
    obtain ⟨x, hx⟩ : ∃ x, x = o.xs.length := ⟨_, rfl⟩
    rw [← hx] at K2 CM
    clear e1 e2 HBE hx
    subst hbc
    go_enter Try.func87, Try.ntmps87
    go_wp2_with fail
    refine wp_region_low (VC2 149 (.bool true) 112 (.bool false)) (by kernel_rfl) (by kernel_rfl) ?_
    repeat (refine cset_step (low_self _) (fun K hK W hW => ?_); obtain ⟨d4, d5, d6⟩ := CM.out W (B1.out.trans (Below.mono hW (by simp))); obtain ⟨yl, y0, y1, y2, yf⟩ := (XB.out.below hW).three; first | (go_simp; refine hK _ ?_; clear hK K d4 d5 d6 yl y0 y1 y2 yf) | (go_simp; refine ⟨(K1.out _ (B1.out.trans (Below.mono hW (by simp)))).mono ?_, ?_⟩; (rintro e w1 ⟨rfl, hb⟩; exact ⟨_, rfl, bthen hW hb, VC2.one (by decide)⟩); (rintro v hv; obtain rfl := hv.1 rfl; refine hK _ ?_; clear hK K d4 d5 d6 yl y0 y1 y2 yf)) | (go_simp; refine ⟨(K2.out _).mono ?_, ?_⟩; (rintro e w1 ⟨rfl, hb⟩; exact ⟨_, rfl, bthen hW hb, VC2.two (by decide)⟩); (rintro v hv; obtain rfl := hv.2 rfl; refine hK _ ?_; clear hK K d4 d5 d6 yl y0 y1 y2 yf)))
    refine cset_nil ?_
    intro w1 hw1
    have HB2 := Lib.hid (B1.out.trans (Below.mono hw1 (by simp))); clear hw1
    all_goals
      go_wp2
      go_ret2
      exact ⟨_, _, _, _, [], rfl, Lib.hid (E1.out _), HB2.out⟩
  rw [e2] at K2
  obtain ⟨rfl, rfl, hmm, hten⟩ := alikeB_in e2
  have HY := Lib.hid (replP_yes (r := o.r) (c := o.c) (xs := xs) PP.out e1 (by rw [← HM.out]; exact e2))
  have hm6 : m ≤ 1048576 := by rw [hmm]; exact HI2.out o (List.mem_of_getElem? PO.out)
  have hn6 : n ≤ 1048576 := by
    obtain ⟨S, _, _, hS, _⟩ := inpB_at e1
    have := (shapesP_some hS).1.2
    rw [List.length_map, ← HN.out] at this
    omega
  have KC := Lib.hid (fun W (hb : Below w.heap.size w W) => impl_copyTape W ad cap os (H.out.below hb) HC.out HNO.out (by rw [← HN.out]; exact hn6) HI2.out)
  have KT := Lib.hid (fun W (hb : Below w.heap.size w W) => impl_copyTensor W o.r o.c av cv xs (HV.out.below hb) HVC.out (by rw [← HM.out]; exact hm6))
  rw [← HN.out] at KC
  rw [← HM.out] at KT
  have hbc := hbe
  obtain ⟨x, hx⟩ : ∃ x, x = o.xs.length := ⟨_, rfl⟩
  rw [← hx] at K2 CM
  have HX : Hid (x = m) := Lib.hid (by rw [hx, hmm])
  clear e1 e2 HBE hx hmm hten
  subst hbc
  obtain ⟨xl, x0, x1, x2, xf⟩ := XB.out.three
  go_enter Try.func87, Try.ntmps87
  go_wp2_with fail
  refine wp_region_low (VC2 149 (.bool true) 112 (.bool true)) (by kernel_rfl) (by kernel_rfl) ?_
  repeat (refine cset_step (low_self _) (fun K hK W hW => ?_); obtain ⟨d4, d5, d6⟩ := CM.out W (B1.out.trans (Below.mono hW (by simp))); obtain ⟨yl, y0, y1, y2, yf⟩ := (XB.out.below hW).three; first | (go_simp; refine hK _ ?_; clear hK K d4 d5 d6 yl y0 y1 y2 yf) | (go_simp; refine ⟨(K1.out _ (B1.out.trans (Below.mono hW (by simp)))).mono ?_, ?_⟩; (rintro e w1 ⟨rfl, hb⟩; exact ⟨_, rfl, bthen hW hb, VC2.one (by decide)⟩); (rintro v hv; obtain rfl := hv.1 rfl; refine hK _ ?_; clear hK K d4 d5 d6 yl y0 y1 y2 yf)) | (go_simp; refine ⟨(K2.out _).mono ?_, ?_⟩; (rintro e w1 ⟨rfl, hb⟩; exact ⟨_, rfl, bthen hW hb, VC2.two (by decide)⟩); (rintro v hv; obtain rfl := hv.2 rfl; refine hK _ ?_; clear hK K d4 d5 d6 yl y0 y1 y2 yf)))
  refine cset_nil ?_
  intro w1 hw1
  have XB1 := Lib.hid (XB.out.below hw1)
  have HB1 := Lib.hid (B1.out.trans (Below.mono hw1 (by simp))); clear hw1 x0 x1 x2 xf xl XB
  go_wp2_with fail
  refine (KC.out _ HB1.out).mono ?_
  rintro e w2 ⟨ad2, cap2, us, rfl, HU, hb2⟩
  have XB2 := Lib.hid (XB1.out.below hb2)
  have HB2 := Lib.hid (bthen HB1.out hb2); clear XB1
  obtain ⟨xl, x0, x1, x2, xf⟩ := XB2.out.three
  go_wp2_with fail
  refine (KT.out _ HB2.out).mono ?_
  rintro e w3 ⟨ad3, cap3, rfl, HR, hb3⟩
  have hB1s := HB1.out.size
  have hU := HU.out.1.bounds (lo' := w.heap.size) (hi' := w2.heap.size) hB1s (Nat.le_refl _)
  obtain ⟨u, hu⟩ := getElem?_lt (show k < us.length by rw [hU.len]; exact hkn)
  have hup : u.toOpP = o.toOpP := by
    have := congrArg (fun l => l[k]?) HU.out.2
    simp only [List.getElem?_map, hu, PO.out, Option.map_some, Option.some.injEq] at this
    exact this
  obtain ⟨g, rfl, hgr, ⟨-, -, -, -, q4, q5, q6⟩, hfz, -⟩ := op_own (hU.below hb3) hu
  have hs3 := hb3.size
  have hbs := HB2.out.size
  have hr3 := HR.out
  have hml : m = xs.length := HM.out
  rw [hml] at hr3
  have htl := RecT.tail opR hu (a := ⟨⟨o.k, o.a, o.b, o.num, o.r, o.c, xs⟩, ad3, cap3⟩) [.int .i64 o.k, .int .i64 o.a, .int .i64 o.b, .float .f32 o.num] [.int .i64 o.r, .int .i64 o.c, .slice ad3 xs.length cap3] rfl (fun j hj => by
    obtain ⟨⟨uk, ua, ub, un, ur, uc, ux⟩, uad, ucap⟩ := u
    obtain ⟨⟨ok, oa, ob, on, or, oc, ox⟩, oad, ocap⟩ := o
    simp only [OpP.mk.injEq] at hup
    obtain ⟨rfl, rfl, rfl, rfl, rfl, rfl, rfl⟩ := hup
    rcases (by simp at hj; omega : j = 0 ∨ j = 1 ∨ j = 2 ∨ j = 3) with rfl | rfl | rfl | rfl <;> rfl)
  have hnew := OwnR.setNew (w2 := setCs w3 g (k * 7 + 4) [.int .i64 o.r, .int .i64 o.c, .slice ad3 xs.length cap3]) hU hbs hb3 hkn (a := ⟨⟨o.k, o.a, o.b, o.num, o.r, o.c, xs⟩, ad3, cap3⟩) ⟨HV.out.lt, HK.out.2⟩ (hr3.ownRow) hs3 (fun M hM => by
    rw [htl]
    exact setCs_own hM (k * 7 + 4) _)
  have hbb := setCs_below (HB2.out.trans (hb3.mono hbs)) hgr.1 (k * 7 + 4) [.int .i64 o.r, .int .i64 o.c, .slice ad3 xs.length cap3]
  have hmp : (us.set k ⟨⟨o.k, o.a, o.b, o.num, o.r, o.c, xs⟩, ad3, cap3⟩).map OpD.toOpP = ((os.map OpD.toOpP).set k { o.toOpP with xs := xs }) := by
    rw [List.map_set, HU.out.2]
  rw [← hml] at hnew hbb
  have HW := Lib.hid hnew; have HBB := Lib.hid hbb; have HMP := Lib.hid hmp
  clear hnew hbb htl hr3 hb3 hb2 HU hU hu hup hmp hml hgr hbs hB1s K1 K2 KC KT HB1 HB2 HR x0 x1 x2 xf XB2 CM
  go_wp2
  go_ret2
  exact ⟨_, _, _, _, _, rfl, Lib.hid ⟨⟨by rw [HY.out]; rfl, by rw [HY.out]; exact HMP.out⟩, HW.out.bounds (Nat.le_refl _) (by simp [World.setCell])⟩, HBB.out⟩
end Go.Proofs.Ytpemhiaeiecinaa
/- An input is replaced: the reference. No condition. -/
namespace Go.Proofs.Ytpemhiaeiecinaa
open Go Go.RowKit
set_option linter.unusedVariables false
set_option linter.unusedSimpArgs false
set_option maxHeartbeats 2000000 in
theorem spec_l04Input (w : World) (ad : Option Addr) (cap : Nat) (os : List OpD) (h : SeeR opR w ad cap os) (op : Int) :
    Calls Try.prog 144 #[.slice ad os.length cap, .int .i64 op] w fun e w' => e = .returned (.bool (inpB (os.map OpD.toOpP) op)) ∧ Below w.heap.size w w' := by
  have K := Lib.hid (spec_l04Is w ad cap os h)
  have hmx := Nat.le_trans h.le h.cap
  unfold maxLen at hmx
  have hE : inpB (os.map OpD.toOpP) op = ((shapesP (os.map OpD.toOpP)).isSome && (inB op 0 ((os.length : Int) - 1) && (opAtP (os.map OpD.toOpP) op.toNat).k == 0)) := by unfold inpB; rw [List.length_map]
  obtain ⟨n, hN⟩ : ∃ n, n = os.length := ⟨_, rfl⟩
  rw [← hN] at K hmx hE ⊢
  have KW := Lib.hid (fun W => l00In_any op 0 ((n : Int) - 1) W)
  have HE := Lib.hid hE; have HN := Lib.hid hN; have H := Lib.hid h
  clear hE hN h
  cases e1 : (shapesP (os.map OpD.toOpP)).isSome
  · rw [e1] at K
    have E1 := Lib.hid e1; clear e1
    go_enter Try.func144, Try.ntmps144
    go_wp2_with fail
    refine K.out.mono ?_
    rintro e w1 ⟨rfl, hb⟩
    go_wp2
    go_ret
    exact ⟨by rw [HE.out, E1.out]; rfl, hb⟩
  rw [e1] at K
  have E1 := Lib.hid e1; clear e1
  cases e2 : inB op 0 ((n : Int) - 1)
  · rw [e2] at KW
    have E2 := Lib.hid e2; clear e2
    go_enter Try.func144, Try.ntmps144
    go_wp2_with fail
    refine K.out.mono ?_
    rintro e w1 ⟨rfl, hb⟩
    go_wp2_with fail
    refine (KW.out _).mono ?_
    rintro e w2 ⟨rfl, rfl⟩
    go_wp2
    go_ret
    exact ⟨by rw [HE.out, E1.out, E2.out]; rfl, hb⟩
  rw [e2] at KW
  have ⟨h1, h2⟩ := inB_iff.1 e2
  have E2 := Lib.hid e2; clear e2
  obtain ⟨k, rfl⟩ : ∃ k : Nat, op = k := ⟨op.toNat, by omega⟩
  have hk : k < n := by omega
  obtain ⟨o, ho⟩ := getElem?_lt (show k < os.length by rw [← HN.out]; exact hk)
  have hk2 : (opAtP (os.map OpD.toOpP) ((k : Nat) : Int).toNat).k = o.k := by
    rw [show ((k : Nat) : Int).toNat = k by simp, opAtP_some (o := o.toOpP) (by rw [List.getElem?_map, ho]; rfl)]
  have HK2 := Lib.hid hk2
  have HF := Lib.hid (fun W hb => (op_spot (H.out.below (w' := W) hb) ho))
  obtain ⟨b, off, rfl, -, -⟩ := op_spot H.out ho
  have HP : Hid (∀ W, Below w.heap.size w W → W.cell? ⟨b, off + k * 7, none⟩ = some (.int .i64 o.k)) := Lib.hid (fun W hb => by
    obtain ⟨b', off', e, -, ⟨p0, -⟩, -⟩ := HF.out W hb
    cases e
    exact p0)
  clear HF hk2 ho h1 h2
  go_enter Try.func144, Try.ntmps144
  go_wp2_with fail
  refine K.out.mono ?_
  rintro e w1 ⟨rfl, hb⟩
  go_wp2_with fail
  refine (KW.out _).mono ?_
  rintro e w2 ⟨rfl, rfl⟩
  have p0 := HP.out _ hb
  have HB := Lib.hid hb; clear hb
  go_wp2
  go_ret
  exact ⟨by rw [HE.out, E1.out, E2.out, HK2.out]; rfl, HB.out⟩
end Go.Proofs.Ytpemhiaeiecinaa
/- Tapes as results, for the walks of laws. No condition. -/
namespace Go.Proofs.Ytpemhiaeiecinaa
open Go Go.RowKit
set_option linter.unusedVariables false
set_option linter.unusedSimpArgs false
/-- bounds of a tape that is a result -/
def bndO (n : Nat) (us : List OpD) : Prop := n ≤ 1048576 ∧ totO us ≤ 9000000 ∧ ∀ u ∈ us, u.xs.length ≤ 1048576
theorem OO_eq2 (w : World) {lo1 hi1 lo2 hi2 : Nat} {a1 a2 : Option Addr} {n1 n2 c1 c2 : Nat} {us vs : List OpD} (h1 : OwnR opR w lo1 hi1 a1 n1 c1 us) (h2 : OwnR opR w lo2 hi2 a2 n2 c2 vs) (he : us.map OpD.toOpP = vs.map OpD.toOpP) (hm : n1 ≤ 1048576 ∧ totO us ≤ 9000000 ∧ ∀ u ∈ us, u.xs.length ≤ 1048576) :
    Calls Try.prog 55 #[.slice a1 n1 c1, .slice a2 n2 c2] w fun e w' => e = .returned (.bool true) ∧ Below w.heap.size w w' := by
  have e1 := h1.len; have e2 := h2.len
  subst e1 e2
  exact OS_eq w h1.see h2.see (can_of he) hm.1 hm.2.2
theorem OO_mark2 (w : World) {lo hi : Nat} {ad : Option Addr} {n cap : Nat} {us : List OpD} (k0 : Nat) (h : OwnR opR w lo hi ad n cap us) (hhi : hi ≤ w.heap.size) (hm : n ≤ 1048576 ∧ totO us ≤ 9000000 ∧ ∀ u ∈ us, u.xs.length ≤ 1048576) (hk : k0 + totO us ≤ 10000000) :
    Calls Try.prog 67 #[.slice ad n cap, .int .i64 k0] w fun e w' => e = .returned (.int .i64 (k0 + totO us : Nat)) ∧ Hid (OwnR opR w' lo hi ad n cap (markOs k0 us)) ∧ Touch lo hi w w' :=
  OS_mark w k0 h hhi hm.1 hk hm.2.2
theorem OO_held2 (w : World) {lo hi : Nat} {ad : Option Addr} {n cap : Nat} {us : List OpD} (k0 : Nat) (h : OwnR opR w lo hi ad n cap (markOs k0 us)) (hm : n ≤ 1048576 ∧ totO us ≤ 9000000 ∧ ∀ u ∈ us, u.xs.length ≤ 1048576) (hk : k0 + totO us ≤ 10000000) :
    Calls Try.prog 69 #[.slice ad n cap, .int .i64 k0] w fun e w' => e = .returned (.int .i64 (k0 + totO us : Nat)) ∧ w = w' :=
  OS_held w k0 h.see (by rw [← markOs_length k0 us]; exact h.len) hm.1 hk hm.2.2
theorem impl_ReplaceInputW (w : World) (ad : Option Addr) (cap : Nat) (os : List OpD) {lo hi n : Nat} (h : OwnR opR w lo hi ad n cap os) (hi2 : ∀ o ∈ os, o.xs.length ≤ 1048576) (op : Int) (hop : (Lit.int .i64 op).wf = true) (r c : Int) (av : Option Addr) (cv : Nat) (xs : List Nat) {lo2 hi3 m : Nat} (hv : RepF w lo2 hi3 av m cv xs) (hn : xs.length ≤ 1048576) (hr : (Lit.int .i64 r).wf = true) (hc : (Lit.int .i64 c).wf = true) :
    Calls Try.prog 87 #[.slice ad os.length cap, .int .i64 op, .agg #[.int .i64 r, .int .i64 c, .slice av xs.length cv]] w (OOPost (replP (os.map OpD.toOpP) op r c xs) w) :=
  impl_ReplaceInput w ad cap os h.see h.nilcap h.nilOK op r c av cv xs hv.arg hv.nilcap hi2
def lenP (p : OpP) : Nat := 6 + p.xs.length
theorem totO_lenP (us : List OpD) : totO us = ((us.map OpD.toOpP).map lenP).sum := by unfold totO; rw [List.map_map]; rfl
theorem set_id' {α : Type} {us : List α} {k : Nat} {a : α} (h : us[k]? = some a) : us.set k a = us := by
  obtain ⟨hk, rfl⟩ := List.getElem?_eq_some_iff.1 h
  exact List.set_getElem_self hk
theorem repl_bound {us l : List OpD} {op r c : Int} {xs : List Nat} (h : us.map OpD.toOpP = (replP (l.map OpD.toOpP) op r c xs).getD []) (h1 : l.length ≤ 1048576) (h2 : totO l ≤ 8000000) (h3 : ∀ o ∈ l, o.xs.length ≤ 1048576) : us.length ≤ 1048576 ∧ totO us ≤ 9000000 ∧ ∀ u ∈ us, u.xs.length ≤ 1048576 := by
  cases e : replP (l.map OpD.toOpP) op r c xs with
  | none =>
    rw [e] at h
    have h0 : us = [] := by simpa using h
    subst h0
    exact ⟨by decide, by decide, fun u hu => (nomatch hu)⟩
  | some P =>
    rw [e] at h
    have h0 : us.map OpD.toOpP = P := h
    have hP : P.map lenP = (l.map OpD.toOpP).map lenP := by
      unfold replP at e
      split at e
      · rename_i hc
        cases e
        obtain ⟨S, k, o, _, rfl, ho, _⟩ := inpB_at hc.1
        obtain ⟨_, _, hm, _⟩ := alikeB_in hc.2
        rw [show ((k : Nat) : Int).toNat = k by simp, opAtP_some ho] at hm ⊢
        rw [List.map_set]
        refine set_id' ?_
        rw [List.getElem?_map, ho]
        show some (lenP o) = some (lenP _)
        unfold lenP
        rw [hm]
      · cases e
    have hl : (us.map OpD.toOpP).map lenP = (l.map OpD.toOpP).map lenP := by rw [h0, hP]
    refine ⟨?_, by rw [totO_lenP, hl, ← totO_lenP]; omega, fun u hu => ?_⟩
    · have := congrArg List.length hl
      simp only [List.length_map] at this
      omega
    · have h4 : lenP u.toOpP ∈ (l.map OpD.toOpP).map lenP := by rw [← hl]; exact List.mem_map_of_mem (List.mem_map_of_mem hu)
      obtain ⟨p, hp, e5⟩ := List.mem_map.1 h4
      obtain ⟨o, ho, rfl⟩ := List.mem_map.1 hp
      have := h3 o ho
      unfold lenP at e5
      have e6 : u.toOpP.xs.length = u.xs.length := rfl
      have e7 : o.toOpP.xs.length = o.xs.length := rfl
      omega
end Go.Proofs.Ytpemhiaeiecinaa
/- Copies of arguments behind a draw, for the walks of laws. No condition. -/
namespace Go.Proofs.Ytpemhiaeiecinaa
open Go Go.RowKit
set_option linter.unusedVariables false
set_option linter.unusedSimpArgs false
theorem below_dr1 {w w' : World} (hb : Below w.drew.heap.size w.drew w') : Below w.heap.size w w' := bthen (Below.drew (Below.refl _ _)) hb
theorem OS_toD (w : World) (ad : Option Addr) (cap : Nat) (os : List OpD) (h : SeeR opR w ad cap os) (hn : os.length ≤ 1048576) (hi2 : ∀ o ∈ os, o.xs.length ≤ 1048576) :
    Calls Try.prog 52 #[.slice ad os.length cap] w.drew fun e w' => ∃ ad' cap', ∃ os' : List OpD, e = .returned (.slice ad' os.length cap') ∧ os'.map OpD.toOpP = os.map OpD.toOpP ∧ Hid (OwnR opR w' w.heap.size w'.heap.size ad' os.length cap' os') ∧ Below w.heap.size w w' := by
  refine (OS_to w.drew ad cap os (h.below (Below.drew (Below.refl _ _))) hn hi2).mono ?_
  rintro e w' ⟨a, c, os', h1, h2, h3, h4⟩
  exact ⟨a, c, os', h1, h2, h3, below_dr1 h4⟩
theorem T_toD (w : World) (r c : Int) (ad : Option Addr) (cap : Nat) (xs : List Nat) (h : F32s w ad cap xs) (hn : xs.length ≤ 1048576) :
    Calls Try.prog 60 #[.agg #[.int .i64 r, .int .i64 c, .slice ad xs.length cap]] w.drew fun e w' => ∃ ad' cap', e = .returned (.agg #[.int .i64 r, .int .i64 c, .slice ad' xs.length cap']) ∧ Hid (RepF w' w.heap.size w'.heap.size ad' xs.length cap' xs) ∧ Below w.heap.size w w' := by
  refine (T_to w.drew r c ad cap xs (h.below (Below.drew (Below.refl _ _))) hn).mono ?_
  rintro e w' ⟨a, c, h1, h3, h4⟩
  exact ⟨a, c, h1, h3, below_dr1 h4⟩
end Go.Proofs.Ytpemhiaeiecinaa
/- Lists of tensors compared and marked, for the walks of laws. No condition. -/
namespace Go.Proofs.Ytpemhiaeiecinaa
open Go Go.RowKit
set_option linter.unusedVariables false
set_option linter.unusedSimpArgs false
theorem ten_own {w : World} {lo hi n cap : Nat} {ad : Option Addr} {us : List Ten} (h : OwnR tenR w lo hi ad n cap us) {k : Nat} {t : Ten} (hk : us[k]? = some t) : ∃ g, ad = some ⟨g, 0, none⟩ ∧ (lo ≤ g ∧ g < hi ∧ g < w.heap.size) ∧
    (w.cell? ⟨g, k * 3, none⟩ = some (.int .i64 t.r) ∧ w.cell? ⟨g, k * 3 + 1, none⟩ = some (.int .i64 t.c) ∧ w.cell? ⟨g, k * 3 + 2, none⟩ = some (.slice t.ad t.xs.length t.cap)) ∧
    (∀ j, w.frozen? ⟨g, j, none⟩ = false) ∧ RepF w lo hi t.ad t.xs.length t.cap t.xs := by
  obtain ⟨g, e, hr, hc, hf⟩ := h.spot hk (by decide)
  have hm := List.mem_of_getElem? hk
  refine ⟨g, e, hr, ⟨hc 0 (by decide), hc 1 (by decide), hc 2 (by decide)⟩, hf, h.own.repF (List.mem_cons_of_mem _ (List.mem_flatMap.2 ⟨t, hm, List.mem_singleton.2 rfl⟩)) (h.ok t hm)⟩
set_option maxHeartbeats 4000000 in
set_option maxRecDepth 100000 in
theorem TS_eq (w : World) {a1 a2 : Option Addr} {c1 c2 : Nat} {us vs : List Ten} (h1 : SeeR tenR w a1 c1 us) (h2 : SeeR tenR w a2 c2 vs) (he : us.map (fun t => t.toTenP.can) = vs.map (fun t => t.toTenP.can)) (hn : us.length ≤ 1048576) (hi : ∀ t ∈ us, t.xs.length ≤ 1048576) :
    Calls Try.prog 91 #[.slice a1 us.length c1, .slice a2 vs.length c2] w fun e w' => e = .returned (.bool true) ∧ Below w.heap.size w w' := by
  have hl : us.length = vs.length := by have := congrArg List.length he; simpa using this
  rw [← hl]
  obtain ⟨n, hN⟩ : ∃ n, n = us.length := ⟨_, rfl⟩
  have HL := Lib.hid hl; clear hl
  rw [← hN] at hn ⊢
  have HN := Lib.hid hN; have HE := Lib.hid he; have HI := Lib.hid hi; have H1 := Lib.hid h1; have H2 := Lib.hid h2
  clear hN he hi h1 h2
  go_enter Try.func91, Try.ntmps91
  go_wp2
  go_loopw [5] (fun i wt => ∃ k : Nat, i = .int .i64 k ∧ k ≤ n ∧ Hid (Below w.heap.size w wt)) (fun i _ => n - (intOf i).toNat)
  case atStart => exact ⟨0, rfl, Nat.zero_le _, Lib.hid (Below.refl _ _)⟩
  case round =>
    obtain ⟨k, rfl, hk, HB⟩ := hrel
    by_cases hlt : k < n
    · have hkx : k < us.length := by rw [← HN.out]; exact hlt
      obtain ⟨o, ho⟩ := getElem?_lt hkx
      obtain ⟨p, hp⟩ := getElem?_lt (show k < vs.length by rw [← HL.out]; exact hkx)
      obtain ⟨b, off, rfl, _, ⟨p0, p1, p2⟩, hf⟩ := ten_spot (H1.out.below HB.out) ho
      obtain ⟨b', off', rfl, _, ⟨q0, q1, q2⟩, hf'⟩ := ten_spot (H2.out.below HB.out) hp
      have e1 : o.toTenP.can = p.toTenP.can := by
        have e1 := congrArg (fun l => l[k]?) HE.out
        simpa [ho, hp] using e1
      have hio := HI.out o (List.mem_of_getElem? ho)
      obtain ⟨⟨r, c, xs⟩, ax, cx⟩ := o
      obtain ⟨⟨r2, c2', ys⟩, ay, cy⟩ := p
      unfold TenP.can at e1
      simp only [TenP.mk.injEq] at e1
      obtain ⟨e2, e3, e4⟩ := e1
      simp only at e2 e3 e4 p0 p1 p2 q0 q1 q2 hf hf' hio
      subst e2 e3
      have K := Lib.hid (fun W (hb : Below wr.heap.size wr W) => T_eq W r c ax ay cx cy xs ys (hf.below hb) (hf'.below hb) hio e4)
      obtain ⟨x, hx⟩ : ∃ x, x = xs.length := ⟨_, rfl⟩
      obtain ⟨y, hy⟩ : ∃ y, y = ys.length := ⟨_, rfl⟩
      rw [← hx] at K p2
      rw [← hy] at K q2
      clear hf hf' ho hp e4 hx hy hkx hio
      go_wp2
      refine wp_region_tail 8 (fun f args u => False) (by kernel_rfl) (by kernel_rfl) ?_
      repeat (refine wset_step (fun K hK nq => ?_); go_simp; refine hK _ ?_; clear hK K)
      refine wset_nil ?_
      rintro w' ⟨q, rfl⟩
      go_wp2_with fail
      refine (K.out _ (below_drewN (Below.refl _ _) _)).mono ?_
      rintro e w2 ⟨rfl, hb⟩
      have HB2 := Lib.hid (bthen HB.out ((below_drewN (Below.refl _ _) _).trans hb)); clear hb
      go_wp2
      go_roundw
      case rel => exact ⟨k + 1, by go_num, hlt, HB2⟩
      case measure => simp [intOf]; omega
    · go_wp2
      go_ret
      exact ⟨rfl, HB.out⟩
/-- the marks of a tensor -/
def markT (k0 : Nat) (t : Ten) : Ten := ⟨⟨(k0 : Nat), (k0 + 1 : Nat), markF (k0 + 2) t.xs.length⟩, t.ad, t.cap⟩
def Ten.w (t : Ten) : Nat := 2 + t.xs.length
def totT (us : List Ten) : Nat := (us.map Ten.w).sum
def markTs : Nat → List Ten → List Ten
  | _, [] => []
  | k0, t :: us => markT k0 t :: markTs (k0 + t.w) us
theorem totT_snoc (A : List Ten) (t : Ten) : totT (A ++ [t]) = totT A + t.w := by simp [totT]
theorem totT_append (A B : List Ten) : totT (A ++ B) = totT A + totT B := by simp [totT]
theorem totT_cons (t : Ten) (B : List Ten) : totT (t :: B) = t.w + totT B := by simp [totT]
theorem markTs_length (k0 : Nat) (A : List Ten) : (markTs k0 A).length = A.length := by
  induction A generalizing k0 with
  | nil => rfl
  | cons o A ih => simp [markTs, ih]
theorem markTs_snoc (k0 : Nat) (A : List Ten) (t : Ten) : markTs k0 (A ++ [t]) = markTs k0 A ++ [markT (k0 + totT A) t] := by
  induction A generalizing k0 with
  | nil => simp [markTs, totT]
  | cons p A ih => rw [List.cons_append, markTs, ih, totT_cons, markTs, List.cons_append, Nat.add_assoc]
theorem markTs_at (k0 : Nat) (A B : List Ten) (t : Ten) : (markTs k0 (A ++ t :: B))[A.length]? = some (markT (k0 + totT A) t) := by
  induction A generalizing k0 with
  | nil => simp [markTs, totT]
  | cons p A ih => rw [List.cons_append, markTs, List.length_cons, List.getElem?_cons_succ, ih, totT_cons, Nat.add_assoc]
theorem OwnR.markTAt {w w2 : World} {lo hi n cap g k0 : Nat} {A B : List Ten} {o : Ten} (h : OwnR tenR w lo hi (some ⟨g, 0, none⟩) n cap (A ++ o :: B)) (hk : k0 ≤ 100000000)
    (ho : w2.ownsRow lo 33 1 (.slice o.ad o.xs.length o.cap) o.xs.length ((markF (k0 + 2) o.xs.length).map (Value.float .f32)))
    (hg : (setCs w g (A.length * 3) [.int .i64 (k0 : Nat), .int .i64 (k0 + 1 : Nat)]).grownBy w2 (Value.slice o.ad o.xs.length o.cap).ownBlock) :
    OwnR tenR w2 lo hi (some ⟨g, 0, none⟩) n cap (A ++ markT k0 o :: B) := by
  have h1 := setCs_own h.own (A.length * 3) [.int .i64 (k0 : Nat), .int .i64 (k0 + 1 : Nat)]
  have e1 : (A ++ o :: B).flatMap tenR.inn = A.flatMap tenR.inn ++ floatRow o.ad o.cap o.xs :: B.flatMap tenR.inn := by
    rw [List.flatMap_append, List.flatMap_cons]; rfl
  have e2 : (A ++ markT k0 o :: B).flatMap tenR.inn = A.flatMap tenR.inn ++ floatRow o.ad o.cap (markF (k0 + 2) o.xs.length) :: B.flatMap tenR.inn := by
    rw [List.flatMap_append, List.flatMap_cons]; rfl
  rw [e1, ← List.cons_append] at h1
  have hl : (markF (k0 + 2) o.xs.length).length = o.xs.length := markF_length _ _
  have h2 := h1.setAt (y := floatRow o.ad o.cap (markF (k0 + 2) o.xs.length)) hg (by
    refine ⟨?_, ?_⟩
    · show w2.ownsRow lo 33 1 (.slice o.ad (markF (k0 + 2) o.xs.length).length o.cap) (markF (k0 + 2) o.xs.length).length _
      rw [hl]; exact ho
    · intro g' e
      have h3 := (h1.row (floatRow o.ad o.cap o.xs) (List.mem_append_right _ (List.mem_cons_self ..))).top g'
      have e5 : (Value.slice o.ad (markF (k0 + 2) o.xs.length).length o.cap).ownBlock = some g' := e
      rw [hl] at e5
      exact h3 e5) (by show Value.slice o.ad (markF (k0 + 2) o.xs.length).length o.cap = Value.slice o.ad o.xs.length o.cap; rw [hl])
  rw [List.cons_append, ← e2] at h2
  have e3 : (A ++ markT k0 o :: B).flatMap tenR.cells = setL ((A ++ o :: B).flatMap tenR.cells) (A.length * 3) [.int .i64 (k0 : Nat), .int .i64 (k0 + 1 : Nat)] := by
    have h3 := flat_set tenR (A ++ o :: B) (k := A.length) (by simp) (markT k0 o)
    rw [set_mid] at h3
    rw [← h3]
    have e4 : tenR.cells (markT k0 o) = [.int .i64 (k0 : Nat), .int .i64 (k0 + 1 : Nat)] ++ [.slice o.ad o.xs.length o.cap] := by
      show Ten.cells (markT k0 o) = _
      unfold Ten.cells markT
      simp [hl]
    rw [e4, setL_append]
    refine set_same ?_
    rw [setL_get _ _ _ _ (.inr (by simp))]
    exact (flat_at tenR (A ++ o :: B) (k := A.length) (j := 2) (get_mid A B o) (by decide)).trans rfl
  refine ⟨?_, ?_, fun p hp => ?_⟩
  · rw [e3]; exact h2
  · have := h.len; simp at this ⊢; exact this
  · rcases List.mem_append.1 hp with hp | hp
    · exact h.ok p (List.mem_append_left _ hp)
    · rcases List.mem_cons.1 hp with rfl | hp
      · exact markF_lt _ _
      · exact h.ok p (List.mem_append_right _ (List.mem_cons_of_mem _ hp))
set_option maxHeartbeats 4000000 in
set_option maxRecDepth 100000 in
theorem TS_mark (w : World) {lo hi : Nat} {ad : Option Addr} {n cap : Nat} {os : List Ten} (k0 : Nat) (h : OwnR tenR w lo hi ad n cap os) (hhi : hi ≤ w.heap.size) (hn : n ≤ 1048576) (hk : k0 + totT os ≤ 10000000) (hi2 : ∀ o ∈ os, o.xs.length ≤ 1048576) :
    Calls Try.prog 92 #[.slice ad n cap, .int .i64 k0] w fun e w' => e = .returned (.int .i64 (k0 + totT os : Nat)) ∧ Hid (OwnR tenR w' lo hi ad n cap (markTs k0 os)) ∧ Touch lo hi w w' := by
  have HN := Lib.hid h.len; have HI2 := Lib.hid hi2; have HH := Lib.hid h; clear hi2 h
  go_enter Try.func92, Try.ntmps92
  go_wp2
  go_loopw [1, 5] (fun q i wt => ∃ k k1 : Nat, i = .int .i64 k ∧ q = .int .i64 k1 ∧ k ≤ n ∧ k1 ≤ 10000000 ∧ Hid (∃ A B, os = A ++ B ∧ A.length = k ∧ k1 = k0 + totT A ∧ OwnR tenR wt lo hi ad n cap (markTs k0 A ++ B)) ∧ Hid (Touch lo hi w wt)) (fun _ i _ => n - (intOf i).toNat)
  case atStart => exact ⟨0, k0, rfl, rfl, Nat.zero_le _, by omega, Lib.hid ⟨[], os, rfl, rfl, rfl, HH.out⟩, Lib.hid (Touch.refl _ _ _)⟩
  case round =>
    clear HH
    obtain ⟨k, k1, rfl, rfl, hkn, hk1, HX, HT⟩ := hrel
    by_cases hlt : k < n
    · obtain ⟨A, B0, e1, e2, e3, hown⟩ := HX.out
      cases B0 with
      | nil => exfalso; have := HN.out; rw [e1, List.append_nil] at this; omega
      | cons o B =>
        have HE1 := Lib.hid e1; have HE3 := Lib.hid e3; have HE2 := Lib.hid e2; have HO := Lib.hid hown
        have hml : (markTs k0 A).length = k := by rw [markTs_length, e2]
        have HML := Lib.hid hml
        have hget := get_mid (markTs k0 A) B o
        rw [hml] at hget
        obtain ⟨g, rfl, hgr, ⟨p0, p1, p2⟩, hfz, hrf⟩ := ten_own hown hget
        have hmb := HI2.out o (by rw [e1]; simp)
        have htot : k1 + o.w ≤ 10000000 := by
          have := hk
          rw [e1, totT_append, totT_cons] at this
          omega
        unfold Ten.w at htot
        have hm := fun W (ho : W.ownsRow lo 33 1 (.slice o.ad o.xs.length o.cap) o.xs.length (o.xs.map (Value.float .f32))) => laws_markFloat32S lo o.ad o.cap o.xs.length (o.xs.map (Value.float .f32)) (k1 + 2) W hmb (by omega) ho
        have HM := Lib.hid hm
        have hW := (setCs_own hown.own (k * 3) [.int .i64 (k1 : Nat), .int .i64 (k1 + 1 : Nat)]).row (floatRow o.ad o.cap o.xs) (List.mem_cons_of_mem _ (List.mem_flatMap.2 ⟨o, by simp, List.mem_singleton.2 rfl⟩))
        have HW := Lib.hid hW.own
        have htw := ((setCs_touch wr g (k * 3) [.int .i64 (k1 : Nat), .int .i64 (k1 + 1 : Nat)]).mono hgr.1 hgr.2.1)
        have HTW := Lib.hid htw; have HRF := Lib.hid hW
        clear e1 e2 e3 hown hget hrf hm hW htw hml hgr
        obtain ⟨m, hm0⟩ : ∃ m, m = o.xs.length := ⟨_, rfl⟩
        rw [← hm0] at p2 hmb htot HM
        have HM0 := Lib.hid hm0; clear hm0
        go_wp2_with fail
        refine (HM.out _ (by rw [HM0.out]; exact HW.out)).mono ?_
        rintro e w2 ⟨rfl, ho2, hg2⟩
        have hmk := OwnR.markTAt (A := markTs k0 A) (B := B) (o := o) HO.out (k0 := k1) (by omega) (by rw [← HM0.out]; exact ho2) (by rw [HML.out, ← HM0.out]; exact hg2)
        have ht2 : Touch lo hi w w2 := HT.out.trans (HTW.out.trans (Touch.of_grown HRF.out (by rw [floatRow, RowD.val, ← HM0.out]; exact hg2)))
        have HMK := Lib.hid hmk; have HT2 := Lib.hid ht2
        clear hmk ht2 ho2 hg2 HO HTW HRF HW p0 p1 p2 hfz HM HT
        go_wp2
        refine ⟨?rel, ?measure⟩
        case rel => exact ⟨k + 1, k1 + 2 + m, by go_num, by go_num, hlt, by omega, Lib.hid ⟨A ++ [o], B, by rw [HE1.out]; simp, by simp [HE2.out], by rw [totT_snoc, HE3.out, Ten.w, HM0.out]; omega, by rw [markTs_snoc, ← HE3.out, List.append_assoc]; exact HMK.out⟩, HT2⟩
        case measure => simp [intOf]; omega
    · have hkn2 : k = n := by omega
      subst hkn2
      obtain ⟨A, B, e1, e2, e3, hown⟩ := HX.out
      have hB : B = [] := by
        have := HN.out; rw [e1, List.length_append, e2] at this
        exact List.eq_nil_of_length_eq_zero (by omega)
      subst hB
      rw [List.append_nil] at e1 hown
      subst e1
      have HO := Lib.hid hown; clear hown HX
      subst e3
      clear e2
      go_wp2
      go_ret
      exact ⟨rfl, HO, HT.out⟩
set_option maxHeartbeats 4000000 in
set_option maxRecDepth 100000 in
theorem TS_held (w : World) {ad : Option Addr} {n cap : Nat} {os : List Ten} (k0 : Nat) (h : SeeR tenR w ad cap (markTs k0 os)) (hl : os.length = n) (hn : n ≤ 1048576) (hk : k0 + totT os ≤ 10000000) (hi2 : ∀ o ∈ os, o.xs.length ≤ 1048576) :
    Calls Try.prog 93 #[.slice ad n cap, .int .i64 k0] w fun e w' => e = .returned (.int .i64 (k0 + totT os : Nat)) ∧ w = w' := by
  have HN := Lib.hid hl; have HI2 := Lib.hid hi2; have HH := Lib.hid h; clear hi2 h hl
  go_enter Try.func93, Try.ntmps93
  go_wp2
  go_loop [1, 5] (fun q i => ∃ k k1 : Nat, i = .int .i64 k ∧ q = .int .i64 k1 ∧ k ≤ n ∧ k1 ≤ 10000000 ∧ Hid (∃ A B, os = A ++ B ∧ A.length = k ∧ k1 = k0 + totT A)) (fun _ i => n - (intOf i).toNat)
  case atStart => exact ⟨0, k0, rfl, rfl, Nat.zero_le _, by omega, Lib.hid ⟨[], os, rfl, rfl, rfl⟩⟩
  case round =>
    obtain ⟨k, k1, rfl, rfl, hkn, hk1, HX⟩ := hrel
    by_cases hlt : k < n
    · obtain ⟨A, B0, e1, e2, e3⟩ := HX.out
      cases B0 with
      | nil => exfalso; have := HN.out; rw [e1, List.append_nil] at this; omega
      | cons o B =>
        have HE1 := Lib.hid e1; have HE3 := Lib.hid e3; have HE2 := Lib.hid e2
        have hget := markTs_at k0 A B o
        rw [← e1, e2, ← e3] at hget
        obtain ⟨b, off, rfl, hb, ⟨p0, p1, p2⟩, hf⟩ := ten_spot HH.out hget
        have hmb := HI2.out o (by rw [e1]; simp)
        have htot : k1 + o.w ≤ 10000000 := by
          have := hk
          rw [e1, totT_append, totT_cons] at this
          omega
        unfold Ten.w at htot
        simp only [markT, markF_length] at p0 p1 p2 hf
        obtain ⟨m, hm0⟩ : ∃ m, m = o.xs.length := ⟨_, rfl⟩
        rw [← hm0] at p2 hmb htot hf
        have hheld := fun W hW => laws_heldFloat32S o.ad o.cap m (markF (k1 + 2) m) (k1 + 2) W (by omega) (by omega) hW rfl
        have HM := Lib.hid hheld; have HF := Lib.hid hf
        have HM0 := Lib.hid hm0
        clear e1 e2 e3 hget hheld hf hm0
        go_wp2_with fail
        refine (HM.out _ HF.out).mono ?_
        rintro e w2 ⟨rfl, rfl⟩
        have hnn : 0 ≤ ((k1 + 2 + m : Nat) : Int) := by omega
        clear p0 p1 p2
        go_wp2
        go_round
        case rel => exact ⟨k + 1, k1 + 2 + m, by go_num, rfl, hlt, by omega, Lib.hid ⟨A ++ [o], B, by rw [HE1.out]; simp, by simp [HE2.out], by rw [totT_snoc, HE3.out, Ten.w, HM0.out]; omega⟩⟩
        case measure => simp [intOf]; omega
    · have hkn2 : k = n := by omega
      obtain ⟨A, B, e1, e2, e3⟩ := HX.out
      have hB : B = [] := by
        have := HN.out; rw [e1, List.length_append, e2] at this
        exact List.eq_nil_of_length_eq_zero (by omega)
      subst hB
      rw [List.append_nil] at e1
      subst e1
      subst e3
      clear HX e2
      go_wp2
      go_ret
      exact ⟨rfl, rfl⟩
theorem TT_eq2 (w : World) {lo1 hi1 lo2 hi2 : Nat} {a1 a2 : Option Addr} {n1 n2 c1 c2 : Nat} {us vs : List Ten} (h1 : OwnR tenR w lo1 hi1 a1 n1 c1 us) (h2 : OwnR tenR w lo2 hi2 a2 n2 c2 vs) (he : us.map (fun t => t.toTenP.can) = vs.map (fun t => t.toTenP.can)) (hm : n1 ≤ 1048576 ∧ totT us ≤ 9000000 ∧ ∀ u ∈ us, u.xs.length ≤ 1048576) :
    Calls Try.prog 91 #[.slice a1 n1 c1, .slice a2 n2 c2] w fun e w' => e = .returned (.bool true) ∧ Below w.heap.size w w' := by
  have e1 := h1.len; have e2 := h2.len
  subst e1 e2
  exact TS_eq w h1.see h2.see he hm.1 hm.2.2
theorem TT_mark2 (w : World) {lo hi : Nat} {ad : Option Addr} {n cap : Nat} {us : List Ten} (k0 : Nat) (h : OwnR tenR w lo hi ad n cap us) (hhi : hi ≤ w.heap.size) (hm : n ≤ 1048576 ∧ totT us ≤ 9000000 ∧ ∀ u ∈ us, u.xs.length ≤ 1048576) (hk : k0 + totT us ≤ 10000000) :
    Calls Try.prog 92 #[.slice ad n cap, .int .i64 k0] w fun e w' => e = .returned (.int .i64 (k0 + totT us : Nat)) ∧ Hid (OwnR tenR w' lo hi ad n cap (markTs k0 us)) ∧ Touch lo hi w w' :=
  TS_mark w k0 h hhi hm.1 hk hm.2.2
theorem TT_held2 (w : World) {lo hi : Nat} {ad : Option Addr} {n cap : Nat} {us : List Ten} (k0 : Nat) (h : OwnR tenR w lo hi ad n cap (markTs k0 us)) (hm : n ≤ 1048576 ∧ totT us ≤ 9000000 ∧ ∀ u ∈ us, u.xs.length ≤ 1048576) (hk : k0 + totT us ≤ 10000000) :
    Calls Try.prog 93 #[.slice ad n cap, .int .i64 k0] w fun e w' => e = .returned (.int .i64 (k0 + totT us : Nat)) ∧ w = w' :=
  TS_held w k0 h.see (by rw [← markTs_length k0 us]; exact h.len) hm.1 hk hm.2.2
/-- bounds of the values of a tape -/
theorem tt_bounds {us : List Ten} {P : List OpP} (h : us.map (fun t => t.toTenP.can) = (runP P).getD []) : us.length ≤ 1048576 ∧ totT us ≤ 9000000 ∧ ∀ u ∈ us, u.xs.length ≤ 1048576 := by
  have hV : (∀ t ∈ (runP P).getD [], t.xs.length ≤ 256) ∧ ((runP P).getD []).length ≤ 48 := by
    unfold runP
    cases e : shapesP P with
    | none => exact ⟨fun t ht => (nomatch ht), by simp⟩
    | some S =>
      have hp := shapesP_some e
      have hv := valsN_ok (Nat.le_refl _) hp.2.1
      refine ⟨fun t ht => (hv.2 t ht).le, ?_⟩
      have := congrArg List.length hv.1
      rw [List.length_map, hp.2.2.1] at this
      show (valsN P P.length).length ≤ 48
      rw [this]; exact hp.1.2
  have hl : us.length ≤ 48 := by have := congrArg List.length h; rw [List.length_map] at this; rw [this]; exact hV.2
  have hx : ∀ u ∈ us, u.xs.length ≤ 256 := by
    intro u hu
    have := hV.1 u.toTenP.can (by rw [← h]; exact List.mem_map_of_mem hu)
    simpa [TenP.can] using this
  have ht : totT us ≤ 258 * us.length := by
    clear h hl
    induction us with
    | nil => simp [totT]
    | cons a us ih =>
      rw [totT_cons, List.length_cons]
      have h1 := hx a (List.mem_cons_self ..)
      have h2 := ih (fun u hu => hx u (List.mem_cons_of_mem _ hu))
      unfold Ten.w; omega
  exact ⟨by omega, by omega, fun u hu => by have := hx u hu; omega⟩
theorem impl_RunTapeW (w : World) (ad : Option Addr) (cap : Nat) (os : List OpD) {lo hi n : Nat} (h : OwnR opR w lo hi ad n cap os) (hi2 : ∀ o ∈ os, o.xs.length ≤ 1048576) :
    Calls Try.prog 77 #[.slice ad os.length cap] w (TTPost (runP (os.map OpD.toOpP)) w) := impl_RunTape w ad cap os h.see h.nilOK hi2
end Go.Proofs.Ytpemhiaeiecinaa
