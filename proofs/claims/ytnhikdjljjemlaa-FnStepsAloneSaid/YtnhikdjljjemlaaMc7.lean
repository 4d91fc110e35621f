/- Joined texts 7: Rg2 WSa. Each is told at its own head. No condition. -/
import Derived.Deep.RegionHeld3
import Derived.Test.YtnhikdjljjemlaaMc0
import Derived.Test.YtnhikdjljjemlaaMc6
/- A region whose operations before a call serve it alone, and whose operations behind it look at its results: one walk. No condition. -/
namespace Go.Proofs.Ytnhikdjljjemlaa
open Go
set_option linter.unusedVariables false
section
variable {P : Program} {ops : Array Oper} {C : World → Prop} {VC : FuncId → Array Value → Value → Prop}
def chainQ (md : Region.Mode) (ops : Array Oper) (n : Nat) : Bool := (List.range ops.size).all fun t => decide (t ≤ n) || (List.range t).any fun t' => decide (n ≤ t') && waitsP md ops t t'
def afterC (md : Region.Mode) (ops : Array Oper) (g k : Nat) (listed : Array Bool) : Bool := decide (Region.ready md ops listed = [k]) && Region.lexFrom md ops g (k + 1) (listed.setIfInBounds k true)
def lexHeadC (md : Region.Mode) (ops : Array Oper) (g : Nat) : Nat → Nat → Array Bool → Bool
  | 0, k, listed => afterC md ops g k listed
  | f + 1, k, listed => (Region.ready md ops listed).contains k && Region.free md ops listed k && lexHeadC md ops g f (k + 1) (listed.setIfInBounds k true)
theorem afterC_ready {md : Region.Mode} {g k : Nat} {listed : Array Bool} (h : afterC md ops g k listed = true) : ∀ j ∈ Region.ready md ops listed, k ≤ j := by
  intro j hj
  simp only [afterC, Bool.and_eq_true, decide_eq_true_eq] at h
  rw [h.1] at hj
  simp at hj; omega
theorem late2 {md : Region.Mode} {p n : Nat} {listed : Array Bool} (hs : sinkP md ops p n = true) (hc : chainQ md ops n = true) (hn : n < ops.size) (inv : HInv md ops n listed) (hp : ∀ j, j < p → listed.getD j false = true) :
    ∀ (d i : Nat), n - i = d → i < n → listed.getD i true = false → ∀ t, n ≤ t → t ∉ Region.ready md ops listed := by
  intro d
  induction d using Nat.strongRecOn with
  | _ d ih =>
    intro i hd hi hun t ht hr
    have hip : ¬ i < p := fun h => by have := hp i h; rw [getD_two hun] at this; cases this
    have h1 := List.all_eq_true.1 hs i (List.mem_range.2 hi)
    simp only [Bool.or_eq_true, decide_eq_true_eq, hip, false_or, List.any_eq_true, List.mem_range, Bool.and_eq_true] at h1
    obtain ⟨k, hk, hik, hw⟩ := h1
    obtain ⟨ok, hok, e, he, hb, hon⟩ := waitsP_spec hw
    have hks : k < ops.size := (Array.getElem?_eq_some_iff.1 hok).1
    obtain ⟨hunt, ot, hot, hall⟩ := mem_ready.1 hr
    have htlt : t < ops.size := (Array.getElem?_eq_some_iff.1 hot).1
    by_cases hkn : k = n
    · subst hkn
      by_cases htk : t = k
      · subst htk
        obtain rfl : ok = ot := Option.some.inj (hok.symm.trans hot)
        have := hall e he hb
        rw [hon, getD_two hun] at this; cases this
      · have h2 := List.all_eq_true.1 hc t (List.mem_range.2 htlt)
        simp only [Bool.or_eq_true, decide_eq_true_eq] at h2
        rcases h2 with h2 | h2
        · omega
        · obtain ⟨t', ht', hq⟩ := List.any_eq_true.1 h2
          simp only [Bool.and_eq_true, decide_eq_true_eq] at hq
          have ht'' := List.mem_range.1 ht'
          obtain ⟨o', ho', e', he', hb', hon'⟩ := waitsP_spec hq.2
          obtain rfl : o' = ot := Option.some.inj (ho'.symm.trans hot)
          have := hall e' he' hb'
          rw [hon', getD_two (inv.tail t' (by omega) (by omega))] at this; cases this
    · have hkl : listed.getD k false = false := by
        cases hl : listed.getD k false with
        | false => rfl
        | true => have := inv.closed k ok hok hl e he hb; rw [hon, getD_two hun] at this; cases this
      exact ih (n - k) (by omega) k rfl (by omega) (getD_in2 (by rw [inv.size]; exact hks) hkl) t ht hr
theorem tset_first2 {md : Region.Mode} {p n : Nat} {L : Array Bool → Act → Prop} {w0 : World} (h0 : C w0) {i : Nat} {oi : Oper} (hi : ops[i]? = some oi) (hsel : ∀ (j : Nat) (o : Oper) cs b, ops[j]? = some o → o.op ≠ .select cs b)
    (hs : sinkP md ops p n = true) (hc : chainQ md ops n = true) (hn : n < ops.size) (hin : i < n) (hdone : ∀ listed a, L listed a → ∀ j ∈ Region.ready md ops listed, n ≤ j) :
    ∀ (fuel : Nat) (listed : Array Bool) (a : Act), HInv md ops n listed → (∀ j, j < p → listed.getD j false = true) →
      (∀ j oj, ops[j]? = some oj → j ≠ i → listed.getD j true = false → (∀ e ∈ oj.after, Region.binds md e = true → e.on ≠ i) → oi.apart ops oj = true) →
      i ∈ Region.ready md ops listed → Good P ops C VC oi a →
      (∀ v, Vals P ops C VC oi a v → TSet P md ops C VC n L fuel (listed.setIfInBounds i true) (a.put oi.dst v)) → TSet P md ops C VC n L (fuel + 1) listed a
  | 0, listed, a, inv, hp, _, hr, hg, H => by
    have hun := (mem_ready.1 hr).1
    refine ⟨fun e => (by rw [e] at hr; cases hr), fun j hj o ho => ?_⟩
    have hjn : j < n := by
      rcases Nat.lt_or_ge j n with h | h
      · exact h
      · exact absurd hj (late2 hs hc hn inv hp _ i rfl hin hun j h)
    by_cases hji : j = i
    · subst hji
      obtain rfl : oi = o := Option.some.inj (hi.symm.trans ho)
      exact ⟨hjn, hg, H⟩
    · exfalso
      obtain ⟨v, hv⟩ := some_val h0 hg
      have := hdone _ _ (H v hv) j (ready_mono hj hji)
      omega
  | fuel + 1, listed, a, inv, hp, hfree, hr, hg, H => by
    have huni := (mem_ready.1 hr).1
    refine ⟨fun e => (by rw [e] at hr; cases hr), fun j hj oj hoj => ?_⟩
    have hjn : j < n := by
      rcases Nat.lt_or_ge j n with h | h
      · exact h
      · exact absurd hj (late2 hs hc hn inv hp _ i rfl hin huni j h)
    by_cases hji : j = i
    · subst hji
      obtain rfl : oi = oj := Option.some.inj (hi.symm.trans hoj)
      exact ⟨hjn, hg, H⟩
    · have hun : listed.getD j true = false := (mem_ready.1 hj).1
      have hno : ∀ e ∈ oj.after, Region.binds md e = true → e.on ≠ i := by
        intro e he hb hon
        obtain ⟨_, o', ho', hall⟩ := mem_ready.1 hj
        obtain rfl : oj = o' := Option.some.inj (hoj.symm.trans ho')
        have h1 := hall e he hb
        rw [hon, getD_two huni] at h1; cases h1
      obtain ⟨x1, x2, x3⟩ := Oper.apart_spec (hfree j oj hoj hji hun hno)
      have si := fun cs b => hsel i oi cs b hi
      have sj := fun cs b => hsel j oj cs b hoj
      have gj : ∀ v, (Good P ops C VC oj (a.put oi.dst v) ↔ Good P ops C VC oj a) := fun v => good_put (execOp_put oj sj a oi.dst v x1) (wanted_put oj a oi.dst v x1)
      have vj : ∀ v u, (Vals P ops C VC oj (a.put oi.dst v) u ↔ Vals P ops C VC oj a u) := fun v u => vals_put (execOp_put oj sj a oi.dst v x1) (wanted_put oj a oi.dst v x1)
      have gi : ∀ u, (Good P ops C VC oi (a.put oj.dst u) ↔ Good P ops C VC oi a) := fun u => good_put (execOp_put oi si a oj.dst u x3) (wanted_put oi a oj.dst u x3)
      have vi : ∀ u v, (Vals P ops C VC oi (a.put oj.dst u) v ↔ Vals P ops C VC oi a v) := fun u v => vals_put (execOp_put oi si a oj.dst u x3) (wanted_put oi a oj.dst u x3)
      obtain ⟨v0, hv0⟩ := some_val h0 hg
      have hj' := ready_mono hj hji
      refine ⟨hjn, (gj v0).1 ((H v0 hv0).2 j hj' oj hoj).2.1, fun u hu => ?_⟩
      refine tset_first2 h0 hi hsel hs hc hn hin hdone fuel (listed.setIfInBounds j true) (a.put oj.dst u) (inv.set hj hjn) (fun q hq => getD_set_true (hp q hq)) ?_ (ready_mono hr (Ne.symm hji)) ((gi u).2 hg) fun v hv => ?_
      · intro k ok hk hki hun' hno'
        refine hfree k ok hk hki ?_ hno'
        by_cases hjk : j = k
        · subst hjk; exact hun
        · rw [getD_set_ne true hjk] at hun'; exact hun'
      · have := ((H v ((vi u v).1 hv)).2 j hj' oj hoj).2.2 u ((vj v u).2 hu)
        rw [Array.setIfInBounds_comm _ _ hji, ← Act.put_comm a v u x2]
        exact this
theorem tset_lex2 {md : Region.Mode} {p n g : Nat} {Lq : Act → Prop} {w0 : World} (h0 : C w0) (hsel : Region.noSelect ops = true) (hs : sinkP md ops p n = true) (hc : chainQ md ops n = true) (hn : n < ops.size) :
    ∀ (l : List Oper) (k : Nat) (listed : Array Bool) (a : Act), (∀ j, j < l.length → l[j]? = ops[k + j]?) → k + l.length = n → HInv md ops n listed → (∀ j, j < p → listed.getD j false = true) →
    lexHeadC md ops g l.length k listed = true → WSet P ops C VC Lq l a →
    TSet P md ops C VC n (fun listed' a' => afterC md ops g n listed' = true ∧ Lq a') l.length listed a
  | [], k, listed, a, _, hk, _, _, hB, h => by
    have : k = n := by simpa using hk
    subst this
    exact ⟨by simpa [lexHeadC] using hB, h⟩
  | o :: l, k, listed, a, hl, hk, inv, hp, hB, h => by
    have hk0 : ops[k]? = some o := by simpa using (hl 0 (by simp)).symm
    simp only [List.length_cons, lexHeadC, Bool.and_eq_true] at hB
    obtain ⟨⟨hr, hf⟩, hB'⟩ := hB
    have hkn : k < n := by simp only [List.length_cons] at hk; omega
    have hr' : k ∈ Region.ready md ops listed := by simpa using hr
    refine tset_first2 h0 hk0 (Region.noSelect_spec hsel) hs hc hn hkn (fun listed' a' hL => afterC_ready hL.1) l.length listed a inv hp (Region.free_spec hk0 hf) hr' h.1 fun v hv => ?_
    exact tset_lex2 h0 hsel hs hc hn l (k + 1) _ _ (fun j hj => by have := hl (j + 1) (by simp; omega); simpa [Nat.add_assoc, Nat.add_comm 1 j] using this) (by simp only [List.length_cons] at hk; omega) (inv.set hr' hkn) (fun q hq => getD_set_true (hp q hq)) hB' (h.2 v hv)

/-- what is asked of the call -/
@[go_sem] def EnterS (P : Program) (w : World) (K : FuncId → Array Value → Prop) : Result Next → Prop
  | .ok (.enter f args) w' => w' = w ∧ K f args
  | _ => False
def callB (ops : Array Oper) (n : Nat) : Bool :=
  Region.noSelect ops && decide (n < ops.size) && sinkP .any ops 0 n && chainQ .any ops n && lexHeadC .any ops (ops.size - n - 1) n 0 (Array.replicate ops.size false)
/-- **a region with a call, number 'n', that all before it serve and all behind it wait for** -/
theorem wp_region_call {id : Nat} {Q : Exit → Act → World → Prop} {a : Act} {w : World} {l : List Oper} (n : Nat) (VC : FuncId → Array Value → Value → Prop) (o : Oper) (ho : l[n]? = some o) (hgd : o.guard = none) (hm : P.follows .mixedOrders = true) (hB : callB l.toArray n = true)
    (h : WSet P l.toArray (Drawn w) VC (fun a' => ∀ w', Drawn w w' → EnterS P w' (fun f args => Calls P f args w' fun e w'' => ∃ v, e = .returned v ∧ WSet P l.toArray (Drawn w'') VC (fun a3 => ∀ w3, Drawn w'' w3 → Q .normal a3 w3) (l.drop (n + 1)) (a'.put o.dst v)) ((execOp a'.eval o).run P w')) (l.take n) a) :
    (Code.region id l.toArray true).wp P Q a w := by
  simp only [callB, Bool.and_eq_true, decide_eq_true_eq] at hB
  obtain ⟨⟨⟨⟨hsel, hn⟩, hs⟩, hc⟩, hlex⟩ := hB
  have hn' : n < l.length := by simpa using hn
  have htl : (l.take n).length = n := by simp; omega
  have hdl : (l.drop (n + 1)).length = l.toArray.size - n - 1 := by simp; omega
  have gf : ∀ i, (Array.replicate l.toArray.size false).getD i false = false := fun i => by
    simp only [Array.getD_eq_getD_getElem?, Array.getElem?_replicate]; split <;> rfl
  have inv0 : HInv .any l.toArray n (Array.replicate l.toArray.size false) :=
    ⟨by simp, fun j oj _ hl => (by rw [gf] at hl; cases hl), fun t _ ht => getD_in2 (by simpa using ht) (gf t)⟩
  have hd : Drawn w { w with drawn := w.drawn + 1 } := ⟨1, rfl⟩
  have H := tset_lex2 (VC := VC) (md := .any) (g := l.toArray.size - n - 1) hd hsel hs hc hn (l.take n) 0 _ a (fun j hj => by
    have hj' : j < n := by rw [htl] at hj; exact hj
    simp [hj']) (by simpa using htl) inv0 (fun j hj => by omega) (by rw [htl]; exact hlex) h
  refine wp_region_any hm ?_
  have := any_of_tset (Q' := Q) (g := (l.toArray.size - n - 1) + 1) (fun listed a' w' hw' hL => by
    obtain ⟨hL1, hL2⟩ := hL
    simp only [afterC, Bool.and_eq_true, decide_eq_true_eq] at hL1
    refine ⟨fun e => (by rw [hL1.1] at e; cases e), fun i hi => ?_⟩
    rw [hL1.1] at hi
    obtain rfl : i = n := by simpa using hi
    have ho' : l.toArray[i]? = some o := by simpa using ho
    have hE := hL2 w' hw'
    unfold wpOp
    simp only [ho']
    have hwant : Region.wanted o (yielded l.toArray a'.tmps) = true := by simp [Region.wanted, hgd]
    rw [if_pos hwant]
    left
    unfold Oper.wp
    unfold EnterS at hE
    split at hE
    · rename_i f args w1 he
      obtain ⟨rfl, hC⟩ := hE
      rw [he]
      refine hC.mono fun e w'' ⟨v, hev, hW⟩ => ?_
      subst hev
      have h1 := aset_lex (VC := VC) (md := .any) (C := Drawn w'') (w0 := w'') ⟨0, rfl⟩ hsel (l.drop (i + 1)) (i + 1) (listed.setIfInBounds i true) _ (fun j => by simp [List.getElem?_drop]) (by rw [hdl]; exact hL1.2) hW
      have h2 := any_of_aset (Q' := Q) (fun a3 w3 hw3 hq => hq w3 hw3) _ _ _ w'' ⟨0, rfl⟩ h1
      rwa [hdl] at h2
    · cases hE) _ _ _ _ hd H
  rw [htl, show n + ((l.toArray.size - n - 1) + 1) = l.toArray.size by omega] at this
  exact this
end
end Go.Proofs.Ytnhikdjljjemlaa
/- The law of steps alone, walked. No condition. -/
namespace Go.Proofs.Ytnhikdjljjemlaa
open Go Go.RowKit Ieee
set_option linter.unusedVariables false
set_option linter.unusedSimpArgs false
set_option maxHeartbeats 16000000 in
set_option maxRecDepth 100000 in
theorem fnStepsAlone_walk (w : World) (a0 : Option Addr) (c0 : Nat) (l0 : List Int) (A0 : Ints .u8 w a0 c0 l0) (a1 : Option Addr) (c1 : Nat) (l1 : List Int) (A1 : Ints .u8 w a1 c1 l1) :
    Calls Try.prog 3 #[.slice a0 l0.length c0, .slice a1 l1.length c1] w fun e w' => e = .returned (.bool true) ∧ Below w.heap.size w w' := by
  by_cases hlong : l0.length ≤ 1048576 ∧ l1.length ≤ 1048576
  rotate_left
  · go_enter Try.func3, Try.ntmps3
    go_wp2_with fail
    refine (b10Long_yes _ _ _ _ _ _ _ hlong).mono ?_
    rintro e w1 ⟨rfl, rfl⟩
    go_wp2
    go_ret
    exact ⟨rfl, Below.refl _ _⟩
  obtain ⟨hl0, hl1⟩ := hlong
  obtain ⟨j0, hj2, hy0, hy1, hy2⟩ := info_parts info_f32s
  have AA0 := Lib.hid A0; have AA1 := Lib.hid A1
  clear A0 A1
  go_enter Try.func3, Try.ntmps3
  go_wp2_with fail
  refine (b10Long_no _ _ _ _ _ _ _ hl0 hl1).mono ?_
  rintro e w1 ⟨rfl, rfl⟩
  clear hl0 hl1
  go_wp2_with fail
  refine (b10_optimizer _ _ _ _ AA0.out).mono ?_
  rintro e w1 ⟨kd, r, b1, b2, ep, rfl, hkd, HR, hb1⟩
  have B := Lib.hid (hb1.trans ((below1 w1 (.cells #[.int .i64 kd, .float .f32 r, .float .f32 b1, .float .f32 b2, .float .f32 ep] 26)).mono hb1.size))
  have hB5 := Box5.alloc w1 (.int .i64 kd) (.float .f32 r) (.float .f32 b1) (.float .f32 b2) (.float .f32 ep) 26
  go_wp2_with fail
  generalize (w1.alloc (.cells #[.int .i64 kd, .float .f32 r, .float .f32 b1, .float .f32 b2, .float .f32 ep] 26)) = W at B hB5 ⊢
  generalize w1.heap.size = bo at hB5 ⊢
  have BX := Lib.hid hB5
  clear hb1 hB5
  refine (b10At_any _ _ _ _ (AA0.out.below B.out) 1 8 (by decide) (by decide) (by decide) (by decide)).mono ?_
  rintro e w2 ⟨n0, rfl, hn, rfl⟩
  have hn7 : n0 ≤ 7 := by omega
  clear hn
  go_wp2_with fail
  obtain ⟨n, hnn⟩ : ∃ n, n = 1 + n0 := ⟨_, rfl⟩
  have hni : (1 : Int) + (n0 : Int) = (n : Int) := by omega
  have hn8 : n ≤ 8 := by omega
  simp only [hni]
  clear hnn hni hn7
  refine (b10_numbers _ _ _ _ (AA0.out.below B.out) n (by omega)).mono ?_
  rintro e w2 ⟨pa, pc, ps, rfl, hr, hb⟩
  have RP := Lib.hid hr; have LP := Lib.hid hr.len; have B := Lib.hid (bthen B.out hb); have BX := Lib.hid (BX.out.below hb)
  clear hr hb AA0
  go_wp2_with fail
  refine (b10_numbers _ _ _ _ (AA1.out.below B.out) n (by omega)).mono ?_
  rintro e w3 ⟨ga, gc, gs, rfl, hr, hb⟩
  have RG := Lib.hid hr; have LG := Lib.hid hr.len; have B := Lib.hid (bthen B.out hb); have BX := Lib.hid (BX.out.below hb)
  have RP := Lib.hid (RP.out.below hb)
  clear hr hb
  go_wp2_with fail
  refine (b10At_any _ _ _ _ (AA1.out.below B.out) 0 50 (by decide) (by decide) (by decide) (by decide)).mono ?_
  rintro e w4 ⟨st, rfl, hst, rfl⟩
  have hst : st < 50 := by omega
  obtain ⟨q5, q0, q1, q2, q3, q4, q6⟩ := BX.out
  have hok : emptyOk (kd : Int) (n : Int) = true := by
    unfold emptyOk
    rw [Bool.and_eq_true]
    exact ⟨inB_iff.2 ⟨by omega, by omega⟩, inB_iff.2 ⟨by omega, by omega⟩⟩
  go_wp2_with fail
  refine (impl_EmptySlots_yes (kd : Int) (n : Int) r b1 b2 ep hok _).mono ?_
  rintro e w4 ⟨v, vs, rfl, hz, hb⟩
  obtain ⟨ea, ec, rfl, hzz⟩ := hz.out.rep
  rw [Int.toNat_natCast] at hzz
  clear hz
  obtain ⟨S, hS⟩ : ∃ S, S = slotsN (kd : Int) := ⟨_, rfl⟩
  have hS2 : S ≤ 2 := by rw [hS]; exact slotsN_le _
  rw [← hS] at hzz
  rw [← hS]
  have HS := Lib.hid hS
  have RE := Lib.hid hzz; have B := Lib.hid (bthen B.out hb); have BX := Lib.hid (BX.out.below hb)
  have RP := Lib.hid (RP.out.below hb); have RG := Lib.hid (RG.out.below hb)
  clear hzz hb hok hS q0 q1 q2 q3 q4 q5 q6
  have f1 := step_fit w4 kd hkd r b1 b2 ep n (by omega) pa pc ps RP.out.arg LP.out ga gc gs RG.out.arg LG.out ea S ec HS.out vs (zeroRows S n) RE.out (fun i hi => by rw [zero_row (by simpa [zeroRows] using hi)]; simp) st (by omega)
  have F1 := Lib.hid f1; clear f1
  obtain ⟨q5, q0, q1, q2, q3, q4, q6⟩ := BX.out
  go_wp2_with fail
  refine F1.out.mono ?_
  rintro e w5 ⟨ya, yc, ys, za, zc, us, Ys, rfl, R1, R2, -, H2, -, hb⟩
  have RE := Lib.hid (RE.out.below hb); have B := Lib.hid (bthen B.out hb); have BX := Lib.hid (BX.out.below hb)
  have RP := Lib.hid (RP.out.below hb); have RG := Lib.hid (RG.out.below hb)
  have YL := Lib.hid R2.out.len; have YN := Lib.hid R1.out.len
  clear hb F1 q0 q1 q2 q3 q4 q5 q6
  obtain ⟨q5, q0, q1, q2, q3, q4, q6⟩ := BX.out
  have k1 := fun W => impl_ValidOptimizer (kd : Int) r b1 b2 ep W
  rw [inB_iff.2 ⟨by omega, by omega⟩] at k1
  have K1 := Lib.hid k1; clear k1
  go_wp2_with fail
  refine (K1.out _).mono ?_
  rintro e w6 ⟨rfl, hb⟩
  have RE := Lib.hid (RE.out.below hb); have B := Lib.hid (bthen B.out hb); have BX := Lib.hid (BX.out.below hb)
  have RP := Lib.hid (RP.out.below hb); have RG := Lib.hid (RG.out.below hb); have R1 := Lib.hid (R1.out.below hb); have R2 := Lib.hid (R2.out.below hb)
  clear hb K1 q0 q1 q2 q3 q4 q5 q6
  obtain ⟨q5, q0, q1, q2, q3, q4, q6⟩ := BX.out
  have f1 := step_fit w6 kd hkd r b1 b2 ep n (by omega) ya yc ys R1.out.arg YN.out ga gc gs RG.out.arg LG.out za S zc HS.out us Ys R2.out H2.out (st + 1) (by omega)
  rw [show ((st + 1 : Nat) : Int) = (st : Int) + 1 by omega] at f1
  have F1 := Lib.hid f1; clear f1
  go_wp2_with fail
  refine F1.out.mono ?_
  rintro e w7 ⟨ta, tc, ts, ka, kc, ks, Ks, rfl, R3, R4, H3, H4, H5, hb⟩
  have RE := Lib.hid (RE.out.below hb); have B := Lib.hid (bthen B.out hb); have BX := Lib.hid (BX.out.below hb)
  have RP := Lib.hid (RP.out.below hb); have RG := Lib.hid (RG.out.below hb); have R1 := Lib.hid (R1.out.below hb); have R2 := Lib.hid (R2.out.below hb)
  have KL := Lib.hid R4.out.len; have TN := Lib.hid R3.out.len
  clear hb F1 q0 q1 q2 q3 q4 q5 q6
  go_wp2
  go_loopw [18, 19, 20, 21, 22, 23, 24] (fun i _ _ _ _ _ _ wr => ∃ j : Nat, i = .int .i64 j ∧ j ≤ n ∧ Below w7.heap.size w7 wr) (fun i _ _ _ _ _ _ _ => n - (intOf i).toNat)
  case atStart => exact ⟨0, rfl, Nat.zero_le _, Below.refl _ _⟩
  case round =>
    obtain ⟨j, rfl, hj, hd⟩ := hrel
    have HD := Lib.hid hd; clear hd
    by_cases hlt : j < n
    · have hR0 : RepFF (wr.alloc (.cells #[] 29)) wr.heap.size (wr.alloc (.cells #[] 29)).heap.size (some ⟨wr.heap.size, 0, none⟩) 0 0 [] [] := by
        refine ⟨Row.mk' (World.ownsRow_made _ _ _ (Nat.le_refl _) (Nat.zero_le _) rfl), rfl, fun i hi => by omega, fun i j hi => by omega⟩
      have HR0 := Lib.hid hR0; clear hR0
      obtain ⟨wo, hwo⟩ : ∃ x, x = wr := ⟨_, rfl⟩
      subst hwo
      go_wp2
      go_loopw [19, 20] (fun v q wt => ∃ m : Nat, q = .int .i64 m ∧ m ≤ S ∧ ∃ ad cap ms, v = .slice ad m cap ∧ Hid (RepFF wt wo.heap.size wt.heap.size ad m cap ms ((oneOf Ys j).take m)) ∧ Hid (Below wo.heap.size wo wt)) (fun _ q _ => S - (intOf q).toNat)
      case atStart => exact ⟨0, rfl, Nat.zero_le _, _, _, _, rfl, Lib.hid (by simpa using HR0.out), Lib.hid (below1 _ _)⟩
      case round =>
        clear HR0
        obtain ⟨m, rfl, hm, ad, cap, ms, rfl, HM, HB⟩ := hrel
        by_cases hlt2 : m < S
        · have hw := HD.out.trans (HB.out.mono HD.out.size)
          obtain ⟨yb, yo, yi, yci, rfl, yl, d1, f1⟩ := (R2.out.below hw).see.spot (k := m) (by rw [YL.out]; exact hlt2)
          obtain ⟨kb, ko, ki, kci, rfl, kl, d2, -⟩ := (R4.out.below hw).see.spot (k := m) (by rw [KL.out]; exact hlt2)
          obtain ⟨eb, eo, ei, eci, rfl, el, d3, f3⟩ := (RE.out.below hw).see.spot (k := m) (by simpa [zeroRows] using hlt2)
          have l1 := H2.out m (by rw [YL.out]; exact hlt2)
          rw [zero_row hlt2] at d3 f3
          rw [l1] at d1
          rw [H4.out m (by rw [KL.out]; exact hlt2)] at d2
          rw [List.length_replicate] at d3
          obtain ⟨yb2, yo2, rfl, yl2, c1⟩ := f1.spot (k := j) (by rw [l1]; exact hlt)
          obtain ⟨eb2, eo2, rfl, el2, c3⟩ := f3.spot (k := j) (by rw [List.length_replicate]; exact hlt)
          have c1 := c1 j (by rw [l1]; exact hlt)
          have c3 := c3 j (by rw [List.length_replicate]; exact hlt)
          have hx := f1.lt ((Ys.getD m []).getD j 0) (mem_getD (by rw [l1]; exact hlt))
          have ht := oneOf_take (Ys := Ys) (i := j) (m := m) (by rw [YL.out]; exact hlt2)
          rw [show (List.replicate n 0).getD j 0 = 0 by rw [List.getD_eq_getElem?_getD, List.getElem?_replicate]; split <;> rfl] at c3
          obtain ⟨x, hxe⟩ : ∃ x, x = (Ys.getD m []).getD j 0 := ⟨_, rfl⟩
          rw [← hxe] at c1 hx ht
          have oz : FloatKind.f32.format.order 0 0 = some .eq := by decide +kernel
          have HX := Lib.hid hx; have HT := Lib.hid ht
          have HO := Lib.hid (owns_below HM.out.row.own (below1 wr (.cells #[.float .f32 x] 24)))
          clear hx ht hxe f1 f3 l1 hw
          go_wp2_with (at_builtin; refine wp_appG rfl _ _ 31 rfl wo.heap.size j0 (.slice none 0 0) 1 24 Try.underlying31 hj2 hy0 hy1 hy2 rfl (by decide) rfl (one_cell _ rfl) _ _ _ rfl HO.out (show Value.slice (some ⟨wr.heap.size + 1, 0, none⟩) 1 1 = _ by simp) ?c3 ?c4 ?c5 ?_)
          case c3 => unfold maxLen; omega
          case c4 => omega
          case c5 => simp; have := HB.out.size; omega
          intro v' w9 hown1 hgr1 hb1 hbs1
          obtain ⟨ad', cap', rfl, hs⟩ := HM.out.snoc HB.out.size (below1 wr (.cells #[.float .f32 x] 24)) (repF_lit wr wr.heap.size x (Nat.le_refl _) HX.out) hown1 hgr1
          rw [← HT.out] at hs
          have HS9 := Lib.hid hs
          have HB9 := Lib.hid ((HB.out.trans ((below1 wr (.cells #[.float .f32 x] 24)).mono HB.out.size)).trans hb1)
          clear hs hown1 hgr1 hb1 d1 d2 d3 c1 c3
          go_wp2
          go_roundw
          case rel => exact ⟨m + 1, by go_num, hlt2, _, _, _, rfl, HS9, HB9⟩
          case measure => simp [intOf]; omega
        · have hmS : m = S := by omega
          subst hmS
          rw [List.take_of_length_le (by rw [oneOf_length, YL.out]; exact Nat.le_refl _)] at HM
          have hw := HD.out.trans (HB.out.mono HD.out.size)
          have g1 := R1.out.arg.below hw
          have g2 := RG.out.arg.below hw
          obtain ⟨pb, po, rfl, _, _⟩ := g1.spot (k := j) (by rw [YN.out]; exact hlt)
          obtain ⟨gb, go, rfl, _, _⟩ := g2.spot (k := j) (by rw [LG.out]; exact hlt)
          have m1 := g1.len; have m2 := g2.len; have m3 := g1.cap; have m4 := g2.cap
          rw [YN.out] at m1
          rw [LG.out] at m2
          have G1 := Lib.hid (g1.one (i := j) (by rw [YN.out]; exact hlt))
          have G2 := Lib.hid (g2.one (i := j) (by rw [LG.out]; exact hlt))
          have BXr := Lib.hid (BX.out.below hw)
          have HW := Lib.hid hw
          have OL := Lib.hid (fun i (hi : i < (oneOf Ys j).length) => show ((oneOf Ys j).getD i []).length = 1 by rw [oneOf_length] at hi; rw [oneOf_getD hi]; rfl)
          unfold maxLen at m3 m4
          obtain ⟨q5, q0, q1, q2, q3, q4, q6⟩ := BXr.out
          have t1 : IntKind.i64.wrap ((j : Int) + 1) = (j : Int) + 1 := wrap_one (by omega)
          have t2 : (0 : Int) ≤ (j : Int) + 1 := by omega
          have t3 : (j : Int) + 1 ≤ (yc : Int) := by omega
          have t4 : (j : Int) + 1 ≤ (gc : Int) := by omega
          have t5 : ((j : Int) + 1).toNat = j + 1 := by omega
          have t6 : ¬ (yc = j) := by omega
          have t7 : ¬ (gc = j) := by omega
          clear g1 g2 hw
          go_wp2
          refine wp_region_call 14 (fun f args u => False) _ rfl rfl (by kernel_rfl) (by kernel_rfl) ?_
          iterate 14 (refine wset_step (fun K hK nq => ?_); go_simp; refine hK _ ?_; clear hK K)
          refine wset_nil ?_
          rintro w' ⟨q, rfl⟩
          go_simp
          have hwq : Below wr.heap.size wr (wr.drewN q) := below_drewN (Below.refl _ _) _
          have f1 := step_fit (wr.drewN q) kd hkd r b1 b2 ep 1 (by omega) _ _ _ (G1.out.below hwq) rfl _ _ _ (G2.out.below hwq) rfl ad m cap HS.out ms (oneOf Ys j) (HM.out.below hwq) OL.out (st + 1) (by omega)
          rw [show ((st + 1 : Nat) : Int) = (st : Int) + 1 by omega] at f1
          have t8 : IntKind.i64.wrap ((st : Int) + 1) = (st : Int) + 1 := wrap_one (by omega)
          rw [t8]
          refine f1.mono ?_
          rintro e w8 ⟨aa, ac, az, ba, bc, bs, Bs, rfl, Q1, Q2, Q3, Q4, Q5, hb⟩
          have HW8 := Lib.hid (HW.out.trans ((hwq.trans hb).mono HW.out.size))
          refine ⟨_, rfl, ?_⟩
          clear f1 hb hwq t8
          repeat (refine wset_step (fun K hK nq => ?_); go_simp; refine hK _ ?_; clear hK K)
          refine wset_nil ?_
          rintro w' ⟨dq2, rfl⟩
          have Q1 := Lib.hid (Q1.out.below (below_drewN (Below.refl _ _) dq2)); have Q2 := Lib.hid (Q2.out.below (below_drewN (Below.refl _ _) dq2))
          have HW8 := Lib.hid (below_drewN HW8.out dq2)
          generalize w8.drewN dq2 = w9 at Q1 Q2 HW8 ⊢
          have AL := Lib.hid Q1.out.len; have BL := Lib.hid Q2.out.len
          obtain ⟨ab, ao, rfl, _, k1⟩ := Q1.out.arg.spot (k := 0) (by rw [AL.out]; omega)
          have k1 := k1 0 (by rw [AL.out]; omega)
          rw [Nat.add_zero] at k1
          have g3 := R3.out.arg.below HW8.out
          obtain ⟨tb, to, rfl, _, k2⟩ := g3.spot (k := j) (by rw [TN.out]; exact hlt)
          have k2 := k2 j (by rw [TN.out]; exact hlt)
          have l1 := Q1.out.arg.lt _ (mem_getD (k := 0) (by rw [AL.out]; omega))
          have l2 := g3.lt _ (mem_getD (k := j) (by rw [TN.out]; exact hlt))
          have he := (Q3.out 0 (by omega)).trans (stO_one.trans (H3.out j hlt).symm)
          obtain ⟨x, hx⟩ : ∃ x, x = az.getD 0 0 := ⟨_, rfl⟩
          obtain ⟨y, hy⟩ : ∃ y, y = ts.getD j 0 := ⟨_, rfl⟩
          rw [← hx] at k1 l1 he
          rw [← hy] at k2 l2 he
          have C := Lib.hid (fun W => spec_SameNumber x y l1 l2 W)
          have hdt : decide (cn .f32 x = cn .f32 y) = true := decide_eq_true he
          rw [hdt] at C
          clear g3 l1 l2 he hdt hx hy q0 q1 q2 q3 q4 q5 q6 G1 G2 OL BXr HM t1 t2 t3 t4 t5 t6 t7 m1 m2 m3 m4
          have HE5 := Lib.hid (slots_one (by rw [HS.out]; exact slotsN_le _) hlt Q5.out H5.out stU_one stV_one)
          go_wp2
          refine wp_region_drawn (fun f args u => Hid (u = .bool true)) (by kernel_rfl) (by kernel_rfl) ?_
          repeat (refine wset_step (fun K hK nq => ?_); go_simp; refine hK _ ?_; clear hK K)
          refine wset_step (fun K hK nq => ?_)
          go_simp
          refine ⟨(C.out _).mono ?_, ?_⟩
          · rintro e w' ⟨rfl, q, rfl⟩
            exact ⟨_, rfl, by first | exact ⟨_, World.drewN_drewN _ _ _⟩ | exact drawn_more3 _ _ _ _ _ | exact drawn_more4 _ _ _ _, Lib.hid rfl⟩
          rintro u hu
          obtain rfl := hu.out
          clear hu
          refine hK _ ?_
          clear hK K
          repeat (refine wset_step (fun K hK nq => ?_); go_simp; refine hK _ ?_; clear hK K)
          refine wset_nil ?_
          rintro w' ⟨dq3, rfl⟩
          clear k1 k2 C
          go_wp2
          have BN := Lib.hid Q4.out; have KN := Lib.hid H4.out
          go_loopw [24] (fun q wt => ∃ z : Nat, q = .int .i64 z ∧ z ≤ m ∧ Dr w9 wt) (fun q _ => m - (intOf q).toNat)
          case atStart => exact ⟨0, rfl, Nat.zero_le _, (Dr.refl _).drewN _⟩
          case round =>
            obtain ⟨z, rfl, hz, hd⟩ := hrel
            have HZ := Lib.hid hd; clear hd
            by_cases hlt3 : z < m
            · have he := HE5.out z hlt3
              obtain ⟨bb, bo2, bi, bci, rfl, _, d1, f1⟩ := (Q2.out.below HZ.out.below).see.spot (k := z) (by rw [BL.out]; exact hlt3)
              obtain ⟨kb, ko, ki, kci, rfl, _, d2, f2⟩ := (R4.out.below (HW8.out.trans (HZ.out.below.mono HW8.out.size))).see.spot (k := z) (by rw [KL.out]; exact hlt3)
              have m1 := BN.out z (by rw [BL.out]; exact hlt3)
              have m2 := KN.out z (by rw [KL.out]; exact hlt3)
              rw [m1] at d1
              rw [m2] at d2
              obtain ⟨bb2, bo3, rfl, _, k1⟩ := f1.spot (k := 0) (by rw [m1]; omega)
              obtain ⟨kb2, ko3, rfl, _, k2⟩ := f2.spot (k := j) (by rw [m2]; exact hlt)
              have k1 := k1 0 (by rw [m1]; omega)
              have k2 := k2 j (by rw [m2]; exact hlt)
              rw [Nat.add_zero] at k1
              have l1 := f1.lt _ (mem_getD (k := 0) (by rw [m1]; omega))
              have l2 := f2.lt _ (mem_getD (k := j) (by rw [m2]; exact hlt))
              obtain ⟨x, hx⟩ : ∃ x, x = (Bs.getD z []).getD 0 0 := ⟨_, rfl⟩
              obtain ⟨y, hy⟩ : ∃ y, y = (Ks.getD z []).getD j 0 := ⟨_, rfl⟩
              rw [← hx] at k1 l1 he
              rw [← hy] at k2 l2 he
              have C := Lib.hid (fun W => spec_SameNumber x y l1 l2 W)
              have hdt : decide (cn .f32 x = cn .f32 y) = true := decide_eq_true he
              rw [hdt] at C
              clear f1 f2 m1 m2 l1 l2 he hdt hx hy
              go_wp2
              refine wp_region_drawn (fun f args u => Hid (u = .bool true)) (by kernel_rfl) (by kernel_rfl) ?_
              repeat (refine wset_step (fun K hK nq => ?_); go_simp; refine hK _ ?_; clear hK K)
              refine wset_step (fun K hK nq => ?_)
              go_simp
              refine ⟨(C.out _).mono ?_, ?_⟩
              · rintro e w' ⟨rfl, q, rfl⟩
                exact ⟨_, rfl, by first | exact ⟨_, World.drewN_drewN _ _ _⟩ | exact drawn_more3 _ _ _ _ _ | exact drawn_more4 _ _ _ _, Lib.hid rfl⟩
              rintro u hu
              obtain rfl := hu.out
              clear hu
              refine hK _ ?_
              clear hK K
              repeat (refine wset_step (fun K hK nq => ?_); go_simp; refine hK _ ?_; clear hK K)
              refine wset_nil ?_
              rintro w' ⟨dq4, rfl⟩
              clear k1 k2 C d1 d2
              go_wp2
              refine ⟨?rel, ?measure⟩
              case rel => exact ⟨z + 1, by go_num, hlt3, HZ.out.drewN _⟩
              case measure => simp [intOf]; omega
            · have hb9 := HW8.out.trans (HZ.out.below.mono HW8.out.size)
              have HB9 := Lib.hid hb9
              clear hb9
              go_wp2
              refine ⟨?rel, ?measure⟩
              case rel => exact ⟨j + 1, by go_num, hlt, HB9.out⟩
              case measure => simp [intOf]; omega
    · obtain ⟨i0, hi, hz0, hz1, hz2⟩ := info_parts info_f32
      have hb5 := BX.out.below HD.out
      obtain ⟨q5, q0, q1, q2, q3, q4, q6⟩ := hb5
      have hmk := fun W : World => run_make_full (P := Try.prog) W W.heap.size 29 24 i0 (.float .f32 0) 1 Try.underlying29 hi hz0 hz1 .i64 .i64 n (by rw [hz2]; omega) (by unfold maxLen; omega) (Nat.le_refl _)
      obtain ⟨mf, hmf⟩ := Classical.skolem.1 hmk
      have hm1 := fun W => (hmf W).1
      have hbm : ∀ W : World, Below W.heap.size W (mf W) := fun W => (Below.refl _ _).grown (hmf W).2.2 (Nat.le_refl _) (fun k e => by cases e)
      have hzr : ∀ W : World, RepF (mf W) W.heap.size (mf W).heap.size (some ⟨W.heap.size, 0, none⟩) n n (List.replicate n 0) := fun W => zeros_rep (by have := (hmf W).2.1; rwa [Nat.mul_one] at this)
      have hal : ∀ W : World, RepFF (W.alloc (.cells #[] 29)) W.heap.size (W.alloc (.cells #[] 29)).heap.size (some ⟨W.heap.size, 0, none⟩) 0 0 [] [] := fun W =>
        ⟨Row.mk' (World.ownsRow_made _ _ _ (Nat.le_refl _) (Nat.zero_le _) rfl), rfl, fun i hi => by omega, fun i j hi => by omega⟩
      have hbd : Below wr.heap.size wr wr.drew := Below.drew (Below.refl _ _)
      have hkeep : ∀ W : World, wr.heap.size ≤ W.heap.size → (mf W).cell? ⟨bo, 1, none⟩ = W.cell? ⟨bo, 1, none⟩ := fun W hW => (hbm W).cell (p := ⟨bo, 1, none⟩) (by show bo < W.heap.size; omega)
      have hp := RP.out.arg.below HD.out
      have FA := step_plain ((mf wr.drew).alloc (.cells #[] 29)) r HR.out n (by omega) pa pc ps (((hp.below hbd).below (hbm _)).below (below1 _ _)) LP.out (some ⟨wr.heap.size, 0, none⟩) n ((hzr wr.drew).arg.below (below1 _ _)) (some ⟨(mf wr.drew).heap.size, 0, none⟩) 0 (hal _) st (by omega)
      have FB := step_plain (mf ((wr.alloc (.cells #[] 29)).drew)) r HR.out n (by omega) pa pc ps (((hp.below (below1 wr (.cells #[] 29))).below (Below.drew (Below.refl _ _))).below (hbm _)) LP.out (some ⟨wr.heap.size + 1, 0, none⟩) n (by have := (hzr ((wr.alloc (.cells #[] 29)).drew)).arg; rw [show ((wr.alloc (.cells #[] 29)).drew).heap.size = wr.heap.size + 1 from by show (wr.alloc (.cells #[] 29)).heap.size = _; simp] at this; exact this) (some ⟨wr.heap.size, 0, none⟩) 0 (((hal wr).below (Below.drew (Below.refl _ _))).below (hbm _)) st (by omega)
      have BA := ((hbd.trans ((hbm wr.drew).mono (Nat.le_refl _))).trans ((below1 (mf wr.drew) (.cells #[] 29)).mono (hbm wr.drew).size))
      have BB : Below wr.heap.size wr (mf ((wr.alloc (.cells #[] 29)).drew)) := (Below.drew (below1 wr (.cells #[] 29))).trans ((hbm _).mono (by show wr.heap.size ≤ (wr.alloc (.cells #[] 29)).heap.size; simp))
      have HFA := Lib.hid FA; have HFB := Lib.hid FB; have HBA := Lib.hid BA; have HBB := Lib.hid BB
      have hsz := (hbm wr.drew).size
      have hsz2 := HBB.out.size
      have hsz3 : wr.drew.heap.size = wr.heap.size := rfl
      have hn1 : (mf wr.drew).heap.size ≠ bo := by omega
      have hn2 : wr.heap.size ≠ bo := by omega
      have kc1 : (mf wr.drew).cell? ⟨bo, 1, none⟩ = some (.float .f32 r) := (hkeep wr.drew (Nat.le_refl _)).trans q1
      have kc2 : (mf ((wr.alloc (.cells #[] 29)).drew)).cell? ⟨bo, 1, none⟩ = some (.float .f32 r) := (hkeep _ (by show wr.heap.size ≤ (wr.alloc (.cells #[] 29)).heap.size; simp)).trans (by go_simp)
      clear FA FB BA BB hzr hal hbm hmf hmk hp hkeep
      go_wp2
      go_region_held3 (fun w' => w'.cell? ⟨bo, 1, none⟩ = some (.float .f32 r)) (go_keep)
        (first
          | (go_at_call 12; with_reducible refine HFA.out.mono ?_; rintro e w' ⟨aa, ac, az, ba, bc, rfl, Z1, Z2, Z3, hb⟩; have hbo := hb.cell (p := ⟨bo, 1, none⟩) (show bo < _ by simp; omega); have HB8 := Lib.hid (HBA.out.trans (hb.mono HBA.out.size)))
          | (go_at_call 12; with_reducible refine HFB.out.mono ?_; rintro e w' ⟨aa, ac, az, ba, bc, rfl, Z1, Z2, Z3, hb⟩; have hbo := hb.cell (p := ⟨bo, 1, none⟩) (show bo < _ by omega); have HB8 := Lib.hid (HBB.out.trans (hb.mono HBB.out.size))))
      all_goals
        have hp2 := (RP.out.arg.below HD.out).below HB8.out
        have SA := Lib.hid (fun W h1 h2 => b10_same W aa pa ac pc az ps h1 h2 n Z2.out LP.out Z3.out)
        have HP2 := Lib.hid hp2
        have BE := Lib.hid (bthen (bthen B.out HD.out) HB8.out)
        clear hb hbo kc1 kc2 hp2
        go_wp2_with fail
        refine (SA.out _ Z1.out HP2.out).mono ?_
        rintro e w'' ⟨rfl, hd⟩
        go_wp2
        go_ret
        exact ⟨rfl, bthen BE.out hd.below⟩
end Go.Proofs.Ytnhikdjljjemlaa
