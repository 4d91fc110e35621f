/- Joined texts 4: Ow7 Rg3 Rg4 Ts0 Ts1 Ts3. Each is told at its own head. No condition. -/
import Derived.WalkSmall
import Derived.Maps.AppendAt
import Derived.Deep.AppendLies
import Derived.Deep.RegionHeld3
import Derived.Deep.RegionLaw
import Derived.Deep.CutRange
import Derived.Deep.DeepCutAuto
import Derived.Test.YtnkikigfpdngdaaMc0
import Derived.Test.YtnkikigfpdngdaaMc1
import Derived.Test.YtnkikigfpdngdaaMc3
/- What marking lists of operations does. No condition. -/
namespace Go.Proofs.Ytnkikigfpdngdaa
open Go Go.RowKit
set_option linter.unusedVariables false
set_option linter.unusedSimpArgs false
theorem set_same {α : Type} {us : List α} {i : Nat} {a : α} (h : us[i]? = some a) : us.set i a = us := by
  obtain ⟨hi, rfl⟩ := List.getElem?_eq_some_iff.1 h
  exact List.set_getElem_self hi
theorem set_mid {α : Type} (A B : List α) (o p : α) : (A ++ o :: B).set A.length p = A ++ p :: B := by
  rw [List.set_append, if_neg (by omega), Nat.sub_self, List.set_cons_zero]
theorem get_mid {α : Type} (A B : List α) (o : α) : (A ++ o :: B)[A.length]? = some o := by
  rw [List.getElem?_append_right (Nat.le_refl _), Nat.sub_self]; rfl
theorem split_at {α : Type} {us : List α} {k : Nat} (h : k < us.length) : ∃ A o B, us = A ++ o :: B ∧ A.length = k :=
  ⟨us.take k, us[k], us.drop (k + 1), by rw [List.getElem_cons_drop, List.take_append_drop], by simp; omega⟩
theorem setL_append (vs : List Value) (i : Nat) (cs ds : List Value) : setL vs i (cs ++ ds) = setL (setL vs i cs) (i + cs.length) ds := by
  induction cs generalizing vs i with
  | nil => rfl
  | cons c cs ih =>
    show setL (vs.set i c) (i + 1) (cs ++ ds) = _
    rw [ih, List.length_cons, Nat.add_right_comm, Nat.add_assoc]; rfl
theorem setL_get (vs : List Value) (i : Nat) (cs : List Value) (j : Nat) (h : j < i ∨ i + cs.length ≤ j) : (setL vs i cs)[j]? = vs[j]? := by
  induction cs generalizing vs i with
  | nil => rfl
  | cons c cs ih =>
    show (setL (vs.set i c) (i + 1) cs)[j]? = _
    rw [ih _ _ (by simp at h; omega), List.getElem?_set_ne (by simp at h; omega)]
/-- the marks of an operation -/
def markO (k0 : Nat) (o : OpD) : OpD := ⟨⟨(k0 : Nat), (k0 + 1 : Nat), (k0 + 2 : Nat), floatOfInt .f32 (k0 + 3 : Nat), (k0 + 4 : Nat), (k0 + 5 : Nat), markF (k0 + 6) o.xs.length⟩, o.ad, o.cap⟩
def OpD.w (o : OpD) : Nat := 6 + o.xs.length
def totO (os : List OpD) : Nat := (os.map OpD.w).sum
def markOs : Nat → List OpD → List OpD
  | _, [] => []
  | k0, o :: os => markO k0 o :: markOs (k0 + o.w) os
theorem totO_snoc (A : List OpD) (o : OpD) : totO (A ++ [o]) = totO A + o.w := by simp [totO]
theorem totO_append (A B : List OpD) : totO (A ++ B) = totO A + totO B := by simp [totO]
theorem totO_cons (o : OpD) (B : List OpD) : totO (o :: B) = o.w + totO B := by simp [totO]
theorem markOs_length (k0 : Nat) (A : List OpD) : (markOs k0 A).length = A.length := by
  induction A generalizing k0 with
  | nil => rfl
  | cons o A ih => simp [markOs, ih]
theorem markOs_snoc (k0 : Nat) (A : List OpD) (o : OpD) : markOs k0 (A ++ [o]) = markOs k0 A ++ [markO (k0 + totO A) o] := by
  induction A generalizing k0 with
  | nil => simp [markOs, totO]
  | cons p A ih => rw [List.cons_append, markOs, ih, totO_cons, markOs, List.cons_append, Nat.add_assoc]
theorem nat_wf {k : Nat} (h : k ≤ 1000000000) : (Lit.int .i64 (k : Int)).wf = true := by
  simp [Lit.wf, IntKind.min, IntKind.max, IntKind.signed, IntKind.bits]
  omega
theorem markO_ok (k0 : Nat) (o : OpD) (h : k0 + 10 ≤ 1000000000) : (markO k0 o).ok :=
  ⟨markF_lt _ _, markF_lt (k0 + 3) 1 _ (by simp [markF, markO]), nat_wf (by omega), nat_wf (by omega), nat_wf (by omega), nat_wf (by omega), nat_wf (by omega)⟩
/-- an operation is marked: its cells, then its numbers -/
theorem OwnR.markAt {w w2 : World} {lo hi n cap g k0 : Nat} {A B : List OpD} {o : OpD} (h : OwnR opR w lo hi (some ⟨g, 0, none⟩) n cap (A ++ o :: B)) (hk : k0 ≤ 100000000)
    (ho : w2.ownsRow lo 33 1 (.slice o.ad o.xs.length o.cap) o.xs.length ((markF (k0 + 6) o.xs.length).map (Value.float .f32)))
    (hg : (setCs w g (A.length * 7) [.int .i64 (k0 : Nat), .int .i64 (k0 + 1 : Nat), .int .i64 (k0 + 2 : Nat), .float .f32 (floatOfInt .f32 (k0 + 3 : Nat)), .int .i64 (k0 + 4 : Nat), .int .i64 (k0 + 5 : Nat)]).grownBy w2 (Value.slice o.ad o.xs.length o.cap).ownBlock) :
    OwnR opR w2 lo hi (some ⟨g, 0, none⟩) n cap (A ++ markO k0 o :: B) := by
  have h1 := setCs_own h.own (A.length * 7) [.int .i64 (k0 : Nat), .int .i64 (k0 + 1 : Nat), .int .i64 (k0 + 2 : Nat), .float .f32 (floatOfInt .f32 (k0 + 3 : Nat)), .int .i64 (k0 + 4 : Nat), .int .i64 (k0 + 5 : Nat)]
  have e1 : (A ++ o :: B).flatMap opR.inn = A.flatMap opR.inn ++ floatRow o.ad o.cap o.xs :: B.flatMap opR.inn := by
    rw [List.flatMap_append, List.flatMap_cons]; rfl
  have e2 : (A ++ markO k0 o :: B).flatMap opR.inn = A.flatMap opR.inn ++ floatRow o.ad o.cap (markF (k0 + 6) o.xs.length) :: B.flatMap opR.inn := by
    rw [List.flatMap_append, List.flatMap_cons]; rfl
  rw [e1, ← List.cons_append] at h1
  have hl : (markF (k0 + 6) o.xs.length).length = o.xs.length := markF_length _ _
  have h2 := h1.setAt (y := floatRow o.ad o.cap (markF (k0 + 6) o.xs.length)) hg (by
    refine ⟨?_, ?_⟩
    · show w2.ownsRow lo 33 1 (.slice o.ad (markF (k0 + 6) o.xs.length).length o.cap) (markF (k0 + 6) o.xs.length).length _
      rw [hl]; exact ho
    · intro g' e
      have h3 := (h1.row (floatRow o.ad o.cap o.xs) (List.mem_append_right _ (List.mem_cons_self ..))).top g'
      have e5 : (Value.slice o.ad (markF (k0 + 6) o.xs.length).length o.cap).ownBlock = some g' := e
      rw [hl] at e5
      exact h3 e5) (by show Value.slice o.ad (markF (k0 + 6) o.xs.length).length o.cap = Value.slice o.ad o.xs.length o.cap; rw [hl])
  rw [List.cons_append, ← e2] at h2
  have e3 : (A ++ markO k0 o :: B).flatMap opR.cells = setL ((A ++ o :: B).flatMap opR.cells) (A.length * 7) [.int .i64 (k0 : Nat), .int .i64 (k0 + 1 : Nat), .int .i64 (k0 + 2 : Nat), .float .f32 (floatOfInt .f32 (k0 + 3 : Nat)), .int .i64 (k0 + 4 : Nat), .int .i64 (k0 + 5 : Nat)] := by
    have h3 := flat_set opR (A ++ o :: B) (k := A.length) (by simp) (markO k0 o)
    rw [set_mid] at h3
    rw [← h3]
    have e4 : opR.cells (markO k0 o) = [.int .i64 (k0 : Nat), .int .i64 (k0 + 1 : Nat), .int .i64 (k0 + 2 : Nat), .float .f32 (floatOfInt .f32 (k0 + 3 : Nat)), .int .i64 (k0 + 4 : Nat), .int .i64 (k0 + 5 : Nat)] ++ [.slice o.ad o.xs.length o.cap] := by
      show OpD.cells (markO k0 o) = _
      unfold OpD.cells markO
      simp [hl]
    rw [e4, setL_append]
    refine set_same ?_
    rw [setL_get _ _ _ _ (.inr (by simp))]
    exact (flat_at opR (A ++ o :: B) (k := A.length) (j := 6) (get_mid A B o) (by decide)).trans rfl
  refine ⟨?_, ?_, fun p hp => ?_⟩
  · rw [e3]; exact h2
  · have := h.len; simp at this ⊢; exact this
  · rcases List.mem_append.1 hp with hp | hp
    · exact h.ok p (List.mem_append_left _ hp)
    · rcases List.mem_cons.1 hp with rfl | hp
      · exact markO_ok _ _ (by omega)
      · exact h.ok p (List.mem_append_right _ (List.mem_cons_of_mem _ hp))
set_option maxHeartbeats 4000000 in
set_option maxRecDepth 100000 in
theorem OS_mark (w : World) {lo hi : Nat} {ad : Option Addr} {n cap : Nat} {os : List OpD} (k0 : Nat) (h : OwnR opR w lo hi ad n cap os) (hhi : hi ≤ w.heap.size) (hn : n ≤ 1048576) (hk : k0 + totO os ≤ 10000000) (hi2 : ∀ o ∈ os, o.xs.length ≤ 1048576) :
    Calls Try.prog 75 #[.slice ad n cap, .int .i64 k0] w fun e w' => e = .returned (.int .i64 (k0 + totO os : Nat)) ∧ Hid (OwnR opR w' lo hi ad n cap (markOs k0 os)) ∧ Touch lo hi w w' := by
  have HN := Lib.hid h.len; have HI2 := Lib.hid hi2; have HH := Lib.hid h; clear hi2 h
  go_enter Try.func75, Try.ntmps75
  go_wp2
  go_loopw [1, 5] (fun q i wt => ∃ k k1 : Nat, i = .int .i64 k ∧ q = .int .i64 k1 ∧ k ≤ n ∧ k1 ≤ 10000000 ∧ Hid (∃ A B, os = A ++ B ∧ A.length = k ∧ k1 = k0 + totO A ∧ OwnR opR wt lo hi ad n cap (markOs k0 A ++ B)) ∧ Hid (Touch lo hi w wt)) (fun _ i _ => n - (intOf i).toNat)
  case atStart => exact ⟨0, k0, rfl, rfl, Nat.zero_le _, by omega, Lib.hid ⟨[], os, rfl, rfl, rfl, HH.out⟩, Lib.hid (Touch.refl _ _ _)⟩
  case round =>
    clear HH
    obtain ⟨k, k1, rfl, rfl, hkn, hk1, HX, HT⟩ := hrel
    by_cases hlt : k < n
    · obtain ⟨A, B0, e1, e2, e3, hown⟩ := HX.out
      cases B0 with
      | nil => exfalso; have := HN.out; rw [e1, List.append_nil] at this; omega
      | cons o B =>
        have HE1 := Lib.hid e1; have HE3 := Lib.hid e3; have HE2 := Lib.hid e2; have HO := Lib.hid hown
        have hml : (markOs k0 A).length = k := by rw [markOs_length, e2]
        have HML := Lib.hid hml
        have hget := get_mid (markOs k0 A) B o
        rw [hml] at hget
        obtain ⟨g, rfl, hgr, ⟨p0, p1, p2, p3, p4, p5, p6⟩, hfz, hrf⟩ := op_own hown hget
        have hmb := HI2.out o (by rw [e1]; simp)
        have htot : k1 + o.w ≤ 10000000 := by
          have := hk
          rw [e1, totO_append, totO_cons] at this
          omega
        unfold OpD.w at htot
        have hm := fun W (ho : W.ownsRow lo 33 1 (.slice o.ad o.xs.length o.cap) o.xs.length (o.xs.map (Value.float .f32))) => laws_markFloat32S lo o.ad o.cap o.xs.length (o.xs.map (Value.float .f32)) (k1 + 6) W hmb (by omega) ho
        have HM := Lib.hid hm
        have hW := (setCs_own hown.own (k * 7) [.int .i64 (k1 : Nat), .int .i64 (k1 + 1 : Nat), .int .i64 (k1 + 2 : Nat), .float .f32 (floatOfInt .f32 (k1 + 3 : Nat)), .int .i64 (k1 + 4 : Nat), .int .i64 (k1 + 5 : Nat)]).row (floatRow o.ad o.cap o.xs) (List.mem_cons_of_mem _ (List.mem_flatMap.2 ⟨o, by simp, List.mem_singleton.2 rfl⟩))
        have HW := Lib.hid hW.own
        have htw := ((setCs_touch wr g (k * 7) [.int .i64 (k1 : Nat), .int .i64 (k1 + 1 : Nat), .int .i64 (k1 + 2 : Nat), .float .f32 (floatOfInt .f32 (k1 + 3 : Nat)), .int .i64 (k1 + 4 : Nat), .int .i64 (k1 + 5 : Nat)]).mono hgr.1 hgr.2.1)
        have HTW := Lib.hid htw; have HRF := Lib.hid hW
        clear e1 e2 e3 hown hget hrf hm hW htw hml hgr
        obtain ⟨m, hm0⟩ : ∃ m, m = o.xs.length := ⟨_, rfl⟩
        rw [← hm0] at p6 hmb htot HM
        have HM0 := Lib.hid hm0; clear hm0
        go_wp2_with fail
        refine (HM.out _ (by rw [HM0.out]; exact HW.out)).mono ?_
        rintro e w2 ⟨rfl, ho2, hg2⟩
        have hmk := OwnR.markAt (A := markOs k0 A) (B := B) (o := o) HO.out (k0 := k1) (by omega) (by rw [← HM0.out]; exact ho2) (by rw [HML.out, ← HM0.out]; exact hg2)
        have ht2 : Touch lo hi w w2 := HT.out.trans (HTW.out.trans (Touch.of_grown HRF.out (by rw [floatRow, RowD.val, ← HM0.out]; exact hg2)))
        have HMK := Lib.hid hmk; have HT2 := Lib.hid ht2
        clear hmk ht2 ho2 hg2 HO HTW HRF HW p0 p1 p2 p3 p4 p5 p6 hfz HM HT
        go_wp2
        refine ⟨?rel, ?measure⟩
        case rel => exact ⟨k + 1, k1 + 6 + m, by go_num, by go_num, hlt, by omega, Lib.hid ⟨A ++ [o], B, by rw [HE1.out]; simp, by simp [HE2.out], by rw [totO_snoc, HE3.out, OpD.w, HM0.out]; omega, by rw [markOs_snoc, ← HE3.out, List.append_assoc]; exact HMK.out⟩, HT2⟩
        case measure => simp [intOf]; omega
    · have hkn2 : k = n := by omega
      subst hkn2
      obtain ⟨A, B, e1, e2, e3, hown⟩ := HX.out
      have hB : B = [] := by
        have := HN.out; rw [e1, List.length_append, e2] at this
        exact List.eq_nil_of_length_eq_zero (by omega)
      subst hB
      rw [List.append_nil] at e1 hown
      subst e1
      have HO := Lib.hid hown; clear hown HX
      subst e3
      clear e2
      go_wp2
      go_ret
      exact ⟨rfl, HO, HT.out⟩
theorem markOs_at (k0 : Nat) (A B : List OpD) (o : OpD) : (markOs k0 (A ++ o :: B))[A.length]? = some (markO (k0 + totO A) o) := by
  induction A generalizing k0 with
  | nil => simp [markOs, totO]
  | cons p A ih => rw [List.cons_append, markOs, List.length_cons, List.getElem?_cons_succ, ih, totO_cons, Nat.add_assoc]
set_option maxHeartbeats 4000000 in
set_option maxRecDepth 100000 in
theorem OS_held (w : World) {ad : Option Addr} {n cap : Nat} {os : List OpD} (k0 : Nat) (h : SeeR opR w ad cap (markOs k0 os)) (hl : os.length = n) (hn : n ≤ 1048576) (hk : k0 + totO os ≤ 10000000) (hi2 : ∀ o ∈ os, o.xs.length ≤ 1048576) :
    Calls Try.prog 77 #[.slice ad n cap, .int .i64 k0] w fun e w' => e = .returned (.int .i64 (k0 + totO os : Nat)) ∧ w = w' := by
  have HN := Lib.hid hl; have HI2 := Lib.hid hi2; have HH := Lib.hid h; clear hi2 h hl
  go_enter Try.func77, Try.ntmps77
  go_wp2
  go_loop [1, 5] (fun q i => ∃ k k1 : Nat, i = .int .i64 k ∧ q = .int .i64 k1 ∧ k ≤ n ∧ k1 ≤ 10000000 ∧ Hid (∃ A B, os = A ++ B ∧ A.length = k ∧ k1 = k0 + totO A)) (fun _ i => n - (intOf i).toNat)
  case atStart => exact ⟨0, k0, rfl, rfl, Nat.zero_le _, by omega, Lib.hid ⟨[], os, rfl, rfl, rfl⟩⟩
  case round =>
    obtain ⟨k, k1, rfl, rfl, hkn, hk1, HX⟩ := hrel
    by_cases hlt : k < n
    · obtain ⟨A, B0, e1, e2, e3⟩ := HX.out
      cases B0 with
      | nil => exfalso; have := HN.out; rw [e1, List.append_nil] at this; omega
      | cons o B =>
        have HE1 := Lib.hid e1; have HE3 := Lib.hid e3; have HE2 := Lib.hid e2
        have hget := markOs_at k0 A B o
        rw [← e1, e2, ← e3] at hget
        obtain ⟨b, off, rfl, hb, ⟨p0, p1, p2, p3, p4, p5, p6⟩, hf, hok⟩ := op_spot HH.out hget
        have hmb := HI2.out o (by rw [e1]; simp)
        have htot : k1 + o.w ≤ 10000000 := by
          have := hk
          rw [e1, totO_append, totO_cons] at this
          omega
        unfold OpD.w at htot
        simp only [markO, markF_length] at p0 p1 p2 p3 p4 p5 p6 hf
        obtain ⟨m, hm0⟩ : ∃ m, m = o.xs.length := ⟨_, rfl⟩
        rw [← hm0] at p6 hmb htot hf
        have hheld := fun W hW => laws_heldFloat32S o.ad o.cap m (markF (k1 + 6) m) (k1 + 6) W (by omega) (by omega) hW rfl
        have HM := Lib.hid hheld; have HF := Lib.hid hf
        have HM0 := Lib.hid hm0
        have ho : FloatKind.f32.format.order (floatOfInt .f32 (k1 + 3 : Nat)) (floatOfInt .f32 (k1 + 3 : Nat)) = some .eq := by rw [order_self, isN_floatOfInt]; rfl
        have ec : ((k1 + 3 : Nat) : Int) = (k1 : Int) + 1 + 1 + 1 := by omega
        rw [ec] at p3 ho
        clear e1 e2 e3 hget hheld hf hm0 ec hok
        go_wp2_with fail
        refine (HM.out _ HF.out).mono ?_
        rintro e w2 ⟨rfl, rfl⟩
        have hnn : 0 ≤ ((k1 + 6 + m : Nat) : Int) := by omega
        clear p0 p1 p2 p3 p4 p5 p6
        go_wp2
        go_round
        case rel => exact ⟨k + 1, k1 + 6 + m, by go_num, rfl, hlt, by omega, Lib.hid ⟨A ++ [o], B, by rw [HE1.out]; simp, by simp [HE2.out], by rw [totO_snoc, HE3.out, OpD.w, HM0.out]; omega⟩⟩
        case measure => simp [intOf]; omega
    · have hkn2 : k = n := by omega
      obtain ⟨A, B, e1, e2, e3⟩ := HX.out
      have hB : B = [] := by
        have := HN.out; rw [e1, List.length_append, e2] at this
        exact List.eq_nil_of_length_eq_zero (by omega)
      subst hB
      rw [List.append_nil] at e1
      subst e1
      subst e3
      clear HX e2
      go_wp2
      go_ret
      exact ⟨rfl, rfl⟩
end Go.Proofs.Ytnkikigfpdngdaa
/- A region whose order is open, whose operations read old memory and make calls that leave the old memory: one walk in the order of the text serves every order. No condition. -/
namespace Go.Proofs.Ytnkikigfpdngdaa
open Go Go.RowKit
set_option linter.unusedVariables false
section
variable {P : Program} {ops : Array Oper} {C : World → Prop} {VC : FuncId → Array Value → Value → Prop} {Q : Act → Prop} {o : Oper} {rest : List Oper} {a : Act}
/-- what is asked of one operation in a world of the class: every value that it gives leads on -/
@[go_sem] def UponC (P : Program) (VC : FuncId → Array Value → Value → Prop) (C : World → Prop) (K : Value → Prop) : Result Next → Prop
  | .ok (.value v) w' => C w' ∧ K v
  | .ok .skip w' => C w' ∧ K undef
  | .ok (.enter f args) w' => C w' ∧ (Calls P f args w' fun e w'' => ∃ v, e = .returned v ∧ C w'' ∧ VC f args v) ∧ ∀ v, VC f args v → K v
  | _ => False
theorem cset_step {w0 : World} (h0 : C w0) (h : ∀ K : Act → Prop, (∀ a, WSet P ops C VC Q rest a → K a) → ∀ W : World, C W → if Region.wanted o (yielded ops a.tmps) then UponC P VC C (fun v => K (a.put o.dst v)) ((execOp a.eval o).run P W) else K (a.put o.dst undef)) :
    WSet P ops C VC Q (o :: rest) a := by
  have h := h _ (fun _ h => h)
  refine ⟨fun hw w' hC => ?_, fun v hv => ?_⟩
  · have := h w' hC
    rw [if_pos hw] at this
    revert this
    generalize (execOp a.eval o).run P w' = r
    intro this
    unfold UponC at this
    unfold FineRes
    split at this
    · exact this.1
    · exact this.1
    · exact ⟨this.1, this.2.1⟩
    · cases this
  · rcases hv with ⟨hw, w1, w2, hC, hv⟩ | ⟨hw, rfl⟩
    · have := h w1 hC
      rw [if_pos hw] at this
      unfold UponC at this
      rcases hv with hv | ⟨hv, rfl⟩ | ⟨f, args, hv, hvc⟩
      · rw [hv] at this; exact this.2
      · rw [hv] at this; exact this.2
      · rw [hv] at this; exact this.2.2 v hvc
    · have := h w0 h0
      rwa [if_neg (by rw [hw]; exact Bool.false_ne_true)] at this
theorem cset_nil (hq : Q a) : WSet P ops C VC Q [] a := hq
/-- what two functions give -/
def VC2 (fa : FuncId) (va : Value) (fb : FuncId) (vb : Value) (f : FuncId) (args : Array Value) (u : Value) : Prop := (f = fa → u = va) ∧ (f = fb → u = vb)
theorem VC2.one {fa fb : FuncId} {va vb : Value} {args : Array Value} (h : fa ≠ fb) : VC2 fa va fb vb fa args va := ⟨fun _ => rfl, fun e => absurd e h⟩
theorem VC2.two {fa fb : FuncId} {va vb : Value} {args : Array Value} (h : fb ≠ fa) : VC2 fa va fb vb fb args vb := ⟨fun e => absurd e h, fun _ => rfl⟩
def VC1 (va : Value) (f : FuncId) (args : Array Value) (u : Value) : Prop := u = va
/-- a world in which all old memory is as it was -/
def Low (w W : World) : Prop := Below w.heap.size w W
@[go_sem] theorem low_drawn {w W : World} (h : Low w W) (n : Nat) : Low w (W.drewN n) = True := by
  exact eq_true (below_drewN h n)
theorem low_self (w : World) : Low w w := Below.refl _ _
theorem low_drew1 (w : World) : Low w { w with drawn := w.drawn + 1 } := Below.drew (Below.refl _ _)
/-- **the region, by the walk in the order of the text, in worlds in which the old memory is as it was** -/
theorem wp_region_low {id : Nat} {Q : Exit → Act → World → Prop} {a : Act} {w : World} {l : List Oper} (VC : FuncId → Array Value → Value → Prop) (hm : P.follows .mixedOrders = true) (hB : Region.lexB .any l.toArray = true)
    (h : WSet P l.toArray (Low w) VC (fun a' => ∀ w', Low w w' → Q .normal a' w') l a) : (Code.region id l.toArray true).wp P Q a w :=
  wp_region_set (Low w) VC hm hB (low_drew1 w) h
end
end Go.Proofs.Ytnkikigfpdngdaa
/- A region whose order is open, with some operations (a literal laid, a call that makes memory, an append) that come one after another, between others that only read and draw: one walk in the order of the text serves every order. No condition. -/
namespace Go.Proofs.Ytnkikigfpdngdaa
open Go Go.RowKit
set_option linter.unusedVariables false
section
variable {P : Program} {ops : Array Oper} {S : World → Prop} {VC : FuncId → Array Value → Value → Prop} {D : FuncId → Array Value → World → Value → World → Prop} {sp : List Nat}
/-- an operation that only reads and draws goes through in every world of the class -/
def GoodM (P : Program) (ops : Array Oper) (S : World → Prop) (VC : FuncId → Array Value → Value → Prop) (o : Oper) (a : Act) : Prop := Region.wanted o (yielded ops a.tmps) = true → ∀ W, S W → FineRes P (Drawn W) VC ((execOp a.eval o).run P W)
/-- what is asked of one that changes the world -/
@[go_sem] def SpecRes (P : Program) (D : FuncId → Array Value → World → Value → World → Prop) (K : Value → World → Prop) : Result Next → Prop
  | .ok (.value v) w' => K v w'
  | .ok .skip w' => K undef w'
  | .ok (.enter f args) w' => (Calls P f args w' fun e w'' => ∃ v, e = .returned v ∧ D f args w' v w'') ∧ ∀ v w'', D f args w' v w'' → K v w''
  | _ => False
def SpecAt (P : Program) (ops : Array Oper) (D : FuncId → Array Value → World → Value → World → Prop) (o : Oper) (a : Act) (w : World) (K : Value → World → Prop) : Prop :=
  (Region.wanted o (yielded ops a.tmps) = true → ∀ n : Nat, SpecRes P D K ((execOp a.eval o).run P (w.drewN n))) ∧ (Region.wanted o (yielded ops a.tmps) = false → K undef w)
theorem SpecRes.mono {K K' : Value → World → Prop} {r : Result Next} (h : SpecRes P D K r) (hk : ∀ v w, K v w → K' v w) : SpecRes P D K' r := by
  revert h
  unfold SpecRes
  split
  · exact fun h => hk _ _ h
  · exact fun h => hk _ _ h
  · exact fun h => ⟨h.1, fun v w'' hd => hk _ _ (h.2 v w'' hd)⟩
  · exact fun h => h
theorem SpecRes.all {ι : Type} {V : ι → Prop} {K : ι → Value → World → Prop} {r : Result Next} (i0 : ι) (h0 : V i0) (h : ∀ i, V i → SpecRes P D (K i) r) : SpecRes P D (fun v w => ∀ i, V i → K i v w) r := by
  revert h
  unfold SpecRes
  split
  · exact fun h i hi => h i hi
  · exact fun h i hi => h i hi
  · exact fun h => ⟨(h i0 h0).1, fun v w'' hd i hi => (h i hi).2 v w'' hd⟩
  · exact fun h => h i0 h0
theorem SpecRes.some {K : Value → World → Prop} {r : Result Next} (h : SpecRes P D K r) : ∃ v w, K v w := by
  revert h
  unfold SpecRes
  split
  · exact fun h => ⟨_, _, h⟩
  · exact fun h => ⟨_, _, h⟩
  · intro h
    obtain ⟨e, w'', fr, ⟨v, _, hd⟩, _⟩ := h.1 []
    exact ⟨v, w'', h.2 v w'' hd⟩
  · exact fun h => h.elim
theorem SpecAt.mono {o : Oper} {a : Act} {w : World} {K K' : Value → World → Prop} (h : SpecAt P ops D o a w K) (hk : ∀ v w, K v w → K' v w) : SpecAt P ops D o a w K' :=
  ⟨fun hw n => (h.1 hw n).mono hk, fun hw => hk _ _ (h.2 hw)⟩
theorem SpecAt.all {o : Oper} {a : Act} {w : World} {ι : Type} {V : ι → Prop} {K : ι → Value → World → Prop} (i0 : ι) (h0 : V i0) (h : ∀ i, V i → SpecAt P ops D o a w (K i)) : SpecAt P ops D o a w (fun v w => ∀ i, V i → K i v w) :=
  ⟨fun hw n => SpecRes.all i0 h0 fun i hi => (h i hi).1 hw n, fun hw i hi => (h i hi).2 hw⟩
theorem SpecAt.some {o : Oper} {a : Act} {w : World} {K : Value → World → Prop} (h : SpecAt P ops D o a w K) : ∃ v w, K v w := by
  cases hw : Region.wanted o (yielded ops a.tmps)
  · exact ⟨_, _, h.2 hw⟩
  · exact (h.1 hw 0).some
theorem specAt_put {o : Oper} {a : Act} {d : Option Tmp} {u : Value} {w : World} {K : Value → World → Prop} (he : execOp (a.put d u).eval o = execOp a.eval o) (hw : Region.wanted o (yielded ops (a.put d u).tmps) = Region.wanted o (yielded ops a.tmps)) :
    SpecAt P ops D o (a.put d u) w K ↔ SpecAt P ops D o a w K := by
  unfold SpecAt
  rw [he, hw]
theorem goodM_put {o : Oper} {a : Act} {d : Option Tmp} {u : Value} (he : execOp (a.put d u).eval o = execOp a.eval o) (hw : Region.wanted o (yielded ops (a.put d u).tmps) = Region.wanted o (yielded ops a.tmps)) :
    GoodM P ops S VC o (a.put d u) ↔ GoodM P ops S VC o a := by
  unfold GoodM
  rw [he, hw]
theorem some_valM {o : Oper} {a : Act} {w0 : World} (h0 : S w0) (h : GoodM P ops S VC o a) : ∃ v, Vals P ops S VC o a v := by
  by_cases hw : Region.wanted o (yielded ops a.tmps) = true
  · have hf := h hw w0 h0
    unfold FineRes at hf
    split at hf
    · rename_i v w' he; exact ⟨v, .inl ⟨hw, w0, w', h0, .inl he⟩⟩
    · rename_i w' he; exact ⟨undef, .inl ⟨hw, w0, w', h0, .inr (.inl ⟨he, rfl⟩)⟩⟩
    · rename_i f args w' he
      obtain ⟨_, hc⟩ := hf
      obtain ⟨e, w'', fr, ⟨v, _, _, hv⟩, _⟩ := hc []
      exact ⟨v, .inl ⟨hw, w0, w', h0, .inr (.inr ⟨f, args, he, hv⟩)⟩⟩
    · cases hf
  · exact ⟨undef, .inr ⟨by simpa using hw, rfl⟩⟩
/-- the walk of every order up to 'n', then 'L' -/
def MSet (P : Program) (md : Region.Mode) (ops : Array Oper) (S : World → Prop) (VC : FuncId → Array Value → Value → Prop) (D : FuncId → Array Value → World → Value → World → Prop) (sp : List Nat) (n : Nat) (L : Array Bool → Act → World → Prop) : Nat → Array Bool → Act → World → Prop
  | 0, listed, a, w => L listed a w
  | fuel + 1, listed, a, w => Region.ready md ops listed ≠ [] ∧
    ∀ i ∈ Region.ready md ops listed, ∀ o, ops[i]? = some o → i < n ∧
      (sp.contains i = true → SpecAt P ops D o a w fun v w' => S w' ∧ MSet P md ops S VC D sp n L fuel (listed.setIfInBounds i true) (a.put o.dst v) w') ∧
      (sp.contains i = false → GoodM P ops S VC o a ∧ ∀ v, Vals P ops S VC o a v → MSet P md ops S VC D sp n L fuel (listed.setIfInBounds i true) (a.put o.dst v) w)
structure MInv (md : Region.Mode) (ops : Array Oper) (n : Nat) (listed : Array Bool) : Prop where
  inv : HInv md ops n listed
theorem mset_plain {md : Region.Mode} {n : Nat} {L : Array Bool → Act → World → Prop} {i : Nat} {oi : Oper} (hi : ops[i]? = some oi) (hsp : sp.contains i = false) (hsel : ∀ (j : Nat) (o : Oper) cs b, ops[j]? = some o → o.op ≠ .select cs b)
    (hlt : ∀ listed, HInv md ops n listed → listed.getD i true = false → ∀ j ∈ Region.ready md ops listed, j < n) (hdone : ∀ listed a w, L listed a w → ∀ j ∈ Region.ready md ops listed, n ≤ j) :
    ∀ (fuel : Nat) (listed : Array Bool) (a : Act) (w : World), S w → HInv md ops n listed →
      (∀ j oj, ops[j]? = some oj → j ≠ i → listed.getD j true = false → (∀ e ∈ oj.after, Region.binds md e = true → e.on ≠ i) → oi.apart ops oj = true) →
      i ∈ Region.ready md ops listed → GoodM P ops S VC oi a →
      (∀ v, Vals P ops S VC oi a v → MSet P md ops S VC D sp n L fuel (listed.setIfInBounds i true) (a.put oi.dst v) w) → MSet P md ops S VC D sp n L (fuel + 1) listed a w
  | 0, listed, a, w, h0, inv, _, hr, hg, H => by
    have hun := (mem_ready.1 hr).1
    refine ⟨fun e => (by rw [e] at hr; cases hr), fun j hj o ho => ?_⟩
    have hjn := hlt listed inv hun j hj
    by_cases hji : j = i
    · subst hji
      obtain rfl : oi = o := Option.some.inj (hi.symm.trans ho)
      exact ⟨hjn, fun h => (by rw [hsp] at h; cases h), fun _ => ⟨hg, H⟩⟩
    · exfalso
      obtain ⟨v, hv⟩ := some_valM h0 hg
      have := hdone _ _ _ (H v hv) j (ready_mono hj hji)
      omega
  | fuel + 1, listed, a, w, h0, inv, hfree, hr, hg, H => by
    have huni := (mem_ready.1 hr).1
    refine ⟨fun e => (by rw [e] at hr; cases hr), fun j hj oj hoj => ?_⟩
    have hjn := hlt listed inv huni j hj
    by_cases hji : j = i
    · subst hji
      obtain rfl : oi = oj := Option.some.inj (hi.symm.trans hoj)
      exact ⟨hjn, fun h => (by rw [hsp] at h; cases h), fun _ => ⟨hg, H⟩⟩
    · have hun : listed.getD j true = false := (mem_ready.1 hj).1
      have hno : ∀ e ∈ oj.after, Region.binds md e = true → e.on ≠ i := by
        intro e he hb hon
        obtain ⟨_, o', ho', hall⟩ := mem_ready.1 hj
        obtain rfl : oj = o' := Option.some.inj (hoj.symm.trans ho')
        have h1 := hall e he hb
        rw [hon, getD_two huni] at h1; cases h1
      obtain ⟨x1, x2, x3⟩ := Oper.apart_spec (hfree j oj hoj hji hun hno)
      have si := fun cs b => hsel i oi cs b hi
      have sj := fun cs b => hsel j oj cs b hoj
      have ej : ∀ v, execOp (a.put oi.dst v).eval oj = execOp a.eval oj := fun v => execOp_put oj sj a oi.dst v x1
      have wj : ∀ v, Region.wanted oj (yielded ops (a.put oi.dst v).tmps) = Region.wanted oj (yielded ops a.tmps) := fun v => wanted_put oj a oi.dst v x1
      have gi : ∀ u, (GoodM P ops S VC oi (a.put oj.dst u) ↔ GoodM P ops S VC oi a) := fun u => goodM_put (execOp_put oi si a oj.dst u x3) (wanted_put oi a oj.dst u x3)
      have vi : ∀ u v, (Vals P ops S VC oi (a.put oj.dst u) v ↔ Vals P ops S VC oi a v) := fun u v => vals_put (execOp_put oi si a oj.dst u x3) (wanted_put oi a oj.dst u x3)
      obtain ⟨v0, hv0⟩ := some_valM h0 hg
      have hj' := ready_mono hj hji
      have hfree' : ∀ k ok, ops[k]? = some ok → k ≠ i → (listed.setIfInBounds j true).getD k true = false → (∀ e ∈ ok.after, Region.binds md e = true → e.on ≠ i) → oi.apart ops ok = true := by
        intro k ok hk hki hun' hno'
        refine hfree k ok hk hki ?_ hno'
        by_cases hjk : j = k
        · subst hjk; exact hun
        · rw [getD_set_ne true hjk] at hun'; exact hun'
      refine ⟨hjn, fun hs => ?_, fun hs => ?_⟩
      · have h1 : ∀ v, Vals P ops S VC oi a v → SpecAt P ops D oj a w fun u w' => S w' ∧ MSet P md ops S VC D sp n L fuel ((listed.setIfInBounds i true).setIfInBounds j true) ((a.put oi.dst v).put oj.dst u) w' := fun v hv =>
          (specAt_put (ej v) (wj v)).1 (((H v hv).2 j hj' oj hoj).2.1 hs)
        refine (SpecAt.all v0 hv0 h1).mono fun u w' hK => ⟨(hK v0 hv0).1, ?_⟩
        refine mset_plain hi hsp hsel hlt hdone fuel (listed.setIfInBounds j true) (a.put oj.dst u) w' (hK v0 hv0).1 (inv.set hj hjn) hfree' (ready_mono hr (Ne.symm hji)) ((gi u).2 hg) fun v hv => ?_
        have := (hK v ((vi u v).1 hv)).2
        rw [Array.setIfInBounds_comm _ _ hji, ← Act.put_comm a v u x2]
        exact this
      · have gj : ∀ v, (GoodM P ops S VC oj (a.put oi.dst v) ↔ GoodM P ops S VC oj a) := fun v => goodM_put (ej v) (wj v)
        have vj : ∀ v u, (Vals P ops S VC oj (a.put oi.dst v) u ↔ Vals P ops S VC oj a u) := fun v u => vals_put (ej v) (wj v)
        refine ⟨(gj v0).1 (((H v0 hv0).2 j hj' oj hoj).2.2 hs).1, fun u hu => ?_⟩
        refine mset_plain hi hsp hsel hlt hdone fuel (listed.setIfInBounds j true) (a.put oj.dst u) w h0 (inv.set hj hjn) hfree' (ready_mono hr (Ne.symm hji)) ((gi u).2 hg) fun v hv => ?_
        have := (((H v ((vi u v).1 hv)).2 j hj' oj hoj).2.2 hs).2 u ((vj v u).2 hu)
        rw [Array.setIfInBounds_comm _ _ hji, ← Act.put_comm a v u x2]
        exact this
theorem mset_spec {md : Region.Mode} {n : Nat} {L : Array Bool → Act → World → Prop} {i : Nat} {oi : Oper} (hi : ops[i]? = some oi) (hsp : sp.contains i = true) (hsel : ∀ (j : Nat) (o : Oper) cs b, ops[j]? = some o → o.op ≠ .select cs b)
    (hlt : ∀ listed, HInv md ops n listed → listed.getD i true = false → ∀ j ∈ Region.ready md ops listed, j < n) (hdone : ∀ listed a w, L listed a w → ∀ j ∈ Region.ready md ops listed, n ≤ j)
    (hone : ∀ listed, HInv md ops n listed → (∀ j, j < i → listed.getD j false = true) → listed.getD i true = false → ∀ j ∈ Region.ready md ops listed, j ≠ i → sp.contains j = false) :
    ∀ (fuel : Nat) (listed : Array Bool) (a : Act) (w : World), S w → HInv md ops n listed → (∀ j, j < i → listed.getD j false = true) →
      (∀ j oj, ops[j]? = some oj → j ≠ i → listed.getD j true = false → (∀ e ∈ oj.after, Region.binds md e = true → e.on ≠ i) → oi.apart ops oj = true) →
      i ∈ Region.ready md ops listed →
      (SpecAt P ops D oi a w fun v w' => S w' ∧ MSet P md ops S VC D sp n L fuel (listed.setIfInBounds i true) (a.put oi.dst v) w') → MSet P md ops S VC D sp n L (fuel + 1) listed a w
  | 0, listed, a, w, h0, inv, hp, _, hr, H => by
    have hun := (mem_ready.1 hr).1
    refine ⟨fun e => (by rw [e] at hr; cases hr), fun j hj o ho => ?_⟩
    have hjn := hlt listed inv hun j hj
    by_cases hji : j = i
    · subst hji
      obtain rfl : oi = o := Option.some.inj (hi.symm.trans ho)
      exact ⟨hjn, fun _ => H, fun h => (by rw [hsp] at h; cases h)⟩
    · exfalso
      obtain ⟨v, w', _, hL⟩ := H.some
      have := hdone _ _ _ hL j (ready_mono hj hji)
      omega
  | fuel + 1, listed, a, w, h0, inv, hp, hfree, hr, H => by
    have huni := (mem_ready.1 hr).1
    refine ⟨fun e => (by rw [e] at hr; cases hr), fun j hj oj hoj => ?_⟩
    have hjn := hlt listed inv huni j hj
    by_cases hji : j = i
    · subst hji
      obtain rfl : oi = oj := Option.some.inj (hi.symm.trans hoj)
      exact ⟨hjn, fun _ => H, fun h => (by rw [hsp] at h; cases h)⟩
    · have hun : listed.getD j true = false := (mem_ready.1 hj).1
      have hjs := hone listed inv hp huni j hj hji
      have hno : ∀ e ∈ oj.after, Region.binds md e = true → e.on ≠ i := by
        intro e he hb hon
        obtain ⟨_, o', ho', hall⟩ := mem_ready.1 hj
        obtain rfl : oj = o' := Option.some.inj (hoj.symm.trans ho')
        have h1 := hall e he hb
        rw [hon, getD_two huni] at h1; cases h1
      obtain ⟨x1, x2, x3⟩ := Oper.apart_spec (hfree j oj hoj hji hun hno)
      have si := fun cs b => hsel i oi cs b hi
      have sj := fun cs b => hsel j oj cs b hoj
      have ej : ∀ v, execOp (a.put oi.dst v).eval oj = execOp a.eval oj := fun v => execOp_put oj sj a oi.dst v x1
      have wj : ∀ v, Region.wanted oj (yielded ops (a.put oi.dst v).tmps) = Region.wanted oj (yielded ops a.tmps) := fun v => wanted_put oj a oi.dst v x1
      have gj : ∀ v, (GoodM P ops S VC oj (a.put oi.dst v) ↔ GoodM P ops S VC oj a) := fun v => goodM_put (ej v) (wj v)
      have vj : ∀ v u, (Vals P ops S VC oj (a.put oi.dst v) u ↔ Vals P ops S VC oj a u) := fun v u => vals_put (ej v) (wj v)
      have hj' := ready_mono hj hji
      have hfree' : ∀ k ok, ops[k]? = some ok → k ≠ i → (listed.setIfInBounds j true).getD k true = false → (∀ e ∈ ok.after, Region.binds md e = true → e.on ≠ i) → oi.apart ops ok = true := by
        intro k ok hk hki hun' hno'
        refine hfree k ok hk hki ?_ hno'
        by_cases hjk : j = k
        · subst hjk; exact hun
        · rw [getD_set_ne true hjk] at hun'; exact hun'
      refine ⟨hjn, fun hs => (by rw [hjs] at hs; cases hs), fun hs => ?_⟩
      obtain ⟨v0, w0, _, hv0⟩ := H.some
      refine ⟨(gj v0).1 ((hv0.2 j hj' oj hoj).2.2 hs).1, fun u hu => ?_⟩
      refine mset_spec hi hsp hsel hlt hdone hone fuel (listed.setIfInBounds j true) (a.put oj.dst u) w h0 (inv.set hj hjn) (fun q hq => getD_set_true (hp q hq)) hfree' (ready_mono hr (Ne.symm hji)) ?_
      refine (specAt_put (execOp_put oi si a oj.dst u x3) (wanted_put oi a oj.dst u x3)).2 (H.mono fun v w' hK => ⟨hK.1, ?_⟩)
      have := ((hK.2.2 j hj' oj hoj).2.2 hs).2 u ((vj v u).2 hu)
      rw [Array.setIfInBounds_comm _ _ hji, ← Act.put_comm a v u x2]
      exact this
/-- the walk in the order of the text -/
def MWalk (P : Program) (ops : Array Oper) (S : World → Prop) (VC : FuncId → Array Value → Value → Prop) (D : FuncId → Array Value → World → Value → World → Prop) (sp : List Nat) (Q : Act → World → Prop) : Nat → List Oper → Act → World → Prop
  | _, [], a, w => Q a w
  | k, o :: rest, a, w =>
    (sp.contains k = true → SpecAt P ops D o a w fun v w' => S w' ∧ MWalk P ops S VC D sp Q (k + 1) rest (a.put o.dst v) w') ∧
    (sp.contains k = false → GoodM P ops S VC o a ∧ ∀ v, Vals P ops S VC o a v → MWalk P ops S VC D sp Q (k + 1) rest (a.put o.dst v) w)
/-- 't' waits for 'i' -/
def depB (md : Region.Mode) (ops : Array Oper) : Nat → Nat → Nat → Bool
  | 0, _, _ => false
  | f + 1, t, i => match ops[t]? with
    | none => false
    | some o => o.after.any fun e => Region.binds md e && (e.on == i || depB md ops f e.on i)
theorem depB_listed {md : Region.Mode} {n : Nat} {listed : Array Bool} (inv : HInv md ops n listed) {i : Nat} : ∀ (f t : Nat), listed.getD t false = true → depB md ops f t i = true → listed.getD i false = true
  | 0, _, _, h => by cases h
  | f + 1, t, ht, h => by
    unfold depB at h
    split at h
    · cases h
    · rename_i o ho
      obtain ⟨e, he, hb⟩ := Array.any_eq_true'.1 h
      simp only [Bool.and_eq_true, Bool.or_eq_true, beq_iff_eq] at hb
      have h1 := inv.closed t o ho ht e he hb.1
      rcases hb.2 with h2 | h2
      · rw [← h2]; exact h1
      · exact depB_listed inv f e.on h1 h2
theorem depB_ready {md : Region.Mode} {n : Nat} {listed : Array Bool} (inv : HInv md ops n listed) {i : Nat} (f t : Nat) (ht : t ∈ Region.ready md ops listed) (h : depB md ops f t i = true) : listed.getD i false = true := by
  cases f with
  | zero => cases h
  | succ f =>
    unfold depB at h
    obtain ⟨_, ot, hot, hall⟩ := mem_ready.1 ht
    rw [hot] at h
    obtain ⟨e, he, hb⟩ := Array.any_eq_true'.1 h
    simp only [Bool.and_eq_true, Bool.or_eq_true, beq_iff_eq] at hb
    have h1 := hall e he hb.1
    rcases hb.2 with h2 | h2
    · rw [← h2]; exact h1
    · exact depB_listed inv f e.on h1 h2
def specB (md : Region.Mode) (ops : Array Oper) (sp : List Nat) : Bool := sp.all fun i => sp.all fun j => decide (j ≤ i) || depB md ops ops.size j i
theorem one_of_specB {md : Region.Mode} {n i : Nat} (hB : specB md ops sp = true) (hi : sp.contains i = true) (listed : Array Bool) (inv : HInv md ops n listed) (hp : ∀ j, j < i → listed.getD j false = true) (hun : listed.getD i true = false) :
    ∀ j ∈ Region.ready md ops listed, j ≠ i → sp.contains j = false := by
  intro j hj hji
  cases hs : sp.contains j with
  | false => rfl
  | true =>
    exfalso
    have h1 := List.all_eq_true.1 (List.all_eq_true.1 hB i (by simpa using hi)) j (by simpa using hs)
    simp only [Bool.or_eq_true, decide_eq_true_eq] at h1
    rcases h1 with h1 | h1
    · have h2 := hp j (by omega)
      have h3 := getD_two (mem_ready.1 hj).1
      rw [h2] at h3; cases h3
    · have h2 := depB_ready inv _ j hj h1
      rw [getD_two hun] at h2; cases h2
theorem mset_lex {md : Region.Mode} {n : Nat} {L : Array Bool → Act → World → Prop} {Lq : Act → World → Prop} (hS : ∀ W q, S W → S (W.drewN q)) (hsel : Region.noSelect ops = true) (hB2 : specB md ops sp = true)
    (hlt : ∀ i, i < n → ∀ listed, HInv md ops n listed → listed.getD i true = false → ∀ j ∈ Region.ready md ops listed, j < n) (hdone : ∀ listed a w, L listed a w → ∀ j ∈ Region.ready md ops listed, n ≤ j)
    (lex : Nat → Nat → Array Bool → Bool) (hlex : ∀ len k listed, lex (len + 1) k listed = true → (Region.ready md ops listed).contains k = true ∧ Region.free md ops listed k = true ∧ lex len (k + 1) (listed.setIfInBounds k true) = true)
    (hend : ∀ listed a w, lex 0 n listed = true → Lq a w → L listed a w) :
    ∀ (l : List Oper) (k : Nat) (listed : Array Bool) (a : Act) (w : World), S w → (∀ j, j < l.length → l[j]? = ops[k + j]?) → k + l.length = n → HInv md ops n listed → (∀ j, j < k → listed.getD j false = true) →
    lex l.length k listed = true → MWalk P ops S VC D sp Lq k l a w → MSet P md ops S VC D sp n L l.length listed a w
  | [], k, listed, a, w, _, _, hk, _, _, hB, h => by
    have : k = n := by simpa using hk
    subst this
    exact hend listed a w hB h
  | o :: l, k, listed, a, w, h0, hl, hk, inv, hp, hB, h => by
    have hk0 : ops[k]? = some o := by simpa using (hl 0 (by simp)).symm
    obtain ⟨hr, hf, hB'⟩ := hlex _ _ _ hB
    have hkn : k < n := by simp only [List.length_cons] at hk; omega
    have hks : k < ops.size := (Array.getElem?_eq_some_iff.1 hk0).1
    have hr' : k ∈ Region.ready md ops listed := by simpa using hr
    have hl' : ∀ j, j < l.length → l[j]? = ops[k + 1 + j]? := fun j hj => by have := hl (j + 1) (by simp; omega); simpa [Nat.add_assoc, Nat.add_comm 1 j] using this
    have hkl : k + 1 + l.length = n := by simp only [List.length_cons] at hk; omega
    have hp' : ∀ j, j < k + 1 → (listed.setIfInBounds k true).getD j false = true := fun j hj => by
      by_cases e : j = k
      · subst e
        have : j < listed.size := by rw [inv.size]; exact hks
        simp [Array.getD_eq_getD_getElem?, this]
      · exact getD_set_true (hp j (by omega))
    cases hsp : sp.contains k with
    | true =>
      refine mset_spec hk0 hsp (Region.noSelect_spec hsel) (hlt k hkn) hdone (one_of_specB hB2 hsp) l.length listed a w h0 inv hp (Region.free_spec hk0 hf) hr' ?_
      exact (h.1 hsp).mono fun v w' hK => ⟨hK.1, mset_lex hS hsel hB2 hlt hdone lex hlex hend l (k + 1) _ _ w' hK.1 hl' hkl (inv.set hr' hkn) hp' hB' hK.2⟩
    | false =>
      refine mset_plain hk0 hsp (Region.noSelect_spec hsel) (hlt k hkn) hdone l.length listed a w h0 inv (Region.free_spec hk0 hf) hr' (h.2 hsp).1 fun v hv => ?_
      exact mset_lex hS hsel hB2 hlt hdone lex hlex hend l (k + 1) _ _ w h0 hl' hkl (inv.set hr' hkn) hp' hB' ((h.2 hsp).2 v hv)
theorem any_of_mset {md : Region.Mode} {n g : Nat} {L : Array Bool → Act → World → Prop} {Q' : Exit → Act → World → Prop} (hS : ∀ W q, S W → S (W.drewN q)) (hL : ∀ listed a w q, S w → L listed a w → wpAny P md ops Q' g listed a (w.drewN q)) :
    ∀ (fuel : Nat) (listed : Array Bool) (a : Act) (w : World) (q : Nat), S w → MSet P md ops S VC D sp n L fuel listed a w → wpAny P md ops Q' (fuel + g) listed a (w.drewN q)
  | 0, _, _, _, _, hw, h => by rw [Nat.zero_add]; exact hL _ _ _ _ hw h
  | fuel + 1, listed, a, w, q, hw, h => by
    rw [show fuel + 1 + g = (fuel + g) + 1 by omega]
    refine ⟨fun e => absurd e h.1, fun i hi => ?_⟩
    obtain ⟨_, o, ho, _⟩ := mem_ready.1 hi
    obtain ⟨_, h1, h2⟩ := h.2 i hi o ho
    unfold wpOp
    simp only [ho]
    cases hsp : sp.contains i with
    | true =>
      obtain ⟨h3, h4⟩ := h1 hsp
      by_cases hwant : Region.wanted o (yielded ops a.tmps) = true
      · rw [if_pos hwant]
        left
        have hf := h3 hwant q
        unfold Oper.wp
        unfold SpecRes at hf
        split at hf
        · rename_i v w' he
          rw [he]
          exact any_of_mset hS hL fuel _ _ w' 0 hf.1 hf.2
        · rename_i w' he
          rw [he]
          exact any_of_mset hS hL fuel _ _ w' 0 hf.1 hf.2
        · rename_i f args w' he
          rw [he]
          obtain ⟨hc, hk⟩ := hf
          refine hc.mono fun e w'' ⟨v, hev, hd⟩ => ?_
          subst hev
          exact any_of_mset hS hL fuel _ _ w'' 0 (hk v w'' hd).1 (hk v w'' hd).2
        · cases hf
      · have hwant' : Region.wanted o (yielded ops a.tmps) = false := by simpa using hwant
        rw [if_neg hwant]
        exact any_of_mset hS hL fuel _ _ w q (h4 hwant').1 (h4 hwant').2
    | false =>
      obtain ⟨hg, hv⟩ := h2 hsp
      have hSq := hS w q hw
      have hadd : ∀ m, (w.drewN q).drewN m = w.drewN (q + m) := fun m => by simp [World.drewN, Nat.add_assoc]
      by_cases hwant : Region.wanted o (yielded ops a.tmps) = true
      · rw [if_pos hwant]
        left
        have hf := hg hwant _ hSq
        unfold Oper.wp
        unfold FineRes at hf
        split at hf
        · rename_i v w' he
          rw [he]
          obtain ⟨m, rfl⟩ := hf
          have h5 := any_of_mset hS hL fuel _ _ w (q + m) hw (hv v (.inl ⟨hwant, _, _, hSq, .inl he⟩))
          rw [← hadd] at h5
          exact h5
        · rename_i w' he
          rw [he]
          obtain ⟨m, rfl⟩ := hf
          have h5 := any_of_mset hS hL fuel _ _ w (q + m) hw (hv undef (.inl ⟨hwant, _, _, hSq, .inr (.inl ⟨he, rfl⟩)⟩))
          rw [← hadd] at h5
          exact h5
        · rename_i f args w' he
          rw [he]
          obtain ⟨hC', hc⟩ := hf
          refine hc.mono fun e w'' ⟨v, hev, ⟨m, hm⟩, hvc⟩ => ?_
          subst hev
          subst hm
          have h5 := any_of_mset hS hL fuel _ _ w (q + m) hw (hv v (.inl ⟨hwant, _, _, hSq, .inr (.inr ⟨f, args, he, hvc⟩)⟩))
          rw [← hadd] at h5
          exact h5
        · cases hf
      · have hwant' : Region.wanted o (yielded ops a.tmps) = false := by simpa using hwant
        rw [if_neg hwant]
        exact any_of_mset hS hL fuel _ _ w q hw (hv undef (.inr ⟨hwant', rfl⟩))
def mixB (ops : Array Oper) (n : Nat) (sp : List Nat) : Bool :=
  Region.noSelect ops && decide (n < ops.size) && sinkP .any ops 0 n && chainP .any ops n && specB .any ops sp && Region.lexHead .any ops (ops.size - n) n 0 (Array.replicate ops.size false)
def mixB0 (ops : Array Oper) (sp : List Nat) : Bool := Region.noSelect ops && specB .any ops sp && Region.lexFrom .any ops ops.size 0 (Array.replicate ops.size false)
/-- **a region of readers and of operations, numbers 'sp', that come one after another; from 'n' on its operations wait for all others** -/
theorem wp_region_mix {id : Nat} {Q : Exit → Act → World → Prop} {a : Act} {w : World} {l : List Oper} (n : Nat) (sp : List Nat) (S : World → Prop) (VC : FuncId → Array Value → Value → Prop) (D : FuncId → Array Value → World → Value → World → Prop) (hm : P.follows .mixedOrders = true) (hB : mixB l.toArray n sp = true)
    (hS0 : S w) (hS : ∀ W q, S W → S (W.drewN q)) (h : MWalk P l.toArray S VC D sp (fun a' w1 => ∀ q, wpList P l.toArray Q (l.drop n) a' (w1.drewN q)) 0 (l.take n) a w) : (Code.region id l.toArray true).wp P Q a w := by
  simp only [mixB, Bool.and_eq_true, decide_eq_true_eq] at hB
  obtain ⟨⟨⟨⟨⟨hsel, hn⟩, hs⟩, hc⟩, hsp⟩, hlex⟩ := hB
  have hn' : n < l.length := by simpa using hn
  have htl : (l.take n).length = n := by simp; omega
  have hdl : (l.drop n).length = l.toArray.size - n := by simp
  have gf : ∀ i, (Array.replicate l.toArray.size false).getD i false = false := fun i => by
    simp only [Array.getD_eq_getD_getElem?, Array.getElem?_replicate]; split <;> rfl
  have inv0 : HInv .any l.toArray n (Array.replicate l.toArray.size false) :=
    ⟨by simp, fun j oj _ hl => (by rw [gf] at hl; cases hl), fun t _ ht => getD_in2 (by simpa using ht) (gf t)⟩
  have H := mset_lex (md := .any) (L := fun listed' a' w' => Region.seqB .any l.toArray (l.toArray.size - n) n listed' = true ∧ ∀ q, wpList P l.toArray Q (l.drop n) a' (w'.drewN q)) hS hsel hsp
    (fun i hi listed inv hun j hj => by
      rcases Nat.lt_or_ge j n with h | h
      · exact h
      · exact absurd hj (late hs hc hn inv (p := 0) (fun j hj => by omega) _ i rfl hi hun j h))
    (fun listed a w hL => seqB_ready hL.1) (fun len k listed => Region.lexHead .any l.toArray (l.toArray.size - n) len k listed)
    (fun len k listed h => by
      have h : Region.lexHead .any l.toArray (l.toArray.size - n) (len + 1) k listed = true := h
      simp only [Region.lexHead, Bool.and_eq_true] at h
      exact ⟨h.1.1, h.1.2, h.2⟩)
    (fun listed a w he hq => ⟨by simpa [Region.lexHead] using he, hq⟩)
    (l.take n) 0 _ a w hS0 (fun j hj => by
      have hj' : j < n := by rw [htl] at hj; exact hj
      simp [hj']) (by simpa using htl) inv0 (fun j hj => by omega) (by rw [htl]; exact hlex) h
  refine wp_region_any hm ?_
  have := any_of_mset (Q' := Q) (g := l.toArray.size - n) hS (fun listed a' w' q hw' hL => by
    have := wpAny_of_seq (md := .any) (Q' := Q) (l.drop n) n listed a' (w'.drewN q) (fun j => by simp [List.getElem?_drop]) (by rw [hdl]; exact hL.1) (hL.2 q)
    rwa [hdl] at this) _ _ _ _ 1 hS0 H
  rw [htl, show n + (l.toArray.size - n) = l.toArray.size by omega] at this
  exact this
/-- **the same without a tail** -/
theorem wp_region_mix0 {id : Nat} {Q : Exit → Act → World → Prop} {a : Act} {w : World} {l : List Oper} (sp : List Nat) (S : World → Prop) (VC : FuncId → Array Value → Value → Prop) (D : FuncId → Array Value → World → Value → World → Prop) (hm : P.follows .mixedOrders = true) (hB : mixB0 l.toArray sp = true)
    (hS0 : S w) (hS : ∀ W q, S W → S (W.drewN q)) (h : MWalk P l.toArray S VC D sp (fun a' w1 => ∀ q, Q .normal a' (w1.drewN q)) 0 l a w) : (Code.region id l.toArray true).wp P Q a w := by
  simp only [mixB0, Bool.and_eq_true] at hB
  obtain ⟨⟨hsel, hsp⟩, hlex⟩ := hB
  have gf : ∀ i, (Array.replicate l.toArray.size false).getD i false = false := fun i => by
    simp only [Array.getD_eq_getD_getElem?, Array.getElem?_replicate]; split <;> rfl
  have inv0 : HInv .any l.toArray l.length (Array.replicate l.toArray.size false) :=
    ⟨by simp, fun j oj _ hl => (by rw [gf] at hl; cases hl), fun t h1 ht => getD_in2 (by simpa using ht) (gf t)⟩
  have H := mset_lex (md := .any) (L := fun listed' a' w' => Region.ready .any l.toArray listed' = [] ∧ ∀ q, Q .normal a' (w'.drewN q)) hS hsel hsp
    (fun i hi listed inv hun j hj => by
      obtain ⟨_, oj, hoj, _⟩ := mem_ready.1 hj
      have := (Array.getElem?_eq_some_iff.1 hoj).1
      simpa using this)
    (fun listed a w hL j hj => by rw [hL.1] at hj; cases hj) (fun len k listed => Region.lexFrom .any l.toArray len k listed)
    (fun len k listed h => by
      have h : Region.lexFrom .any l.toArray (len + 1) k listed = true := h
      simp only [Region.lexFrom, Bool.and_eq_true] at h
      exact ⟨h.1.1, h.1.2, h.2⟩)
    (fun listed a w he hq => ⟨by simpa [Region.lexFrom] using he, hq⟩)
    l 0 _ a w hS0 (fun j hj => by simp) (by simp) inv0 (fun j hj => by omega) (by simpa using hlex) h
  refine wp_region_any hm ?_
  have := any_of_mset (Q' := Q) (g := 0) hS (fun listed a' w' q hw' hL => ⟨hL.1, hL.2 q⟩) _ _ _ _ 1 hS0 H
  rw [Nat.add_zero] at this
  exact this
/-! the steps of the walk -/
variable {Q : Act → World → Prop} {o : Oper} {rest : List Oper} {a : Act} {w : World} {k : Nat}
@[go_sem] theorem drawn_refl (w : World) : Drawn w w = True := eq_true ⟨0, rfl⟩
theorem mwalk_plain (hk : sp.contains k = false) (h0 : S w) (h : ∀ K : Act → Prop, (∀ a, MWalk P ops S VC D sp Q (k + 1) rest a w → K a) → ∀ W : World, S W → if Region.wanted o (yielded ops a.tmps) then UponC P VC (Drawn W) (fun v => K (a.put o.dst v)) ((execOp a.eval o).run P W) else K (a.put o.dst undef)) :
    MWalk P ops S VC D sp Q k (o :: rest) a w := by
  have h := h _ (fun _ h => h)
  refine ⟨fun e => (by rw [hk] at e; cases e), fun _ => ⟨fun hw W hW => ?_, fun v hv => ?_⟩⟩
  · have := h W hW
    rw [if_pos hw] at this
    revert this
    generalize (execOp a.eval o).run P W = r
    intro this
    unfold UponC at this
    unfold FineRes
    split at this
    · exact this.1
    · exact this.1
    · exact ⟨this.1, this.2.1⟩
    · cases this
  · rcases hv with ⟨hw, w1, w2, hS, hv⟩ | ⟨hw, rfl⟩
    · have := h w1 hS
      rw [if_pos hw] at this
      unfold UponC at this
      rcases hv with hv | ⟨hv, rfl⟩ | ⟨f, args, hv, hvc⟩
      · rw [hv] at this; exact this.2
      · rw [hv] at this; exact this.2
      · rw [hv] at this; exact this.2.2 v hvc
    · have := h w h0
      rwa [if_neg (by rw [hw]; exact Bool.false_ne_true)] at this
theorem mwalk_spec (hk : sp.contains k = true) (h0 : S w) (h : ∀ K : Act → World → Prop, (∀ a w', MWalk P ops S VC D sp Q (k + 1) rest a w' → K a w') → ∀ n : Nat, if Region.wanted o (yielded ops a.tmps) then SpecRes P D (fun v w' => S w' ∧ K (a.put o.dst v) w') ((execOp a.eval o).run P (w.drewN n)) else K (a.put o.dst undef) w) :
    MWalk P ops S VC D sp Q k (o :: rest) a w := by
  have h := h _ (fun _ _ h => h)
  refine ⟨fun _ => ⟨fun hw n => ?_, fun hw => ?_⟩, fun e => (by rw [hk] at e; cases e)⟩
  · have := h n
    rwa [if_pos hw] at this
  · have := h 0
    rw [if_neg (by rw [hw]; exact Bool.false_ne_true)] at this
    exact ⟨h0, this⟩
theorem mwalk_nil (hq : Q a w) : MWalk P ops S VC D sp Q k [] a w := hq
/-- an append, where the new list lies told -/
theorem specRes_append {K : Value → World → Prop} {E : Prop} (hgd : o.guard = none) (s x : Operand) (t : TypeId)
    (ho : o.op = .call { callee := .builtin .append, args := #[s, x], argTypes := #[t, t] })
    (base : Nat) (e : TypeId) (i : TypeInfo) (z : Value) (size bytes : Nat) (ht : P.underlying t = some (.slice e)) (hi : P.info? e = some i) (hz : i.zero = some z)
    (hsize : i.size = size) (hby : i.bytes = bytes) (hzs : z.cells.size = size) (hsz : 0 < size)
    (v : Value) (n : Nat) (xs : List Value) (hs : a.eval s = v) (hown : w.ownsRow base e size v n xs)
    (ad : Addr) (m c : Nat) (news : List Value) (hx : a.eval x = .slice (some ad) m c) (hl : news.length = m * size) (hnews : ∀ j u, news[j]? = some u → w.cell? (ad.add j) = some u) (h1 : ∀ u ∈ news, u.oneCell' = true)
    (h63 : n + m ≤ maxLen) (hbytes : (n + m) * bytes ≤ 140737488355328) (hbase : base ≤ w.heap.size)
    (h : ∀ v' w', w'.ownsRow base e size v' (n + m) (xs ++ news) → w.grownBy w' v.ownBlock → (v'.ownBlock = v.ownBlock ∨ v'.ownBlock = some w.heap.size) → Below base w w' → K v' w') :
    if Region.wanted o (yielded ops a.tmps) = true then SpecRes P D K ((execOp a.eval o).run P w) else E := by
  have hw : Region.wanted o (yielded ops a.tmps) = true := by simp [Region.wanted, hgd]
  rw [if_pos hw]
  obtain ⟨v', w', hr, h2, h3, _, h5⟩ := run_append_own_at (P := P) w base t o.type e i z size bytes ht hi hz hsize hby hzs hsz v n xs hown ad m c news hl hnews h1 h63 hbytes hbase
  unfold execOp
  simp only [ho, resolve, invoke, builtin, Sem.run_bind, Sem.run_pure, Result.andThen_ok, List.map_toArray, List.map_cons, List.map_nil, hs, hx, hr]
  exact h v' w' h2 h3 h5 ((Below.refl _ _).grown h3 hbase (fun j hj => (hown.lt j hj).1))
end
end Go.Proofs.Ytnkikigfpdngdaa
/- A tensor that a loop builds. No condition. -/
namespace Go.Proofs.Ytnkikigfpdngdaa
open Go Go.RowKit
set_option linter.unusedVariables false
set_option linter.unusedSimpArgs false
/-- a tensor that is given: its numbers, NaNs made one -/
def TenPost (r c : Int) (n : Nat) (P : List Nat) (w : World) (e : Ending) (w' : World) : Prop := ∃ ad cap zs, e = .returned (.agg #[.int .i64 r, .int .i64 c, .slice ad n cap]) ∧ Hid (RepF w' w.heap.size w'.heap.size ad n cap zs) ∧ Hid (zs.map (cn .f32) = P) ∧ Below w.heap.size w w'
def tRow (va : Option Addr) (k vc : Nat) (ys : List Nat) : RowD := ⟨33, 1, va, k, vc, ys.map (Value.float .f32)⟩
def bRow (g : Nat) (cs : List Value) : RowD := ⟨27, 3, some ⟨g, 0, none⟩, 1, 1, cs⟩
/-- a tensor under way: its numbers, its own box, the result's box -/
structure Bld (w0 : World) (wt : World) (rb ob : Nat) (r c : Int) (va : Option Addr) (k vc : Nat) (ys : List Nat) : Prop where
  own : Own wt w0.heap.size wt.heap.size [tRow va k vc ys, bRow ob [.int .i64 r, .int .i64 c, .slice va k vc], bRow rb [.int .i64 0, .int .i64 0, .slice none 0 0]]
  len : ys.length = k
  ok : okF ys
  below : Below w0.heap.size w0 wt
section
variable {w0 wt : World} {rb ob : Nat} {r c : Int} {va : Option Addr} {k vc : Nat} {ys : List Nat}
theorem Bld.move (h : Bld w0 wt rb ob r c va k vc ys) {W : World} (hb : Below wt.heap.size wt W) : Bld w0 W rb ob r c va k vc ys :=
  ⟨(h.own.below hb).bounds (Nat.le_refl _) hb.size, h.len, h.ok, h.below.trans (hb.mono h.below.size)⟩
theorem Bld.out (h : Bld w0 wt rb ob r c va k vc ys) : BoxN wt ob [.int .i64 r, .int .i64 c, .slice va k vc] := by
  obtain ⟨_, hl, hc, hf⟩ := h.own.cell (List.mem_cons_of_mem _ (List.mem_cons_self ..))
  exact ⟨hl.2.2, hc, hf⟩
theorem Bld.res (h : Bld w0 wt rb ob r c va k vc ys) : BoxN wt rb [.int .i64 0, .int .i64 0, .slice none 0 0] := by
  obtain ⟨_, hl, hc, hf⟩ := h.own.cell (List.mem_cons_of_mem _ (List.mem_cons_of_mem _ (List.mem_cons_self ..)))
  exact ⟨hl.2.2, hc, hf⟩
theorem Bld.row (h : Bld w0 wt rb ob r c va k vc ys) : wt.ownsRow w0.heap.size 33 1 (.slice va k vc) k (ys.map (Value.float .f32)) := h.own.head.own
theorem Bld.apart (h : Bld w0 wt rb ob r c va k vc ys) : (Value.slice va k vc).ownBlock ≠ some ob := by
  intro e
  exact h.own.apart (List.mem_cons_self ..) ob e rfl
/-- one more number -/
theorem Bld.push (h : Bld w0 wt rb ob r c va k vc ys) {W w9 : World} {x : Nat} {v' : Value} {o : Obj} (hx : x < 4294967296) (hb : Below wt.heap.size wt W) (ho : w9.ownsRow w0.heap.size 33 1 v' (k + 1) (ys.map (Value.float .f32) ++ [.float .f32 x]))
    (hg : (W.alloc o).grownBy w9 (Value.slice va k vc).ownBlock) (hat : v'.ownBlock = (Value.slice va k vc).ownBlock ∨ v'.ownBlock = some (W.heap.size + 1)) :
    ∃ va' vc', v' = .slice va' (k + 1) vc' ∧ w9.cell? ⟨ob, 2, none⟩ = some (.slice va k vc) ∧ w9.frozen? ⟨ob, 2, none⟩ = false ∧ Below w0.heap.size w0 w9 ∧ Bld w0 (w9.setCell ⟨ob, 2, none⟩ (.slice va' (k + 1) vc')) rb ob r c va' (k + 1) vc' (ys ++ [x]) := by
  obtain ⟨va', vc', rfl, _⟩ := Rd.of_owns ho
  have h1 := (h.own.below hb).below (below1 W o)
  have hs := hg.size
  have hbs := hb.size
  simp at hs
  have hB := h.below.size
  have hbel : Below w0.heap.size w0 w9 := by
    refine Below.grown ((h.below.trans (hb.mono hB)).alloc (by omega) o) hg (by simp; omega) (fun j e => (h.row.lt j e).1)
  have h2 := h1.grown (w' := w9) (hi' := w9.heap.size) (y := tRow va' (k + 1) vc' (ys ++ [x])) hg (by
    refine Row.mk' ?_
    show w9.ownsRow w0.heap.size 33 1 (.slice va' (k + 1) vc') (k + 1) ((ys ++ [x]).map (Value.float .f32))
    rw [List.map_append]; exact ho) (fun g e => by
      rcases hat with e1 | e1
      · exact .inl (e1.symm.trans e)
      · right
        have e2 : some g = some (W.heap.size + 1) := e.symm.trans e1
        cases e2
        omega) (by omega)
  have hbl := h.out.lt
  have hcell : w9.cell? ⟨ob, 2, none⟩ = some (.slice va k vc) := by
    rw [hg.cell_far ⟨ob, 2, none⟩ (by simp; omega) (Ne.symm h.apart), World.cell?_alloc_lt _ _ _ (show ob < W.heap.size by omega)]
    exact ((h.move hb).out).three.2.2.2.1
  have hfz : w9.frozen? ⟨ob, 2, none⟩ = false := by
    rw [hg.frozen_far ⟨ob, 2, none⟩ (by simp; omega) (Ne.symm h.apart)]
    exact ((h.move hb).out.below (below1 W o)).fz 2
  refine ⟨va', vc', rfl, hcell, hfz, hbel, ?_⟩
  have p1 : [tRow va' (k + 1) vc' (ys ++ [x]), bRow ob [.int .i64 r, .int .i64 c, .slice va k vc], bRow rb [.int .i64 0, .int .i64 0, .slice none 0 0]].Perm [bRow ob [.int .i64 r, .int .i64 c, .slice va k vc], tRow va' (k + 1) vc' (ys ++ [x]), bRow rb [.int .i64 0, .int .i64 0, .slice none 0 0]] := List.Perm.swap _ _ _
  have h3 := (h2.perm p1).store 2 (.slice va' (k + 1) vc')
  have h4 := h3.perm (M := [tRow va' (k + 1) vc' (ys ++ [x]), bRow ob [.int .i64 r, .int .i64 c, .slice va' (k + 1) vc'], bRow rb [.int .i64 0, .int .i64 0, .slice none 0 0]]) (List.Perm.swap _ _ _)
  refine ⟨h4.bounds (Nat.le_refl _) (by simp [World.setCell]), by simp [h.len], fun y hy => ?_, hbel.setCell (p := ⟨ob, 2, none⟩) ?_ _⟩
  · rcases List.mem_append.1 hy with hy | hy
    · exact h.ok y hy
    · simp at hy; subst hy; exact hx
  · exact (h.own.cell (List.mem_cons_of_mem _ (List.mem_cons_self ..))).2.1.1
/-- the end: the tensor is laid into the result's box -/
theorem Bld.fin (h : Bld w0 wt rb ob r c va k vc ys) : RepF (setCs wt rb 0 [.int .i64 r, .int .i64 c, .slice va k vc]) w0.heap.size (setCs wt rb 0 [.int .i64 r, .int .i64 c, .slice va k vc]).heap.size va k vc ys ∧ Below w0.heap.size w0 (setCs wt rb 0 [.int .i64 r, .int .i64 c, .slice va k vc]) := by
  have hl := h.len
  subst hl
  have p1 : [tRow va ys.length vc ys, bRow ob [.int .i64 r, .int .i64 c, .slice va ys.length vc], bRow rb [.int .i64 0, .int .i64 0, .slice none 0 0]].Perm [bRow rb [.int .i64 0, .int .i64 0, .slice none 0 0], tRow va ys.length vc ys, bRow ob [.int .i64 r, .int .i64 c, .slice va ys.length vc]] :=
    (List.perm_append_comm (l₁ := [tRow va ys.length vc ys, bRow ob [.int .i64 r, .int .i64 c, .slice va ys.length vc]]) (l₂ := [bRow rb [.int .i64 0, .int .i64 0, .slice none 0 0]]))
  have h1 := setCs_own (h.own.perm p1) 0 [.int .i64 r, .int .i64 c, .slice va ys.length vc]
  have hrb := (h.own.cell (List.mem_cons_of_mem _ (List.mem_cons_of_mem _ (List.mem_cons_self ..)))).2.1.1
  refine ⟨(h1.repF (List.mem_cons_of_mem _ (List.mem_cons_self ..)) h.ok).bounds (Nat.le_refl _) (by rw [setCs_size]; exact Nat.le_refl _), setCs_below h.below hrb 0 _⟩
end
theorem Bld.start1 (w : World) (r c : Int) : Bld w (((w.alloc (.cells #[.int .i64 0, .int .i64 0, .slice none 0 0] 27)).alloc (.cells #[] 33)).alloc (.cells #[.int .i64 r, .int .i64 c, .slice (some ⟨w.heap.size + 1, 0, none⟩) 0 0] 27)) w.heap.size (w.heap.size + 1 + 1) r c (some ⟨w.heap.size + 1, 0, none⟩) 0 0 [] := by
  refine ⟨?_, rfl, fun x hx => (nomatch hx), below3 w _ _ _⟩
  have h1 := (Own.nil w w.heap.size w.heap.size).alloc (Nat.le_refl _) (Nat.le_refl _) #[.int .i64 0, .int .i64 0, .slice none 0 0] 27
  have h := World.ownsRow_made (base := w.heap.size) (e := 33) (size := 1) (w.alloc (.cells #[.int .i64 0, .int .i64 0, .slice none 0 0] 27)) #[] 0 (by simp) (Nat.zero_le _) rfl
  have e1 : (w.alloc (.cells #[.int .i64 0, .int .i64 0, .slice none 0 0] 27)).heap.size = w.heap.size + 1 := by simp
  rw [e1] at h
  have h2 : Own ((w.alloc (.cells #[.int .i64 0, .int .i64 0, .slice none 0 0] 27)).alloc (.cells #[] 33)) w.heap.size (w.heap.size + 1 + 1) [tRow (some ⟨w.heap.size + 1, 0, none⟩) 0 0 [], bRow w.heap.size [.int .i64 0, .int .i64 0, .slice none 0 0]] := by
    refine Own.cons ⟨h, fun g e => ?_⟩ ((h1.below (below1 _ _)).bounds (Nat.le_refl _) (Nat.le_succ _)) fun y hy g e1 e2 => ?_
    · cases e; show w.heap.size + 1 < w.heap.size + 1 + 1; omega
    · simp at hy; subst hy
      cases e1
      have e3 : w.heap.size = w.heap.size + 1 := by injection e2
      omega
  have h3 := h2.alloc (by simp; omega) (by simp) #[.int .i64 r, .int .i64 c, .slice (some ⟨w.heap.size + 1, 0, none⟩) 0 0] 27
  have e2 : ((w.alloc (.cells #[.int .i64 0, .int .i64 0, .slice none 0 0] 27)).alloc (.cells #[] 33)).heap.size = w.heap.size + 1 + 1 := by simp
  rw [e2] at h3
  exact (h3.perm (List.Perm.swap _ _ _)).bounds (Nat.le_refl _) (by simp)
theorem Bld.start2 (w : World) (r c : Int) : Bld w (((w.alloc (.cells #[.int .i64 0, .int .i64 0, .slice none 0 0] 27)).alloc (.cells #[.int .i64 r, .int .i64 c, .slice (some ⟨w.heap.size + 1 + 1, 0, none⟩) 0 0] 27)).alloc (.cells #[] 33)) w.heap.size (w.heap.size + 1) r c (some ⟨w.heap.size + 1 + 1, 0, none⟩) 0 0 [] := by
  refine ⟨?_, rfl, fun x hx => (nomatch hx), below3 w _ _ _⟩
  have h1 := (Own.nil w w.heap.size w.heap.size).alloc (Nat.le_refl _) (Nat.le_refl _) #[.int .i64 0, .int .i64 0, .slice none 0 0] 27
  have h2 := h1.alloc (by simp) (by simp) #[.int .i64 r, .int .i64 c, .slice (some ⟨w.heap.size + 1 + 1, 0, none⟩) 0 0] 27
  have h := World.ownsRow_made (base := w.heap.size) (e := 33) (size := 1) ((w.alloc (.cells #[.int .i64 0, .int .i64 0, .slice none 0 0] 27)).alloc (.cells #[.int .i64 r, .int .i64 c, .slice (some ⟨w.heap.size + 1 + 1, 0, none⟩) 0 0] 27)) #[] 0 (by simp; omega) (Nat.zero_le _) rfl
  have e1 : ((w.alloc (.cells #[.int .i64 0, .int .i64 0, .slice none 0 0] 27)).alloc (.cells #[.int .i64 r, .int .i64 c, .slice (some ⟨w.heap.size + 1 + 1, 0, none⟩) 0 0] 27)).heap.size = w.heap.size + 1 + 1 := by simp
  have e0 : (w.alloc (.cells #[.int .i64 0, .int .i64 0, .slice none 0 0] 27)).heap.size = w.heap.size + 1 := by simp
  rw [e1] at h
  rw [e0] at h2
  refine (Own.cons (x := tRow (some ⟨w.heap.size + 1 + 1, 0, none⟩) 0 0 []) ⟨h, fun g e => ?_⟩ ((h2.below (below1 _ _)).bounds (Nat.le_refl _) (Nat.le_succ _)) fun y hy g e1 e2 => ?_).bounds (Nat.le_refl _) (by simp)
  · cases e; show w.heap.size + 1 + 1 < w.heap.size + 1 + 1 + 1; omega
  · simp at hy
    cases e1
    rcases hy with rfl | rfl
    · have e3 : w.heap.size + 1 = w.heap.size + 1 + 1 := by injection e2
      omega
    · have e3 : w.heap.size = w.heap.size + 1 + 1 := by injection e2
      omega
end Go.Proofs.Ytnkikigfpdngdaa
/- Sums of tensors: the reference. No condition. -/
namespace Go.Proofs.Ytnkikigfpdngdaa
open Go Go.RowKit
set_option linter.unusedVariables false
set_option linter.unusedSimpArgs false
def tenE (op : BinOp) (X Y : List Nat) (n : Nat) : List Nat := listOf n fun i => fop op .f32 (X.getD i 0) (Y.getD i 0)
theorem map_push {zs : List Nat} {k : Nat} {f : Nat → Nat} {z : Nat} (h : zs.map (cn .f32) = listOf k f) (hz : cn .f32 z = f k) : (zs ++ [z]).map (cn .f32) = listOf (k + 1) f := by
  rw [List.map_append, h, listOf_succ, List.map_cons, List.map_nil, hz]
set_option maxHeartbeats 8000000 in
set_option maxRecDepth 100000 in
theorem spec_l02Add (w : World) (g1 o1 g2 o2 : Nat) (r c : Int) (a1 a2 : Option Addr) (c1 c2 n : Nat) (xs ys : List Nat) (p0 : w.cell? ⟨g1, o1, none⟩ = some (.int .i64 r)) (p1 : w.cell? ⟨g1, o1 + 1, none⟩ = some (.int .i64 c)) (p2 : w.cell? ⟨g1, o1 + 2, none⟩ = some (.slice a1 n c1)) (q2 : w.cell? ⟨g2, o2 + 2, none⟩ = some (.slice a2 n c2))
    (hx : F32s w a1 c1 xs) (hy : F32s w a2 c2 ys) (hxl : xs.length = n) (hyl : ys.length = n) (hn : n ≤ 256) :
    Calls Try.prog 233 #[.pointer (some ⟨g1, o1, none⟩), .pointer (some ⟨g2, o2, none⟩)] w (TenPost r c n (tenE .add (xs.map (cn .f32)) (ys.map (cn .f32)) n) w) := by
  obtain ⟨i0, hi0, hz0, hzs, hz2⟩ := info_parts info_f32
  have HX := Lib.hid hx; have HY := Lib.hid hy; have HXL := Lib.hid hxl; have HYL := Lib.hid hyl
  clear hx hy hxl hyl
  have hg1 := World.block_lt_of_cell? w _ p0
  have hg2 := World.block_lt_of_cell? w _ q2
  simp only at hg1 hg2
  go_enter Try.func233, Try.ntmps233
  go_upto_region 1 with fail
  obtain ⟨W0, hW0⟩ : ∃ W, W = w.alloc (.cells #[.int .i64 0, .int .i64 0, .slice none 0 0] 27) := ⟨_, rfl⟩
  have k0 : W0.cell? ⟨g1, o1, none⟩ = some (.int .i64 r) := by rw [hW0]; go_simp
  have k1 : W0.cell? ⟨g1, o1 + 1, none⟩ = some (.int .i64 c) := by rw [hW0]; go_simp
  have HW0 := Lib.hid hW0
  have hs0 : W0.heap.size = w.heap.size + 1 := by rw [hW0]; simp
  rw [← hW0]
  have HP := Lib.hid (And.intro p0 (And.intro p1 (And.intro p2 q2)))
  clear hW0 p0 p1 p2 q2
  go_cut [5] (fun p5 wx => ∃ ob va vc, p5 = .pointer (some ⟨ob, 0, none⟩) ∧ Hid (Bld w wx w.heap.size ob r c va 0 vc []))
  case first =>
    go_region_held3 (fun w' => w'.cell? ⟨g1, o1, none⟩ = some (.int .i64 r) ∧ w'.cell? ⟨g1, o1 + 1, none⟩ = some (.int .i64 c)) (go_keep) (first | fail)
    all_goals (try go_wp2_with fail)
    all_goals go_meet
    · exact ⟨_, _, _, rfl, Lib.hid (by rw [HW0.out]; exact (Bld.start1 w r c).move (Below.drew (Below.refl _ _)))⟩
    · exact ⟨_, _, _, rfl, Lib.hid (by rw [HW0.out]; exact (Bld.start2 w r c).move (Below.drew (Below.refl _ _)))⟩
  case rest =>
    obtain ⟨ob, va, vc, rfl, HB⟩ := hcut
    clear k0 k1 HW0 hs0
    go_wp2
    go_loopw [6] (fun i wt => ∃ k : Nat, i = .int .i64 k ∧ k ≤ n ∧ ∃ va vc zs, Hid (Bld w wt w.heap.size ob r c va k vc zs) ∧ Hid (zs.map (cn .f32) = tenE .add (xs.map (cn .f32)) (ys.map (cn .f32)) k)) (fun i _ => n - (intOf i).toNat)
    case atStart => exact ⟨0, rfl, Nat.zero_le _, va, vc, [], HB, Lib.hid rfl⟩
    case round =>
      clear HB
      obtain ⟨k, rfl, hk, va, vc, zs, HB, HZ⟩ := hrel
      have hbb := HB.out.below
      have hP := HP.out
      have r2 : wr.cell? ⟨g1, o1 + 2, none⟩ = some (.slice a1 n c1) := (hbb.cell (p := ⟨g1, o1 + 2, none⟩) hg1).trans hP.2.2.1
      have s2 : wr.cell? ⟨g2, o2 + 2, none⟩ = some (.slice a2 n c2) := (hbb.cell (p := ⟨g2, o2 + 2, none⟩) hg2).trans hP.2.2.2
      by_cases hlt : k < n
      · obtain ⟨b1, f1, rfl, hl1, hc1⟩ := HX.out.spot (k := k) (by rw [HXL.out]; exact hlt)
        obtain ⟨b2, f2, rfl, hl2, hc2⟩ := HY.out.spot (k := k) (by rw [HYL.out]; exact hlt)
        have d1 := hc1 k (by rw [HXL.out]; exact hlt)
        have d2 := hc2 k (by rw [HYL.out]; exact hlt)
        have hx2 := cn_getD xs k
        have hy2 := cn_getD ys k
        obtain ⟨x, hx⟩ : ∃ x, x = xs.getD k 0 := ⟨_, rfl⟩
        obtain ⟨y, hy⟩ : ∃ y, y = ys.getD k 0 := ⟨_, rfl⟩
        rw [← hx] at d1 hx2
        rw [← hy] at d2 hy2
        have KS : Hid (∀ W, Below w.heap.size w W → W.cell? ⟨ob, 2, none⟩ = some (.slice va k vc) → W.cell? ⟨g1, o1 + 2, none⟩ = some (.slice (some ⟨b1, f1, none⟩) n c1) ∧ W.cell? ⟨g2, o2 + 2, none⟩ = some (.slice (some ⟨b2, f2, none⟩) n c2) ∧ W.cell? ⟨b1, f1 + k, none⟩ = some (.float .f32 x) ∧ W.cell? ⟨b2, f2 + k, none⟩ = some (.float .f32 y) ∧ W.cell? ⟨ob, 2, none⟩ = some (.slice va k vc)) := Lib.hid (fun W hb ho => ⟨(hb.cell (p := ⟨g1, o1 + 2, none⟩) hg1).trans hP.2.2.1, (hb.cell (p := ⟨g2, o2 + 2, none⟩) hg2).trans hP.2.2.2, (hb.cell (p := ⟨b1, f1 + k, none⟩) hl1).trans d1, (hb.cell (p := ⟨b2, f2 + k, none⟩) hl2).trans d2, ho⟩)
        have HXY := Lib.hid (And.intro hx2 hy2)
        have HS := Lib.hid (KS.out wr HB.out.below HB.out.out.three.2.2.2.1)
        clear hc1 hc2 hx hy d1 d2 hx2 hy2 hbb hP
        go_upto_region 5 with fail
        clear r2 s2
        refine wp_region_mix 20 [17, 18] (fun W => W.cell? ⟨g1, o1 + 2, none⟩ = some (.slice (some ⟨b1, f1, none⟩) n c1) ∧ W.cell? ⟨g2, o2 + 2, none⟩ = some (.slice (some ⟨b2, f2, none⟩) n c2) ∧ W.cell? ⟨b1, f1 + k, none⟩ = some (.float .f32 x) ∧ W.cell? ⟨b2, f2 + k, none⟩ = some (.float .f32 y) ∧ W.cell? ⟨ob, 2, none⟩ = some (.slice va k vc)) (fun _ _ _ => False) (fun _ _ _ _ _ => False) (by kernel_rfl) (by kernel_rfl) HS.out (fun W q h => by simpa using h) ?_
        iterate 16 (refine mwalk_plain (by rfl) HS.out (fun K hK W hW => ?_); obtain ⟨e1, e2, e3, e4, e5⟩ := hW; go_simp; refine hK _ ?_; clear hK K e1 e2 e3 e4 e5)
        refine mwalk_plain (by rfl) HS.out (fun K hK W hW => ?_)
        go_simp
        have hz := cn_fbits .add .f32 x y W
        have hzl := fbits_lt .add .f32 x y W
        generalize fbits .add .f32 x y W = z at hz hzl ⊢
        refine hK _ ?_
        have HZ2 := Lib.hid hz; have HZL := Lib.hid hzl
        clear hK K hW hz hzl
        refine mwalk_spec (by rfl) HS.out (fun K hK q => ?_)
        have hbq := below_drewN (Below.refl wr.heap.size wr) q
        go_simp
        have hbA : Below wr.heap.size wr ((wr.drewN q).alloc (.cells #[.float .f32 z] 33)) := hbq.alloc (by simp) _
        have hs1 := KS.out _ ((HB.out.below.trans (hbA.mono HB.out.below.size))) ((HB.out.move hbA).out.three.2.2.2.1)
        have HBA := Lib.hid hbA; have HS1 := Lib.hid hs1
        refine ⟨hs1, hK _ _ ?_⟩
        clear hK K hbq hbA hs1
        refine mwalk_spec (by rfl) HS1.out (fun K hK q2 => ?_)
        refine specRes_append rfl _ _ 25 rfl w.heap.size 33 i0 _ 1 4 Try.underlying25 hi0 hz0 hzs hz2 rfl (by decide) (.slice va k vc) k (zs.map (Value.float .f32)) rfl (HB.out.move (below_drewN HBA.out q2)).row ⟨wr.heap.size, 0, none⟩ 1 1 [.float .f32 z] rfl rfl (World.news_of_block (cs := #[.float .f32 z]) (t := 33) (fr := (0, 0)) (heap_alloc_new (wr.drewN q) _)) (by simp [Value.oneCell']) (by unfold maxLen; omega) (by omega) (Nat.le_trans HB.out.below.size (Nat.le_trans HBA.out.size (Nat.le_refl _))) ?_
        intro v' w9 ho9 hg9 hat9 hb9
        obtain ⟨va', vc', rfl, hc9, hf9, hbel9, hnew⟩ := HB.out.push (W := (wr.drewN q).drewN q2) HZL.out (below_drewN (below_drewN (Below.refl _ _) q) q2) ho9 hg9 (by simpa using hat9)
        have hs9 := KS.out w9 hbel9 hc9
        have HS9 := Lib.hid hs9; have HF9 := Lib.hid (And.intro hc9 hf9); have HN9 := Lib.hid hnew
        have HM9 := Lib.hid (map_push HZ.out (f := fun i => fop .add .f32 ((xs.map (cn .f32)).getD i 0) ((ys.map (cn .f32)).getD i 0)) (by rw [HZ2.out, HXY.out.1, HXY.out.2]))
        refine ⟨hs9, hK _ _ ?_⟩
        clear hK K ho9 hg9 hat9 hb9 hc9 hf9 hbel9 hnew hs9 HS1 HBA
        refine mwalk_plain (by rfl) HS9.out (fun K hK W hW => ?_)
        go_simp
        refine hK _ ?_
        clear hK K hW
        refine mwalk_nil (fun q3 => ?_)
        have hc9 : (w9.drewN q3).cell? ⟨ob, 2, none⟩ = some (.slice va k vc) := by simpa using HF9.out.1
        have hf9 : (w9.drewN q3).frozen? ⟨ob, 2, none⟩ = false := by simpa using HF9.out.2
        have HN := Lib.hid (HN9.out.move (below_drewN (Below.refl _ _) q3))
        clear HN9 HS9 HF9 HB HZ HS KS
        go_wp2
        go_roundw
        case rel => exact ⟨k + 1, by go_num, hlt, _, _, _, HN, HM9⟩
        case measure => simp [intOf]; omega
      · have hkn : k = n := by omega
        subst hkn
        obtain ⟨ol, t0, t1, t2, tf⟩ := HB.out.out.three
        obtain ⟨rl, u0, u1, u2, uf⟩ := HB.out.res.three
        have HFIN := Lib.hid HB.out.fin
        clear s2 hbb hP
        go_wp2
        try simp only [Exit.inBlock, Exit.then]
        refine bodyPost_ret (v := .agg #[.int .i64 r, .int .i64 c, .slice va k vc]) (by simp [results, Try.results233, go_sem, u0, u1, u2]) rfl ⟨va, vc, zs, rfl, Lib.hid HFIN.out.1, HZ, HFIN.out.2⟩
end Go.Proofs.Ytnkikigfpdngdaa
/- Sums and products with rows of tensors: the reference. No condition. -/
namespace Go.Proofs.Ytnkikigfpdngdaa
open Go Go.RowKit
set_option linter.unusedVariables false
set_option linter.unusedSimpArgs false
def rowE (op : BinOp) (X Y : List Nat) (c n : Nat) : List Nat := listOf n fun i => fop op .f32 (X.getD i 0) (Y.getD (i % c) 0)
set_option maxHeartbeats 8000000 in
set_option maxRecDepth 100000 in
theorem spec_l02AddRow (w : World) (g1 o1 : Nat) (r : Int) (c : Nat) (a1 a2 : Option Addr) (c1 c2 n : Nat) (xs ys : List Nat) (p0 : w.cell? ⟨g1, o1, none⟩ = some (.int .i64 r)) (p1 : w.cell? ⟨g1, o1 + 1, none⟩ = some (.int .i64 c)) (p2 : w.cell? ⟨g1, o1 + 2, none⟩ = some (.slice a1 n c1))
    (hx : F32s w a1 c1 xs) (hy : F32s w a2 c2 ys) (hxl : xs.length = n) (hyl : ys.length = c) (hn : n ≤ 256) (hcp : 1 ≤ c) (hcq : c ≤ 16) :
    Calls Try.prog 234 #[.pointer (some ⟨g1, o1, none⟩), .slice a2 c c2] w (TenPost r c n (rowE .add (xs.map (cn .f32)) (ys.map (cn .f32)) c n) w) := by
  obtain ⟨i0, hi0, hz0, hzs, hz2⟩ := info_parts info_f32
  have HX := Lib.hid hx; have HXL := Lib.hid hxl
  have HY := Lib.hid hy; have HYL := Lib.hid hyl
  clear hy hyl
  clear hx hxl
  have hg1 := World.block_lt_of_cell? w _ p0
  simp only at hg1
  go_enter Try.func234, Try.ntmps234
  go_upto_region 1 with fail
  obtain ⟨W0, hW0⟩ : ∃ W, W = w.alloc (.cells #[.int .i64 0, .int .i64 0, .slice none 0 0] 27) := ⟨_, rfl⟩
  have k0 : W0.cell? ⟨g1, o1, none⟩ = some (.int .i64 r) := by rw [hW0]; go_simp
  have k1 : W0.cell? ⟨g1, o1 + 1, none⟩ = some (.int .i64 c) := by rw [hW0]; go_simp
  have HW0 := Lib.hid hW0
  have hs0 : W0.heap.size = w.heap.size + 1 := by rw [hW0]; simp
  rw [← hW0]
  have HP := Lib.hid (And.intro p1 (And.intro p2 trivial))
  clear hW0 p0 p1 p2
  go_cut [5] (fun p5 wx => ∃ ob va vc, p5 = .pointer (some ⟨ob, 0, none⟩) ∧ Hid (Bld w wx w.heap.size ob r c va 0 vc []))
  case first =>
    go_region_held3 (fun w' => w'.cell? ⟨g1, o1, none⟩ = some (.int .i64 r) ∧ w'.cell? ⟨g1, o1 + 1, none⟩ = some (.int .i64 c)) (go_keep) (first | fail)
    all_goals (try go_wp2_with fail)
    all_goals go_meet
    · exact ⟨_, _, _, rfl, Lib.hid (by rw [HW0.out]; exact (Bld.start1 w r c).move (Below.drew (Below.refl _ _)))⟩
    · exact ⟨_, _, _, rfl, Lib.hid (by rw [HW0.out]; exact (Bld.start2 w r c).move (Below.drew (Below.refl _ _)))⟩
  case rest =>
    obtain ⟨ob, va, vc, rfl, HB⟩ := hcut
    clear k0 k1 HW0 hs0
    go_wp2
    go_loopw [6] (fun i wt => ∃ k : Nat, i = .int .i64 k ∧ k ≤ n ∧ ∃ va vc zs, Hid (Bld w wt w.heap.size ob r c va k vc zs) ∧ Hid (zs.map (cn .f32) = rowE .add (xs.map (cn .f32)) (ys.map (cn .f32)) c k)) (fun i _ => n - (intOf i).toNat)
    case atStart => exact ⟨0, rfl, Nat.zero_le _, va, vc, [], HB, Lib.hid rfl⟩
    case round =>
      clear HB
      obtain ⟨k, rfl, hk, va, vc, zs, HB, HZ⟩ := hrel
      have hbb := HB.out.below
      have hP := HP.out
      have r1 : wr.cell? ⟨g1, o1 + 1, none⟩ = some (.int .i64 c) := (hbb.cell (p := ⟨g1, o1 + 1, none⟩) hg1).trans hP.1
      have r2 : wr.cell? ⟨g1, o1 + 2, none⟩ = some (.slice a1 n c1) := (hbb.cell (p := ⟨g1, o1 + 2, none⟩) hg1).trans hP.2.1
      by_cases hlt : k < n
      · obtain ⟨b1, f1, rfl, hl1, hc1⟩ := HX.out.spot (k := k) (by rw [HXL.out]; exact hlt)
        have d1 := hc1 k (by rw [HXL.out]; exact hlt)
        have hx2 := cn_getD xs k
        obtain ⟨x, hx⟩ : ∃ x, x = xs.getD k 0 := ⟨_, rfl⟩
        rw [← hx] at d1 hx2
        have hjc : k % c < c := Nat.mod_lt _ hcp
        obtain ⟨b2, f2, rfl, hl2, hc2⟩ := HY.out.spot (k := k % c) (by rw [HYL.out]; exact hjc)
        have d2 := hc2 (k % c) (by rw [HYL.out]; exact hjc)
        have hy2 := cn_getD ys (k % c)
        obtain ⟨y, hy⟩ : ∃ y, y = ys.getD (k % c) 0 := ⟨_, rfl⟩
        rw [← hy] at d2 hy2
        have hm0 : (k : Int).tmod (c : Int) = ((k % c : Nat) : Int) := (Int.ofNat_tmod k c).symm
        have hc0 : ¬ c = 0 := by omega
        obtain ⟨j, hj⟩ : ∃ j, j = k % c := ⟨_, rfl⟩
        rw [← hj] at hjc d2 hm0
        have HJ := Lib.hid hj
        clear hj
        have KS : Hid (∀ W, Below w.heap.size w W → W.cell? ⟨ob, 2, none⟩ = some (.slice va k vc) → W.cell? ⟨g1, o1 + 1, none⟩ = some (.int .i64 c) ∧ W.cell? ⟨g1, o1 + 2, none⟩ = some (.slice (some ⟨b1, f1, none⟩) n c1) ∧ W.cell? ⟨b1, f1 + k, none⟩ = some (.float .f32 x) ∧ W.cell? ⟨b2, f2 + j, none⟩ = some (.float .f32 y) ∧ W.cell? ⟨ob, 2, none⟩ = some (.slice va k vc)) := Lib.hid (fun W hb ho => ⟨(hb.cell (p := ⟨g1, o1 + 1, none⟩) hg1).trans hP.1, (hb.cell (p := ⟨g1, o1 + 2, none⟩) hg1).trans hP.2.1, (hb.cell (p := ⟨b1, f1 + k, none⟩) hl1).trans d1, (hb.cell (p := ⟨b2, f2 + j, none⟩) hl2).trans d2, ho⟩)
        have HXY := Lib.hid (And.intro hx2 hy2)
        have HS := Lib.hid (KS.out wr HB.out.below HB.out.out.three.2.2.2.1)
        clear hc1 hx d1 hx2 hbb hP hc2 hy d2 hy2
        go_upto_region 5 with fail
        clear r1 r2
        refine wp_region_mix 22 [19, 20] (fun W => W.cell? ⟨g1, o1 + 1, none⟩ = some (.int .i64 c) ∧ W.cell? ⟨g1, o1 + 2, none⟩ = some (.slice (some ⟨b1, f1, none⟩) n c1) ∧ W.cell? ⟨b1, f1 + k, none⟩ = some (.float .f32 x) ∧ W.cell? ⟨b2, f2 + j, none⟩ = some (.float .f32 y) ∧ W.cell? ⟨ob, 2, none⟩ = some (.slice va k vc)) (fun _ _ _ => False) (fun _ _ _ _ _ => False) (by kernel_rfl) (by kernel_rfl) HS.out (fun W q h => by simpa using h) ?_
        iterate 18 (refine mwalk_plain (by rfl) HS.out (fun K hK W hW => ?_); obtain ⟨e0, e1, e2, e3, e4⟩ := hW; go_simp; refine hK _ ?_; clear hK K e0 e1 e2 e3 e4)
        refine mwalk_plain (by rfl) HS.out (fun K hK W hW => ?_)
        go_simp
        have hz := cn_fbits .add .f32 x y W
        have hzl := fbits_lt .add .f32 x y W
        generalize fbits .add .f32 x y W = z at hz hzl ⊢
        refine hK _ ?_
        have HZ2 := Lib.hid hz; have HZL := Lib.hid hzl
        clear hK K hW hz hzl
        refine mwalk_spec (by rfl) HS.out (fun K hK q => ?_)
        have hbq := below_drewN (Below.refl wr.heap.size wr) q
        go_simp
        have hbA : Below wr.heap.size wr ((wr.drewN q).alloc (.cells #[.float .f32 z] 33)) := hbq.alloc (by simp) _
        have hs1 := KS.out _ ((HB.out.below.trans (hbA.mono HB.out.below.size))) ((HB.out.move hbA).out.three.2.2.2.1)
        have HBA := Lib.hid hbA; have HS1 := Lib.hid hs1
        refine ⟨hs1, hK _ _ ?_⟩
        clear hK K hbq hbA hs1
        refine mwalk_spec (by rfl) HS1.out (fun K hK q2 => ?_)
        refine specRes_append rfl _ _ 25 rfl w.heap.size 33 i0 _ 1 4 Try.underlying25 hi0 hz0 hzs hz2 rfl (by decide) (.slice va k vc) k (zs.map (Value.float .f32)) rfl (HB.out.move (below_drewN HBA.out q2)).row ⟨wr.heap.size, 0, none⟩ 1 1 [.float .f32 z] rfl rfl (World.news_of_block (cs := #[.float .f32 z]) (t := 33) (fr := (0, 0)) (heap_alloc_new (wr.drewN q) _)) (by simp [Value.oneCell']) (by unfold maxLen; omega) (by omega) (Nat.le_trans HB.out.below.size (Nat.le_trans HBA.out.size (Nat.le_refl _))) ?_
        intro v' w9 ho9 hg9 hat9 hb9
        obtain ⟨va', vc', rfl, hc9, hf9, hbel9, hnew⟩ := HB.out.push (W := (wr.drewN q).drewN q2) HZL.out (below_drewN (below_drewN (Below.refl _ _) q) q2) ho9 hg9 (by simpa using hat9)
        have hs9 := KS.out w9 hbel9 hc9
        have HS9 := Lib.hid hs9; have HF9 := Lib.hid (And.intro hc9 hf9); have HN9 := Lib.hid hnew
        have HM9 := Lib.hid (map_push HZ.out (f := fun i => fop .add .f32 ((xs.map (cn .f32)).getD i 0) ((ys.map (cn .f32)).getD (i % c) 0)) (by rw [HZ2.out]; exact (by show _ = fop .add .f32 ((xs.map (cn .f32)).getD k 0) ((ys.map (cn .f32)).getD (k % c) 0); rw [HXY.out.1, HXY.out.2])))
        refine ⟨hs9, hK _ _ ?_⟩
        clear hK K ho9 hg9 hat9 hb9 hc9 hf9 hbel9 hnew hs9 HS1 HBA
        refine mwalk_plain (by rfl) HS9.out (fun K hK W hW => ?_)
        go_simp
        refine hK _ ?_
        clear hK K hW
        refine mwalk_nil (fun q3 => ?_)
        have hc9 : (w9.drewN q3).cell? ⟨ob, 2, none⟩ = some (.slice va k vc) := by simpa using HF9.out.1
        have hf9 : (w9.drewN q3).frozen? ⟨ob, 2, none⟩ = false := by simpa using HF9.out.2
        have HN := Lib.hid (HN9.out.move (below_drewN (Below.refl _ _) q3))
        clear HN9 HS9 HF9 HB HZ HS KS
        go_wp2
        go_roundw
        case rel => exact ⟨k + 1, by go_num, hlt, _, _, _, HN, HM9⟩
        case measure => simp [intOf]; omega
      · have hkn : k = n := by omega
        subst hkn
        obtain ⟨ol, t0, t1, t2, tf⟩ := HB.out.out.three
        obtain ⟨rl, u0, u1, u2, uf⟩ := HB.out.res.three
        have HFIN := Lib.hid HB.out.fin
        clear hbb hP r1
        go_wp2
        try simp only [Exit.inBlock, Exit.then]
        refine bodyPost_ret (v := .agg #[.int .i64 r, .int .i64 c, .slice va k vc]) (by simp [results, Try.results234, go_sem, u0, u1, u2]) rfl ⟨va, vc, zs, rfl, Lib.hid HFIN.out.1, HZ, HFIN.out.2⟩
set_option maxHeartbeats 8000000 in
set_option maxRecDepth 100000 in
theorem spec_l02MulRow (w : World) (g1 o1 : Nat) (r : Int) (c : Nat) (a1 a2 : Option Addr) (c1 c2 n : Nat) (xs ys : List Nat) (p0 : w.cell? ⟨g1, o1, none⟩ = some (.int .i64 r)) (p1 : w.cell? ⟨g1, o1 + 1, none⟩ = some (.int .i64 c)) (p2 : w.cell? ⟨g1, o1 + 2, none⟩ = some (.slice a1 n c1))
    (hx : F32s w a1 c1 xs) (hy : F32s w a2 c2 ys) (hxl : xs.length = n) (hyl : ys.length = c) (hn : n ≤ 256) (hcp : 1 ≤ c) (hcq : c ≤ 16) :
    Calls Try.prog 229 #[.pointer (some ⟨g1, o1, none⟩), .slice a2 c c2] w (TenPost r c n (rowE .mul (xs.map (cn .f32)) (ys.map (cn .f32)) c n) w) := by
  obtain ⟨i0, hi0, hz0, hzs, hz2⟩ := info_parts info_f32
  have HX := Lib.hid hx; have HXL := Lib.hid hxl
  have HY := Lib.hid hy; have HYL := Lib.hid hyl
  clear hy hyl
  clear hx hxl
  have hg1 := World.block_lt_of_cell? w _ p0
  simp only at hg1
  go_enter Try.func229, Try.ntmps229
  go_upto_region 1 with fail
  obtain ⟨W0, hW0⟩ : ∃ W, W = w.alloc (.cells #[.int .i64 0, .int .i64 0, .slice none 0 0] 27) := ⟨_, rfl⟩
  have k0 : W0.cell? ⟨g1, o1, none⟩ = some (.int .i64 r) := by rw [hW0]; go_simp
  have k1 : W0.cell? ⟨g1, o1 + 1, none⟩ = some (.int .i64 c) := by rw [hW0]; go_simp
  have HW0 := Lib.hid hW0
  have hs0 : W0.heap.size = w.heap.size + 1 := by rw [hW0]; simp
  rw [← hW0]
  have HP := Lib.hid (And.intro p1 (And.intro p2 trivial))
  clear hW0 p0 p1 p2
  go_cut [5] (fun p5 wx => ∃ ob va vc, p5 = .pointer (some ⟨ob, 0, none⟩) ∧ Hid (Bld w wx w.heap.size ob r c va 0 vc []))
  case first =>
    go_region_held3 (fun w' => w'.cell? ⟨g1, o1, none⟩ = some (.int .i64 r) ∧ w'.cell? ⟨g1, o1 + 1, none⟩ = some (.int .i64 c)) (go_keep) (first | fail)
    all_goals (try go_wp2_with fail)
    all_goals go_meet
    · exact ⟨_, _, _, rfl, Lib.hid (by rw [HW0.out]; exact (Bld.start1 w r c).move (Below.drew (Below.refl _ _)))⟩
    · exact ⟨_, _, _, rfl, Lib.hid (by rw [HW0.out]; exact (Bld.start2 w r c).move (Below.drew (Below.refl _ _)))⟩
  case rest =>
    obtain ⟨ob, va, vc, rfl, HB⟩ := hcut
    clear k0 k1 HW0 hs0
    go_wp2
    go_loopw [6] (fun i wt => ∃ k : Nat, i = .int .i64 k ∧ k ≤ n ∧ ∃ va vc zs, Hid (Bld w wt w.heap.size ob r c va k vc zs) ∧ Hid (zs.map (cn .f32) = rowE .mul (xs.map (cn .f32)) (ys.map (cn .f32)) c k)) (fun i _ => n - (intOf i).toNat)
    case atStart => exact ⟨0, rfl, Nat.zero_le _, va, vc, [], HB, Lib.hid rfl⟩
    case round =>
      clear HB
      obtain ⟨k, rfl, hk, va, vc, zs, HB, HZ⟩ := hrel
      have hbb := HB.out.below
      have hP := HP.out
      have r1 : wr.cell? ⟨g1, o1 + 1, none⟩ = some (.int .i64 c) := (hbb.cell (p := ⟨g1, o1 + 1, none⟩) hg1).trans hP.1
      have r2 : wr.cell? ⟨g1, o1 + 2, none⟩ = some (.slice a1 n c1) := (hbb.cell (p := ⟨g1, o1 + 2, none⟩) hg1).trans hP.2.1
      by_cases hlt : k < n
      · obtain ⟨b1, f1, rfl, hl1, hc1⟩ := HX.out.spot (k := k) (by rw [HXL.out]; exact hlt)
        have d1 := hc1 k (by rw [HXL.out]; exact hlt)
        have hx2 := cn_getD xs k
        obtain ⟨x, hx⟩ : ∃ x, x = xs.getD k 0 := ⟨_, rfl⟩
        rw [← hx] at d1 hx2
        have hjc : k % c < c := Nat.mod_lt _ hcp
        obtain ⟨b2, f2, rfl, hl2, hc2⟩ := HY.out.spot (k := k % c) (by rw [HYL.out]; exact hjc)
        have d2 := hc2 (k % c) (by rw [HYL.out]; exact hjc)
        have hy2 := cn_getD ys (k % c)
        obtain ⟨y, hy⟩ : ∃ y, y = ys.getD (k % c) 0 := ⟨_, rfl⟩
        rw [← hy] at d2 hy2
        have hm0 : (k : Int).tmod (c : Int) = ((k % c : Nat) : Int) := (Int.ofNat_tmod k c).symm
        have hc0 : ¬ c = 0 := by omega
        obtain ⟨j, hj⟩ : ∃ j, j = k % c := ⟨_, rfl⟩
        rw [← hj] at hjc d2 hm0
        have HJ := Lib.hid hj
        clear hj
        have KS : Hid (∀ W, Below w.heap.size w W → W.cell? ⟨ob, 2, none⟩ = some (.slice va k vc) → W.cell? ⟨g1, o1 + 1, none⟩ = some (.int .i64 c) ∧ W.cell? ⟨g1, o1 + 2, none⟩ = some (.slice (some ⟨b1, f1, none⟩) n c1) ∧ W.cell? ⟨b1, f1 + k, none⟩ = some (.float .f32 x) ∧ W.cell? ⟨b2, f2 + j, none⟩ = some (.float .f32 y) ∧ W.cell? ⟨ob, 2, none⟩ = some (.slice va k vc)) := Lib.hid (fun W hb ho => ⟨(hb.cell (p := ⟨g1, o1 + 1, none⟩) hg1).trans hP.1, (hb.cell (p := ⟨g1, o1 + 2, none⟩) hg1).trans hP.2.1, (hb.cell (p := ⟨b1, f1 + k, none⟩) hl1).trans d1, (hb.cell (p := ⟨b2, f2 + j, none⟩) hl2).trans d2, ho⟩)
        have HXY := Lib.hid (And.intro hx2 hy2)
        have HS := Lib.hid (KS.out wr HB.out.below HB.out.out.three.2.2.2.1)
        clear hc1 hx d1 hx2 hbb hP hc2 hy d2 hy2
        go_upto_region 5 with fail
        clear r1 r2
        refine wp_region_mix 22 [19, 20] (fun W => W.cell? ⟨g1, o1 + 1, none⟩ = some (.int .i64 c) ∧ W.cell? ⟨g1, o1 + 2, none⟩ = some (.slice (some ⟨b1, f1, none⟩) n c1) ∧ W.cell? ⟨b1, f1 + k, none⟩ = some (.float .f32 x) ∧ W.cell? ⟨b2, f2 + j, none⟩ = some (.float .f32 y) ∧ W.cell? ⟨ob, 2, none⟩ = some (.slice va k vc)) (fun _ _ _ => False) (fun _ _ _ _ _ => False) (by kernel_rfl) (by kernel_rfl) HS.out (fun W q h => by simpa using h) ?_
        iterate 18 (refine mwalk_plain (by rfl) HS.out (fun K hK W hW => ?_); obtain ⟨e0, e1, e2, e3, e4⟩ := hW; go_simp; refine hK _ ?_; clear hK K e0 e1 e2 e3 e4)
        refine mwalk_plain (by rfl) HS.out (fun K hK W hW => ?_)
        go_simp
        have hz := cn_fbits .mul .f32 x y W
        have hzl := fbits_lt .mul .f32 x y W
        generalize fbits .mul .f32 x y W = z at hz hzl ⊢
        refine hK _ ?_
        have HZ2 := Lib.hid hz; have HZL := Lib.hid hzl
        clear hK K hW hz hzl
        refine mwalk_spec (by rfl) HS.out (fun K hK q => ?_)
        have hbq := below_drewN (Below.refl wr.heap.size wr) q
        go_simp
        have hbA : Below wr.heap.size wr ((wr.drewN q).alloc (.cells #[.float .f32 z] 33)) := hbq.alloc (by simp) _
        have hs1 := KS.out _ ((HB.out.below.trans (hbA.mono HB.out.below.size))) ((HB.out.move hbA).out.three.2.2.2.1)
        have HBA := Lib.hid hbA; have HS1 := Lib.hid hs1
        refine ⟨hs1, hK _ _ ?_⟩
        clear hK K hbq hbA hs1
        refine mwalk_spec (by rfl) HS1.out (fun K hK q2 => ?_)
        refine specRes_append rfl _ _ 25 rfl w.heap.size 33 i0 _ 1 4 Try.underlying25 hi0 hz0 hzs hz2 rfl (by decide) (.slice va k vc) k (zs.map (Value.float .f32)) rfl (HB.out.move (below_drewN HBA.out q2)).row ⟨wr.heap.size, 0, none⟩ 1 1 [.float .f32 z] rfl rfl (World.news_of_block (cs := #[.float .f32 z]) (t := 33) (fr := (0, 0)) (heap_alloc_new (wr.drewN q) _)) (by simp [Value.oneCell']) (by unfold maxLen; omega) (by omega) (Nat.le_trans HB.out.below.size (Nat.le_trans HBA.out.size (Nat.le_refl _))) ?_
        intro v' w9 ho9 hg9 hat9 hb9
        obtain ⟨va', vc', rfl, hc9, hf9, hbel9, hnew⟩ := HB.out.push (W := (wr.drewN q).drewN q2) HZL.out (below_drewN (below_drewN (Below.refl _ _) q) q2) ho9 hg9 (by simpa using hat9)
        have hs9 := KS.out w9 hbel9 hc9
        have HS9 := Lib.hid hs9; have HF9 := Lib.hid (And.intro hc9 hf9); have HN9 := Lib.hid hnew
        have HM9 := Lib.hid (map_push HZ.out (f := fun i => fop .mul .f32 ((xs.map (cn .f32)).getD i 0) ((ys.map (cn .f32)).getD (i % c) 0)) (by rw [HZ2.out]; exact (by show _ = fop .mul .f32 ((xs.map (cn .f32)).getD k 0) ((ys.map (cn .f32)).getD (k % c) 0); rw [HXY.out.1, HXY.out.2])))
        refine ⟨hs9, hK _ _ ?_⟩
        clear hK K ho9 hg9 hat9 hb9 hc9 hf9 hbel9 hnew hs9 HS1 HBA
        refine mwalk_plain (by rfl) HS9.out (fun K hK W hW => ?_)
        go_simp
        refine hK _ ?_
        clear hK K hW
        refine mwalk_nil (fun q3 => ?_)
        have hc9 : (w9.drewN q3).cell? ⟨ob, 2, none⟩ = some (.slice va k vc) := by simpa using HF9.out.1
        have hf9 : (w9.drewN q3).frozen? ⟨ob, 2, none⟩ = false := by simpa using HF9.out.2
        have HN := Lib.hid (HN9.out.move (below_drewN (Below.refl _ _) q3))
        clear HN9 HS9 HF9 HB HZ HS KS
        go_wp2
        go_roundw
        case rel => exact ⟨k + 1, by go_num, hlt, _, _, _, HN, HM9⟩
        case measure => simp [intOf]; omega
      · have hkn : k = n := by omega
        subst hkn
        obtain ⟨ol, t0, t1, t2, tf⟩ := HB.out.out.three
        obtain ⟨rl, u0, u1, u2, uf⟩ := HB.out.res.three
        have HFIN := Lib.hid HB.out.fin
        clear hbb hP r1
        go_wp2
        try simp only [Exit.inBlock, Exit.then]
        refine bodyPost_ret (v := .agg #[.int .i64 r, .int .i64 c, .slice va k vc]) (by simp [results, Try.results229, go_sem, u0, u1, u2]) rfl ⟨va, vc, zs, rfl, Lib.hid HFIN.out.1, HZ, HFIN.out.2⟩
end Go.Proofs.Ytnkikigfpdngdaa
