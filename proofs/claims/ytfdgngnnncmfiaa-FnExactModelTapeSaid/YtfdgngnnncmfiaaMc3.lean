/- Joined texts 3: Ow7 Seed Shf Shw Hub Clp Bat Tn0 Snm Tp0 Tp1 Tp3 Tp5 Tu0 Tu1 App Tp2 Tu2 Tp4 Tu3 Tn1 Tn2 Tn3 Rp0 Rg3. Each is told at its own head. No condition. -/
import Derived.Lib.Hide
import Derived.RegionTactic
import Derived.BigRegion
import Derived.Laws.AppendOwnNone
import Derived.Maps.AppendAt
import Derived.Deep.CutRange
import Derived.Deep.CutBlock
import Derived.Deep.DeepCutAuto
import Derived.Deep.RegionHeld3
import Derived.WalkSmall
import Derived.Test.YtfdgngnnncmfiaaMc0
import Derived.Test.YtfdgngnnncmfiaaMc1
import Derived.Test.YtfdgngnnncmfiaaMc2
/- What marking lists of operations does. No condition. -/
namespace Go.Proofs.Ytfdgngnnncmfiaa
open Go Go.RowKit
set_option linter.unusedVariables false
set_option linter.unusedSimpArgs false
theorem set_same {α : Type} {us : List α} {i : Nat} {a : α} (h : us[i]? = some a) : us.set i a = us := by
  obtain ⟨hi, rfl⟩ := List.getElem?_eq_some_iff.1 h
  exact List.set_getElem_self hi
theorem set_mid {α : Type} (A B : List α) (o p : α) : (A ++ o :: B).set A.length p = A ++ p :: B := by
  rw [List.set_append, if_neg (by omega), Nat.sub_self, List.set_cons_zero]
theorem get_mid {α : Type} (A B : List α) (o : α) : (A ++ o :: B)[A.length]? = some o := by
  rw [List.getElem?_append_right (Nat.le_refl _), Nat.sub_self]; rfl
theorem split_at {α : Type} {us : List α} {k : Nat} (h : k < us.length) : ∃ A o B, us = A ++ o :: B ∧ A.length = k :=
  ⟨us.take k, us[k], us.drop (k + 1), by rw [List.getElem_cons_drop, List.take_append_drop], by simp; omega⟩
theorem setL_append (vs : List Value) (i : Nat) (cs ds : List Value) : setL vs i (cs ++ ds) = setL (setL vs i cs) (i + cs.length) ds := by
  induction cs generalizing vs i with
  | nil => rfl
  | cons c cs ih =>
    show setL (vs.set i c) (i + 1) (cs ++ ds) = _
    rw [ih, List.length_cons, Nat.add_right_comm, Nat.add_assoc]; rfl
theorem setL_get (vs : List Value) (i : Nat) (cs : List Value) (j : Nat) (h : j < i ∨ i + cs.length ≤ j) : (setL vs i cs)[j]? = vs[j]? := by
  induction cs generalizing vs i with
  | nil => rfl
  | cons c cs ih =>
    show (setL (vs.set i c) (i + 1) cs)[j]? = _
    rw [ih _ _ (by simp at h; omega), List.getElem?_set_ne (by simp at h; omega)]
/-- the marks of an operation -/
def markO (k0 : Nat) (o : OpD) : OpD := ⟨⟨(k0 : Nat), (k0 + 1 : Nat), (k0 + 2 : Nat), floatOfInt .f32 (k0 + 3 : Nat), (k0 + 4 : Nat), (k0 + 5 : Nat), markF (k0 + 6) o.xs.length⟩, o.ad, o.cap⟩
def OpD.w (o : OpD) : Nat := 6 + o.xs.length
def totO (os : List OpD) : Nat := (os.map OpD.w).sum
def markOs : Nat → List OpD → List OpD
  | _, [] => []
  | k0, o :: os => markO k0 o :: markOs (k0 + o.w) os
theorem totO_snoc (A : List OpD) (o : OpD) : totO (A ++ [o]) = totO A + o.w := by simp [totO]
theorem totO_append (A B : List OpD) : totO (A ++ B) = totO A + totO B := by simp [totO]
theorem totO_cons (o : OpD) (B : List OpD) : totO (o :: B) = o.w + totO B := by simp [totO]
theorem markOs_length (k0 : Nat) (A : List OpD) : (markOs k0 A).length = A.length := by
  induction A generalizing k0 with
  | nil => rfl
  | cons o A ih => simp [markOs, ih]
theorem markOs_snoc (k0 : Nat) (A : List OpD) (o : OpD) : markOs k0 (A ++ [o]) = markOs k0 A ++ [markO (k0 + totO A) o] := by
  induction A generalizing k0 with
  | nil => simp [markOs, totO]
  | cons p A ih => rw [List.cons_append, markOs, ih, totO_cons, markOs, List.cons_append, Nat.add_assoc]
theorem nat_wf {k : Nat} (h : k ≤ 1000000000) : (Lit.int .i64 (k : Int)).wf = true := by
  simp [Lit.wf, IntKind.min, IntKind.max, IntKind.signed, IntKind.bits]
  omega
theorem markO_ok (k0 : Nat) (o : OpD) (h : k0 + 10 ≤ 1000000000) : (markO k0 o).ok :=
  ⟨markF_lt _ _, markF_lt (k0 + 3) 1 _ (by simp [markF, markO]), nat_wf (by omega), nat_wf (by omega), nat_wf (by omega), nat_wf (by omega), nat_wf (by omega)⟩
/-- an operation is marked: its cells, then its numbers -/
theorem OwnR.markAt {w w2 : World} {lo hi n cap g k0 : Nat} {A B : List OpD} {o : OpD} (h : OwnR opR w lo hi (some ⟨g, 0, none⟩) n cap (A ++ o :: B)) (hk : k0 ≤ 100000000)
    (ho : w2.ownsRow lo 49 1 (.slice o.ad o.xs.length o.cap) o.xs.length ((markF (k0 + 6) o.xs.length).map (Value.float .f32)))
    (hg : (setCs w g (A.length * 7) [.int .i64 (k0 : Nat), .int .i64 (k0 + 1 : Nat), .int .i64 (k0 + 2 : Nat), .float .f32 (floatOfInt .f32 (k0 + 3 : Nat)), .int .i64 (k0 + 4 : Nat), .int .i64 (k0 + 5 : Nat)]).grownBy w2 (Value.slice o.ad o.xs.length o.cap).ownBlock) :
    OwnR opR w2 lo hi (some ⟨g, 0, none⟩) n cap (A ++ markO k0 o :: B) := by
  have h1 := setCs_own h.own (A.length * 7) [.int .i64 (k0 : Nat), .int .i64 (k0 + 1 : Nat), .int .i64 (k0 + 2 : Nat), .float .f32 (floatOfInt .f32 (k0 + 3 : Nat)), .int .i64 (k0 + 4 : Nat), .int .i64 (k0 + 5 : Nat)]
  have e1 : (A ++ o :: B).flatMap opR.inn = A.flatMap opR.inn ++ floatRow o.ad o.cap o.xs :: B.flatMap opR.inn := by
    rw [List.flatMap_append, List.flatMap_cons]; rfl
  have e2 : (A ++ markO k0 o :: B).flatMap opR.inn = A.flatMap opR.inn ++ floatRow o.ad o.cap (markF (k0 + 6) o.xs.length) :: B.flatMap opR.inn := by
    rw [List.flatMap_append, List.flatMap_cons]; rfl
  rw [e1, ← List.cons_append] at h1
  have hl : (markF (k0 + 6) o.xs.length).length = o.xs.length := markF_length _ _
  have h2 := h1.setAt (y := floatRow o.ad o.cap (markF (k0 + 6) o.xs.length)) hg (by
    refine ⟨?_, ?_⟩
    · show w2.ownsRow lo 49 1 (.slice o.ad (markF (k0 + 6) o.xs.length).length o.cap) (markF (k0 + 6) o.xs.length).length _
      rw [hl]; exact ho
    · intro g' e
      have h3 := (h1.row (floatRow o.ad o.cap o.xs) (List.mem_append_right _ (List.mem_cons_self ..))).top g'
      have e5 : (Value.slice o.ad (markF (k0 + 6) o.xs.length).length o.cap).ownBlock = some g' := e
      rw [hl] at e5
      exact h3 e5) (by show Value.slice o.ad (markF (k0 + 6) o.xs.length).length o.cap = Value.slice o.ad o.xs.length o.cap; rw [hl])
  rw [List.cons_append, ← e2] at h2
  have e3 : (A ++ markO k0 o :: B).flatMap opR.cells = setL ((A ++ o :: B).flatMap opR.cells) (A.length * 7) [.int .i64 (k0 : Nat), .int .i64 (k0 + 1 : Nat), .int .i64 (k0 + 2 : Nat), .float .f32 (floatOfInt .f32 (k0 + 3 : Nat)), .int .i64 (k0 + 4 : Nat), .int .i64 (k0 + 5 : Nat)] := by
    have h3 := flat_set opR (A ++ o :: B) (k := A.length) (by simp) (markO k0 o)
    rw [set_mid] at h3
    rw [← h3]
    have e4 : opR.cells (markO k0 o) = [.int .i64 (k0 : Nat), .int .i64 (k0 + 1 : Nat), .int .i64 (k0 + 2 : Nat), .float .f32 (floatOfInt .f32 (k0 + 3 : Nat)), .int .i64 (k0 + 4 : Nat), .int .i64 (k0 + 5 : Nat)] ++ [.slice o.ad o.xs.length o.cap] := by
      show OpD.cells (markO k0 o) = _
      unfold OpD.cells markO
      simp [hl]
    rw [e4, setL_append]
    refine set_same ?_
    rw [setL_get _ _ _ _ (.inr (by simp))]
    exact (flat_at opR (A ++ o :: B) (k := A.length) (j := 6) (get_mid A B o) (by decide)).trans rfl
  refine ⟨?_, ?_, fun p hp => ?_⟩
  · rw [e3]; exact h2
  · have := h.len; simp at this ⊢; exact this
  · rcases List.mem_append.1 hp with hp | hp
    · exact h.ok p (List.mem_append_left _ hp)
    · rcases List.mem_cons.1 hp with rfl | hp
      · exact markO_ok _ _ (by omega)
      · exact h.ok p (List.mem_append_right _ (List.mem_cons_of_mem _ hp))
set_option maxHeartbeats 4000000 in
set_option maxRecDepth 100000 in
theorem OS_mark (w : World) {lo hi : Nat} {ad : Option Addr} {n cap : Nat} {os : List OpD} (k0 : Nat) (h : OwnR opR w lo hi ad n cap os) (hhi : hi ≤ w.heap.size) (hn : n ≤ 1048576) (hk : k0 + totO os ≤ 10000000) (hi2 : ∀ o ∈ os, o.xs.length ≤ 1048576) :
    Calls Try.prog 18 #[.slice ad n cap, .int .i64 k0] w fun e w' => e = .returned (.int .i64 (k0 + totO os : Nat)) ∧ Hid (OwnR opR w' lo hi ad n cap (markOs k0 os)) ∧ Touch lo hi w w' := by
  have HN := Lib.hid h.len; have HI2 := Lib.hid hi2; have HH := Lib.hid h; clear hi2 h
  go_enter Try.func18, Try.ntmps18
  go_wp2
  go_loopw [1, 5] (fun q i wt => ∃ k k1 : Nat, i = .int .i64 k ∧ q = .int .i64 k1 ∧ k ≤ n ∧ k1 ≤ 10000000 ∧ Hid (∃ A B, os = A ++ B ∧ A.length = k ∧ k1 = k0 + totO A ∧ OwnR opR wt lo hi ad n cap (markOs k0 A ++ B)) ∧ Hid (Touch lo hi w wt)) (fun _ i _ => n - (intOf i).toNat)
  case atStart => exact ⟨0, k0, rfl, rfl, Nat.zero_le _, by omega, Lib.hid ⟨[], os, rfl, rfl, rfl, HH.out⟩, Lib.hid (Touch.refl _ _ _)⟩
  case round =>
    clear HH
    obtain ⟨k, k1, rfl, rfl, hkn, hk1, HX, HT⟩ := hrel
    by_cases hlt : k < n
    · obtain ⟨A, B0, e1, e2, e3, hown⟩ := HX.out
      cases B0 with
      | nil => exfalso; have := HN.out; rw [e1, List.append_nil] at this; omega
      | cons o B =>
        have HE1 := Lib.hid e1; have HE3 := Lib.hid e3; have HE2 := Lib.hid e2; have HO := Lib.hid hown
        have hml : (markOs k0 A).length = k := by rw [markOs_length, e2]
        have HML := Lib.hid hml
        have hget := get_mid (markOs k0 A) B o
        rw [hml] at hget
        obtain ⟨g, rfl, hgr, ⟨p0, p1, p2, p3, p4, p5, p6⟩, hfz, hrf⟩ := op_own hown hget
        have hmb := HI2.out o (by rw [e1]; simp)
        have htot : k1 + o.w ≤ 10000000 := by
          have := hk
          rw [e1, totO_append, totO_cons] at this
          omega
        unfold OpD.w at htot
        have hm := fun W (ho : W.ownsRow lo 49 1 (.slice o.ad o.xs.length o.cap) o.xs.length (o.xs.map (Value.float .f32))) => laws_markFloat32S lo o.ad o.cap o.xs.length (o.xs.map (Value.float .f32)) (k1 + 6) W hmb (by omega) ho
        have HM := Lib.hid hm
        have hW := (setCs_own hown.own (k * 7) [.int .i64 (k1 : Nat), .int .i64 (k1 + 1 : Nat), .int .i64 (k1 + 2 : Nat), .float .f32 (floatOfInt .f32 (k1 + 3 : Nat)), .int .i64 (k1 + 4 : Nat), .int .i64 (k1 + 5 : Nat)]).row (floatRow o.ad o.cap o.xs) (List.mem_cons_of_mem _ (List.mem_flatMap.2 ⟨o, by simp, List.mem_singleton.2 rfl⟩))
        have HW := Lib.hid hW.own
        have htw := ((setCs_touch wr g (k * 7) [.int .i64 (k1 : Nat), .int .i64 (k1 + 1 : Nat), .int .i64 (k1 + 2 : Nat), .float .f32 (floatOfInt .f32 (k1 + 3 : Nat)), .int .i64 (k1 + 4 : Nat), .int .i64 (k1 + 5 : Nat)]).mono hgr.1 hgr.2.1)
        have HTW := Lib.hid htw; have HRF := Lib.hid hW
        clear e1 e2 e3 hown hget hrf hm hW htw hml hgr
        obtain ⟨m, hm0⟩ : ∃ m, m = o.xs.length := ⟨_, rfl⟩
        rw [← hm0] at p6 hmb htot HM
        have HM0 := Lib.hid hm0; clear hm0
        go_wp2_with fail
        refine (HM.out _ (by rw [HM0.out]; exact HW.out)).mono ?_
        rintro e w2 ⟨rfl, ho2, hg2⟩
        have hmk := OwnR.markAt (A := markOs k0 A) (B := B) (o := o) HO.out (k0 := k1) (by omega) (by rw [← HM0.out]; exact ho2) (by rw [HML.out, ← HM0.out]; exact hg2)
        have ht2 : Touch lo hi w w2 := HT.out.trans (HTW.out.trans (Touch.of_grown HRF.out (by rw [floatRow, RowD.val, ← HM0.out]; exact hg2)))
        have HMK := Lib.hid hmk; have HT2 := Lib.hid ht2
        clear hmk ht2 ho2 hg2 HO HTW HRF HW p0 p1 p2 p3 p4 p5 p6 hfz HM HT
        go_wp2
        refine ⟨?rel, ?measure⟩
        case rel => exact ⟨k + 1, k1 + 6 + m, by go_num, by go_num, hlt, by omega, Lib.hid ⟨A ++ [o], B, by rw [HE1.out]; simp, by simp [HE2.out], by rw [totO_snoc, HE3.out, OpD.w, HM0.out]; omega, by rw [markOs_snoc, ← HE3.out, List.append_assoc]; exact HMK.out⟩, HT2⟩
        case measure => simp [intOf]; omega
    · have hkn2 : k = n := by omega
      subst hkn2
      obtain ⟨A, B, e1, e2, e3, hown⟩ := HX.out
      have hB : B = [] := by
        have := HN.out; rw [e1, List.length_append, e2] at this
        exact List.eq_nil_of_length_eq_zero (by omega)
      subst hB
      rw [List.append_nil] at e1 hown
      subst e1
      have HO := Lib.hid hown; clear hown HX
      subst e3
      clear e2
      go_wp2
      go_ret
      exact ⟨rfl, HO, HT.out⟩
theorem markOs_at (k0 : Nat) (A B : List OpD) (o : OpD) : (markOs k0 (A ++ o :: B))[A.length]? = some (markO (k0 + totO A) o) := by
  induction A generalizing k0 with
  | nil => simp [markOs, totO]
  | cons p A ih => rw [List.cons_append, markOs, List.length_cons, List.getElem?_cons_succ, ih, totO_cons, Nat.add_assoc]
set_option maxHeartbeats 4000000 in
set_option maxRecDepth 100000 in
theorem OS_held (w : World) {ad : Option Addr} {n cap : Nat} {os : List OpD} (k0 : Nat) (h : SeeR opR w ad cap (markOs k0 os)) (hl : os.length = n) (hn : n ≤ 1048576) (hk : k0 + totO os ≤ 10000000) (hi2 : ∀ o ∈ os, o.xs.length ≤ 1048576) :
    Calls Try.prog 20 #[.slice ad n cap, .int .i64 k0] w fun e w' => e = .returned (.int .i64 (k0 + totO os : Nat)) ∧ w = w' := by
  have HN := Lib.hid hl; have HI2 := Lib.hid hi2; have HH := Lib.hid h; clear hi2 h hl
  go_enter Try.func20, Try.ntmps20
  go_wp2
  go_loop [1, 5] (fun q i => ∃ k k1 : Nat, i = .int .i64 k ∧ q = .int .i64 k1 ∧ k ≤ n ∧ k1 ≤ 10000000 ∧ Hid (∃ A B, os = A ++ B ∧ A.length = k ∧ k1 = k0 + totO A)) (fun _ i => n - (intOf i).toNat)
  case atStart => exact ⟨0, k0, rfl, rfl, Nat.zero_le _, by omega, Lib.hid ⟨[], os, rfl, rfl, rfl⟩⟩
  case round =>
    obtain ⟨k, k1, rfl, rfl, hkn, hk1, HX⟩ := hrel
    by_cases hlt : k < n
    · obtain ⟨A, B0, e1, e2, e3⟩ := HX.out
      cases B0 with
      | nil => exfalso; have := HN.out; rw [e1, List.append_nil] at this; omega
      | cons o B =>
        have HE1 := Lib.hid e1; have HE3 := Lib.hid e3; have HE2 := Lib.hid e2
        have hget := markOs_at k0 A B o
        rw [← e1, e2, ← e3] at hget
        obtain ⟨b, off, rfl, hb, ⟨p0, p1, p2, p3, p4, p5, p6⟩, hf, hok⟩ := op_spot HH.out hget
        have hmb := HI2.out o (by rw [e1]; simp)
        have htot : k1 + o.w ≤ 10000000 := by
          have := hk
          rw [e1, totO_append, totO_cons] at this
          omega
        unfold OpD.w at htot
        simp only [markO, markF_length] at p0 p1 p2 p3 p4 p5 p6 hf
        obtain ⟨m, hm0⟩ : ∃ m, m = o.xs.length := ⟨_, rfl⟩
        rw [← hm0] at p6 hmb htot hf
        have hheld := fun W hW => laws_heldFloat32S o.ad o.cap m (markF (k1 + 6) m) (k1 + 6) W (by omega) (by omega) hW rfl
        have HM := Lib.hid hheld; have HF := Lib.hid hf
        have HM0 := Lib.hid hm0
        have ho : FloatKind.f32.format.order (floatOfInt .f32 (k1 + 3 : Nat)) (floatOfInt .f32 (k1 + 3 : Nat)) = some .eq := by rw [order_self, isN_floatOfInt]; rfl
        have ec : ((k1 + 3 : Nat) : Int) = (k1 : Int) + 1 + 1 + 1 := by omega
        rw [ec] at p3 ho
        clear e1 e2 e3 hget hheld hf hm0 ec hok
        go_wp2_with fail
        refine (HM.out _ HF.out).mono ?_
        rintro e w2 ⟨rfl, rfl⟩
        have hnn : 0 ≤ ((k1 + 6 + m : Nat) : Int) := by omega
        clear p0 p1 p2 p3 p4 p5 p6
        go_wp2
        go_round
        case rel => exact ⟨k + 1, k1 + 6 + m, by go_num, rfl, hlt, by omega, Lib.hid ⟨A ++ [o], B, by rw [HE1.out]; simp, by simp [HE2.out], by rw [totO_snoc, HE3.out, OpD.w, HM0.out]; omega⟩⟩
        case measure => simp [intOf]; omega
    · have hkn2 : k = n := by omega
      obtain ⟨A, B, e1, e2, e3⟩ := HX.out
      have hB : B = [] := by
        have := HN.out; rw [e1, List.length_append, e2] at this
        exact List.eq_nil_of_length_eq_zero (by omega)
      subst hB
      rw [List.append_nil] at e1
      subst e1
      subst e3
      clear HX e2
      go_wp2
      go_ret
      exact ⟨rfl, rfl⟩
end Go.Proofs.Ytfdgngnnncmfiaa
/- What the next seed is. No condition. -/
namespace Go.Proofs.Ytfdgngnnncmfiaa
open Go Go.RowKit
set_option linter.unusedVariables false
def nextS (s : Int) : Int := (1103515245 * s + 12345) % 2147483648
theorem nextS_bd (s : Int) : 0 ≤ nextS s ∧ nextS s ≤ 2147483647 := by unfold nextS; omega
end Go.Proofs.Ytfdgngnnncmfiaa
/- Plain laws of shuffled rows. No condition. -/
namespace Go.Proofs.Ytfdgngnnncmfiaa
open Go Go.RowKit
set_option linter.unusedVariables false
set_option linter.unusedSimpArgs false
def shSeed (s : Int) : Nat → Int
  | 0 => s
  | j + 1 => nextS (shSeed s j)
theorem shSeed_bd {s : Int} (h0 : 0 ≤ s) (h1 : s ≤ 2147483647) : ∀ j, 0 ≤ shSeed s j ∧ shSeed s j ≤ 2147483647
  | 0 => ⟨h0, h1⟩
  | j + 1 => nextS_bd _
def swapL (l : List Int) (i j : Nat) : List Int := (l.set i (l.getD j 0)).set j (l.getD i 0)
theorem swapL_length (l : List Int) (i j : Nat) : (swapL l i j).length = l.length := by simp [swapL]
theorem swapL_perm {l : List Int} {i j : Nat} (hi : i < l.length) (hj : j < l.length) : (swapL l i j).Perm l := by
  unfold swapL
  rw [List.getD_eq_getElem?_getD, List.getD_eq_getElem?_getD, List.getElem?_eq_getElem hi, List.getElem?_eq_getElem hj]
  exact List.set_set_perm hi hj
def idL (n : Nat) : List Int := (List.range n).map fun (i : Nat) => (i : Int)
theorem idL_length (n : Nat) : (idL n).length = n := by simp [idL]
theorem idL_succ (n : Nat) : idL (n + 1) = idL n ++ [(n : Int)] := by simp [idL, List.range_succ]
/-- where the number i goes -/
def shJ (s : Int) (c t : Nat) : Nat := (shSeed s (t + 1) / 65536 % (((c - 1 - t : Nat) : Int) + 1)).toNat
theorem shJ_lt (s : Int) (c t : Nat) : shJ s c t < c - 1 - t + 1 := by
  unfold shJ
  have h0 := Int.emod_nonneg (shSeed s (t + 1) / 65536) (show (((c - 1 - t : Nat) : Int) + 1) ≠ 0 by omega)
  have h1 := Int.emod_lt_of_pos (shSeed s (t + 1) / 65536) (show (0 : Int) < (((c - 1 - t : Nat) : Int) + 1) by omega)
  omega
def shL (c : Nat) (s : Int) : Nat → List Int
  | 0 => idL c
  | t + 1 => swapL (shL c s t) (c - 1 - t) (shJ s c t)
theorem shL_length (c : Nat) (s : Int) : ∀ t, (shL c s t).length = c
  | 0 => idL_length c
  | t + 1 => by simp only [shL, swapL_length]; exact shL_length c s t
theorem shL_perm (c : Nat) (s : Int) (hc : 1 ≤ c) : ∀ t, (shL c s t).Perm (idL c)
  | 0 => List.Perm.refl _
  | t + 1 => by
    have hj := shJ_lt s c t
    exact (swapL_perm (by rw [shL_length]; omega) (by rw [shL_length]; omega)).trans (shL_perm c s hc t)
theorem idL_count (v n : Nat) : (idL n).count (v : Int) = if v < n then 1 else 0 := by
  induction n with
  | zero => rfl
  | succ n ih =>
    rw [idL_succ, List.count_append, ih]
    by_cases h : v = n
    · subst h; simp
    · have h2 : ((n : Int) == (v : Int)) = false := by simp; omega
      rw [List.count_singleton, h2]
      by_cases h3 : v < n
      · have h4 : v < n + 1 := by omega
        simp [h3, h4]
      · have h4 : ¬ v < n + 1 := by omega
        simp [h3, h4]
theorem idL_mem {n : Nat} {x : Int} (h : x ∈ idL n) : 0 ≤ x ∧ x < n := by
  obtain ⟨i, hi, rfl⟩ := List.mem_map.1 h
  have := List.mem_range.1 hi
  omega
def shAll (c : Nat) (s : Int) : List Int := shL c s (c - 1)
theorem shAll_length (c : Nat) (s : Int) : (shAll c s).length = c := shL_length _ _ _
theorem shAll_count (c : Nat) (s : Int) (hc : 1 ≤ c) (v : Nat) : (shAll c s).count (v : Int) = if v < c then 1 else 0 := by
  unfold shAll; rw [(shL_perm c s hc (c - 1)).count_eq]; exact idL_count v c
theorem shAll_at {c : Nat} {s : Int} (hc : 1 ≤ c) {i : Nat} (hi : i < c) : 0 ≤ (shAll c s).getD i 0 ∧ (shAll c s).getD i 0 < c := by
  have h1 : (shAll c s).getD i 0 ∈ shAll c s := by
    rw [List.getD_eq_getElem?_getD, List.getElem?_eq_getElem (by rw [shAll_length]; exact hi)]
    exact List.getElem_mem _
  exact idL_mem ((shL_perm c s hc (c - 1)).mem_iff.1 h1)
/-- how often a number has been seen -/
def seenL (c b : Nat) (l : List Int) : List Int := (List.range c).map fun (v : Nat) => ((b + l.count (v : Int) : Nat) : Int)
theorem seenL_length (c b : Nat) (l : List Int) : (seenL c b l).length = c := by simp [seenL]
theorem seenL_getD {c b : Nat} {l : List Int} {v : Nat} (h : v < c) : (seenL c b l).getD v 0 = ((b + l.count (v : Int) : Nat) : Int) := by
  simp [seenL, List.getD_eq_getElem?_getD, List.getElem?_map, List.getElem?_range, h]
theorem seenL_next {c b : Nat} {l : List Int} {v : Nat} (h : v < c) : (seenL c b l).set v ((seenL c b l).getD v 0 + 1) = seenL c b (l ++ [(v : Int)]) := by
  apply List.ext_getElem?
  intro i
  rw [List.getElem?_set]
  by_cases hi : i < c
  · by_cases e : v = i
    · subst e
      rw [if_pos rfl, if_pos (by rw [seenL_length]; exact h), seenL_getD h]
      simp [seenL, List.getElem?_map, List.getElem?_range, h]
      omega
    · rw [if_neg e]
      have h2 : ((v : Int) == (i : Int)) = false := by simp; omega
      have h3 : ¬ (v : Int) = (i : Int) := by omega
      simp [seenL, List.getElem?_map, List.getElem?_range, hi, List.count_append, List.count_singleton, h2, h3]
  · rw [List.getElem?_eq_none (by rw [seenL_length]; omega)]
    rw [List.getElem?_eq_none (by rw [seenL_length]; omega)]
    split
    · rename_i e; rw [if_neg (by rw [seenL_length]; omega)]
    · rfl
theorem seenL_zero (c : Nat) : seenL c 0 [] = List.replicate c 0 := by
  apply List.ext_getElem?
  intro i
  by_cases hi : i < c
  · simp [seenL, List.getElem?_map, List.getElem?_range, hi, List.getElem?_replicate]
  · rw [List.getElem?_eq_none (by rw [seenL_length]; omega), List.getElem?_eq_none (by simpa using hi)]
theorem take_next {l : List Int} {k : Nat} (h : k < l.length) : l.take (k + 1) = l.take k ++ [l.getD k 0] := by
  rw [List.take_succ_eq_append_getElem h, List.getD_eq_getElem?_getD, List.getElem?_eq_getElem h]; rfl
end Go.Proofs.Ytfdgngnnncmfiaa
/- What shuffled rows and batches are. No condition. -/
namespace Go.Proofs.Ytfdgngnnncmfiaa
open Go Go.RowKit
set_option linter.unusedVariables false
set_option linter.unusedSimpArgs false
theorem cell_setCell_some {w : World} {p q : Addr} {x v : Value} (h : w.cell? q = some v) : ∃ v', (w.setCell p x).cell? q = some v' := by
  by_cases e : p = q
  · subst e; exact ⟨x, World.cell?_setCell_same w p x h⟩
  · exact ⟨v, (World.cell?_setCell_other w p q x e).trans h⟩
theorem map_getD_at {xs : List Int} {k : Nat} (h : k < xs.length) : (xs.map (Value.int .i64))[k]? = some (.int .i64 (xs.getD k 0)) := by
  rw [List.getElem?_map, List.getElem?_eq_getElem h, List.getD_eq_getElem?_getD, List.getElem?_eq_getElem h]; rfl
theorem swapL_map (l : List Int) (i j : Nat) : (swapL l i j).map (Value.int .i64) = (((l.map (Value.int .i64)).set i (.int .i64 (l.getD j 0))).set j (.int .i64 (l.getD i 0))) := by
  unfold swapL
  rw [List.map_set, List.map_set]
theorem wf_small {n : Int} (h1 : -1000000000 ≤ n) (h2 : n ≤ 1000000000) : (Lit.int .i64 n).wf = true := by
  simp [Lit.wf, IntKind.min, IntKind.max, IntKind.signed, IntKind.bits]; omega
end Go.Proofs.Ytfdgngnnncmfiaa
/- What a loss that is bent and its gradients are. No condition. -/
namespace Go.Proofs.Ytfdgngnnncmfiaa
open Go Go.RowKit
set_option linter.unusedVariables false
set_option linter.unusedSimpArgs false
def leF (a c : Nat) : Bool := FloatKind.f32.format.order a c == some .lt || FloatKind.f32.format.order a c == some .eq
def gtZ (a : Nat) : Bool := FloatKind.f32.format.order a 0 == some .gt
theorem leF_at {r a c : Nat} (h : cn .f32 r = a) : leF r c = leF a c := by
  unfold leF
  rw [← order_cn .f32 r c, ← order_cn .f32 a c, h, ← h, cn_cn]
theorem gtZ_at {r a : Nat} (h : cn .f32 r = a) : gtZ r = gtZ a := by
  unfold gtZ
  rw [← order_cn .f32 r 0, ← order_cn .f32 a 0, h, ← h, cn_cn]
def huG (c : Nat) (D : Nat → Nat) (n i : Nat) : Nat := if leF (absW (D i)) c = true then fop .quo .f32 (D i) (floatOfInt .f32 n) else if gtZ (D i) = true then fop .quo .f32 (cn .f32 c) (floatOfInt .f32 n) else fop .quo .f32 (cn .f32 (Op.negFloat .f32 c)) (floatOfInt .f32 n)
def huA (c : Nat) (D : Nat → Nat) (i : Nat) : Nat := if leF (absW (D i)) c = true then fop .quo .f32 (fop .mul .f32 (D i) (D i)) 1073741824 else fop .mul .f32 (cn .f32 c) (fop .sub .f32 (absW (D i)) (fop .quo .f32 (cn .f32 c) 1073741824))
def huL (c : Nat) (D : Nat → Nat) (n : Nat) : Nat := fop .quo .f32 (sumS (listOf n (huA c D)) n) (floatOfInt .f32 n)
end Go.Proofs.Ytfdgngnnncmfiaa
/- What square roots, copies of lists and gradients that are not too long are. No condition. -/
namespace Go.Proofs.Ytfdgngnnncmfiaa
open Go Go.RowKit Ieee
set_option linter.unusedVariables false
set_option linter.unusedSimpArgs false
theorem RepF.nilcap {w : World} {lo hi : Nat} {ad : Option Addr} {n cap : Nat} {xs : List Nat} (h : RepF w lo hi ad n cap xs) : ad = none → cap = 0 := by
  intro e
  subst e
  rcases h.row.own.2 with ⟨h1, _⟩ | ⟨g, cap', cur, h1, _⟩
  · cases h1; rfl
  · cases h1
/-- a whole list is appended to a row of the call's own -/
theorem wp_cat {P : Program} {ops : Array Oper} {rest : List Oper} {o : Oper} {a : Act} {Q : Exit → Act → World → Prop} {e : TypeId} {W : World} (hgd : o.guard = none) (s x : Operand) (t : TypeId)
    (ho : o.op = .call { callee := .builtin .append, args := #[s, x], argTypes := #[t, t] })
    (base : Nat) (i : TypeInfo) (z : Value) (bytes : Nat) (ht : P.underlying t = some (.slice e)) (hi : P.info? e = some i) (hz : i.zero = some z)
    (hsize : i.size = 1) (hby : i.bytes = bytes) (hzs : z.cells.size = 1)
    (v : Value) (n : Nat) (xs : List Value) (hs : a.eval s = v) (hown : W.ownsRow base e 1 v n xs)
    (ad : Option Addr) (m c : Nat) (news : List Value) (hx : a.eval x = .slice ad m c) (hn : ad = none → c = 0) (hl : news.length = m) (hr : Rd W ad news) (h1 : ∀ u ∈ news, u.oneCell' = true)
    (h63 : n + m ≤ maxLen) (hbytes : (n + m) * bytes ≤ 140737488355328) (hbase : base ≤ W.heap.size)
    (h : ∀ v' w', w'.ownsRow base e 1 v' (n + m) (xs ++ news) → Below base W w' → base ≤ w'.heap.size → wpList P ops Q rest (a.put o.dst v') w') : wpList P ops Q (o :: rest) a W := by
  cases ad with
  | none =>
    obtain rfl := hn rfl
    have h0 : news = [] := by
      rcases hr with hr | ⟨b, off, hb, _⟩
      · exact hr
      · cases hb
    subst h0
    obtain rfl : m = 0 := hl.symm
    exact wpList_append_own_none hgd s x t ho base e i 1 ht hi v n xs hs hown hx (h v W (by simpa using hown) (Below.refl _ _) hbase)
  | some p =>
    refine wpList_append_own W hgd s x t ho base e i z 1 bytes ht hi hz hsize hby hzs (by decide) v n xs hs hown p m c news hx (by omega) ?_ h1 h63 hbytes hbase ?_
    · intro j u hj
      rcases hr with hr | ⟨b, off, hb, _, hc⟩
      · rw [hr] at hj; cases hj
      · cases hb
        have hlt : j < news.length := (List.getElem?_eq_some_iff.1 hj).1
        rw [Addr.add_lit]; exact (hc j hlt).trans hj
    · intro v' w' h2 hg _
      refine h v' w' h2 ((Below.refl _ _).grown hg hbase (fun j hj => (hown.lt j hj).1)) (Nat.le_trans hbase hg.size)
set_option maxRecDepth 100000 in
theorem spec_l02Own (w : World) (ad : Option Addr) (cap : Nat) (xs : List Nat) (h : F32s w ad cap xs) (hc : ad = none → cap = 0) (hn : xs.length ≤ 1048576) :
    Calls Try.prog 47 #[.slice ad xs.length cap] w fun e w' => ∃ (v : Value), e = .returned v ∧ w'.ownsRow w.heap.size 49 1 v xs.length (xs.map (Value.float .f32)) ∧ Below w.heap.size w w' := by
  obtain ⟨i0, hi, hz0, hz1, hz2⟩ := info_parts info_f32
  obtain ⟨n, hN⟩ : ∃ n, n = xs.length := ⟨_, rfl⟩
  have hr := h.rd
  have h1 : ∀ u ∈ xs.map (Value.float .f32), u.oneCell' = true := by intro u hu; obtain ⟨x, _, rfl⟩ := List.mem_map.1 hu; rfl
  have hl : (xs.map (Value.float .f32)).length = n := by rw [List.length_map, hN]
  rw [← hN] at hn ⊢
  have HL := Lib.hid hl; clear hN hl h
  go_enter Try.func47, Try.ntmps47
  go_wp2_with (at_builtin; refine wp_cat rfl _ _ 25 rfl w.heap.size i0 (.float .f32 0) 4 Try.underlying25 hi hz0 hz1 hz2 rfl _ 0 [] rfl (World.ownsRow_made _ _ _ (Nat.le_refl _) (Nat.zero_le _) rfl) ad n cap _ rfl hc HL.out (hr.below (below1 _ _) (Nat.le_refl _)) h1 ?c3 ?c4 ?c5 ?_)
  case c3 => unfold maxLen; omega
  case c4 => omega
  case c5 => simp
  intro v' w9 hown1 hb1 hbs1
  go_wp2
  go_ret
  exact ⟨_, rfl, by simpa using hown1, (below1 _ _).trans hb1⟩
set_option maxRecDepth 100000 in
theorem slices_Clone (w : World) (ad : Option Addr) (cap : Nat) (xs : List Nat) (h : F32s w ad cap xs) (hc : ad = none → cap = 0) (hn : xs.length ≤ 1048576) :
    Calls Try.prog 67 #[.slice ad xs.length cap] w fun e w' => ∃ (v : Value), e = .returned v ∧ w'.ownsRow w.heap.size 49 1 v xs.length (xs.map (Value.float .f32)) ∧ Below w.heap.size w w' := by
  obtain ⟨i0, hi, hz0, hz1, hz2⟩ := info_parts info_f32
  obtain ⟨n, hN⟩ : ∃ n, n = xs.length := ⟨_, rfl⟩
  have hr := h.rd
  have h1 : ∀ u ∈ xs.map (Value.float .f32), u.oneCell' = true := by intro u hu; obtain ⟨x, _, rfl⟩ := List.mem_map.1 hu; rfl
  have hl : (xs.map (Value.float .f32)).length = n := by rw [List.length_map, hN]
  rw [← hN] at hn ⊢
  have HL := Lib.hid hl; clear hN hl h
  cases ad with
  | none =>
    obtain rfl := hc rfl
    have h0 : xs = [] := by
      rcases hr with hr | ⟨b, off, hb, _⟩
      · simpa using hr
      · cases hb
    subst h0
    obtain rfl : n = 0 := HL.out.symm
    have he : ∀ w : World, (binOp .eql 25 (.slice none 0 0) (.slice none 0 0)).run Try.prog w = .ok (.bool true) w := fun _ => rfl
    go_enter Try.func67, Try.ntmps67
    go_wp2
    go_ret
    exact ⟨_, rfl, World.ownsRow_nil _ _ _ _, Below.refl _ _⟩
  | some p =>
    have he : ∀ w : World, (binOp .eql 25 (.slice (some p) n cap) (.slice none 0 0)).run Try.prog w = .ok (.bool false) w := fun _ => rfl
    go_enter Try.func67, Try.ntmps67
    go_wp2_with (at_builtin; refine wp_cat rfl _ _ 25 rfl w.heap.size i0 (.float .f32 0) 4 Try.underlying25 hi hz0 hz1 hz2 rfl _ 0 [] rfl (World.ownsRow_made _ _ _ (Nat.le_refl _) (Nat.zero_le _) rfl) (some p) n cap _ rfl (fun h => nomatch h) HL.out (hr.below (below1 _ _) (Nat.le_refl _)) h1 ?c3 ?c4 ?c5 ?_)
    case c3 => unfold maxLen; omega
    case c4 => omega
    case c5 => simp
    intro v' w9 hown1 hb1 hbs1
    go_wp2
    go_ret
    exact ⟨_, rfl, by simpa using hown1, (below1 _ _).trans hb1⟩
def gtC (a c : Nat) : Bool := FloatKind.f32.format.order a c == some .gt
theorem gtC_at {r a c : Nat} (h : cn .f32 r = a) : gtC r c = gtC a c := by
  unfold gtC
  rw [← order_cn .f32 r c, ← order_cn .f32 a c, h, ← h, cn_cn]
def clR (X : List Nat) (n : Nat) : Nat := rootE (dotS X X n)
def clG (c : Nat) (X : List Nat) (n i : Nat) : Nat := fop .mul .f32 (X.getD i 0) (fop .quo .f32 (cn .f32 c) (clR X n))
def clY (c : Nat) (X : List Nat) (n : Nat) : List Nat := if gtC (clR X n) c = true then listOf n (clG c X n) else X
theorem eq_listOf (X : List Nat) : X = listOf X.length (fun i => X.getD i 0) := by
  apply List.ext_getElem
  · simp [listOf]
  · intro i h1 h2
    simp [listOf, h1]
end Go.Proofs.Ytfdgngnnncmfiaa
/- What batches are. No condition. -/
namespace Go.Proofs.Ytfdgngnnncmfiaa
open Go Go.RowKit
set_option linter.unusedVariables false
set_option linter.unusedSimpArgs false
theorem impl_isTensorSide (n : Int) (w : World) : Calls Try.prog 66 #[.int .i64 n] w fun e w' => e = .returned (.bool (inB n 1 16)) ∧ w = w' := by
  have k1 := fun W => within_any n 1 16 W
  go_enter Try.func66, Try.ntmps66
  go_wp2_with fail
  refine (k1 _).mono ?_
  rintro e w1 ⟨rfl, rfl⟩
  go_wp2
  go_ret
  exact ⟨rfl, rfl⟩
end Go.Proofs.Ytfdgngnnncmfiaa
/- What the tensors' first functions do. No condition. -/
namespace Go.Proofs.Ytfdgngnnncmfiaa
open Go Go.RowKit
set_option linter.unusedVariables false
set_option linter.unusedSimpArgs false
/-- a tensor's sides fit its numbers -/
def tenB (r c : Int) (n : Nat) : Bool := inB r 1 16 && (inB c 1 16 && decide ((n : Int) = r * c))
theorem tenB_iff {r c : Int} {n : Nat} : tenB r c n = true ↔ (1 ≤ r ∧ r ≤ 16) ∧ (1 ≤ c ∧ c ≤ 16) ∧ (n : Int) = r * c := by
  unfold tenB; simp only [Bool.and_eq_true, inB_iff, decide_eq_true_eq]
set_option maxHeartbeats 1000000 in
theorem impl_ValidTensor (r c : Int) (ad : Option Addr) (n cap : Nat) (hn : n ≤ maxLen) (w : World) : Calls Try.prog 50 #[.agg #[.int .i64 r, .int .i64 c, .slice ad n cap]] w fun e w' => e = .returned (.bool (tenB r c n)) ∧ Below w.heap.size w w' := by
  unfold maxLen at hn
  have K1 := Lib.hid (fun W => impl_isTensorSide r W)
  have K2 := Lib.hid (fun W => impl_isTensorSide c W)
  have ht : tenB r c n = (inB r 1 16 && (inB c 1 16 && decide ((n : Int) = r * c))) := rfl
  rw [ht]
  clear ht
  cases h1 : inB r 1 16
  · rw [h1] at K1
    clear h1
    go_enter Try.func50, Try.ntmps50
    go_wp2_with fail
    refine (K1.out _).mono ?_
    rintro e w1 ⟨rfl, rfl⟩
    go_wp2
    go_ret
    exact ⟨rfl, below1 _ _⟩
  · rw [h1] at K1
    have ⟨a1, a2⟩ := inB_iff.1 h1
    clear h1
    cases h2 : inB c 1 16
    · rw [h2] at K2
      clear h2
      go_enter Try.func50, Try.ntmps50
      go_wp2_with fail
      refine (K1.out _).mono ?_
      rintro e w1 ⟨rfl, rfl⟩
      go_wp2_with fail
      refine (K2.out _).mono ?_
      rintro e w1 ⟨rfl, rfl⟩
      go_wp2
      go_ret
      exact ⟨rfl, below1 _ _⟩
    · rw [h2] at K2
      have ⟨b1, b2⟩ := inB_iff.1 h2
      clear h2
      obtain ⟨p, hp⟩ : ∃ p, p = r * c := ⟨_, rfl⟩
      have p1 : 0 ≤ p := by rw [hp]; exact Int.mul_nonneg (by omega) (by omega)
      have p2 : p ≤ 256 := by
        rw [hp]
        have h3 : r * c ≤ 16 * c := Int.mul_le_mul_of_nonneg_right a2 (by omega)
        omega
      rw [← hp]
      have hpw : wrap64 (r * c) = p := by rw [← hp]; unfold wrap64; omega
      clear hp
      go_enter Try.func50, Try.ntmps50
      go_wp2_with fail
      refine (K1.out _).mono ?_
      rintro e w1 ⟨rfl, rfl⟩
      go_wp2_with fail
      refine (K2.out _).mono ?_
      rintro e w1 ⟨rfl, rfl⟩
      go_wp2
      go_ret
      exact ⟨by congr 2, below1 _ _⟩
end Go.Proofs.Ytfdgngnnncmfiaa
/- What comparing two numbers bit by bit computes. No condition. -/
namespace Go.Proofs.Ytfdgngnnncmfiaa
open Go Go.RowKit Ieee
set_option linter.unusedVariables false
set_option linter.unusedSimpArgs false
theorem order_word_eq {x y : Nat} (hx : x < 4294967296) (hy : y < 4294967296) (h : FloatKind.f32.format.order x y = some .eq) (hs : decide (x < 2147483648) = decide (y < 2147483648)) : x = y := by
  obtain ⟨s, r, e1, hr⟩ := word_of single (x := x) (by rw [s_sw]; omega)
  obtain ⟨t, q, e2, hq⟩ := word_of single (x := y) (by rw [s_sw]; omega)
  have hst : s = t := by
    have a1 := word_sign single s hr
    have a2 := word_sign single t hq
    rw [← e1, s_sw] at a1
    rw [← e2, s_sw] at a2
    rw [hs, a2] at a1
    cases s <;> cases t <;> simp_all
  subst hst
  have n1 : isN .f32 x = false := by
    cases hn : isN .f32 x
    · rfl
    · rw [order_none (.inl hn)] at h; cases h
  have n2 : isN .f32 y = false := by
    cases hn : isN .f32 y
    · rfl
    · rw [order_none (.inr hn)] at h; cases h
  have hri : r ≤ single.infRung := by
    rcases Nat.lt_or_ge single.infRung r with h1 | h1
    · exact absurd (nan_word single single_binade s h1 hr) (by rw [← e1]; intro h2; unfold isN at n1; rw [show FloatKind.f32.format.read x = single.read x from rfl, h2] at n1; cases n1)
    · exact h1
  have hqi : q ≤ single.infRung := by
    rcases Nat.lt_or_ge single.infRung q with h1 | h1
    · exact absurd (nan_word single single_binade s h1 hq) (by rw [← e2]; intro h2; unfold isN at n2; rw [show FloatKind.f32.format.read y = single.read y from rfl, h2] at n2; cases n2)
    · exact h1
  have ho : (single.read x).order (single.read y) = some .eq := h
  rcases Nat.lt_or_ge r single.infRung with h1 | h1
  · rcases Nat.lt_or_ge q single.infRung with h2 | h2
    · have h3 : single.order (single.word s r) (single.word s q) = some .eq := by rw [← e1, ← e2]; exact h
      rw [order_fin single s s h1 h2] at h3
      have h4 := Int.compare_eq_eq.1 (Option.some.inj h3)
      unfold sval at h4
      have : r = q := by
        cases s
        · simp at h4; exact nval_inj (f := single) (Int.ofNat.inj h4)
        · simp at h4; exact nval_inj (f := single) (by omega)
      rw [e1, e2, this]
    · have hq2 : q = single.infRung := by omega
      obtain ⟨m, p, e3, _⟩ := read_fin single s h1
      rw [e1, e2, e3, hq2, read_inf single single_binade] at ho
      cases s <;> cases ho
  · have hr2 : r = single.infRung := by omega
    rcases Nat.lt_or_ge q single.infRung with h2 | h2
    · obtain ⟨m, p, e3, _⟩ := read_fin single s h2
      rw [e1, e2, e3, hr2, read_inf single single_binade] at ho
      cases s <;> cases ho
    · have hq2 : q = single.infRung := by omega
      rw [e1, e2, hr2, hq2]
theorem wide_sign2 {x : Nat} (hx : x < 4294967296) (hn : isN .f32 x = false) (w : World) : decide (cvbits .f32 x .f64 w < 9223372036854775808) = decide (x < 2147483648) := by
  cases hf : finB x
  · have : x = 2139095040 ∨ x = 4286578688 := by
      unfold finB at hf
      unfold isN at hn
      obtain ⟨s, r, e, hr⟩ := word_of single (x := x) (by rw [s_sw]; omega)
      rcases Nat.lt_or_ge r single.infRung with h1 | h1
      · obtain ⟨m, p, e2, _⟩ := read_fin single s h1
        rw [e, e2] at hf; cases hf
      · rcases Nat.lt_or_ge single.infRung r with h2 | h2
        · have := nan_word single single_binade s h2 hr
          rw [show FloatKind.f32.format.read x = single.read x from rfl, e, this] at hn; cases hn
        · have : r = single.infRung := by omega
          subst this
          cases s
          · left; rw [e, s_ir]; unfold Format.word; simp
          · right; rw [e]; unfold Format.word; rw [s_sw, s_ir]; simp
    rcases this with h | h
    · subst h
      have : cvbits .f32 2139095040 .f64 w = 9218868437227405312 := by
        unfold cvbits
        rw [if_neg (by decide)]
        have : FloatKind.f32.decode 2139095040 = .infinity false := by decide +kernel
        rw [this]; show FloatKind.f64.encode (.infinity false) = _; decide +kernel
      rw [this]; decide
    · subst h
      have : cvbits .f32 4286578688 .f64 w = 18442240474082181120 := by
        unfold cvbits
        rw [if_neg (by decide)]
        have : FloatKind.f32.decode 4286578688 = .infinity true := by decide +kernel
        rw [this]; show FloatKind.f64.encode (.infinity true) = _; decide +kernel
      rw [this]; decide
  · exact wide_sign hx hf w
theorem order_self2 {x : Nat} (hn : isN .f32 x = false) : FloatKind.f32.format.order x x = some .eq := by rw [order_self, hn]; rfl
theorem order_nan {x : Nat} (hn : isN .f32 x = true) : FloatKind.f32.format.order x x = none := by rw [order_self, hn]; rfl
end Go.Proofs.Ytfdgngnnncmfiaa
/- The shapes of the values of a tape. No condition. -/
namespace Go.Proofs.Ytfdgngnnncmfiaa
open Go Go.RowKit
set_option linter.unusedVariables false
set_option linter.unusedSimpArgs false
/-- rows and columns -/
abbrev Sh := Int × Int
def twoB (k : Int) : Bool := k == 1 || (k == 2 || (k == 3 || (k == 4 || k == 6)))
def zeroB (x : Nat) : Bool := decide (cn .f32 x = cn .f32 0)
def fitsB (i : Int) (o : OpP) : Bool :=
  inB o.k 0 10 && ((o.k == 5 || zeroB o.num) && (if o.k = 0 then (o.a == 0 && (o.b == 0 && tenB o.r o.c o.xs.length)) else (o.r == 0 && (o.c == 0 && (decide (o.xs.length = 0) && (inB o.a 0 (i - 1) && (if twoB o.k = true then inB o.b 0 (i - 1) else o.b == 0)))))))
/-- the shape of an operation's value, where it fits -/
def shapeOf (k : Int) (v w : Sh) : Option Sh :=
  if k = 1 ∨ k = 3 then (if v = w then some v else none)
  else if k = 2 ∨ k = 4 then (if w = (1, v.2) then some v else none)
  else if k = 6 then (if v.2 = w.1 then some (v.1, w.2) else none)
  else if k = 7 then some (v.2, v.1)
  else if k = 10 then some (1, 1)
  else some v
def shGet (S : List Sh) (i : Int) : Sh := S.getD i.toNat (0, 0)
def stepSh (S : List Sh) (o : OpP) : Option (List Sh) :=
  if fitsB S.length o = true then (if o.k = 0 then some (S ++ [(o.r, o.c)]) else (shapeOf o.k (shGet S o.a) (shGet S o.b)).map fun s => S ++ [s]) else none
def shapesN (os : List OpP) (k : Nat) : Option (List Sh) := (os.take k).foldlM stepSh []
/-- the shapes of a valid tape -/
def shapesP (os : List OpP) : Option (List Sh) := if 1 ≤ os.length ∧ os.length ≤ 48 then shapesN os os.length else none
theorem shapesN_succ {os : List OpP} {k : Nat} {o : OpP} (h : os[k]? = some o) : shapesN os (k + 1) = (shapesN os k).bind fun S => stepSh S o := by
  obtain ⟨hk, rfl⟩ := List.getElem?_eq_some_iff.1 h
  unfold shapesN
  rw [List.take_succ_eq_append_getElem hk, List.foldlM_append]
  simp [List.foldlM]
theorem stepSh_length {S S' : List Sh} {o : OpP} (h : stepSh S o = some S') : S'.length = S.length + 1 := by
  unfold stepSh at h
  split at h
  · split at h
    · cases h; simp
    · cases e : shapeOf o.k (shGet S o.a) (shGet S o.b) with
      | none => rw [e] at h; cases h
      | some s => rw [e] at h; cases h; simp
  · cases h
theorem shapesN_length {os : List OpP} {k : Nat} {S : List Sh} (hk : k ≤ os.length) (h : shapesN os k = some S) : S.length = k := by
  induction k generalizing S with
  | zero => unfold shapesN at h; simp at h; subst h; rfl
  | succ k ih =>
    obtain ⟨o, ho⟩ := getElem?_lt (show k < os.length by omega)
    rw [shapesN_succ ho] at h
    cases e : shapesN os k with
    | none => rw [e] at h; cases h
    | some S0 =>
      rw [e] at h
      have := stepSh_length h
      rw [this, ih (by omega) e]
theorem shapesN_none {os : List OpP} {k n : Nat} (h : shapesN os k = none) (hk : k ≤ n) (hn : n ≤ os.length) : shapesN os n = none := by
  induction n with
  | zero => have : k = 0 := by omega
            subst this; exact h
  | succ n ih =>
    by_cases e : k = n + 1
    · subst e; exact h
    · obtain ⟨o, ho⟩ := getElem?_lt (show n < os.length by omega)
      rw [shapesN_succ ho, ih (by omega) (by omega)]; rfl
end Go.Proofs.Ytfdgngnnncmfiaa
/- What the reference's small functions on tensors and operations are. No condition. -/
namespace Go.Proofs.Ytfdgngnnncmfiaa
open Go Go.RowKit
set_option linter.unusedVariables false
set_option linter.unusedSimpArgs false
theorem spec_l02Shape (r c : Int) (w : World) : Calls Try.prog 44 #[.int .i64 r, .int .i64 c] w fun e w' => e = .returned (.bool (inB r 1 16 && inB c 1 16)) ∧ w = w' := by
  have K1 := Lib.hid (fun W => l00In_any r 1 16 W)
  have K2 := Lib.hid (fun W => l00In_any c 1 16 W)
  cases h1 : inB r 1 16
  · rw [h1] at K1
    clear h1
    go_enter Try.func44, Try.ntmps44
    go_wp2_with fail
    refine (K1.out _).mono ?_
    rintro e w1 ⟨rfl, rfl⟩
    go_wp2
    go_ret
    exact ⟨rfl, rfl⟩
  · rw [h1] at K1
    clear h1
    go_enter Try.func44, Try.ntmps44
    go_wp2_with fail
    refine (K1.out _).mono ?_
    rintro e w1 ⟨rfl, rfl⟩
    go_wp2_with fail
    refine (K2.out _).mono ?_
    rintro e w1 ⟨rfl, rfl⟩
    go_wp2
    go_ret
    exact ⟨rfl, rfl⟩
set_option maxHeartbeats 2000000 in
theorem spec_l02Is (w : World) (g o : Nat) (r c : Int) (ad : Option Addr) (n cap : Nat) (hn : n ≤ maxLen) (p0 : w.cell? ⟨g, o, none⟩ = some (.int .i64 r)) (p1 : w.cell? ⟨g, o + 1, none⟩ = some (.int .i64 c)) (p2 : w.cell? ⟨g, o + 2, none⟩ = some (.slice ad n cap)) :
    Calls Try.prog 32 #[.pointer (some ⟨g, o, none⟩)] w fun e w' => e = .returned (.bool (tenB r c n)) ∧ Dr w w' := by
  unfold maxLen at hn
  have KS := Lib.hid (fun W => spec_l02Shape r c W)
  have ht : tenB r c n = ((inB r 1 16 && inB c 1 16) && decide ((n : Int) = r * c)) := by unfold tenB; rw [Bool.and_assoc]
  rw [ht]
  clear ht
  obtain ⟨p, hp⟩ : ∃ p, p = r * c := ⟨_, rfl⟩
  cases h1 : (inB r 1 16 && inB c 1 16)
  · rw [h1] at KS
    clear h1 hp
    go_enter Try.func32, Try.ntmps32
    go_wp2
    refine wp_region_drawn (fun f args v => v = .bool false) (by kernel_rfl) (by kernel_rfl) ?_
    repeat (refine wset_step (fun K hK nq => ?_); go_simp; refine hK _ ?_; clear hK K)
    refine wset_step (fun K hK nq => ?_)
    go_simp
    refine ⟨(KS.out _).mono ?_, ?_⟩
    · rintro e w' ⟨rfl, rfl⟩
      exact ⟨rfl, _, rfl⟩
    refine hK _ ?_
    clear hK K
    repeat (refine wset_step (fun K hK nq => ?_); go_simp; refine hK _ ?_; clear hK K)
    refine wset_nil ?_
    rintro w' ⟨q, rfl⟩
    go_wp2
    go_ret
    exact ⟨rfl, _, rfl⟩
  · rw [h1] at KS
    simp only [Bool.and_eq_true] at h1
    have ⟨a1, a2⟩ := inB_iff.1 h1.1
    have ⟨b1, b2⟩ := inB_iff.1 h1.2
    have q1 : 0 ≤ p := by rw [hp]; exact Int.mul_nonneg (by omega) (by omega)
    have q2 : p ≤ 256 := by
      rw [hp]
      have h3 : r * c ≤ 16 * c := Int.mul_le_mul_of_nonneg_right a2 (by omega)
      omega
    rw [← hp]
    have hpw : IntKind.i64.wrap (r * c) = p := by rw [← hp, IntKind.wrap_i64]; omega
    have hq : ((n : Int) == IntKind.i64.wrap (r * c)) = decide ((n : Int) = p) := by rw [hpw]; rfl
    have HQ := Lib.hid hq
    clear hp h1 a1 a2 b1 b2 hpw hq
    go_enter Try.func32, Try.ntmps32
    go_wp2
    refine wp_region_drawn (fun f args v => v = .bool true) (by kernel_rfl) (by kernel_rfl) ?_
    repeat (refine wset_step (fun K hK nq => ?_); go_simp; refine hK _ ?_; clear hK K)
    refine wset_step (fun K hK nq => ?_)
    go_simp
    refine ⟨(KS.out _).mono ?_, ?_⟩
    · rintro e w' ⟨rfl, rfl⟩
      exact ⟨rfl, _, rfl⟩
    refine hK _ ?_
    clear hK K
    repeat (refine wset_step (fun K hK nq => ?_); go_simp; refine hK _ ?_; clear hK K)
    refine wset_nil ?_
    rintro w' ⟨q, rfl⟩
    go_wp2
    go_ret
    refine ⟨?_, _, rfl⟩
    show Ending.returned (Value.bool _) = Ending.returned (Value.bool _)
    rw [HQ.out]; rfl
theorem spec_l04Two (k : Int) (w : World) : Calls Try.prog 79 #[.int .i64 k] w fun e w' => e = .returned (.bool (twoB k)) ∧ w = w' := by
  rcases (by omega : k = 1 ∨ k = 2 ∨ k = 3 ∨ k = 4 ∨ k = 6 ∨ (k ≠ 1 ∧ k ≠ 2 ∧ k ≠ 3 ∧ k ≠ 4 ∧ k ≠ 6)) with rfl | rfl | rfl | rfl | rfl | ⟨h1, h2, h3, h4, h6⟩
  rotate_right
  · have h1 : (k == 1) = false := by simpa using h1
    have h2 : (k == 2) = false := by simpa using h2
    have h3 : (k == 3) = false := by simpa using h3
    have h4 : (k == 4) = false := by simpa using h4
    have h6 : (k == 6) = false := by simpa using h6
    unfold twoB
    go_enter Try.func79, Try.ntmps79
    go_wp2
    go_ret
    refine ⟨?_, rfl⟩
    rw [h1, h2, h3, h4, h6]; rfl
  all_goals
    go_enter Try.func79, Try.ntmps79
    go_wp2
    go_ret
    exact ⟨rfl, rfl⟩
theorem impl_takesTwo (k : Int) (w : World) : Calls Try.prog 85 #[.int .i64 k] w fun e w' => e = .returned (.bool (twoB k)) ∧ w = w' := by
  rcases (by omega : k = 1 ∨ k = 2 ∨ k = 3 ∨ k = 4 ∨ k = 6 ∨ (k ≠ 1 ∧ k ≠ 2 ∧ k ≠ 3 ∧ k ≠ 4 ∧ k ≠ 6)) with rfl | rfl | rfl | rfl | rfl | ⟨h1, h2, h3, h4, h6⟩
  rotate_right
  · have h1 : (k == 1) = false := by simpa using h1
    have h2 : (k == 2) = false := by simpa using h2
    have h3 : (k == 3) = false := by simpa using h3
    have h4 : (k == 4) = false := by simpa using h4
    have h6 : (k == 6) = false := by simpa using h6
    unfold twoB
    go_enter Try.func85, Try.ntmps85
    go_wp2
    go_ret
    refine ⟨?_, rfl⟩
    rw [h1, h2, h3, h4, h6]; rfl
  all_goals
    go_enter Try.func85, Try.ntmps85
    go_wp2
    go_ret
    exact ⟨rfl, rfl⟩
end Go.Proofs.Ytfdgngnnncmfiaa
/- Whether the fields of an operation fit: the program. No condition. -/
namespace Go.Proofs.Ytfdgngnnncmfiaa
open Go Go.RowKit
set_option linter.unusedVariables false
set_option linter.unusedSimpArgs false
theorem fitsB_in {i : Int} {o : OpP} (h : fitsB i o = true) : 0 ≤ o.k ∧ o.k ≤ 10 := by
  unfold fitsB at h
  simp only [Bool.and_eq_true] at h
  exact inB_iff.1 h.1
theorem fitsB_args {i : Int} {o : OpP} (h : fitsB i o = true) (h0 : o.k ≠ 0) : (0 ≤ o.a ∧ o.a ≤ i - 1) ∧ (0 ≤ o.b ∧ o.b ≤ i - 1) ∧ (o.r = 0 ∧ o.c = 0 ∧ o.xs = []) := by
  unfold fitsB at h
  rw [if_neg h0] at h
  simp only [Bool.and_eq_true, beq_iff_eq, decide_eq_true_eq] at h
  obtain ⟨_, _, h1, h2, h3, h4, h5⟩ := h
  have ⟨a1, a2⟩ := inB_iff.1 h4
  refine ⟨⟨a1, a2⟩, ?_, h1, h2, List.eq_nil_of_length_eq_zero h3⟩
  split at h5
  · exact inB_iff.1 h5
  · have : o.b = 0 := by simpa using h5
    omega
theorem fitsB_input {i : Int} {o : OpP} (h : fitsB i o = true) (h0 : o.k = 0) : o.a = 0 ∧ o.b = 0 ∧ tenB o.r o.c o.xs.length = true := by
  unfold fitsB at h
  rw [if_pos h0] at h
  simp only [Bool.and_eq_true, beq_iff_eq] at h
  exact ⟨h.2.2.1, h.2.2.2.1, h.2.2.2.2⟩
theorem fitsB_single {i : Int} {o : OpP} (h : fitsB i o = true) (h0 : twoB o.k = false) : o.b = 0 := by
  by_cases hk : o.k = 0
  · exact (fitsB_input h hk).2.1
  · unfold fitsB at h
    rw [if_neg hk, h0] at h
    simp only [Bool.and_eq_true, beq_iff_eq] at h
    simpa using h.2.2.2.2.2.2
end Go.Proofs.Ytfdgngnnncmfiaa
/- Bounds of the shapes of a tape. No condition. -/
namespace Go.Proofs.Ytfdgngnnncmfiaa
open Go Go.RowKit
set_option linter.unusedVariables false
set_option linter.unusedSimpArgs false
def sideP (s : Sh) : Prop := (1 ≤ s.1 ∧ s.1 ≤ 16) ∧ (1 ≤ s.2 ∧ s.2 ≤ 16)
theorem shGet_mem {S : List Sh} {i : Int} (h0 : 0 ≤ i) (h1 : i ≤ S.length - 1) : shGet S i ∈ S := by
  have hl : i.toNat < S.length := by omega
  unfold shGet
  rw [List.getD_eq_getElem?_getD, List.getElem?_eq_getElem hl]
  exact List.getElem_mem hl
theorem shapeOf_side {k : Int} {v w s : Sh} (hv : sideP v) (hw : sideP w) (h : shapeOf k v w = some s) : sideP s := by
  unfold shapeOf at h
  unfold sideP at hv hw ⊢
  split at h
  · split at h
    · cases h; exact hv
    · cases h
  · split at h
    · split at h
      · cases h; exact hv
      · cases h
    · split at h
      · split at h
        · cases h; exact ⟨hv.1, hw.2⟩
        · cases h
      · split at h
        · cases h; exact ⟨hv.2, hv.1⟩
        · split at h
          · cases h; exact ⟨⟨by decide, by decide⟩, ⟨by decide, by decide⟩⟩
          · cases h; exact hv
theorem stepSh_side {S S' : List Sh} {o : OpP} (hS : ∀ s ∈ S, sideP s) (h : stepSh S o = some S') : ∀ s ∈ S', sideP s := by
  unfold stepSh at h
  split at h
  · rename_i hf
    by_cases hk : o.k = 0
    · rw [if_pos hk] at h
      cases h
      intro s hs
      rcases List.mem_append.1 hs with hs | hs
      · exact hS s hs
      · have e : s = (o.r, o.c) := by simpa using hs
        subst e
        have := tenB_iff.1 (fitsB_input hf hk).2.2
        exact ⟨this.1, this.2.1⟩
    · rw [if_neg hk] at h
      have ha := fitsB_args hf hk
      cases e : shapeOf o.k (shGet S o.a) (shGet S o.b) with
      | none => rw [e] at h; cases h
      | some t =>
        rw [e] at h
        cases h
        intro s hs
        rcases List.mem_append.1 hs with hs | hs
        · exact hS s hs
        · have e2 : s = t := by simpa using hs
          subst e2
          exact shapeOf_side (hS _ (shGet_mem ha.1.1 ha.1.2)) (hS _ (shGet_mem ha.2.1.1 ha.2.1.2)) e
  · cases h
theorem shapesN_side {os : List OpP} {k : Nat} {S : List Sh} (hk : k ≤ os.length) (h : shapesN os k = some S) : ∀ s ∈ S, sideP s := by
  induction k generalizing S with
  | zero => unfold shapesN at h; simp at h; subst h; intro s hs; cases hs
  | succ k ih =>
    obtain ⟨o, ho⟩ := getElem?_lt (show k < os.length by omega)
    rw [shapesN_succ ho] at h
    cases e : shapesN os k with
    | none => rw [e] at h; cases h
    | some S0 => rw [e] at h; exact stepSh_side (ih (by omega) e) h
theorem shapesP_some {os : List OpP} {S : List Sh} (h : shapesP os = some S) : (1 ≤ os.length ∧ os.length ≤ 48) ∧ shapesN os os.length = some S ∧ S.length = os.length ∧ ∀ s ∈ S, sideP s := by
  unfold shapesP at h
  split at h
  · rename_i hl
    exact ⟨hl, h, shapesN_length (Nat.le_refl _) h, shapesN_side (Nat.le_refl _) h⟩
  · cases h
/-- the rows of shapes that a valid tape has -/
def shRows (os : List OpP) : List (List Int) := match shapesP os with
  | some S => S.map fun s => [s.1, s.2]
  | none => []
theorem shRows_some {os : List OpP} {S : List Sh} (h : shapesP os = some S) : shRows os = S.map fun s => [s.1, s.2] := by unfold shRows; rw [h]
theorem shRows_none {os : List OpP} (h : shapesP os = none) : shRows os = [] := by unfold shRows; rw [h]
end Go.Proofs.Ytfdgngnnncmfiaa
/- Which operations a tape's last value depends on. No condition. -/
namespace Go.Proofs.Ytfdgngnnncmfiaa
open Go Go.RowKit
set_option linter.unusedVariables false
set_option linter.unusedSimpArgs false
/-- what an operation that is used makes used -/
def stepU (U : List Bool) (i : Nat) (o : OpP) : List Bool :=
  if U.getD i false = true ∧ o.k ≠ 0 then (if twoB o.k = true then (U.set o.a.toNat true).set o.b.toNat true else U.set o.a.toNat true) else U
def opAtP (os : List OpP) (i : Nat) : OpP := os.getD i ⟨0, 0, 0, 0, 0, 0, []⟩
/-- behind the last m operations -/
def usedM (os : List OpP) : Nat → List Bool
  | 0 => (List.replicate os.length false).set (os.length - 1) true
  | m + 1 => stepU (usedM os m) (os.length - 1 - m) (opAtP os (os.length - 1 - m))
theorem stepU_length (U : List Bool) (i : Nat) (o : OpP) : (stepU U i o).length = U.length := by
  unfold stepU; split
  · split <;> simp
  · rfl
theorem usedM_length (os : List OpP) (m : Nat) : (usedM os m).length = os.length := by
  induction m with
  | zero => simp [usedM]
  | succ m ih => rw [usedM, stepU_length, ih]
theorem opAtP_some {os : List OpP} {i : Nat} {o : OpP} (h : os[i]? = some o) : opAtP os i = o := by
  unfold opAtP; rw [List.getD_eq_getElem?_getD, h]; rfl
/-- the fields of a valid tape's operations fit -/
theorem shapesN_fit {os : List OpP} {k : Nat} {S : List Sh} (hk : k ≤ os.length) (h : shapesN os k = some S) : ∀ i o, i < k → os[i]? = some o → fitsB i o = true := by
  induction k generalizing S with
  | zero => intro i o hi; omega
  | succ k ih =>
    obtain ⟨o, ho⟩ := getElem?_lt (show k < os.length by omega)
    rw [shapesN_succ ho] at h
    cases e : shapesN os k with
    | none => rw [e] at h; cases h
    | some S0 =>
      rw [e] at h
      intro i p hi hp
      by_cases hik : i = k
      · subst hik
        rw [ho] at hp; cases hp
        have hl := shapesN_length (by omega) e
        have h2 : stepSh S0 o = some S := h
        unfold stepSh at h2
        split at h2
        · rename_i hf; rw [hl] at hf; exact hf
        · cases h2
      · exact ih (by omega) e i p (by omega) hp
theorem valid_fit {os : List OpP} {S : List Sh} (h : shapesP os = some S) {i : Nat} {o : OpP} (ho : os[i]? = some o) : fitsB i o = true :=
  shapesN_fit (Nat.le_refl _) (shapesP_some h).2.1 i o (List.getElem?_eq_some_iff.1 ho).1 ho
/-- what stands behind stays -/
theorem stepU_keep {U : List Bool} {i j : Nat} {o : OpP} (hf : fitsB i o = true) (hij : i ≤ j) : (stepU U i o).getD j false = U.getD j false := by
  unfold stepU
  split
  · rename_i h
    have ha := fitsB_args hf h.2
    have e1 : ∀ (V : List Bool) (a : Nat), a < i → (V.set a true).getD j false = V.getD j false := by
      intro V a ha
      rw [List.getD_eq_getElem?_getD, List.getD_eq_getElem?_getD, List.getElem?_set_ne (by omega)]
    split
    · rw [e1 _ _ (by omega), e1 _ _ (by omega)]
    · rw [e1 _ _ (by omega)]
  · rfl
theorem usedM_keep {os : List OpP} {S : List Sh} (h : shapesP os = some S) {m m' j : Nat} (hm : m ≤ m') (hm2 : m' ≤ os.length) (hj : os.length - m ≤ j + 1) : (usedM os m').getD j false = (usedM os m).getD j false := by
  induction m' with
  | zero => have : m = 0 := by omega
            subst this; rfl
  | succ q ih =>
    by_cases e : m = q + 1
    · subst e; rfl
    · obtain ⟨o, ho⟩ := getElem?_lt (show os.length - 1 - q < os.length by omega)
      rw [usedM, opAtP_some ho, stepU_keep (valid_fit h ho) (by omega), ih (by omega) (by omega)]
/-- the operations that are used, rising -/
def usedP (os : List OpP) : List Int := ((List.range os.length).filter fun i => (usedM os os.length).getD i false).map (fun i : Nat => (i : Int))
/-- those from j on -/
def usedF (U : List Bool) (j n : Nat) : List Int := ((List.range' j (n - j)).filter fun i => U.getD i false).map (fun i : Nat => (i : Int))
theorem usedF_nil (U : List Bool) (n : Nat) : usedF U n n = [] := by simp [usedF]
theorem usedF_cons (U : List Bool) {j n : Nat} (h : j < n) : usedF U j n = (if U.getD j false = true then [(j : Int)] else []) ++ usedF U (j + 1) n := by
  unfold usedF
  rw [show n - j = (n - (j + 1)) + 1 by omega, List.range'_succ, List.filter_cons]
  split <;> simp
theorem usedF_congr {U V : List Bool} {j n : Nat} (h : ∀ i, j ≤ i → i < n → U.getD i false = V.getD i false) : usedF U j n = usedF V j n := by
  unfold usedF
  congr 1
  apply List.filter_congr
  intro i hi
  have := List.mem_range'_1.1 hi
  rw [h i (by omega) (by omega)]
theorem usedF_gt (U : List Bool) (j n : Nat) : ∀ x ∈ usedF U j n, (j : Int) ≤ x ∧ x < n := by
  intro x hx
  unfold usedF at hx
  obtain ⟨i, hi, rfl⟩ := List.mem_map.1 hx
  have := List.mem_range'_1.1 (List.mem_filter.1 hi).1
  omega
theorem usedP_eq (os : List OpP) : usedP os = usedF (usedM os os.length) 0 os.length := by
  unfold usedP usedF
  rw [Nat.sub_zero, List.range_eq_range']
theorem usedF_snoc (U : List Bool) (i : Nat) : usedF U 0 (i + 1) = usedF U 0 i ++ (if U.getD i false = true then [(i : Int)] else []) := by
  unfold usedF
  rw [Nat.sub_zero, Nat.sub_zero, ← List.range_eq_range', ← List.range_eq_range', List.range_succ, List.filter_append, List.map_append]
  congr 1
  rw [List.filter_cons, List.filter_nil]
  split <;> rfl
theorem usedF_length (U : List Bool) (j n : Nat) : (usedF U j n).length ≤ n - j := by
  unfold usedF
  rw [List.length_map]
  exact Nat.le_trans (List.length_filter_le _ _) (by simp)
end Go.Proofs.Ytfdgngnnncmfiaa
/- What putting a number to its place ahead of greater ones does. No condition. -/
namespace Go.Proofs.Ytfdgngnnncmfiaa
open Go Go.RowKit
set_option linter.unusedVariables false
set_option linter.unusedSimpArgs false
end Go.Proofs.Ytfdgngnnncmfiaa
/- Rows of the call's own that grow by turns. No condition. -/
namespace Go.Proofs.Ytfdgngnnncmfiaa
open Go Go.RowKit
set_option linter.unusedVariables false
set_option linter.unusedSimpArgs false
/-- an element is appended to a row of the call's own; where it lies then is told -/
theorem wp_appA {P : Program} {ops : Array Oper} {rest : List Oper} {o : Oper} {a : Act} {Q : Exit → Act → World → Prop} {e : TypeId} {W : World} {cs : Array Value} (hgd : o.guard = none) (s x : Operand) (t : TypeId)
    (ho : o.op = .call { callee := .builtin .append, args := #[s, x], argTypes := #[t, t] })
    (base : Nat) (i : TypeInfo) (z : Value) (size bytes : Nat) (ht : P.underlying t = some (.slice e)) (hi : P.info? e = some i) (hz : i.zero = some z)
    (hsize : i.size = size) (hby : i.bytes = bytes) (hzs : z.cells.size = size) (hsz : 0 < size)
    (hcs : cs.size = size) (h1 : ∀ u ∈ cs.toList, u.oneCell' = true)
    (v : Value) (n : Nat) (xs : List Value) (hs : a.eval s = v) (hown : W.ownsRow base e size v n xs) (hx : a.eval x = .slice (some ⟨W.heap.size, 0, none⟩) 1 1)
    (h63 : n + 1 ≤ maxLen) (hbytes : (n + 1) * bytes ≤ 140737488355328) (hbase : base ≤ W.heap.size)
    (h : ∀ v' w', w'.ownsRow base e size v' (n + 1) (xs ++ cs.toList) → (W.alloc (.cells cs e)).grownBy w' v.ownBlock → (v'.ownBlock = v.ownBlock ∨ v'.ownBlock = some (W.heap.size + 1)) → Below base W w' → base ≤ w'.heap.size → wpList P ops Q rest (a.put o.dst v') w') : wpList P ops Q (o :: rest) a (W.alloc (.cells cs e)) := by
  refine wpList_append_own_at (W.alloc (.cells cs e)) hgd s x t ho base e i z size bytes ht hi hz hsize hby hzs hsz v n xs hs (hown.alloc _) ⟨W.heap.size, 0, none⟩ 1 1 cs.toList hx (by simpa using hcs) ?_ h1 h63 hbytes (by simp; omega) ?_
  · intro j u hj
    rw [Addr.add_lit, World.cell?_alloc_at _ _ _ _ rfl]
    simpa using hj
  · intro v' w' h2 hg _ hat
    have hb : Below base W w' := ((Below.refl _ _).alloc hbase _).grown hg (by simp; omega) (fun j hj => (hown.lt j hj).1)
    refine h v' w' h2 hg (by simpa using hat) hb ?_
    have := hg.size
    simp at this
    omega
/-- two rows of the call's own in blocks of their own -/
structure Two (w : World) (base : Nat) (e1 : TypeId) (v1 : Value) (n1 : Nat) (c1 : List Value) (e2 : TypeId) (v2 : Value) (n2 : Nat) (c2 : List Value) : Prop where
  one : w.ownsRow base e1 1 v1 n1 c1
  two : w.ownsRow base e2 1 v2 n2 c2
  sep : ∀ g, v1.ownBlock = some g → v2.ownBlock ≠ some g
theorem Two.swap {w : World} {base : Nat} {e1 e2 : TypeId} {v1 v2 : Value} {n1 n2 : Nat} {c1 c2 : List Value} (h : Two w base e1 v1 n1 c1 e2 v2 n2 c2) : Two w base e2 v2 n2 c2 e1 v1 n1 c1 := ⟨h.two, h.one, fun g e1 e2 => h.sep g e2 e1⟩
theorem Two.below {w w' : World} {base : Nat} {e1 e2 : TypeId} {v1 v2 : Value} {n1 n2 : Nat} {c1 c2 : List Value} (h : Two w base e1 v1 n1 c1 e2 v2 n2 c2) (hb : Below w.heap.size w w') : Two w' base e1 v1 n1 c1 e2 v2 n2 c2 := ⟨owns_below h.one hb, owns_below h.two hb, h.sep⟩
/-- the first row has grown -/
theorem Two.grow {w w' : World} {base : Nat} {e1 e2 : TypeId} {v1 v2 v' : Value} {n1 n2 n' : Nat} {c1 c2 c' : List Value} {o : Obj} (h : Two w base e1 v1 n1 c1 e2 v2 n2 c2)
    (h1 : w'.ownsRow base e1 1 v' n' c') (hg : (w.alloc o).grownBy w' v1.ownBlock) (hat : v'.ownBlock = v1.ownBlock ∨ v'.ownBlock = some (w.heap.size + 1)) : Two w' base e1 v' n' c' e2 v2 n2 c2 := by
  refine ⟨h1, (h.two.alloc o).kept hg ?_, ?_⟩
  · cases hv : v2.ownBlock with
    | none => exact .inl rfl
    | some g =>
      right
      intro e
      exact h.sep g e.symm hv
  · intro g e1 e2
    rcases hat with hat | hat
    · exact h.sep g (hat.symm.trans e1) e2
    · have := (h.two.lt g e2).2
      rw [hat] at e1
      cases e1
      omega
theorem getD_snoc_left {xs : List Int} {x : Int} {i : Nat} (h : i < xs.length) : (xs ++ [x]).getD i 0 = xs.getD i 0 := by
  rw [List.getD_eq_getElem?_getD, List.getD_eq_getElem?_getD, List.getElem?_append_left h]
theorem getD_snoc_at {xs : List Int} {x : Int} {i : Nat} (h : i = xs.length) : (xs ++ [x]).getD i 0 = x := by
  subst h; simp
end Go.Proofs.Ytfdgngnnncmfiaa
/- The shapes of the values of a tape: the reference. No condition. -/
namespace Go.Proofs.Ytfdgngnnncmfiaa
open Go Go.RowKit
set_option linter.unusedVariables false
set_option linter.unusedSimpArgs false
end Go.Proofs.Ytfdgngnnncmfiaa
/- Which operations a tape's last value depends on: the reference. No condition. -/
namespace Go.Proofs.Ytfdgngnnncmfiaa
open Go Go.RowKit
set_option linter.unusedVariables false
set_option linter.unusedSimpArgs false
theorem info_bool : (Try.prog.info? 4).map (fun i => (i.zero, i.size, i.bytes)) = some (some (.bool false), 1, 1) := by kernel_rfl
/-- the marks of what is used -/
structure RepU (w : World) (g n : Nat) (U : List Bool) : Prop where
  own : w.ownsRow g 4 1 (.slice (some ⟨g, 0, none⟩) n n) n (U.map Value.bool)
  len : U.length = n
theorem RepU.below {w w' : World} {g n : Nat} {U : List Bool} (h : RepU w g n U) (hb : Below w.heap.size w w') : RepU w' g n U := ⟨owns_below h.own hb, h.len⟩
theorem RepU.set {w : World} {g n : Nat} {U : List Bool} (h : RepU w g n U) (k : Nat) : RepU (w.setCell ⟨g, k, none⟩ (.bool true)) g n (U.set k true) :=
  ⟨by rw [List.map_set]; exact (h.own.stored k (.bool true)).1, by rw [List.length_set]; exact h.len⟩
theorem RepU.cell {w : World} {g n : Nat} {U : List Bool} (h : RepU w g n U) {k : Nat} (hk : k < n) : w.cell? ⟨g, k, none⟩ = some (.bool (U.getD k false)) := by
  rw [h.own.cellAt k (by omega), List.getElem?_map, List.getElem?_eq_getElem (by rw [h.len]; exact hk), List.getD_eq_getElem?_getD, List.getElem?_eq_getElem (by rw [h.len]; exact hk)]; rfl
theorem RepU.fz {w : World} {g n : Nat} {U : List Bool} (h : RepU w g n U) (k : Nat) : w.frozen? ⟨g, k, none⟩ = false := h.own.frozenAt k
theorem RepU.lt {w : World} {g n : Nat} {U : List Bool} (h : RepU w g n U) : g < w.heap.size := (h.own.lt g rfl).2
theorem stepU_no {U : List Bool} {i : Nat} {o : OpP} (h : U.getD i false = false ∨ o.k = 0) : stepU U i o = U := by
  unfold stepU; rw [if_neg]; rintro ⟨h1, h2⟩; rcases h with h | h
  · rw [h] at h1; cases h1
  · exact h2 h
theorem stepU_one {U : List Bool} {i : Nat} {o : OpP} (h : U.getD i false = true) (hk : o.k ≠ 0) (ht : twoB o.k = false) : stepU U i o = U.set o.a.toNat true := by
  unfold stepU; rw [if_pos ⟨h, hk⟩, if_neg (by rw [ht]; decide)]
theorem stepU_two {U : List Bool} {i : Nat} {o : OpP} (h : U.getD i false = true) (hk : o.k ≠ 0) (ht : twoB o.k = true) : stepU U i o = (U.set o.a.toNat true).set o.b.toNat true := by
  unfold stepU; rw [if_pos ⟨h, hk⟩, if_pos ht]
theorem usedM_next {os : List OpP} {n i : Nat} {o : OpP} (hn : n = os.length) (hi : i < n) (ho : os[i]? = some o) : usedM os (n - i) = stepU (usedM os (n - (i + 1))) i o := by
  rw [show n - i = (n - (i + 1)) + 1 by omega, usedM, show os.length - 1 - (n - (i + 1)) = i by omega, opAtP_some ho]
/-- an operation is gone by -/
theorem usedF_step {os : List OpP} {U V : List Bool} {n i : Nat} {o : OpP} (hf : fitsB i o = true) (hV : V = stepU U i o) (hi : i < n) : usedF V i n = (if U.getD i false = true then [(i : Int)] else []) ++ usedF U (i + 1) n := by
  subst hV
  rw [usedF_cons _ hi, stepU_keep hf (Nat.le_refl _)]
  congr 1
  exact usedF_congr fun j h1 h2 => stepU_keep hf (by omega)
theorem getElem_some {α : Type} {us : List α} {i : Nat} (h : i < us.length) : us[i]? = some us[i] := List.getElem?_eq_getElem h
/-- what both tell of what is used -/
def UsedOut (os : List OpP) (w w' : World) (ad : Option Addr) (n cap : Nat) (b : Bool) (xs : List Int) : Prop := (b = (shapesP os).isSome ∧ xs = if (shapesP os).isSome = true then usedP os else []) ∧ RepI w' w.heap.size w'.heap.size ad n cap xs
end Go.Proofs.Ytfdgngnnncmfiaa
/- The shapes of the values of a tape: the program. No condition. -/
namespace Go.Proofs.Ytfdgngnnncmfiaa
open Go Go.RowKit
set_option linter.unusedVariables false
set_option linter.unusedSimpArgs false
end Go.Proofs.Ytfdgngnnncmfiaa
/- Which operations a tape's last value depends on: the program. No condition. -/
namespace Go.Proofs.Ytfdgngnnncmfiaa
open Go Go.RowKit
set_option linter.unusedVariables false
set_option linter.unusedSimpArgs false
theorem RepU.low {w w' : World} {g n B : Nat} {U : List Bool} (h : RepU w g n U) (hb : Below B w w') (hg : g < B) : RepU w' g n U := by
  refine ⟨⟨h.own.1, ?_⟩, h.len⟩
  rcases h.own.2 with h2 | ⟨g', cap, cur, hv, hbg, hh, r⟩
  · exact .inl h2
  · have e : g = g' := by cases hv; rfl
    exact .inr ⟨g', cap, cur, hv, hbg, by rw [hb.block g' (by omega)]; exact hh, r⟩
end Go.Proofs.Ytfdgngnnncmfiaa
/- Lists and tensors that are the same. No condition. -/
namespace Go.Proofs.Ytfdgngnnncmfiaa
open Go Go.RowKit
set_option linter.unusedVariables false
set_option linter.unusedSimpArgs false
theorem eq_take_next {xs ys : List Nat} {k : Nat} (hx : k < xs.length) (hy : k < ys.length) (h : (xs.take k).map (cn .f32) = (ys.take k).map (cn .f32)) (he : cn .f32 (xs.getD k 0) = cn .f32 (ys.getD k 0)) : (xs.take (k + 1)).map (cn .f32) = (ys.take (k + 1)).map (cn .f32) := by
  rw [List.getD_eq_getElem?_getD, List.getD_eq_getElem?_getD, List.getElem?_eq_getElem hx, List.getElem?_eq_getElem hy] at he
  rw [List.take_succ_eq_append_getElem hx, List.take_succ_eq_append_getElem hy, List.map_append, List.map_append, h]
  simpa using he
end Go.Proofs.Ytfdgngnnncmfiaa
/- Tensors that are the same; rows. No condition. -/
namespace Go.Proofs.Ytfdgngnnncmfiaa
open Go Go.RowKit
set_option linter.unusedVariables false
set_option linter.unusedSimpArgs false
theorem below_dr {w w1 w2 : World} (h : Below w.heap.size w w1) (hd : Dr w1 w2) : Below w.heap.size w w2 := by obtain ⟨q, rfl⟩ := hd; exact below_drewN h q
/-- a row of a tensor -/
theorem impl_row (w : World) (r c : Nat) (ad : Option Addr) (n cap : Nat) (hn : n = r * c) (hc1 : 1 ≤ c) (hc2 : c ≤ 16) (hr2 : r ≤ 16) (hcap : n ≤ cap) (i : Nat) (hi : i < r) (b off : Nat) (had : ad = some ⟨b, off, none⟩) :
    Calls Try.prog 108 #[.agg #[.int .i64 r, .int .i64 c, .slice ad n cap], .int .i64 i] w fun e w' => e = .returned (.slice (some ⟨b, off + i * c, none⟩) c (cap - i * c)) ∧ Below w.heap.size w w' := by
  subst had
  have h1 : i * c + c ≤ n := by
    rw [hn]
    have : (i + 1) * c ≤ r * c := Nat.mul_le_mul_right c (by omega)
    rw [Nat.succ_mul] at this; exact this
  have hnb : n ≤ 256 := by rw [hn]; exact Nat.le_trans (Nat.mul_le_mul hr2 hc2) (by decide)
  obtain ⟨p, hp⟩ : ∃ p, p = i * c := ⟨_, rfl⟩
  have e1 : ((i : Int) * (c : Int)) = (p : Int) := by rw [hp]; rfl
  have e2 : (((i : Int) + 1) * (c : Int)) = ((p + c : Nat) : Int) := by rw [hp, Int.add_mul, Int.one_mul]; rfl
  rw [← hp] at h1 ⊢
  clear hp hn
  go_enter Try.func108, Try.ntmps108
  go_wp2
  go_ret
  exact ⟨by rw [Nat.add_sub_cancel_left]; rfl, below1 _ _⟩
end Go.Proofs.Ytfdgngnnncmfiaa
/- Rows of a tensor. No condition. -/
namespace Go.Proofs.Ytfdgngnnncmfiaa
open Go Go.RowKit
set_option linter.unusedVariables false
set_option linter.unusedSimpArgs false
theorem slices_CloneF (w : World) (ad : Option Addr) (cap : Nat) (xs : List Nat) (h : F32s w ad cap xs) (hc : ad = none → cap = 0) (hn : xs.length ≤ 1048576) :
    Calls Try.prog 67 #[.slice ad xs.length cap] w fun e w' => ∃ ad' cap', e = .returned (.slice ad' xs.length cap') ∧ Hid (RepF w' w.heap.size w'.heap.size ad' xs.length cap' xs) ∧ Below w.heap.size w w' := by
  refine (slices_Clone w ad cap xs h hc hn).mono ?_
  rintro e w' ⟨v, rfl, ho, hb⟩
  obtain ⟨ad', cap', rfl, hr⟩ := RepF.of_owns ho h.lt
  exact ⟨ad', cap', rfl, Lib.hid hr, hb⟩
theorem wrap_ok {x : Int} (h1 : -1000000 ≤ x) (h2 : x ≤ 1000000) : IntKind.i64.wrap x = x := by rw [IntKind.wrap_i64]; omega
end Go.Proofs.Ytfdgngnnncmfiaa
/- Tapes that are copied by the program. No condition. -/
namespace Go.Proofs.Ytfdgngnnncmfiaa
open Go Go.RowKit
set_option linter.unusedVariables false
set_option linter.unusedSimpArgs false
/-- operations, each with a mark that tells whether its numbers are the call's own -/
def optR : RecT (OpD × Bool) := ⟨68, 7, fun p => p.1.cells, fun p => if p.2 = true then [floatRow p.1.ad p.1.cap p.1.xs] else [], fun p => p.1.ok, fun _ => rfl⟩
theorem optR_cells (us : List (OpD × Bool)) : us.flatMap optR.cells = (us.map Prod.fst).flatMap opR.cells := by
  induction us with
  | nil => rfl
  | cons a us ih => rw [List.flatMap_cons, ih, List.map_cons, List.flatMap_cons]; rfl
theorem optR_inn (us : List (OpD × Bool)) (h : ∀ p ∈ us, p.2 = true) : us.flatMap optR.inn = (us.map Prod.fst).flatMap opR.inn := by
  induction us with
  | nil => rfl
  | cons a us ih =>
    rw [List.flatMap_cons, ih (fun p hp => h p (List.mem_cons_of_mem _ hp)), List.map_cons, List.flatMap_cons]
    have e : a.2 = true := h a (List.mem_cons_self ..)
    show (if a.2 = true then _ else _) ++ _ = _
    rw [if_pos e]; rfl
theorem optR_none (os : List OpD) : (os.map fun o => (o, false)).flatMap optR.inn = [] := by
  induction os with
  | nil => rfl
  | cons a us ih => rw [List.map_cons, List.flatMap_cons, ih]; rfl
theorem OwnR.ofOpt {w : World} {lo hi n cap : Nat} {ad : Option Addr} {us : List (OpD × Bool)} (h : OwnR optR w lo hi ad n cap us) (ht : ∀ p ∈ us, p.2 = true) : OwnR opR w lo hi ad n cap (us.map Prod.fst) := by
  refine ⟨?_, by rw [List.length_map]; exact h.len, fun o ho => ?_⟩
  · have h0 := h.own
    rw [optR_cells, optR_inn us ht] at h0
    exact h0
  · obtain ⟨p, hp, rfl⟩ := List.mem_map.1 ho
    exact h.ok p hp
/-- no list without a place has room -/
def nilOK (os : List OpD) : Prop := ∀ o ∈ os, o.ad = none → o.cap = 0
theorem OwnR.nilOK {w : World} {lo hi n cap : Nat} {ad : Option Addr} {us : List OpD} (h : OwnR opR w lo hi ad n cap us) : nilOK us := fun o ho =>
  (h.own.repF (List.mem_cons_of_mem _ (List.mem_flatMap.2 ⟨o, ho, List.mem_singleton.2 rfl⟩)) (h.ok o ho).1).nilcap
theorem OwnR.nilcap {α : Type} {R : RecT α} {w : World} {lo hi n cap : Nat} {ad : Option Addr} {us : List α} (h : OwnR R w lo hi ad n cap us) : ad = none → cap = 0 := by
  intro e
  subst e
  rcases h.own.head.own.2 with ⟨h1, _⟩ | ⟨g, cap', cur, h1, _⟩
  · unfold RowD.val at h1
    simp only at h1
    cases h1; rfl
  · unfold RowD.val at h1
    cases h1
theorem opd_cells_one (o : OpD) : ∀ u ∈ o.cells, u.oneCell' = true := by
  intro u hu
  unfold OpD.cells at hu
  simp at hu
  rcases hu with rfl | rfl | rfl | rfl | rfl | rfl | rfl <;> rfl
set_option maxHeartbeats 2000000 in
theorem impl_copyTensor (w : World) (r c : Int) (ad : Option Addr) (cap : Nat) (xs : List Nat) (h : F32s w ad cap xs) (hc : ad = none → cap = 0) (hn : xs.length ≤ 1048576) :
    Calls Try.prog 55 #[.agg #[.int .i64 r, .int .i64 c, .slice ad xs.length cap]] w fun e w' => ∃ ad' cap', e = .returned (.agg #[.int .i64 r, .int .i64 c, .slice ad' xs.length cap']) ∧ Hid (RepF w' w.heap.size w'.heap.size ad' xs.length cap' xs) ∧ Below w.heap.size w w' := by
  have b2 := below2 w (.cells #[.int .i64 r, .int .i64 c, .slice ad xs.length cap] 38) (.cells #[.int .i64 0, .int .i64 0, .slice none 0 0] 38)
  have K := Lib.hid (slices_CloneF _ ad cap xs (h.below b2) hc hn)
  have XB := Lib.hid ((BoxN.alloc w #[.int .i64 r, .int .i64 c, .slice ad xs.length cap] 38).below (below1 _ (.cells #[.int .i64 0, .int .i64 0, .slice none 0 0] 38)))
  have RB := Lib.hid (BoxN.alloc2 w (.cells #[.int .i64 r, .int .i64 c, .slice ad xs.length cap] 38) #[.int .i64 0, .int .i64 0, .slice none 0 0] 38)
  have B := Lib.hid b2
  obtain ⟨n, hN⟩ : ∃ n, n = xs.length := ⟨_, rfl⟩
  rw [← hN] at K XB RB B ⊢
  clear b2 h hN hn hc
  go_enter Try.func55, Try.ntmps55
  go_wp2_with fail
  refine K.out.mono ?_
  rintro e w' ⟨a', c', rfl, HR, hb⟩
  obtain ⟨-, x0, x1, x2, xf⟩ := (XB.out.below hb).three
  obtain ⟨-, r0, r1, r2, rf⟩ := (RB.out.below hb).three
  have HB := Lib.hid (bthen B.out hb)
  have hz := hb.size
  simp at hz
  clear hb
  go_wp2
  refine bodyPost_ret (v := .agg #[.int .i64 r, .int .i64 c, .slice a' n c']) (by simp [results, Try.results55, go_sem, r0, r1, r2, x0, x1, x2]) rfl ⟨_, _, rfl, Lib.hid ?_, ?_⟩
  · have h1 := setCs_repF (g := w.heap.size) (lo' := w.heap.size + 2) (i := 2) HR.out (by simp; omega) (by simp) (Nat.le_refl _) [.slice a' n c']
    have h2 := setCs_repF (g := w.heap.size + 1) (lo' := w.heap.size) (i := 0) h1 (by omega) (by omega) (Nat.le_refl _) [.int .i64 r, .int .i64 c, .slice a' n c']
    exact h2
  · exact setCs_below (setCs_below HB.out (g := w.heap.size) (by omega) 2 [.slice a' n c']) (g := w.heap.size + 1) (by omega) 0 [.int .i64 r, .int .i64 c, .slice a' n c']
theorem setL_same {vs : List Value} {i : Nat} {cs : List Value} (h : ∀ j, j < cs.length → vs[i + j]? = cs[j]?) : setL vs i cs = vs := by
  induction cs generalizing i with
  | nil => rfl
  | cons c cs ih =>
    have h0 := h 0 (by simp)
    show setL (vs.set i c) (i + 1) cs = vs
    rw [set_same (by simpa using h0)]
    refine ih fun j hj => ?_
    have h1 := h (j + 1) (by simpa using hj)
    rw [show i + 1 + j = i + (j + 1) by omega, h1]; rfl
theorem RecT.tail {α : Type} (R : RecT α) {us : List α} {k : Nat} {p a : α} (hk : us[k]? = some p) (pre post : List Value) (ha : R.cells a = pre ++ post) (hp : ∀ j, j < pre.length → (R.cells p)[j]? = pre[j]?) :
    setL (us.flatMap R.cells) (k * R.size) (R.cells a) = setL (us.flatMap R.cells) (k * R.size + pre.length) post := by
  have hl := congrArg List.length ha
  rw [R.len, List.length_append] at hl
  have hs : setL (us.flatMap R.cells) (k * R.size) pre = us.flatMap R.cells := setL_same fun j hj => by
    rw [flat_at R us hk (by omega), hp j hj]
  rw [ha, setL_append, hs]
end Go.Proofs.Ytfdgngnnncmfiaa
/- A region whose order is open, whose operations read old memory and make calls that leave the old memory: one walk in the order of the text serves every order. No condition. -/
namespace Go.Proofs.Ytfdgngnnncmfiaa
open Go Go.RowKit
set_option linter.unusedVariables false
section
variable {P : Program} {ops : Array Oper} {C : World → Prop} {VC : FuncId → Array Value → Value → Prop} {Q : Act → Prop} {o : Oper} {rest : List Oper} {a : Act}
/-- what is asked of one operation in a world of the class: every value that it gives leads on -/
@[go_sem] def UponC (P : Program) (VC : FuncId → Array Value → Value → Prop) (C : World → Prop) (K : Value → Prop) : Result Next → Prop
  | .ok (.value v) w' => C w' ∧ K v
  | .ok .skip w' => C w' ∧ K undef
  | .ok (.enter f args) w' => C w' ∧ (Calls P f args w' fun e w'' => ∃ v, e = .returned v ∧ C w'' ∧ VC f args v) ∧ ∀ v, VC f args v → K v
  | _ => False
theorem cset_step {w0 : World} (h0 : C w0) (h : ∀ K : Act → Prop, (∀ a, WSet P ops C VC Q rest a → K a) → ∀ W : World, C W → if Region.wanted o (yielded ops a.tmps) then UponC P VC C (fun v => K (a.put o.dst v)) ((execOp a.eval o).run P W) else K (a.put o.dst undef)) :
    WSet P ops C VC Q (o :: rest) a := by
  have h := h _ (fun _ h => h)
  refine ⟨fun hw w' hC => ?_, fun v hv => ?_⟩
  · have := h w' hC
    rw [if_pos hw] at this
    revert this
    generalize (execOp a.eval o).run P w' = r
    intro this
    unfold UponC at this
    unfold FineRes
    split at this
    · exact this.1
    · exact this.1
    · exact ⟨this.1, this.2.1⟩
    · cases this
  · rcases hv with ⟨hw, w1, w2, hC, hv⟩ | ⟨hw, rfl⟩
    · have := h w1 hC
      rw [if_pos hw] at this
      unfold UponC at this
      rcases hv with hv | ⟨hv, rfl⟩ | ⟨f, args, hv, hvc⟩
      · rw [hv] at this; exact this.2
      · rw [hv] at this; exact this.2
      · rw [hv] at this; exact this.2.2 v hvc
    · have := h w0 h0
      rwa [if_neg (by rw [hw]; exact Bool.false_ne_true)] at this
theorem cset_nil (hq : Q a) : WSet P ops C VC Q [] a := hq
/-- what two functions give -/
def VC2 (fa : FuncId) (va : Value) (fb : FuncId) (vb : Value) (f : FuncId) (args : Array Value) (u : Value) : Prop := (f = fa → u = va) ∧ (f = fb → u = vb)
theorem VC2.one {fa fb : FuncId} {va vb : Value} {args : Array Value} (h : fa ≠ fb) : VC2 fa va fb vb fa args va := ⟨fun _ => rfl, fun e => absurd e h⟩
theorem VC2.two {fa fb : FuncId} {va vb : Value} {args : Array Value} (h : fb ≠ fa) : VC2 fa va fb vb fb args vb := ⟨fun e => absurd e h, fun _ => rfl⟩
def VC1 (va : Value) (f : FuncId) (args : Array Value) (u : Value) : Prop := u = va
/-- a world in which all old memory is as it was -/
def Low (w W : World) : Prop := Below w.heap.size w W
@[go_sem] theorem low_drawn {w W : World} (h : Low w W) (n : Nat) : Low w (W.drewN n) = True := by
  exact eq_true (below_drewN h n)
theorem low_self (w : World) : Low w w := Below.refl _ _
theorem low_drew1 (w : World) : Low w { w with drawn := w.drawn + 1 } := Below.drew (Below.refl _ _)
/-- **the region, by the walk in the order of the text, in worlds in which the old memory is as it was** -/
theorem wp_region_low {id : Nat} {Q : Exit → Act → World → Prop} {a : Act} {w : World} {l : List Oper} (VC : FuncId → Array Value → Value → Prop) (hm : P.follows .mixedOrders = true) (hB : Region.lexB .any l.toArray = true)
    (h : WSet P l.toArray (Low w) VC (fun a' => ∀ w', Low w w' → Q .normal a' w') l a) : (Code.region id l.toArray true).wp P Q a w :=
  wp_region_set (Low w) VC hm hB (low_drew1 w) h
end
end Go.Proofs.Ytfdgngnnncmfiaa
