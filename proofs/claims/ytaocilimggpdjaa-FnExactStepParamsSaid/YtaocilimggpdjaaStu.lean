/- What the program's StepParams returns. No condition. -/
import Derived.Test.YtaocilimggpdjaaSts
namespace Go.Proofs.Ytaocilimggpdjaa
open Go Go.RowKit
set_option linter.unusedVariables false
set_option linter.unusedSimpArgs false
def stepOk (k : Int) (np ng : Nat) (Xs : List (List Nat)) (s : Int) : Bool := inB k 0 4 && (decide (np ≤ 256) && (decide (np = ng) && (fitB k Xs np && inB s 0 999)))
def StParPost (w : World) (R : List Nat) (RS : List (List Nat)) (ok : Bool) (e : Ending) (w' : World) : Prop :=
  ∃ a1 n1 c1 ys a2 n2 c2 us Ys lo1 hi1 lo2 hi2, e = .returned (.tuple #[.slice a1 n1 c1, .slice a2 n2 c2, .bool ok]) ∧ RepF w' lo1 hi1 a1 n1 c1 ys ∧ RepFF w' lo2 hi2 a2 n2 c2 us Ys ∧ ys.map (cn .f32) = R ∧ Ys.map (List.map (cn .f32)) = RS ∧
    (n1 ≤ 256 ∧ n2 ≤ 2 ∧ ∀ i, i < n2 → (Ys.getD i []).length ≤ 256) ∧ (w.heap.size ≤ lo1 ∧ hi1 ≤ w'.heap.size ∧ w.heap.size ≤ lo2 ∧ hi2 ≤ w'.heap.size ∧ (hi1 ≤ lo2 ∨ hi2 ≤ lo1)) ∧ Below w.heap.size w w'
def rowsOf (S n : Nat) (U V : Nat → Nat) : List (List Nat) := [listOf n U, listOf n V].take S
theorem RowsAre.eq {S n : Nat} {U V : Nat → Nat} {Ys : List (List Nat)} (h : RowsAre S n U V Ys) (hl : Ys.length = S) (hS : S ≤ 2) : Ys.map (List.map (cn .f32)) = rowsOf S n U V := by
  subst hl
  match Ys, hS with
  | [], _ => rfl
  | [a], _ =>
    have := h.one (by simp)
    simp at this
    simp [rowsOf, this]
  | [a, b], _ =>
    have h1 := h.one (by simp)
    have h2 := h.two (by simp)
    simp at h1 h2
    simp [rowsOf, h1, h2]
def stR (k : Int) (r b1 b2 ep : Nat) (ps gs : List Nat) (Xs : List (List Nat)) (s : Int) : List Nat := if stepOk k ps.length gs.length Xs s = true then listOf ps.length (stO k r b1 b2 ep s.toNat ps gs Xs) else []
def stS (k : Int) (b1 b2 : Nat) (ps gs : List Nat) (Xs : List (List Nat)) (s : Int) : List (List Nat) := if stepOk k ps.length gs.length Xs s = true then rowsOf (slotsN k) ps.length (stU k b1 b2 gs Xs) (stV b2 gs Xs) else []
theorem StParPost.no {w w' : World} {e : Ending} (he : e = .returned (.tuple #[.slice none 0 0, .slice none 0 0, .bool false])) (hb : Below w.heap.size w w') : StParPost w [] [] false e w' :=
  ⟨none, 0, 0, [], none, 0, 0, [], [], w.heap.size, w.heap.size, w.heap.size, w.heap.size, he, RepF.nil _ _ _, RepFF.nil _ _ _, rfl, rfl, ⟨by omega, by omega, fun i hi => by omega⟩, ⟨Nat.le_refl _, hb.size, Nat.le_refl _, hb.size, .inl (Nat.le_refl _)⟩, hb⟩
set_option maxRecDepth 100000 in
set_option maxHeartbeats 4000000 in
theorem impl_StepParams_no (w : World) {lo hi : Nat} (k : Int) (r b1 b2 ep : Nat) (pa : Option Addr) (pc : Nat) (ps : List Nat) (hp : F32s w pa pc ps) (ga : Option Addr) (gc : Nat) (gs : List Nat) (hg : F32s w ga gc gs)
    (sa : Option Addr) (sn sc : Nat) (vs : List Value) (Xs : List (List Nat)) (h : RepFF w lo hi sa sn sc vs Xs) (hsn : sn ≤ 1048576) (s : Int) (hok : stepOk k ps.length gs.length Xs s = false) :
    Calls Try.prog 19 #[.agg #[.int .i64 k, .float .f32 r, .float .f32 b1, .float .f32 b2, .float .f32 ep], .slice pa ps.length pc, .slice ga gs.length gc, .slice sa sn sc, .int .i64 s] w
      (StParPost w [] [] false) := by
  have m1 := Nat.le_trans hp.len hp.cap
  have m2 := Nat.le_trans hg.len hg.cap
  unfold maxLen at m1 m2
  have hxl := h.len
  subst hxl
  have k1 := fun W => impl_ValidOptimizer k r b1 b2 ep W
  have k2 := fun W (hW : RepFF W lo hi sa Xs.length sc vs Xs) (hl : ps.length ≤ 1048576) => impl_areSlots W k r b1 b2 ep sa sc vs Xs hW.see hsn ps.length hl
  have k3 := fun W => within_any s 0 999 W
  obtain ⟨np, eP⟩ : ∃ np, np = ps.length := ⟨_, rfl⟩
  obtain ⟨ng, eG⟩ : ∃ ng, ng = gs.length := ⟨_, rfl⟩
  obtain ⟨nx, eX⟩ : ∃ nx, nx = Xs.length := ⟨_, rfl⟩
  rw [← eP, ← eG] at hok
  rw [← eP] at m1 k2
  rw [← eG] at m2
  rw [← eX] at k2 h hsn
  rw [← eP, ← eG, ← eX]
  unfold stepOk at hok
  obtain ⟨F, eF⟩ : ∃ F, F = fitB k Xs np := ⟨_, rfl⟩
  rw [← eF] at hok k2
  have K1 := Lib.hid k1; have K2 := Lib.hid k2; have K3 := Lib.hid k3; have H := Lib.hid h
  clear k1 k2 k3 h hp hg eP eG eX eF
  cases e1 : inB k 0 4
  · rw [e1] at K1
    clear hok e1
    go_enter Try.func19, Try.ntmps19
    go_wp2_with fail
    refine (K1.out _).mono ?_
    rintro e w1 ⟨rfl, hb1⟩
    have HB := Lib.hid (bthen (below1 _ _) hb1); clear hb1
    go_wp2
    go_ret3
    exact StParPost.no rfl HB.out
  rw [e1] at K1 hok
  by_cases e2 : np ≤ 256
  case neg =>
    clear hok e1
    go_enter Try.func19, Try.ntmps19
    go_wp2_with fail
    refine (K1.out _).mono ?_
    rintro e w1 ⟨rfl, hb1⟩
    have HB := Lib.hid (bthen (below1 _ _) hb1); clear hb1
    go_wp2
    go_ret3
    exact StParPost.no rfl HB.out
  rw [decide_eq_true e2] at hok
  by_cases e3 : np = ng
  case neg =>
    have e4 : ((np : Int) == (ng : Int)) = false := by simpa using (by omega : ¬ (np : Int) = ng)
    clear hok e1
    go_enter Try.func19, Try.ntmps19
    go_wp2_with fail
    refine (K1.out _).mono ?_
    rintro e w1 ⟨rfl, hb1⟩
    have HB := Lib.hid (bthen (below1 _ _) hb1); clear hb1
    go_wp2
    go_ret3
    exact StParPost.no rfl HB.out
  rw [decide_eq_true e3] at hok
  subst e3
  cases F
  · clear hok e1
    go_enter Try.func19, Try.ntmps19
    go_wp2_with fail
    refine (K1.out _).mono ?_
    rintro e w1 ⟨rfl, hb1⟩
    obtain ⟨q1, q2, q3⟩ := bkeep w.heap.size hb1 (by simp)
    have HB := Lib.hid (bthen (below1 _ _) hb1); clear hb1
    go_wp2_with fail
    refine (K2.out _ (H.out.below HB.out) (by omega)).mono ?_
    rintro e w2 ⟨rfl, hb2⟩
    have HB2 := Lib.hid (bthen HB.out hb2); clear hb2
    go_wp2
    go_ret3
    exact StParPost.no rfl HB2.out
  · have e5 : inB s 0 999 = false := by simpa using hok
    rw [e5] at K3
    clear hok e1 e5
    go_enter Try.func19, Try.ntmps19
    go_wp2_with fail
    refine (K1.out _).mono ?_
    rintro e w1 ⟨rfl, hb1⟩
    obtain ⟨q1, q2, q3⟩ := bkeep w.heap.size hb1 (by simp)
    have HB := Lib.hid (bthen (below1 _ _) hb1); clear hb1
    go_wp2_with fail
    refine (K2.out _ (H.out.below HB.out) (by omega)).mono ?_
    rintro e w2 ⟨rfl, hb2⟩
    have HB2 := Lib.hid (bthen HB.out hb2); clear hb2
    go_wp2_with fail
    refine (K3.out _).mono ?_
    rintro e w3 ⟨rfl, rfl⟩
    go_wp2
    go_ret3
    exact StParPost.no rfl HB2.out
set_option maxRecDepth 100000 in
set_option maxHeartbeats 4000000 in
theorem impl_StepParams_yes (w : World) {lo hi : Nat} (k : Int) (r b1 b2 ep : Nat) (pa : Option Addr) (pc : Nat) (ps : List Nat) (hp : F32s w pa pc ps) (ga : Option Addr) (gc : Nat) (gs : List Nat) (hg : F32s w ga gc gs)
    (sa : Option Addr) (sn sc : Nat) (vs : List Value) (Xs : List (List Nat)) (h : RepFF w lo hi sa sn sc vs Xs) (hsn : sn ≤ 1048576) (s : Int) (hok : stepOk k ps.length gs.length Xs s = true) :
    Calls Try.prog 19 #[.agg #[.int .i64 k, .float .f32 r, .float .f32 b1, .float .f32 b2, .float .f32 ep], .slice pa ps.length pc, .slice ga gs.length gc, .slice sa sn sc, .int .i64 s] w
      (StParPost w (listOf ps.length (stO k r b1 b2 ep s.toNat ps gs Xs)) (rowsOf (slotsN k) ps.length (stU k b1 b2 gs Xs) (stV b2 gs Xs)) true) := by
  unfold stepOk at hok
  simp only [Bool.and_eq_true, decide_eq_true_eq] at hok
  obtain ⟨e1, e2, e3, e4, e5⟩ := hok
  have ⟨s0, s1⟩ := inB_iff.1 e5
  obtain ⟨t, rfl⟩ := Int.eq_ofNat_of_zero_le s0
  rw [Int.toNat_natCast]
  have hxl := h.len
  subst hxl
  have ⟨f1, f2⟩ := fit_iff.1 e4
  have hS2 := slotsN_le k
  have k1 := fun W => impl_ValidOptimizer k r b1 b2 ep W
  rw [e1] at k1
  have k2 := fun W (hW : RepFF W lo hi sa Xs.length sc vs Xs) => impl_areSlots W k r b1 b2 ep sa sc vs Xs hW.see hsn ps.length (by omega)
  rw [e4] at k2
  have k3 := fun W => within_any t 0 999 W
  rw [e5] at k3
  have k4 := fun W (hp : F32s W pa pc ps) (hg : F32s W ga gc gs) (hW : RepFF W lo hi sa (slotsN k) sc vs Xs) => impl_steps W k e1 r b1 b2 ep pa pc ps.length ps hp rfl ga gc gs hg e3 e2 sa sc vs Xs hW (fun j hj => f2 j (by omega)) t (by omega)
  rw [f1] at h k2
  have hre : ∀ (U V : Nat → Nat) (Ys : List (List Nat)), RowsAre (slotsN k) ps.length U V Ys → Ys.length = slotsN k → Ys.map (List.map (cn .f32)) = rowsOf (slotsN k) ps.length U V := fun U V Ys h hl => h.eq hl hS2
  obtain ⟨O, eO⟩ : ∃ O, O = stO k r b1 b2 ep t ps gs Xs := ⟨_, rfl⟩
  obtain ⟨U, eU⟩ : ∃ U, U = stU k b1 b2 gs Xs := ⟨_, rfl⟩
  obtain ⟨V, eV⟩ : ∃ V, V = stV b2 gs Xs := ⟨_, rfl⟩
  rw [← eO, ← eU, ← eV] at k4 ⊢
  rw [f1]
  obtain ⟨S, eS⟩ : ∃ S, S = slotsN k := ⟨_, rfl⟩
  rw [← eS] at k2 k4 h hre hS2 ⊢
  obtain ⟨n, eN⟩ : ∃ n, n = ps.length := ⟨_, rfl⟩
  rw [← eN] at k2 k4 hre e2 e3 ⊢
  rw [← e3]
  have K1 := Lib.hid k1; have K2 := Lib.hid k2; have K3 := Lib.hid k3; have K4 := Lib.hid k4; have H := Lib.hid h; have HP := Lib.hid hp; have HG := Lib.hid hg; have HRE := Lib.hid hre
  clear k1 k2 k3 k4 h hp hg hre eO eU eV eS eN e1 e3 e4 e5 f1 f2 s0 s1
  go_enter Try.func19, Try.ntmps19
  go_wp2_with fail
  refine (K1.out _).mono ?_
  rintro e w1 ⟨rfl, hb1⟩
  obtain ⟨q1, q2, q3⟩ := bkeep w.heap.size hb1 (by simp)
  have HB := Lib.hid (bthen (below1 _ _) hb1); clear hb1
  go_wp2_with fail
  refine (K2.out _ (H.out.below HB.out)).mono ?_
  rintro e w2 ⟨rfl, hb2⟩
  obtain ⟨q4, q5, q6⟩ := bkeep w.heap.size hb2 q3
  have HB2 := Lib.hid (bthen HB.out hb2); clear hb2
  go_wp2_with fail
  refine (K3.out _).mono ?_
  rintro e w3 ⟨rfl, rfl⟩
  go_wp2_with fail
  refine (K4.out _ (HP.out.below HB2.out) (HG.out.below HB2.out) (H.out.below HB2.out)).mono ?_
  rintro e w3 ⟨a1, c1, ys, a2, c2, us, Ys, mid, rfl, hr1, hy, hr2, hra, hm1, hm2, hb3⟩
  have hs2 := HB2.out.size
  have HB3 := Lib.hid (bthen HB2.out hb3)
  have HRR := Lib.hid hr1; have HRS := Lib.hid hr2; have HY := Lib.hid hy; have HRA := Lib.hid hra
  clear hb3 hr1 hr2 hy hra
  go_wp2
  go_ret3
  exact ⟨a1, n, c1, ys, a2, S, c2, us, Ys, mid, w3.heap.size, w2.heap.size, mid, rfl, HRR.out, HRS.out, HY.out, HRE.out _ _ _ HRA.out HRS.out.len, ⟨by omega, hS2, fun i hi => by rw [HRA.out.all i hi]; omega⟩, ⟨by omega, Nat.le_refl _, hs2, hm2, .inr (Nat.le_refl _)⟩, HB3.out⟩
theorem impl_StepParams (w : World) {lo hi : Nat} (k : Int) (r b1 b2 ep : Nat) (pa : Option Addr) (pc : Nat) (ps : List Nat) (hp : F32s w pa pc ps) (ga : Option Addr) (gc : Nat) (gs : List Nat) (hg : F32s w ga gc gs)
    (sa : Option Addr) (sn sc : Nat) (vs : List Value) (Xs : List (List Nat)) (h : RepFF w lo hi sa sn sc vs Xs) (hsn : sn ≤ 1048576) (s : Int) :
    Calls Try.prog 19 #[.agg #[.int .i64 k, .float .f32 r, .float .f32 b1, .float .f32 b2, .float .f32 ep], .slice pa ps.length pc, .slice ga gs.length gc, .slice sa sn sc, .int .i64 s] w
      (StParPost w (stR k r b1 b2 ep ps gs Xs s) (stS k b1 b2 ps gs Xs s) (stepOk k ps.length gs.length Xs s)) := by
  unfold stR stS
  cases e : stepOk k ps.length gs.length Xs s
  · exact impl_StepParams_no w k r b1 b2 ep pa pc ps hp ga gc gs hg sa sn sc vs Xs h hsn s e
  · exact impl_StepParams_yes w k r b1 b2 ep pa pc ps hp ga gc gs hg sa sn sc vs Xs h hsn s e
end Go.Proofs.Ytaocilimggpdjaa
