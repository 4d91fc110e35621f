/- What the reference's StepParams returns. No condition. -/
import Derived.Test.YtaocilimggpdjaaSv0
import Derived.Test.YtaocilimggpdjaaSv1
import Derived.Test.YtaocilimggpdjaaSv2
import Derived.Test.YtaocilimggpdjaaSv3
import Derived.Test.YtaocilimggpdjaaSv4
namespace Go.Proofs.Ytaocilimggpdjaa
open Go Go.RowKit
set_option linter.unusedVariables false
set_option linter.unusedSimpArgs false
theorem spec_l05Step (w : World) {lo hi : Nat} (g0 : Nat) (k : Int) (hk : inB k 0 4 = true) (r b1 b2 ep : Nat) (hO : OptAt w g0 k r b1 b2 ep) (pa : Option Addr) (pc n : Nat) (ps : List Nat) (hp : F32s w pa pc ps) (hpz : pa = none → pc = 0) (hpn : n = ps.length) (ga : Option Addr) (gc : Nat) (gs : List Nat) (hg : F32s w ga gc gs) (hgn : n = gs.length) (hn : n ≤ 256)
    (sa : Option Addr) (sc : Nat) (vs : List Value) (Xs : List (List Nat)) (h : RepFF w lo hi sa (slotsN k) sc vs Xs) (hX : ∀ j, j < slotsN k → (Xs.getD j []).length = n) (s : Nat) (hs : s ≤ 999) :
    Calls Try.prog 79 #[.pointer (some ⟨g0, 0, none⟩), .slice pa n pc, .slice ga n gc, .slice sa (slotsN k) sc, .int .i64 s] w
      (SpecPost w (slotsN k) n (stO k r b1 b2 ep s ps gs Xs) (stU k b1 b2 gs Xs) (stV b2 gs Xs)) := by
  have ⟨k0, k1⟩ := inB_iff.1 hk
  have hkc : k = 0 ∨ k = 1 ∨ k = 2 ∨ k = 3 ∨ k = 4 := by omega
  rcases hkc with e | e | e | e | e
  · exact spec_l05Step0 w g0 k e r b1 b2 ep hO pa pc n ps hp hpz hpn ga gc gs hg hgn hn sa sc vs Xs h hX s hs
  · exact spec_l05Step1 w g0 k e r b1 b2 ep hO pa pc n ps hp hpz hpn ga gc gs hg hgn hn sa sc vs Xs h hX s hs
  · exact spec_l05Step2 w g0 k e r b1 b2 ep hO pa pc n ps hp hpz hpn ga gc gs hg hgn hn sa sc vs Xs h hX s hs
  · exact spec_l05Step3 w g0 k e r b1 b2 ep hO pa pc n ps hp hpz hpn ga gc gs hg hgn hn sa sc vs Xs h hX s hs
  · exact spec_l05Step4 w g0 k e r b1 b2 ep hO pa pc n ps hp hpz hpn ga gc gs hg hgn hn sa sc vs Xs h hX s hs
set_option maxRecDepth 100000 in
set_option maxHeartbeats 4000000 in
theorem spec_StepParams_no (w : World) {lo hi : Nat} (k : Int) (r b1 b2 ep : Nat) (pa : Option Addr) (pc : Nat) (ps : List Nat) (hp : F32s w pa pc ps) (ga : Option Addr) (gc : Nat) (gs : List Nat) (hg : F32s w ga gc gs)
    (sa : Option Addr) (sn sc : Nat) (vs : List Value) (Xs : List (List Nat)) (h : RepFF w lo hi sa sn sc vs Xs) (hsn : sn ≤ 1048576) (s : Int) (hok : stepOk k ps.length gs.length Xs s = false) :
    Calls Try.prog 15 #[.agg #[.int .i64 k, .float .f32 r, .float .f32 b1, .float .f32 b2, .float .f32 ep], .slice pa ps.length pc, .slice ga gs.length gc, .slice sa sn sc, .int .i64 s] w
      (StParPost w [] [] false) := by
  have m1 := Nat.le_trans hp.len hp.cap
  have m2 := Nat.le_trans hg.len hg.cap
  unfold maxLen at m1 m2
  have hxl := h.len
  subst hxl
  have k1 := fun W hW => spec_l05Is W w.heap.size k hW
  have k2 := fun W hO (hW : RepFF W lo hi sa Xs.length sc vs Xs) (hl : ps.length ≤ 1048576) => spec_l05Fit W w.heap.size k hO sa sc vs Xs hW.see hsn ps.length hl
  have k3 := fun W => l00In_any s 0 999 W
  obtain ⟨np, eP⟩ : ∃ np, np = ps.length := ⟨_, rfl⟩
  obtain ⟨ng, eG⟩ : ∃ ng, ng = gs.length := ⟨_, rfl⟩
  obtain ⟨nx, eX⟩ : ∃ nx, nx = Xs.length := ⟨_, rfl⟩
  rw [← eP, ← eG] at hok
  rw [← eP] at m1 k2
  rw [← eG] at m2
  rw [← eX] at k2 h hsn
  rw [← eP, ← eG, ← eX]
  unfold stepOk at hok
  obtain ⟨F, eF⟩ : ∃ F, F = fitB k Xs np := ⟨_, rfl⟩
  rw [← eF] at hok k2
  have kf := fun W => spec_l01Few pa np pc W
  have K1 := Lib.hid k1; have K2 := Lib.hid k2; have K3 := Lib.hid k3; have H := Lib.hid h; have KF := Lib.hid kf
  clear k1 k2 k3 h hp hg eP eG eX eF kf
  cases e1 : inB k 0 4
  · rw [e1] at K1
    clear hok e1
    go_enter Try.func15, Try.ntmps15
    go_wp2_with fail
    refine (K1.out _ (by go_simp)).mono ?_
    rintro e w1 ⟨rfl, rfl⟩
    go_wp2
    go_ret3
    exact StParPost.no rfl (below1 _ _)
  rw [e1] at K1 hok
  by_cases e2 : np ≤ 256
  case neg =>
    have e2' : decide (np ≤ 256) = false := decide_eq_false e2
    rw [e2'] at KF
    clear hok e1 e2'
    go_enter Try.func15, Try.ntmps15
    go_wp2_with fail
    refine (K1.out _ (by go_simp)).mono ?_
    rintro e w1 ⟨rfl, rfl⟩
    go_wp2_with fail
    refine (KF.out _).mono ?_
    rintro e w1 ⟨rfl, rfl⟩
    go_wp2
    go_ret3
    exact StParPost.no rfl (below1 _ _)
  rw [decide_eq_true e2] at hok KF
  by_cases e3 : np = ng
  case neg =>
    have e4 : ((np : Int) == (ng : Int)) = false := by simpa using (by omega : ¬ (np : Int) = ng)
    clear hok e1
    go_enter Try.func15, Try.ntmps15
    go_wp2_with fail
    refine (K1.out _ (by go_simp)).mono ?_
    rintro e w1 ⟨rfl, rfl⟩
    go_wp2_with fail
    refine (KF.out _).mono ?_
    rintro e w1 ⟨rfl, rfl⟩
    go_wp2
    go_ret3
    exact StParPost.no rfl (below1 _ _)
  rw [decide_eq_true e3] at hok
  subst e3
  cases F
  · clear hok e1
    go_enter Try.func15, Try.ntmps15
    go_wp2_with fail
    refine (K1.out _ (by go_simp)).mono ?_
    rintro e w1 ⟨rfl, rfl⟩
    go_wp2_with fail
    refine (KF.out _).mono ?_
    rintro e w1 ⟨rfl, rfl⟩
    go_wp2_with fail
    refine (K2.out _ (by go_simp) (H.out.below (below1 _ _)) (by omega)).mono ?_
    rintro e w2 ⟨rfl, rfl⟩
    go_wp2
    go_ret3
    exact StParPost.no rfl (below1 _ _)
  · have e5 : inB s 0 999 = false := by simpa using hok
    rw [e5] at K3
    clear hok e1 e5
    go_enter Try.func15, Try.ntmps15
    go_wp2_with fail
    refine (K1.out _ (by go_simp)).mono ?_
    rintro e w1 ⟨rfl, rfl⟩
    go_wp2_with fail
    refine (KF.out _).mono ?_
    rintro e w1 ⟨rfl, rfl⟩
    go_wp2_with fail
    refine (K2.out _ (by go_simp) (H.out.below (below1 _ _)) (by omega)).mono ?_
    rintro e w2 ⟨rfl, rfl⟩
    go_wp2_with fail
    refine (K3.out _).mono ?_
    rintro e w3 ⟨rfl, rfl⟩
    go_wp2
    go_ret3
    exact StParPost.no rfl (below1 _ _)
set_option maxRecDepth 100000 in
set_option maxHeartbeats 4000000 in
theorem spec_StepParams_yes (w : World) {lo hi : Nat} (k : Int) (r b1 b2 ep : Nat) (pa : Option Addr) (pc : Nat) (ps : List Nat) (hp : F32s w pa pc ps) (hpz : pa = none → pc = 0) (ga : Option Addr) (gc : Nat) (gs : List Nat) (hg : F32s w ga gc gs)
    (sa : Option Addr) (sn sc : Nat) (vs : List Value) (Xs : List (List Nat)) (h : RepFF w lo hi sa sn sc vs Xs) (hsn : sn ≤ 1048576) (s : Int) (hok : stepOk k ps.length gs.length Xs s = true) :
    Calls Try.prog 15 #[.agg #[.int .i64 k, .float .f32 r, .float .f32 b1, .float .f32 b2, .float .f32 ep], .slice pa ps.length pc, .slice ga gs.length gc, .slice sa sn sc, .int .i64 s] w
      (StParPost w (listOf ps.length (stO k r b1 b2 ep s.toNat ps gs Xs)) (rowsOf (slotsN k) ps.length (stU k b1 b2 gs Xs) (stV b2 gs Xs)) true) := by
  unfold stepOk at hok
  simp only [Bool.and_eq_true, decide_eq_true_eq] at hok
  obtain ⟨e1, e2, e3, e4, e5⟩ := hok
  have ⟨s0, s1⟩ := inB_iff.1 e5
  obtain ⟨t, rfl⟩ := Int.eq_ofNat_of_zero_le s0
  rw [Int.toNat_natCast]
  have hxl := h.len
  subst hxl
  have ⟨f1, f2⟩ := fit_iff.1 e4
  have hS2 := slotsN_le k
  have k1 := fun W hW => spec_l05Is W w.heap.size k hW
  rw [e1] at k1
  have k2 := fun W hO (hW : RepFF W lo hi sa Xs.length sc vs Xs) => spec_l05Fit W w.heap.size k hO sa sc vs Xs hW.see hsn ps.length (by omega)
  rw [e4] at k2
  have k3 := fun W => l00In_any t 0 999 W
  rw [e5] at k3
  have kf := fun W => spec_l01Few pa ps.length pc W
  rw [decide_eq_true e2] at kf
  have k4 := fun W (hO : OptAt W w.heap.size k r b1 b2 ep) (hp : F32s W pa pc ps) (hg : F32s W ga gc gs) (hW : RepFF W lo hi sa (slotsN k) sc vs Xs) => spec_l05Step W w.heap.size k e1 r b1 b2 ep hO pa pc ps.length ps hp hpz rfl ga gc gs hg e3 e2 sa sc vs Xs hW (fun j hj => f2 j (by omega)) t (by omega)
  rw [f1] at h k2
  have hre : ∀ (U V : Nat → Nat) (Ys : List (List Nat)), RowsAre (slotsN k) ps.length U V Ys → Ys.length = slotsN k → Ys.map (List.map (cn .f32)) = rowsOf (slotsN k) ps.length U V := fun U V Ys h hl => h.eq hl hS2
  obtain ⟨O, eO⟩ : ∃ O, O = stO k r b1 b2 ep t ps gs Xs := ⟨_, rfl⟩
  obtain ⟨U, eU⟩ : ∃ U, U = stU k b1 b2 gs Xs := ⟨_, rfl⟩
  obtain ⟨V, eV⟩ : ∃ V, V = stV b2 gs Xs := ⟨_, rfl⟩
  rw [← eO, ← eU, ← eV] at k4 ⊢
  rw [f1]
  obtain ⟨S, eS⟩ : ∃ S, S = slotsN k := ⟨_, rfl⟩
  rw [← eS] at k2 k4 h hre hS2 ⊢
  obtain ⟨n, eN⟩ : ∃ n, n = ps.length := ⟨_, rfl⟩
  rw [← eN] at k2 k4 hre e2 e3 kf ⊢
  rw [← e3]
  have K1 := Lib.hid k1; have K2 := Lib.hid k2; have K3 := Lib.hid k3; have K4 := Lib.hid k4; have H := Lib.hid h; have HP := Lib.hid hp; have HG := Lib.hid hg; have HRE := Lib.hid hre; have KF := Lib.hid kf
  clear k1 k2 k3 k4 h hp hg hre eO eU eV eS eN e1 e3 e4 e5 f1 f2 s0 s1 kf
  go_enter Try.func15, Try.ntmps15
  go_wp2_with fail
  refine (K1.out _ (by go_simp)).mono ?_
  rintro e w1 ⟨rfl, rfl⟩
  go_wp2_with fail
  refine (KF.out _).mono ?_
  rintro e w1 ⟨rfl, rfl⟩
  go_wp2_with fail
  refine (K2.out _ (by go_simp) (H.out.below (below1 _ _))).mono ?_
  rintro e w2 ⟨rfl, rfl⟩
  go_wp2_with fail
  refine (K3.out _).mono ?_
  rintro e w3 ⟨rfl, rfl⟩
  go_wp2_with fail
  refine (K4.out _ ⟨by simp, by go_simp, by go_simp, by go_simp, by go_simp, by go_simp⟩ (HP.out.below (below1 _ _)) (HG.out.below (below1 _ _)) (H.out.below (below1 _ _))).mono ?_
  rintro e w3 ⟨a1, c1, ys, a2, c2, us, Ys, mid, rfl, hr1, hy, hr2, hra, hm1, hm2, hb3⟩
  have HB3 := Lib.hid (bthen (below1 _ _) hb3)
  have HRR := Lib.hid hr1; have HRS := Lib.hid hr2; have HY := Lib.hid hy; have HRA := Lib.hid hra
  have hm1 : w.heap.size + 1 ≤ mid := by simpa using hm1
  have HRR : Hid (RepF w3 (w.heap.size + 1) mid a1 n c1 ys) := Lib.hid (by simpa using hr1)
  clear hb3 hr1 hr2 hy hra
  go_wp2
  go_ret3
  exact ⟨a1, n, c1, ys, a2, S, c2, us, Ys, w.heap.size + 1, mid, mid, w3.heap.size, rfl, HRR.out, HRS.out, HY.out, HRE.out _ _ _ HRA.out HRS.out.len, ⟨by omega, hS2, fun i hi => by rw [HRA.out.all i hi]; omega⟩, ⟨by omega, hm2, by omega, Nat.le_refl _, .inl (Nat.le_refl _)⟩, HB3.out⟩
theorem spec_StepParams (w : World) {lo hi : Nat} (k : Int) (r b1 b2 ep : Nat) (pa : Option Addr) (pc : Nat) (ps : List Nat) (hp : F32s w pa pc ps) (hpz : pa = none → pc = 0) (ga : Option Addr) (gc : Nat) (gs : List Nat) (hg : F32s w ga gc gs)
    (sa : Option Addr) (sn sc : Nat) (vs : List Value) (Xs : List (List Nat)) (h : RepFF w lo hi sa sn sc vs Xs) (hsn : sn ≤ 1048576) (s : Int) :
    Calls Try.prog 15 #[.agg #[.int .i64 k, .float .f32 r, .float .f32 b1, .float .f32 b2, .float .f32 ep], .slice pa ps.length pc, .slice ga gs.length gc, .slice sa sn sc, .int .i64 s] w
      (StParPost w (stR k r b1 b2 ep ps gs Xs s) (stS k b1 b2 ps gs Xs s) (stepOk k ps.length gs.length Xs s)) := by
  unfold stR stS
  cases e : stepOk k ps.length gs.length Xs s
  · exact spec_StepParams_no w k r b1 b2 ep pa pc ps hp ga gc gs hg sa sn sc vs Xs h hsn s e
  · exact spec_StepParams_yes w k r b1 b2 ep pa pc ps hp hpz ga gc gs hg sa sn sc vs Xs h hsn s e
end Go.Proofs.Ytaocilimggpdjaa
