/- Joined texts 8: Gr0 Le0 Tp8 Tw0 Rg2 Ali Rp1 Rp2 Rp4 Tw1 Tw2 Tw3 Le1 Ox0 Mt5. Each is told at its own head. No condition. -/
import Derived.Deep.RegionHeld3
import Derived.Deep.CutRange
import Derived.Deep.DeepCutAuto
import Derived.Test.YtpadlmidojpbeaaGreatMc0
import Derived.Test.YtpadlmidojpbeaaGreatMc1
import Derived.Test.YtpadlmidojpbeaaGreatMc2
import Derived.Test.YtpadlmidojpbeaaGreatMc5
import Derived.Test.YtpadlmidojpbeaaGreatMc6
import Derived.Test.YtpadlmidojpbeaaGreatMc7
set_option linter.unusedVariables false
set_option linter.unusedSimpArgs false
/- x -/
namespace Go.Proofs.YtpadlmidojpbeaaGreat
open Go Go.RowKit
def colG (X : List Nat) (c : Nat) : Nat → Nat → Nat
  | 0, _ => 0
  | k + 1, j => if j = k % c then fop .add .f32 (colG X c k j) (X.getD k 0) else colG X c k j
def addV (v w : TenP) : TenP := ⟨v.r, v.c, tenE .add v.xs w.xs v.xs.length⟩
def mulV (v w : TenP) : TenP := ⟨v.r, v.c, tenE .mul v.xs w.xs v.xs.length⟩
def colV (g : TenP) : TenP := ⟨1, g.c, listOf g.c.toNat (colG g.xs g.c.toNat g.xs.length)⟩
def filV (v : TenP) (y : Nat) : TenP := ⟨v.r, v.c, filE y v.xs.length⟩
def overW (x y : Nat) : Nat := if (FloatKind.f32.format.order x 0 == some .gt) = true then y else 0
def maskE (X G : List Nat) (n : Nat) : List Nat := listOf n fun i => overW (X.getD i 0) (G.getD i 0)
def turnV (v : TenP) : TenP := ⟨v.c, v.r, turnE v.xs v.r.toNat v.c.toNat v.xs.length⟩
def matV (v w : TenP) : TenP := ⟨v.r, w.c, matE v.xs w.xs v.c.toNat w.c.toNat (v.r.toNat * w.c.toNat)⟩
def partA (k : Int) (g v w : TenP) (num : Nat) : TenP :=
  if k = 1 then g else
  if k = 2 then g else
  if k = 3 then mulV g w else
  if k = 4 then ⟨g.r, g.c, rowE .mul g.xs w.xs g.c.toNat g.xs.length⟩ else
  if k = 5 then ⟨g.r, g.c, scaE g.xs num g.xs.length⟩ else
  if k = 6 then matV g (turnV w) else
  if k = 7 then turnV g else
  if k = 8 then ⟨v.r, v.c, maskE v.xs g.xs v.xs.length⟩ else
  if k = 9 then mulV g (addV v v) else
  filV v (g.xs.getD 0 0)
def partB (k : Int) (g v : TenP) : TenP :=
  if k = 1 then g else
  if k = 2 then colV g else
  if k = 3 then mulV g v else
  if k = 4 then colV (mulV g v) else
  matV (turnV v) g
def giveV (h : Bool) (old part : TenP) : TenP := if h = true then addV old part else part
def stepG (V : List TenP) (U : List Bool) (G : List TenP) (i : Nat) (o : OpP) : List TenP :=
  if U.getD i false = true ∧ o.k ≠ 0 then
    (if twoB o.k = true then
      ((G.set o.a.toNat (giveV (U.getD o.a.toNat false) (vGet G o.a) (partA o.k (vGet G i) (vGet V o.a) (vGet V o.b) (cn .f32 o.num)))).set o.b.toNat
        (giveV ((U.set o.a.toNat true).getD o.b.toNat false) (vGet (G.set o.a.toNat (giveV (U.getD o.a.toNat false) (vGet G o.a) (partA o.k (vGet G i) (vGet V o.a) (vGet V o.b) (cn .f32 o.num)))) o.b) (partB o.k (vGet G i) (vGet V o.a))))
    else G.set o.a.toNat (giveV (U.getD o.a.toNat false) (vGet G o.a) (partA o.k (vGet G i) (vGet V o.a) (vGet V o.b) (cn .f32 o.num))))
  else G
def gradM (os : List OpP) (V : List TenP) : Nat → List TenP
  | 0 => (V.map fun v => filV v 0).set (os.length - 1) (filV (vGet V ((os.length - 1 : Nat) : Int)) 1065353216)
  | m + 1 => stepG V (usedM os m) (gradM os V m) (os.length - 1 - m) (opAtP os (os.length - 1 - m))
def gradP (os : List OpP) : List TenP := gradM os (valsP os) os.length
theorem maskE_length (X G : List Nat) (n : Nat) : (maskE X G n).length = n := listOf_length _ _
theorem filV_ok {v : TenP} (h : okT v) (y : Nat) : okT (filV v y) ∧ (filV v y).sh = v.sh := by
  obtain ⟨h1, h2, h3, h4, h5⟩ := h
  exact ⟨⟨h1, h2, h3, h4, by show (filE y v.xs.length).length = _; rw [filE_length]; exact h5⟩, rfl⟩
theorem addV_ok {v w : TenP} (h : okT v) : okT (addV v w) ∧ (addV v w).sh = v.sh := by
  obtain ⟨h1, h2, h3, h4, h5⟩ := h
  exact ⟨⟨h1, h2, h3, h4, by show (tenE .add v.xs w.xs v.xs.length).length = _; rw [tenE_length]; exact h5⟩, rfl⟩
theorem mulV_ok {v w : TenP} (h : okT v) : okT (mulV v w) ∧ (mulV v w).sh = v.sh := by
  obtain ⟨h1, h2, h3, h4, h5⟩ := h
  exact ⟨⟨h1, h2, h3, h4, by show (tenE .mul v.xs w.xs v.xs.length).length = _; rw [tenE_length]; exact h5⟩, rfl⟩
theorem turnV_ok {v : TenP} (h : okT v) : okT (turnV v) := by
  obtain ⟨h1, h2, h3, h4, h5⟩ := h
  exact ⟨h3, h4, h1, h2, by show (turnE v.xs v.r.toNat v.c.toNat v.xs.length).length = v.c.toNat * v.r.toNat; rw [turnE_length, h5, Nat.mul_comm]⟩
theorem colV_ok {v : TenP} (h : okT v) : okT (colV v) := by
  obtain ⟨h1, h2, h3, h4, h5⟩ := h
  exact ⟨by show (1 : Int) ≤ 1; decide, by show (1 : Int) ≤ 16; decide, h3, h4, by show (listOf v.c.toNat _).length = (1 : Int).toNat * v.c.toNat; rw [listOf_length]; show _ = 1 * _; rw [Nat.one_mul]⟩
theorem matV_ok {v w : TenP} (h : okT v) (h2 : okT w) : okT (matV v w) := by
  exact ⟨h.r1, h.r2, h2.c1, h2.c2, by show (matE _ _ _ _ _).length = v.r.toNat * w.c.toNat; rw [matE_length]⟩
theorem partA_ok {k : Int} {g v w : TenP} {num : Nat} {s : Sh} (hk : 1 ≤ k ∧ k ≤ 10) (hg : okT g) (hv : okT v) (hw : okT w) (h : shapeOf k v.sh w.sh = some s) (hs : g.sh = s) : okT (partA k g v w num) ∧ (partA k g v w num).sh = v.sh := by
  have hk2 : k = 1 ∨ k = 2 ∨ k = 3 ∨ k = 4 ∨ k = 5 ∨ k = 6 ∨ k = 7 ∨ k = 8 ∨ k = 9 ∨ k = 10 := by omega
  subst hs
  rcases hk2 with rfl | rfl | rfl | rfl | rfl | rfl | rfl | rfl | rfl | rfl
  · refine ⟨by simpa [partA] using hg, ?_⟩
    simp [shapeOf, TenP.sh] at h
    simp [partA, TenP.sh]; omega
  · refine ⟨by simpa [partA] using hg, ?_⟩
    simp [shapeOf, TenP.sh] at h
    simp [partA, TenP.sh]; omega
  · refine ⟨by simpa [partA] using (mulV_ok hg).1, ?_⟩
    simp [shapeOf, TenP.sh] at h
    simp [partA, TenP.sh, mulV]; omega
  · refine ⟨?_, ?_⟩
    · have e : partA 4 g v w num = ⟨g.r, g.c, rowE .mul g.xs w.xs g.c.toNat g.xs.length⟩ := by simp [partA]
      rw [e]
      exact ⟨hg.r1, hg.r2, hg.c1, hg.c2, by show (rowE _ _ _ _ _).length = _; rw [rowE_length]; exact hg.len⟩
    · simp [shapeOf, TenP.sh] at h
      simp [partA, TenP.sh]; omega
  · refine ⟨?_, ?_⟩
    · have e : partA 5 g v w num = ⟨g.r, g.c, scaE g.xs num g.xs.length⟩ := by simp [partA]
      rw [e]
      exact ⟨hg.r1, hg.r2, hg.c1, hg.c2, by show (scaE _ _ _).length = _; rw [scaE_length]; exact hg.len⟩
    · simp [shapeOf, TenP.sh] at h
      simp [partA, TenP.sh]; omega
  · refine ⟨by simpa [partA] using matV_ok hg (turnV_ok hw), ?_⟩
    simp only [shapeOf, TenP.sh] at h
    by_cases h6 : v.c = w.r <;> simp [h6] at h
    simp [partA, TenP.sh, matV, turnV]; omega
  · refine ⟨by simpa [partA] using turnV_ok hg, ?_⟩
    simp [shapeOf, TenP.sh] at h
    simp [partA, TenP.sh, turnV]; omega
  · have e : partA 8 g v w num = ⟨v.r, v.c, maskE v.xs g.xs v.xs.length⟩ := by simp [partA]
    rw [e]
    exact ⟨⟨hv.r1, hv.r2, hv.c1, hv.c2, by show (maskE _ _ _).length = _; rw [maskE_length]; exact hv.len⟩, rfl⟩
  · refine ⟨by simpa [partA] using (mulV_ok hg).1, ?_⟩
    simp [shapeOf, TenP.sh] at h
    simp [partA, TenP.sh, mulV]; omega
  · have e : partA 10 g v w num = filV v (g.xs.getD 0 0) := by simp [partA]
    rw [e]
    exact filV_ok hv _
theorem partB_ok {k : Int} {g v w : TenP} {s : Sh} (hk : twoB k = true) (hg : okT g) (hv : okT v) (hw : okT w) (h : shapeOf k v.sh w.sh = some s) (hs : g.sh = s) : okT (partB k g v) ∧ (partB k g v).sh = w.sh := by
  have hk2 : k = 1 ∨ k = 2 ∨ k = 3 ∨ k = 4 ∨ k = 6 := by
    unfold twoB at hk; simp at hk; omega
  subst hs
  rcases hk2 with rfl | rfl | rfl | rfl | rfl
  · refine ⟨by simpa [partB] using hg, ?_⟩
    simp [shapeOf, TenP.sh] at h
    simp [partB, TenP.sh]; omega
  · refine ⟨by simpa [partB] using colV_ok hg, ?_⟩
    simp [shapeOf, TenP.sh] at h
    simp [partB, TenP.sh, colV]; omega
  · refine ⟨by simpa [partB] using (mulV_ok hg).1, ?_⟩
    simp [shapeOf, TenP.sh] at h
    simp [partB, TenP.sh, mulV]; omega
  · refine ⟨by simpa [partB] using colV_ok (mulV_ok hg).1, ?_⟩
    simp [shapeOf, TenP.sh] at h
    simp [partB, TenP.sh, mulV, colV]; omega
  · refine ⟨by simpa [partB] using matV_ok (turnV_ok hv) hg, ?_⟩
    simp only [shapeOf, TenP.sh] at h
    by_cases h6 : v.c = w.r <;> simp [h6] at h
    simp [partB, TenP.sh, matV, turnV]; omega
theorem giveV_ok {h : Bool} {old part : TenP} {s : Sh} (ho : okT old) (hos : old.sh = s) (hp : okT part) (hps : part.sh = s) : okT (giveV h old part) ∧ (giveV h old part).sh = s := by
  unfold giveV
  split
  · exact ⟨(addV_ok ho).1, (addV_ok ho).2.trans hos⟩
  · exact ⟨hp, hps⟩
theorem vGet_nat {V : List TenP} {i : Nat} (h : i < V.length) : vGet V (i : Int) = V[i] := by
  unfold vGet
  rw [show ((i : Nat) : Int).toNat = i by simp, List.getD_eq_getElem?_getD, List.getElem?_eq_getElem h]; rfl
theorem stepG_length (V : List TenP) (U : List Bool) (G : List TenP) (i : Nat) (o : OpP) : (stepG V U G i o).length = G.length := by
  unfold stepG; split
  · split <;> simp
  · rfl
theorem gradM_length (os : List OpP) (V : List TenP) (hV : V.length = os.length) (m : Nat) : (gradM os V m).length = os.length := by
  induction m with
  | zero => simp [gradM, hV]
  | succ m ih => rw [gradM, stepG_length, ih]
def OkG (V : List TenP) (U : List Bool) (G : List TenP) : Prop := G.length = V.length ∧ ∀ j, j < V.length → (okT (vGet G (j : Int)) ∧ (vGet G (j : Int)).sh = (vGet V (j : Int)).sh) ∧ (U.getD j false = false → vGet G (j : Int) = filV (vGet V (j : Int)) 0)
theorem vGet_set {G : List TenP} {i j : Nat} {t : TenP} (hi : i < G.length) : vGet (G.set i t) (j : Int) = if i = j then t else vGet G (j : Int) := by
  unfold vGet
  rw [show ((j : Nat) : Int).toNat = j by simp, List.getD_eq_getElem?_getD, List.getElem?_set]
  by_cases e : i = j
  · rw [if_pos e, if_pos hi, if_pos e]; rfl
  · rw [if_neg e, if_neg e, ← List.getD_eq_getElem?_getD]
theorem OkG.set {V : List TenP} {U : List Bool} {G : List TenP} (h : OkG V U G) {i : Nat} (hi : i < V.length) {t : TenP} (ht : okT t) (hs : t.sh = (vGet V (i : Int)).sh) (hU : U.length = V.length) : OkG V (U.set i true) (G.set i t) := by
  refine ⟨by rw [List.length_set]; exact h.1, fun j hj => ?_⟩
  rw [vGet_set (by rw [h.1]; exact hi)]
  by_cases e : i = j
  · subst e
    rw [if_pos rfl]
    refine ⟨⟨ht, hs⟩, fun h2 => ?_⟩
    rw [List.getD_eq_getElem?_getD, List.getElem?_set, if_pos rfl, if_pos (by rw [hU]; exact hi)] at h2
    cases h2
  · rw [if_neg e]
    refine ⟨(h.2 j hj).1, fun h2 => (h.2 j hj).2 ?_⟩
    rw [List.getD_eq_getElem?_getD, List.getElem?_set, if_neg e, ← List.getD_eq_getElem?_getD] at h2
    exact h2
theorem OkG.give {V : List TenP} {U : List Bool} {G : List TenP} (h : OkG V U G) {i : Nat} (hi : i < V.length) {p : TenP} (hp : okT p) (hs : p.sh = (vGet V (i : Int)).sh) (hU : U.length = V.length) : OkG V (U.set i true) (G.set i (giveV (U.getD i false) (vGet G (i : Int)) p)) := by
  have := giveV_ok (h := U.getD i false) (h.2 i hi).1.1 (h.2 i hi).1.2 hp hs
  exact h.set hi this.1 this.2 hU
theorem OkG.init {os : List OpP} {V : List TenP} (hV : V.length = os.length) (hok : ∀ t ∈ V, okT t) (h1 : 1 ≤ os.length) : OkG V (usedM os 0) (gradM os V 0) := by
  have h0 : OkG V (List.replicate os.length false) (V.map fun v => filV v 0) := by
    refine ⟨by simp, fun j hj => ?_⟩
    rw [vGet_nat (V := V.map _) (by simpa using hj), vGet_nat hj, List.getElem_map]
    exact ⟨filV_ok (hok _ (List.getElem_mem hj)) 0, fun _ => rfl⟩
  have hl : os.length - 1 < V.length := by omega
  have hv : okT (vGet V ((os.length - 1 : Nat) : Int)) := by rw [vGet_nat hl]; exact hok _ (List.getElem_mem hl)
  exact h0.set hl (filV_ok hv 1065353216).1 (filV_ok hv 1065353216).2 (by simp [hV])
theorem grad_round {os : List OpP} {S : List Sh} (hS : shapesP os = some S) {i : Nat} {o : OpP} (ho : os[i]? = some o) (h0 : o.k ≠ 0) : ∃ s, shapeOf o.k (vGet (valsP os) o.a).sh (vGet (valsP os) o.b).sh = some s ∧ (vGet (valsP os) (i : Int)).sh = s := by
  have hp := shapesP_some hS
  have hi := (List.getElem?_eq_some_iff.1 ho).1
  have hv := valsN_ok (Nat.le_refl _) hp.2.1
  have hf := valid_fit hS ho
  have ha := fitsB_args hf h0
  have hVl : (valsP os).length = os.length := by have := congrArg List.length hv.1; rw [List.length_map, hp.2.2.1] at this; exact this
  cases hSk : shapesN os i with
  | none =>
    have := shapesN_none hSk (Nat.le_of_lt hi) (Nat.le_refl _)
    rw [hp.2.1] at this; cases this
  | some Sk =>
    have hl := shapesN_length (Nat.le_of_lt hi) hSk
    cases hS1 : shapesN os (i + 1) with
    | none =>
      have := shapesN_none hS1 hi (Nat.le_refl _)
      rw [hp.2.1] at this; cases this
    | some S1 =>
      have hS1' := hS1
      rw [shapesN_succ ho, hSk] at hS1
      have hst : stepSh Sk o = some S1 := hS1
      unfold stepSh at hst
      rw [hl, if_pos hf, if_neg h0] at hst
      obtain ⟨s, hs, hs1⟩ := Option.map_eq_some_iff.1 hst
      have pre : ∀ m k Sm Sk, shapesN os k = some Sk → shapesN os m = some Sm → k ≤ m → m ≤ os.length → ∀ j : Nat, j < k → shGet Sm (j : Int) = shGet Sk (j : Int) := by
        intro m
        induction m with
        | zero =>
          intro k Sm Sk h1 h2 h3 h4 j hj
          omega
        | succ m ih =>
          intro k Sm Sk h1 h2 h3 h4 j hj
          by_cases e : k = m + 1
          · subst e; rw [h1] at h2; cases h2; rfl
          · obtain ⟨om, hom⟩ := getElem?_lt (show m < os.length by omega)
            rw [shapesN_succ hom] at h2
            obtain ⟨S0, hS0, hst0⟩ := Option.bind_eq_some_iff.1 h2
            rw [← ih k S0 Sk h1 hS0 (by omega) (by omega) j hj]
            have hl0 := shapesN_length (by omega) hS0
            have : ∃ s, Sm = S0 ++ [s] := by
              unfold stepSh at hst0
              split at hst0
              · split at hst0
                · cases hst0; exact ⟨_, rfl⟩
                · obtain ⟨s, _, e2⟩ := Option.map_eq_some_iff.1 hst0
                  exact ⟨s, e2.symm⟩
              · cases hst0
            obtain ⟨s, rfl⟩ := this
            unfold shGet
            rw [List.getD_eq_getElem?_getD, List.getD_eq_getElem?_getD, List.getElem?_append_left (by simp; omega)]
      have g1 : ∀ x : Int, 0 ≤ x → x ≤ (i : Int) - 1 → (vGet (valsP os) x).sh = shGet Sk x := by
        intro x hx0 hx1
        show (vGet (valsN os os.length) x).sh = _
        have hVl2 : (valsN os os.length).length = os.length := hVl
        rw [vGet_sh hv.1 hx0 (by rw [hVl2]; omega)]
        obtain ⟨n, rfl⟩ : ∃ n : Nat, x = n := ⟨x.toNat, by omega⟩
        exact pre os.length i S Sk hSk hp.2.1 (by omega) (Nat.le_refl _) n (by omega)
      refine ⟨s, ?_, ?_⟩
      · rw [g1 _ ha.1.1 ha.1.2, g1 _ ha.2.1.1 ha.2.1.2]; exact hs
      · show (vGet (valsN os os.length) (i : Int)).sh = _
        have hVl2 : (valsN os os.length).length = os.length := hVl
        rw [vGet_sh hv.1 (by omega) (by rw [hVl2]; omega), pre os.length (i + 1) S S1 hS1' hp.2.1 (by omega) (Nat.le_refl _) i (by omega), ← hs1]
        unfold shGet
        rw [show ((i : Nat) : Int).toNat = i by simp, List.getD_eq_getElem?_getD, List.getElem?_append_right (by omega), hl, Nat.sub_self]; rfl
theorem valsP_ok {os : List OpP} {S : List Sh} (hS : shapesP os = some S) : (valsP os).length = os.length ∧ ∀ t ∈ valsP os, okT t := by
  have hp := shapesP_some hS
  have hv := valsN_ok (Nat.le_refl _) hp.2.1
  exact ⟨by have := congrArg List.length hv.1; rw [List.length_map, hp.2.2.1] at this; exact this, hv.2⟩
theorem vGet_ok {V : List TenP} (h : ∀ t ∈ V, okT t) {i : Int} (h0 : 0 ≤ i) (h1 : i < V.length) : okT (vGet V i) := by
  obtain ⟨n, rfl⟩ : ∃ n : Nat, i = n := ⟨i.toNat, by omega⟩
  rw [vGet_nat (by omega)]; exact h _ (List.getElem_mem _)
theorem OkG.step {os : List OpP} {S : List Sh} (hS : shapesP os = some S) {U : List Bool} {G : List TenP} (h : OkG (valsP os) U G) (hU : U.length = os.length) {i : Nat} {o : OpP} (ho : os[i]? = some o) : OkG (valsP os) (stepU U i o) (stepG (valsP os) U G i o) := by
  have hi := (List.getElem?_eq_some_iff.1 ho).1
  obtain ⟨hVl, hok⟩ := valsP_ok hS
  unfold stepU stepG
  by_cases hc : U.getD i false = true ∧ o.k ≠ 0
  · rw [if_pos hc, if_pos hc]
    have hf := valid_fit hS ho
    have hk10 := fitsB_in hf
    have ha := fitsB_args hf hc.2
    obtain ⟨s, hs, hgs⟩ := grad_round hS ho hc.2
    have hkk : 1 ≤ o.k ∧ o.k ≤ 10 := ⟨by have := hc.2; omega, hk10.2⟩
    have okv := vGet_ok hok ha.1.1 (by omega)
    have okw := vGet_ok hok ha.2.1.1 (by omega)
    have hg := h.2 i (by omega)
    have hA := partA_ok (num := cn .f32 o.num) hkk hg.1.1 okv okw hs (hg.1.2.trans hgs)
    obtain ⟨a, haa⟩ : ∃ a : Nat, o.a = a := ⟨o.a.toNat, by omega⟩
    obtain ⟨b, hbb⟩ : ∃ b : Nat, o.b = b := ⟨o.b.toNat, by omega⟩
    have hai : a < (valsP os).length := by omega
    have hbi : b < (valsP os).length := by omega
    rw [haa] at hA
    have h1 := h.give hai hA.1 hA.2 (by omega)
    rw [haa, hbb, show ((a : Nat) : Int).toNat = a by simp, show ((b : Nat) : Int).toNat = b by simp]
    rw [hbb] at h1
    by_cases ht : twoB o.k = true
    · rw [if_pos ht, if_pos ht]
      have hB := partB_ok ht hg.1.1 okv okw hs (hg.1.2.trans hgs)
      rw [haa, hbb] at hB
      exact h1.give hbi hB.1 hB.2 (by simp; omega)
    · rw [if_neg ht, if_neg ht]; exact h1
  · rw [if_neg hc, if_neg hc]; exact h
theorem OkG.at {os : List OpP} {S : List Sh} (hS : shapesP os = some S) : ∀ m, m ≤ os.length → OkG (valsP os) (usedM os m) (gradM os (valsP os) m)
  | 0, _ => OkG.init (valsP_ok hS).1 (valsP_ok hS).2 (shapesP_some hS).1.1
  | m + 1, hm => by
    obtain ⟨o, ho⟩ := getElem?_lt (show os.length - 1 - m < os.length by omega)
    have h := OkG.step hS (OkG.at hS m (by omega)) (usedM_length os m) ho
    rw [← opAtP_some ho] at h
    exact h
theorem gradM_next {os : List OpP} {V : List TenP} {n i : Nat} {o : OpP} (hn : n = os.length) (hi : i < n) (ho : os[i]? = some o) : gradM os V (n - i) = stepG V (usedM os (n - (i + 1))) (gradM os V (n - (i + 1))) i o := by
  rw [show n - i = (n - (i + 1)) + 1 by omega, gradM, show os.length - 1 - (n - (i + 1)) = i by omega, opAtP_some ho]
theorem stepG_no {V : List TenP} {U : List Bool} {G : List TenP} {i : Nat} {o : OpP} (h : U.getD i false = false ∨ o.k = 0) : stepG V U G i o = G := by
  unfold stepG; rw [if_neg]; rintro ⟨h1, h2⟩; rcases h with h | h
  · rw [h] at h1; cases h1
  · exact h2 h
theorem stepU_not {U : List Bool} {i : Nat} {o : OpP} (h : U.getD i false = false ∨ o.k = 0) : stepU U i o = U := by
  unfold stepU; rw [if_neg]; rintro ⟨h1, h2⟩; rcases h with h | h
  · rw [h] at h1; cases h1
  · exact h2 h
theorem stepU_one1 {U : List Bool} {i : Nat} {o : OpP} (h : U.getD i false = true) (hk : o.k ≠ 0) (ht : twoB o.k = false) : stepU U i o = U.set o.a.toNat true := by
  unfold stepU; rw [if_pos ⟨h, hk⟩, if_neg (by rw [ht]; decide)]
theorem stepU_two1 {U : List Bool} {i : Nat} {o : OpP} (h : U.getD i false = true) (hk : o.k ≠ 0) (ht : twoB o.k = true) : stepU U i o = (U.set o.a.toNat true).set o.b.toNat true := by
  unfold stepU; rw [if_pos ⟨h, hk⟩, if_pos ht]
theorem usedM_next1 {os : List OpP} {n i : Nat} {o : OpP} (hn : n = os.length) (hi : i < n) (ho : os[i]? = some o) : usedM os (n - i) = stepU (usedM os (n - (i + 1))) i o := by
  rw [show n - i = (n - (i + 1)) + 1 by omega, usedM, show os.length - 1 - (n - (i + 1)) = i by omega, opAtP_some ho]
theorem stepG_one {V : List TenP} {U : List Bool} {G : List TenP} {i : Nat} {o : OpP} (h : U.getD i false = true) (hk : o.k ≠ 0) (ht : twoB o.k = false) : stepG V U G i o = G.set o.a.toNat (giveV (U.getD o.a.toNat false) (vGet G o.a) (partA o.k (vGet G i) (vGet V o.a) (vGet V o.b) (cn .f32 o.num))) := by
  unfold stepG; rw [if_pos ⟨h, hk⟩, if_neg (by rw [ht]; decide)]
theorem stepG_two {V : List TenP} {U : List Bool} {G G1 : List TenP} {i : Nat} {o : OpP} (h : U.getD i false = true) (hk : o.k ≠ 0) (ht : twoB o.k = true) (h1 : G1 = G.set o.a.toNat (giveV (U.getD o.a.toNat false) (vGet G o.a) (partA o.k (vGet G i) (vGet V o.a) (vGet V o.b) (cn .f32 o.num)))) : stepG V U G i o = G1.set o.b.toNat (giveV ((U.set o.a.toNat true).getD o.b.toNat false) (vGet G1 o.b) (partB o.k (vGet G i) (vGet V o.a))) := by
  subst h1
  unfold stepG; rw [if_pos ⟨h, hk⟩, if_pos ht]
end Go.Proofs.YtpadlmidojpbeaaGreat
/- x -/
namespace Go.Proofs.YtpadlmidojpbeaaGreat
open Go Go.RowKit
theorem map_cn_cn (xs : List Nat) : (xs.map (cn .f32)).map (cn .f32) = xs.map (cn .f32) := by
  rw [List.map_map]; exact List.map_congr_left fun x _ => cn_cn .f32 x
theorem fitsB_can (i : Int) (o : OpP) : fitsB i o.can = fitsB i o := by
  unfold fitsB OpP.can zeroB; simp only [cn_cn, List.length_map]
theorem stepSh_can (S : List Sh) (o : OpP) : stepSh S o.can = stepSh S o := by
  unfold stepSh; rw [fitsB_can]; rfl
theorem shapesP_can (os : List OpP) : shapesP (os.map OpP.can) = shapesP os := by
  unfold shapesP shapesN
  rw [List.length_map, ← List.map_take, List.foldlM_map]
  simp only [stepSh_can]
theorem stepV_can (V : List TenP) (o : OpP) : stepV V o.can = stepV V o := by
  unfold stepV OpP.can; simp only [cn_cn, map_cn_cn]
theorem valsP_can (os : List OpP) : valsP (os.map OpP.can) = valsP os := by
  unfold valsP valsN
  rw [List.length_map, ← List.map_take, List.foldl_map]
  simp only [stepV_can]
theorem opAtP_can (os : List OpP) (i : Nat) : opAtP (os.map OpP.can) i = (opAtP os i).can := by
  unfold opAtP
  rw [List.getD_eq_getElem?_getD, List.getD_eq_getElem?_getD, List.getElem?_map]
  cases os[i]? with
  | none => show (⟨0, 0, 0, 0, 0, 0, []⟩ : OpP) = OpP.can ⟨0, 0, 0, 0, 0, 0, []⟩
            unfold OpP.can; rw [show cn .f32 0 = 0 by decide +kernel]; rfl
  | some o => rfl
theorem stepU_can (U : List Bool) (i : Nat) (o : OpP) : stepU U i o.can = stepU U i o := rfl
theorem usedM_can (os : List OpP) (m : Nat) : usedM (os.map OpP.can) m = usedM os m := by
  induction m with
  | zero => rw [usedM, usedM, List.length_map]
  | succ m ih => rw [usedM, usedM, ih, List.length_map, opAtP_can, stepU_can]
theorem stepG_can (V : List TenP) (U : List Bool) (G : List TenP) (i : Nat) (o : OpP) : stepG V U G i o.can = stepG V U G i o := by
  unfold stepG OpP.can; simp only [cn_cn]
theorem gradM_can (os : List OpP) (V : List TenP) (m : Nat) : gradM (os.map OpP.can) V m = gradM os V m := by
  induction m with
  | zero => rw [gradM, gradM, List.length_map]
  | succ m ih => rw [gradM, gradM, ih, usedM_can, List.length_map, opAtP_can, stepG_can]
theorem gradP_can (os : List OpP) : gradP (os.map OpP.can) = gradP os := by
  unfold gradP; rw [valsP_can, List.length_map, gradM_can]
theorem can_toOpP (us : List OpD) : us.map (fun o => o.toOpP.can) = (us.map OpD.toOpP).map OpP.can := by rw [List.map_map]; rfl
/-! the shapes of a model's tape -/
def Fold (ops : List OpP) (S : List Sh) : Prop := ops.foldlM stepSh [] = some S
theorem Fold.snoc {ops : List OpP} {S S' : List Sh} {o : OpP} (h : Fold ops S) (hs : stepSh S o = some S') : Fold (ops ++ [o]) S' := by
  unfold Fold at *
  rw [List.foldlM_append, h]
  simp [List.foldlM, hs]
theorem Fold.len {ops : List OpP} : ∀ {S : List Sh}, Fold ops S → S.length = ops.length := by
  intro S h
  have : ∀ (l : List OpP) (T S : List Sh), l.foldlM stepSh T = some S → S.length = T.length + l.length := by
    intro l
    induction l with
    | nil => intro T S h; rw [List.foldlM_nil] at h; cases h; rfl
    | cons o l ih =>
      intro T S h
      rw [List.foldlM_cons] at h
      obtain ⟨T2, h1, h2⟩ := Option.bind_eq_some_iff.1 h
      have := ih T2 S h2
      have := stepSh_length h1
      rw [List.length_cons]; omega
  have := this ops [] S h
  simpa using this
theorem shGet_old {S : List Sh} {i : Int} (s : Sh) (h0 : 0 ≤ i) (h : i < S.length) : shGet (S ++ [s]) i = shGet S i := by
  unfold shGet
  rw [List.getD_eq_getElem?_getD, List.getD_eq_getElem?_getD, List.getElem?_append_left (by omega)]
theorem shGet_new {S : List Sh} {i : Int} (s : Sh) (h : i = S.length) : shGet (S ++ [s]) i = s := by
  subst h
  unfold shGet
  rw [List.getD_eq_getElem?_getD, show ((S.length : Nat) : Int).toNat = S.length by simp]
  simp
theorem stepSh_in {S : List Sh} {r c : Int} {xs : List Nat} (h : tenB r c xs.length = true) : stepSh S (opIn r c xs) = some (S ++ [(r, c)]) := by
  have hf : fitsB S.length (opIn r c xs) = true := by
    unfold fitsB opIn zeroB; simp [h, inB]
  unfold stepSh
  rw [if_pos hf]
  rfl
theorem stepSh_w {S : List Sh} {k a b : Int} {num : Nat} {s : Sh} (hk : 1 ≤ k ∧ k ≤ 10) (hn : k = 5 ∨ num = 0) (ha : 0 ≤ a ∧ a < S.length) (hb : if twoB k = true then 0 ≤ b ∧ b < S.length else b = 0) (hs : shapeOf k (shGet S a) (shGet S b) = some s) :
    stepSh S (opW k a b num) = some (S ++ [s]) := by
  have hf : fitsB S.length (opW k a b num) = true := by
    unfold fitsB opW zeroB
    have h1 : inB k 0 10 = true := inB_iff.2 (by omega)
    have h2 : inB a 0 (S.length - 1) = true := inB_iff.2 (by omega)
    have h3 : (k == 5 || decide (cn .f32 num = cn .f32 0)) = true := by
      rcases hn with rfl | rfl <;> simp
    have h4 : (if twoB k = true then inB b 0 (S.length - 1) else b == 0) = true := by
      split at hb
      · rename_i e; rw [if_pos e]; exact inB_iff.2 (by omega)
      · rename_i e; rw [if_neg e]; simpa using hb
    simp only [h1, h2, h3, h4, if_neg (show ¬ k = 0 by omega)]
    simp
  unfold stepSh
  rw [if_pos hf, if_neg (show ¬ (opW k a b num).k = 0 from fun e => by have : k = 0 := e; omega)]
  show (shapeOf k (shGet S a) (shGet S b)).map _ = _
  rw [hs]; rfl
structure MOk (s : MS) (r c yr yc : Int) (S : List Sh) : Prop where
  fold : Fold s.ops S
  two : 2 ≤ S.length
  p : 0 ≤ s.p ∧ s.p < S.length
  at_p : shGet S s.p = (r, c)
  at_1 : shGet S 1 = (yr, yc)
  ws : ∀ i ∈ s.ws, 0 ≤ i ∧ i < S.length
theorem len1 (S : List Sh) (s : Sh) : (S ++ [s]).length = S.length + 1 := by simp
theorem MOk.dense {s : MS} {r c yr yc : Int} {S : List Sh} (h : MOk s r c yr yc S) {l : LayP} (hl : layB l = true) (hk : l.k = 0) (hc : c = l.i) : ∃ S', MOk (denseM s l s.ops.length) r l.o yr yc S' := by
  obtain ⟨h1, h2, h3, h4, h5, h6⟩ := layB_iff hl
  rw [hk] at h5 h6
  have e5 : (l.ws.length : Int) = l.o * l.i := h5
  have e6 : (l.bs.length : Int) = l.o := h6
  have hL := h.fold.len
  have f1 := h.fold.snoc (stepSh_in (r := l.o) (c := l.i) (xs := l.ws) (tenB_iff.2 ⟨by omega, by omega, e5⟩))
  have f2 := f1.snoc (stepSh_in (r := 1) (c := l.o) (xs := l.bs) (tenB_iff.2 ⟨by omega, by omega, by omega⟩))
  have f3 := f2.snoc (stepSh_w (k := 7) (a := (s.ops.length : Int)) (b := 0) (num := 0) (s := (l.i, l.o)) (by omega) (.inr rfl) (by simp only [len1]; omega) rfl (by
    rw [shGet_old _ (by omega) (by simp only [len1]; omega), shGet_new (l.o, l.i) (by omega)]; rfl))
  have f4 := f3.snoc (stepSh_w (k := 6) (a := s.p) (b := (s.ops.length : Int) + 2) (num := 0) (s := (r, l.o)) (by omega) (.inr rfl) (by simp only [len1]; have := h.p; omega) (show 0 ≤ (s.ops.length : Int) + 2 ∧ _ by simp only [len1]; omega) (by
    have hp := h.p
    rw [shGet_new (i := (s.ops.length : Int) + 2) (l.i, l.o) (by simp only [len1]; omega), shGet_old (i := s.p) _ hp.1 (by simp only [len1]; omega), shGet_old (i := s.p) _ hp.1 (by simp only [len1]; omega), shGet_old (i := s.p) _ hp.1 (by omega), h.at_p, hc]
    simp [shapeOf]))
  have f5 := f4.snoc (stepSh_w (k := 2) (a := (s.ops.length : Int) + 3) (b := (s.ops.length : Int) + 1) (num := 0) (s := (r, l.o)) (by omega) (.inr rfl) (by simp only [len1]; omega) (show 0 ≤ (s.ops.length : Int) + 1 ∧ _ by simp only [len1]; omega) (by
    rw [shGet_new (r, l.o) (by simp only [len1]; omega), shGet_old _ (by omega) (by simp only [len1]; omega), shGet_old _ (by omega) (by simp only [len1]; omega), shGet_new (1, l.o) (by simp only [len1]; omega)]
    simp [shapeOf]))
  refine ⟨_, f5, by simp only [len1]; omega, by show 0 ≤ (s.ops.length : Int) + 4 ∧ (s.ops.length : Int) + 4 < _; simp only [len1]; omega, shGet_new _ (by show (s.ops.length : Int) + 4 = _; simp only [len1]; omega), ?_, ?_⟩
  · have h2 := h.two
    rw [shGet_old _ (by omega) (by simp only [len1]; omega), shGet_old _ (by omega) (by simp only [len1]; omega), shGet_old _ (by omega) (by simp only [len1]; omega), shGet_old _ (by omega) (by simp only [len1]; omega), shGet_old _ (by omega) (by omega)]
    exact h.at_1
  · intro i hi
    simp only [denseM, List.mem_append, List.mem_singleton] at hi
    simp only [len1]
    rcases hi with (hi | hi) | hi
    · have := h.ws i hi; omega
    · omega
    · omega
theorem MOk.relu {s : MS} {r c yr yc : Int} {S : List Sh} (h : MOk s r c yr yc S) {l : LayP} (hl : layB l = true) (hk : l.k = 1) (hc : c = l.i) : ∃ S', MOk (reluM s s.ops.length) r l.o yr yc S' := by
  obtain ⟨h1, h2, h3, h4, h5, h6⟩ := layB_iff hl
  have e4 : l.i = l.o := by omega
  have hL := h.fold.len
  have hp := h.p; have h2 := h.two
  have f1 := h.fold.snoc (stepSh_w (k := 8) (a := s.p) (b := 0) (num := 0) (s := (r, l.o)) (by omega) (.inr rfl) hp rfl (by rw [h.at_p, hc, e4]; rfl))
  refine ⟨_, f1, by simp only [len1]; omega, by show 0 ≤ (s.ops.length : Int) ∧ (s.ops.length : Int) < _; simp only [len1]; omega, shGet_new _ (by show (s.ops.length : Int) = _; omega), ?_, ?_⟩
  · rw [shGet_old _ (by omega) (by omega)]; exact h.at_1
  · intro i hi
    have := h.ws i hi
    simp only [len1]; omega
theorem MOk.scale {s : MS} {r c yr yc : Int} {S : List Sh} (h : MOk s r c yr yc S) {l : LayP} (hl : layB l = true) (hk : l.k = 2) (hc : c = l.i) : ∃ S', MOk (scaleM s l s.ops.length) r l.o yr yc S' := by
  obtain ⟨h1, h2, h3, h4, h5, h6⟩ := layB_iff hl
  rw [hk] at h5
  have e5 : (l.ws.length : Int) = l.i := h5
  have e4 : l.i = l.o := by omega
  have hL := h.fold.len
  have hp := h.p; have h2 := h.two
  have f1 := h.fold.snoc (stepSh_in (r := 1) (c := l.i) (xs := l.ws) (tenB_iff.2 ⟨by omega, by omega, by omega⟩))
  have f2 := f1.snoc (stepSh_w (k := 4) (a := s.p) (b := (s.ops.length : Int)) (num := 0) (s := (r, l.o)) (by omega) (.inr rfl) (by simp only [len1]; omega) (show 0 ≤ (s.ops.length : Int) ∧ _ by simp only [len1]; omega) (by
    rw [shGet_new (i := (s.ops.length : Int)) (1, l.i) (by omega), shGet_old (i := s.p) _ hp.1 hp.2, h.at_p, hc, e4]
    simp [shapeOf]))
  refine ⟨_, f2, by simp only [len1]; omega, by show 0 ≤ (s.ops.length : Int) + 1 ∧ (s.ops.length : Int) + 1 < _; simp only [len1]; omega, shGet_new _ (by show (s.ops.length : Int) + 1 = _; simp only [len1]; omega), ?_, ?_⟩
  · rw [shGet_old _ (by omega) (by simp only [len1]; omega), shGet_old _ (by omega) (by omega)]; exact h.at_1
  · intro i hi
    simp only [scaleM, List.mem_append, List.mem_singleton] at hi
    simp only [len1]
    rcases hi with hi | hi
    · have := h.ws i hi; omega
    · omega
def wideM (ls : List LayP) (c : Int) (k : Nat) : Int := if k = 0 then c else (layAt ls (k - 1)).o
theorem link_wide {ls : List LayP} (hg : modB ls = true) {c : Int} (hc : c = (layAt ls 0).i) {k : Nat} {l : LayP} (hl : ls[k]? = some l) : wideM ls c k = l.i := by
  unfold modB at hg
  rw [Bool.and_eq_true] at hg
  have hk := (List.getElem?_eq_some_iff.1 hl).1
  have h1 := linkM_mono hg.1 (show k + 1 ≤ ls.length from hk)
  cases k with
  | zero => unfold wideM; rw [if_pos rfl, hc, layAt_some hl]
  | succ k =>
    obtain ⟨p, hp⟩ : ∃ p, ls[k]? = some p := ⟨_, List.getElem?_eq_getElem (by omega)⟩
    have h0 := linkM_mono hg.1 (show k + 1 ≤ ls.length by omega)
    rw [linkM_next h0 hl hp, Bool.and_eq_true, decide_eq_true_eq] at h1
    unfold wideM
    rw [if_neg (by omega), show k + 1 - 1 = k by omega, layAt_some hp, h1.2]
theorem stM_ok {ls : List LayP} {X Y : TenP} (hg : goodM ls X Y = true) {k : Nat} (hk : k ≤ ls.length) {s : MS} (h : stM ls X Y k = some s) : ∃ S, MOk s X.r (wideM ls X.c k) Y.r Y.c S := by
  have hg0 := hg
  unfold goodM at hg
  simp only [Bool.and_eq_true, decide_eq_true_eq] at hg
  obtain ⟨g1, g2, g3, g4, g5, g6⟩ := hg
  induction k generalizing s with
  | zero =>
    rw [stM] at h; cases h
    have f1 : Fold [opIn X.r X.c X.xs] [(X.r, X.c)] := by unfold Fold; rw [List.foldlM_cons, stepSh_in g2]; rfl
    have f2 := f1.snoc (stepSh_in (r := Y.r) (c := Y.c) (xs := Y.xs) g3)
    exact ⟨_, f2, by simp, by simp, rfl, rfl, fun i hi => (nomatch hi)⟩
  | succ k ih =>
    rw [stM] at h
    obtain ⟨s0, h0, h1⟩ := Option.bind_eq_some_iff.1 h
    obtain ⟨l, hl, h2⟩ := Option.bind_eq_some_iff.1 h1
    obtain ⟨S, hS⟩ := ih (by omega) h0
    have hw := link_wide g1 g5 hl
    have hb := modB_lay g1 hl
    have e : wideM ls X.c (k + 1) = l.o := by unfold wideM; rw [if_neg (by omega), show k + 1 - 1 = k by omega, layAt_some hl]
    rw [e]
    unfold stepL at h2
    split at h2
    · cases h2; exact hS.dense hb ‹_› hw
    · split at h2
      · cases h2; exact hS.relu hb ‹_› hw
      · split at h2
        · cases h2; exact hS.scale hb ‹_› hw
        · cases h2
theorem modelP_ok {ls : List LayP} {X Y : TenP} {num : Nat} {C : List OpP} {ws : List Int} (h : modelP ls X Y num = some (C, ws)) :
    ∃ S, shapesP C = some S ∧ shGet S ((C.length - 1 : Nat) : Int) = (1, 1) ∧ ∀ i ∈ ws, 0 ≤ i ∧ i < C.length := by
  unfold modelP at h
  split at h
  · rename_i hg
    obtain ⟨s, hs, e⟩ := Option.map_eq_some_iff.1 h
    cases e
    obtain ⟨S, hS⟩ := stM_ok hg (Nat.le_refl _) hs
    have hg0 := hg
    unfold goodM at hg
    simp only [Bool.and_eq_true, decide_eq_true_eq] at hg
    obtain ⟨g1, g2, g3, g4, g5, g6⟩ := hg
    have hl := modB_len g1
    have hw : wideM ls X.c ls.length = Y.c := by unfold wideM; rw [if_neg (by omega), g6]
    rw [hw, g4] at hS
    have hL := hS.fold.len
    have hp := hS.p; have h2 := hS.two
    have hn := (stM_len hs).1
    have f1 := hS.fold.snoc (stepSh_w (k := 5) (a := 1) (b := 0) (num := 3212836864) (s := (Y.r, Y.c)) (by omega) (.inl rfl) (by omega) rfl (by rw [hS.at_1]; rfl))
    have f2 := f1.snoc (stepSh_w (k := 1) (a := s.p) (b := (s.ops.length : Int)) (num := 0) (s := (Y.r, Y.c)) (by omega) (.inr rfl) (by simp only [len1]; omega) (show 0 ≤ (s.ops.length : Int) ∧ _ by simp only [len1]; omega) (by
      rw [shGet_new (i := (s.ops.length : Int)) (Y.r, Y.c) (by omega), shGet_old (i := s.p) _ hp.1 hp.2, hS.at_p]; simp [shapeOf]))
    have f3 := f2.snoc (stepSh_w (k := 9) (a := (s.ops.length : Int) + 1) (b := 0) (num := 0) (s := (Y.r, Y.c)) (by omega) (.inr rfl) (by simp only [len1]; omega) rfl (by
      rw [shGet_new (Y.r, Y.c) (by simp only [len1]; omega)]; rfl))
    have f4 := f3.snoc (stepSh_w (k := 10) (a := (s.ops.length : Int) + 2) (b := 0) (num := 0) (s := (1, 1)) (by omega) (.inr rfl) (by simp only [len1]; omega) rfl (by
      rw [shGet_new (Y.r, Y.c) (by simp only [len1]; omega)]; rfl))
    have f5 := f4.snoc (stepSh_w (k := 5) (a := (s.ops.length : Int) + 3) (b := 0) (num := num) (s := (1, 1)) (by omega) (.inl rfl) (by simp only [len1]; omega) rfl (by
      rw [shGet_new (1, 1) (by simp only [len1]; omega)]; rfl))
    have hlen : (finM s num).length = s.ops.length + 5 := by unfold finM finN; simp
    have hsh : shapesP (finM s num) = some (S ++ [(Y.r, Y.c)] ++ [(Y.r, Y.c)] ++ [(Y.r, Y.c)] ++ [(1, 1)] ++ [(1, 1)]) := by
      unfold shapesP
      rw [if_pos (by rw [hlen]; omega)]
      unfold shapesN
      rw [List.take_length]
      exact f5
    refine ⟨_, hsh, shGet_new (1, 1) ?_, fun i hi => ?_⟩
    · rw [hlen]; simp only [len1]; omega
    · have := hS.ws i hi
      rw [hlen]; omega
  · cases h
def flatG (G : List TenP) (ws : List Int) : List Nat := ws.flatMap fun i => (vGet G i).xs
def lossP (C : List OpP) : Nat := (vGet (valsP C) ((C.length - 1 : Nat) : Int)).xs.getD 0 0
def learnM (R : Option (List OpP × List Int)) : Option (List Nat × Nat) := R.map fun p => (flatG (gradP p.1) p.2, lossP p.1)
theorem last_one {C : List OpP} {S : List Sh} (hS : shapesP C = some S) (h1 : shGet S ((C.length - 1 : Nat) : Int) = (1, 1)) : (vGet (valsP C) ((C.length - 1 : Nat) : Int)).xs.length = 1 := by
  have hp := shapesP_some hS
  have hv := valsN_ok (Nat.le_refl _) hp.2.1
  have hl : (valsP C).length = C.length := (valsP_ok hS).1
  have hlt : C.length - 1 < (valsP C).length := by omega
  have hok := hv.2 _ (List.getElem_mem hlt)
  rw [vGet_nat hlt]
  have hs : ((valsP C)[C.length - 1]).sh = (1, 1) := by
    have e := hv.1
    rw [← h1, ← e]
    unfold shGet
    rw [List.getD_eq_getElem?_getD, show (((C.length - 1 : Nat) : Int)).toNat = C.length - 1 by omega, List.getElem?_map, show (valsN C C.length)[C.length - 1]? = some ((valsP C)[C.length - 1]) from List.getElem?_eq_getElem hlt]
    rfl
  have h5 := hok.len
  have h6 : ((valsP C)[C.length - 1]).r = 1 := congrArg Prod.fst hs
  have h7 : ((valsP C)[C.length - 1]).c = 1 := congrArg Prod.snd hs
  rw [h6, h7] at h5
  simpa using h5
end Go.Proofs.YtpadlmidojpbeaaGreat
/- x -/
namespace Go.Proofs.YtpadlmidojpbeaaGreat
open Go Go.RowKit
end Go.Proofs.YtpadlmidojpbeaaGreat
/- x -/
namespace Go.Proofs.YtpadlmidojpbeaaGreat
open Go Go.RowKit
theorem left_bound1 {n : Nat} {L R : Int} (h : L = if (n : Int) ≤ R then R - n else -1) (h0 : 0 ≤ L) (h1 : R ≤ 1048576) : n ≤ 1048576 ∧ L ≤ 1048576 := by
  split at h <;> omega
end Go.Proofs.YtpadlmidojpbeaaGreat
/- x -/
namespace Go.Proofs.YtpadlmidojpbeaaGreat
open Go
section
variable {P : Program} {ops : Array Oper} {C : World → Prop} {VC : FuncId → Array Value → Value → Prop}

@[go_sem] def EnterS (P : Program) (w : World) (K : FuncId → Array Value → Prop) : Result Next → Prop
  | .ok (.enter f args) w' => w' = w ∧ K f args
  | _ => False
end
end Go.Proofs.YtpadlmidojpbeaaGreat
/- x -/
namespace Go.Proofs.YtpadlmidojpbeaaGreat
open Go Go.RowKit
end Go.Proofs.YtpadlmidojpbeaaGreat
/- x -/
namespace Go.Proofs.YtpadlmidojpbeaaGreat
open Go Go.RowKit
end Go.Proofs.YtpadlmidojpbeaaGreat
/- x -/
namespace Go.Proofs.YtpadlmidojpbeaaGreat
open Go Go.RowKit
end Go.Proofs.YtpadlmidojpbeaaGreat
/- x -/
namespace Go.Proofs.YtpadlmidojpbeaaGreat
open Go Go.RowKit
end Go.Proofs.YtpadlmidojpbeaaGreat
/- x -/
namespace Go.Proofs.YtpadlmidojpbeaaGreat
open Go Go.RowKit
end Go.Proofs.YtpadlmidojpbeaaGreat
/- x -/
namespace Go.Proofs.YtpadlmidojpbeaaGreat
open Go Go.RowKit
theorem below_dr1 {w w' : World} (hb : Below w.drew.heap.size w.drew w') : Below w.heap.size w w' := bthen (Below.drew (Below.refl _ _)) hb
theorem T_toD (w : World) (r c : Int) (ad : Option Addr) (cap : Nat) (xs : List Nat) (h : F32s w ad cap xs) (hn : xs.length ≤ 1048576) :
    Calls Tryz.prog 10 #[.agg #[.int .i64 r, .int .i64 c, .slice ad xs.length cap]] w.drew fun e w' => ∃ ad' cap', e = .returned (.agg #[.int .i64 r, .int .i64 c, .slice ad' xs.length cap']) ∧ Hid (RepF w' w.heap.size w'.heap.size ad' xs.length cap' xs) ∧ Below w.heap.size w w' := by
  refine (T_to w.drew r c ad cap xs (h.below (Below.drew (Below.refl _ _))) hn).mono ?_
  rintro e w' ⟨a, c, h1, h3, h4⟩
  exact ⟨a, c, h1, h3, below_dr1 h4⟩
end Go.Proofs.YtpadlmidojpbeaaGreat
/- x -/
namespace Go.Proofs.YtpadlmidojpbeaaGreat
open Go Go.RowKit
theorem ten_own {w : World} {lo hi n cap : Nat} {ad : Option Addr} {us : List Ten} (h : OwnR tenR w lo hi ad n cap us) {k : Nat} {t : Ten} (hk : us[k]? = some t) : ∃ g, ad = some ⟨g, 0, none⟩ ∧ (lo ≤ g ∧ g < hi ∧ g < w.heap.size) ∧
    (w.cell? ⟨g, k * 3, none⟩ = some (.int .i64 t.r) ∧ w.cell? ⟨g, k * 3 + 1, none⟩ = some (.int .i64 t.c) ∧ w.cell? ⟨g, k * 3 + 2, none⟩ = some (.slice t.ad t.xs.length t.cap)) ∧
    (∀ j, w.frozen? ⟨g, j, none⟩ = false) ∧ RepF w lo hi t.ad t.xs.length t.cap t.xs := by
  obtain ⟨g, e, hr, hc, hf⟩ := h.spot hk (by decide)
  have hm := List.mem_of_getElem? hk
  refine ⟨g, e, hr, ⟨hc 0 (by decide), hc 1 (by decide), hc 2 (by decide)⟩, hf, h.own.repF (List.mem_cons_of_mem _ (List.mem_flatMap.2 ⟨t, hm, List.mem_singleton.2 rfl⟩)) (h.ok t hm)⟩
end Go.Proofs.YtpadlmidojpbeaaGreat
/- x -/
namespace Go.Proofs.YtpadlmidojpbeaaGreat
open Go Go.RowKit
def tenAtD (us : List Ten) (i : Int) : Ten := us.getD i.toNat ⟨⟨0, 0, []⟩, none, 0⟩
def flatT (us : List Ten) (ws : List Int) : List Nat := ws.flatMap fun i => (tenAtD us i).xs
theorem flatT_snoc (us : List Ten) (ws : List Int) (i : Int) : flatT us (ws ++ [i]) = flatT us ws ++ (tenAtD us i).xs := by unfold flatT; rw [List.flatMap_append]; simp
theorem flatT_can {us : List Ten} {G : List TenP} (h : us.map (fun t => t.toTenP.can) = G) (ws : List Int) : (flatT us ws).map (cn .f32) = flatG G ws := by
  subst h
  unfold flatT flatG
  rw [List.map_flatMap]
  congr 1
  funext i
  unfold vGet tenAtD
  rw [List.getD_eq_getElem?_getD, List.getD_eq_getElem?_getD, List.getElem?_map]
  cases us[i.toNat]? <;> rfl
theorem flatT_okF {us : List Ten} (hx : ∀ t ∈ us, okF t.xs) (ws : List Int) : okF (flatT us ws) := by
  intro x hm
  obtain ⟨i, _, h⟩ := List.mem_flatMap.1 hm
  unfold tenAtD at h
  rw [List.getD_eq_getElem?_getD] at h
  cases e : us[i.toNat]? with
  | none => rw [e] at h; exact (nomatch h)
  | some t => rw [e] at h; exact hx t (List.mem_of_getElem? e) x h
theorem ints_at {w : World} {ad : Option Addr} {cap : Nat} {xs : List Int} (h : Ints .i64 w ad cap xs) {k : Nat} {i : Int} (hk : xs[k]? = some i) : ∃ b off, ad = some ⟨b, off, none⟩ ∧ b < w.heap.size ∧ w.cell? ⟨b, off + k, none⟩ = some (.int .i64 i) := by
  have hlt := (List.getElem?_eq_some_iff.1 hk).1
  rcases h.rd with h1 | ⟨b, off, e, hb, hc⟩
  · have : xs = [] := by simpa using h1
    subst this; exact absurd hlt (Nat.not_lt_zero _)
  · refine ⟨b, off, e, hb, ?_⟩
    rw [hc k (by simpa using hlt), List.getElem?_map, hk]; rfl
set_option maxHeartbeats 8000000 in
set_option maxRecDepth 100000 in
theorem spec_l04Flat (w : World) (al wa : Option Addr) (cl wk : Nat) (us : List Ten) (ws : List Int) {lo hi n : Nat} (hl : OwnR tenR w lo hi al n cl us) (hw : Ints .i64 w wa wk ws) (hix : ∀ i ∈ ws, 0 ≤ i ∧ i < n) (hn : n ≤ 48) (hx : ∀ t ∈ us, t.xs.length ≤ 256) (hm : ws.length ≤ 12) :
    Calls Tryz.prog 85 #[.slice al n cl, .slice wa ws.length wk] w fun e w' => ∃ ad cap, e = .returned (.slice ad (flatT us ws).length cap) ∧ Hid (RepF w' w.heap.size w'.heap.size ad (flatT us ws).length cap (flatT us ws)) ∧ Below w.heap.size w w' := by
  obtain ⟨i0, hi0, hz0, hz1, hz2⟩ := info_parts info_f32
  have HL := Lib.hid hl; have HW := Lib.hid hw; have HIX := Lib.hid hix; have HXL := Lib.hid hx
  obtain ⟨m, hM⟩ : ∃ m, m = ws.length := ⟨_, rfl⟩
  rw [← hM] at hm ⊢
  have HM := Lib.hid hM
  clear hl hw hix hx hM
  go_enter Tryz.func85, Tryz.ntmps85
  go_wp2
  go_loopw [5, 6] (fun v i wt => ∃ k nk : Nat, i = .int .i64 k ∧ k ≤ m ∧ nk ≤ 256 * k ∧ Hid (wt.ownsRow w.heap.size 28 1 v nk ((flatT us (ws.take k)).map (Value.float .f32)) ∧ nk = (flatT us (ws.take k)).length) ∧ Hid (Below w.heap.size w wt)) (fun v i wt => m - (intOf i).toNat)
  case atStart => exact ⟨0, 0, rfl, Nat.zero_le _, by omega, Lib.hid ⟨World.ownsRow_made _ _ _ (Nat.le_refl _) (Nat.zero_le _) rfl, rfl⟩, Lib.hid (below1 _ _)⟩
  case round =>
    obtain ⟨k, nk, rfl, hk, hnk, HO, HB⟩ := hrel
    by_cases hlt : k < m
    · obtain ⟨i, hi⟩ := getElem?_lt (show k < ws.length by rw [← HM.out]; exact hlt)
      have hix := HIX.out i (List.mem_of_getElem? hi)
      obtain ⟨j, rfl⟩ : ∃ j : Nat, i = j := ⟨i.toNat, by omega⟩
      have hjn : j < n := by omega
      obtain ⟨t, ht⟩ := getElem?_lt (show j < us.length by rw [HL.out.len]; exact hjn)
      obtain ⟨wb, wo, hwa, hwb, hwc⟩ := ints_at (HW.out.below HB.out) hi
      obtain ⟨g, hal, hg, ⟨-, -, hc2⟩, -, hrt⟩ := ten_own (HL.out.below HB.out) ht
      have hr := hrt.arg
      have HRD := Lib.hid hr.rd; have HNC := Lib.hid hrt.nilcap
      have hlen := HXL.out t (List.mem_of_getElem? ht)
      have HT := Lib.hid (show flatT us (ws.take (k + 1)) = flatT us (ws.take k) ++ t.xs by
        rw [List.take_add_one, hi]
        show flatT us (ws.take k ++ [(j : Int)]) = _
        rw [flatT_snoc]
        congr 1
        unfold tenAtD
        rw [List.getD_eq_getElem?_getD, show ((j : Nat) : Int).toNat = j by simp, ht]; rfl)
      obtain ⟨q, hq⟩ : ∃ q, q = t.xs.length := ⟨_, rfl⟩
      rw [← hq] at hc2 hlen
      have HQ := Lib.hid hq
      have h1 : ∀ u ∈ t.xs.map (Value.float .f32), u.oneCell' = true := by intro u hu; obtain ⟨x, _, rfl⟩ := List.mem_map.1 hu; rfl
      have H1 := Lib.hid h1
      have HOW := Lib.hid HO.out.1; have HNK := Lib.hid HO.out.2
      have hbs := HB.out.size
      subst hwa hal
      clear hix hg hrt hr hi ht hq h1 HO
      go_wp2_with (at_builtin; refine wp_cat rfl _ _ 25 rfl w.heap.size i0 (.float .f32 0) 4 Tryz.underlying25 hi0 hz0 hz1 hz2 rfl _ nk _ rfl HOW.out t.ad q t.cap (t.xs.map (Value.float .f32)) rfl HNC.out (by rw [List.length_map, HQ.out]) HRD.out H1.out ?c3 ?c4 ?c5 ?_)
      case c3 => unfold maxLen; omega
      case c4 => omega
      case c5 => exact hbs
      intro v' w9 hown1 hb1 hbs1
      have HOW2 := Lib.hid hown1; have HB2 := Lib.hid (HB.out.trans hb1)
      clear hown1 hb1 hwc hc2 HRD HNC
      go_wp2
      refine ⟨?rel, ?measure⟩
      case rel => exact ⟨k + 1, nk + q, by go_num, hlt, by omega, Lib.hid ⟨by rw [HT.out, List.map_append]; exact HOW2.out, by rw [HT.out, List.length_append, HNK.out, HQ.out]⟩, HB2⟩
      case measure => simp [intOf]; omega
    · have e : k = m := by omega
      subst e
      have e2 : ws.take k = ws := by rw [HM.out]; exact List.take_length
      rw [e2] at HO
      go_wp2
      go_ret
      obtain ⟨ad, cap, rfl, hr⟩ := RepF.of_owns HO.out.1 (flatT_okF (fun t ht => HL.out.ok t ht) ws)
      have e3 := HO.out.2
      subst e3
      exact ⟨ad, cap, rfl, Lib.hid hr, HB.out⟩
end Go.Proofs.YtpadlmidojpbeaaGreat
/- x -/
namespace Go.Proofs.YtpadlmidojpbeaaGreat
open Go Go.RowKit
end Go.Proofs.YtpadlmidojpbeaaGreat
/- x -/
namespace Go.Proofs.YtpadlmidojpbeaaGreat
open Go Go.RowKit
set_option maxHeartbeats 16000000 in
set_option maxRecDepth 100000 in
theorem spec_l04Model_noB (w : World) (mb mo xb xo yb yo : Nat) (ma : Option Addr) (mk : Nat) (ls : List LayD) (xr xc yr yc : Int) (xa ya : Option Addr) (xk yk : Nat) (xs ys : List Nat) (num : Nat) (hnum : num < 4294967296)
    (hm : w.cell? ⟨mb, mo, none⟩ = some (.slice ma ls.length mk)) (hls : SeeR layR w ma mk ls)
    (hx0 : w.cell? ⟨xb, xo, none⟩ = some (.int .i64 xr)) (hx1 : w.cell? ⟨xb, xo + 1, none⟩ = some (.int .i64 xc)) (hx2 : w.cell? ⟨xb, xo + 2, none⟩ = some (.slice xa xs.length xk)) (hx : F32s w xa xk xs)
    (hy0 : w.cell? ⟨yb, yo, none⟩ = some (.int .i64 yr)) (hy1 : w.cell? ⟨yb, yo + 1, none⟩ = some (.int .i64 yc)) (hy2 : w.cell? ⟨yb, yo + 2, none⟩ = some (.slice ya ys.length yk)) (hy : F32s w ya yk ys) (hxy : xb ≠ yb) (hA : (modB (ls.map LayD.toLayP) && (tenB xr xc xs.length && (tenB yr yc ys.length && decide (xr = yr)))) = true) (hB : (decide (xc = (layAt (ls.map LayD.toLayP) 0).i) && decide (yc = (layAt (ls.map LayD.toLayP) (ls.length - 1)).o)) = false) :
    Calls Tryz.prog 83 #[.pointer (some ⟨mb, mo, none⟩), .pointer (some ⟨xb, xo, none⟩), .pointer (some ⟨yb, yo, none⟩), .float .f32 num] w (ModOut (modelP (ls.map fun l => l.toLayP.can) ⟨xr, xc, xs.map (cn .f32)⟩ ⟨yr, yc, ys.map (cn .f32)⟩ (cn .f32 num)) w) := by
  obtain ⟨i0, hi0, hz0, hzs, hz2⟩ := info_parts info_op
  obtain ⟨j0, hj0, jz0, jzs, jz2⟩ := info_parts info_i64
  obtain ⟨R, hR⟩ : ∃ R, R = modelP (ls.map fun l => l.toLayP.can) ⟨xr, xc, xs.map (cn .f32)⟩ ⟨yr, yc, ys.map (cn .f32)⟩ (cn .f32 num) := ⟨_, rfl⟩
  rw [← hR]
  have HR := Lib.hid hR
  have hgood : goodM (ls.map fun l => l.toLayP.can) ⟨xr, xc, xs.map (cn .f32)⟩ ⟨yr, yc, ys.map (cn .f32)⟩ = (modB (ls.map LayD.toLayP) && (tenB xr xc xs.length && (tenB yr yc ys.length && (decide (xr = yr) && (decide (xc = (layAt (ls.map LayD.toLayP) 0).i) && decide (yc = (layAt (ls.map LayD.toLayP) (ls.length - 1)).o)))))) := by
    have e : (ls.map fun l => l.toLayP.can) = (ls.map LayD.toLayP).map LayP.can := by rw [List.map_map]; rfl
    unfold goodM
    rw [e, modB_can, (layAt_can _ _).1, (layAt_can _ _).2]
    simp only [List.length_map]
  have HG := Lib.hid hgood
  clear hR hgood
  obtain ⟨n, hN⟩ : ∃ n, n = xs.length := ⟨_, rfl⟩
  obtain ⟨m, hM⟩ : ∃ m, m = ys.length := ⟨_, rfl⟩
  obtain ⟨L, hL⟩ : ∃ L, L = ls.length := ⟨_, rfl⟩
  rw [← hN] at hx2 HG
  rw [← hM] at hy2 HG
  rw [← hL] at hm HG
  have HN := Lib.hid hN; have HM := Lib.hid hM; have HL := Lib.hid hL
  have hnm := Nat.le_trans hx.len hx.cap
  have hmm := Nat.le_trans hy.len hy.cap
  rw [← hN] at hnm
  rw [← hM] at hmm
  have HLS := Lib.hid hls; have HX := Lib.hid hx; have HY := Lib.hid hy
  have CW : Hid (∀ W, Below w.heap.size w W → W.cell? ⟨mb, mo, none⟩ = some (.slice ma L mk) ∧ (W.cell? ⟨xb, xo, none⟩ = some (.int .i64 xr) ∧ W.cell? ⟨xb, xo + 1, none⟩ = some (.int .i64 xc) ∧ W.cell? ⟨xb, xo + 2, none⟩ = some (.slice xa n xk)) ∧ W.cell? ⟨yb, yo, none⟩ = some (.int .i64 yr) ∧ W.cell? ⟨yb, yo + 1, none⟩ = some (.int .i64 yc) ∧ W.cell? ⟨yb, yo + 2, none⟩ = some (.slice ya m yk)) := Lib.hid (fun W hb => by
    have f : ∀ {p : Addr} {v : Value}, w.cell? p = some v → W.cell? p = some v := fun h => (hb.cell (World.block_lt_of_cell? _ _ h)).trans h
    exact ⟨f hm, ⟨f hx0, f hx1, f hx2⟩, f hy0, f hy1, f hy2⟩)
  have KM := Lib.hid (fun W (hb : Below w.heap.size w W) => spec_l03Is W mb mo ma mk ls (HLS.out.below hb) (by rw [← HL.out]; exact (CW.out W hb).1))
  have KX := Lib.hid (fun W (hb : Below w.heap.size w W) => spec_l02Is W xb xo xr xc xa n xk hnm (CW.out W hb).2.1.1 (CW.out W hb).2.1.2.1 (CW.out W hb).2.1.2.2)
  have KY := Lib.hid (fun W (hb : Below w.heap.size w W) => spec_l02Is W yb yo yr yc ya m yk hmm (CW.out W hb).2.2.1 (CW.out W hb).2.2.2.1 (CW.out W hb).2.2.2.2)
  have hpxy : (.pointer (some ⟨xb, xo, none⟩) : Value) ≠ .pointer (some ⟨yb, yo, none⟩) := by intro e; injection e with e; injection e with e; injection e with e; exact hxy e
  have HPXY := Lib.hid hpxy
  clear hm hls hx0 hx1 hx2 hx hy0 hy1 hy2 hy hN hM hL hxy hnm hmm hpxy
  have hts := TN.start w
  have HT := Lib.hid hts
  clear hts
  obtain ⟨v1, hv1⟩ : ∃ W, W = (w.alloc (.cells #[] 74)).alloc (.cells #[] 2) := ⟨_, rfl⟩
  rw [← hv1] at HT
  have HV1 := Lib.hid hv1
  clear hv1
  have VN : Hid (∀ b1 b2 b3, VM b1 b2 b3 (.pointer (some ⟨xb, xo, none⟩)) (.pointer (some ⟨yb, yo, none⟩)) 53 #[.pointer (some ⟨mb, mo, none⟩)] (.bool b1) ∧ VM b1 b2 b3 (.pointer (some ⟨xb, xo, none⟩)) (.pointer (some ⟨yb, yo, none⟩)) 54 #[.pointer (some ⟨xb, xo, none⟩)] (.bool b2) ∧ VM b1 b2 b3 (.pointer (some ⟨xb, xo, none⟩)) (.pointer (some ⟨yb, yo, none⟩)) 54 #[.pointer (some ⟨yb, yo, none⟩)] (.bool b3)) := Lib.hid (fun b1 b2 b3 => ⟨⟨fun _ => rfl, fun e => absurd e (by decide)⟩, ⟨fun e => absurd e (by decide), fun _ => ⟨fun _ => rfl, fun e => by injection e with e; injection e with e; exact absurd e HPXY.out⟩⟩, ⟨fun e => absurd e (by decide), fun _ => ⟨fun e => by injection e with e; injection e with e; exact absurd e.symm HPXY.out, fun _ => rfl⟩⟩⟩)
  rw [← HN.out, ← HM.out] at hA
  rw [← HL.out] at hB
  simp only [Bool.and_eq_true, decide_eq_true_eq] at hA
  obtain ⟨e1, e2, e3, e4⟩ := hA
  rw [e1] at KM
  rw [e2] at KX
  rw [e3] at KY
  subst e4
  have hln := modB_len e1
  rw [List.length_map, ← HL.out] at hln
  obtain ⟨l0, hl0⟩ := getElem?_lt (show 0 < ls.length by rw [← HL.out]; omega)
  obtain ⟨q, hq⟩ : ∃ q, q = L - 1 := ⟨_, rfl⟩
  obtain ⟨lq, hlq⟩ := getElem?_lt (show q < ls.length by rw [← HL.out]; omega)
  have a0 : (layAt (ls.map LayD.toLayP) 0).i = l0.i := by rw [layAt_some (l := l0.toLayP) (by rw [List.getElem?_map, hl0]; rfl)]
  have aq : (layAt (ls.map LayD.toLayP) (L - 1)).o = lq.o := by rw [← hq, layAt_some (l := lq.toLayP) (by rw [List.getElem?_map, hlq]; rfl)]
  rw [a0, aq] at HG hB
  obtain ⟨lb, loff, hma, hlbl, ⟨-, c01, -, -, -⟩, -, -⟩ := lay_spot HLS.out hl0
  obtain ⟨lb2, loff2, hma2, -, ⟨-, -, cq2, -, -⟩, -, -⟩ := lay_spot HLS.out hlq
  rw [hma] at hma2; cases hma2
  subst hma
  obtain ⟨li, hli⟩ : ∃ x, x = l0.i := ⟨_, rfl⟩
  obtain ⟨lo, hlo⟩ : ∃ x, x = lq.o := ⟨_, rfl⟩
  rw [← hli] at c01 HG hB
  rw [← hlo] at cq2 HG hB
  have hq0 : (0 : Int) ≤ (q : Int) := by omega
  have hqL : (q : Int) < (L : Int) := by omega
  have hqn : q < L := by omega
  have hL0 : 0 < L := by omega
  have hwq : IntKind.i64.wrap ((L : Int) - 1) = (q : Int) := by rw [IntKind.wrap_i64]; omega
  have CL : Hid (∀ W, Below w.heap.size w W → W.cell? ⟨lb, loff + 1, none⟩ = some (.int .i64 li) ∧ W.cell? ⟨lb, loff + q * 5 + 2, none⟩ = some (.int .i64 lo)) := Lib.hid (fun W hb => ⟨(hb.cell (p := ⟨lb, loff + 1, none⟩) hlbl).trans (by simpa using c01), (hb.cell (p := ⟨lb, loff + q * 5 + 2, none⟩) hlbl).trans cq2⟩)
  have HLN := Lib.hid hln; have HQ := Lib.hid hq
  clear c01 cq2 a0 aq hl0 hlq hli hlo hlbl hln hq
  obtain ⟨z1, z2⟩ := CL.out v1 HT.out.below
  by_cases e5 : xc = li
  rotate_left
  · have f1 : (xc != li) = true := by simpa using e5
    have f2 : (xc == li) = false := by simpa using e5
    have HRN : Hid (R = none) := Lib.hid (by rw [HR.out]; exact modelP_no (by rw [HG.out]; simp [e5]))
    clear e1 e2 e3 e5
    obtain ⟨hc0, ⟨hc1, hc2, hc3⟩, hc4, hc5, hc6⟩ := CW.out v1 HT.out.below
    try clear CL
    try clear HLN
    try clear HQ
    clear HG HR HLS HX HY HN HM HL CW HPXY hi0 hz0 hzs hz2 hj0 jz0 jzs jz2
    go_enter Tryz.func83, Tryz.ntmps83
    go_upto_region 3 with fail
    rw [← HV1.out]
    refine wp_region_drawn (VM true true true (.pointer (some ⟨xb, xo, none⟩)) (.pointer (some ⟨yb, yo, none⟩))) (by kernel_rfl) (by kernel_rfl) ?_

    iterate 1 (first | (refine wset_skip (by rfl) (fun K hK => ?_); go_simp; refine hK _ ?_; clear hK K) | (refine wset_yes (by rfl) (fun K hK nq => ?_); go_simp; refine hK _ ?_; clear hK K))
    refine wset_yes (by rfl) (fun K hK nq => ?_)
    go_simp
    refine ⟨(KM.out _ (HT.out.move (below_drewN (Below.refl _ _) nq)).below).mono ?_, ?_⟩
    · rintro e w' ⟨rfl, hd⟩
      exact ⟨_, rfl, drawn_more hd, (VN.out true true true).1⟩
    rintro v hv
    obtain rfl := hv.1 rfl
    refine hK _ ?_
    clear hK K hv
    iterate 3 (first | (refine wset_skip (by rfl) (fun K hK => ?_); go_simp; refine hK _ ?_; clear hK K) | (refine wset_yes (by rfl) (fun K hK nq => ?_); go_simp; refine hK _ ?_; clear hK K))
    refine wset_yes (by rfl) (fun K hK nq => ?_)
    go_simp
    refine ⟨(KX.out _ (HT.out.move (below_drewN (Below.refl _ _) nq)).below).mono ?_, ?_⟩
    · rintro e w' ⟨rfl, hd⟩
      exact ⟨_, rfl, drawn_more hd, (VN.out true true true).2.1⟩
    rintro v hv
    obtain rfl := (hv.2 rfl).1 rfl
    refine hK _ ?_
    clear hK K hv
    iterate 4 (first | (refine wset_skip (by rfl) (fun K hK => ?_); go_simp; refine hK _ ?_; clear hK K) | (refine wset_yes (by rfl) (fun K hK nq => ?_); go_simp; refine hK _ ?_; clear hK K))
    refine wset_yes (by rfl) (fun K hK nq => ?_)
    go_simp
    refine ⟨(KY.out _ (HT.out.move (below_drewN (Below.refl _ _) nq)).below).mono ?_, ?_⟩
    · rintro e w' ⟨rfl, hd⟩
      exact ⟨_, rfl, drawn_more hd, (VN.out true true true).2.2⟩
    rintro v hv
    obtain rfl := (hv.2 rfl).2 rfl
    refine hK _ ?_
    clear hK K hv
    iterate 47 (first | (refine wset_skip (by rfl) (fun K hK => ?_); go_simp; refine hK _ ?_; clear hK K) | (refine wset_yes (by rfl) (fun K hK nq => ?_); go_simp; refine hK _ ?_; clear hK K))
    refine wset_nil ?_
    rintro w' ⟨q, rfl⟩
    have HT1 := Lib.hid (HT.out.move (below_drewN (Below.refl _ _) q))
    clear hc0 hc1 hc2 hc3 hc4 hc5 hc6 HT HV1 KM KX KY VN
    generalize v1.drewN q = v2 at HT1 ⊢
    go_wp2
    go_ret3
    exact ⟨_, _, _, _, _, _, false, rfl, Lib.hid ⟨by rw [HRN.out]; rfl, fun h => by cases h⟩, HT1.out.below⟩
  subst e5
  rw [decide_eq_true rfl, Bool.true_and] at hB
  by_cases e6 : yc = lo
  rotate_left
  · have f1 : (yc != lo) = true := by simpa using e6
    have f2 : (yc == lo) = false := by simpa using e6
    have HRN : Hid (R = none) := Lib.hid (by rw [HR.out]; exact modelP_no (by rw [HG.out]; simp [e6]))
    clear e1 e2 e3 e6
    obtain ⟨hc0, ⟨hc1, hc2, hc3⟩, hc4, hc5, hc6⟩ := CW.out v1 HT.out.below
    try clear CL
    try clear HLN
    try clear HQ
    clear HG HR HLS HX HY HN HM HL CW HPXY hi0 hz0 hzs hz2 hj0 jz0 jzs jz2
    go_enter Tryz.func83, Tryz.ntmps83
    go_upto_region 3 with fail
    rw [← HV1.out]
    refine wp_region_drawn (VM true true true (.pointer (some ⟨xb, xo, none⟩)) (.pointer (some ⟨yb, yo, none⟩))) (by kernel_rfl) (by kernel_rfl) ?_

    iterate 1 (first | (refine wset_skip (by rfl) (fun K hK => ?_); go_simp; refine hK _ ?_; clear hK K) | (refine wset_yes (by rfl) (fun K hK nq => ?_); go_simp; refine hK _ ?_; clear hK K))
    refine wset_yes (by rfl) (fun K hK nq => ?_)
    go_simp
    refine ⟨(KM.out _ (HT.out.move (below_drewN (Below.refl _ _) nq)).below).mono ?_, ?_⟩
    · rintro e w' ⟨rfl, hd⟩
      exact ⟨_, rfl, drawn_more hd, (VN.out true true true).1⟩
    rintro v hv
    obtain rfl := hv.1 rfl
    refine hK _ ?_
    clear hK K hv
    iterate 3 (first | (refine wset_skip (by rfl) (fun K hK => ?_); go_simp; refine hK _ ?_; clear hK K) | (refine wset_yes (by rfl) (fun K hK nq => ?_); go_simp; refine hK _ ?_; clear hK K))
    refine wset_yes (by rfl) (fun K hK nq => ?_)
    go_simp
    refine ⟨(KX.out _ (HT.out.move (below_drewN (Below.refl _ _) nq)).below).mono ?_, ?_⟩
    · rintro e w' ⟨rfl, hd⟩
      exact ⟨_, rfl, drawn_more hd, (VN.out true true true).2.1⟩
    rintro v hv
    obtain rfl := (hv.2 rfl).1 rfl
    refine hK _ ?_
    clear hK K hv
    iterate 4 (first | (refine wset_skip (by rfl) (fun K hK => ?_); go_simp; refine hK _ ?_; clear hK K) | (refine wset_yes (by rfl) (fun K hK nq => ?_); go_simp; refine hK _ ?_; clear hK K))
    refine wset_yes (by rfl) (fun K hK nq => ?_)
    go_simp
    refine ⟨(KY.out _ (HT.out.move (below_drewN (Below.refl _ _) nq)).below).mono ?_, ?_⟩
    · rintro e w' ⟨rfl, hd⟩
      exact ⟨_, rfl, drawn_more hd, (VN.out true true true).2.2⟩
    rintro v hv
    obtain rfl := (hv.2 rfl).2 rfl
    refine hK _ ?_
    clear hK K hv
    iterate 47 (first | (refine wset_skip (by rfl) (fun K hK => ?_); go_simp; refine hK _ ?_; clear hK K) | (refine wset_yes (by rfl) (fun K hK nq => ?_); go_simp; refine hK _ ?_; clear hK K))
    refine wset_nil ?_
    rintro w' ⟨q, rfl⟩
    have HT1 := Lib.hid (HT.out.move (below_drewN (Below.refl _ _) q))
    clear hc0 hc1 hc2 hc3 hc4 hc5 hc6 HT HV1 KM KX KY VN
    generalize v1.drewN q = v2 at HT1 ⊢
    go_wp2
    go_ret3
    exact ⟨_, _, _, _, _, _, false, rfl, Lib.hid ⟨by rw [HRN.out]; rfl, fun h => by cases h⟩, HT1.out.below⟩
  rw [decide_eq_true e6] at hB
  cases hB
end Go.Proofs.YtpadlmidojpbeaaGreat
