/- Joined texts 4: Tp5 Tu0 Tu1 App Tp2 Tu2 Tp4. Each is told at its own head. No condition. -/
import Derived.Maps.AppendAt
import Derived.Deep.CutRange
import Derived.Deep.CutBlock
import Derived.Deep.DeepCutAuto
import Derived.Deep.RegionHeld3
import Derived.Test.YtpemhiaeiecinaaMc1
import Derived.Test.YtpemhiaeiecinaaMc3
/- Bounds of the shapes of a tape. No condition. -/
namespace Go.Proofs.Ytpemhiaeiecinaa
open Go Go.RowKit
set_option linter.unusedVariables false
set_option linter.unusedSimpArgs false
def sideP (s : Sh) : Prop := (1 ≤ s.1 ∧ s.1 ≤ 16) ∧ (1 ≤ s.2 ∧ s.2 ≤ 16)
theorem shGet_mem {S : List Sh} {i : Int} (h0 : 0 ≤ i) (h1 : i ≤ S.length - 1) : shGet S i ∈ S := by
  have hl : i.toNat < S.length := by omega
  unfold shGet
  rw [List.getD_eq_getElem?_getD, List.getElem?_eq_getElem hl]
  exact List.getElem_mem hl
theorem shapeOf_side {k : Int} {v w s : Sh} (hv : sideP v) (hw : sideP w) (h : shapeOf k v w = some s) : sideP s := by
  unfold shapeOf at h
  unfold sideP at hv hw ⊢
  split at h
  · split at h
    · cases h; exact hv
    · cases h
  · split at h
    · split at h
      · cases h; exact hv
      · cases h
    · split at h
      · split at h
        · cases h; exact ⟨hv.1, hw.2⟩
        · cases h
      · split at h
        · cases h; exact ⟨hv.2, hv.1⟩
        · split at h
          · cases h; exact ⟨⟨by decide, by decide⟩, ⟨by decide, by decide⟩⟩
          · cases h; exact hv
theorem stepSh_side {S S' : List Sh} {o : OpP} (hS : ∀ s ∈ S, sideP s) (h : stepSh S o = some S') : ∀ s ∈ S', sideP s := by
  unfold stepSh at h
  split at h
  · rename_i hf
    by_cases hk : o.k = 0
    · rw [if_pos hk] at h
      cases h
      intro s hs
      rcases List.mem_append.1 hs with hs | hs
      · exact hS s hs
      · have e : s = (o.r, o.c) := by simpa using hs
        subst e
        have := tenB_iff.1 (fitsB_input hf hk).2.2
        exact ⟨this.1, this.2.1⟩
    · rw [if_neg hk] at h
      have ha := fitsB_args hf hk
      cases e : shapeOf o.k (shGet S o.a) (shGet S o.b) with
      | none => rw [e] at h; cases h
      | some t =>
        rw [e] at h
        cases h
        intro s hs
        rcases List.mem_append.1 hs with hs | hs
        · exact hS s hs
        · have e2 : s = t := by simpa using hs
          subst e2
          exact shapeOf_side (hS _ (shGet_mem ha.1.1 ha.1.2)) (hS _ (shGet_mem ha.2.1.1 ha.2.1.2)) e
  · cases h
theorem shapesN_side {os : List OpP} {k : Nat} {S : List Sh} (hk : k ≤ os.length) (h : shapesN os k = some S) : ∀ s ∈ S, sideP s := by
  induction k generalizing S with
  | zero => unfold shapesN at h; simp at h; subst h; intro s hs; cases hs
  | succ k ih =>
    obtain ⟨o, ho⟩ := getElem?_lt (show k < os.length by omega)
    rw [shapesN_succ ho] at h
    cases e : shapesN os k with
    | none => rw [e] at h; cases h
    | some S0 => rw [e] at h; exact stepSh_side (ih (by omega) e) h
theorem shapesP_some {os : List OpP} {S : List Sh} (h : shapesP os = some S) : (1 ≤ os.length ∧ os.length ≤ 48) ∧ shapesN os os.length = some S ∧ S.length = os.length ∧ ∀ s ∈ S, sideP s := by
  unfold shapesP at h
  split at h
  · rename_i hl
    exact ⟨hl, h, shapesN_length (Nat.le_refl _) h, shapesN_side (Nat.le_refl _) h⟩
  · cases h
/-- the rows of shapes that a valid tape has -/
def shRows (os : List OpP) : List (List Int) := match shapesP os with
  | some S => S.map fun s => [s.1, s.2]
  | none => []
theorem shRows_some {os : List OpP} {S : List Sh} (h : shapesP os = some S) : shRows os = S.map fun s => [s.1, s.2] := by unfold shRows; rw [h]
theorem shRows_none {os : List OpP} (h : shapesP os = none) : shRows os = [] := by unfold shRows; rw [h]
end Go.Proofs.Ytpemhiaeiecinaa
/- Which operations a tape's last value depends on. No condition. -/
namespace Go.Proofs.Ytpemhiaeiecinaa
open Go Go.RowKit
set_option linter.unusedVariables false
set_option linter.unusedSimpArgs false
/-- what an operation that is used makes used -/
def stepU (U : List Bool) (i : Nat) (o : OpP) : List Bool :=
  if U.getD i false = true ∧ o.k ≠ 0 then (if twoB o.k = true then (U.set o.a.toNat true).set o.b.toNat true else U.set o.a.toNat true) else U
def opAtP (os : List OpP) (i : Nat) : OpP := os.getD i ⟨0, 0, 0, 0, 0, 0, []⟩
/-- behind the last m operations -/
def usedM (os : List OpP) : Nat → List Bool
  | 0 => (List.replicate os.length false).set (os.length - 1) true
  | m + 1 => stepU (usedM os m) (os.length - 1 - m) (opAtP os (os.length - 1 - m))
theorem stepU_length (U : List Bool) (i : Nat) (o : OpP) : (stepU U i o).length = U.length := by
  unfold stepU; split
  · split <;> simp
  · rfl
theorem usedM_length (os : List OpP) (m : Nat) : (usedM os m).length = os.length := by
  induction m with
  | zero => simp [usedM]
  | succ m ih => rw [usedM, stepU_length, ih]
theorem opAtP_some {os : List OpP} {i : Nat} {o : OpP} (h : os[i]? = some o) : opAtP os i = o := by
  unfold opAtP; rw [List.getD_eq_getElem?_getD, h]; rfl
/-- the fields of a valid tape's operations fit -/
theorem shapesN_fit {os : List OpP} {k : Nat} {S : List Sh} (hk : k ≤ os.length) (h : shapesN os k = some S) : ∀ i o, i < k → os[i]? = some o → fitsB i o = true := by
  induction k generalizing S with
  | zero => intro i o hi; omega
  | succ k ih =>
    obtain ⟨o, ho⟩ := getElem?_lt (show k < os.length by omega)
    rw [shapesN_succ ho] at h
    cases e : shapesN os k with
    | none => rw [e] at h; cases h
    | some S0 =>
      rw [e] at h
      intro i p hi hp
      by_cases hik : i = k
      · subst hik
        rw [ho] at hp; cases hp
        have hl := shapesN_length (by omega) e
        have h2 : stepSh S0 o = some S := h
        unfold stepSh at h2
        split at h2
        · rename_i hf; rw [hl] at hf; exact hf
        · cases h2
      · exact ih (by omega) e i p (by omega) hp
theorem valid_fit {os : List OpP} {S : List Sh} (h : shapesP os = some S) {i : Nat} {o : OpP} (ho : os[i]? = some o) : fitsB i o = true :=
  shapesN_fit (Nat.le_refl _) (shapesP_some h).2.1 i o (List.getElem?_eq_some_iff.1 ho).1 ho
/-- what stands behind stays -/
theorem stepU_keep {U : List Bool} {i j : Nat} {o : OpP} (hf : fitsB i o = true) (hij : i ≤ j) : (stepU U i o).getD j false = U.getD j false := by
  unfold stepU
  split
  · rename_i h
    have ha := fitsB_args hf h.2
    have e1 : ∀ (V : List Bool) (a : Nat), a < i → (V.set a true).getD j false = V.getD j false := by
      intro V a ha
      rw [List.getD_eq_getElem?_getD, List.getD_eq_getElem?_getD, List.getElem?_set_ne (by omega)]
    split
    · rw [e1 _ _ (by omega), e1 _ _ (by omega)]
    · rw [e1 _ _ (by omega)]
  · rfl
theorem usedM_keep {os : List OpP} {S : List Sh} (h : shapesP os = some S) {m m' j : Nat} (hm : m ≤ m') (hm2 : m' ≤ os.length) (hj : os.length - m ≤ j + 1) : (usedM os m').getD j false = (usedM os m).getD j false := by
  induction m' with
  | zero => have : m = 0 := by omega
            subst this; rfl
  | succ q ih =>
    by_cases e : m = q + 1
    · subst e; rfl
    · obtain ⟨o, ho⟩ := getElem?_lt (show os.length - 1 - q < os.length by omega)
      rw [usedM, opAtP_some ho, stepU_keep (valid_fit h ho) (by omega), ih (by omega) (by omega)]
/-- the operations that are used, rising -/
def usedP (os : List OpP) : List Int := ((List.range os.length).filter fun i => (usedM os os.length).getD i false).map (fun i : Nat => (i : Int))
/-- those from j on -/
def usedF (U : List Bool) (j n : Nat) : List Int := ((List.range' j (n - j)).filter fun i => U.getD i false).map (fun i : Nat => (i : Int))
theorem usedF_nil (U : List Bool) (n : Nat) : usedF U n n = [] := by simp [usedF]
theorem usedF_cons (U : List Bool) {j n : Nat} (h : j < n) : usedF U j n = (if U.getD j false = true then [(j : Int)] else []) ++ usedF U (j + 1) n := by
  unfold usedF
  rw [show n - j = (n - (j + 1)) + 1 by omega, List.range'_succ, List.filter_cons]
  split <;> simp
theorem usedF_congr {U V : List Bool} {j n : Nat} (h : ∀ i, j ≤ i → i < n → U.getD i false = V.getD i false) : usedF U j n = usedF V j n := by
  unfold usedF
  congr 1
  apply List.filter_congr
  intro i hi
  have := List.mem_range'_1.1 hi
  rw [h i (by omega) (by omega)]
theorem usedF_gt (U : List Bool) (j n : Nat) : ∀ x ∈ usedF U j n, (j : Int) ≤ x ∧ x < n := by
  intro x hx
  unfold usedF at hx
  obtain ⟨i, hi, rfl⟩ := List.mem_map.1 hx
  have := List.mem_range'_1.1 (List.mem_filter.1 hi).1
  omega
theorem usedP_eq (os : List OpP) : usedP os = usedF (usedM os os.length) 0 os.length := by
  unfold usedP usedF
  rw [Nat.sub_zero, List.range_eq_range']
theorem usedF_snoc (U : List Bool) (i : Nat) : usedF U 0 (i + 1) = usedF U 0 i ++ (if U.getD i false = true then [(i : Int)] else []) := by
  unfold usedF
  rw [Nat.sub_zero, Nat.sub_zero, ← List.range_eq_range', ← List.range_eq_range', List.range_succ, List.filter_append, List.map_append]
  congr 1
  rw [List.filter_cons, List.filter_nil]
  split <;> rfl
theorem usedF_length (U : List Bool) (j n : Nat) : (usedF U j n).length ≤ n - j := by
  unfold usedF
  rw [List.length_map]
  exact Nat.le_trans (List.length_filter_le _ _) (by simp)
end Go.Proofs.Ytpemhiaeiecinaa
/- What putting a number to its place ahead of greater ones does. No condition. -/
namespace Go.Proofs.Ytpemhiaeiecinaa
open Go Go.RowKit
set_option linter.unusedVariables false
set_option linter.unusedSimpArgs false
end Go.Proofs.Ytpemhiaeiecinaa
/- Rows of the call's own that grow by turns. No condition. -/
namespace Go.Proofs.Ytpemhiaeiecinaa
open Go Go.RowKit
set_option linter.unusedVariables false
set_option linter.unusedSimpArgs false
/-- an element is appended to a row of the call's own; where it lies then is told -/
theorem wp_appA {P : Program} {ops : Array Oper} {rest : List Oper} {o : Oper} {a : Act} {Q : Exit → Act → World → Prop} {e : TypeId} {W : World} {cs : Array Value} (hgd : o.guard = none) (s x : Operand) (t : TypeId)
    (ho : o.op = .call { callee := .builtin .append, args := #[s, x], argTypes := #[t, t] })
    (base : Nat) (i : TypeInfo) (z : Value) (size bytes : Nat) (ht : P.underlying t = some (.slice e)) (hi : P.info? e = some i) (hz : i.zero = some z)
    (hsize : i.size = size) (hby : i.bytes = bytes) (hzs : z.cells.size = size) (hsz : 0 < size)
    (hcs : cs.size = size) (h1 : ∀ u ∈ cs.toList, u.oneCell' = true)
    (v : Value) (n : Nat) (xs : List Value) (hs : a.eval s = v) (hown : W.ownsRow base e size v n xs) (hx : a.eval x = .slice (some ⟨W.heap.size, 0, none⟩) 1 1)
    (h63 : n + 1 ≤ maxLen) (hbytes : (n + 1) * bytes ≤ 140737488355328) (hbase : base ≤ W.heap.size)
    (h : ∀ v' w', w'.ownsRow base e size v' (n + 1) (xs ++ cs.toList) → (W.alloc (.cells cs e)).grownBy w' v.ownBlock → (v'.ownBlock = v.ownBlock ∨ v'.ownBlock = some (W.heap.size + 1)) → Below base W w' → base ≤ w'.heap.size → wpList P ops Q rest (a.put o.dst v') w') : wpList P ops Q (o :: rest) a (W.alloc (.cells cs e)) := by
  refine wpList_append_own_at (W.alloc (.cells cs e)) hgd s x t ho base e i z size bytes ht hi hz hsize hby hzs hsz v n xs hs (hown.alloc _) ⟨W.heap.size, 0, none⟩ 1 1 cs.toList hx (by simpa using hcs) ?_ h1 h63 hbytes (by simp; omega) ?_
  · intro j u hj
    rw [Addr.add_lit, World.cell?_alloc_at _ _ _ _ rfl]
    simpa using hj
  · intro v' w' h2 hg _ hat
    have hb : Below base W w' := ((Below.refl _ _).alloc hbase _).grown hg (by simp; omega) (fun j hj => (hown.lt j hj).1)
    refine h v' w' h2 hg (by simpa using hat) hb ?_
    have := hg.size
    simp at this
    omega
/-- two rows of the call's own in blocks of their own -/
structure Two (w : World) (base : Nat) (e1 : TypeId) (v1 : Value) (n1 : Nat) (c1 : List Value) (e2 : TypeId) (v2 : Value) (n2 : Nat) (c2 : List Value) : Prop where
  one : w.ownsRow base e1 1 v1 n1 c1
  two : w.ownsRow base e2 1 v2 n2 c2
  sep : ∀ g, v1.ownBlock = some g → v2.ownBlock ≠ some g
theorem Two.swap {w : World} {base : Nat} {e1 e2 : TypeId} {v1 v2 : Value} {n1 n2 : Nat} {c1 c2 : List Value} (h : Two w base e1 v1 n1 c1 e2 v2 n2 c2) : Two w base e2 v2 n2 c2 e1 v1 n1 c1 := ⟨h.two, h.one, fun g e1 e2 => h.sep g e2 e1⟩
theorem Two.below {w w' : World} {base : Nat} {e1 e2 : TypeId} {v1 v2 : Value} {n1 n2 : Nat} {c1 c2 : List Value} (h : Two w base e1 v1 n1 c1 e2 v2 n2 c2) (hb : Below w.heap.size w w') : Two w' base e1 v1 n1 c1 e2 v2 n2 c2 := ⟨owns_below h.one hb, owns_below h.two hb, h.sep⟩
/-- the first row has grown -/
theorem Two.grow {w w' : World} {base : Nat} {e1 e2 : TypeId} {v1 v2 v' : Value} {n1 n2 n' : Nat} {c1 c2 c' : List Value} {o : Obj} (h : Two w base e1 v1 n1 c1 e2 v2 n2 c2)
    (h1 : w'.ownsRow base e1 1 v' n' c') (hg : (w.alloc o).grownBy w' v1.ownBlock) (hat : v'.ownBlock = v1.ownBlock ∨ v'.ownBlock = some (w.heap.size + 1)) : Two w' base e1 v' n' c' e2 v2 n2 c2 := by
  refine ⟨h1, (h.two.alloc o).kept hg ?_, ?_⟩
  · cases hv : v2.ownBlock with
    | none => exact .inl rfl
    | some g =>
      right
      intro e
      exact h.sep g e.symm hv
  · intro g e1 e2
    rcases hat with hat | hat
    · exact h.sep g (hat.symm.trans e1) e2
    · have := (h.two.lt g e2).2
      rw [hat] at e1
      cases e1
      omega
theorem getD_snoc_left {xs : List Int} {x : Int} {i : Nat} (h : i < xs.length) : (xs ++ [x]).getD i 0 = xs.getD i 0 := by
  rw [List.getD_eq_getElem?_getD, List.getD_eq_getElem?_getD, List.getElem?_append_left h]
theorem getD_snoc_at {xs : List Int} {x : Int} {i : Nat} (h : i = xs.length) : (xs ++ [x]).getD i 0 = x := by
  subst h; simp
end Go.Proofs.Ytpemhiaeiecinaa
/- The shapes of the values of a tape: the reference. No condition. -/
namespace Go.Proofs.Ytpemhiaeiecinaa
open Go Go.RowKit
set_option linter.unusedVariables false
set_option linter.unusedSimpArgs false
def shTenR : RecT Sh := ⟨27, 3, fun s => [.int .i64 s.1, .int .i64 s.2, .slice none 0 0], fun _ => [], fun _ => True, fun _ => rfl⟩
theorem shapesP_eq {os : List OpP} {n : Nat} (h : n = os.length) (h1 : 1 ≤ n) (h2 : n ≤ 48) : shapesP os = shapesN os n := by
  unfold shapesP; rw [← h, if_pos ⟨h1, h2⟩]
theorem shapesP_no {os : List OpP} {n : Nat} (h : n = os.length) (h1 : ¬(1 ≤ n ∧ n ≤ 48)) : shapesP os = none := by
  unfold shapesP; rw [← h, if_neg h1]
theorem twoB_in {k : Int} (h : twoB k = true) : k = 1 ∨ k = 2 ∨ k = 3 ∨ k = 4 ∨ k = 6 := by
  unfold twoB at h
  simpa using h
theorem oneB_in {k : Int} (h : twoB k = false) : k ≠ 1 ∧ k ≠ 2 ∧ k ≠ 3 ∧ k ≠ 4 ∧ k ≠ 6 := by
  unfold twoB at h
  simp at h
  omega
theorem BoxN.alloc4 (w : World) (o o2 o3 : Obj) (cs : Array Value) (t : TypeId) : BoxN ((((w.alloc o).alloc o2).alloc o3).alloc (.cells cs t)) (w.heap.size + 1 + 1 + 1) cs.toList := by
  have h := BoxN.alloc3 (w.alloc o) o2 o3 cs t
  rwa [show (w.alloc o).heap.size + 2 = w.heap.size + 1 + 1 + 1 by simp] at h
/-- a shape that does not fit -/
theorem shapes_stop {os : List OpP} {n k : Nat} {o : OpP} {S : List Sh} (hn : n = os.length) (h1 : 1 ≤ n) (h2 : n ≤ 48) (ho : os[k]? = some o) (hS : shapesN os k = some S) (h : stepSh S o = none) : shapesP os = none := by
  have hk : k < os.length := (List.getElem?_eq_some_iff.1 ho).1
  rw [shapesP_eq hn h1 h2]
  refine shapesN_none (k := k + 1) ?_ (by omega) (by omega)
  rw [shapesN_succ ho, hS]; exact h
theorem step_unfit {S : List Sh} {o : OpP} (h : fitsB S.length o = false) : stepSh S o = none := by
  unfold stepSh; rw [h]; rfl
theorem shGet_some {S : List Sh} {i : Nat} (h : i < S.length) : S[i]? = some (shGet S (i : Int)) := by
  unfold shGet
  rw [List.getD_eq_getElem?_getD, Int.toNat_natCast, List.getElem?_eq_getElem h]; rfl
/-- what the reference tells of the shapes -/
def ShOut (os : List OpP) (w w' : World) (v : Value) (b : Bool) : Prop := b = (shapesP os).isSome ∧ ∀ S, shapesP os = some S → ∃ ad cap, v = .slice ad S.length cap ∧ OwnR shTenR w' w.heap.size w'.heap.size ad S.length cap S
theorem ShOut.no {os : List OpP} {w w' : World} {v : Value} (h : shapesP os = none) : ShOut os w w' v false := ⟨by rw [h]; rfl, fun S hS => by rw [h] at hS; cases hS⟩
/-- a shape is appended -/
theorem sh_snoc {w W w9 : World} {B k cap : Nat} {ad : Option Addr} {S : List Sh} {s : Sh} {v' : Value} {o : Obj} (h : OwnR shTenR w B w.heap.size ad k cap S) (hB : B ≤ w.heap.size) (hb : Below w.heap.size w W)
    (ho : w9.ownsRow B 27 3 v' (k + 1) (S.flatMap shTenR.cells ++ [.int .i64 s.1, .int .i64 s.2, .slice none 0 0])) (hg : (W.alloc o).grownBy w9 (Value.slice ad k cap).ownBlock) (hat : v'.ownBlock = (Value.slice ad k cap).ownBlock ∨ v'.ownBlock = some (W.heap.size + 1)) :
    ∃ ad' cap', v' = .slice ad' (k + 1) cap' ∧ OwnR shTenR w9 B w9.heap.size ad' (k + 1) cap' (S ++ [s]) :=
  h.snoc hB hb trivial (Own.nil W _ W.heap.size) (Nat.le_refl _) hb.size ho hg hat
theorem sh_row {w W : World} {B k cap : Nat} {ad : Option Addr} {S : List Sh} (h : OwnR shTenR w B w.heap.size ad k cap S) (hb : Below w.heap.size w W) : W.ownsRow B 27 3 (.slice ad k cap) k (S.flatMap shTenR.cells) := (h.below hb).own.head.own
set_option maxHeartbeats 16000000 in
set_option maxRecDepth 100000 in
theorem spec_l04Shapes (w : World) (ad : Option Addr) (cap : Nat) (os : List OpD) (h : SeeR opR w ad cap os) :
    Calls Try.prog 143 #[.slice ad os.length cap] w fun e w' => ∃ v b, e = .returned (.tuple #[v, .bool b]) ∧ Hid (ShOut (os.map OpD.toOpP) w w' v b) ∧ Below w.heap.size w w' := by
  obtain ⟨i0, hi0, hz0, hzs, hz2⟩ := info_parts info_ten
  have hm := Nat.le_trans h.le h.cap
  unfold maxLen at hm
  obtain ⟨n, hN⟩ : ∃ n, n = os.length := ⟨_, rfl⟩
  have hP : n = (os.map OpD.toOpP).length := by rw [List.length_map]; exact hN
  rw [← hN] at hm ⊢
  have HN := Lib.hid hN; have HP := Lib.hid hP; have H := Lib.hid h; clear hN hP h
  by_cases hr : (1 ≤ n ∧ n ≤ 48)
  rotate_left
  · have K := Lib.hid (fun W => l00In_any n 1 48 W)
    have hb : inB n 1 48 = false := by
      cases e : inB (n : Int) 1 48 with
      | false => rfl
      | true => have := inB_iff.1 e; omega
    rw [hb] at K
    have HS := Lib.hid (shapesP_no HP.out hr)
    clear hb hr
    go_enter Try.func143, Try.ntmps143
    go_wp2_with fail
    refine (K.out _).mono ?_
    rintro e w1 ⟨rfl, rfl⟩
    go_wp2
    go_ret2
    exact ⟨_, _, rfl, Lib.hid (ShOut.no HS.out), below1 _ _⟩
  obtain ⟨hn1, hn2⟩ := hr
  have K := Lib.hid (fun W => l00In_any n 1 48 W)
  rw [inB_iff.2 ⟨by omega, by omega⟩] at K
  go_enter Try.func143, Try.ntmps143
  go_wp2_with fail
  refine (K.out _).mono ?_
  rintro e w1 ⟨rfl, rfl⟩
  clear K
  go_wp2
  go_loopw [4, 5] (fun v i wt => ∃ k : Nat, i = .int .i64 k ∧ k ≤ n ∧ ∃ (S : List Sh) (ad' : Option Addr) (cap' : Nat), v = .slice ad' k cap' ∧ Hid (shapesN (os.map OpD.toOpP) k = some S ∧ OwnR shTenR wt w.heap.size wt.heap.size ad' k cap' S) ∧ Hid (Below w.heap.size w wt)) (fun _ i _ => n - (intOf i).toNat)
  case atStart =>
    refine ⟨0, rfl, Nat.zero_le _, [], _, _, rfl, Lib.hid ⟨rfl, ?_⟩, Lib.hid (below1 _ _)⟩
    exact ⟨Own.one (Row.mk' (World.ownsRow_made _ _ _ (Nat.le_refl _) (Nat.zero_le _) rfl)), rfl, fun a ha => (nomatch ha)⟩
  case round =>
    obtain ⟨k, rfl, hk, S, ad', cap', rfl, HS, HB⟩ := hrel
    by_cases hlt : k < n
    · obtain ⟨o, ho⟩ := getElem?_lt (show k < os.length by rw [← HN.out]; exact hlt)
      obtain ⟨b, off, rfl, hbl, ⟨p0, p1, p2, p3, p4, p5, p6⟩, hf, hok⟩ := op_spot (H.out.below HB.out) ho
      have hop : (os.map OpD.toOpP)[k]? = some o.toOpP := by rw [List.getElem?_map, ho]; rfl
      have hSl := shapesN_length (by rw [← HP.out]; omega) HS.out.1
      have hxm : o.xs.length ≤ maxLen := Nat.le_trans hf.len hf.cap
      have hno : ∀ (W : World) (v : Value), fitsB k o.toOpP = false → ShOut (os.map OpD.toOpP) w W v false := fun _ _ h1 => ShOut.no (shapes_stop HP.out hn1 hn2 hop HS.out.1 (step_unfit (by rw [hSl]; exact h1)))
      have hyes : fitsB k o.toOpP = true → shapesN (os.map OpD.toOpP) (k + 1) = (if o.k = 0 then some (S ++ [(o.r, o.c)]) else (shapeOf o.k (shGet S o.a) (shGet S o.b)).map fun s => S ++ [s]) := by
        intro h1
        rw [shapesN_succ hop, HS.out.1]
        show stepSh S o.toOpP = _
        unfold stepSh
        rw [hSl, if_pos h1]
      have hnoS : ∀ (W : World) (v : Value), fitsB k o.toOpP = true → o.k ≠ 0 → shapeOf o.k (shGet S o.a) (shGet S o.b) = none → ShOut (os.map OpD.toOpP) w W v false := fun _ _ h1 h2 h3 => ShOut.no (shapes_stop HP.out hn1 hn2 hop HS.out.1 (by unfold stepSh; rw [hSl, if_pos h1, if_neg h2, h3]; rfl))
      obtain ⟨hok1, hok2, hok3, hok4, hok5, hok6, hok7⟩ := hok
      have HNO := Lib.hid hno; have HY := Lib.hid hyes; have HNS := Lib.hid hnoS; have HSL := Lib.hid hSl
      clear hno hyes hnoS hop ho hf hSl hok1 hok4 hok5 hok6 hok7
      obtain ⟨⟨kk, a, b', q, r, c, xs⟩, adx, capx⟩ := o
      simp only at p0 p1 p2 p3 p4 p5 p6 HY HNO HNS hxm hok2 hok3
      obtain ⟨m, hM⟩ : ∃ m, m = xs.length := ⟨_, rfl⟩
      have hxm : m ≤ maxLen := by rw [hM]; exact hxm
      have HFB : Hid (fitsB k ⟨kk, a, b', q, r, c, xs⟩ = (inB kk 0 10 && ((kk == 5 || zeroB q) && (if kk = 0 then (a == 0 && (b' == 0 && tenB r c m)) else ((r == 0 && (c == 0 && decide (m = 0))) && (inB a 0 (k - 1) && (if twoB kk = true then inB b' 0 (k - 1) else b' == 0))))))) := by
        rw [hM]; unfold fitsB; simp only [Bool.and_assoc]; exact Lib.hid trivial
      rw [← hM] at p6
      clear hM
      have K1 := Lib.hid (fun W => l00In_any kk 0 10 W)
      have K2 := Lib.hid (fun W => spec_l01Same q 0 hok2 (by decide) W)
      cases e1 : inB kk 0 10
      · rw [e1] at K1
        go_wp2_with fail
        refine (K1.out _).mono ?_
        rintro e w1 ⟨rfl, rfl⟩
        have HF := Lib.hid (fun W v => HNO.out W v (by rw [HFB.out, e1]; rfl))
        clear HNO HY HNS HFB e1 K2
        go_wp2
        go_ret2
        exact ⟨_, _, rfl, Lib.hid (HF.out _ _), HB.out.alloc HB.out.size _⟩
      clear K1 K2
      by_cases hk0 : kk = 0
      · as_aux_lemma =>
          subst hk0
          have K1 := Lib.hid (fun W => l00In_any 0 0 10 W)
          rw [show inB (0 : Int) 0 10 = true by decide] at K1
          have K2 := Lib.hid (fun W => spec_l01Same q 0 hok2 (by decide) W)
          have ez : decide (cn .f32 q = cn .f32 0) = zeroB q := rfl
          rw [ez] at K2
          go_wp2_with fail
          refine (K1.out _).mono ?_
          rintro e w1 ⟨rfl, rfl⟩
          cases e2 : zeroB q
          · rw [e2] at K2
            go_wp2_with fail
            refine (K2.out _).mono ?_
            rintro e w1 ⟨rfl, rfl⟩
            have HF := Lib.hid (fun W v => HNO.out W v (by rw [HFB.out, e2]; rfl))
            clear HNO HY HNS HFB HS H
            go_wp2
            go_ret2
            exact ⟨_, _, rfl, Lib.hid (HF.out _ _), HB.out.alloc HB.out.size _⟩
          rw [e2] at K2
          go_wp2_with fail
          refine (K2.out _).mono ?_
          rintro e w1 ⟨rfl, rfl⟩
          cases e4 : (a == 0)
          · have e7 : (a != 0) = true := by simpa [bne] using e4
            have HF := Lib.hid (fun W v => HNO.out W v (by rw [HFB.out, e2, e4]; rfl))
            clear HNO HY HNS HFB HS H
            go_wp2
            go_ret2
            exact ⟨_, _, rfl, Lib.hid (HF.out _ _), HB.out.alloc HB.out.size _⟩
          cases e5 : (b' == 0)
          · obtain rfl : a = 0 := by simpa using e4
            have e7 : (b' != 0) = true := by simpa [bne] using e5
            have HF := Lib.hid (fun W v => HNO.out W v (by rw [HFB.out, e2, e4, e5]; rfl))
            clear HNO HY HNS HFB HS H
            go_wp2
            go_ret2
            exact ⟨_, _, rfl, Lib.hid (HF.out _ _), HB.out.alloc HB.out.size _⟩
          have K3 := Lib.hid (fun W h1 h2 h3 => spec_l02Is W wr.heap.size 4 r c adx m capx hxm h1 h2 h3)
          cases e6 : tenB r c m
          · rw [e6] at K3
            obtain rfl : a = 0 := by simpa using e4
            obtain rfl : b' = 0 := by simpa using e5
            go_wp2_with fail
            refine (K3.out _ (by go_simp) (by go_simp) (by go_simp)).mono ?_
            rintro e w1 ⟨rfl, qd, rfl⟩
            have HF := Lib.hid (fun W v => HNO.out W v (by rw [HFB.out, e2, e6]; rfl))
            clear HNO HY HNS HFB HS H
            go_wp2
            go_ret2
            exact ⟨_, _, rfl, Lib.hid (HF.out _ _), below_drewN (HB.out.alloc HB.out.size _) _⟩
          rw [e6] at K3
          have hfit : fitsB k ⟨0, a, b', q, r, c, xs⟩ = true := by rw [HFB.out, e2, e4, e5, e6]; rfl
          have hya := HY.out hfit
          rw [if_pos (by first | trivial | rfl)] at hya
          obtain rfl : a = 0 := by simpa using e4
          obtain rfl : b' = 0 := by simpa using e5
          clear HNO HY HNS HFB e4 e5 e6 hfit e2
          go_wp2_with fail
          refine (K3.out _ (by go_simp) (by go_simp) (by go_simp)).mono ?_
          rintro e w1 ⟨rfl, qd, rfl⟩
          have HR := Lib.hid (fun W hb => sh_row HS.out.2 (W := W) hb)
          go_wp2_with (at_builtin; refine wp_appA rfl _ _ 41 rfl w.heap.size i0 (.agg #[.int .i64 0, .int .i64 0, .slice none 0 0]) 3 40 Try.underlying41 hi0 hz0 hzs hz2 rfl (by decide) rfl (by intro u hu; simp at hu; rcases hu with rfl | rfl | rfl <;> rfl) _ _ _ rfl (HR.out _ (below_drewN (below1 _ _) _)) (by go_simp) ?c3 ?c4 ?c5 ?_)
          case c3 => unfold maxLen; omega
          case c4 => omega
          case c5 => have := HB.out.size; simp; omega
          intro v' w9 ho9 hg9 hat9 hb9 hs9
          obtain ⟨ad9, cap9, rfl, hown9⟩ := sh_snoc (s := (r, c)) HS.out.2 HB.out.size (below_drewN (below1 _ _) _) ho9 hg9 (by simpa using hat9)
          have HO9 := Lib.hid (And.intro hya hown9); have HB9 := Lib.hid ((below_drewN (HB.out.alloc HB.out.size _) _).trans hb9)
          clear ho9 hg9 hat9 hb9 hya hown9 HR HS HB p0 p1 p2 p3 p4 p5 p6
          go_wp2
          go_roundw
          case rel => exact ⟨k + 1, by go_num, hlt, _, _, _, rfl, HO9, HB9⟩
          case measure => simp [intOf]; omega
      have hk0' : (kk == 0) = false := by simpa using hk0
      by_cases h5 : kk = 5
      · as_aux_lemma =>
          subst h5
          have KT := Lib.hid (fun W => spec_l04Two 5 W)
          rw [show twoB 5 = false by decide] at KT
          have K1 := Lib.hid (fun W => l00In_any 5 0 10 W)
          rw [e1] at K1
          go_wp2_with fail
          refine (K1.out _).mono ?_
          rintro e w1 ⟨rfl, rfl⟩
          have K4 := Lib.hid (fun W h1 h2 h3 => spec_l04None W wr.heap.size 4 r c adx m capx h1 h2 h3)
          cases e4 : (r == 0 && (c == 0 && decide (m = 0)))
          · rw [e4] at K4
            go_wp2_with fail
            refine (K4.out _ (by go_simp) (by go_simp) (by go_simp)).mono ?_
            rintro e w1 ⟨rfl, rfl⟩
            have HF := Lib.hid (fun W v => HNO.out W v (by rw [HFB.out, e1, e4]; rfl))
            clear HNO HY HNS HFB HS H
            go_wp2
            go_ret2
            exact ⟨_, _, rfl, Lib.hid (HF.out _ _), HB.out.alloc HB.out.size _⟩
          rw [e4] at K4
          go_wp2_with fail
          refine (K4.out _ (by go_simp) (by go_simp) (by go_simp)).mono ?_
          rintro e w1 ⟨rfl, rfl⟩
          have K5 := Lib.hid (fun W => l00In_any a 0 (k - 1) W)
          cases e5 : inB a 0 (k - 1)
          · rw [e5] at K5
            go_wp2_with fail
            refine (K5.out _).mono ?_
            rintro e w1 ⟨rfl, rfl⟩
            have HF := Lib.hid (fun W v => HNO.out W v (by rw [HFB.out, e1, e4, e5]; rfl))
            clear HNO HY HNS HFB HS H
            go_wp2
            go_ret2
            exact ⟨_, _, rfl, Lib.hid (HF.out _ _), HB.out.alloc HB.out.size _⟩
          rw [e5] at K5
          go_wp2_with fail
          refine (K5.out _).mono ?_
          rintro e w1 ⟨rfl, rfl⟩
          go_wp2_with fail
          refine (KT.out _).mono ?_
          rintro e w1 ⟨rfl, rfl⟩
          go_wp2_with fail
          refine (KT.out _).mono ?_
          rintro e w1 ⟨rfl, rfl⟩
          cases e6 : (b' == 0)
          · have e7 : (b' != 0) = true := by simpa [bne] using e6
            have HF := Lib.hid (fun W v => HNO.out W v (by rw [HFB.out, e1, e4, e5, e6]; rfl))
            clear HNO HY HNS HFB HS H
            go_wp2
            go_ret2
            exact ⟨_, _, rfl, Lib.hid (HF.out _ _), HB.out.alloc HB.out.size _⟩
          obtain rfl : b' = 0 := by simpa using e6
          have ⟨a1, a2⟩ := inB_iff.1 e5
          obtain ⟨A, rfl⟩ : ∃ A : Nat, a = A := ⟨a.toNat, by omega⟩
          have hfit : fitsB k ⟨5, A, 0, q, r, c, xs⟩ = true := by rw [HFB.out, e1, e4, e5]; rfl
          have hAk : A < k := by omega
          have hBk : 0 < k := by omega
          have hya := HY.out hfit
          rw [if_neg (by decide)] at hya
          have hns := fun W v => HNS.out W v hfit (by decide)
          clear HNO HY HNS HFB e4 e5 e6 K1 K4 K5 KT hfit
          have hsa := shGet_some (S := S) (i := A) (by rw [HSL.out]; exact hAk)
          have hsb := shGet_some (S := S) (i := 0) (by rw [HSL.out]; exact hBk)
          obtain ⟨⟨v1, v2⟩, hv⟩ : ∃ v, v = shGet S A := ⟨_, rfl⟩
          obtain ⟨⟨u1, u2⟩, hu⟩ : ∃ v, v = shGet S 0 := ⟨_, rfl⟩
          rw [← hv] at hsa hya hns
          rw [show ((0 : Nat) : Int) = 0 by rfl, ← hu] at hsb
          rw [← hu] at hya hns
          obtain ⟨g, rfl, hgr, ca, hfz⟩ := HS.out.2.spot hsa (by decide)
          obtain ⟨g', eg, -, cb, -⟩ := HS.out.2.spot hsb (by decide)
          cases eg
          have ca0 : wr.cell? ⟨g, A * 3, none⟩ = some (.int .i64 v1) := ca 0 (by decide)
          have ca1 : wr.cell? ⟨g, A * 3 + 1, none⟩ = some (.int .i64 v2) := ca 1 (by decide)
          have ca2 : wr.cell? ⟨g, A * 3 + 2, none⟩ = some (.slice none 0 0) := ca 2 (by decide)
          have cb0 : wr.cell? ⟨g, 0 * 3, none⟩ = some (.int .i64 u1) := cb 0 (by decide)
          have cb1 : wr.cell? ⟨g, 0 * 3 + 1, none⟩ = some (.int .i64 u2) := cb 1 (by decide)
          have cb2 : wr.cell? ⟨g, 0 * 3 + 2, none⟩ = some (.slice none 0 0) := cb 2 (by decide)
          have hgl := hgr.2.2
          have HGR := Lib.hid hgr
          have HR := Lib.hid (fun W hb => sh_row HS.out.2 (W := W) hb)
          clear ca cb hsa hsb hv hu hgr
          go_upto_block 2 with fail
          go_cut [9] (fun f wx => ∃ b1 : Bool, ∃ s1 s2 : Int, f = .bool b1 ∧ Hid ((b1 = true ∧ shapeOf 5 (v1, v2) (u1, u2) = some (s1, s2)) ∨ (b1 = false ∧ shapeOf 5 (v1, v2) (u1, u2) = none)) ∧ Hid (BoxN wx (wr.heap.size + 1 + 1 + 1) [.int .i64 s1, .int .i64 s2, .slice none 0 0] ∧ Below wr.heap.size wr wx))
          case first =>
            clear hya hns HS HR HB
            go_wp2_with fail
            go_meet
            refine ⟨true, v1, v2, rfl, Lib.hid (.inl ⟨rfl, by simp [shapeOf]⟩), Lib.hid ⟨?_, ?_⟩⟩
            · exact BoxN.alloc4 wr _ _ _ #[.int .i64 v1, .int .i64 v2, .slice none 0 0] 27
            · repeat (first | exact Below.refl _ _ | refine Below.alloc ?_ (by simp; try omega) _)
          case rest =>
            obtain ⟨b1, s1, s2, rfl, HSH, HBX⟩ := hcut
            obtain ⟨bx, hb2⟩ := HBX.out
            obtain ⟨l9, t0, t1, t2, tf⟩ := bx.three
            have HB2 := Lib.hid hb2
            clear bx hb2 HBX p0 p1 p2 p3 p4 p5 p6 ca0 ca1 ca2 cb0 cb1 cb2 hfz
            cases b1
            · have hf : ∀ W v, ShOut (os.map OpD.toOpP) w W v false := fun W v => hns W v (by rcases HSH.out with h | h; exact absurd h.1 (by decide); exact h.2)
              have HF := Lib.hid hf
              clear hns hya hf HSH
              go_wp2
              go_ret2
              exact ⟨_, _, rfl, Lib.hid (HF.out _ _), HB.out.trans (HB2.out.mono HB.out.size)⟩
            · have hsh : shapeOf 5 (v1, v2) (u1, u2) = some (s1, s2) := by
                rcases HSH.out with h | h
                · exact h.2
                · exact absurd h.1 (by decide)
              rw [hsh] at hya
              have HYA := Lib.hid hya
              clear hns hya hsh HSH
              go_wp2_with (at_builtin; refine wp_appA rfl _ _ 41 rfl w.heap.size i0 (.agg #[.int .i64 0, .int .i64 0, .slice none 0 0]) 3 40 Try.underlying41 hi0 hz0 hzs hz2 rfl (by decide) rfl (by intro u hu; simp at hu; rcases hu with rfl | rfl | rfl <;> rfl) _ _ _ rfl (HR.out _ HB2.out) (by go_simp) ?c3 ?c4 ?c5 ?_)
              case c3 => unfold maxLen; omega
              case c4 => omega
              case c5 => exact Nat.le_trans HB.out.size HB2.out.size
              intro v' w9 ho9 hg9 hat9 hb9 hs9
              obtain ⟨ad9, cap9, rfl, hown9⟩ := sh_snoc (s := (s1, s2)) HS.out.2 HB.out.size HB2.out ho9 hg9 (by simpa using hat9)
              have HO9 := Lib.hid (And.intro HYA.out hown9); have HB9 := Lib.hid ((HB.out.trans (HB2.out.mono HB.out.size)).trans hb9)
              clear ho9 hg9 hat9 hb9 HYA hown9 HR HS HB HB2
              go_wp2
              go_roundw
              case rel => exact ⟨k + 1, by go_num, hlt, _, _, _, rfl, HO9, HB9⟩
              case measure => simp [intOf]; omega
      have k5 : (kk == 5) = false := by simpa using h5
      cases hT : twoB kk
      · as_aux_lemma =>
          have KT := Lib.hid (fun W => spec_l04Two kk W)
          rw [hT] at KT
          have K1 := Lib.hid (fun W => l00In_any kk 0 10 W)
          rw [e1] at K1
          go_wp2_with fail
          refine (K1.out _).mono ?_
          rintro e w1 ⟨rfl, rfl⟩
          have K2 := Lib.hid (fun W => spec_l01Same q 0 hok2 (by decide) W)
          have ez : decide (cn .f32 q = cn .f32 0) = zeroB q := rfl
          rw [ez] at K2
          cases e2 : zeroB q
          · rw [e2] at K2
            go_wp2_with fail
            refine (K2.out _).mono ?_
            rintro e w1 ⟨rfl, rfl⟩
            have HF := Lib.hid (fun W v => HNO.out W v (by rw [HFB.out, e1, k5, e2]; rfl))
            clear HNO HY HNS HFB HS H
            go_wp2
            go_ret2
            exact ⟨_, _, rfl, Lib.hid (HF.out _ _), HB.out.alloc HB.out.size _⟩
          rw [e2] at K2
          go_wp2_with fail
          refine (K2.out _).mono ?_
          rintro e w1 ⟨rfl, rfl⟩
          have K4 := Lib.hid (fun W h1 h2 h3 => spec_l04None W wr.heap.size 4 r c adx m capx h1 h2 h3)
          cases e4 : (r == 0 && (c == 0 && decide (m = 0)))
          · rw [e4] at K4
            go_wp2_with fail
            refine (K4.out _ (by go_simp) (by go_simp) (by go_simp)).mono ?_
            rintro e w1 ⟨rfl, rfl⟩
            have HF := Lib.hid (fun W v => HNO.out W v (by rw [HFB.out, e1, k5, e2, if_neg hk0, e4]; rfl))
            clear HNO HY HNS HFB HS H
            go_wp2
            go_ret2
            exact ⟨_, _, rfl, Lib.hid (HF.out _ _), HB.out.alloc HB.out.size _⟩
          rw [e4] at K4
          go_wp2_with fail
          refine (K4.out _ (by go_simp) (by go_simp) (by go_simp)).mono ?_
          rintro e w1 ⟨rfl, rfl⟩
          have K5 := Lib.hid (fun W => l00In_any a 0 (k - 1) W)
          cases e5 : inB a 0 (k - 1)
          · rw [e5] at K5
            go_wp2_with fail
            refine (K5.out _).mono ?_
            rintro e w1 ⟨rfl, rfl⟩
            have HF := Lib.hid (fun W v => HNO.out W v (by rw [HFB.out, e1, k5, e2, if_neg hk0, e4, e5]; rfl))
            clear HNO HY HNS HFB HS H
            go_wp2
            go_ret2
            exact ⟨_, _, rfl, Lib.hid (HF.out _ _), HB.out.alloc HB.out.size _⟩
          rw [e5] at K5
          go_wp2_with fail
          refine (K5.out _).mono ?_
          rintro e w1 ⟨rfl, rfl⟩
          go_wp2_with fail
          refine (KT.out _).mono ?_
          rintro e w1 ⟨rfl, rfl⟩
          go_wp2_with fail
          refine (KT.out _).mono ?_
          rintro e w1 ⟨rfl, rfl⟩
          cases e6 : (b' == 0)
          · have e7 : (b' != 0) = true := by simpa [bne] using e6
            have HF := Lib.hid (fun W v => HNO.out W v (by rw [HFB.out, e1, k5, e2, if_neg hk0, e4, e5, hT, e6]; rfl))
            clear HNO HY HNS HFB HS H
            go_wp2
            go_ret2
            exact ⟨_, _, rfl, Lib.hid (HF.out _ _), HB.out.alloc HB.out.size _⟩
          obtain rfl : b' = 0 := by simpa using e6
          have ⟨a1, a2⟩ := inB_iff.1 e5
          obtain ⟨A, rfl⟩ : ∃ A : Nat, a = A := ⟨a.toNat, by omega⟩
          have hfit : fitsB k ⟨kk, A, 0, q, r, c, xs⟩ = true := by rw [HFB.out, e1, k5, e2, if_neg hk0, e4, e5, hT]; rfl
          have hAk : A < k := by omega
          have hBk : 0 < k := by omega
          have hya := HY.out hfit
          rw [if_neg hk0] at hya
          have hns := fun W v => HNS.out W v hfit hk0
          clear HNO HY HNS HFB e4 e5 e6 K1 K4 K5 KT K2 e2 ez hfit
          have hsa := shGet_some (S := S) (i := A) (by rw [HSL.out]; exact hAk)
          have hsb := shGet_some (S := S) (i := 0) (by rw [HSL.out]; exact hBk)
          obtain ⟨⟨v1, v2⟩, hv⟩ : ∃ v, v = shGet S A := ⟨_, rfl⟩
          obtain ⟨⟨u1, u2⟩, hu⟩ : ∃ v, v = shGet S 0 := ⟨_, rfl⟩
          rw [← hv] at hsa hya hns
          rw [show ((0 : Nat) : Int) = 0 by rfl, ← hu] at hsb
          rw [← hu] at hya hns
          obtain ⟨g, rfl, hgr, ca, hfz⟩ := HS.out.2.spot hsa (by decide)
          obtain ⟨g', eg, -, cb, -⟩ := HS.out.2.spot hsb (by decide)
          cases eg
          have ca0 : wr.cell? ⟨g, A * 3, none⟩ = some (.int .i64 v1) := ca 0 (by decide)
          have ca1 : wr.cell? ⟨g, A * 3 + 1, none⟩ = some (.int .i64 v2) := ca 1 (by decide)
          have ca2 : wr.cell? ⟨g, A * 3 + 2, none⟩ = some (.slice none 0 0) := ca 2 (by decide)
          have cb0 : wr.cell? ⟨g, 0 * 3, none⟩ = some (.int .i64 u1) := cb 0 (by decide)
          have cb1 : wr.cell? ⟨g, 0 * 3 + 1, none⟩ = some (.int .i64 u2) := cb 1 (by decide)
          have cb2 : wr.cell? ⟨g, 0 * 3 + 2, none⟩ = some (.slice none 0 0) := cb 2 (by decide)
          have hgl := hgr.2.2
          have HGR := Lib.hid hgr
          have HR := Lib.hid (fun W hb => sh_row HS.out.2 (W := W) hb)
          clear ca cb hsa hsb hv hu hgr
          go_upto_block 2 with fail
          go_cut [9] (fun f wx => ∃ b1 : Bool, ∃ s1 s2 : Int, f = .bool b1 ∧ Hid ((b1 = true ∧ shapeOf kk (v1, v2) (u1, u2) = some (s1, s2)) ∨ (b1 = false ∧ shapeOf kk (v1, v2) (u1, u2) = none)) ∧ Hid (BoxN wx (wr.heap.size + 1 + 1 + 1) [.int .i64 s1, .int .i64 s2, .slice none 0 0] ∧ Below wr.heap.size wr wx))
          case first =>
            clear hya hns HS HR HB
            rcases (by have := oneB_in hT; have := inB_iff.1 e1; omega : kk = 7 ∨ kk = 8 ∨ kk = 9 ∨ kk = 10) with rfl | rfl | rfl | rfl
            · as_aux_lemma =>
                go_wp2_with fail
                go_meet
                refine ⟨true, v2, v1, rfl, Lib.hid (.inl ⟨rfl, by simp [shapeOf]⟩), Lib.hid ⟨?_, ?_⟩⟩
                · exact BoxN.alloc4 wr _ _ _ #[.int .i64 v2, .int .i64 v1, .slice none 0 0] 27
                · repeat (first | exact Below.refl _ _ | refine Below.alloc ?_ (by simp; try omega) _)
            · as_aux_lemma =>
                go_wp2_with fail
                go_meet
                refine ⟨true, v1, v2, rfl, Lib.hid (.inl ⟨rfl, by simp [shapeOf]⟩), Lib.hid ⟨?_, ?_⟩⟩
                · exact BoxN.alloc4 wr _ _ _ #[.int .i64 v1, .int .i64 v2, .slice none 0 0] 27
                · repeat (first | exact Below.refl _ _ | refine Below.alloc ?_ (by simp; try omega) _)
            · as_aux_lemma =>
                go_wp2_with fail
                go_meet
                refine ⟨true, v1, v2, rfl, Lib.hid (.inl ⟨rfl, by simp [shapeOf]⟩), Lib.hid ⟨?_, ?_⟩⟩
                · exact BoxN.alloc4 wr _ _ _ #[.int .i64 v1, .int .i64 v2, .slice none 0 0] 27
                · repeat (first | exact Below.refl _ _ | refine Below.alloc ?_ (by simp; try omega) _)
            · as_aux_lemma =>
                go_wp2_with fail
                go_meet
                refine ⟨true, 1, 1, rfl, Lib.hid (.inl ⟨rfl, by simp [shapeOf]⟩), Lib.hid ⟨?_, ?_⟩⟩
                · exact BoxN.alloc4 wr _ _ _ #[.int .i64 1, .int .i64 1, .slice none 0 0] 27
                · repeat (first | exact Below.refl _ _ | refine Below.alloc ?_ (by simp; try omega) _)
          case rest =>
            obtain ⟨b1, s1, s2, rfl, HSH, HBX⟩ := hcut
            obtain ⟨bx, hb2⟩ := HBX.out
            obtain ⟨l9, t0, t1, t2, tf⟩ := bx.three
            have HB2 := Lib.hid hb2
            clear bx hb2 HBX p0 p1 p2 p3 p4 p5 p6 ca0 ca1 ca2 cb0 cb1 cb2 hfz
            cases b1
            · have hf : ∀ W v, ShOut (os.map OpD.toOpP) w W v false := fun W v => hns W v (by rcases HSH.out with h | h; exact absurd h.1 (by decide); exact h.2)
              have HF := Lib.hid hf
              clear hns hya hf HSH
              go_wp2
              go_ret2
              exact ⟨_, _, rfl, Lib.hid (HF.out _ _), HB.out.trans (HB2.out.mono HB.out.size)⟩
            · have hsh : shapeOf kk (v1, v2) (u1, u2) = some (s1, s2) := by
                rcases HSH.out with h | h
                · exact h.2
                · exact absurd h.1 (by decide)
              rw [hsh] at hya
              have HYA := Lib.hid hya
              clear hns hya hsh HSH
              go_wp2_with (at_builtin; refine wp_appA rfl _ _ 41 rfl w.heap.size i0 (.agg #[.int .i64 0, .int .i64 0, .slice none 0 0]) 3 40 Try.underlying41 hi0 hz0 hzs hz2 rfl (by decide) rfl (by intro u hu; simp at hu; rcases hu with rfl | rfl | rfl <;> rfl) _ _ _ rfl (HR.out _ HB2.out) (by go_simp) ?c3 ?c4 ?c5 ?_)
              case c3 => unfold maxLen; omega
              case c4 => omega
              case c5 => exact Nat.le_trans HB.out.size HB2.out.size
              intro v' w9 ho9 hg9 hat9 hb9 hs9
              obtain ⟨ad9, cap9, rfl, hown9⟩ := sh_snoc (s := (s1, s2)) HS.out.2 HB.out.size HB2.out ho9 hg9 (by simpa using hat9)
              have HO9 := Lib.hid (And.intro HYA.out hown9); have HB9 := Lib.hid ((HB.out.trans (HB2.out.mono HB.out.size)).trans hb9)
              clear ho9 hg9 hat9 hb9 HYA hown9 HR HS HB HB2
              go_wp2
              go_roundw
              case rel => exact ⟨k + 1, by go_num, hlt, _, _, _, rfl, HO9, HB9⟩
              case measure => simp [intOf]; omega
      · as_aux_lemma =>
          have KT := Lib.hid (fun W => spec_l04Two kk W)
          rw [hT] at KT
          have K1 := Lib.hid (fun W => l00In_any kk 0 10 W)
          rw [e1] at K1
          go_wp2_with fail
          refine (K1.out _).mono ?_
          rintro e w1 ⟨rfl, rfl⟩
          have K2 := Lib.hid (fun W => spec_l01Same q 0 hok2 (by decide) W)
          have ez : decide (cn .f32 q = cn .f32 0) = zeroB q := rfl
          rw [ez] at K2
          cases e2 : zeroB q
          · rw [e2] at K2
            go_wp2_with fail
            refine (K2.out _).mono ?_
            rintro e w1 ⟨rfl, rfl⟩
            have HF := Lib.hid (fun W v => HNO.out W v (by rw [HFB.out, e1, k5, e2]; rfl))
            clear HNO HY HNS HFB HS H
            go_wp2
            go_ret2
            exact ⟨_, _, rfl, Lib.hid (HF.out _ _), HB.out.alloc HB.out.size _⟩
          rw [e2] at K2
          go_wp2_with fail
          refine (K2.out _).mono ?_
          rintro e w1 ⟨rfl, rfl⟩
          have K4 := Lib.hid (fun W h1 h2 h3 => spec_l04None W wr.heap.size 4 r c adx m capx h1 h2 h3)
          cases e4 : (r == 0 && (c == 0 && decide (m = 0)))
          · rw [e4] at K4
            go_wp2_with fail
            refine (K4.out _ (by go_simp) (by go_simp) (by go_simp)).mono ?_
            rintro e w1 ⟨rfl, rfl⟩
            have HF := Lib.hid (fun W v => HNO.out W v (by rw [HFB.out, e1, k5, e2, if_neg hk0, e4]; rfl))
            clear HNO HY HNS HFB HS H
            go_wp2
            go_ret2
            exact ⟨_, _, rfl, Lib.hid (HF.out _ _), HB.out.alloc HB.out.size _⟩
          rw [e4] at K4
          go_wp2_with fail
          refine (K4.out _ (by go_simp) (by go_simp) (by go_simp)).mono ?_
          rintro e w1 ⟨rfl, rfl⟩
          have K5 := Lib.hid (fun W => l00In_any a 0 (k - 1) W)
          cases e5 : inB a 0 (k - 1)
          · rw [e5] at K5
            go_wp2_with fail
            refine (K5.out _).mono ?_
            rintro e w1 ⟨rfl, rfl⟩
            have HF := Lib.hid (fun W v => HNO.out W v (by rw [HFB.out, e1, k5, e2, if_neg hk0, e4, e5]; rfl))
            clear HNO HY HNS HFB HS H
            go_wp2
            go_ret2
            exact ⟨_, _, rfl, Lib.hid (HF.out _ _), HB.out.alloc HB.out.size _⟩
          rw [e5] at K5
          go_wp2_with fail
          refine (K5.out _).mono ?_
          rintro e w1 ⟨rfl, rfl⟩
          go_wp2_with fail
          refine (KT.out _).mono ?_
          rintro e w1 ⟨rfl, rfl⟩
          have K6 := Lib.hid (fun W => l00In_any b' 0 (k - 1) W)
          cases e6 : inB b' 0 (k - 1)
          · rw [e6] at K6
            go_wp2_with fail
            refine (K6.out _).mono ?_
            rintro e w1 ⟨rfl, rfl⟩
            have HF := Lib.hid (fun W v => HNO.out W v (by rw [HFB.out, e1, k5, e2, if_neg hk0, e4, e5, hT, if_pos rfl, e6]; rfl))
            clear HNO HY HNS HFB HS H
            go_wp2
            go_ret2
            exact ⟨_, _, rfl, Lib.hid (HF.out _ _), HB.out.alloc HB.out.size _⟩
          rw [e6] at K6
          go_wp2_with fail
          refine (K6.out _).mono ?_
          rintro e w1 ⟨rfl, rfl⟩
          go_wp2_with fail
          refine (KT.out _).mono ?_
          rintro e w1 ⟨rfl, rfl⟩
          have ⟨a1, a2⟩ := inB_iff.1 e5
          have ⟨b1, b2⟩ := inB_iff.1 e6
          obtain ⟨A, rfl⟩ : ∃ A : Nat, a = A := ⟨a.toNat, by omega⟩
          obtain ⟨B, rfl⟩ : ∃ B : Nat, b' = B := ⟨b'.toNat, by omega⟩
          have hfit : fitsB k ⟨kk, A, B, q, r, c, xs⟩ = true := by rw [HFB.out, e1, k5, e2, if_neg hk0, e4, e5, hT, if_pos rfl, e6]; rfl
          have hAk : A < k := by omega
          have hBk : B < k := by omega
          have hya := HY.out hfit
          rw [if_neg hk0] at hya
          have hns := fun W v => HNS.out W v hfit hk0
          clear HNO HY HNS HFB e4 e5 e6 K1 K4 K5 K6 KT K2 e2 ez hfit
          have hsa := shGet_some (S := S) (i := A) (by rw [HSL.out]; exact hAk)
          have hsb := shGet_some (S := S) (i := B) (by rw [HSL.out]; exact hBk)
          obtain ⟨⟨v1, v2⟩, hv⟩ : ∃ v, v = shGet S A := ⟨_, rfl⟩
          obtain ⟨⟨u1, u2⟩, hu⟩ : ∃ v, v = shGet S B := ⟨_, rfl⟩
          rw [← hv] at hsa hya hns
          rw [← hu] at hsb hya hns
          obtain ⟨g, rfl, hgr, ca, hfz⟩ := HS.out.2.spot hsa (by decide)
          obtain ⟨g', eg, -, cb, -⟩ := HS.out.2.spot hsb (by decide)
          cases eg
          have ca0 : wr.cell? ⟨g, A * 3, none⟩ = some (.int .i64 v1) := ca 0 (by decide)
          have ca1 : wr.cell? ⟨g, A * 3 + 1, none⟩ = some (.int .i64 v2) := ca 1 (by decide)
          have ca2 : wr.cell? ⟨g, A * 3 + 2, none⟩ = some (.slice none 0 0) := ca 2 (by decide)
          have cb0 : wr.cell? ⟨g, B * 3, none⟩ = some (.int .i64 u1) := cb 0 (by decide)
          have cb1 : wr.cell? ⟨g, B * 3 + 1, none⟩ = some (.int .i64 u2) := cb 1 (by decide)
          have cb2 : wr.cell? ⟨g, B * 3 + 2, none⟩ = some (.slice none 0 0) := cb 2 (by decide)
          have hgl := hgr.2.2
          have HGR := Lib.hid hgr
          have HR := Lib.hid (fun W hb => sh_row HS.out.2 (W := W) hb)
          clear ca cb hsa hsb hv hu hgr
          go_upto_block 2 with fail
          go_cut [9] (fun f wx => ∃ b1 : Bool, ∃ s1 s2 : Int, f = .bool b1 ∧ Hid ((b1 = true ∧ shapeOf kk (v1, v2) (u1, u2) = some (s1, s2)) ∨ (b1 = false ∧ shapeOf kk (v1, v2) (u1, u2) = none)) ∧ Hid (BoxN wx (wr.heap.size + 1 + 1 + 1) [.int .i64 s1, .int .i64 s2, .slice none 0 0] ∧ Below wr.heap.size wr wx))
          case first =>
            clear hya hns HS HR HB
            rcases (twoB_in hT) with rfl | rfl | rfl | rfl | rfl
            · as_aux_lemma =>
                by_cases hf3 : v1 = u1
                · subst hf3
                  by_cases hf2 : v2 = u2
                  · subst hf2
                    have t1 : (v1 == v1) = true := beq_self_eq_true _
                    have t2 : (v2 == v2) = true := beq_self_eq_true _
                    go_wp2_with fail
                    go_meet
                    refine ⟨true, v1, v2, rfl, Lib.hid (.inl ⟨rfl, by simp [shapeOf]⟩), Lib.hid ⟨?_, ?_⟩⟩
                    · exact BoxN.alloc4 wr _ _ _ #[.int .i64 v1, .int .i64 v2, .slice none 0 0] 27
                    · repeat (first | exact Below.refl _ _ | refine Below.alloc ?_ (by simp; try omega) _)
                  · have t1 : (v1 == v1) = true := beq_self_eq_true _
                    have t2 : (v2 == u2) = false := by simpa using hf2
                    go_wp2_with fail
                    go_meet
                    refine ⟨false, v1, v2, rfl, Lib.hid (.inr ⟨rfl, by simp [shapeOf, hf2]⟩), Lib.hid ⟨?_, ?_⟩⟩
                    · exact BoxN.alloc4 wr _ _ _ #[.int .i64 v1, .int .i64 v2, .slice none 0 0] 27
                    · repeat (first | exact Below.refl _ _ | refine Below.alloc ?_ (by simp; try omega) _)
                · have t1 : (v1 == u1) = false := by simpa using hf3
                  go_wp2_with fail
                  go_meet
                  refine ⟨false, v1, v2, rfl, Lib.hid (.inr ⟨rfl, by simp [shapeOf, hf3]⟩), Lib.hid ⟨?_, ?_⟩⟩
                  · exact BoxN.alloc4 wr _ _ _ #[.int .i64 v1, .int .i64 v2, .slice none 0 0] 27
                  · repeat (first | exact Below.refl _ _ | refine Below.alloc ?_ (by simp; try omega) _)
            · as_aux_lemma =>
                by_cases hf3 : u1 = 1
                · subst hf3
                  by_cases hf2 : v2 = u2
                  · subst hf2
                    have t2 : (v2 == v2) = true := beq_self_eq_true _
                    go_wp2_with fail
                    go_meet
                    refine ⟨true, v1, v2, rfl, Lib.hid (.inl ⟨rfl, by simp [shapeOf]⟩), Lib.hid ⟨?_, ?_⟩⟩
                    · exact BoxN.alloc4 wr _ _ _ #[.int .i64 v1, .int .i64 v2, .slice none 0 0] 27
                    · repeat (first | exact Below.refl _ _ | refine Below.alloc ?_ (by simp; try omega) _)
                  · have t2 : (v2 == u2) = false := by simpa using hf2
                    go_wp2_with fail
                    go_meet
                    refine ⟨false, v1, v2, rfl, Lib.hid (.inr ⟨rfl, by simp [shapeOf, Ne.symm hf2]⟩), Lib.hid ⟨?_, ?_⟩⟩
                    · exact BoxN.alloc4 wr _ _ _ #[.int .i64 v1, .int .i64 v2, .slice none 0 0] 27
                    · repeat (first | exact Below.refl _ _ | refine Below.alloc ?_ (by simp; try omega) _)
                · have t1 : (u1 == 1) = false := by simpa using hf3
                  go_wp2_with fail
                  go_meet
                  refine ⟨false, v1, v2, rfl, Lib.hid (.inr ⟨rfl, by simp [shapeOf, hf3]⟩), Lib.hid ⟨?_, ?_⟩⟩
                  · exact BoxN.alloc4 wr _ _ _ #[.int .i64 v1, .int .i64 v2, .slice none 0 0] 27
                  · repeat (first | exact Below.refl _ _ | refine Below.alloc ?_ (by simp; try omega) _)
            · as_aux_lemma =>
                by_cases hf3 : v1 = u1
                · subst hf3
                  by_cases hf2 : v2 = u2
                  · subst hf2
                    have t1 : (v1 == v1) = true := beq_self_eq_true _
                    have t2 : (v2 == v2) = true := beq_self_eq_true _
                    go_wp2_with fail
                    go_meet
                    refine ⟨true, v1, v2, rfl, Lib.hid (.inl ⟨rfl, by simp [shapeOf]⟩), Lib.hid ⟨?_, ?_⟩⟩
                    · exact BoxN.alloc4 wr _ _ _ #[.int .i64 v1, .int .i64 v2, .slice none 0 0] 27
                    · repeat (first | exact Below.refl _ _ | refine Below.alloc ?_ (by simp; try omega) _)
                  · have t1 : (v1 == v1) = true := beq_self_eq_true _
                    have t2 : (v2 == u2) = false := by simpa using hf2
                    go_wp2_with fail
                    go_meet
                    refine ⟨false, v1, v2, rfl, Lib.hid (.inr ⟨rfl, by simp [shapeOf, hf2]⟩), Lib.hid ⟨?_, ?_⟩⟩
                    · exact BoxN.alloc4 wr _ _ _ #[.int .i64 v1, .int .i64 v2, .slice none 0 0] 27
                    · repeat (first | exact Below.refl _ _ | refine Below.alloc ?_ (by simp; try omega) _)
                · have t1 : (v1 == u1) = false := by simpa using hf3
                  go_wp2_with fail
                  go_meet
                  refine ⟨false, v1, v2, rfl, Lib.hid (.inr ⟨rfl, by simp [shapeOf, hf3]⟩), Lib.hid ⟨?_, ?_⟩⟩
                  · exact BoxN.alloc4 wr _ _ _ #[.int .i64 v1, .int .i64 v2, .slice none 0 0] 27
                  · repeat (first | exact Below.refl _ _ | refine Below.alloc ?_ (by simp; try omega) _)
            · as_aux_lemma =>
                by_cases hf3 : u1 = 1
                · subst hf3
                  by_cases hf2 : v2 = u2
                  · subst hf2
                    have t2 : (v2 == v2) = true := beq_self_eq_true _
                    go_wp2_with fail
                    go_meet
                    refine ⟨true, v1, v2, rfl, Lib.hid (.inl ⟨rfl, by simp [shapeOf]⟩), Lib.hid ⟨?_, ?_⟩⟩
                    · exact BoxN.alloc4 wr _ _ _ #[.int .i64 v1, .int .i64 v2, .slice none 0 0] 27
                    · repeat (first | exact Below.refl _ _ | refine Below.alloc ?_ (by simp; try omega) _)
                  · have t2 : (v2 == u2) = false := by simpa using hf2
                    go_wp2_with fail
                    go_meet
                    refine ⟨false, v1, v2, rfl, Lib.hid (.inr ⟨rfl, by simp [shapeOf, Ne.symm hf2]⟩), Lib.hid ⟨?_, ?_⟩⟩
                    · exact BoxN.alloc4 wr _ _ _ #[.int .i64 v1, .int .i64 v2, .slice none 0 0] 27
                    · repeat (first | exact Below.refl _ _ | refine Below.alloc ?_ (by simp; try omega) _)
                · have t1 : (u1 == 1) = false := by simpa using hf3
                  go_wp2_with fail
                  go_meet
                  refine ⟨false, v1, v2, rfl, Lib.hid (.inr ⟨rfl, by simp [shapeOf, hf3]⟩), Lib.hid ⟨?_, ?_⟩⟩
                  · exact BoxN.alloc4 wr _ _ _ #[.int .i64 v1, .int .i64 v2, .slice none 0 0] 27
                  · repeat (first | exact Below.refl _ _ | refine Below.alloc ?_ (by simp; try omega) _)
            · as_aux_lemma =>
                by_cases hf3 : v2 = u1
                · subst hf3
                  have t2 : (v2 == v2) = true := beq_self_eq_true _
                  go_wp2_with fail
                  go_meet
                  refine ⟨true, v1, u2, rfl, Lib.hid (.inl ⟨rfl, by simp [shapeOf]⟩), Lib.hid ⟨?_, ?_⟩⟩
                  · exact BoxN.alloc4 wr _ _ _ #[.int .i64 v1, .int .i64 u2, .slice none 0 0] 27
                  · repeat (first | exact Below.refl _ _ | refine Below.alloc ?_ (by simp; try omega) _)
                · have t1 : (v2 == u1) = false := by simpa using hf3
                  go_wp2_with fail
                  go_meet
                  refine ⟨false, v1, u2, rfl, Lib.hid (.inr ⟨rfl, by simp [shapeOf, hf3]⟩), Lib.hid ⟨?_, ?_⟩⟩
                  · exact BoxN.alloc4 wr _ _ _ #[.int .i64 v1, .int .i64 u2, .slice none 0 0] 27
                  · repeat (first | exact Below.refl _ _ | refine Below.alloc ?_ (by simp; try omega) _)
          case rest =>
            obtain ⟨b1, s1, s2, rfl, HSH, HBX⟩ := hcut
            obtain ⟨bx, hb2⟩ := HBX.out
            obtain ⟨l9, t0, t1, t2, tf⟩ := bx.three
            have HB2 := Lib.hid hb2
            clear bx hb2 HBX p0 p1 p2 p3 p4 p5 p6 ca0 ca1 ca2 cb0 cb1 cb2 hfz
            cases b1
            · have hf : ∀ W v, ShOut (os.map OpD.toOpP) w W v false := fun W v => hns W v (by rcases HSH.out with h | h; exact absurd h.1 (by decide); exact h.2)
              have HF := Lib.hid hf
              clear hns hya hf HSH
              go_wp2
              go_ret2
              exact ⟨_, _, rfl, Lib.hid (HF.out _ _), HB.out.trans (HB2.out.mono HB.out.size)⟩
            · have hsh : shapeOf kk (v1, v2) (u1, u2) = some (s1, s2) := by
                rcases HSH.out with h | h
                · exact h.2
                · exact absurd h.1 (by decide)
              rw [hsh] at hya
              have HYA := Lib.hid hya
              clear hns hya hsh HSH
              go_wp2_with (at_builtin; refine wp_appA rfl _ _ 41 rfl w.heap.size i0 (.agg #[.int .i64 0, .int .i64 0, .slice none 0 0]) 3 40 Try.underlying41 hi0 hz0 hzs hz2 rfl (by decide) rfl (by intro u hu; simp at hu; rcases hu with rfl | rfl | rfl <;> rfl) _ _ _ rfl (HR.out _ HB2.out) (by go_simp) ?c3 ?c4 ?c5 ?_)
              case c3 => unfold maxLen; omega
              case c4 => omega
              case c5 => exact Nat.le_trans HB.out.size HB2.out.size
              intro v' w9 ho9 hg9 hat9 hb9 hs9
              obtain ⟨ad9, cap9, rfl, hown9⟩ := sh_snoc (s := (s1, s2)) HS.out.2 HB.out.size HB2.out ho9 hg9 (by simpa using hat9)
              have HO9 := Lib.hid (And.intro HYA.out hown9); have HB9 := Lib.hid ((HB.out.trans (HB2.out.mono HB.out.size)).trans hb9)
              clear ho9 hg9 hat9 hb9 HYA hown9 HR HS HB HB2
              go_wp2
              go_roundw
              case rel => exact ⟨k + 1, by go_num, hlt, _, _, _, rfl, HO9, HB9⟩
              case measure => simp [intOf]; omega
    · have hkn : k = n := by omega
      subst hkn
      have hf : ShOut (os.map OpD.toOpP) w wr (.slice ad' k cap') true := by
        have hl := shapesN_length (by rw [← HP.out]; exact Nat.le_refl _) HS.out.1
        have he := (shapesP_eq HP.out hn1 hn2).trans HS.out.1
        refine ⟨by rw [he]; rfl, fun S' hS' => ?_⟩
        rw [he] at hS'; cases hS'
        rw [hl]
        exact ⟨_, _, rfl, HS.out.2⟩
      have HF := Lib.hid hf; clear hf
      go_wp2
      go_ret2
      exact ⟨_, _, rfl, HF, HB.out⟩
end Go.Proofs.Ytpemhiaeiecinaa
/- Which operations a tape's last value depends on: the reference. No condition. -/
namespace Go.Proofs.Ytpemhiaeiecinaa
open Go Go.RowKit
set_option linter.unusedVariables false
set_option linter.unusedSimpArgs false
theorem spec_l04Is (w : World) (ad : Option Addr) (cap : Nat) (os : List OpD) (h : SeeR opR w ad cap os) :
    Calls Try.prog 164 #[.slice ad os.length cap] w fun e w' => e = .returned (.bool (shapesP (os.map OpD.toOpP)).isSome) ∧ Below w.heap.size w w' := by
  have K := Lib.hid (spec_l04Shapes w ad cap os h)
  clear h
  go_enter Try.func164, Try.ntmps164
  go_wp2_with fail
  refine K.out.mono ?_
  rintro e w1 ⟨v, b, rfl, hs, hb⟩
  have HS := Lib.hid hs.out.1
  clear hs
  go_wp2
  go_ret
  exact ⟨by rw [HS.out]; rfl, hb⟩
theorem info_bool : (Try.prog.info? 4).map (fun i => (i.zero, i.size, i.bytes)) = some (some (.bool false), 1, 1) := by kernel_rfl
/-- the marks of what is used -/
structure RepU (w : World) (g n : Nat) (U : List Bool) : Prop where
  own : w.ownsRow g 4 1 (.slice (some ⟨g, 0, none⟩) n n) n (U.map Value.bool)
  len : U.length = n
theorem RepU.below {w w' : World} {g n : Nat} {U : List Bool} (h : RepU w g n U) (hb : Below w.heap.size w w') : RepU w' g n U := ⟨owns_below h.own hb, h.len⟩
theorem RepU.set {w : World} {g n : Nat} {U : List Bool} (h : RepU w g n U) (k : Nat) : RepU (w.setCell ⟨g, k, none⟩ (.bool true)) g n (U.set k true) :=
  ⟨by rw [List.map_set]; exact (h.own.stored k (.bool true)).1, by rw [List.length_set]; exact h.len⟩
theorem RepU.cell {w : World} {g n : Nat} {U : List Bool} (h : RepU w g n U) {k : Nat} (hk : k < n) : w.cell? ⟨g, k, none⟩ = some (.bool (U.getD k false)) := by
  rw [h.own.cellAt k (by omega), List.getElem?_map, List.getElem?_eq_getElem (by rw [h.len]; exact hk), List.getD_eq_getElem?_getD, List.getElem?_eq_getElem (by rw [h.len]; exact hk)]; rfl
theorem RepU.fz {w : World} {g n : Nat} {U : List Bool} (h : RepU w g n U) (k : Nat) : w.frozen? ⟨g, k, none⟩ = false := h.own.frozenAt k
theorem RepU.lt {w : World} {g n : Nat} {U : List Bool} (h : RepU w g n U) : g < w.heap.size := (h.own.lt g rfl).2
theorem stepU_no {U : List Bool} {i : Nat} {o : OpP} (h : U.getD i false = false ∨ o.k = 0) : stepU U i o = U := by
  unfold stepU; rw [if_neg]; rintro ⟨h1, h2⟩; rcases h with h | h
  · rw [h] at h1; cases h1
  · exact h2 h
theorem stepU_one {U : List Bool} {i : Nat} {o : OpP} (h : U.getD i false = true) (hk : o.k ≠ 0) (ht : twoB o.k = false) : stepU U i o = U.set o.a.toNat true := by
  unfold stepU; rw [if_pos ⟨h, hk⟩, if_neg (by rw [ht]; decide)]
theorem stepU_two {U : List Bool} {i : Nat} {o : OpP} (h : U.getD i false = true) (hk : o.k ≠ 0) (ht : twoB o.k = true) : stepU U i o = (U.set o.a.toNat true).set o.b.toNat true := by
  unfold stepU; rw [if_pos ⟨h, hk⟩, if_pos ht]
theorem usedM_next {os : List OpP} {n i : Nat} {o : OpP} (hn : n = os.length) (hi : i < n) (ho : os[i]? = some o) : usedM os (n - i) = stepU (usedM os (n - (i + 1))) i o := by
  rw [show n - i = (n - (i + 1)) + 1 by omega, usedM, show os.length - 1 - (n - (i + 1)) = i by omega, opAtP_some ho]
/-- an operation is gone by -/
theorem usedF_step {os : List OpP} {U V : List Bool} {n i : Nat} {o : OpP} (hf : fitsB i o = true) (hV : V = stepU U i o) (hi : i < n) : usedF V i n = (if U.getD i false = true then [(i : Int)] else []) ++ usedF U (i + 1) n := by
  subst hV
  rw [usedF_cons _ hi, stepU_keep hf (Nat.le_refl _)]
  congr 1
  exact usedF_congr fun j h1 h2 => stepU_keep hf (by omega)
theorem getElem_some {α : Type} {us : List α} {i : Nat} (h : i < us.length) : us[i]? = some us[i] := List.getElem?_eq_getElem h
/-- what both tell of what is used -/
def UsedOut (os : List OpP) (w w' : World) (ad : Option Addr) (n cap : Nat) (b : Bool) (xs : List Int) : Prop := (b = (shapesP os).isSome ∧ xs = if (shapesP os).isSome = true then usedP os else []) ∧ RepI w' w.heap.size w'.heap.size ad n cap xs
end Go.Proofs.Ytpemhiaeiecinaa
/- The shapes of the values of a tape: the program. No condition. -/
namespace Go.Proofs.Ytpemhiaeiecinaa
open Go Go.RowKit
set_option linter.unusedVariables false
set_option linter.unusedSimpArgs false
def shR : RecT Sh := ⟨157, 2, fun s => [.int .i64 s.1, .int .i64 s.2], fun _ => [], fun _ => True, fun _ => rfl⟩
theorem info_sh : (Try.prog.info? 157).map (fun i => (i.zero, i.size, i.bytes)) = some (some (.agg #[.int .i64 0, .int .i64 0]), 2, 16) := by kernel_rfl
theorem shapesP_eq' {os : List OpP} {n : Nat} (h : n = os.length) (h1 : 1 ≤ n) (h2 : n ≤ 48) : shapesP os = shapesN os n := by
  unfold shapesP; rw [← h, if_pos ⟨h1, h2⟩]
theorem shapesP_no' {os : List OpP} {n : Nat} (h : n = os.length) (h1 : ¬(1 ≤ n ∧ n ≤ 48)) : shapesP os = none := by
  unfold shapesP; rw [← h, if_neg h1]
theorem shapes_stop' {os : List OpP} {n k : Nat} {o : OpP} {S : List Sh} (hn : n = os.length) (h1 : 1 ≤ n) (h2 : n ≤ 48) (ho : os[k]? = some o) (hS : shapesN os k = some S) (h : stepSh S o = none) : shapesP os = none := by
  have hk : k < os.length := (List.getElem?_eq_some_iff.1 ho).1
  rw [shapesP_eq' hn h1 h2]
  refine shapesN_none (k := k + 1) ?_ (by omega) (by omega)
  rw [shapesN_succ ho, hS]; exact h
theorem step_unfit' {S : List Sh} {o : OpP} (h : fitsB S.length o = false) : stepSh S o = none := by
  unfold stepSh; rw [h]; rfl
theorem shGet_some' {S : List Sh} {i : Nat} (h : i < S.length) : S[i]? = some (shGet S (i : Int)) := by
  unfold shGet
  rw [List.getD_eq_getElem?_getD, Int.toNat_natCast, List.getElem?_eq_getElem h]; rfl
/-- what the program tells of the shapes -/
def ShIm (os : List OpP) (w w' : World) (v : Value) (b : Bool) : Prop := b = (shapesP os).isSome ∧ ∀ S, shapesP os = some S → ∃ ad cap, v = .slice ad S.length cap ∧ OwnR shR w' w.heap.size w'.heap.size ad S.length cap S
theorem ShIm.no {os : List OpP} {w w' : World} {v : Value} (h : shapesP os = none) : ShIm os w w' v false := ⟨by rw [h]; rfl, fun S hS => by rw [h] at hS; cases hS⟩
theorem sh2_snoc {w W w9 : World} {B k cap : Nat} {ad : Option Addr} {S : List Sh} {s : Sh} {v' : Value} {o : Obj} (h : OwnR shR w B w.heap.size ad k cap S) (hB : B ≤ w.heap.size) (hb : Below w.heap.size w W)
    (ho : w9.ownsRow B 157 2 v' (k + 1) (S.flatMap shR.cells ++ [.int .i64 s.1, .int .i64 s.2])) (hg : (W.alloc o).grownBy w9 (Value.slice ad k cap).ownBlock) (hat : v'.ownBlock = (Value.slice ad k cap).ownBlock ∨ v'.ownBlock = some (W.heap.size + 1)) :
    ∃ ad' cap', v' = .slice ad' (k + 1) cap' ∧ OwnR shR w9 B w9.heap.size ad' (k + 1) cap' (S ++ [s]) :=
  h.snoc hB hb trivial (Own.nil W _ W.heap.size) (Nat.le_refl _) hb.size ho hg hat
theorem sh2_row {w W : World} {B k cap : Nat} {ad : Option Addr} {S : List Sh} (h : OwnR shR w B w.heap.size ad k cap S) (hb : Below w.heap.size w W) : W.ownsRow B 157 2 (.slice ad k cap) k (S.flatMap shR.cells) := (h.below hb).own.head.own
set_option maxHeartbeats 32000000 in
set_option maxRecDepth 100000 in
theorem impl_shapes (w : World) (ad : Option Addr) (cap : Nat) (os : List OpD) (h : SeeR opR w ad cap os) :
    Calls Try.prog 148 #[.slice ad os.length cap] w fun e w' => ∃ v b, e = .returned (.tuple #[v, .bool b]) ∧ Hid (ShIm (os.map OpD.toOpP) w w' v b) ∧ Below w.heap.size w w' := by
  obtain ⟨i0, hi0, hz0, hzs, hz2⟩ := info_parts info_sh
  have hm := Nat.le_trans h.le h.cap
  unfold maxLen at hm
  obtain ⟨n, hN⟩ : ∃ n, n = os.length := ⟨_, rfl⟩
  have hP : n = (os.map OpD.toOpP).length := by rw [List.length_map]; exact hN
  rw [← hN] at hm ⊢
  have HN := Lib.hid hN; have HP := Lib.hid hP; have H := Lib.hid h; clear hN hP h
  by_cases hr : (1 ≤ n ∧ n ≤ 48)
  rotate_left
  · have HS := Lib.hid (shapesP_no' HP.out hr)
    by_cases h0 : n = 0
    · subst h0
      go_enter Try.func148, Try.ntmps148
      go_wp2
      go_ret2
      exact ⟨_, _, rfl, Lib.hid (ShIm.no HS.out), Below.refl _ _⟩
    · have h48 : 48 < n := by omega
      clear hr h0
      go_enter Try.func148, Try.ntmps148
      go_wp2
      go_ret2
      exact ⟨_, _, rfl, Lib.hid (ShIm.no HS.out), Below.refl _ _⟩
  obtain ⟨hn1, hn2⟩ := hr
  go_enter Try.func148, Try.ntmps148
  go_wp2
  go_loopw [4, 22] (fun v i wt => ∃ k : Nat, i = .int .i64 k ∧ k ≤ n ∧ ∃ (S : List Sh) (ad' : Option Addr) (cap' : Nat), v = .slice ad' k cap' ∧ Hid (shapesN (os.map OpD.toOpP) k = some S ∧ OwnR shR wt w.heap.size wt.heap.size ad' k cap' S) ∧ Hid (Below w.heap.size w wt)) (fun _ i _ => n - (intOf i).toNat)
  case atStart =>
    refine ⟨0, rfl, Nat.zero_le _, [], _, _, rfl, Lib.hid ⟨rfl, ?_⟩, Lib.hid (below1 _ _)⟩
    exact ⟨Own.one (Row.mk' (World.ownsRow_made _ _ _ (Nat.le_refl _) (Nat.zero_le _) rfl)), rfl, fun a ha => (nomatch ha)⟩
  case round =>
    obtain ⟨k, rfl, hk, S, ad', cap', rfl, HS, HB⟩ := hrel
    by_cases hlt : k < n
    · obtain ⟨o, ho⟩ := getElem?_lt (show k < os.length by rw [← HN.out]; exact hlt)
      obtain ⟨b, off, rfl, hbl, ⟨p0, p1, p2, p3, p4, p5, p6⟩, hf, hok⟩ := op_spot (H.out.below HB.out) ho
      have hop : (os.map OpD.toOpP)[k]? = some o.toOpP := by rw [List.getElem?_map, ho]; rfl
      have hSl := shapesN_length (by rw [← HP.out]; omega) HS.out.1
      have hxm : o.xs.length ≤ maxLen := Nat.le_trans hf.len hf.cap
      have hno : ∀ (W : World) (v : Value), fitsB k o.toOpP = false → ShIm (os.map OpD.toOpP) w W v false := fun _ _ h1 => ShIm.no (shapes_stop' HP.out hn1 hn2 hop HS.out.1 (step_unfit' (by rw [hSl]; exact h1)))
      have hyes : fitsB k o.toOpP = true → shapesN (os.map OpD.toOpP) (k + 1) = (if o.k = 0 then some (S ++ [(o.r, o.c)]) else (shapeOf o.k (shGet S o.a) (shGet S o.b)).map fun s => S ++ [s]) := by
        intro h1
        rw [shapesN_succ hop, HS.out.1]
        show stepSh S o.toOpP = _
        unfold stepSh
        rw [hSl, if_pos h1]
      have hnoS : ∀ (W : World) (v : Value), fitsB k o.toOpP = true → o.k ≠ 0 → shapeOf o.k (shGet S o.a) (shGet S o.b) = none → ShIm (os.map OpD.toOpP) w W v false := fun _ _ h1 h2 h3 => ShIm.no (shapes_stop' HP.out hn1 hn2 hop HS.out.1 (by unfold stepSh; rw [hSl, if_pos h1, if_neg h2, h3]; rfl))
      have K1 := Lib.hid (fun W => impl_fieldsFit W o k (by omega) hxm hok.2.1)
      have HNO := Lib.hid hno; have HY := Lib.hid hyes; have HNS := Lib.hid hnoS; have HSL := Lib.hid hSl
      clear hno hyes hnoS hop ho hf hSl hok hxm
      have hbx := BoxN.alloc wr o.cells.toArray 102
      have BX := Lib.hid (show BoxN (wr.alloc (.cells o.cells.toArray 102)) wr.heap.size o.cells from hbx)
      clear hbx
      obtain ⟨⟨kk, a, b', q, r, c, xs⟩, adx, capx⟩ := o
      unfold OpD.val at K1
      unfold OpD.cells at BX
      simp only at p0 p1 p2 p3 p4 p5 p6 HY HNO HNS K1 BX
      obtain ⟨m, hM⟩ : ∃ m, m = xs.length := ⟨_, rfl⟩
      rw [← hM] at p6 K1 BX
      clear hM
      cases e1 : fitsB k ⟨kk, a, b', q, r, c, xs⟩
      · rw [e1] at K1
        go_wp2_with fail
        refine (K1.out _).mono ?_
        rintro e w1 ⟨rfl, hb1⟩
        have HF := Lib.hid (fun W v => HNO.out W v e1)
        have HB1 := Lib.hid (bthen (HB.out.alloc HB.out.size _) (by simpa using hb1)); clear hb1
        clear HNO HY HNS e1
        go_wp2
        go_ret2
        exact ⟨_, _, rfl, Lib.hid (HF.out _ _), HB1.out⟩
      rw [e1] at K1
      by_cases hk0 : kk = 0
      · as_aux_lemma =>
          subst hk0
          have hya := HY.out e1
          rw [if_pos rfl] at hya
          clear HNO HY HNS e1
          go_wp2_with fail
          refine (K1.out _).mono ?_
          rintro e w1 ⟨rfl, hb1⟩
          obtain ⟨-, x0, x1, x2, x3, x4, x5, x6, xf⟩ := (BX.out.below hb1).seven
          have hsz1 : wr.heap.size + 1 ≤ w1.heap.size := by have := hb1.size; simpa using this
          have HB1 : Hid (Below wr.heap.size wr w1) := Lib.hid (bthen (below1 wr _) hb1)
          have HR := Lib.hid (fun W hb => sh2_row HS.out.2 (W := W) hb)
          clear hb1 p0 p1 p2 p3 p4 p5 p6 K1 BX H HN HP HSL
          go_wp2_with (at_builtin; refine wp_appA rfl _ _ 153 rfl w.heap.size i0 (.agg #[.int .i64 0, .int .i64 0]) 2 16 Try.underlying153 hi0 hz0 hzs hz2 rfl (by decide) rfl (by intro u hu; simp at hu; rcases hu with rfl | rfl <;> rfl) _ _ _ rfl (HR.out _ HB1.out) (by go_simp) ?c3 ?c4 ?c5 ?_)
          case c3 => unfold maxLen; omega
          case c4 => omega
          case c5 => exact Nat.le_trans HB.out.size HB1.out.size
          intro v' w9 ho9 hg9 hat9 hb9 hs9
          obtain ⟨ad9, cap9, rfl, hown9⟩ := sh2_snoc (s := (r, c)) HS.out.2 HB.out.size HB1.out ho9 hg9 (by simpa using hat9)
          have HO9 := Lib.hid (And.intro hya hown9); have HB9 := Lib.hid ((HB.out.trans (HB1.out.mono HB.out.size)).trans hb9)
          clear ho9 hg9 hat9 hb9 hya hown9 HR HS HB HB1
          go_wp2
          refine ⟨?rel, ?measure⟩
          case rel => exact ⟨k + 1, by go_num, hlt, _, _, _, rfl, HO9, HB9⟩
          case measure => simp [intOf]; omega
      have ⟨a1, a2⟩ := (fitsB_args e1 hk0).1
      have ⟨b1, b2⟩ := (fitsB_args e1 hk0).2.1
      simp only at a1 a2 b1 b2
      obtain ⟨A, rfl⟩ : ∃ A : Nat, a = A := ⟨a.toNat, by omega⟩
      obtain ⟨B, rfl⟩ : ∃ B : Nat, b' = B := ⟨b'.toNat, by omega⟩
      have hAk : A < k := by omega
      have hBk : B < k := by omega
      have hya := HY.out e1
      rw [if_neg hk0] at hya
      have hns := fun W v => HNS.out W v e1 hk0
      have hkr := fitsB_in e1
      simp only at hkr
      have HKR := Lib.hid hkr
      clear hkr HNO HY HNS e1 a1 a2 b1 b2
      have hsa := shGet_some' (S := S) (i := A) (by rw [HSL.out]; exact hAk)
      have hsb := shGet_some' (S := S) (i := B) (by rw [HSL.out]; exact hBk)
      obtain ⟨⟨v1, v2⟩, hv⟩ : ∃ v, v = shGet S A := ⟨_, rfl⟩
      obtain ⟨⟨u1, u2⟩, hu⟩ : ∃ v, v = shGet S B := ⟨_, rfl⟩
      rw [← hv] at hsa hya hns
      rw [← hu] at hsb hya hns
      obtain ⟨g, rfl, hgr, ca, hfz⟩ := HS.out.2.spot hsa (by decide)
      obtain ⟨g', eg, -, cb, -⟩ := HS.out.2.spot hsb (by decide)
      cases eg
      have CA := Lib.hid ca; have CB := Lib.hid cb; have HGR := Lib.hid hgr
      clear ca cb hgr hsa hsb hv hu
      have hk0' : (kk == 0) = false := by simpa using hk0
      go_wp2_with fail
      refine (K1.out _).mono ?_
      rintro e w1 ⟨rfl, hb1⟩
      obtain ⟨-, x0, x1, x2, x3, x4, x5, x6, xf⟩ := (BX.out.below hb1).seven
      have hsz1 : wr.heap.size + 1 ≤ w1.heap.size := by have := hb1.size; simpa using this
      have HB1 : Hid (Below wr.heap.size wr w1) := Lib.hid (bthen (below1 wr _) hb1)
      have ca0 : w1.cell? ⟨g, A * 2, none⟩ = some (.int .i64 v1) := (HB1.out.cell (p := ⟨g, A * 2, none⟩) HGR.out.2.2).trans (CA.out 0 (by decide))
      have ca1 : w1.cell? ⟨g, A * 2 + 1, none⟩ = some (.int .i64 v2) := (HB1.out.cell (p := ⟨g, A * 2 + 1, none⟩) HGR.out.2.2).trans (CA.out 1 (by decide))
      have cb0 : w1.cell? ⟨g, B * 2, none⟩ = some (.int .i64 u1) := (HB1.out.cell (p := ⟨g, B * 2, none⟩) HGR.out.2.2).trans (CB.out 0 (by decide))
      have cb1 : w1.cell? ⟨g, B * 2 + 1, none⟩ = some (.int .i64 u2) := (HB1.out.cell (p := ⟨g, B * 2 + 1, none⟩) HGR.out.2.2).trans (CB.out 1 (by decide))
      have hgl : g < w1.heap.size := Nat.lt_of_lt_of_le HGR.out.2.2 HB1.out.size
      have HR := Lib.hid (fun W hb => sh2_row HS.out.2 (W := W) hb)
      clear CA CB hb1 p0 p1 p2 p3 p4 p5 p6 K1 BX H HN HP HSL
      go_upto_region 11 with fail
      go_cut [7, 8] (fun p7 p8 wx => ∃ g7 g8 : Nat, p7 = .pointer (some ⟨g7, 0, none⟩) ∧ p8 = .pointer (some ⟨g8, 0, none⟩) ∧ Hid (g7 ≠ g8 ∧ w1.heap.size ≤ g7 ∧ w1.heap.size ≤ g8 ∧ BoxN wx g7 [.int .i64 v1, .int .i64 v2] ∧ BoxN wx g8 [.int .i64 u1, .int .i64 u2] ∧ Below w1.heap.size w1 wx))
      case first =>
        go_region_held3 (fun w' => (w'.cell? ⟨wr.heap.size, 1, none⟩ = some (.int .i64 A) ∧ w'.cell? ⟨wr.heap.size, 2, none⟩ = some (.int .i64 B)) ∧ (w'.cell? ⟨g, A * 2, none⟩ = some (.int .i64 v1) ∧ w'.cell? ⟨g, A * 2 + 1, none⟩ = some (.int .i64 v2)) ∧ (w'.cell? ⟨g, B * 2, none⟩ = some (.int .i64 u1) ∧ w'.cell? ⟨g, B * 2 + 1, none⟩ = some (.int .i64 u2))) (go_keep) (first | fail)
        all_goals (try go_wp2_with fail)
        all_goals go_meet
        · exact ⟨_, _, rfl, rfl, Lib.hid ⟨by omega, Nat.le_refl _, Nat.le_succ _, ((BoxN.alloc w1 #[.int .i64 v1, .int .i64 v2] 157).below (below1 _ _)).below (Below.drew (Below.refl _ _)), (BoxN.alloc2 w1 _ #[.int .i64 u1, .int .i64 u2] 157).below (Below.drew (Below.refl _ _)), Below.drew (below2 _ _ _)⟩⟩
        · exact ⟨_, _, rfl, rfl, Lib.hid ⟨by omega, Nat.le_succ _, Nat.le_refl _, (BoxN.alloc2 w1 _ #[.int .i64 v1, .int .i64 v2] 157).below (Below.drew (Below.refl _ _)), ((BoxN.alloc w1 #[.int .i64 u1, .int .i64 u2] 157).below (below1 _ _)).below (Below.drew (Below.refl _ _)), Below.drew (below2 _ _ _)⟩⟩
      case rest =>
        obtain ⟨g7, g8, rfl, rfl, HC⟩ := hcut
        obtain ⟨hne, hg7, hg8, bx7, bx8, hbc⟩ := HC.out
        obtain ⟨l7, y0, y1, yf⟩ := bx7.two
        obtain ⟨l8, z0, z1, zf⟩ := bx8.two
        have hx0 : wc.cell? ⟨wr.heap.size, 0, none⟩ = some (.int .i64 kk) := (hbc.cell (p := ⟨wr.heap.size, 0, none⟩) (by show wr.heap.size < w1.heap.size; omega)).trans x0
        have HBC : Hid (Below wr.heap.size wr wc) := Lib.hid (HB1.out.trans (hbc.mono (by omega)))
        clear bx7 bx8 hbc HB1 x0 x1 x2 x3 x4 x5 x6 xf ca0 ca1 cb0 cb1 HC
        have hwc : wr.heap.size < wc.heap.size := by omega
        go_upto_block 2 with fail
        go_cut [10] (fun f wx => ∃ b1 : Bool, ∃ s1 s2 : Int, f = .bool b1 ∧ Hid ((b1 = true ∧ shapeOf kk (v1, v2) (u1, u2) = some (s1, s2)) ∨ (b1 = false ∧ shapeOf kk (v1, v2) (u1, u2) = none)) ∧ Hid (BoxN wx wc.heap.size [.int .i64 s1, .int .i64 s2] ∧ Below wr.heap.size wr wx))
        case first =>
          clear hya hns HS HR HB
          have hkr := HKR.out
          rcases (by omega : kk = 1 ∨ kk = 2 ∨ kk = 3 ∨ kk = 4 ∨ kk = 5 ∨ kk = 6 ∨ kk = 7 ∨ kk = 8 ∨ kk = 9 ∨ kk = 10) with rfl | rfl | rfl | rfl | rfl | rfl | rfl | rfl | rfl | rfl
          · as_aux_lemma =>
              by_cases hf3 : v1 = u1
              · subst hf3
                by_cases hf2 : v2 = u2
                · subst hf2
                  have t1 : (v1 == v1) = true := beq_self_eq_true _
                  have t2 : (v2 == v2) = true := beq_self_eq_true _
                  go_wp2_with fail
                  go_meet
                  exact ⟨true, _, _, rfl, Lib.hid (.inl ⟨rfl, by simp [shapeOf]⟩), Lib.hid ⟨BoxN.alloc wc #[.int .i64 v1, .int .i64 v2] 157, HBC.out.alloc HBC.out.size _⟩⟩
                · have t1 : (v1 == v1) = true := beq_self_eq_true _
                  have t2 : (v2 == u2) = false := by simpa using hf2
                  go_wp2_with fail
                  go_meet
                  exact ⟨false, _, _, rfl, Lib.hid (.inr ⟨rfl, by simp [shapeOf, hf2]⟩), Lib.hid ⟨BoxN.alloc wc #[.int .i64 v1, .int .i64 v2] 157, HBC.out.alloc HBC.out.size _⟩⟩
              · have t1 : (v1 == u1) = false := by simpa using hf3
                go_wp2_with fail
                go_meet
                exact ⟨false, _, _, rfl, Lib.hid (.inr ⟨rfl, by simp [shapeOf, hf3]⟩), Lib.hid ⟨BoxN.alloc wc #[.int .i64 v1, .int .i64 v2] 157, HBC.out.alloc HBC.out.size _⟩⟩
          · as_aux_lemma =>
              by_cases hf3 : u1 = 1
              · subst hf3
                by_cases hf2 : u2 = v2
                · subst hf2
                  have t2 : (u2 == u2) = true := beq_self_eq_true _
                  go_wp2_with fail
                  go_meet
                  exact ⟨true, _, _, rfl, Lib.hid (.inl ⟨rfl, by simp [shapeOf]⟩), Lib.hid ⟨BoxN.alloc wc #[.int .i64 v1, .int .i64 u2] 157, HBC.out.alloc HBC.out.size _⟩⟩
                · have t2 : (u2 == v2) = false := by simpa using hf2
                  go_wp2_with fail
                  go_meet
                  exact ⟨false, _, _, rfl, Lib.hid (.inr ⟨rfl, by simp [shapeOf, hf2]⟩), Lib.hid ⟨BoxN.alloc wc #[.int .i64 v1, .int .i64 v2] 157, HBC.out.alloc HBC.out.size _⟩⟩
              · have t1 : (u1 == 1) = false := by simpa using hf3
                go_wp2_with fail
                go_meet
                exact ⟨false, _, _, rfl, Lib.hid (.inr ⟨rfl, by simp [shapeOf, hf3]⟩), Lib.hid ⟨BoxN.alloc wc #[.int .i64 v1, .int .i64 v2] 157, HBC.out.alloc HBC.out.size _⟩⟩
          · as_aux_lemma =>
              by_cases hf3 : v1 = u1
              · subst hf3
                by_cases hf2 : v2 = u2
                · subst hf2
                  have t1 : (v1 == v1) = true := beq_self_eq_true _
                  have t2 : (v2 == v2) = true := beq_self_eq_true _
                  go_wp2_with fail
                  go_meet
                  exact ⟨true, _, _, rfl, Lib.hid (.inl ⟨rfl, by simp [shapeOf]⟩), Lib.hid ⟨BoxN.alloc wc #[.int .i64 v1, .int .i64 v2] 157, HBC.out.alloc HBC.out.size _⟩⟩
                · have t1 : (v1 == v1) = true := beq_self_eq_true _
                  have t2 : (v2 == u2) = false := by simpa using hf2
                  go_wp2_with fail
                  go_meet
                  exact ⟨false, _, _, rfl, Lib.hid (.inr ⟨rfl, by simp [shapeOf, hf2]⟩), Lib.hid ⟨BoxN.alloc wc #[.int .i64 v1, .int .i64 v2] 157, HBC.out.alloc HBC.out.size _⟩⟩
              · have t1 : (v1 == u1) = false := by simpa using hf3
                go_wp2_with fail
                go_meet
                exact ⟨false, _, _, rfl, Lib.hid (.inr ⟨rfl, by simp [shapeOf, hf3]⟩), Lib.hid ⟨BoxN.alloc wc #[.int .i64 v1, .int .i64 v2] 157, HBC.out.alloc HBC.out.size _⟩⟩
          · as_aux_lemma =>
              by_cases hf3 : u1 = 1
              · subst hf3
                by_cases hf2 : u2 = v2
                · subst hf2
                  have t2 : (u2 == u2) = true := beq_self_eq_true _
                  go_wp2_with fail
                  go_meet
                  exact ⟨true, _, _, rfl, Lib.hid (.inl ⟨rfl, by simp [shapeOf]⟩), Lib.hid ⟨BoxN.alloc wc #[.int .i64 v1, .int .i64 u2] 157, HBC.out.alloc HBC.out.size _⟩⟩
                · have t2 : (u2 == v2) = false := by simpa using hf2
                  go_wp2_with fail
                  go_meet
                  exact ⟨false, _, _, rfl, Lib.hid (.inr ⟨rfl, by simp [shapeOf, hf2]⟩), Lib.hid ⟨BoxN.alloc wc #[.int .i64 v1, .int .i64 v2] 157, HBC.out.alloc HBC.out.size _⟩⟩
              · have t1 : (u1 == 1) = false := by simpa using hf3
                go_wp2_with fail
                go_meet
                exact ⟨false, _, _, rfl, Lib.hid (.inr ⟨rfl, by simp [shapeOf, hf3]⟩), Lib.hid ⟨BoxN.alloc wc #[.int .i64 v1, .int .i64 v2] 157, HBC.out.alloc HBC.out.size _⟩⟩
          · as_aux_lemma =>
              go_wp2_with fail
              go_meet
              exact ⟨true, _, _, rfl, Lib.hid (.inl ⟨rfl, by simp [shapeOf]⟩), Lib.hid ⟨BoxN.alloc wc #[.int .i64 v1, .int .i64 v2] 157, HBC.out.alloc HBC.out.size _⟩⟩
          · as_aux_lemma =>
              by_cases hf3 : v2 = u1
              · subst hf3
                have t2 : (v2 == v2) = true := beq_self_eq_true _
                go_wp2_with fail
                go_meet
                exact ⟨true, _, _, rfl, Lib.hid (.inl ⟨rfl, by simp [shapeOf]⟩), Lib.hid ⟨BoxN.alloc wc #[.int .i64 v1, .int .i64 u2] 157, HBC.out.alloc HBC.out.size _⟩⟩
              · have t1 : (v2 == u1) = false := by simpa using hf3
                go_wp2_with fail
                go_meet
                exact ⟨false, _, _, rfl, Lib.hid (.inr ⟨rfl, by simp [shapeOf, hf3]⟩), Lib.hid ⟨BoxN.alloc wc #[.int .i64 v1, .int .i64 u2] 157, HBC.out.alloc HBC.out.size _⟩⟩
          · as_aux_lemma =>
              go_wp2_with fail
              go_meet
              exact ⟨true, _, _, rfl, Lib.hid (.inl ⟨rfl, by simp [shapeOf]⟩), Lib.hid ⟨BoxN.alloc wc #[.int .i64 v2, .int .i64 v1] 157, HBC.out.alloc HBC.out.size _⟩⟩
          · as_aux_lemma =>
              go_wp2_with fail
              go_meet
              exact ⟨true, _, _, rfl, Lib.hid (.inl ⟨rfl, by simp [shapeOf]⟩), Lib.hid ⟨BoxN.alloc wc #[.int .i64 v1, .int .i64 v2] 157, HBC.out.alloc HBC.out.size _⟩⟩
          · as_aux_lemma =>
              go_wp2_with fail
              go_meet
              exact ⟨true, _, _, rfl, Lib.hid (.inl ⟨rfl, by simp [shapeOf]⟩), Lib.hid ⟨BoxN.alloc wc #[.int .i64 v1, .int .i64 v2] 157, HBC.out.alloc HBC.out.size _⟩⟩
          · as_aux_lemma =>
              go_wp2_with fail
              go_meet
              exact ⟨true, _, _, rfl, Lib.hid (.inl ⟨rfl, by simp [shapeOf]⟩), Lib.hid ⟨BoxN.alloc wc #[.int .i64 1, .int .i64 1] 157, HBC.out.alloc HBC.out.size _⟩⟩
        case rest =>
          obtain ⟨b1, s1, s2, rfl, HSH, HBX⟩ := hcut
          obtain ⟨bx, hb2⟩ := HBX.out
          obtain ⟨l9, t0, t1, tf⟩ := bx.two
          have HB2 := Lib.hid hb2
          clear bx hb2 HBX y0 y1 yf z0 z1 zf hx0 hne hg7 hg8 l7 l8 hwc HBC
          cases b1
          · have hf : ∀ W v, ShIm (os.map OpD.toOpP) w W v false := fun W v => hns W v (by rcases HSH.out with h | h; exact absurd h.1 (by decide); exact h.2)
            have HF := Lib.hid hf
            clear hns hya hf HSH
            go_wp2
            go_ret2
            exact ⟨_, _, rfl, Lib.hid (HF.out _ _), HB.out.trans (HB2.out.mono HB.out.size)⟩
          · have hsh : shapeOf kk (v1, v2) (u1, u2) = some (s1, s2) := by
              rcases HSH.out with h | h
              · exact h.2
              · exact absurd h.1 (by decide)
            rw [hsh] at hya
            have HYA := Lib.hid hya
            clear hns hya hsh HSH
            go_wp2_with (at_builtin; refine wp_appA rfl _ _ 153 rfl w.heap.size i0 (.agg #[.int .i64 0, .int .i64 0]) 2 16 Try.underlying153 hi0 hz0 hzs hz2 rfl (by decide) rfl (by intro u hu; simp at hu; rcases hu with rfl | rfl <;> rfl) _ _ _ rfl (HR.out _ HB2.out) (by go_simp) ?c3 ?c4 ?c5 ?_)
            case c3 => unfold maxLen; omega
            case c4 => omega
            case c5 => exact Nat.le_trans HB.out.size HB2.out.size
            intro v' w9 ho9 hg9 hat9 hb9 hs9
            obtain ⟨ad9, cap9, rfl, hown9⟩ := sh2_snoc (s := (s1, s2)) HS.out.2 HB.out.size HB2.out ho9 hg9 (by simpa using hat9)
            have HO9 := Lib.hid (And.intro HYA.out hown9); have HB9 := Lib.hid ((HB.out.trans (HB2.out.mono HB.out.size)).trans hb9)
            clear ho9 hg9 hat9 hb9 HYA hown9 HR HS HB HB2
            go_wp2
            go_roundw
            case rel => exact ⟨k + 1, by go_num, hlt, _, _, _, rfl, HO9, HB9⟩
            case measure => simp [intOf]; omega
    · have hkn : k = n := by omega
      subst hkn
      have hf : ShIm (os.map OpD.toOpP) w wr (.slice ad' k cap') true := by
        have hl := shapesN_length (by rw [← HP.out]; exact Nat.le_refl _) HS.out.1
        have he := (shapesP_eq' HP.out hn1 hn2).trans HS.out.1
        refine ⟨by rw [he]; rfl, fun S' hS' => ?_⟩
        rw [he] at hS'; cases hS'
        rw [hl]
        exact ⟨_, _, rfl, HS.out.2⟩
      have HF := Lib.hid hf; clear hf
      go_wp2
      go_ret2
      exact ⟨_, _, rfl, HF, HB.out⟩
end Go.Proofs.Ytpemhiaeiecinaa
