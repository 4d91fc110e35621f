/- Joined texts 6: Mt3 Rm0 Rm1 Rm4 Mo4 Mo5 Mo6 Rg5 Ts8 Mt4 Rg6 Mt7. Each is told at its own head. No condition. -/
import Derived.Deep.CutRange
import Derived.Deep.DeepCutAuto
import Derived.Deep.QuietTactic
import Derived.BigQuiet
import Derived.Test.YtpadlmidojpbeaaGreatMc0
import Derived.Test.YtpadlmidojpbeaaGreatMc1
import Derived.Test.YtpadlmidojpbeaaGreatMc2
import Derived.Test.YtpadlmidojpbeaaGreatMc3
import Derived.Test.YtpadlmidojpbeaaGreatMc4
import Derived.Test.YtpadlmidojpbeaaGreatMc5
set_option linter.unusedVariables false
set_option linter.unusedSimpArgs false
/- x -/
namespace Go.Proofs.YtpadlmidojpbeaaGreat
open Go Go.RowKit
theorem linkM_can (ls : List LayP) (k : Nat) : linkM (ls.map LayP.can) k = linkM ls k := by
  have hb : ∀ l : LayP, layB l.can = layB l := fun l => by unfold layB LayP.can; simp
  induction k with
  | zero => rfl
  | succ k ih =>
    rw [linkM, linkM, ih]
    congr 1
    rw [List.getElem?_map]
    cases ls[k]? with
    | none => rfl
    | some l =>
      simp only [Option.map_some]
      rw [hb]
      congr 1
      by_cases h0 : k = 0
      · simp [h0]
      · simp only [if_neg h0, List.getElem?_map]
        cases ls[k - 1]? with
        | none => rfl
        | some p => rfl
theorem modB_can (ls : List LayP) : modB (ls.map LayP.can) = modB ls := by
  unfold modB; rw [List.length_map, linkM_can]
theorem layAt_can (ls : List LayP) (k : Nat) : (layAt (ls.map LayP.can) k).i = (layAt ls k).i ∧ (layAt (ls.map LayP.can) k).o = (layAt ls k).o := by
  unfold layAt
  rw [List.getD_eq_getElem?_getD, List.getD_eq_getElem?_getD, List.getElem?_map]
  cases ls[k]? with
  | none => exact ⟨rfl, rfl⟩
  | some l => exact ⟨rfl, rfl⟩
theorem opIn_can (r c : Int) (xs : List Nat) : (opIn r c xs).can = opIn r c (xs.map (cn .f32)) := by
  unfold opIn OpP.can; simp [cn_zero]
theorem opW_can (k a b : Int) (num : Nat) : (opW k a b num).can = opW k a b (cn .f32 num) := by
  unfold opW OpP.can; simp
def TN (w0 W : World) (ad : Option Addr) (n cap : Nat) (C : List OpP) (E : List RowD) : Prop := ∃ us : List OpD, us.length = n ∧ us.map (fun o => o.toOpP.can) = C ∧ TB w0 W ad cap us E
section
variable {w0 W V w2 : World} {ad : Option Addr} {n cap : Nat} {C : List OpP} {E : List RowD}
theorem TN.move (h : TN w0 W ad n cap C E) (hb : Below W.heap.size W V) : TN w0 V ad n cap C E := by
  obtain ⟨us, h1, h2, h3⟩ := h; exact ⟨us, h1, h2, h3.move hb⟩
theorem TN.below (h : TN w0 W ad n cap C E) : Below w0.heap.size w0 W := by obtain ⟨us, h1, h2, h3⟩ := h; exact h3.below
theorem TN.box (h : TN w0 W ad n cap C E) {t : TypeId} {g : Nat} {cs : List Value} (hm : xRow t g cs ∈ E) : BoxN W g cs := by obtain ⟨us, h1, h2, h3⟩ := h; exact h3.box hm
theorem TN.sub (h : TN w0 W ad n cap C E) {E' : List RowD} (hs : List.Sublist E' E) : TN w0 W ad n cap C E' := by obtain ⟨us, h1, h2, h3⟩ := h; exact ⟨us, h1, h2, h3.sub hs⟩
theorem TN.perm (h : TN w0 W ad n cap C E) {E' : List RowD} (hp : E.Perm E') : TN w0 W ad n cap C E' := by obtain ⟨us, h1, h2, h3⟩ := h; exact ⟨us, h1, h2, h3.perm hp⟩
theorem TN.alloc (h : TN w0 W ad n cap C E) (cs : Array Value) (t : TypeId) : TN w0 (W.alloc (.cells cs t)) ad n cap C (xRow t W.heap.size cs.toList :: E) := by obtain ⟨us, h1, h2, h3⟩ := h; exact ⟨us, h1, h2, h3.alloc cs t⟩
theorem TN.go (h : TN w0 W ad n cap C E) (hb : Below W.heap.size W V) : ∃ vs, V.ownsRow w0.heap.size 74 7 (.slice ad n cap) n vs ∧
    ∀ (o : OpD) (hi1 : Nat) (x : Obj) (v' : Value) (w2 : World), o.ok → Own V W.heap.size hi1 [floatRow o.ad o.cap o.xs] → hi1 ≤ V.heap.size → W.heap.size ≤ hi1 → w2.ownsRow w0.heap.size 74 7 v' (n + 1) (vs ++ o.cells) → (V.alloc x).grownBy w2 (Value.slice ad n cap).ownBlock → (v'.ownBlock = (Value.slice ad n cap).ownBlock ∨ v'.ownBlock = some (V.heap.size + 1)) →
      ∃ ad' cap', v' = .slice ad' (n + 1) cap' ∧ TN w0 w2 ad' (n + 1) cap' (C ++ [o.toOpP.can]) E := by
  obtain ⟨us, rfl, rfl, h3⟩ := h
  refine ⟨us.flatMap OpD.cells, (h3.move hb).row, fun o hi1 x v' w2 ho hn h1 h2 h4 hg hat => ?_⟩
  obtain ⟨ad', cap', e, hx⟩ := h3.push hb ho hn h1 h2 h4 hg hat
  have hl : (us ++ [o]).length = us.length + 1 := by simp
  exact ⟨ad', cap', by rw [e, hl], us ++ [o], hl, by simp, hx⟩
theorem TN.goA (h : TN w0 W ad n cap C E) : ∃ vs, (∀ V, Below W.heap.size W V → V.ownsRow w0.heap.size 74 7 (.slice ad n cap) n vs) ∧
    ∀ (V : World) (o : OpD) (hi1 : Nat) (x : Obj) (v' : Value) (w2 : World), Below W.heap.size W V → o.ok → Own V W.heap.size hi1 [floatRow o.ad o.cap o.xs] → hi1 ≤ V.heap.size → W.heap.size ≤ hi1 → w2.ownsRow w0.heap.size 74 7 v' (n + 1) (vs ++ o.cells) → (V.alloc x).grownBy w2 (Value.slice ad n cap).ownBlock → (v'.ownBlock = (Value.slice ad n cap).ownBlock ∨ v'.ownBlock = some (V.heap.size + 1)) →
      ∃ ad' cap', v' = .slice ad' (n + 1) cap' ∧ TN w0 w2 ad' (n + 1) cap' (C ++ [o.toOpP.can]) E := by
  obtain ⟨us, rfl, rfl, h3⟩ := h
  refine ⟨us.flatMap OpD.cells, fun V hb => (h3.move hb).row, fun V o hi1 x v' w2 hb ho hn h1 h2 h4 hg hat => ?_⟩
  obtain ⟨ad', cap', e, hx⟩ := h3.push hb ho hn h1 h2 h4 hg hat
  have hl : (us ++ [o]).length = us.length + 1 := by simp
  exact ⟨ad', cap', by rw [e, hl], us ++ [o], hl, by simp, hx⟩
theorem TN.goI {wa : Option Addr} {wk : Nat} {ws : List Int} (h : TN w0 W ad n cap C (intRow wa wk ws :: E)) : W.ownsRow w0.heap.size 2 1 (.slice wa ws.length wk) ws.length (ws.map (Value.int .i64)) ∧
    ∀ (i : Int) (x : Obj) (v' : Value) (w2 : World), w2.ownsRow w0.heap.size 2 1 v' (ws.length + 1) (ws.map (Value.int .i64) ++ [.int .i64 i]) → (W.alloc x).grownBy w2 (Value.slice wa ws.length wk).ownBlock → (v'.ownBlock = (Value.slice wa ws.length wk).ownBlock ∨ v'.ownBlock = some (W.heap.size + 1)) →
      ∃ wa' wk', v' = .slice wa' (ws ++ [i]).length wk' ∧ TN w0 w2 ad n cap C (intRow wa' wk' (ws ++ [i]) :: E) := by
  obtain ⟨us, h1, h2, h3⟩ := h
  refine ⟨h3.ints (List.mem_cons_self ..), fun i x v' w2 h4 hg hat => ?_⟩
  obtain ⟨wa', wk', e, hx⟩ := h3.pushI h4 hg hat
  exact ⟨wa', wk', e, us, h1, h2, hx⟩
theorem own_void (V : World) (lo hi : Nat) : Own V lo hi [floatRow none 0 []] := Own.voids V lo hi (fun x hx => by rw [List.mem_singleton.1 hx]; exact ⟨rfl, rfl, rfl, rfl⟩)
def opV (k a b : Int) (num : Nat) : OpD := ⟨opW k a b num, none, 0⟩
theorem opV_ok {k a b : Int} {num : Nat} (hk : (Lit.int .i64 k).wf = true) (ha : (Lit.int .i64 a).wf = true) (hb : (Lit.int .i64 b).wf = true) (hn : num < 4294967296) : (opV k a b num).ok := ⟨fun x hx => (nomatch hx), hn, hk, ha, hb, rfl, rfl⟩
theorem wf_nat {n : Nat} (h : n ≤ 1000000) : (Lit.int .i64 (n : Int)).wf = true := nat_wfM (by omega)
theorem impl_addN {tb : Nat} (h : TN w0 W ad n cap C (xRow 67 tb [.slice ad n cap] :: E)) (hb : Below W.heap.size W V) (o : OpD) (ho : o.ok) (hn : Own V W.heap.size V.heap.size [floatRow o.ad o.cap o.xs]) (hul : n ≤ 100) :
    Calls Tryz.prog 64 #[o.val, .pointer (some ⟨tb, 0, none⟩)] V fun e V' => ∃ ad' cap', e = .returned (.int .i64 n) ∧ Hid (TN w0 V' ad' (n + 1) cap' (C ++ [o.toOpP.can]) (xRow 67 tb [.slice ad' (n + 1 : Nat) cap'] :: E)) := by
  obtain ⟨us, rfl, rfl, h3⟩ := h
  refine (impl_add w0 W V tb ad cap us E h3 hb o ho hn hul).mono fun e V' hh => ?_
  obtain ⟨ad', cap', he, ht⟩ := hh
  have hl : (us ++ [o]).length = us.length + 1 := by simp
  exact ⟨ad', cap', he, Lib.hid ⟨us ++ [o], hl, by simp, by rw [← hl]; exact ht.out⟩⟩
theorem impl_addV {tb : Nat} (h : TN w0 W ad n cap C (xRow 67 tb [.slice ad n cap] :: E)) (hb : Below W.heap.size W V) (k a b : Int) (num : Nat) (ho : (opV k a b num).ok) (hul : n ≤ 100) :
    Calls Tryz.prog 64 #[.agg #[.int .i64 k, .int .i64 a, .int .i64 b, .float .f32 num, .int .i64 0, .int .i64 0, .slice none 0 0], .pointer (some ⟨tb, 0, none⟩)] V fun e V' => ∃ ad' cap', e = .returned (.int .i64 n) ∧ Hid (TN w0 V' ad' (n + 1) cap' (C ++ [opW k a b (cn .f32 num)]) (xRow 67 tb [.slice ad' (n + 1 : Nat) cap'] :: E)) :=
  (impl_addN h hb (opV k a b num) ho (own_void _ _ _) hul).mono fun e V' hh => by
    obtain ⟨ad', cap', he, ht⟩ := hh
    have e1 : (opV k a b num).toOpP.can = opW k a b (cn .f32 num) := opW_can k a b num
    rw [e1] at ht
    exact ⟨ad', cap', he, ht⟩
theorem impl_inputN {tb fb : Nat} (h : TN w0 W ad n cap C (xRow 67 tb [.slice ad n cap] :: E)) (hfb : xRow 104 fb [.func (.func 64) #[] #[.pointer (some ⟨tb, 0, none⟩)]] ∈ E) (hb : Below W.heap.size W V)
    (r c : Int) (a : Option Addr) (k m : Nat) (xs : List Nat) (hf : F32s V a k xs) (hm : xs.length = m) (hm1 : 1 ≤ m) (hn : m ≤ 1048576) (hr : (Lit.int .i64 r).wf = true) (hcc : (Lit.int .i64 c).wf = true) (hul : n ≤ 100) :
    Calls Tryz.prog 65 #[.agg #[.int .i64 r, .int .i64 c, .slice a m k], .pointer (some ⟨fb, 0, none⟩)] V fun e V' => ∃ ad' cap', e = .returned (.int .i64 n) ∧ Hid (TN w0 V' ad' (n + 1) cap' (C ++ [opIn r c (xs.map (cn .f32))]) (xRow 67 tb [.slice ad' (n + 1 : Nat) cap'] :: E)) := by
  subst hm
  obtain ⟨us, rfl, rfl, h3⟩ := h
  refine (impl_input w0 W V tb fb ad cap us E h3 hfb hb r c a k xs hf (by intro e; obtain ⟨b, o, e2, _, _⟩ := hf.spot (k := 0) hm1; rw [e] at e2; cases e2) hn hr hcc hul).mono fun e V' hh => ?_
  obtain ⟨o, ad', cap', he, ht⟩ := hh
  have hl : (us ++ [o]).length = us.length + 1 := by simp
  exact ⟨ad', cap', he, Lib.hid ⟨us ++ [o], hl, by simp [ht.out.1, opIn_can], by rw [← hl]; exact ht.out.2⟩⟩
end
end Go.Proofs.YtpadlmidojpbeaaGreat
/- x -/
namespace Go.Proofs.YtpadlmidojpbeaaGreat
open Go Go.RowKit
def paramsP (ls : List LayP) : List Nat := ls.flatMap fun l => l.ws ++ l.bs
def takeL (l : LayP) (xs : List Nat) : LayP := ⟨l.k, l.i, l.o, xs.take l.ws.length, (xs.drop l.ws.length).take l.bs.length⟩
def withP : List LayP → List Nat → List LayP
  | [], _ => []
  | l :: ls, xs => takeL l xs :: withP ls (xs.drop (l.ws.length + l.bs.length))
def cntP (ls : List LayP) : Nat := (paramsP ls).length
theorem paramsP_snoc (A : List LayP) (l : LayP) : paramsP (A ++ [l]) = paramsP A ++ l.ws ++ l.bs := by simp [paramsP, List.flatMap_append]
theorem cntP_nil : cntP [] = 0 := rfl
theorem cntP_cons (l : LayP) (A : List LayP) : cntP (l :: A) = l.ws.length + l.bs.length + cntP A := by simp [cntP, paramsP, Nat.add_assoc]
theorem cntP_snoc (A : List LayP) (l : LayP) : cntP (A ++ [l]) = cntP A + (l.ws.length + l.bs.length) := by unfold cntP; rw [paramsP_snoc]; simp [Nat.add_assoc]
theorem cntP_append (A B : List LayP) : cntP (A ++ B) = cntP A + cntP B := by simp [cntP, paramsP, List.flatMap_append]
theorem withP_snoc (A : List LayP) (l : LayP) (xs : List Nat) : withP (A ++ [l]) xs = withP A xs ++ [takeL l (xs.drop (cntP A))] := by
  induction A generalizing xs with
  | nil => simp [withP, cntP_nil]
  | cons a A ih =>
    show takeL a xs :: withP (A ++ [l]) _ = takeL a xs :: withP A _ ++ _
    rw [ih, List.drop_drop, cntP_cons]; rfl
def mapL (f : Nat → Nat) (l : LayP) : LayP := ⟨l.k, l.i, l.o, l.ws.map f, l.bs.map f⟩
theorem withP_map (f : Nat → Nat) (ls : List LayP) : withP ls ((paramsP ls).map f) = ls.map (mapL f) := by
  induction ls with
  | nil => rfl
  | cons l ls ih =>
    have e : paramsP (l :: ls) = l.ws ++ (l.bs ++ paramsP ls) := by simp [paramsP]
    show takeL l _ :: withP ls _ = mapL f l :: ls.map (mapL f)
    have h1 : ((paramsP (l :: ls)).map f).drop (l.ws.length + l.bs.length) = (paramsP ls).map f := by
      rw [e, List.map_append, List.map_append, ← List.drop_drop]
      rw [List.drop_left' (by simp), List.drop_left' (by simp)]
    have h2 : takeL l ((paramsP (l :: ls)).map f) = mapL f l := by
      unfold takeL mapL
      rw [e, List.map_append, List.map_append, List.take_left' (by simp), List.drop_left' (by simp), List.take_left' (by simp)]
    rw [h1, h2, ih]
theorem withP_can (ls : List LayP) (xs : List Nat) : (withP ls xs).map LayP.can = withP (ls.map LayP.can) (xs.map (cn .f32)) := by
  induction ls generalizing xs with
  | nil => rfl
  | cons l ls ih =>
    show LayP.can (takeL l xs) :: (withP ls _).map LayP.can = takeL l.can (xs.map (cn .f32)) :: withP (ls.map LayP.can) _
    rw [ih]
    unfold takeL LayP.can
    simp only [List.length_map, List.map_take, List.map_drop]
theorem paramsP_can (ls : List LayP) : (paramsP ls).map (cn .f32) = paramsP (ls.map LayP.can) := by
  unfold paramsP
  rw [List.map_flatMap, List.flatMap_map]
  congr 1
  funext l
  rw [List.map_append]; rfl
theorem layB_map (f : Nat → Nat) (l : LayP) : layB (mapL f l) = layB l := by unfold layB mapL; simp
theorem linkM_map (f : Nat → Nat) (ls : List LayP) (k : Nat) : linkM (ls.map (mapL f)) k = linkM ls k := by
  induction k with
  | zero => rfl
  | succ k ih =>
    rw [linkM, linkM, ih, List.getElem?_map, List.getElem?_map]
    cases ls[k]? with
    | none => rfl
    | some l =>
      simp only [Option.map_some, layB_map]
      congr 2
      by_cases h : k = 0
      · rw [if_pos h, if_pos h]
      · rw [if_neg h, if_neg h]
        try (cases ls[k - 1]? <;> rfl)
theorem modB_map (f : Nat → Nat) (ls : List LayP) : modB (ls.map (mapL f)) = modB ls := by unfold modB; rw [List.length_map, linkM_map]
end Go.Proofs.YtpadlmidojpbeaaGreat
/- x -/
namespace Go.Proofs.YtpadlmidojpbeaaGreat
open Go Go.RowKit
def LN (w0 W : World) (ad : Option Addr) (n cap : Nat) (C : List LayP) (E : List RowD) : Prop :=
  ∃ us : List LayD, us.length = n ∧ us.map (fun l => l.toLayP.can) = C ∧ OwnX layR W w0.heap.size W.heap.size ad n cap us E ∧ Below w0.heap.size w0 W
section
variable {w0 W V w2 : World} {ad : Option Addr} {n cap : Nat} {C : List LayP} {E E' : List RowD}
theorem LN.below (h : LN w0 W ad n cap C E) : Below w0.heap.size w0 W := by obtain ⟨us, h1, h2, h3, h4⟩ := h; exact h4
theorem LN.box (h : LN w0 W ad n cap C E) {t : TypeId} {g : Nat} {cs : List Value} (hm : xRow t g cs ∈ E) : BoxN W g cs := by obtain ⟨us, h1, h2, h3, h4⟩ := h; exact h3.own.xbox (h3.memE hm)
theorem LN.sub (h : LN w0 W ad n cap C E) (hs : List.Sublist E' E) : LN w0 W ad n cap C E' := by
  obtain ⟨us, h1, h2, h3, h4⟩ := h
  exact ⟨us, h1, h2, ⟨h3.own.sub (List.Sublist.cons_cons _ (List.Sublist.append (List.Sublist.refl _) hs)), h3.len, h3.ok⟩, h4⟩
theorem LN.perm (h : LN w0 W ad n cap C E) (hp : E.Perm E') : LN w0 W ad n cap C E' := by
  obtain ⟨us, h1, h2, h3, h4⟩ := h
  exact ⟨us, h1, h2, ⟨h3.own.perm (List.Perm.cons _ (List.Perm.append_left _ hp)), h3.len, h3.ok⟩, h4⟩
theorem LN.swap {x y : RowD} (h : LN w0 W ad n cap C (x :: y :: E)) : LN w0 W ad n cap C (y :: x :: E) := h.perm (List.Perm.swap _ _ _)
theorem LN.third {x y z : RowD} (h : LN w0 W ad n cap C (x :: y :: z :: E)) : LN w0 W ad n cap C (z :: x :: y :: E) :=
  h.perm ((List.Perm.cons _ (List.Perm.swap _ _ _)).trans (List.Perm.swap _ _ _))
theorem LN.alloc (h : LN w0 W ad n cap C E) (cs : Array Value) (t : TypeId) : LN w0 (W.alloc (.cells cs t)) ad n cap C (xRow t W.heap.size cs.toList :: E) := by
  obtain ⟨us, h0, h2, h3, h4⟩ := h
  have h1 := h3.own.alloc h4.size (Nat.le_refl _) cs t
  refine ⟨us, h0, h2, ⟨?_, h3.len, h3.ok⟩, h4.alloc h4.size _⟩
  have e : (W.alloc (.cells cs t)).heap.size = W.heap.size + 1 := by simp
  rw [e]
  have e2 : (⟨t, cs.size, some ⟨W.heap.size, 0, none⟩, 1, 1, cs.toList⟩ : RowD) = xRow t W.heap.size cs.toList := by unfold xRow; simp
  rw [e2] at h1
  exact h1.perm ((List.Perm.swap _ _ _).trans (List.Perm.cons _ List.perm_middle.symm))
theorem LN.addF (h : LN w0 W ad n cap C E) (hb : Below W.heap.size W V) {a : Option Addr} {m k : Nat} {xs : List Nat} (hr : RepF V W.heap.size V.heap.size a m k xs) : LN w0 V ad n cap C (floatRow a k xs :: E) := by
  obtain ⟨us, h0, h2, h3, h4⟩ := h
  have hl := hr.len
  subst hl
  have hn : Own V W.heap.size V.heap.size [floatRow a k xs] := Own.one hr.row
  have h1 := Own.fresh h3.own h4.size (Nat.le_refl _) hb hn hb.size
  refine ⟨us, h0, h2, ⟨?_, h3.len, h3.ok⟩, h4.trans (hb.mono h4.size)⟩
  refine h1.perm ?_
  rw [List.cons_append]
  refine List.Perm.cons _ ?_
  rw [List.append_assoc]
  exact List.Perm.append_left _ List.perm_append_comm
theorem LN.store {t : TypeId} {g : Nat} {cs : List Value} (h : LN w0 W ad n cap C (xRow t g cs :: E)) (k : Nat) (v : Value) : LN w0 (W.setCell ⟨g, k, none⟩ v) ad n cap C (xRow t g (cs.set k v) :: E) := by
  obtain ⟨us, h0, h2, h3, h4⟩ := h
  have h1 := h3.storeE k v
  have h5 := (h3.own.cell (h3.memE (List.mem_cons_self ..))).2.1.1
  have e : xRow t g (cs.set k v) = ⟨t, cs.length, some ⟨g, 0, none⟩, 1, 1, cs.set k v⟩ := by unfold xRow; rw [List.length_set]
  exact ⟨us, h0, h2, by rw [e]; exact h1.bounds (Nat.le_refl _) (by simp [World.setCell]), h4.setCell (p := ⟨g, k, none⟩) h5 v⟩
theorem LN.push {wa ba : Option Addr} {wk bk : Nat} {ws bs : List Nat} (h : LN w0 W ad n cap C (floatRow wa wk ws :: floatRow ba bk bs :: E)) : ∃ vs, W.ownsRow w0.heap.size 99 5 (.slice ad n cap) n vs ∧
    ∀ (l : LayD) (x : Obj) (v' : Value) (w2 : World), l.ok → l.inn = [floatRow wa wk ws, floatRow ba bk bs] → w2.ownsRow w0.heap.size 99 5 v' (n + 1) (vs ++ l.cells) → (W.alloc x).grownBy w2 (Value.slice ad n cap).ownBlock → (v'.ownBlock = (Value.slice ad n cap).ownBlock ∨ v'.ownBlock = some (W.heap.size + 1)) →
      ∃ ad' cap', v' = .slice ad' (n + 1) cap' ∧ LN w0 w2 ad' (n + 1) cap' (C ++ [l.toLayP.can]) E := by
  obtain ⟨us, h0, h2, h3, h4⟩ := h
  refine ⟨us.flatMap LayD.cells, h3.own.head.own, fun l x v' w2 ho hin ho2 hg hat => ?_⟩
  obtain ⟨ad', cap', rfl, _⟩ := Rd.of_owns ho2
  have hl : (us ++ [l]).length = n + 1 := by simp [h0]
  have hs := hg.size
  simp at hs
  have h5 := (h3.own.below (below1 W x)).grown (w' := w2) (hi' := w2.heap.size) (y := ⟨layR.e, layR.size, ad', n + 1, cap', (us ++ [l]).flatMap layR.cells⟩) hg (by
    refine Row.mk' ?_
    rw [List.flatMap_append, List.flatMap_singleton]
    exact ho2) (fun g e => by
      rcases hat with e1 | e1
      · exact .inl (e1.symm.trans e)
      · right
        have e2 : some g = some (W.heap.size + 1) := e.symm.trans e1
        cases e2
        omega) (by omega)
  refine ⟨ad', cap', rfl, us ++ [l], hl, by rw [List.map_append, h2]; rfl, ⟨?_, hl, fun b hb => ?_⟩, ?_⟩
  · have e : (us ++ [l]).flatMap layR.inn = us.flatMap layR.inn ++ [floatRow wa wk ws, floatRow ba bk bs] := by rw [List.flatMap_append, List.flatMap_singleton]; exact congrArg _ hin
    rw [e, List.append_assoc]
    exact h5
  · rcases List.mem_append.1 hb with hb | hb
    · exact h3.ok b hb
    · simp at hb; subst hb; exact ho
  · exact Below.grown (h4.alloc h4.size x) hg (by have := h4.size; simp; omega) (fun j e => (h3.own.head.own.lt j e).1)
theorem LN.nil (w : World) : LN w w none 0 0 [] [] := by
  refine ⟨[], rfl, rfl, ⟨Own.one ⟨⟨by simp, .inl ⟨rfl, rfl⟩⟩, fun k e => (nomatch e)⟩, rfl, fun a ha => (nomatch ha)⟩, Below.refl _ _⟩
theorem LN.nil1 (h : LN w0 W none 0 0 [] E) : LN w0 (W.alloc (.cells #[] 99)) (some ⟨W.heap.size, 0, none⟩) 0 0 [] E := by
  obtain ⟨us, h0, h2, h3, h4⟩ := h
  have hu : us = [] := List.eq_nil_of_length_eq_zero h0
  subst hu
  have hE : Own W w0.heap.size W.heap.size E := h3.own.tail
  refine ⟨[], rfl, rfl, ⟨?_, rfl, fun a ha => (nomatch ha)⟩, h4.alloc h4.size _⟩
  have hr := Own.one (x := ⟨layR.e, layR.size, some ⟨W.heap.size, 0, none⟩, 0, 0, ([] : List LayD).flatMap layR.cells⟩) (Row.mk' (World.ownsRow_made _ _ _ (Nat.le_refl _) (Nat.zero_le _) (by simp)) : Row (W.alloc (.cells #[] 99)) layR.e layR.size W.heap.size (W.alloc (.cells #[] 99)).heap.size _ 0 _)
  have h1 := Own.fresh hE h4.size (Nat.le_refl _) (below1 W (.cells #[] 99)) hr (by simp)
  exact h1.perm List.perm_append_comm
end
def LayPost (C : List LayP) (w : World) (e : Ending) (w' : World) : Prop := ∃ ad n cap us, e = .returned (.agg #[.slice ad n cap]) ∧ Hid (us.map (fun l => l.toLayP.can) = C ∧ OwnR layR w' w.heap.size w'.heap.size ad n cap us) ∧ Below w.heap.size w w'
end Go.Proofs.YtpadlmidojpbeaaGreat
/- x -/
namespace Go.Proofs.YtpadlmidojpbeaaGreat
open Go Go.RowKit
theorem wp_catK {P : Program} {ops : Array Oper} {rest : List Oper} {o : Oper} {a : Act} {Q : Exit → Act → World → Prop} {e : TypeId} {W : World} (hgd : o.guard = none) (s x : Operand) (t : TypeId)
    (ho : o.op = .call { callee := .builtin .append, args := #[s, x], argTypes := #[t, t] })
    (base : Nat) (i : TypeInfo) (z : Value) (bytes : Nat) (ht : P.underlying t = some (.slice e)) (hi : P.info? e = some i) (hz : i.zero = some z)
    (hsize : i.size = 1) (hby : i.bytes = bytes) (hzs : z.cells.size = 1)
    (v : Value) (n : Nat) (xs : List Value) (hs : a.eval s = v) (hown : W.ownsRow base e 1 v n xs)
    (ad : Option Addr) (m c : Nat) (news : List Value) (hx : a.eval x = .slice ad m c) (hn : ad = none → c = 0) (hl : news.length = m) (hr : Rd W ad news) (h1 : ∀ u ∈ news, u.oneCell' = true)
    (h63 : n + m ≤ maxLen) (hbytes : (n + m) * bytes ≤ 140737488355328) (hbase : base ≤ W.heap.size)
    (h : ∀ v' w', w'.ownsRow base e 1 v' (n + m) (xs ++ news) → Below base W w' → base ≤ w'.heap.size → (∀ p : Addr, p.block < W.heap.size → v.ownBlock ≠ some p.block → w'.cell? p = W.cell? p) → (v ≠ .slice none 0 0 → v' ≠ .slice none 0 0) → wpList P ops Q rest (a.put o.dst v') w') : wpList P ops Q (o :: rest) a W := by
  cases ad with
  | none =>
    obtain rfl := hn rfl
    have h0 : news = [] := by
      rcases hr with hr | ⟨b, off, hb, _⟩
      · exact hr
      · cases hb
    subst h0
    obtain rfl : m = 0 := hl.symm
    exact wpList_append_own_none hgd s x t ho base e i 1 ht hi v n xs hs hown hx (h v W (by simpa using hown) (Below.refl _ _) hbase (fun _ _ _ => rfl) (fun h => h))
  | some p =>
    refine wpList_append_own W hgd s x t ho base e i z 1 bytes ht hi hz hsize hby hzs (by decide) v n xs hs hown p m c news hx (by omega) ?_ h1 h63 hbytes hbase ?_
    · intro j u hj
      rcases hr with hr | ⟨b, off, hb, _, hc⟩
      · rw [hr] at hj; cases hj
      · cases hb
        have hlt : j < news.length := (List.getElem?_eq_some_iff.1 hj).1
        rw [Addr.add_lit]; exact (hc j hlt).trans hj
    · intro v' w' h2 hg hnn
      exact h v' w' h2 ((Below.refl _ _).grown hg hbase (fun j hj => (hown.lt j hj).1)) (Nat.le_trans hbase hg.size) (fun p hp hne => World.cell?_of_block (w := W) (hg.block p.block hp (fun e => hne e.symm))) (fun hv e => hv (hnn.1 e).1)
theorem paramsP_take {ls : List LayD} {k : Nat} {l : LayD} (h : ls[k]? = some l) : paramsP ((ls.map LayD.toLayP).take (k + 1)) = paramsP ((ls.map LayD.toLayP).take k) ++ l.ws ++ l.bs := by
  rw [List.take_add_one, List.getElem?_map, h]
  exact paramsP_snoc _ _
theorem paramsP_okF {w : World} {ad : Option Addr} {cap : Nat} {ls : List LayD} (h : SeeR layR w ad cap ls) : okF (paramsP (ls.map LayD.toLayP)) := by
  intro x hx
  obtain ⟨l, hl, hx⟩ := List.mem_flatMap.1 hx
  obtain ⟨d, hd, rfl⟩ := List.mem_map.1 hl
  rcases List.mem_append.1 hx with hx | hx
  · exact (h.ok d hd).1.1 x hx
  · exact (h.ok d hd).1.2 x hx
def nilL (ls : List LayD) : Prop := ∀ l ∈ ls, (l.wa = none → l.wk = 0) ∧ (l.ba = none → l.bk = 0)
theorem OwnR.nilL {w : World} {lo hi n cap : Nat} {ad : Option Addr} {us : List LayD} (h : OwnR layR w lo hi ad n cap us) : nilL us := fun l hl => by
  obtain ⟨k, hk, rfl⟩ := List.mem_iff_getElem.1 hl
  obtain ⟨-, -, -, -, -, h1, h2⟩ := lay_own h (List.getElem?_eq_getElem hk)
  exact ⟨h1.nilcap, h2.nilcap⟩
set_option maxRecDepth 100000 in
set_option maxHeartbeats 8000000 in
theorem impl_params (w : World) (ma : Option Addr) (mk : Nat) (ls : List LayD) (hls : SeeR layR w ma mk ls) (hnil : nilL ls) (hn : ls.length ≤ 6) (hi2 : ∀ l ∈ ls, l.ws.length ≤ 64 ∧ l.bs.length ≤ 8) :
    Calls Tryz.prog 44 #[.agg #[.slice ma ls.length mk]] w fun e w' => ∃ g n cap, e = .returned (.slice (some ⟨g, 0, none⟩) n cap) ∧ Hid (RepF w' w.heap.size w'.heap.size (some ⟨g, 0, none⟩) n cap (paramsP (ls.map LayD.toLayP))) ∧ Below w.heap.size w w' := by
  obtain ⟨i0, hi0, hz0, hz1, hz2⟩ := info_parts info_f32
  have HLS := Lib.hid hls; have HI2 := Lib.hid hi2; have HNL := Lib.hid hnil
  obtain ⟨n, hN⟩ : ∃ n, n = ls.length := ⟨_, rfl⟩
  rw [← hN] at hn ⊢
  have HN := Lib.hid hN
  clear hls hi2 hN hnil
  go_enter Tryz.func44, Tryz.ntmps44
  go_wp2
  go_loopw [3, 5, 10] (fun v p i wt => ∃ k nk : Nat, i = .int .i64 k ∧ k ≤ n ∧ nk ≤ 72 * k ∧ Hid (wt.ownsRow w.heap.size 28 1 v nk ((paramsP ((ls.map LayD.toLayP).take k)).map (Value.float .f32)) ∧ nk = (paramsP ((ls.map LayD.toLayP).take k)).length ∧ v ≠ .slice none 0 0) ∧ Hid (Below w.heap.size w wt)) (fun v p i wt => n - (intOf i).toNat)
  case atStart => exact ⟨0, 0, rfl, Nat.zero_le _, by omega, Lib.hid ⟨by simpa [paramsP] using World.ownsRow_made (base := w.heap.size) (w.alloc (.cells #[.slice ma n mk] 35)) #[] 0 (below1 w _).size (Nat.zero_le _) rfl, rfl, fun e => by cases e⟩, Lib.hid (below2 _ _ _)⟩
  case round =>
    obtain ⟨k, nk, rfl, hk, hnk, HO, HB⟩ := hrel
    by_cases hlt : k < n
    · obtain ⟨l, hl⟩ := getElem?_lt (show k < ls.length by rw [← HN.out]; exact hlt)
      have hii := HI2.out l (List.mem_of_getElem? hl)
      have hnl := HNL.out l (List.mem_of_getElem? hl)
      have HT := Lib.hid (paramsP_take hl)
      obtain ⟨-, -, -, -, -, ⟨hfw, hfb⟩, -⟩ := lay_spot HLS.out hl
      obtain ⟨b, off, rfl, hb, ⟨c0, c1, c2, c3, c4⟩, -, -⟩ := lay_spot (HLS.out.below HB.out) hl
      have HFW := Lib.hid (fun W (hb : Below w.heap.size w W) => (hfw.below hb).rd); have HFB := Lib.hid (fun W (hb : Below w.heap.size w W) => (hfb.below hb).rd)
      have HNW := Lib.hid hnl.1; have HNB := Lib.hid hnl.2
      clear hfw hfb hnl hl
      obtain ⟨⟨kk, li, lo, lws, lbs⟩, wa, wk, ba, bk⟩ := l
      simp only at c0 c1 c2 c3 c4 hii HT HFW HFB HNW HNB
      have h1 : ∀ xs : List Nat, ∀ u ∈ xs.map (Value.float .f32), u.oneCell' = true := by intro xs u hu; obtain ⟨x, _, rfl⟩ := List.mem_map.1 hu; rfl
      have H1 := Lib.hid h1
      obtain ⟨m1, hm1⟩ : ∃ m, m = lws.length := ⟨_, rfl⟩
      obtain ⟨m2, hm2⟩ : ∃ m, m = lbs.length := ⟨_, rfl⟩
      rw [← hm1] at c3 hii; rw [← hm2] at c4 hii
      have HM1 := Lib.hid hm1; have HM2 := Lib.hid hm2
      have HOW := Lib.hid HO.out.1; have HNK := Lib.hid HO.out.2.1; have HV0 := Lib.hid HO.out.2.2
      have hbs := HB.out.size
      clear h1 hm1 hm2 HO
      go_upto_region 5 with fail
      have BX := Lib.hid (BoxN.alloc wr #[.int .i64 kk, .int .i64 li, .int .i64 lo, .slice wa m1 wk, .slice ba m2 bk] 99)
      have HB4 := Lib.hid (HB.out.alloc hbs (.cells #[.int .i64 kk, .int .i64 li, .int .i64 lo, .slice wa m1 wk, .slice ba m2 bk] 99))
      have HOW4 := Lib.hid (HOW.out.alloc (.cells #[.int .i64 kk, .int .i64 li, .int .i64 lo, .slice wa m1 wk, .slice ba m2 bk] 99))
      have hs4 : (wr.alloc (.cells #[.int .i64 kk, .int .i64 li, .int .i64 lo, .slice wa m1 wk, .slice ba m2 bk] 99)).heap.size = wr.heap.size + 1 := by simp
      clear c0 c1 c2 c3 c4 hb
      generalize wr.alloc (.cells #[.int .i64 kk, .int .i64 li, .int .i64 lo, .slice wa m1 wk, .slice ba m2 bk] 99) = W4 at BX HB4 HOW4 hs4 ⊢
      obtain ⟨-, d0, d1, d2, d3, d4, -⟩ := BX.out.five
      clear BX
      go_wp2_with (at_builtin; refine wp_catK rfl _ _ 25 rfl w.heap.size i0 (.float .f32 0) 4 Tryz.underlying25 hi0 hz0 hz1 hz2 rfl _ nk _ rfl HOW4.out wa m1 wk (lws.map (Value.float .f32)) rfl HNW.out (by rw [List.length_map, HM1.out]) (HFW.out _ HB4.out) (H1.out lws) ?c3 ?c4 ?c5 ?_)
      case c3 => unfold maxLen; omega
      case c4 => omega
      case c5 => omega
      intro v5 w5 hown5 hb5 hbs5 hkeep hv5
      replace HV0 := Lib.hid (hv5 HV0.out)
      clear hv5
      have e4 : w5.cell? ⟨wr.heap.size, 4, none⟩ = some (.slice ba m2 bk) := (hkeep ⟨wr.heap.size, 4, none⟩ (by first | exact Nat.lt_succ_self _ | (rw [hs4]; exact Nat.lt_succ_self _)) (fun e => by
        have h := (HOW.out.lt _ e).2
        exact absurd h (Nat.lt_irrefl _))).trans d4
      have HB5 := Lib.hid (HB4.out.trans hb5)
      have HOW5 := Lib.hid hown5
      clear hown5 hb5 hkeep d0 d1 d2 d3 d4 HOW4 HOW hs4 HB4 HB
      go_wp2_with (at_builtin; refine wp_catK rfl _ _ 25 rfl w.heap.size i0 (.float .f32 0) 4 Tryz.underlying25 hi0 hz0 hz1 hz2 rfl _ (nk + m1) _ rfl HOW5.out ba m2 bk (lbs.map (Value.float .f32)) rfl HNB.out (by rw [List.length_map, HM2.out]) (HFB.out _ HB5.out) (H1.out lbs) ?c3 ?c4 ?c5 ?_)
      case c3 => unfold maxLen; omega
      case c4 => omega
      case c5 => exact hbs5
      intro v6 w6 hown6 hb6 hbs6 hkeep hv6
      replace HV0 := Lib.hid (hv6 HV0.out)
      clear hv6
      have HB6 := Lib.hid (HB5.out.trans hb6)
      have HOW6 := Lib.hid hown6
      clear hown6 hb6 hkeep e4 HOW5 HB5
      go_wp2
      refine ⟨?rel, ?measure⟩
      case rel => exact ⟨k + 1, nk + m1 + m2, by go_num, hlt, by omega, Lib.hid ⟨by rw [HT.out, List.map_append, List.map_append, List.append_assoc]; exact HOW6.out, by rw [HT.out, List.length_append, List.length_append, HNK.out, HM1.out, HM2.out], HV0.out⟩, HB6⟩
      case measure => simp [intOf]; omega
    · have e : k = n := by omega
      subst e
      have e2 : (ls.map LayD.toLayP).take k = ls.map LayD.toLayP := by rw [HN.out, ← List.length_map (f := LayD.toLayP)]; exact List.take_length
      rw [e2] at HO
      have hok := paramsP_okF HLS.out
      obtain ⟨ad, cap, rfl, hr⟩ := RepF.of_owns HO.out.1 hok
      obtain ⟨g, rfl⟩ : ∃ g, ad = some ⟨g, 0, none⟩ := by
        rcases hr.row.own.2 with ⟨e1, _⟩ | ⟨g, cap', cur, e1, _⟩
        · exact absurd e1 HO.out.2.2
        · cases e1; exact ⟨g, rfl⟩
      have HR := Lib.hid hr
      clear hok hr HO e2
      go_wp2
      go_ret
      exact ⟨g, _, cap, rfl, HR, HB.out⟩
end Go.Proofs.YtpadlmidojpbeaaGreat
/- x -/
namespace Go.Proofs.YtpadlmidojpbeaaGreat
open Go Go.RowKit
set_option maxHeartbeats 8000000 in
set_option maxRecDepth 100000 in
theorem impl_ValidModel (w : World) (ad : Option Addr) (cap : Nat) (us : List LayD) (h : SeeR layR w ad cap us) :
    Calls Tryz.prog 33 #[.agg #[.slice ad us.length cap]] w fun e w' => e = .returned (.bool (modB (us.map LayD.toLayP))) ∧ Below w.heap.size w w' := by
  have hm := Nat.le_trans h.le h.cap
  unfold maxLen at hm
  obtain ⟨R, hR⟩ : ∃ R, R = modB (us.map LayD.toLayP) := ⟨_, rfl⟩
  rw [← hR]
  unfold modB at hR
  rw [List.length_map] at hR
  obtain ⟨n, hN⟩ : ∃ n, n = us.length := ⟨_, rfl⟩
  rw [← hN] at hR hm ⊢
  have b1 := below1 w (.cells #[.slice ad n cap] 35)
  have XB := Lib.hid (BoxN.alloc w #[.slice ad n cap] 35)
  have HR := Lib.hid hR; have HN := Lib.hid hN; have H := Lib.hid (h.below b1); have B1 := Lib.hid b1
  clear hR hN h b1
  go_enter Tryz.func33, Tryz.ntmps33
  go_upto_region 2 with fail
  generalize w.alloc (.cells #[.slice ad n cap] 35) = v1 at H XB B1 ⊢
  obtain ⟨gb, hgb⟩ : ∃ gb, gb = w.heap.size := ⟨_, rfl⟩
  rw [← hgb] at XB ⊢
  clear hgb
  go_wp2
  go_loopw [8] (fun i wt => ∃ k : Nat, i = .int .i64 k ∧ k ≤ n ∧ Hid (linkM (us.map LayD.toLayP) k = true) ∧ Hid (Below v1.heap.size v1 wt)) (fun i _ => n - (intOf i).toNat)
  case atStart => exact ⟨0, rfl, Nat.zero_le _, Lib.hid rfl, Lib.hid (Below.refl _ _)⟩
  case round =>
    obtain ⟨k, rfl, hk, HL, HB⟩ := hrel
    by_cases hlt : k < n
    · obtain ⟨l, hl⟩ := getElem?_lt (show k < us.length by rw [← HN.out]; exact hlt)
      obtain ⟨b, off, had, hbl, ⟨p0, p1, p2, p3, p4⟩, hf, hok⟩ := lay_spot (H.out.below HB.out) hl
      have hlp : (us.map LayD.toLayP)[k]? = some l.toLayP := by rw [List.getElem?_map, hl]; rfl
      have HLP := Lib.hid hlp
      obtain ⟨⟨lk, li, lo, ws, bs⟩, wa, wk, ba, bk⟩ := l
      simp only at p0 p1 p2 p3 p4 hf
      have hlw : ws.length ≤ maxLen := Nat.le_trans hf.1.len hf.1.cap
      have hlb : bs.length ≤ maxLen := Nat.le_trans hf.2.len hf.2.cap
      have KV := Lib.hid (fun W => impl_ValidLayer lk li lo wa ba ws.length wk bs.length bk hlw hlb W)
      have hLB : layB ⟨lk, li, lo, ws, bs⟩ = layC lk li lo ws.length bs.length := rfl
      have HLB := Lib.hid hLB
      have hprev : ∀ q, k = q + 1 → ∃ p : LayD, (us.map LayD.toLayP)[q]? = some p.toLayP ∧ wr.cell? ⟨b, off + q * 5 + 2, none⟩ = some (.int .i64 p.o) := by
        intro q hq
        obtain ⟨p, hp⟩ := getElem?_lt (show q < us.length by rw [← HN.out]; omega)
        obtain ⟨b', off', had', -, ⟨-, -, d2, -, -⟩, -, -⟩ := lay_spot (H.out.below HB.out) hp
        rw [had] at had'; cases had'
        exact ⟨p, by rw [List.getElem?_map, hp]; rfl, d2⟩
      have HPV := Lib.hid hprev
      subst had
      clear hlp hf hok hlw hlb hLB hprev hl
      obtain ⟨x, hx⟩ : ∃ x, x = ws.length := ⟨_, rfl⟩
      obtain ⟨y, hy⟩ : ∃ y, y = bs.length := ⟨_, rfl⟩
      rw [← hx] at p3 KV HLB
      rw [← hy] at p4 KV HLB
      clear hx hy
      go_upto_region 4 with fail
      have b2 := below1 wr (.cells #[.int .i64 lk, .int .i64 li, .int .i64 lo, .slice wa x wk, .slice ba y bk] 99)
      have LBX := Lib.hid (BoxN.alloc wr #[.int .i64 lk, .int .i64 li, .int .i64 lo, .slice wa x wk, .slice ba y bk] 99)
      replace HB := Lib.hid (bthen HB.out b2)
      have HPV2 : Hid (∀ q, k = q + 1 → ∃ p : LayD, (us.map LayD.toLayP)[q]? = some p.toLayP ∧ (wr.alloc (.cells #[.int .i64 lk, .int .i64 li, .int .i64 lo, .slice wa x wk, .slice ba y bk] 99)).cell? ⟨b, off + q * 5 + 2, none⟩ = some (.int .i64 p.o)) := Lib.hid (fun q hq => by
        obtain ⟨p, h1, h2⟩ := HPV.out q hq
        exact ⟨p, h1, (b2.cell (p := ⟨b, off + q * 5 + 2, none⟩) hbl).trans h2⟩)
      have hbl2 := Nat.lt_of_lt_of_le hbl b2.size
      clear b2 HPV p0 p1 p2 p3 p4
      generalize wr.alloc (.cells #[.int .i64 lk, .int .i64 li, .int .i64 lo, .slice wa x wk, .slice ba y bk] 99) = w2 at LBX HB HPV2 hbl2 ⊢
      generalize wr.heap.size = lb at LBX hbl ⊢
      have CM : Hid (∀ W, Below w2.heap.size w2 W → (W.cell? ⟨lb, 0, none⟩ = some (.int .i64 lk) ∧ W.cell? ⟨lb, 1, none⟩ = some (.int .i64 li) ∧ W.cell? ⟨lb, 2, none⟩ = some (.int .i64 lo) ∧ W.cell? ⟨lb, 3, none⟩ = some (.slice wa x wk) ∧ W.cell? ⟨lb, 4, none⟩ = some (.slice ba y bk)) ∧ W.cell? ⟨gb, 0, none⟩ = some (.slice (some ⟨b, off, none⟩) n cap)) := Lib.hid (fun W hb => by
        obtain ⟨-, q0, q1, q2, q3, q4, -⟩ := (LBX.out.below hb).five
        exact ⟨⟨q0, q1, q2, q3, q4⟩, (((XB.out.below HB.out).below hb).one1).2.1⟩)
      clear LBX XB hbl
      cases e1 : layC lk li lo x y
      · rw [e1] at KV HLB
        have HF := Lib.hid (linkM_lay HL.out HLP.out HLB.out)
        have HRF : Hid (R = false) := Lib.hid (by rw [HR.out, linkM_none HF.out (show k + 1 ≤ n from hlt)]; rfl)
        clear e1
        refine wp_region_low (VC1 (.bool false)) (by kernel_rfl) (by kernel_rfl) ?_
        repeat (refine cset_step (low_self _) (fun K hK W hW => ?_); obtain ⟨⟨d0, d1, d2, d3, d4⟩, d5⟩ := CM.out W hW; first | (go_simp; refine hK _ ?_; clear hK K d0 d1 d2 d3 d4 d5) | (go_simp; refine ⟨(KV.out _).mono ?_, ?_⟩; (rintro e w1 ⟨rfl, hb⟩; exact ⟨_, rfl, bthen hW hb, rfl⟩); (rintro v hv; obtain rfl := hv; refine hK _ ?_; clear hK K d0 d1 d2 d3 d4 d5)))
        refine cset_nil ?_
        intro w3 hw3
        have HB3 := Lib.hid (bthen HB.out hw3); clear hw3
        go_wp2
        go_ret
        exact ⟨by rw [HRF.out]; rfl, bthen B1.out HB3.out⟩
      · rw [e1] at KV HLB
        clear e1
        rcases k with _ | q
        · have HL1 : Hid (linkM (us.map LayD.toLayP) 1 = true) := Lib.hid (by rw [linkM_zero HLP.out]; exact HLB.out)
          refine wp_region_low (VC1 (.bool true)) (by kernel_rfl) (by kernel_rfl) ?_
          repeat (refine cset_step (low_self _) (fun K hK W hW => ?_); obtain ⟨⟨d0, d1, d2, d3, d4⟩, d5⟩ := CM.out W hW; first | (go_simp; refine hK _ ?_; clear hK K d0 d1 d2 d3 d4 d5) | (go_simp; refine ⟨(KV.out _).mono ?_, ?_⟩; (rintro e w1 ⟨rfl, hb⟩; exact ⟨_, rfl, bthen hW hb, rfl⟩); (rintro v hv; obtain rfl := hv; refine hK _ ?_; clear hK K d0 d1 d2 d3 d4 d5)))
          refine cset_nil ?_
          intro w3 hw3
          have HB3 := Lib.hid (bthen HB.out hw3); clear hw3
          go_wp2
          go_roundw
          case rel => exact ⟨1, by go_num, hlt, HL1, HB3⟩
          case measure => simp [intOf]; omega
        · obtain ⟨p, hp, dp⟩ := HPV2.out q rfl
          have CP : Hid (∀ W, Below w2.heap.size w2 W → W.cell? ⟨b, off + q * 5 + 2, none⟩ = some (.int .i64 p.o)) := Lib.hid (fun W hb => (hb.cell (p := ⟨b, off + q * 5 + 2, none⟩) hbl2).trans dp)
          have HLN := Lib.hid (linkM_next HL.out HLP.out hp)
          obtain ⟨po, hpo⟩ : ∃ po, po = p.o := ⟨_, rfl⟩
          rw [← hpo] at CP HLN
          clear hp dp HPV2 hpo
          have hqn : q < n := by omega
          have hwq : IntKind.i64.wrap (q : Int) = (q : Int) := by rw [IntKind.wrap_i64]; omega
          by_cases hd : po = li
          · subst hd
            have HL1 : Hid (linkM (us.map LayD.toLayP) (q + 1 + 1) = true) := Lib.hid (by rw [HLN.out, HLB.out]; simp)
            refine wp_region_low (VC1 (.bool true)) (by kernel_rfl) (by kernel_rfl) ?_
            repeat (refine cset_step (low_self _) (fun K hK W hW => ?_); obtain ⟨⟨d0, d1, d2, d3, d4⟩, d5⟩ := CM.out W hW; have d6 := CP.out W hW; first | (go_simp; refine hK _ ?_; clear hK K d0 d1 d2 d3 d4 d5 d6) | (go_simp; refine ⟨(KV.out _).mono ?_, ?_⟩; (rintro e w1 ⟨rfl, hb⟩; exact ⟨_, rfl, bthen hW hb, rfl⟩); (rintro v hv; obtain rfl := hv; refine hK _ ?_; clear hK K d0 d1 d2 d3 d4 d5 d6)))
            refine cset_nil ?_
            intro w3 hw3
            have HB3 := Lib.hid (bthen HB.out hw3); clear hw3
            go_wp2
            go_roundw
            case rel => exact ⟨q + 1 + 1, by go_num, hlt, HL1, HB3⟩
            case measure => simp [intOf]; omega
          · have HRF : Hid (R = false) := Lib.hid (by rw [HR.out, linkM_none (k := q + 1 + 1) (by rw [HLN.out, HLB.out]; simpa using hd) (show q + 1 + 1 ≤ n from hlt)]; rfl)
            have f1 : (li != po) = true := by simp; omega
            have f2 : (li == po) = false := by simp; omega
            refine wp_region_low (VC1 (.bool true)) (by kernel_rfl) (by kernel_rfl) ?_
            repeat (refine cset_step (low_self _) (fun K hK W hW => ?_); obtain ⟨⟨d0, d1, d2, d3, d4⟩, d5⟩ := CM.out W hW; have d6 := CP.out W hW; first | (go_simp; refine hK _ ?_; clear hK K d0 d1 d2 d3 d4 d5 d6) | (go_simp; refine ⟨(KV.out _).mono ?_, ?_⟩; (rintro e w1 ⟨rfl, hb⟩; exact ⟨_, rfl, bthen hW hb, rfl⟩); (rintro v hv; obtain rfl := hv; refine hK _ ?_; clear hK K d0 d1 d2 d3 d4 d5 d6)))
            refine cset_nil ?_
            intro w3 hw3
            have HB3 := Lib.hid (bthen HB.out hw3); clear hw3
            go_wp2
            go_ret
            exact ⟨by rw [HRF.out]; rfl, bthen B1.out HB3.out⟩
    · have hkn : k = n := by omega
      subst hkn
      have HE : Hid (R = decide (1 ≤ k ∧ k ≤ 6)) := Lib.hid (by rw [HR.out, HL.out, Bool.true_and])
      obtain ⟨-, q0, -⟩ := (XB.out.below HB.out).one1
      by_cases h1 : 1 ≤ k
      · have HE2 : Hid (R = decide ((k : Int) ≤ 6)) := Lib.hid (by rw [HE.out]; exact decide_eq_decide.2 ⟨fun h => by omega, fun h => ⟨h1, by omega⟩⟩)
        go_wp2
        go_ret
        exact ⟨by rw [HE2.out]; rfl, bthen B1.out HB.out⟩
      · have HE2 : Hid (R = false) := Lib.hid (by rw [HE.out]; simp; omega)
        go_wp2
        go_ret
        exact ⟨by rw [HE2.out]; rfl, bthen B1.out HB.out⟩
end Go.Proofs.YtpadlmidojpbeaaGreat
/- x -/
namespace Go.Proofs.YtpadlmidojpbeaaGreat
open Go Go.RowKit
theorem drawn_more {w w' : World} {n : Nat} (h : Dr (w.drewN n) w') : Drawn w w' := by
  obtain ⟨m, rfl⟩ := h
  exact ⟨n + m, by simp⟩
theorem dr_cell {w w' : World} {p : Addr} {v : Value} (hd : Dr w w') (h : w.cell? p = some v) : w'.cell? p = some v := by obtain ⟨q, rfl⟩ := hd; simpa using h
theorem Dr.more {w w' : World} (hd : Dr w w') (q : Nat) : Dr w (w'.drewN q) := by obtain ⟨m, rfl⟩ := hd; exact ⟨m + q, by simp⟩
set_option maxHeartbeats 2000000 in
theorem spec_l03Counts (w : World) (g off : Nat) (k i o : Int) (p0 : w.cell? ⟨g, off, none⟩ = some (.int .i64 k)) (p1 : w.cell? ⟨g, off + 1, none⟩ = some (.int .i64 i)) (p2 : w.cell? ⟨g, off + 2, none⟩ = some (.int .i64 o)) (hi : 1 ≤ i ∧ i ≤ 8) (ho : 1 ≤ o ∧ o ≤ 8) :
    Calls Tryz.prog 101 #[.pointer (some ⟨g, off, none⟩)] w fun e w' => e = .returned (.tuple #[.int .i64 (cntW k i o), .int .i64 (cntB k i o)]) ∧ Dr w w' := by
  obtain ⟨i1, i2⟩ := hi
  obtain ⟨o1, o2⟩ := ho
  obtain ⟨p, hp⟩ : ∃ p, p = o * i := ⟨_, rfl⟩
  have q1 : 0 ≤ p := by rw [hp]; exact Int.mul_nonneg (by omega) (by omega)
  have q2 : p ≤ 64 := by
    rw [hp]
    have h3 : o * i ≤ 8 * i := Int.mul_le_mul_of_nonneg_right o2 (by omega)
    omega
  have hpw2 : IntKind.i64.wrap (i * o) = p := by rw [Int.mul_comm, ← hp, IntKind.wrap_i64]; omega
  by_cases hk0 : k = 0
  · subst hk0
    have eW : cntW 0 i o = p := by rw [hp]; rfl
    have eB : cntB 0 i o = o := rfl
    rw [eW, eB]
    clear hp eW eB
    go_enter Tryz.func101, Tryz.ntmps101
    go_wp2
    refine wp_region_drawn (fun _ _ _ => False) (by kernel_rfl) (by kernel_rfl) ?_
    repeat (refine wset_step (fun K hK nq => ?_); go_simp; refine hK _ ?_; clear hK K)
    refine wset_nil ?_
    rintro w' ⟨q, rfl⟩
    go_wp2
    go_ret2
    exact ⟨rfl, _, rfl⟩
  have f3 : (k == 0) = false := by simp; omega
  by_cases hk2 : k = 2
  · subst hk2
    have eW : cntW 2 i o = i := rfl
    have eB : cntB 2 i o = 0 := rfl
    rw [eW, eB]
    clear eW eB hp
    go_enter Tryz.func101, Tryz.ntmps101
    go_wp2
    go_ret2
    exact ⟨rfl, 0, rfl⟩
  have f4 : (k == 2) = false := by simp; omega
  by_cases hk5 : k = 5
  · subst hk5
    have eW : cntW 5 i o = i := rfl
    have eB : cntB 5 i o = i := rfl
    rw [eW, eB]
    clear eW eB hp
    go_enter Tryz.func101, Tryz.ntmps101
    go_wp2
    refine wp_region_drawn (fun _ _ _ => False) (by kernel_rfl) (by kernel_rfl) ?_
    repeat (refine wset_step (fun K hK nq => ?_); go_simp; refine hK _ ?_; clear hK K)
    refine wset_nil ?_
    rintro w' ⟨q, rfl⟩
    go_wp2
    go_ret2
    exact ⟨rfl, _, rfl⟩
  have f5 : (k == 5) = false := by simp; omega
  have eW : cntW k i o = 0 := by unfold cntW; rw [if_neg hk0, if_neg hk2, if_neg hk5]
  have eB : cntB k i o = 0 := by unfold cntB; rw [if_neg hk0, if_neg hk5]
  rw [eW, eB]
  clear eW eB hp hk0 hk2 hk5
  go_enter Tryz.func101, Tryz.ntmps101
  go_wp2
  go_ret2
  exact ⟨rfl, 0, rfl⟩
set_option maxHeartbeats 4000000 in
theorem spec_l03Layer (w : World) (g off : Nat) (k i o : Int) (a b : Option Addr) (n c m d : Nat) (hn : n ≤ maxLen) (hm : m ≤ maxLen) (p0 : w.cell? ⟨g, off, none⟩ = some (.int .i64 k)) (p1 : w.cell? ⟨g, off + 1, none⟩ = some (.int .i64 i)) (p2 : w.cell? ⟨g, off + 2, none⟩ = some (.int .i64 o)) (p3 : w.cell? ⟨g, off + 3, none⟩ = some (.slice a n c)) (p4 : w.cell? ⟨g, off + 4, none⟩ = some (.slice b m d)) :
    Calls Tryz.prog 80 #[.pointer (some ⟨g, off, none⟩)] w fun e w' => e = .returned (.bool (layC k i o n m)) ∧ Dr w w' := by
  unfold maxLen at hn hm
  have K1 := Lib.hid (fun W => l00In_any k 0 5 W)
  have K2 := Lib.hid (fun W => l00In_any i 1 8 W)
  have K3 := Lib.hid (fun W => l00In_any o 1 8 W)
  unfold layC
  cases h1 : inB k 0 5
  · rw [h1] at K1; clear h1
    go_enter Tryz.func80, Tryz.ntmps80
    go_wp2_with fail
    refine (K1.out _).mono ?_
    rintro e w1 ⟨rfl, rfl⟩
    go_wp2
    go_ret
    exact ⟨rfl, 0, rfl⟩
  rw [h1] at K1; have ⟨k1, k2⟩ := inB_iff.1 h1; clear h1
  cases h2 : inB i 1 8
  · rw [h2] at K2; clear h2
    go_enter Tryz.func80, Tryz.ntmps80
    go_wp2_with fail
    refine (K1.out _).mono ?_
    rintro e w1 ⟨rfl, rfl⟩
    go_wp2_with fail
    refine (K2.out _).mono ?_
    rintro e w1 ⟨rfl, rfl⟩
    go_wp2
    go_ret
    exact ⟨rfl, 0, rfl⟩
  rw [h2] at K2; have ⟨i1, i2⟩ := inB_iff.1 h2; clear h2
  cases h3 : inB o 1 8
  · rw [h3] at K3; clear h3
    go_enter Tryz.func80, Tryz.ntmps80
    go_wp2_with fail
    refine (K1.out _).mono ?_
    rintro e w1 ⟨rfl, rfl⟩
    go_wp2_with fail
    refine (K2.out _).mono ?_
    rintro e w1 ⟨rfl, rfl⟩
    go_wp2_with fail
    refine (K3.out _).mono ?_
    rintro e w1 ⟨rfl, rfl⟩
    go_wp2
    go_ret
    exact ⟨rfl, 0, rfl⟩
  rw [h3] at K3; have ⟨o1, o2⟩ := inB_iff.1 h3; clear h3
  have KC := Lib.hid (spec_l03Counts w g off k i o p0 p1 p2 ⟨i1, i2⟩ ⟨o1, o2⟩)
  obtain ⟨cw, hcw⟩ : ∃ x, x = cntW k i o := ⟨_, rfl⟩
  obtain ⟨cb, hcb⟩ : ∃ x, x = cntB k i o := ⟨_, rfl⟩
  rw [← hcw, ← hcb] at KC ⊢
  clear hcw hcb
  by_cases hk0 : k = 0
  · subst hk0
    rw [decide_eq_true (Or.inl rfl)]
    by_cases hA : (n : Int) = cw
    rotate_left
    · rw [decide_eq_false hA]
      have g1 : ((n : Int) == cw) = false := by simpa using hA
      clear hA
      go_enter Tryz.func80, Tryz.ntmps80
      go_wp2_with fail
      refine (K1.out _).mono ?_
      rintro e w1 ⟨rfl, rfl⟩
      go_wp2_with fail
      refine (K2.out _).mono ?_
      rintro e w1 ⟨rfl, rfl⟩
      go_wp2_with fail
      refine (K3.out _).mono ?_
      rintro e w1 ⟨rfl, rfl⟩
      go_wp2_with fail
      refine KC.out.mono ?_
      rintro e w1 ⟨rfl, hd⟩
      have e0 := dr_cell hd p0; have e1 := dr_cell hd p1; have e2 := dr_cell hd p2; have e3 := dr_cell hd p3; have e4 := dr_cell hd p4
      have HD := Lib.hid hd
      clear hd p0 p1 p2 p3 p4
      go_wp2
      refine wp_region_drawn (fun _ _ _ => False) (by kernel_rfl) (by kernel_rfl) ?_
      repeat (refine wset_step (fun K hK nq => ?_); go_simp; refine hK _ ?_; clear hK K)
      refine wset_nil ?_
      rintro w' ⟨q, rfl⟩
      go_wp2
      go_ret
      exact ⟨rfl, HD.out.more q⟩
    · rw [decide_eq_true hA]
      have g1 : ((n : Int) == cw) = true := by simp [hA]
      clear hA
      go_enter Tryz.func80, Tryz.ntmps80
      go_wp2_with fail
      refine (K1.out _).mono ?_
      rintro e w1 ⟨rfl, rfl⟩
      go_wp2_with fail
      refine (K2.out _).mono ?_
      rintro e w1 ⟨rfl, rfl⟩
      go_wp2_with fail
      refine (K3.out _).mono ?_
      rintro e w1 ⟨rfl, rfl⟩
      go_wp2_with fail
      refine KC.out.mono ?_
      rintro e w1 ⟨rfl, hd⟩
      have e0 := dr_cell hd p0; have e1 := dr_cell hd p1; have e2 := dr_cell hd p2; have e3 := dr_cell hd p3; have e4 := dr_cell hd p4
      have HD := Lib.hid hd
      clear hd p0 p1 p2 p3 p4
      go_wp2
      refine wp_region_drawn (fun _ _ _ => False) (by kernel_rfl) (by kernel_rfl) ?_
      repeat (refine wset_step (fun K hK nq => ?_); go_simp; refine hK _ ?_; clear hK K)
      refine wset_nil ?_
      rintro w' ⟨q, rfl⟩
      go_wp2
      go_ret
      exact ⟨by congr 2, HD.out.more q⟩
  have f3 : (k == 0) = false := by simp; omega
  by_cases hio : i = o
  · subst hio
    rw [decide_eq_true (Or.inr rfl)]
    clear hk0
    by_cases hA : (n : Int) = cw
    rotate_left
    · rw [decide_eq_false hA]
      have g1 : ((n : Int) == cw) = false := by simpa using hA
      clear hA
      go_enter Tryz.func80, Tryz.ntmps80
      go_wp2_with fail
      refine (K1.out _).mono ?_
      rintro e w1 ⟨rfl, rfl⟩
      go_wp2_with fail
      refine (K2.out _).mono ?_
      rintro e w1 ⟨rfl, rfl⟩
      go_wp2_with fail
      refine (K3.out _).mono ?_
      rintro e w1 ⟨rfl, rfl⟩
      go_wp2_with fail
      refine KC.out.mono ?_
      rintro e w1 ⟨rfl, hd⟩
      have e0 := dr_cell hd p0; have e1 := dr_cell hd p1; have e2 := dr_cell hd p2; have e3 := dr_cell hd p3; have e4 := dr_cell hd p4
      have HD := Lib.hid hd
      clear hd p0 p1 p2 p3 p4
      go_wp2
      refine wp_region_drawn (fun _ _ _ => False) (by kernel_rfl) (by kernel_rfl) ?_
      repeat (refine wset_step (fun K hK nq => ?_); go_simp; refine hK _ ?_; clear hK K)
      refine wset_nil ?_
      rintro w' ⟨q, rfl⟩
      go_wp2
      go_ret
      exact ⟨rfl, HD.out.more q⟩
    · rw [decide_eq_true hA]
      have g1 : ((n : Int) == cw) = true := by simp [hA]
      clear hA
      go_enter Tryz.func80, Tryz.ntmps80
      go_wp2_with fail
      refine (K1.out _).mono ?_
      rintro e w1 ⟨rfl, rfl⟩
      go_wp2_with fail
      refine (K2.out _).mono ?_
      rintro e w1 ⟨rfl, rfl⟩
      go_wp2_with fail
      refine (K3.out _).mono ?_
      rintro e w1 ⟨rfl, rfl⟩
      go_wp2_with fail
      refine KC.out.mono ?_
      rintro e w1 ⟨rfl, hd⟩
      have e0 := dr_cell hd p0; have e1 := dr_cell hd p1; have e2 := dr_cell hd p2; have e3 := dr_cell hd p3; have e4 := dr_cell hd p4
      have HD := Lib.hid hd
      clear hd p0 p1 p2 p3 p4
      go_wp2
      refine wp_region_drawn (fun _ _ _ => False) (by kernel_rfl) (by kernel_rfl) ?_
      repeat (refine wset_step (fun K hK nq => ?_); go_simp; refine hK _ ?_; clear hK K)
      refine wset_nil ?_
      rintro w' ⟨q, rfl⟩
      go_wp2
      go_ret
      exact ⟨by congr 2, HD.out.more q⟩
  · rw [decide_eq_false (by omega)]
    have f1 : (i == o) = false := by simp; omega
    clear hk0 hio
    go_enter Tryz.func80, Tryz.ntmps80
    go_wp2_with fail
    refine (K1.out _).mono ?_
    rintro e w1 ⟨rfl, rfl⟩
    go_wp2_with fail
    refine (K2.out _).mono ?_
    rintro e w1 ⟨rfl, rfl⟩
    go_wp2_with fail
    refine (K3.out _).mono ?_
    rintro e w1 ⟨rfl, rfl⟩
    go_wp2_with fail
    refine KC.out.mono ?_
    rintro e w1 ⟨rfl, hd⟩
    have e0 := dr_cell hd p0; have e1 := dr_cell hd p1; have e2 := dr_cell hd p2; have e3 := dr_cell hd p3; have e4 := dr_cell hd p4
    have HD := Lib.hid hd
    clear hd p0 p1 p2 p3 p4
    go_wp2
    refine wp_region_drawn (fun _ _ _ => False) (by kernel_rfl) (by kernel_rfl) ?_
    repeat (refine wset_step (fun K hK nq => ?_); go_simp; refine hK _ ?_; clear hK K)
    refine wset_nil ?_
    rintro w' ⟨q, rfl⟩
    go_wp2
    go_ret
    exact ⟨rfl, HD.out.more q⟩
end Go.Proofs.YtpadlmidojpbeaaGreat
/- x -/
namespace Go.Proofs.YtpadlmidojpbeaaGreat
open Go Go.RowKit
set_option maxHeartbeats 8000000 in
set_option maxRecDepth 100000 in
theorem spec_l03Is (w : World) (g o : Nat) (ad : Option Addr) (cap : Nat) (us : List LayD) (h : SeeR layR w ad cap us) (hg : w.cell? ⟨g, o, none⟩ = some (.slice ad us.length cap)) :
    Calls Tryz.prog 53 #[.pointer (some ⟨g, o, none⟩)] w fun e w' => e = .returned (.bool (modB (us.map LayD.toLayP))) ∧ Dr w w' := by
  have hm := Nat.le_trans h.le h.cap
  unfold maxLen at hm
  obtain ⟨R, hR⟩ : ∃ R, R = modB (us.map LayD.toLayP) := ⟨_, rfl⟩
  rw [← hR]
  unfold modB at hR
  rw [List.length_map] at hR
  obtain ⟨n, hN⟩ : ∃ n, n = us.length := ⟨_, rfl⟩
  rw [← hN] at hR hm hg
  have HR := Lib.hid hR; have HN := Lib.hid hN; have H := Lib.hid h; have HG := Lib.hid hg
  clear hR hN h
  by_cases hn1 : 1 ≤ n
  rotate_left
  · have HE : Hid (R = false) := Lib.hid (by rw [HR.out, decide_eq_false (by omega), Bool.and_false])
    go_enter Tryz.func53, Tryz.ntmps53
    go_wp2
    go_ret
    exact ⟨by rw [HE.out]; rfl, 0, rfl⟩
  by_cases hn6 : n ≤ 6
  rotate_left
  · have HE : Hid (R = false) := Lib.hid (by rw [HR.out, decide_eq_false (by omega), Bool.and_false])
    go_enter Tryz.func53, Tryz.ntmps53
    go_wp2
    go_ret
    exact ⟨by rw [HE.out]; rfl, 0, rfl⟩
  have HR2 : Hid (R = linkM (us.map LayD.toLayP) n) := Lib.hid (by rw [HR.out, decide_eq_true ⟨hn1, hn6⟩, Bool.and_true])
  clear HR
  go_enter Tryz.func53, Tryz.ntmps53
  go_wp2
  clear hg
  go_loopw [4] (fun i wt => ∃ k : Nat, i = .int .i64 k ∧ k ≤ n ∧ Hid (linkM (us.map LayD.toLayP) k = true) ∧ Hid (Dr w wt)) (fun i _ => n - (intOf i).toNat)
  case atStart => exact ⟨0, rfl, Nat.zero_le _, Lib.hid rfl, Lib.hid ⟨0, rfl⟩⟩
  case round =>
    obtain ⟨k, rfl, hk, HL, HD⟩ := hrel
    have g0 := dr_cell HD.out HG.out
    by_cases hlt : k < n
    · obtain ⟨l, hl⟩ := getElem?_lt (show k < us.length by rw [← HN.out]; exact hlt)
      obtain ⟨b, off, had, hbl, ⟨p0, p1, p2, p3, p4⟩, hf, hok⟩ := lay_spot (H.out.below HD.out.below) hl
      have hlp : (us.map LayD.toLayP)[k]? = some l.toLayP := by rw [List.getElem?_map, hl]; rfl
      have HLP := Lib.hid hlp
      obtain ⟨⟨lk, li, lo, ws, bs⟩, wa, wk, ba, bk⟩ := l
      simp only at p0 p1 p2 p3 p4 hf
      have hlw : ws.length ≤ maxLen := Nat.le_trans hf.1.len hf.1.cap
      have hlb : bs.length ≤ maxLen := Nat.le_trans hf.2.len hf.2.cap
      have KV := Lib.hid (fun q => spec_l03Layer (wr.drewN q) b (off + k * 5) lk li lo wa ba ws.length wk bs.length bk hlw hlb (by simpa using p0) (by simpa using p1) (by simpa using p2) (by simpa using p3) (by simpa using p4))
      have hLB : layB ⟨lk, li, lo, ws, bs⟩ = layC lk li lo ws.length bs.length := rfl
      have HLB := Lib.hid hLB
      have hprev : ∀ q, k = q + 1 → ∃ p : LayD, (us.map LayD.toLayP)[q]? = some p.toLayP ∧ wr.cell? ⟨b, off + q * 5 + 2, none⟩ = some (.int .i64 p.o) := by
        intro q hq
        obtain ⟨p, hp⟩ := getElem?_lt (show q < us.length by rw [← HN.out]; omega)
        obtain ⟨b', off', had', -, ⟨-, -, d2, -, -⟩, -, -⟩ := lay_spot (H.out.below HD.out.below) hp
        rw [had] at had'; cases had'
        exact ⟨p, by rw [List.getElem?_map, hp]; rfl, d2⟩
      have HPV := Lib.hid hprev
      subst had
      clear hlp hf hok hlw hlb hLB hprev hl p0 p2 p3 p4 hbl
      obtain ⟨x, hx⟩ : ∃ x, x = ws.length := ⟨_, rfl⟩
      obtain ⟨y, hy⟩ : ∃ y, y = bs.length := ⟨_, rfl⟩
      rw [← hx] at KV HLB
      rw [← hy] at KV HLB
      clear hx hy
      cases e1 : layC lk li lo x y
      · rw [e1] at KV HLB
        have HF := Lib.hid (linkM_lay HL.out HLP.out HLB.out)
        have HRF : Hid (R = false) := Lib.hid (by rw [HR2.out, linkM_none HF.out (show k + 1 ≤ n from hlt)])
        clear e1 p1 HPV
        go_wp2
        refine wp_region_drawn (fun f args v => v = .bool false) (by kernel_rfl) (by kernel_rfl) ?_
        repeat (refine wset_step (fun K hK nq => ?_); first | (go_simp; refine hK _ ?_; clear hK K) | (go_simp; refine ⟨(KV.out _).mono ?_, ?_⟩; (rintro e w' ⟨rfl, hd⟩; exact ⟨rfl, drawn_more hd⟩); (refine hK _ ?_; clear hK K)))
        refine wset_nil ?_
        rintro w' ⟨q, rfl⟩
        go_wp2
        go_ret
        exact ⟨by rw [HRF.out]; rfl, HD.out.more q⟩
      · rw [e1] at KV HLB
        clear e1
        by_cases hk0 : k = 0
        · subst hk0
          have HL1 : Hid (linkM (us.map LayD.toLayP) 1 = true) := Lib.hid (by rw [linkM_zero HLP.out]; exact HLB.out)
          clear HPV p1
          go_wp2
          refine wp_region_drawn (fun f args v => v = .bool true) (by kernel_rfl) (by kernel_rfl) ?_
          repeat (refine wset_step (fun K hK nq => ?_); first | (go_simp; refine hK _ ?_; clear hK K) | (go_simp; refine ⟨(KV.out _).mono ?_, ?_⟩; (rintro e w' ⟨rfl, hd⟩; exact ⟨rfl, drawn_more hd⟩); (refine hK _ ?_; clear hK K)))
          refine wset_nil ?_
          rintro w' ⟨q, rfl⟩
          have HD2 := Lib.hid (HD.out.more q)
          go_wp2
          go_roundw
          case rel => exact ⟨1, by go_num, hlt, HL1, HD2⟩
          case measure => simp [intOf]; omega
        · obtain ⟨z, hz⟩ : ∃ z, k = z + 1 := ⟨k - 1, by omega⟩
          obtain ⟨p, hp, dp⟩ := HPV.out z hz
          have HZ := Lib.hid hz
          have HLN : Hid (linkM (us.map LayD.toLayP) (k + 1) = (layB ⟨lk, li, lo, ws, bs⟩ && decide (p.toLayP.o = li))) := Lib.hid (by
            have h1 := HL.out; have h2 := HLP.out
            rw [hz] at h1 h2 ⊢
            exact linkM_next h1 h2 hp)
          have hzk : z < k := by omega
          have hk1 : 0 < k := by omega
          have hk2 : decide (0 < k) = true := decide_eq_true hk1
          have hz0 : (0 : Int) ≤ (z : Int) := by omega
          have hzn : (z : Int) < (n : Int) := by omega
          have hwq : IntKind.i64.wrap ((k : Int) - 1) = (z : Int) := by rw [IntKind.wrap_i64]; omega
          clear hz hk0
          obtain ⟨po, hpo⟩ : ∃ po, po = p.o := ⟨_, rfl⟩
          rw [← hpo] at dp HLN
          clear hp HPV hpo
          have hqn : z < n := by omega
          by_cases hd : po = li
          · subst hd
            have HL1 : Hid (linkM (us.map LayD.toLayP) (k + 1) = true) := Lib.hid (by rw [HLN.out, HLB.out]; simp)
            go_wp2
            refine wp_region_drawn (fun f args v => v = .bool true) (by kernel_rfl) (by kernel_rfl) ?_
            repeat (refine wset_step (fun K hK nq => ?_); first | (go_simp; refine hK _ ?_; clear hK K) | (go_simp; refine ⟨(KV.out _).mono ?_, ?_⟩; (rintro e w' ⟨rfl, hd⟩; exact ⟨rfl, drawn_more hd⟩); (refine hK _ ?_; clear hK K)))
            refine wset_nil ?_
            rintro w' ⟨q, rfl⟩
            have HD2 := Lib.hid (HD.out.more q)
            go_wp2
            go_roundw
            case rel => exact ⟨k + 1, by go_num, hlt, HL1, HD2⟩
            case measure => simp [intOf]; omega
          · have HRF : Hid (R = false) := Lib.hid (by rw [HR2.out, linkM_none (k := k + 1) (by rw [HLN.out, HLB.out]; simpa using hd) (show k + 1 ≤ n from hlt)])
            have f1 : (po != li) = true := by simp; omega
            have f2 : (po == li) = false := by simp; omega
            go_wp2
            refine wp_region_drawn (fun f args v => v = .bool true) (by kernel_rfl) (by kernel_rfl) ?_
            repeat (refine wset_step (fun K hK nq => ?_); first | (go_simp; refine hK _ ?_; clear hK K) | (go_simp; refine ⟨(KV.out _).mono ?_, ?_⟩; (rintro e w' ⟨rfl, hd⟩; exact ⟨rfl, drawn_more hd⟩); (refine hK _ ?_; clear hK K)))
            refine wset_nil ?_
            rintro w' ⟨q, rfl⟩
            go_wp2
            go_ret
            exact ⟨by rw [HRF.out]; rfl, HD.out.more q⟩
    · have hkn : k = n := by omega
      subst hkn
      have HE2 : Hid (R = true) := Lib.hid (by rw [HR2.out, HL.out])
      go_wp2
      go_ret
      exact ⟨by rw [HE2.out]; rfl, HD.out⟩
end Go.Proofs.YtpadlmidojpbeaaGreat
/- x -/
namespace Go.Proofs.YtpadlmidojpbeaaGreat
open Go
section
variable {P : Program} {ops : Array Oper} {VC : FuncId → Array Value → Value → Prop} {w : World} {Q : Act → Prop} {o : Oper} {rest : List Oper} {a : Act}
theorem wset_yes (hw : Region.wanted o (yielded ops a.tmps) = true) (h : ∀ K : Act → Prop, (∀ a, WSet P ops (Drawn w) VC Q rest a → K a) → ∀ n : Nat, UponS P VC w (fun v => K (a.put o.dst v)) ((execOp a.eval o).run P (w.drewN n))) :
    WSet P ops (Drawn w) VC Q (o :: rest) a :=
  wset_step fun K hK n => by rw [if_pos hw]; exact h K hK n
theorem wset_skip (hw : Region.wanted o (yielded ops a.tmps) = false) (h : ∀ K : Act → Prop, (∀ a, WSet P ops (Drawn w) VC Q rest a → K a) → K (a.put o.dst undef)) :
    WSet P ops (Drawn w) VC Q (o :: rest) a :=
  wset_step fun K hK n => by rw [if_neg (by rw [hw]; exact Bool.false_ne_true)]; exact h K hK
end
end Go.Proofs.YtpadlmidojpbeaaGreat
/- x -/
namespace Go.Proofs.YtpadlmidojpbeaaGreat
open Go Go.RowKit
set_option maxHeartbeats 8000000 in
set_option maxRecDepth 100000 in
theorem spec_l02Slice (w : World) (g1 o1 : Nat) (r : Int) (c : Nat) (a1 : Option Addr) (c1 n : Nat) (xs : List Nat) (p1 : w.cell? ⟨g1, o1 + 1, none⟩ = some (.int .i64 c)) (p2 : w.cell? ⟨g1, o1 + 2, none⟩ = some (.slice a1 n c1))
    (hx : F32s w a1 c1 xs) (hxl : xs.length = n) (hn : n ≤ 256) (f k : Nat) (hk : 1 ≤ k) (hc : 1 ≤ c) (hf : f ≤ 256) (hc2 : c ≤ 256) (hfk : (f + k) * c ≤ n) :
    Calls Tryz.prog 103 #[.pointer (some ⟨g1, o1, none⟩), .int .i64 f, .int .i64 k] w (TenPost k c (k * c) (((xs.drop (f * c)).take (k * c)).map (cn .f32)) w) := by
  have hg1 := World.block_lt_of_cell? w _ p1
  simp only at hg1
  have hadd : (f + k) * c = f * c + k * c := Nat.add_mul _ _ _
  have hkk : 1 ≤ k * c := Nat.mul_le_mul hk hc
  have hfc : f ≤ f * c := by have := Nat.mul_le_mul_left f hc; omega
  have hkc : k ≤ k * c := by have := Nat.mul_le_mul_left k hc; omega
  obtain ⟨p, hp⟩ : ∃ p, p = f * c := ⟨_, rfl⟩
  obtain ⟨m, hm⟩ : ∃ m, m = k * c := ⟨_, rfl⟩
  obtain ⟨q, hq⟩ : ∃ q, q = p + m := ⟨_, rfl⟩
  have hqe : (f + k) * c = q := by rw [hadd, hq, hp, hm]
  have e1 : (f : Int) * (c : Int) = (p : Int) := by rw [hp]; rfl
  have e2 : ((f + k : Nat) : Int) * (c : Int) = (q : Int) := by rw [← hqe]; rfl
  obtain ⟨u, hu⟩ : ∃ u, u = f + k := ⟨_, rfl⟩
  have e3 : (f : Int) + (k : Int) = (u : Int) := by rw [hu]; rfl
  rw [← hu] at e2 hqe hfk
  rw [hqe] at hfk
  rw [← hp] at hfc ⊢
  rw [← hm] at hkc hkk ⊢
  have t1 : IntKind.i64.wrap (p : Int) = p := wrap_nat (by omega)
  have t2 : IntKind.i64.wrap (q : Int) = q := wrap_nat (by omega)
  have t3 : IntKind.i64.wrap (u : Int) = u := wrap_nat (by omega)
  obtain ⟨b, off, rfl, hbl, _⟩ := hx.spot (k := 0) (by omega)
  have hcap := hx.len
  rw [hxl] at hcap
  have h1 := hx.cut3 q (by rw [hxl]; exact hfk)
  have h2 := (h1.1.cut3 p (by rw [List.length_take, hxl]; omega)).2
  have hyl : ((xs.take q).drop p).length = m := by rw [List.length_drop, List.length_take, hxl]; omega
  have hye : (xs.take q).drop p = (xs.drop p).take m := by rw [List.drop_take]; congr 1; omega
  rw [hye] at h2 hyl
  obtain ⟨ys, hys⟩ : ∃ ys, ys = (xs.drop p).take m := ⟨_, rfl⟩
  rw [← hys] at h2 hyl ⊢
  have K := Lib.hid (fun W (hb : Below w.heap.size w W) => spec_l02OwnF W _ _ ys (h2.below hb) (fun h => nomatch h) (by omega))
  rw [hyl] at K
  have KS : Hid (∀ W, Below w.heap.size w W → W.cell? ⟨g1, o1 + 1, none⟩ = some (.int .i64 c) ∧ W.cell? ⟨g1, o1 + 2, none⟩ = some (.slice (some ⟨b, off, none⟩) n c1)) := Lib.hid (fun W hb => ⟨(hb.cell (p := ⟨g1, o1 + 1, none⟩) hg1).trans p1, (hb.cell (p := ⟨g1, o1 + 2, none⟩) hg1).trans p2⟩)
  have hpq : p ≤ q := by omega
  have hqc : q ≤ c1 := by omega
  have t9 : q - p = m := by omega
  have t8 : ¬ (c1 = p) := by omega
  have HQ := Lib.hid hq
  clear hx h1 h2 hye hys hyl hxl p1 p2 hp hm hadd hqe hu hq
  go_enter Tryz.func103, Tryz.ntmps103
  go_upto_region 1 with fail
  have hb1 := below1 w (.cells #[.int .i64 0, .int .i64 0, .slice none 0 0] 37)
  have RB0 := Lib.hid (BoxN.alloc w #[.int .i64 0, .int .i64 0, .slice none 0 0] 37)
  obtain ⟨W1, hW1⟩ : ∃ W, W = w.alloc (.cells #[.int .i64 0, .int .i64 0, .slice none 0 0] 37) := ⟨_, rfl⟩
  have hz1 : W1.heap.size = w.heap.size + 1 := by rw [hW1]; simp
  rw [← hW1] at hb1 RB0 ⊢
  have HS := Lib.hid (KS.out W1 hb1)
  have HB1 := Lib.hid hb1
  clear hb1 hW1
  refine wp_region_mix 26 [24] (fun W => W.cell? ⟨g1, o1 + 1, none⟩ = some (.int .i64 c) ∧ W.cell? ⟨g1, o1 + 2, none⟩ = some (.slice (some ⟨b, off, none⟩) n c1)) (fun _ _ _ => False) (OwnF m ys) (by kernel_rfl) (by kernel_rfl) HS.out (fun W q h => by simpa using h) ?_
  iterate 24 (refine mwalk_plain (by rfl) HS.out (fun K hK W hW => ?_); obtain ⟨d1, d2⟩ := hW; go_simp; refine hK _ ?_; clear hK K d1 d2)
  refine mwalk_spec (by rfl) HS.out (fun K' hK dq => ?_)
  go_simp
  refine ⟨(K.out _ (below_drewN HB1.out dq)).mono ?_, ?_⟩
  · rintro e w1 ⟨a2, c2, rfl, HX, hb⟩
    exact ⟨_, rfl, _, _, rfl, HX.out, hb⟩
  rintro v w2 ⟨a2, c2, rfl, hx2, hb2⟩
  have hb3 := bthen (below_drewN HB1.out dq) hb2
  have HS2 := Lib.hid (KS.out w2 hb3)
  have HX2 := Lib.hid hx2; have HB3 := Lib.hid hb3
  have RB2 := Lib.hid ((RB0.out.below (below_drewN (Below.refl _ _) dq)).below hb2)
  refine ⟨KS.out w2 hb3, hK _ _ ?_⟩
  clear hK K' hb2 hx2 hb3
  refine mwalk_plain (by rfl) HS2.out (fun K hK W hW => ?_)
  go_simp
  refine hK _ ?_
  clear hK K hW
  refine mwalk_nil (fun q3 => ?_)
  have HX3 := Lib.hid (HX2.out.below (below_drewN (Below.refl _ _) q3))
  have HB4 := Lib.hid (below_drewN HB3.out q3)
  have RB3 := Lib.hid (RB2.out.below (below_drewN (Below.refl _ _) q3))
  have hz3 : w2.heap.size ≤ (w2.drewN q3).heap.size := by simp
  have hzq : (W1.drewN dq).heap.size = w.heap.size + 1 := hz1
  generalize w2.drewN q3 = w3 at HX3 HB4 RB3 hz3 ⊢
  obtain ⟨rl, u0, u1, u2, uf⟩ := RB3.out.three
  have hfin := setCs_repF (g := w.heap.size) (lo' := w.heap.size) (i := 0) HX3.out (by rw [hzq]; omega) (by rw [hzq]; omega) hz3 [.int .i64 k, .int .i64 c, .slice a2 m c2]
  have hbf := setCs_below HB4.out (g := w.heap.size) (Nat.le_refl _) 0 [.int .i64 k, .int .i64 c, .slice a2 m c2]
  have HF := Lib.hid hfin; have HBF := Lib.hid hbf
  clear hfin hbf HX2 HB3 RB2 HS HS2 KS K
  go_wp2
  try simp only [Exit.inBlock, Exit.then]
  refine bodyPost_ret (v := .agg #[.int .i64 k, .int .i64 c, .slice a2 m c2]) (by simp [results, Tryz.results103, go_sem, u0, u1, u2]) rfl ⟨_, _, _, rfl, HF, Lib.hid rfl, HBF.out⟩
end Go.Proofs.YtpadlmidojpbeaaGreat
/- x -/
namespace Go.Proofs.YtpadlmidojpbeaaGreat
open Go Go.RowKit
def ModOut (R : Option (List OpP × List Int)) (w : World) (e : Ending) (w' : World) : Prop := ∃ ad n cap wa m wk b, e = .returned (.tuple #[.slice ad n cap, .slice wa m wk, .bool b]) ∧
  Hid (b = R.isSome ∧ (b = true → ∃ C ws, R = some (C, ws) ∧ ws.length = m ∧ (∀ x ∈ ws, (Lit.int .i64 x).wf = true) ∧ TN w w' ad n cap C [intRow wa wk ws])) ∧ Below w.heap.size w w'
theorem modelP_no {ls : List LayP} {X Y : TenP} {num : Nat} (h : goodM ls X Y = false) : modelP ls X Y num = none := by unfold modelP; rw [h]; rfl
theorem TN.start (w : World) : TN w ((w.alloc (.cells #[] 74)).alloc (.cells #[] 2)) (some ⟨w.heap.size, 0, none⟩) 0 0 [] [intRow (some ⟨w.heap.size + 1, 0, none⟩) 0 []] := by
  have h1 := (OwnR.nil1 opR w).below (below1 (w.alloc (.cells #[] 74)) (.cells #[] 2))
  have hz : (w.alloc (.cells #[] 74)).heap.size = w.heap.size + 1 := by simp
  have ho := World.ownsRow_made (base := w.heap.size + 1) (e := 2) (size := 1) (w.alloc (.cells #[] 74)) #[] 0 (by rw [hz]; exact Nat.le_refl _) (Nat.zero_le _) rfl
  have hE : Own ((w.alloc (.cells #[] 74)).alloc (.cells #[] 2)) (w.heap.size + 1) ((w.alloc (.cells #[] 74)).alloc (.cells #[] 2)).heap.size [intRow (some ⟨w.heap.size + 1, 0, none⟩) 0 []] := by
    rw [hz] at ho
    exact Own.one (Row.mk' ho)
  rw [show (w.alloc (.cells #[] opR.e)).heap.size = w.heap.size + 1 by simp] at h1
  exact ⟨[], rfl, rfl, ⟨OwnX.beside h1 hE (by omega) (by simp), below2 w _ _⟩⟩
def VM (b1 b2 b3 : Bool) (px py : Value) (f : FuncId) (args : Array Value) (v : Value) : Prop := (f = 53 → v = .bool b1) ∧ (f = 54 → (args = #[px] → v = .bool b2) ∧ (args = #[py] → v = .bool b3))

set_option maxHeartbeats 16000000 in
set_option maxRecDepth 100000 in
theorem spec_l04Model_noA (w : World) (mb mo xb xo yb yo : Nat) (ma : Option Addr) (mk : Nat) (ls : List LayD) (xr xc yr yc : Int) (xa ya : Option Addr) (xk yk : Nat) (xs ys : List Nat) (num : Nat) (hnum : num < 4294967296)
    (hm : w.cell? ⟨mb, mo, none⟩ = some (.slice ma ls.length mk)) (hls : SeeR layR w ma mk ls)
    (hx0 : w.cell? ⟨xb, xo, none⟩ = some (.int .i64 xr)) (hx1 : w.cell? ⟨xb, xo + 1, none⟩ = some (.int .i64 xc)) (hx2 : w.cell? ⟨xb, xo + 2, none⟩ = some (.slice xa xs.length xk)) (hx : F32s w xa xk xs)
    (hy0 : w.cell? ⟨yb, yo, none⟩ = some (.int .i64 yr)) (hy1 : w.cell? ⟨yb, yo + 1, none⟩ = some (.int .i64 yc)) (hy2 : w.cell? ⟨yb, yo + 2, none⟩ = some (.slice ya ys.length yk)) (hy : F32s w ya yk ys) (hxy : xb ≠ yb) (hA : (modB (ls.map LayD.toLayP) && (tenB xr xc xs.length && (tenB yr yc ys.length && decide (xr = yr)))) = false) :
    Calls Tryz.prog 83 #[.pointer (some ⟨mb, mo, none⟩), .pointer (some ⟨xb, xo, none⟩), .pointer (some ⟨yb, yo, none⟩), .float .f32 num] w (ModOut (modelP (ls.map fun l => l.toLayP.can) ⟨xr, xc, xs.map (cn .f32)⟩ ⟨yr, yc, ys.map (cn .f32)⟩ (cn .f32 num)) w) := by
  obtain ⟨i0, hi0, hz0, hzs, hz2⟩ := info_parts info_op
  obtain ⟨j0, hj0, jz0, jzs, jz2⟩ := info_parts info_i64
  obtain ⟨R, hR⟩ : ∃ R, R = modelP (ls.map fun l => l.toLayP.can) ⟨xr, xc, xs.map (cn .f32)⟩ ⟨yr, yc, ys.map (cn .f32)⟩ (cn .f32 num) := ⟨_, rfl⟩
  rw [← hR]
  have HR := Lib.hid hR
  have hgood : goodM (ls.map fun l => l.toLayP.can) ⟨xr, xc, xs.map (cn .f32)⟩ ⟨yr, yc, ys.map (cn .f32)⟩ = (modB (ls.map LayD.toLayP) && (tenB xr xc xs.length && (tenB yr yc ys.length && (decide (xr = yr) && (decide (xc = (layAt (ls.map LayD.toLayP) 0).i) && decide (yc = (layAt (ls.map LayD.toLayP) (ls.length - 1)).o)))))) := by
    have e : (ls.map fun l => l.toLayP.can) = (ls.map LayD.toLayP).map LayP.can := by rw [List.map_map]; rfl
    unfold goodM
    rw [e, modB_can, (layAt_can _ _).1, (layAt_can _ _).2]
    simp only [List.length_map]
  have HG := Lib.hid hgood
  clear hR hgood
  obtain ⟨n, hN⟩ : ∃ n, n = xs.length := ⟨_, rfl⟩
  obtain ⟨m, hM⟩ : ∃ m, m = ys.length := ⟨_, rfl⟩
  obtain ⟨L, hL⟩ : ∃ L, L = ls.length := ⟨_, rfl⟩
  rw [← hN] at hx2 HG
  rw [← hM] at hy2 HG
  rw [← hL] at hm HG
  have HN := Lib.hid hN; have HM := Lib.hid hM; have HL := Lib.hid hL
  have hnm := Nat.le_trans hx.len hx.cap
  have hmm := Nat.le_trans hy.len hy.cap
  rw [← hN] at hnm
  rw [← hM] at hmm
  have HLS := Lib.hid hls; have HX := Lib.hid hx; have HY := Lib.hid hy
  have CW : Hid (∀ W, Below w.heap.size w W → W.cell? ⟨mb, mo, none⟩ = some (.slice ma L mk) ∧ (W.cell? ⟨xb, xo, none⟩ = some (.int .i64 xr) ∧ W.cell? ⟨xb, xo + 1, none⟩ = some (.int .i64 xc) ∧ W.cell? ⟨xb, xo + 2, none⟩ = some (.slice xa n xk)) ∧ W.cell? ⟨yb, yo, none⟩ = some (.int .i64 yr) ∧ W.cell? ⟨yb, yo + 1, none⟩ = some (.int .i64 yc) ∧ W.cell? ⟨yb, yo + 2, none⟩ = some (.slice ya m yk)) := Lib.hid (fun W hb => by
    have f : ∀ {p : Addr} {v : Value}, w.cell? p = some v → W.cell? p = some v := fun h => (hb.cell (World.block_lt_of_cell? _ _ h)).trans h
    exact ⟨f hm, ⟨f hx0, f hx1, f hx2⟩, f hy0, f hy1, f hy2⟩)
  have KM := Lib.hid (fun W (hb : Below w.heap.size w W) => spec_l03Is W mb mo ma mk ls (HLS.out.below hb) (by rw [← HL.out]; exact (CW.out W hb).1))
  have KX := Lib.hid (fun W (hb : Below w.heap.size w W) => spec_l02Is W xb xo xr xc xa n xk hnm (CW.out W hb).2.1.1 (CW.out W hb).2.1.2.1 (CW.out W hb).2.1.2.2)
  have KY := Lib.hid (fun W (hb : Below w.heap.size w W) => spec_l02Is W yb yo yr yc ya m yk hmm (CW.out W hb).2.2.1 (CW.out W hb).2.2.2.1 (CW.out W hb).2.2.2.2)
  have hpxy : (.pointer (some ⟨xb, xo, none⟩) : Value) ≠ .pointer (some ⟨yb, yo, none⟩) := by intro e; injection e with e; injection e with e; injection e with e; exact hxy e
  have HPXY := Lib.hid hpxy
  clear hm hls hx0 hx1 hx2 hx hy0 hy1 hy2 hy hN hM hL hxy hnm hmm hpxy
  have hts := TN.start w
  have HT := Lib.hid hts
  clear hts
  obtain ⟨v1, hv1⟩ : ∃ W, W = (w.alloc (.cells #[] 74)).alloc (.cells #[] 2) := ⟨_, rfl⟩
  rw [← hv1] at HT
  have HV1 := Lib.hid hv1
  clear hv1
  have VN : Hid (∀ b1 b2 b3, VM b1 b2 b3 (.pointer (some ⟨xb, xo, none⟩)) (.pointer (some ⟨yb, yo, none⟩)) 53 #[.pointer (some ⟨mb, mo, none⟩)] (.bool b1) ∧ VM b1 b2 b3 (.pointer (some ⟨xb, xo, none⟩)) (.pointer (some ⟨yb, yo, none⟩)) 54 #[.pointer (some ⟨xb, xo, none⟩)] (.bool b2) ∧ VM b1 b2 b3 (.pointer (some ⟨xb, xo, none⟩)) (.pointer (some ⟨yb, yo, none⟩)) 54 #[.pointer (some ⟨yb, yo, none⟩)] (.bool b3)) := Lib.hid (fun b1 b2 b3 => ⟨⟨fun _ => rfl, fun e => absurd e (by decide)⟩, ⟨fun e => absurd e (by decide), fun _ => ⟨fun _ => rfl, fun e => by injection e with e; injection e with e; exact absurd e HPXY.out⟩⟩, ⟨fun e => absurd e (by decide), fun _ => ⟨fun e => by injection e with e; injection e with e; exact absurd e.symm HPXY.out, fun _ => rfl⟩⟩⟩)
  rw [← HN.out, ← HM.out] at hA
  cases e1 : modB (ls.map LayD.toLayP)
  · rw [e1] at KM
    have HRN : Hid (R = none) := Lib.hid (by rw [HR.out]; exact modelP_no (by rw [HG.out]; simp [e1]))
    clear e1
    obtain ⟨hc0, ⟨hc1, hc2, hc3⟩, hc4, hc5, hc6⟩ := CW.out v1 HT.out.below
    try clear CL
    try clear HLN
    try clear HQ
    clear HG HR HLS HX HY HN HM HL CW HPXY hi0 hz0 hzs hz2 hj0 jz0 jzs jz2
    go_enter Tryz.func83, Tryz.ntmps83
    go_upto_region 3 with fail
    rw [← HV1.out]
    refine wp_region_drawn (VM false false false (.pointer (some ⟨xb, xo, none⟩)) (.pointer (some ⟨yb, yo, none⟩))) (by kernel_rfl) (by kernel_rfl) ?_

    iterate 1 (first | (refine wset_skip (by rfl) (fun K hK => ?_); go_simp; refine hK _ ?_; clear hK K) | (refine wset_yes (by rfl) (fun K hK nq => ?_); go_simp; refine hK _ ?_; clear hK K))
    refine wset_yes (by rfl) (fun K hK nq => ?_)
    go_simp
    refine ⟨(KM.out _ (HT.out.move (below_drewN (Below.refl _ _) nq)).below).mono ?_, ?_⟩
    · rintro e w' ⟨rfl, hd⟩
      exact ⟨_, rfl, drawn_more hd, (VN.out false false false).1⟩
    rintro v hv
    obtain rfl := hv.1 rfl
    refine hK _ ?_
    clear hK K hv
    iterate 3 (first | (refine wset_skip (by rfl) (fun K hK => ?_); go_simp; refine hK _ ?_; clear hK K) | (refine wset_yes (by rfl) (fun K hK nq => ?_); go_simp; refine hK _ ?_; clear hK K))
    iterate 1 (first | (refine wset_skip (by rfl) (fun K hK => ?_); go_simp; refine hK _ ?_; clear hK K) | (refine wset_yes (by rfl) (fun K hK nq => ?_); go_simp; refine hK _ ?_; clear hK K))
    iterate 4 (first | (refine wset_skip (by rfl) (fun K hK => ?_); go_simp; refine hK _ ?_; clear hK K) | (refine wset_yes (by rfl) (fun K hK nq => ?_); go_simp; refine hK _ ?_; clear hK K))
    iterate 1 (first | (refine wset_skip (by rfl) (fun K hK => ?_); go_simp; refine hK _ ?_; clear hK K) | (refine wset_yes (by rfl) (fun K hK nq => ?_); go_simp; refine hK _ ?_; clear hK K))
    iterate 47 (first | (refine wset_skip (by rfl) (fun K hK => ?_); go_simp; refine hK _ ?_; clear hK K) | (refine wset_yes (by rfl) (fun K hK nq => ?_); go_simp; refine hK _ ?_; clear hK K))
    refine wset_nil ?_
    rintro w' ⟨q, rfl⟩
    have HT1 := Lib.hid (HT.out.move (below_drewN (Below.refl _ _) q))
    clear hc0 hc1 hc2 hc3 hc4 hc5 hc6 HT HV1 KM KX KY VN
    generalize v1.drewN q = v2 at HT1 ⊢
    go_wp2
    go_ret3
    exact ⟨_, _, _, _, _, _, false, rfl, Lib.hid ⟨by rw [HRN.out]; rfl, fun h => by cases h⟩, HT1.out.below⟩
  rw [e1] at KM
  cases e2 : tenB xr xc n
  · rw [e2] at KX
    have HRN : Hid (R = none) := Lib.hid (by rw [HR.out]; exact modelP_no (by rw [HG.out]; simp [e2]))
    clear e1 e2
    obtain ⟨hc0, ⟨hc1, hc2, hc3⟩, hc4, hc5, hc6⟩ := CW.out v1 HT.out.below
    try clear CL
    try clear HLN
    try clear HQ
    clear HG HR HLS HX HY HN HM HL CW HPXY hi0 hz0 hzs hz2 hj0 jz0 jzs jz2
    go_enter Tryz.func83, Tryz.ntmps83
    go_upto_region 3 with fail
    rw [← HV1.out]
    refine wp_region_drawn (VM true false false (.pointer (some ⟨xb, xo, none⟩)) (.pointer (some ⟨yb, yo, none⟩))) (by kernel_rfl) (by kernel_rfl) ?_

    iterate 1 (first | (refine wset_skip (by rfl) (fun K hK => ?_); go_simp; refine hK _ ?_; clear hK K) | (refine wset_yes (by rfl) (fun K hK nq => ?_); go_simp; refine hK _ ?_; clear hK K))
    refine wset_yes (by rfl) (fun K hK nq => ?_)
    go_simp
    refine ⟨(KM.out _ (HT.out.move (below_drewN (Below.refl _ _) nq)).below).mono ?_, ?_⟩
    · rintro e w' ⟨rfl, hd⟩
      exact ⟨_, rfl, drawn_more hd, (VN.out true false false).1⟩
    rintro v hv
    obtain rfl := hv.1 rfl
    refine hK _ ?_
    clear hK K hv
    iterate 3 (first | (refine wset_skip (by rfl) (fun K hK => ?_); go_simp; refine hK _ ?_; clear hK K) | (refine wset_yes (by rfl) (fun K hK nq => ?_); go_simp; refine hK _ ?_; clear hK K))
    refine wset_yes (by rfl) (fun K hK nq => ?_)
    go_simp
    refine ⟨(KX.out _ (HT.out.move (below_drewN (Below.refl _ _) nq)).below).mono ?_, ?_⟩
    · rintro e w' ⟨rfl, hd⟩
      exact ⟨_, rfl, drawn_more hd, (VN.out true false false).2.1⟩
    rintro v hv
    obtain rfl := (hv.2 rfl).1 rfl
    refine hK _ ?_
    clear hK K hv
    iterate 4 (first | (refine wset_skip (by rfl) (fun K hK => ?_); go_simp; refine hK _ ?_; clear hK K) | (refine wset_yes (by rfl) (fun K hK nq => ?_); go_simp; refine hK _ ?_; clear hK K))
    iterate 1 (first | (refine wset_skip (by rfl) (fun K hK => ?_); go_simp; refine hK _ ?_; clear hK K) | (refine wset_yes (by rfl) (fun K hK nq => ?_); go_simp; refine hK _ ?_; clear hK K))
    iterate 47 (first | (refine wset_skip (by rfl) (fun K hK => ?_); go_simp; refine hK _ ?_; clear hK K) | (refine wset_yes (by rfl) (fun K hK nq => ?_); go_simp; refine hK _ ?_; clear hK K))
    refine wset_nil ?_
    rintro w' ⟨q, rfl⟩
    have HT1 := Lib.hid (HT.out.move (below_drewN (Below.refl _ _) q))
    clear hc0 hc1 hc2 hc3 hc4 hc5 hc6 HT HV1 KM KX KY VN
    generalize v1.drewN q = v2 at HT1 ⊢
    go_wp2
    go_ret3
    exact ⟨_, _, _, _, _, _, false, rfl, Lib.hid ⟨by rw [HRN.out]; rfl, fun h => by cases h⟩, HT1.out.below⟩
  rw [e2] at KX
  cases e3 : tenB yr yc m
  · rw [e3] at KY
    have HRN : Hid (R = none) := Lib.hid (by rw [HR.out]; exact modelP_no (by rw [HG.out]; simp [e3]))
    clear e1 e2 e3
    obtain ⟨hc0, ⟨hc1, hc2, hc3⟩, hc4, hc5, hc6⟩ := CW.out v1 HT.out.below
    try clear CL
    try clear HLN
    try clear HQ
    clear HG HR HLS HX HY HN HM HL CW HPXY hi0 hz0 hzs hz2 hj0 jz0 jzs jz2
    go_enter Tryz.func83, Tryz.ntmps83
    go_upto_region 3 with fail
    rw [← HV1.out]
    refine wp_region_drawn (VM true true false (.pointer (some ⟨xb, xo, none⟩)) (.pointer (some ⟨yb, yo, none⟩))) (by kernel_rfl) (by kernel_rfl) ?_

    iterate 1 (first | (refine wset_skip (by rfl) (fun K hK => ?_); go_simp; refine hK _ ?_; clear hK K) | (refine wset_yes (by rfl) (fun K hK nq => ?_); go_simp; refine hK _ ?_; clear hK K))
    refine wset_yes (by rfl) (fun K hK nq => ?_)
    go_simp
    refine ⟨(KM.out _ (HT.out.move (below_drewN (Below.refl _ _) nq)).below).mono ?_, ?_⟩
    · rintro e w' ⟨rfl, hd⟩
      exact ⟨_, rfl, drawn_more hd, (VN.out true true false).1⟩
    rintro v hv
    obtain rfl := hv.1 rfl
    refine hK _ ?_
    clear hK K hv
    iterate 3 (first | (refine wset_skip (by rfl) (fun K hK => ?_); go_simp; refine hK _ ?_; clear hK K) | (refine wset_yes (by rfl) (fun K hK nq => ?_); go_simp; refine hK _ ?_; clear hK K))
    refine wset_yes (by rfl) (fun K hK nq => ?_)
    go_simp
    refine ⟨(KX.out _ (HT.out.move (below_drewN (Below.refl _ _) nq)).below).mono ?_, ?_⟩
    · rintro e w' ⟨rfl, hd⟩
      exact ⟨_, rfl, drawn_more hd, (VN.out true true false).2.1⟩
    rintro v hv
    obtain rfl := (hv.2 rfl).1 rfl
    refine hK _ ?_
    clear hK K hv
    iterate 4 (first | (refine wset_skip (by rfl) (fun K hK => ?_); go_simp; refine hK _ ?_; clear hK K) | (refine wset_yes (by rfl) (fun K hK nq => ?_); go_simp; refine hK _ ?_; clear hK K))
    refine wset_yes (by rfl) (fun K hK nq => ?_)
    go_simp
    refine ⟨(KY.out _ (HT.out.move (below_drewN (Below.refl _ _) nq)).below).mono ?_, ?_⟩
    · rintro e w' ⟨rfl, hd⟩
      exact ⟨_, rfl, drawn_more hd, (VN.out true true false).2.2⟩
    rintro v hv
    obtain rfl := (hv.2 rfl).2 rfl
    refine hK _ ?_
    clear hK K hv
    iterate 47 (first | (refine wset_skip (by rfl) (fun K hK => ?_); go_simp; refine hK _ ?_; clear hK K) | (refine wset_yes (by rfl) (fun K hK nq => ?_); go_simp; refine hK _ ?_; clear hK K))
    refine wset_nil ?_
    rintro w' ⟨q, rfl⟩
    have HT1 := Lib.hid (HT.out.move (below_drewN (Below.refl _ _) q))
    clear hc0 hc1 hc2 hc3 hc4 hc5 hc6 HT HV1 KM KX KY VN
    generalize v1.drewN q = v2 at HT1 ⊢
    go_wp2
    go_ret3
    exact ⟨_, _, _, _, _, _, false, rfl, Lib.hid ⟨by rw [HRN.out]; rfl, fun h => by cases h⟩, HT1.out.below⟩
  rw [e3] at KY
  by_cases e4 : xr = yr
  rotate_left
  · have f1 : (xr != yr) = true := by simpa using e4
    have f2 : (xr == yr) = false := by simpa using e4
    have HRN : Hid (R = none) := Lib.hid (by rw [HR.out]; exact modelP_no (by rw [HG.out]; simp [e4]))
    clear e1 e2 e3 e4
    obtain ⟨hc0, ⟨hc1, hc2, hc3⟩, hc4, hc5, hc6⟩ := CW.out v1 HT.out.below
    try clear CL
    try clear HLN
    try clear HQ
    clear HG HR HLS HX HY HN HM HL CW HPXY hi0 hz0 hzs hz2 hj0 jz0 jzs jz2
    go_enter Tryz.func83, Tryz.ntmps83
    go_upto_region 3 with fail
    rw [← HV1.out]
    refine wp_region_drawn (VM true true true (.pointer (some ⟨xb, xo, none⟩)) (.pointer (some ⟨yb, yo, none⟩))) (by kernel_rfl) (by kernel_rfl) ?_

    iterate 1 (first | (refine wset_skip (by rfl) (fun K hK => ?_); go_simp; refine hK _ ?_; clear hK K) | (refine wset_yes (by rfl) (fun K hK nq => ?_); go_simp; refine hK _ ?_; clear hK K))
    refine wset_yes (by rfl) (fun K hK nq => ?_)
    go_simp
    refine ⟨(KM.out _ (HT.out.move (below_drewN (Below.refl _ _) nq)).below).mono ?_, ?_⟩
    · rintro e w' ⟨rfl, hd⟩
      exact ⟨_, rfl, drawn_more hd, (VN.out true true true).1⟩
    rintro v hv
    obtain rfl := hv.1 rfl
    refine hK _ ?_
    clear hK K hv
    iterate 3 (first | (refine wset_skip (by rfl) (fun K hK => ?_); go_simp; refine hK _ ?_; clear hK K) | (refine wset_yes (by rfl) (fun K hK nq => ?_); go_simp; refine hK _ ?_; clear hK K))
    refine wset_yes (by rfl) (fun K hK nq => ?_)
    go_simp
    refine ⟨(KX.out _ (HT.out.move (below_drewN (Below.refl _ _) nq)).below).mono ?_, ?_⟩
    · rintro e w' ⟨rfl, hd⟩
      exact ⟨_, rfl, drawn_more hd, (VN.out true true true).2.1⟩
    rintro v hv
    obtain rfl := (hv.2 rfl).1 rfl
    refine hK _ ?_
    clear hK K hv
    iterate 4 (first | (refine wset_skip (by rfl) (fun K hK => ?_); go_simp; refine hK _ ?_; clear hK K) | (refine wset_yes (by rfl) (fun K hK nq => ?_); go_simp; refine hK _ ?_; clear hK K))
    refine wset_yes (by rfl) (fun K hK nq => ?_)
    go_simp
    refine ⟨(KY.out _ (HT.out.move (below_drewN (Below.refl _ _) nq)).below).mono ?_, ?_⟩
    · rintro e w' ⟨rfl, hd⟩
      exact ⟨_, rfl, drawn_more hd, (VN.out true true true).2.2⟩
    rintro v hv
    obtain rfl := (hv.2 rfl).2 rfl
    refine hK _ ?_
    clear hK K hv
    iterate 47 (first | (refine wset_skip (by rfl) (fun K hK => ?_); go_simp; refine hK _ ?_; clear hK K) | (refine wset_yes (by rfl) (fun K hK nq => ?_); go_simp; refine hK _ ?_; clear hK K))
    refine wset_nil ?_
    rintro w' ⟨q, rfl⟩
    have HT1 := Lib.hid (HT.out.move (below_drewN (Below.refl _ _) q))
    clear hc0 hc1 hc2 hc3 hc4 hc5 hc6 HT HV1 KM KX KY VN
    generalize v1.drewN q = v2 at HT1 ⊢
    go_wp2
    go_ret3
    exact ⟨_, _, _, _, _, _, false, rfl, Lib.hid ⟨by rw [HRN.out]; rfl, fun h => by cases h⟩, HT1.out.below⟩
  rw [e1, e2, e3, decide_eq_true e4] at hA
  cases hA
end Go.Proofs.YtpadlmidojpbeaaGreat
/- x -/
namespace Go.Proofs.YtpadlmidojpbeaaGreat
open Go
section
variable {P : Program} {ops : Array Oper} {C : World → Prop} {VC : FuncId → Array Value → Value → Prop} {Q : Act → Prop} {o : Oper} {rest : List Oper} {a : Act} {w0 : World}
theorem cset_yes (h0 : C w0) (hw : Region.wanted o (yielded ops a.tmps) = true) (h : ∀ K : Act → Prop, (∀ a, WSet P ops C VC Q rest a → K a) → ∀ W : World, C W → UponC P VC C (fun v => K (a.put o.dst v)) ((execOp a.eval o).run P W)) :
    WSet P ops C VC Q (o :: rest) a :=
  cset_step h0 fun K hK W hW => by rw [if_pos hw]; exact h K hK W hW
theorem cset_skip (h0 : C w0) (hw : Region.wanted o (yielded ops a.tmps) = false) (h : ∀ K : Act → Prop, (∀ a, WSet P ops C VC Q rest a → K a) → K (a.put o.dst undef)) :
    WSet P ops C VC Q (o :: rest) a :=
  cset_step h0 fun K hK W hW => by rw [if_neg (by rw [hw]; exact Bool.false_ne_true)]; exact h K hK
end
end Go.Proofs.YtpadlmidojpbeaaGreat
/- x -/
namespace Go.Proofs.YtpadlmidojpbeaaGreat
open Go Go.RowKit
theorem impl_in (w : World) (ad : Option Addr) (cap : Nat) (ls : List LayD) (h : SeeR layR w ad cap ls) (L : Nat) (hL : L = ls.length) (l : LayD) (hl : ls[0]? = some l) :
    Calls Tryz.prog 62 #[.agg #[.slice ad L cap]] w fun e w' => e = .returned (.int .i64 l.i) ∧ Below w.heap.size w w' := by
  obtain ⟨b, off, rfl, hbl, ⟨-, c1, -, -, -⟩, -, -⟩ := lay_spot (h.below (below1 w (.cells #[.slice ad L cap] 35))) hl
  have h0 : 0 < L := by rw [hL]; exact (List.getElem?_eq_some_iff.1 hl).1
  have hb := below1 w (.cells #[.slice (some ⟨b, off, none⟩) L cap] 35)
  have HB := Lib.hid hb
  obtain ⟨x, hx⟩ : ∃ x, x = l.i := ⟨_, rfl⟩
  rw [← hx] at c1 ⊢
  rw [show off + 0 * 5 + 1 = off + 1 by omega] at c1
  clear hx h hL hl hbl hb
  go_enter Tryz.func62, Tryz.ntmps62
  go_wp2
  go_ret
  exact ⟨rfl, HB.out⟩
theorem impl_out (w : World) (ad : Option Addr) (cap : Nat) (ls : List LayD) (h : SeeR layR w ad cap ls) (L q : Nat) (hL : L = ls.length) (hm : L ≤ 6) (hq : q + 1 = L) (l : LayD) (hl : ls[q]? = some l) :
    Calls Tryz.prog 63 #[.agg #[.slice ad L cap]] w fun e w' => e = .returned (.int .i64 l.o) ∧ Below w.heap.size w w' := by
  obtain ⟨b, off, rfl, hbl, ⟨-, -, c2, -, -⟩, -, -⟩ := lay_spot (h.below (below1 w (.cells #[.slice ad L cap] 35))) hl
  have h0 : q < L := by omega
  have h1 : (q : Int) < (L : Int) := by omega
  have h2 : (0 : Int) ≤ (q : Int) := by omega
  have h3 : IntKind.i64.wrap ((L : Int) - 1) = (q : Int) := by rw [IntKind.wrap_i64]; omega
  have hb := below1 w (.cells #[.slice (some ⟨b, off, none⟩) L cap] 35)
  have HB := Lib.hid hb
  obtain ⟨x, hx⟩ : ∃ x, x = l.o := ⟨_, rfl⟩
  rw [← hx] at c2 ⊢
  clear hx h hL hl hbl hb hq
  go_enter Tryz.func63, Tryz.ntmps63
  go_wp2
  go_ret
  exact ⟨rfl, HB.out⟩
theorem TN.start0 (w : World) : TN w (w.alloc (.cells #[] 74)) (some ⟨w.heap.size, 0, none⟩) 0 0 [] [] := by
  have h1 : OwnR opR (w.alloc (.cells #[] 74)) w.heap.size (w.alloc (.cells #[] 74)).heap.size (some ⟨w.heap.size, 0, none⟩) 0 0 [] := OwnR.nil1 opR w
  exact ⟨[], rfl, rfl, ⟨⟨by have := h1.own; simpa using this, rfl, fun a ha => (nomatch ha)⟩, below1 w _⟩⟩
theorem TN.allocI {w0 W : World} {ad : Option Addr} {n cap : Nat} {C : List OpP} {E : List RowD} (h : TN w0 W ad n cap C E) : TN w0 (W.alloc (.cells #[] 2)) ad n cap C (intRow (some ⟨W.heap.size, 0, none⟩) 0 [] :: E) := by
  obtain ⟨us, h1, h2, h3⟩ := h
  have hb := below1 W (.cells #[] 2)
  have h4 := h3.move hb
  have ho := World.ownsRow_made (base := w0.heap.size) (e := 2) (size := 1) W #[] 0 h3.below.size (Nat.zero_le _) rfl
  refine ⟨us, h1, h2, ⟨⟨?_, h4.own.len, h4.own.ok⟩, h4.below⟩⟩
  have h5 : Own (W.alloc (.cells #[] 2)) w0.heap.size (W.alloc (.cells #[] 2)).heap.size (intRow (some ⟨W.heap.size, 0, none⟩) 0 [] :: (⟨opR.e, opR.size, ad, us.length, cap, us.flatMap opR.cells⟩ :: (us.flatMap opR.inn ++ E))) := by
    refine Own.cons (Row.mk' ho) h4.own.own fun y hy g e1 e2 => ?_
    have e3 : g = W.heap.size := by
      have e4 : (Value.slice (some ⟨W.heap.size, 0, none⟩) 0 0).ownBlock = some g := e1
      cases e4; rfl
    have h6 := (h3.own.own.row y hy).own.lt g e2
    omega
  exact h5.perm ((List.Perm.swap _ _ _).trans (List.Perm.cons _ List.perm_middle.symm))
end Go.Proofs.YtpadlmidojpbeaaGreat
