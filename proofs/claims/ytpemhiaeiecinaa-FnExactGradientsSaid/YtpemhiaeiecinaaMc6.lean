/- Joined texts 6: Gr1 Tn5 Tn6 Tn7 Ts0 Ts1 Ts3 Ts4 Ts5. Each is told at its own head. No condition. -/
import Derived.Deep.AppendLies
import Derived.Deep.RegionHeld3
import Derived.Deep.RegionLaw
import Derived.Deep.CutRange
import Derived.Deep.DeepCutAuto
import Derived.Test.YtpemhiaeiecinaaMc1
import Derived.Test.YtpemhiaeiecinaaMc2
import Derived.Test.YtpemhiaeiecinaaMc3
import Derived.Test.YtpemhiaeiecinaaMc4
import Derived.Test.YtpemhiaeiecinaaMc5
/- Lists of records beside other rows of the call's own. No condition. -/
namespace Go.Proofs.Ytpemhiaeiecinaa
open Go Go.RowKit
set_option linter.unusedVariables false
set_option linter.unusedSimpArgs false
structure OwnX {α : Type} (R : RecT α) (w : World) (lo hi : Nat) (ad : Option Addr) (n cap : Nat) (us : List α) (E : List RowD) : Prop where
  own : Own w lo hi (⟨R.e, R.size, ad, n, cap, us.flatMap R.cells⟩ :: (us.flatMap R.inn ++ E))
  len : us.length = n
  ok : ∀ a ∈ us, R.ok a
section
variable {α : Type} {R : RecT α} {w w' : World} {lo hi : Nat} {ad : Option Addr} {n cap : Nat} {us : List α} {E : List RowD}
theorem OwnX.r (h : OwnX R w lo hi ad n cap us E) : OwnR R w lo hi ad n cap us := ⟨h.own.sub (List.Sublist.cons_cons _ (List.sublist_append_left _ _)), h.len, h.ok⟩
theorem OwnX.below (h : OwnX R w lo hi ad n cap us E) (hb : Below w.heap.size w w') : OwnX R w' lo hi ad n cap us E := ⟨h.own.below hb, h.len, h.ok⟩
theorem OwnX.touch {lo2 hi2 : Nat} (h : OwnX R w lo hi ad n cap us E) (ht : Touch lo2 hi2 w w') (hd : hi ≤ lo2 ∨ hi2 ≤ lo) : OwnX R w' lo hi ad n cap us E := ⟨h.own.touch ht hd, h.len, h.ok⟩
theorem OwnX.bounds {lo' hi' : Nat} (h : OwnX R w lo hi ad n cap us E) (h1 : lo' ≤ lo) (h2 : hi ≤ hi') : OwnX R w lo' hi' ad n cap us E := ⟨h.own.bounds h1 h2, h.len, h.ok⟩
/-- other rows that are there already -/
theorem OwnX.beside (h : OwnR R w lo hi ad n cap us) {hi2 : Nat} (hE : Own w hi hi2 E) (h1 : lo ≤ hi) (h2 : hi ≤ hi2) : OwnX R w lo hi2 ad n cap us E := by
  refine ⟨?_, h.len, h.ok⟩
  rw [← List.cons_append]
  exact Own.append h.own hE h1 h2
/-- an element is set whose rows are new -/
theorem OwnX.setNew {w1 w2 : World} {hi1 : Nat} (h : OwnX R w lo w.heap.size ad n cap us E) (hlo : lo ≤ w.heap.size) (hb : Below w.heap.size w w1) {k : Nat} (hk : k < n) {a : α} (ha : R.ok a) (hn : Own w1 w.heap.size hi1 (R.inn a)) (hi1s : w.heap.size ≤ hi1)
    (hst : ∀ M, Own w1 lo hi1 (⟨R.e, R.size, ad, n, cap, us.flatMap R.cells⟩ :: M) → Own w2 lo hi1 (⟨R.e, R.size, ad, n, cap, setL (us.flatMap R.cells) (k * R.size) (R.cells a)⟩ :: M)) : OwnX R w2 lo hi1 ad n cap (us.set k a) E := by
  have hkl : k < us.length := by rw [h.len]; exact hk
  refine ⟨?_, by rw [List.length_set]; exact h.len, fun b hb => ?_⟩
  · have h1 := Own.fresh h.own hlo (Nat.le_refl _) hb hn hi1s
    rw [List.cons_append] at h1
    have h2 := hst _ h1
    rw [flat_set R us hkl] at h2
    have e1 : us.flatMap R.inn = (us.take k).flatMap R.inn ++ (R.inn us[k] ++ (us.drop (k + 1)).flatMap R.inn) := by
      rw [← List.flatMap_cons, List.getElem_cons_drop, ← List.flatMap_append, List.take_append_drop]
    have e2 : (us.set k a).flatMap R.inn = (us.take k).flatMap R.inn ++ (R.inn a ++ (us.drop (k + 1)).flatMap R.inn) := by
      rw [List.set_eq_take_append_cons_drop, if_pos hkl, List.flatMap_append, List.flatMap_cons]
    rw [e1] at h2
    rw [e2]
    have h3 := h2.sub (M := ⟨R.e, R.size, ad, n, cap, (us.set k a).flatMap R.cells⟩ :: ((((us.take k).flatMap R.inn ++ (us.drop (k + 1)).flatMap R.inn) ++ E) ++ R.inn a)) (List.Sublist.cons_cons _ (List.Sublist.append (List.Sublist.append (List.Sublist.append (List.Sublist.refl _) (List.sublist_append_right _ _)) (List.Sublist.refl _)) (List.Sublist.refl _)))
    refine h3.perm (List.Perm.cons _ ?_)
    simp only [List.append_assoc]
    refine List.Perm.append_left _ ?_
    rw [← List.append_assoc, ← List.append_assoc]
    refine List.perm_append_comm.trans ?_
    rw [List.append_assoc]
  · rcases List.mem_or_eq_of_mem_set hb with hb | rfl
    · exact h.ok b hb
    · exact ha
/-- one more element, whose rows are new -/
theorem OwnX.snoc {w1 w2 : World} {hi1 : Nat} {v' : Value} {a : α} {o : Obj} (h : OwnX R w lo w.heap.size ad n cap us E) (hlo : lo ≤ w.heap.size) (hb : Below w.heap.size w w1) (ha : R.ok a) (hn : Own w1 w.heap.size hi1 (R.inn a)) (hi1s : hi1 ≤ w1.heap.size) (hi0 : w.heap.size ≤ hi1)
    (ho : w2.ownsRow lo R.e R.size v' (n + 1) (us.flatMap R.cells ++ R.cells a)) (hg : (w1.alloc o).grownBy w2 (Value.slice ad n cap).ownBlock) (hat : v'.ownBlock = (Value.slice ad n cap).ownBlock ∨ v'.ownBlock = some (w1.heap.size + 1)) :
    ∃ ad' cap', v' = .slice ad' (n + 1) cap' ∧ OwnX R w2 lo w2.heap.size ad' (n + 1) cap' (us ++ [a]) E := by
  obtain ⟨ad', cap', rfl, _⟩ := Rd.of_owns ho
  refine ⟨ad', cap', rfl, ?_, by rw [List.length_append, h.len]; rfl, fun b hb => ?_⟩
  · have h1 := Own.fresh h.own hlo (Nat.le_refl _) hb hn hi0
    rw [List.cons_append] at h1
    have h2 : Own (w1.alloc o) lo hi1 _ := h1.below (below1 w1 o)
    have hs := hg.size
    have h3 := h2.grown (w' := w2) (hi' := w2.heap.size) (y := ⟨R.e, R.size, ad', n + 1, cap', (us ++ [a]).flatMap R.cells⟩) hg (by
      refine Row.mk' ?_
      rw [List.flatMap_append, List.flatMap_singleton]
      exact ho) (fun g e => ?_) (by simp at hs; omega)
    · have e : (us ++ [a]).flatMap R.inn = us.flatMap R.inn ++ R.inn a := by rw [List.flatMap_append, List.flatMap_singleton]
      rw [e]
      refine h3.perm (List.Perm.cons _ ?_)
      simp only [List.append_assoc]
      exact List.Perm.append_left _ List.perm_append_comm
    · rcases hat with e1 | e1
      · exact .inl (e1.symm.trans e)
      · right
        have e2 : some g = some (w1.heap.size + 1) := e.symm.trans e1
        cases e2
        omega
  · rcases List.mem_append.1 hb with hb | hb
    · exact h.ok b hb
    · simp at hb; subst hb; exact ha
/-- the first of the other rows is written -/
theorem OwnX.storeE {e : TypeId} {size g m c : Nat} {vs : List Value} {E : List RowD} (h : OwnX R w lo hi ad n cap us (⟨e, size, some ⟨g, 0, none⟩, m, c, vs⟩ :: E)) (k : Nat) (v : Value) : OwnX R (w.setCell ⟨g, k, none⟩ v) lo hi ad n cap us (⟨e, size, some ⟨g, 0, none⟩, m, c, vs.set k v⟩ :: E) := by
  refine ⟨?_, h.len, h.ok⟩
  have p : ∀ (x : RowD), (⟨R.e, R.size, ad, n, cap, us.flatMap R.cells⟩ :: (us.flatMap R.inn ++ x :: E)).Perm (x :: (⟨R.e, R.size, ad, n, cap, us.flatMap R.cells⟩ :: (us.flatMap R.inn ++ E))) := fun x =>
    (List.Perm.cons _ List.perm_middle).trans (List.Perm.swap _ _ _)
  exact ((h.own.perm (p _)).store k v).perm (p _).symm
theorem OwnX.memE {x : RowD} (h : OwnX R w lo hi ad n cap us E) (hx : x ∈ E) : x ∈ (⟨R.e, R.size, ad, n, cap, us.flatMap R.cells⟩ :: (us.flatMap R.inn ++ E) : List RowD) := List.mem_cons_of_mem _ (List.mem_append_right _ hx)
end
/-- marks beside a list -/
def uRow (g n : Nat) (U : List Bool) : RowD := ⟨4, 1, some ⟨g, 0, none⟩, n, n, U.map Value.bool⟩
section
variable {α : Type} {R : RecT α} {w w' : World} {lo hi : Nat} {ad : Option Addr} {n cap : Nat} {us : List α} {g m : Nat} {U : List Bool} {E : List RowD}
theorem OwnX.u (h : OwnX R w lo hi ad n cap us (uRow g m U :: E)) : g < w.heap.size ∧ lo ≤ g ∧ (∀ k, k < U.length → w.cell? ⟨g, k, none⟩ = some (.bool (U.getD k false))) ∧ ∀ k, w.frozen? ⟨g, k, none⟩ = false := by
  obtain ⟨_, h1, h2, h3⟩ := h.own.cell (h.memE (List.mem_cons_self ..))
  refine ⟨h1.2.2, h1.1, fun k hk => ?_, h3⟩
  rw [h2 k (by simpa using hk), List.getElem?_map, List.getElem?_eq_getElem hk, List.getD_eq_getElem?_getD, List.getElem?_eq_getElem hk]; rfl
theorem OwnX.setU (h : OwnX R w lo hi ad n cap us (uRow g m U :: E)) (k : Nat) : OwnX R (w.setCell ⟨g, k, none⟩ (.bool true)) lo hi ad n cap us (uRow g m (U.set k true) :: E) := by
  have := h.storeE k (.bool true)
  unfold uRow
  rw [List.map_set]
  exact this
end
end Go.Proofs.Ytpemhiaeiecinaa
/- A tensor of what a function makes of each number. No condition. -/
namespace Go.Proofs.Ytpemhiaeiecinaa
open Go Go.RowKit
set_option linter.unusedVariables false
set_option linter.unusedSimpArgs false
theorem owns_touch5 {w w' : World} {lo hi size base n : Nat} {e : TypeId} {v : Value} {cs : List Value} (h : w.ownsRow base e size v n cs) (ht : Touch lo hi w w') (hd : hi ≤ base) : w'.ownsRow base e size v n cs := ((Row.mk' h).touch ht (.inr hd)).own
theorem cell_after {w2 w9 : World} {o : Obj} {c j : Nat} {row : Option Nat} {v : Value} (hg : (w2.alloc o).grownBy w9 row) (hc : c < w2.heap.size) (hne : row ≠ some c) (hf : w2.cell? ⟨c, j, none⟩ = some v) : w9.cell? ⟨c, j, none⟩ = some v := by
  rw [hg.cell_far ⟨c, j, none⟩ (by simp; omega) (Ne.symm hne)]
  have h : (w2.alloc o).cell? ⟨c, j, none⟩ = w2.cell? ⟨c, j, none⟩ := World.cell?_of_block (heap_alloc_old _ _ hc)
  rw [h]; exact hf
/-- a call of a function value, as one step of a region that draws -/
theorem step_call_value {P : Program} {ops : Array Oper} {o : Oper} {a : Act} {w : World} {K : Act → World → Prop} {Q : Exit → Act → World → Prop} {E : Prop} (hg : o.guard = none) (f : FuncId) (args : Array Value)
    (he : (execOp a.eval o).run P w = .ok (.enter f args) w) (hC : Calls P f args w (fun e w' => ∃ v, e = .returned v ∧ K (a.put o.dst v) w')) : if Region.wanted o (yielded ops a.tmps) = true then Oper.wp P o a w K Q else E := by
  have hw : Region.wanted o (yielded ops a.tmps) = true := by simp [Region.wanted, hg]
  rw [if_pos hw]
  unfold Oper.wp
  rw [he]
  refine hC.mono fun e w' ⟨v, hv, hk⟩ => ?_
  subst hv
  exact hk
theorem frozen_after {w2 w9 : World} {o : Obj} {c j : Nat} {row : Option Nat} (hg : (w2.alloc o).grownBy w9 row) (hc : c < w2.heap.size) (hne : row ≠ some c) (hf : w2.frozen? ⟨c, j, none⟩ = false) : w9.frozen? ⟨c, j, none⟩ = false := by
  rw [hg.frozen_far ⟨c, j, none⟩ (by simp; omega) (Ne.symm hne)]
  have h : (w2.alloc o).frozen? ⟨c, j, none⟩ = w2.frozen? ⟨c, j, none⟩ := World.frozen?_of_block (heap_alloc_old _ _ hc)
  rw [h]; exact hf
/-- what is told of the numbers that the function makes -/
def Made (P : Nat → Nat → Nat → Prop) (xs ys : List Nat) : Prop := ∀ i, i < ys.length → P i (xs.getD i 0) (ys.getD i 0) ∧ ys.getD i 0 < 4294967296
theorem Made.snoc {P : Nat → Nat → Nat → Prop} {xs ys : List Nat} {y : Nat} (h : Made P xs ys) (hp : P ys.length (xs.getD ys.length 0) y) (hy : y < 4294967296) : Made P xs (ys ++ [y]) := by
  intro i hi
  rw [List.length_append] at hi
  simp at hi
  by_cases e : i = ys.length
  · subst e
    rw [List.getD_eq_getElem?_getD, List.getD_eq_getElem?_getD, List.getElem?_append_right (Nat.le_refl _)]
    rw [List.getD_eq_getElem?_getD] at hp
    simpa using ⟨hp, hy⟩
  · have h1 := h i (by omega)
    have e2 : (ys ++ [y]).getD i 0 = ys.getD i 0 := by
      rw [List.getD_eq_getElem?_getD, List.getD_eq_getElem?_getD, List.getElem?_append_left (by omega)]
    rw [e2]; exact h1
set_option maxHeartbeats 4000000 in
set_option maxRecDepth 100000 in
theorem ten_mapped (w : World) (r c : Nat) (ad : Option Addr) (cap : Nat) (xs : List Nat) (h : F32s w ad cap xs) (hl : xs.length ≤ 256) (G : Nat) (caps : Array Value) (P : Nat → Nat → Nat → Prop) (hG : ∀ (args : Array Value) (W : World), (callFunc G args).run Try.prog W = .ok (.enter G args) W)
    (hcl : ∀ W (i x : Nat), Below w.heap.size w W → i < xs.length → x = xs.getD i 0 → Calls Try.prog G (#[.int .i64 i, .float .f32 x] ++ caps) W fun e w' => ∃ y, e = .returned (.float .f32 y) ∧ Hid (P i x y ∧ y < 4294967296) ∧ Below W.heap.size W w') :
    Calls Try.prog 185 #[.agg #[.int .i64 r, .int .i64 c, .slice ad xs.length cap], .func (.func G) #[] caps] w fun e w' => ∃ ad' cap' ys, e = .returned (.agg #[.int .i64 r, .int .i64 c, .slice ad' xs.length cap']) ∧ Hid (RepF w' w.heap.size w'.heap.size ad' xs.length cap' ys) ∧ Hid (Made P xs ys) ∧ Below w.heap.size w w' := by
  obtain ⟨i0, hi0, hz0, hz1, hz2⟩ := info_parts info_f32
  obtain ⟨n, hn⟩ : ∃ n, n = xs.length := ⟨_, rfl⟩
  have NX := Lib.hid hn
  rw [← hn] at hl hcl ⊢
  have HC := Lib.hid hcl; have H := Lib.hid h
  have rb0 := (Box3.alloc2 w (.cells #[.int .i64 r, .int .i64 c, .slice ad n cap] 27) (.int .i64 0) (.int .i64 0) (.slice none 0 0) 27).below (below1 _ (.cells #[.int .i64 r, .int .i64 c, .slice none 0 0] 27))
  have ob0 := Box3.alloc2 (w.alloc (.cells #[.int .i64 r, .int .i64 c, .slice ad n cap] 27)) (.cells #[.int .i64 0, .int .i64 0, .slice none 0 0] 27) (.int .i64 r) (.int .i64 c) (.slice none 0 0) 27
  rw [show (w.alloc (.cells #[.int .i64 r, .int .i64 c, .slice ad n cap] 27)).heap.size = w.heap.size + 1 by simp] at ob0
  have b00 := below3 w (.cells #[.int .i64 r, .int .i64 c, .slice ad n cap] 27) (.cells #[.int .i64 0, .int .i64 0, .slice none 0 0] 27) (.cells #[.int .i64 r, .int .i64 c, .slice none 0 0] 27)
  have hsz : (((w.alloc (.cells #[.int .i64 r, .int .i64 c, .slice ad n cap] 27)).alloc (.cells #[.int .i64 0, .int .i64 0, .slice none 0 0] 27)).alloc (.cells #[.int .i64 r, .int .i64 c, .slice none 0 0] 27)).heap.size = w.heap.size + 3 := by simp
  have RB := Lib.hid rb0; have OB := Lib.hid ob0; have B0 := Lib.hid b00; have SZ := Lib.hid hsz
  clear hsz rb0 ob0 b00
  clear hcl h hn
  go_enter Try.func185, Try.ntmps185
  go_wp2
  generalize (((w.alloc (.cells #[.int .i64 r, .int .i64 c, .slice ad n cap] 27)).alloc (.cells #[.int .i64 0, .int .i64 0, .slice none 0 0] 27)).alloc (.cells #[.int .i64 r, .int .i64 c, .slice none 0 0] 27)) = W0 at RB OB B0 SZ ⊢
  obtain ⟨ob, hob⟩ : ∃ ob, ob = w.heap.size + 1 + 1 := ⟨_, rfl⟩
  rw [← hob] at OB ⊢
  have hob2 : ob = w.heap.size + 2 := hob
  have HOB := Lib.hid hob2
  have hob3 : ob < w.heap.size + 3 := by omega
  clear hob hob2
  go_loopw [16, 6, 7] (fun i _ _ wt => ∃ k : Nat, i = .int .i64 k ∧ k ≤ n ∧ ∃ (vv : Value) (ys : List Nat), Hid (Box3 wt (ob) (.int .i64 r) (.int .i64 c) vv) ∧ Hid (Box3 wt (w.heap.size + 1) (.int .i64 0) (.int .i64 0) (.slice none 0 0)) ∧ Hid (wt.ownsRow (w.heap.size + 3) 33 1 vv k (ys.map (Value.float .f32)) ∧ ys.length = k ∧ Made P xs ys) ∧ Hid (Below w.heap.size w wt) ∧ w.heap.size + 3 ≤ wt.heap.size) (fun i _ _ _ => n - (intOf i).toNat)
  case atStart => exact ⟨0, rfl, Nat.zero_le _, .slice none 0 0, [], Lib.hid OB.out, Lib.hid RB.out, Lib.hid ⟨⟨rfl, .inl ⟨rfl, rfl⟩⟩, rfl, fun i hi => by simp at hi⟩, Lib.hid B0.out, by rw [SZ.out]; exact Nat.le_refl _⟩
  case round =>
    clear RB OB B0 SZ
    obtain ⟨k, rfl, hk, vv, ys, OB, RB, OW, B, hsz⟩ := hrel
    by_cases hlt : k < n
    · have kx : k < xs.length := by rw [← NX.out]; exact hlt
      have h2 := H.out.below B.out
      obtain ⟨b, off, rfl, _, c1⟩ := h2.spot (k := k) kx
      have c1 := c1 k kx
      obtain ⟨x, hx⟩ : ∃ x, x = xs.getD k 0 := ⟨_, rfl⟩
      rw [← hx] at c1
      have KC := Lib.hid (HC.out wr.drew k x (Below.drew B.out) hlt hx); have HXS := Lib.hid hx
      obtain ⟨va, vc, rfl⟩ : ∃ va vc, vv = .slice va k vc := by
        obtain ⟨ad', cap', e, _⟩ := Rd.of_owns OW.out.1
        exact ⟨ad', cap', e⟩
      have hne : (Value.slice va k vc).ownBlock ≠ some (ob) := by
        intro e
        have := (OW.out.1.lt _ e).1
        omega
      have HO1 := Lib.hid (owns_below OW.out.1 (Below.drew (Below.refl _ _)))
      obtain ⟨q5, q0, q1, q2, qf⟩ := OB.out
      clear h2 hx kx
      go_wp2
      go_region_law
        (first
          | (refine step_call_value (by rfl) G (#[.int .i64 k, .float .f32 x] ++ caps) (by go_simp) ?_; refine KC.out.mono ?_; rintro e w2 ⟨y, rfl, hy, hb2⟩; refine ⟨_, rfl, ?_⟩; have hzz2 : wr.heap.size ≤ w2.heap.size := hb2.size; have HO2 := Lib.hid (owns_below HO1.out hb2); obtain ⟨p5, p0, p1, p2, pf⟩ := (OB.out.below (Below.drew (Below.refl _ _))).below hb2)
          | (refine step_append_lies _ (by rfl) _ _ _ (by rfl) (w.heap.size + 3) 33 i0 _ 1 4 Try.underlying25 hi0 hz0 hz1 hz2 rfl (by omega) (.slice va k vc) k (ys.map (Value.float .f32)) (by rfl) (HO2.out.alloc _)
              ⟨w2.heap.size, 0, none⟩ 1 1 [.float .f32 y] (by rfl) (by rfl) (World.news_of_block (cs := #[.float .f32 y]) (t := 33) (fr := (0, 0)) (heap_alloc_new w2 _)) (by simp [Value.oneCell'])
              (by omega) (by unfold maxLen; omega) (by omega) (by simp; omega) (w2.heap.size + 1) (by simp) ?_; intro gg cap9 w9 hown1 hgrow hat hlt9; have cf0 := cell_after hgrow p5 hne p0; have cf1 := cell_after hgrow p5 hne p1; have cf9 := cell_after hgrow p5 hne p2; have uf9 : w9.frozen? ⟨ob, 2, none⟩ = false := frozen_after hgrow p5 hne (pf 2)))
      all_goals
        have hs9 := hgrow.size
        simp at hs9
        have B9 : Box3 w9 ob (.int .i64 r) (.int .i64 c) (.slice va k vc) := ⟨by omega, cf0, cf1, cf9, fun o => frozen_after hgrow p5 hne (pf o)⟩
        have hne2 : (Value.slice va k vc).ownBlock ≠ some (w.heap.size + 1) := by
          intro e
          have := (OW.out.1.lt _ e).1
          omega
        obtain ⟨r5, r0, r1, r2, rf⟩ := (RB.out.below (Below.drew (Below.refl _ _))).below hb2
        have R9 : Box3 w9 (w.heap.size + 1) (.int .i64 0) (.int .i64 0) (.slice none 0 0) := ⟨by omega, cell_after hgrow r5 hne2 r0, cell_after hgrow r5 hne2 r1, cell_after hgrow r5 hne2 r2, fun o => frozen_after hgrow r5 hne2 (rf o)⟩
        have hbw : Below w.heap.size w w9 := Below.grown (Below.alloc (bthen (Below.drew B.out) hb2) (by omega) _) hgrow (by simp; omega) (fun g e => by have := (OW.out.1.lt g e).1; omega)
        have ho9 := owns_touch5 (lo := ob) (hi := ob + 1) hown1 (Touch.setCell (w := w9) (g := ob) (k := 2) (v := .slice (some ⟨gg, 0, none⟩) (k + 1) cap9) (Nat.le_refl _) (by omega)) (by omega)
        have hob1 : w.heap.size + 1 ≠ ob := by have := HOB.out; omega
        have hm := OW.out.2.2.snoc (y := y) (by rw [OW.out.2.1, ← HXS.out]; exact hy.out.1) hy.out.2
        have NB := Lib.hid (B9.set 2 (.slice (some ⟨gg, 0, none⟩) (k + 1) cap9)); have NR := Lib.hid (R9.far ob 2 (.slice (some ⟨gg, 0, none⟩) (k + 1) cap9) (Ne.symm hob1))
        have NO := Lib.hid ho9; have NM := Lib.hid hm; have NW := Lib.hid (Below.setCell (p := ⟨ob, 2, none⟩) hbw (by show w.heap.size ≤ ob; have := HOB.out; omega) (.slice (some ⟨gg, 0, none⟩) (k + 1) cap9))
        have hz9 : w.heap.size + 3 ≤ w9.heap.size := by omega
        clear B9 R9 hbw ho9 hm hown1 hgrow hat cf0 cf1 cf9 uf9 p0 p1 p2 pf r0 r1 r2 rf hb2 KC HO1 HO2
        go_wp2
        refine ⟨?rel, ?measure⟩
        case rel => exact ⟨k + 1, by go_num, hlt, _, ys ++ [y], Lib.hid NB.out, NR, Lib.hid ⟨by rw [List.map_append]; exact NO.out, by rw [List.length_append, OW.out.2.1]; rfl, NM.out⟩, NW, by simp [World.setCell]; omega⟩
        case measure => simp [intOf]; omega
    · have hkn : k = n := by omega
      subst hkn
      obtain ⟨va, vc, rfl⟩ : ∃ va vc, vv = .slice va k vc := by
        obtain ⟨ad', cap', e, _⟩ := Rd.of_owns OW.out.1
        exact ⟨ad', cap', e⟩
      obtain ⟨q5, q0, q1, q2, qf⟩ := OB.out
      obtain ⟨r5, r0, r1, r2, rf⟩ := RB.out
      have hbf : ∀ a b d : Value, Below w.heap.size w (((wr.setCell ⟨w.heap.size + 1, 0, none⟩ a).setCell ⟨w.heap.size + 1, 1, none⟩ b).setCell ⟨w.heap.size + 1, 2, none⟩ d) := fun a b d =>
        Below.setCell (p := ⟨w.heap.size + 1, 2, none⟩) (Below.setCell (p := ⟨w.heap.size + 1, 1, none⟩) (Below.setCell (p := ⟨w.heap.size + 1, 0, none⟩) B.out (by show w.heap.size ≤ w.heap.size + 1; omega) a) (by show w.heap.size ≤ w.heap.size + 1; omega) b) (by show w.heap.size ≤ w.heap.size + 1; omega) d
      have htf : ∀ a b d : Value, Touch (w.heap.size + 1) (w.heap.size + 2) wr (((wr.setCell ⟨w.heap.size + 1, 0, none⟩ a).setCell ⟨w.heap.size + 1, 1, none⟩ b).setCell ⟨w.heap.size + 1, 2, none⟩ d) := fun a b d =>
        ((Touch.setCell (Nat.le_refl _) (by omega)).trans (Touch.setCell (Nat.le_refl _) (by omega))).trans (Touch.setCell (Nat.le_refl _) (by omega))
      have HBF := Lib.hid hbf; have HTF := Lib.hid htf
      have hob1 : w.heap.size + 1 ≠ ob := by have := HOB.out; omega
      have hob2 : ob ≠ w.heap.size + 1 := Ne.symm hob1
      clear hbf htf HC
      go_wp2
      try simp only [Exit.inBlock, Exit.then]
      refine bodyPost_ret (v := .agg #[.int .i64 r, .int .i64 c, .slice va k vc]) (by simp [results, Try.results185, go_sem, r0, r1, r2]) rfl ⟨va, vc, ys, rfl, Lib.hid ?_, Lib.hid OW.out.2.2, HBF.out _ _ _⟩
      have h1 := owns_touch5 OW.out.1 (HTF.out (.int .i64 r) (.int .i64 c) (.slice va k vc)) (by omega)
      obtain ⟨a', c', e, h2⟩ := RepF.of_owns h1 (fun y hy => by
        obtain ⟨i, hi, rfl⟩ := List.getElem_of_mem hy
        have := (OW.out.2.2 i hi).2
        rwa [List.getD_eq_getElem?_getD, List.getElem?_eq_getElem hi] at this)
      cases e
      exact h2.bounds (by omega) (Nat.le_refl _)
end Go.Proofs.Ytpemhiaeiecinaa
/- What ReluTensor does. No condition. -/
namespace Go.Proofs.Ytpemhiaeiecinaa
open Go Go.RowKit
set_option linter.unusedVariables false
set_option linter.unusedSimpArgs false
/-- a number that is greater than 0 or none, and +0 for all others -/
def reluW (x : Nat) : Nat := if (FloatKind.f32.format.order x 0 == some .gt || isN .f32 x) = true then x else 0
theorem impl_relu (x : Nat) (w : World) : Calls Try.prog 187 #[.float .f32 x] w fun e w' => e = .returned (.float .f32 (reluW x)) ∧ w = w' := by
  have hs := order_self .f32 x
  unfold reluW
  cases h1 : (FloatKind.f32.format.order x 0 == some .gt)
  · cases h2 : isN .f32 x
    · rw [h2, if_neg (by decide)] at hs
      rw [if_neg (by decide)]
      have hs2 : (FloatKind.f32.format.order x x != some .eq) = false := by rw [hs]; rfl
      clear h2
      go_enter Try.func187, Try.ntmps187
      go_wp2
      go_ret
      exact ⟨rfl, rfl⟩
    · rw [h2, if_pos rfl] at hs
      rw [if_pos (by decide)]
      have hs2 : (FloatKind.f32.format.order x x != some .eq) = true := by rw [hs]; rfl
      clear h2
      go_enter Try.func187, Try.ntmps187
      go_wp2
      go_ret
      exact ⟨rfl, rfl⟩
  · rw [Bool.true_or, if_pos rfl]
    clear hs
    go_enter Try.func187, Try.ntmps187
    go_wp2
    go_ret
    exact ⟨rfl, rfl⟩
theorem reluW_lt {x : Nat} (h : x < 4294967296) : reluW x < 4294967296 := by unfold reluW; split <;> omega
theorem impl_reluTensor1 (i x : Nat) (w : World) : Calls Try.prog 186 #[.int .i64 i, .float .f32 x] w fun e w' => e = .returned (.float .f32 (reluW x)) ∧ w = w' := by
  have K := Lib.hid (fun W => impl_relu x W)
  go_enter Try.func186, Try.ntmps186
  go_wp2_with fail
  refine (K.out _).mono ?_
  rintro e w1 ⟨rfl, rfl⟩
  go_wp2
  go_ret
  exact ⟨rfl, rfl⟩
set_option maxHeartbeats 2000000 in
theorem impl_reluTensor (w : World) (r c : Nat) (ad : Option Addr) (cap : Nat) (xs : List Nat) (h : F32s w ad cap xs) (hl : xs.length ≤ 256) :
    Calls Try.prog 119 #[.agg #[.int .i64 r, .int .i64 c, .slice ad xs.length cap]] w fun e w' => ∃ ad' cap' ys, e = .returned (.agg #[.int .i64 r, .int .i64 c, .slice ad' xs.length cap']) ∧ Hid (RepF w' w.heap.size w'.heap.size ad' xs.length cap' ys) ∧ Hid (Made (fun _ x y => y = reluW x) xs ys) ∧ Below w.heap.size w w' := by
  have K := Lib.hid (fun W (hW : F32s W ad cap xs) => ten_mapped W r c ad cap xs hW hl 186 #[] (fun _ x y => y = reluW x) (fun args W => by kernel_rfl) (fun W' i x hb hi hx => (impl_reluTensor1 i x W').mono fun e w' ⟨he, hw⟩ => ⟨reluW x, he, Lib.hid ⟨rfl, reluW_lt (by rw [hx]; exact h.lt _ (mem_getD hi))⟩, by rw [← hw]; exact Below.refl _ _⟩))
  have hs1 := below2 w (.cells #[.int .i64 r, .int .i64 c, .slice ad xs.length cap] 27) (.cells #[.int .i64 0, .int .i64 0, .slice none 0 0] 27)
  have RB := Lib.hid (Box3.alloc2 w (.cells #[.int .i64 r, .int .i64 c, .slice ad xs.length cap] 27) (.int .i64 0) (.int .i64 0) (.slice none 0 0) 27)
  have B := Lib.hid hs1
  have H := Lib.hid (h.below hs1)
  obtain ⟨n, hn⟩ : ∃ n, n = xs.length := ⟨_, rfl⟩
  rw [← hn] at K RB B H ⊢
  clear hs1 h hn hl
  go_enter Try.func119, Try.ntmps119
  go_wp2_with fail
  refine (K.out _ H.out).mono ?_
  rintro e w' ⟨va, vc, ys, rfl, RO, RM, hb⟩
  obtain ⟨r5, r0, r1, r2, rf⟩ := RB.out.below hb
  have hbw := bthen B.out hb
  have hz := hb.size
  simp at hz
  have hbf : ∀ a b d : Value, Below w.heap.size w (((w'.setCell ⟨w.heap.size + 1, 0, none⟩ a).setCell ⟨w.heap.size + 1, 1, none⟩ b).setCell ⟨w.heap.size + 1, 2, none⟩ d) := fun a b d =>
    Below.setCell (p := ⟨w.heap.size + 1, 2, none⟩) (Below.setCell (p := ⟨w.heap.size + 1, 1, none⟩) (Below.setCell (p := ⟨w.heap.size + 1, 0, none⟩) hbw (by show w.heap.size ≤ w.heap.size + 1; omega) a) (by show w.heap.size ≤ w.heap.size + 1; omega) b) (by show w.heap.size ≤ w.heap.size + 1; omega) d
  have htf : ∀ a b d : Value, Touch (w.heap.size + 1) (w.heap.size + 2) w' (((w'.setCell ⟨w.heap.size + 1, 0, none⟩ a).setCell ⟨w.heap.size + 1, 1, none⟩ b).setCell ⟨w.heap.size + 1, 2, none⟩ d) := fun a b d =>
    ((Touch.setCell (Nat.le_refl _) (by omega)).trans (Touch.setCell (Nat.le_refl _) (by omega))).trans (Touch.setCell (Nat.le_refl _) (by omega))
  have HBF := Lib.hid hbf; have HTF := Lib.hid htf
  clear hbf htf hbw hb
  go_wp2
  try simp only [Exit.inBlock, Exit.then]
  refine bodyPost_ret (v := .agg #[.int .i64 r, .int .i64 c, .slice va n vc]) (by simp [results, Try.results119, go_sem, r0, r1, r2]) rfl ⟨va, vc, ys, rfl, Lib.hid ?_, RM, HBF.out _ _ _⟩
  have h1 := RO.out.touch (HTF.out (.int .i64 r) (.int .i64 c) (.slice va n vc)) (.inr (by simp))
  exact h1.bounds (by simp; omega) (by simp [World.setCell])
end Go.Proofs.Ytpemhiaeiecinaa
/- What ScaleTensor does. No condition. -/
namespace Go.Proofs.Ytpemhiaeiecinaa
open Go Go.RowKit
set_option linter.unusedVariables false
set_option linter.unusedSimpArgs false
theorem impl_scaleTensor1 (i x z g : Nat) (w : World) (hz : w.cell? ⟨g, 0, none⟩ = some (.float .f32 z)) : Calls Try.prog 189 (#[.int .i64 i, .float .f32 x] ++ #[.pointer (some ⟨g, 0, none⟩)]) w fun e w' => ∃ y, e = .returned (.float .f32 y) ∧ Hid (cn .f32 y = fop .mul .f32 (cn .f32 x) (cn .f32 z) ∧ y < 4294967296) ∧ Dr w w' := by
  show Calls Try.prog 189 #[.int .i64 i, .float .f32 x, .pointer (some ⟨g, 0, none⟩)] w _
  go_enter Try.func189, Try.ntmps189
  go_wp2
  go_ret
  exact ⟨_, rfl, Lib.hid ⟨cn_fbits _ _ _ _ _, fbits_lt _ .f32 _ _ _⟩, (Dr.refl _).drewN _⟩
set_option maxHeartbeats 2000000 in
theorem impl_scaleTensor (w : World) (r c : Nat) (ad : Option Addr) (cap : Nat) (xs : List Nat) (h : F32s w ad cap xs) (hl : xs.length ≤ 256) (z : Nat) :
    Calls Try.prog 121 #[.agg #[.int .i64 r, .int .i64 c, .slice ad xs.length cap], .float .f32 z] w fun e w' => ∃ ad' cap' ys, e = .returned (.agg #[.int .i64 r, .int .i64 c, .slice ad' xs.length cap']) ∧ Hid (RepF w' w.heap.size w'.heap.size ad' xs.length cap' ys) ∧ Hid (Made (fun _ x y => cn .f32 y = fop .mul .f32 (cn .f32 x) (cn .f32 z)) xs ys) ∧ Below w.heap.size w w' := by
  have K := Lib.hid (fun W (hW : F32s W ad cap xs) (hz : W.cell? ⟨w.heap.size + 1, 0, none⟩ = some (.float .f32 z)) (hzl : w.heap.size + 1 < W.heap.size) => ten_mapped W r c ad cap xs hW hl 189 #[.pointer (some ⟨w.heap.size + 1, 0, none⟩)] (fun _ x y => cn .f32 y = fop .mul .f32 (cn .f32 x) (cn .f32 z)) (fun args W => by kernel_rfl) (fun W' i x hb hi hx => (impl_scaleTensor1 i x z (w.heap.size + 1) W' ((hb.cell (p := ⟨w.heap.size + 1, 0, none⟩) hzl).trans hz)).mono fun e w' ⟨y, he, hy, hd⟩ => ⟨y, he, hy, hd.below⟩))
  have hs1 := below3 w (.cells #[.int .i64 r, .int .i64 c, .slice ad xs.length cap] 27) (.cells #[.float .f32 z] 33) (.cells #[.int .i64 0, .int .i64 0, .slice none 0 0] 27)
  have RB := Lib.hid (Box3.alloc2 (w.alloc (.cells #[.int .i64 r, .int .i64 c, .slice ad xs.length cap] 27)) (.cells #[.float .f32 z] 33) (.int .i64 0) (.int .i64 0) (.slice none 0 0) 27)
  rw [show (w.alloc (.cells #[.int .i64 r, .int .i64 c, .slice ad xs.length cap] 27)).heap.size = w.heap.size + 1 by simp] at RB
  have B := Lib.hid hs1
  have H := Lib.hid (h.below hs1)
  obtain ⟨n, hn⟩ : ∃ n, n = xs.length := ⟨_, rfl⟩
  rw [← hn] at K RB B H ⊢
  clear hs1 h hn hl
  go_enter Try.func121, Try.ntmps121
  go_wp2_with fail
  refine (K.out _ H.out (by go_simp) (by simp)).mono ?_
  rintro e w' ⟨va, vc, ys, rfl, RO, RM, hb⟩
  obtain ⟨r5, r0, r1, r2, rf⟩ := RB.out.below hb
  have hbw := bthen B.out hb
  have hz := hb.size
  simp at hz
  have hbf : ∀ a b d : Value, Below w.heap.size w (((w'.setCell ⟨w.heap.size + 1 + 1, 0, none⟩ a).setCell ⟨w.heap.size + 1 + 1, 1, none⟩ b).setCell ⟨w.heap.size + 1 + 1, 2, none⟩ d) := fun a b d =>
    Below.setCell (p := ⟨w.heap.size + 1 + 1, 2, none⟩) (Below.setCell (p := ⟨w.heap.size + 1 + 1, 1, none⟩) (Below.setCell (p := ⟨w.heap.size + 1 + 1, 0, none⟩) hbw (by show w.heap.size ≤ w.heap.size + 1 + 1; omega) a) (by show w.heap.size ≤ w.heap.size + 1 + 1; omega) b) (by show w.heap.size ≤ w.heap.size + 1 + 1; omega) d
  have htf : ∀ a b d : Value, Touch (w.heap.size + 1 + 1) (w.heap.size + 3) w' (((w'.setCell ⟨w.heap.size + 1 + 1, 0, none⟩ a).setCell ⟨w.heap.size + 1 + 1, 1, none⟩ b).setCell ⟨w.heap.size + 1 + 1, 2, none⟩ d) := fun a b d =>
    ((Touch.setCell (Nat.le_refl _) (by omega)).trans (Touch.setCell (Nat.le_refl _) (by omega))).trans (Touch.setCell (Nat.le_refl _) (by omega))
  have HBF := Lib.hid hbf; have HTF := Lib.hid htf
  clear hbf htf hbw hb
  go_wp2
  try simp only [Exit.inBlock, Exit.then]
  refine bodyPost_ret (v := .agg #[.int .i64 r, .int .i64 c, .slice va n vc]) (by simp [results, Try.results121, go_sem, r0, r1, r2]) rfl ⟨va, vc, ys, rfl, Lib.hid ?_, RM, HBF.out _ _ _⟩
  have h1 := RO.out.touch (HTF.out (.int .i64 r) (.int .i64 c) (.slice va n vc)) (.inr (by simp))
  exact h1.bounds (by simp; omega) (by simp [World.setCell])
end Go.Proofs.Ytpemhiaeiecinaa
/- A tensor that a loop builds. No condition. -/
namespace Go.Proofs.Ytpemhiaeiecinaa
open Go Go.RowKit
set_option linter.unusedVariables false
set_option linter.unusedSimpArgs false
/-- a tensor that is given: its numbers, NaNs made one -/
def TenPost (r c : Int) (n : Nat) (P : List Nat) (w : World) (e : Ending) (w' : World) : Prop := ∃ ad cap zs, e = .returned (.agg #[.int .i64 r, .int .i64 c, .slice ad n cap]) ∧ Hid (RepF w' w.heap.size w'.heap.size ad n cap zs) ∧ Hid (zs.map (cn .f32) = P) ∧ Below w.heap.size w w'
def tRow (va : Option Addr) (k vc : Nat) (ys : List Nat) : RowD := ⟨33, 1, va, k, vc, ys.map (Value.float .f32)⟩
def bRow (g : Nat) (cs : List Value) : RowD := ⟨27, 3, some ⟨g, 0, none⟩, 1, 1, cs⟩
/-- a tensor under way: its numbers, its own box, the result's box -/
structure Bld (w0 : World) (wt : World) (rb ob : Nat) (r c : Int) (va : Option Addr) (k vc : Nat) (ys : List Nat) : Prop where
  own : Own wt w0.heap.size wt.heap.size [tRow va k vc ys, bRow ob [.int .i64 r, .int .i64 c, .slice va k vc], bRow rb [.int .i64 0, .int .i64 0, .slice none 0 0]]
  len : ys.length = k
  ok : okF ys
  below : Below w0.heap.size w0 wt
section
variable {w0 wt : World} {rb ob : Nat} {r c : Int} {va : Option Addr} {k vc : Nat} {ys : List Nat}
theorem Bld.move (h : Bld w0 wt rb ob r c va k vc ys) {W : World} (hb : Below wt.heap.size wt W) : Bld w0 W rb ob r c va k vc ys :=
  ⟨(h.own.below hb).bounds (Nat.le_refl _) hb.size, h.len, h.ok, h.below.trans (hb.mono h.below.size)⟩
theorem Bld.out (h : Bld w0 wt rb ob r c va k vc ys) : BoxN wt ob [.int .i64 r, .int .i64 c, .slice va k vc] := by
  obtain ⟨_, hl, hc, hf⟩ := h.own.cell (List.mem_cons_of_mem _ (List.mem_cons_self ..))
  exact ⟨hl.2.2, hc, hf⟩
theorem Bld.res (h : Bld w0 wt rb ob r c va k vc ys) : BoxN wt rb [.int .i64 0, .int .i64 0, .slice none 0 0] := by
  obtain ⟨_, hl, hc, hf⟩ := h.own.cell (List.mem_cons_of_mem _ (List.mem_cons_of_mem _ (List.mem_cons_self ..)))
  exact ⟨hl.2.2, hc, hf⟩
theorem Bld.row (h : Bld w0 wt rb ob r c va k vc ys) : wt.ownsRow w0.heap.size 33 1 (.slice va k vc) k (ys.map (Value.float .f32)) := h.own.head.own
theorem Bld.apart (h : Bld w0 wt rb ob r c va k vc ys) : (Value.slice va k vc).ownBlock ≠ some ob := by
  intro e
  exact h.own.apart (List.mem_cons_self ..) ob e rfl
/-- one more number -/
theorem Bld.push (h : Bld w0 wt rb ob r c va k vc ys) {W w9 : World} {x : Nat} {v' : Value} {o : Obj} (hx : x < 4294967296) (hb : Below wt.heap.size wt W) (ho : w9.ownsRow w0.heap.size 33 1 v' (k + 1) (ys.map (Value.float .f32) ++ [.float .f32 x]))
    (hg : (W.alloc o).grownBy w9 (Value.slice va k vc).ownBlock) (hat : v'.ownBlock = (Value.slice va k vc).ownBlock ∨ v'.ownBlock = some (W.heap.size + 1)) :
    ∃ va' vc', v' = .slice va' (k + 1) vc' ∧ w9.cell? ⟨ob, 2, none⟩ = some (.slice va k vc) ∧ w9.frozen? ⟨ob, 2, none⟩ = false ∧ Below w0.heap.size w0 w9 ∧ Bld w0 (w9.setCell ⟨ob, 2, none⟩ (.slice va' (k + 1) vc')) rb ob r c va' (k + 1) vc' (ys ++ [x]) := by
  obtain ⟨va', vc', rfl, _⟩ := Rd.of_owns ho
  have h1 := (h.own.below hb).below (below1 W o)
  have hs := hg.size
  have hbs := hb.size
  simp at hs
  have hB := h.below.size
  have hbel : Below w0.heap.size w0 w9 := by
    refine Below.grown ((h.below.trans (hb.mono hB)).alloc (by omega) o) hg (by simp; omega) (fun j e => (h.row.lt j e).1)
  have h2 := h1.grown (w' := w9) (hi' := w9.heap.size) (y := tRow va' (k + 1) vc' (ys ++ [x])) hg (by
    refine Row.mk' ?_
    show w9.ownsRow w0.heap.size 33 1 (.slice va' (k + 1) vc') (k + 1) ((ys ++ [x]).map (Value.float .f32))
    rw [List.map_append]; exact ho) (fun g e => by
      rcases hat with e1 | e1
      · exact .inl (e1.symm.trans e)
      · right
        have e2 : some g = some (W.heap.size + 1) := e.symm.trans e1
        cases e2
        omega) (by omega)
  have hbl := h.out.lt
  have hcell : w9.cell? ⟨ob, 2, none⟩ = some (.slice va k vc) := by
    rw [hg.cell_far ⟨ob, 2, none⟩ (by simp; omega) (Ne.symm h.apart), World.cell?_alloc_lt _ _ _ (show ob < W.heap.size by omega)]
    exact ((h.move hb).out).three.2.2.2.1
  have hfz : w9.frozen? ⟨ob, 2, none⟩ = false := by
    rw [hg.frozen_far ⟨ob, 2, none⟩ (by simp; omega) (Ne.symm h.apart)]
    exact ((h.move hb).out.below (below1 W o)).fz 2
  refine ⟨va', vc', rfl, hcell, hfz, hbel, ?_⟩
  have p1 : [tRow va' (k + 1) vc' (ys ++ [x]), bRow ob [.int .i64 r, .int .i64 c, .slice va k vc], bRow rb [.int .i64 0, .int .i64 0, .slice none 0 0]].Perm [bRow ob [.int .i64 r, .int .i64 c, .slice va k vc], tRow va' (k + 1) vc' (ys ++ [x]), bRow rb [.int .i64 0, .int .i64 0, .slice none 0 0]] := List.Perm.swap _ _ _
  have h3 := (h2.perm p1).store 2 (.slice va' (k + 1) vc')
  have h4 := h3.perm (M := [tRow va' (k + 1) vc' (ys ++ [x]), bRow ob [.int .i64 r, .int .i64 c, .slice va' (k + 1) vc'], bRow rb [.int .i64 0, .int .i64 0, .slice none 0 0]]) (List.Perm.swap _ _ _)
  refine ⟨h4.bounds (Nat.le_refl _) (by simp [World.setCell]), by simp [h.len], fun y hy => ?_, hbel.setCell (p := ⟨ob, 2, none⟩) ?_ _⟩
  · rcases List.mem_append.1 hy with hy | hy
    · exact h.ok y hy
    · simp at hy; subst hy; exact hx
  · exact (h.own.cell (List.mem_cons_of_mem _ (List.mem_cons_self ..))).2.1.1
/-- the end: the tensor is laid into the result's box -/
theorem Bld.fin (h : Bld w0 wt rb ob r c va k vc ys) : RepF (setCs wt rb 0 [.int .i64 r, .int .i64 c, .slice va k vc]) w0.heap.size (setCs wt rb 0 [.int .i64 r, .int .i64 c, .slice va k vc]).heap.size va k vc ys ∧ Below w0.heap.size w0 (setCs wt rb 0 [.int .i64 r, .int .i64 c, .slice va k vc]) := by
  have hl := h.len
  subst hl
  have p1 : [tRow va ys.length vc ys, bRow ob [.int .i64 r, .int .i64 c, .slice va ys.length vc], bRow rb [.int .i64 0, .int .i64 0, .slice none 0 0]].Perm [bRow rb [.int .i64 0, .int .i64 0, .slice none 0 0], tRow va ys.length vc ys, bRow ob [.int .i64 r, .int .i64 c, .slice va ys.length vc]] :=
    (List.perm_append_comm (l₁ := [tRow va ys.length vc ys, bRow ob [.int .i64 r, .int .i64 c, .slice va ys.length vc]]) (l₂ := [bRow rb [.int .i64 0, .int .i64 0, .slice none 0 0]]))
  have h1 := setCs_own (h.own.perm p1) 0 [.int .i64 r, .int .i64 c, .slice va ys.length vc]
  have hrb := (h.own.cell (List.mem_cons_of_mem _ (List.mem_cons_of_mem _ (List.mem_cons_self ..)))).2.1.1
  refine ⟨(h1.repF (List.mem_cons_of_mem _ (List.mem_cons_self ..)) h.ok).bounds (Nat.le_refl _) (by rw [setCs_size]; exact Nat.le_refl _), setCs_below h.below hrb 0 _⟩
end
theorem Bld.start1 (w : World) (r c : Int) : Bld w (((w.alloc (.cells #[.int .i64 0, .int .i64 0, .slice none 0 0] 27)).alloc (.cells #[] 33)).alloc (.cells #[.int .i64 r, .int .i64 c, .slice (some ⟨w.heap.size + 1, 0, none⟩) 0 0] 27)) w.heap.size (w.heap.size + 1 + 1) r c (some ⟨w.heap.size + 1, 0, none⟩) 0 0 [] := by
  refine ⟨?_, rfl, fun x hx => (nomatch hx), below3 w _ _ _⟩
  have h1 := (Own.nil w w.heap.size w.heap.size).alloc (Nat.le_refl _) (Nat.le_refl _) #[.int .i64 0, .int .i64 0, .slice none 0 0] 27
  have h := World.ownsRow_made (base := w.heap.size) (e := 33) (size := 1) (w.alloc (.cells #[.int .i64 0, .int .i64 0, .slice none 0 0] 27)) #[] 0 (by simp) (Nat.zero_le _) rfl
  have e1 : (w.alloc (.cells #[.int .i64 0, .int .i64 0, .slice none 0 0] 27)).heap.size = w.heap.size + 1 := by simp
  rw [e1] at h
  have h2 : Own ((w.alloc (.cells #[.int .i64 0, .int .i64 0, .slice none 0 0] 27)).alloc (.cells #[] 33)) w.heap.size (w.heap.size + 1 + 1) [tRow (some ⟨w.heap.size + 1, 0, none⟩) 0 0 [], bRow w.heap.size [.int .i64 0, .int .i64 0, .slice none 0 0]] := by
    refine Own.cons ⟨h, fun g e => ?_⟩ ((h1.below (below1 _ _)).bounds (Nat.le_refl _) (Nat.le_succ _)) fun y hy g e1 e2 => ?_
    · cases e; show w.heap.size + 1 < w.heap.size + 1 + 1; omega
    · simp at hy; subst hy
      cases e1
      have e3 : w.heap.size = w.heap.size + 1 := by injection e2
      omega
  have h3 := h2.alloc (by simp; omega) (by simp) #[.int .i64 r, .int .i64 c, .slice (some ⟨w.heap.size + 1, 0, none⟩) 0 0] 27
  have e2 : ((w.alloc (.cells #[.int .i64 0, .int .i64 0, .slice none 0 0] 27)).alloc (.cells #[] 33)).heap.size = w.heap.size + 1 + 1 := by simp
  rw [e2] at h3
  exact (h3.perm (List.Perm.swap _ _ _)).bounds (Nat.le_refl _) (by simp)
theorem Bld.start2 (w : World) (r c : Int) : Bld w (((w.alloc (.cells #[.int .i64 0, .int .i64 0, .slice none 0 0] 27)).alloc (.cells #[.int .i64 r, .int .i64 c, .slice (some ⟨w.heap.size + 1 + 1, 0, none⟩) 0 0] 27)).alloc (.cells #[] 33)) w.heap.size (w.heap.size + 1) r c (some ⟨w.heap.size + 1 + 1, 0, none⟩) 0 0 [] := by
  refine ⟨?_, rfl, fun x hx => (nomatch hx), below3 w _ _ _⟩
  have h1 := (Own.nil w w.heap.size w.heap.size).alloc (Nat.le_refl _) (Nat.le_refl _) #[.int .i64 0, .int .i64 0, .slice none 0 0] 27
  have h2 := h1.alloc (by simp) (by simp) #[.int .i64 r, .int .i64 c, .slice (some ⟨w.heap.size + 1 + 1, 0, none⟩) 0 0] 27
  have h := World.ownsRow_made (base := w.heap.size) (e := 33) (size := 1) ((w.alloc (.cells #[.int .i64 0, .int .i64 0, .slice none 0 0] 27)).alloc (.cells #[.int .i64 r, .int .i64 c, .slice (some ⟨w.heap.size + 1 + 1, 0, none⟩) 0 0] 27)) #[] 0 (by simp; omega) (Nat.zero_le _) rfl
  have e1 : ((w.alloc (.cells #[.int .i64 0, .int .i64 0, .slice none 0 0] 27)).alloc (.cells #[.int .i64 r, .int .i64 c, .slice (some ⟨w.heap.size + 1 + 1, 0, none⟩) 0 0] 27)).heap.size = w.heap.size + 1 + 1 := by simp
  have e0 : (w.alloc (.cells #[.int .i64 0, .int .i64 0, .slice none 0 0] 27)).heap.size = w.heap.size + 1 := by simp
  rw [e1] at h
  rw [e0] at h2
  refine (Own.cons (x := tRow (some ⟨w.heap.size + 1 + 1, 0, none⟩) 0 0 []) ⟨h, fun g e => ?_⟩ ((h2.below (below1 _ _)).bounds (Nat.le_refl _) (Nat.le_succ _)) fun y hy g e1 e2 => ?_).bounds (Nat.le_refl _) (by simp)
  · cases e; show w.heap.size + 1 + 1 < w.heap.size + 1 + 1 + 1; omega
  · simp at hy
    cases e1
    rcases hy with rfl | rfl
    · have e3 : w.heap.size + 1 = w.heap.size + 1 + 1 := by injection e2
      omega
    · have e3 : w.heap.size = w.heap.size + 1 + 1 := by injection e2
      omega
end Go.Proofs.Ytpemhiaeiecinaa
/- Sums of tensors: the reference. No condition. -/
namespace Go.Proofs.Ytpemhiaeiecinaa
open Go Go.RowKit
set_option linter.unusedVariables false
set_option linter.unusedSimpArgs false
def tenE (op : BinOp) (X Y : List Nat) (n : Nat) : List Nat := listOf n fun i => fop op .f32 (X.getD i 0) (Y.getD i 0)
theorem map_push {zs : List Nat} {k : Nat} {f : Nat → Nat} {z : Nat} (h : zs.map (cn .f32) = listOf k f) (hz : cn .f32 z = f k) : (zs ++ [z]).map (cn .f32) = listOf (k + 1) f := by
  rw [List.map_append, h, listOf_succ, List.map_cons, List.map_nil, hz]
set_option maxHeartbeats 8000000 in
set_option maxRecDepth 100000 in
theorem spec_l02Add (w : World) (g1 o1 g2 o2 : Nat) (r c : Int) (a1 a2 : Option Addr) (c1 c2 n : Nat) (xs ys : List Nat) (p0 : w.cell? ⟨g1, o1, none⟩ = some (.int .i64 r)) (p1 : w.cell? ⟨g1, o1 + 1, none⟩ = some (.int .i64 c)) (p2 : w.cell? ⟨g1, o1 + 2, none⟩ = some (.slice a1 n c1)) (q2 : w.cell? ⟨g2, o2 + 2, none⟩ = some (.slice a2 n c2))
    (hx : F32s w a1 c1 xs) (hy : F32s w a2 c2 ys) (hxl : xs.length = n) (hyl : ys.length = n) (hn : n ≤ 256) :
    Calls Try.prog 236 #[.pointer (some ⟨g1, o1, none⟩), .pointer (some ⟨g2, o2, none⟩)] w (TenPost r c n (tenE .add (xs.map (cn .f32)) (ys.map (cn .f32)) n) w) := by
  obtain ⟨i0, hi0, hz0, hzs, hz2⟩ := info_parts info_f32
  have HX := Lib.hid hx; have HY := Lib.hid hy; have HXL := Lib.hid hxl; have HYL := Lib.hid hyl
  clear hx hy hxl hyl
  have hg1 := World.block_lt_of_cell? w _ p0
  have hg2 := World.block_lt_of_cell? w _ q2
  simp only at hg1 hg2
  go_enter Try.func236, Try.ntmps236
  go_upto_region 1 with fail
  obtain ⟨W0, hW0⟩ : ∃ W, W = w.alloc (.cells #[.int .i64 0, .int .i64 0, .slice none 0 0] 27) := ⟨_, rfl⟩
  have k0 : W0.cell? ⟨g1, o1, none⟩ = some (.int .i64 r) := by rw [hW0]; go_simp
  have k1 : W0.cell? ⟨g1, o1 + 1, none⟩ = some (.int .i64 c) := by rw [hW0]; go_simp
  have HW0 := Lib.hid hW0
  have hs0 : W0.heap.size = w.heap.size + 1 := by rw [hW0]; simp
  rw [← hW0]
  have HP := Lib.hid (And.intro p0 (And.intro p1 (And.intro p2 q2)))
  clear hW0 p0 p1 p2 q2
  go_cut [5] (fun p5 wx => ∃ ob va vc, p5 = .pointer (some ⟨ob, 0, none⟩) ∧ Hid (Bld w wx w.heap.size ob r c va 0 vc []))
  case first =>
    go_region_held3 (fun w' => w'.cell? ⟨g1, o1, none⟩ = some (.int .i64 r) ∧ w'.cell? ⟨g1, o1 + 1, none⟩ = some (.int .i64 c)) (go_keep) (first | fail)
    all_goals (try go_wp2_with fail)
    all_goals go_meet
    · exact ⟨_, _, _, rfl, Lib.hid (by rw [HW0.out]; exact (Bld.start1 w r c).move (Below.drew (Below.refl _ _)))⟩
    · exact ⟨_, _, _, rfl, Lib.hid (by rw [HW0.out]; exact (Bld.start2 w r c).move (Below.drew (Below.refl _ _)))⟩
  case rest =>
    obtain ⟨ob, va, vc, rfl, HB⟩ := hcut
    clear k0 k1 HW0 hs0
    go_wp2
    go_loopw [6] (fun i wt => ∃ k : Nat, i = .int .i64 k ∧ k ≤ n ∧ ∃ va vc zs, Hid (Bld w wt w.heap.size ob r c va k vc zs) ∧ Hid (zs.map (cn .f32) = tenE .add (xs.map (cn .f32)) (ys.map (cn .f32)) k)) (fun i _ => n - (intOf i).toNat)
    case atStart => exact ⟨0, rfl, Nat.zero_le _, va, vc, [], HB, Lib.hid rfl⟩
    case round =>
      clear HB
      obtain ⟨k, rfl, hk, va, vc, zs, HB, HZ⟩ := hrel
      have hbb := HB.out.below
      have hP := HP.out
      have r2 : wr.cell? ⟨g1, o1 + 2, none⟩ = some (.slice a1 n c1) := (hbb.cell (p := ⟨g1, o1 + 2, none⟩) hg1).trans hP.2.2.1
      have s2 : wr.cell? ⟨g2, o2 + 2, none⟩ = some (.slice a2 n c2) := (hbb.cell (p := ⟨g2, o2 + 2, none⟩) hg2).trans hP.2.2.2
      by_cases hlt : k < n
      · obtain ⟨b1, f1, rfl, hl1, hc1⟩ := HX.out.spot (k := k) (by rw [HXL.out]; exact hlt)
        obtain ⟨b2, f2, rfl, hl2, hc2⟩ := HY.out.spot (k := k) (by rw [HYL.out]; exact hlt)
        have d1 := hc1 k (by rw [HXL.out]; exact hlt)
        have d2 := hc2 k (by rw [HYL.out]; exact hlt)
        have hx2 := cn_getD xs k
        have hy2 := cn_getD ys k
        obtain ⟨x, hx⟩ : ∃ x, x = xs.getD k 0 := ⟨_, rfl⟩
        obtain ⟨y, hy⟩ : ∃ y, y = ys.getD k 0 := ⟨_, rfl⟩
        rw [← hx] at d1 hx2
        rw [← hy] at d2 hy2
        have KS : Hid (∀ W, Below w.heap.size w W → W.cell? ⟨ob, 2, none⟩ = some (.slice va k vc) → W.cell? ⟨g1, o1 + 2, none⟩ = some (.slice (some ⟨b1, f1, none⟩) n c1) ∧ W.cell? ⟨g2, o2 + 2, none⟩ = some (.slice (some ⟨b2, f2, none⟩) n c2) ∧ W.cell? ⟨b1, f1 + k, none⟩ = some (.float .f32 x) ∧ W.cell? ⟨b2, f2 + k, none⟩ = some (.float .f32 y) ∧ W.cell? ⟨ob, 2, none⟩ = some (.slice va k vc)) := Lib.hid (fun W hb ho => ⟨(hb.cell (p := ⟨g1, o1 + 2, none⟩) hg1).trans hP.2.2.1, (hb.cell (p := ⟨g2, o2 + 2, none⟩) hg2).trans hP.2.2.2, (hb.cell (p := ⟨b1, f1 + k, none⟩) hl1).trans d1, (hb.cell (p := ⟨b2, f2 + k, none⟩) hl2).trans d2, ho⟩)
        have HXY := Lib.hid (And.intro hx2 hy2)
        have HS := Lib.hid (KS.out wr HB.out.below HB.out.out.three.2.2.2.1)
        clear hc1 hc2 hx hy d1 d2 hx2 hy2 hbb hP
        go_upto_region 5 with fail
        clear r2 s2
        refine wp_region_mix 20 [17, 18] (fun W => W.cell? ⟨g1, o1 + 2, none⟩ = some (.slice (some ⟨b1, f1, none⟩) n c1) ∧ W.cell? ⟨g2, o2 + 2, none⟩ = some (.slice (some ⟨b2, f2, none⟩) n c2) ∧ W.cell? ⟨b1, f1 + k, none⟩ = some (.float .f32 x) ∧ W.cell? ⟨b2, f2 + k, none⟩ = some (.float .f32 y) ∧ W.cell? ⟨ob, 2, none⟩ = some (.slice va k vc)) (fun _ _ _ => False) (fun _ _ _ _ _ => False) (by kernel_rfl) (by kernel_rfl) HS.out (fun W q h => by simpa using h) ?_
        iterate 16 (refine mwalk_plain (by rfl) HS.out (fun K hK W hW => ?_); obtain ⟨e1, e2, e3, e4, e5⟩ := hW; go_simp; refine hK _ ?_; clear hK K e1 e2 e3 e4 e5)
        refine mwalk_plain (by rfl) HS.out (fun K hK W hW => ?_)
        go_simp
        have hz := cn_fbits .add .f32 x y W
        have hzl := fbits_lt .add .f32 x y W
        generalize fbits .add .f32 x y W = z at hz hzl ⊢
        refine hK _ ?_
        have HZ2 := Lib.hid hz; have HZL := Lib.hid hzl
        clear hK K hW hz hzl
        refine mwalk_spec (by rfl) HS.out (fun K hK q => ?_)
        have hbq := below_drewN (Below.refl wr.heap.size wr) q
        go_simp
        have hbA : Below wr.heap.size wr ((wr.drewN q).alloc (.cells #[.float .f32 z] 33)) := hbq.alloc (by simp) _
        have hs1 := KS.out _ ((HB.out.below.trans (hbA.mono HB.out.below.size))) ((HB.out.move hbA).out.three.2.2.2.1)
        have HBA := Lib.hid hbA; have HS1 := Lib.hid hs1
        refine ⟨hs1, hK _ _ ?_⟩
        clear hK K hbq hbA hs1
        refine mwalk_spec (by rfl) HS1.out (fun K hK q2 => ?_)
        refine specRes_append rfl _ _ 25 rfl w.heap.size 33 i0 _ 1 4 Try.underlying25 hi0 hz0 hzs hz2 rfl (by decide) (.slice va k vc) k (zs.map (Value.float .f32)) rfl (HB.out.move (below_drewN HBA.out q2)).row ⟨wr.heap.size, 0, none⟩ 1 1 [.float .f32 z] rfl rfl (World.news_of_block (cs := #[.float .f32 z]) (t := 33) (fr := (0, 0)) (heap_alloc_new (wr.drewN q) _)) (by simp [Value.oneCell']) (by unfold maxLen; omega) (by omega) (Nat.le_trans HB.out.below.size (Nat.le_trans HBA.out.size (Nat.le_refl _))) ?_
        intro v' w9 ho9 hg9 hat9 hb9
        obtain ⟨va', vc', rfl, hc9, hf9, hbel9, hnew⟩ := HB.out.push (W := (wr.drewN q).drewN q2) HZL.out (below_drewN (below_drewN (Below.refl _ _) q) q2) ho9 hg9 (by simpa using hat9)
        have hs9 := KS.out w9 hbel9 hc9
        have HS9 := Lib.hid hs9; have HF9 := Lib.hid (And.intro hc9 hf9); have HN9 := Lib.hid hnew
        have HM9 := Lib.hid (map_push HZ.out (f := fun i => fop .add .f32 ((xs.map (cn .f32)).getD i 0) ((ys.map (cn .f32)).getD i 0)) (by rw [HZ2.out, HXY.out.1, HXY.out.2]))
        refine ⟨hs9, hK _ _ ?_⟩
        clear hK K ho9 hg9 hat9 hb9 hc9 hf9 hbel9 hnew hs9 HS1 HBA
        refine mwalk_plain (by rfl) HS9.out (fun K hK W hW => ?_)
        go_simp
        refine hK _ ?_
        clear hK K hW
        refine mwalk_nil (fun q3 => ?_)
        have hc9 : (w9.drewN q3).cell? ⟨ob, 2, none⟩ = some (.slice va k vc) := by simpa using HF9.out.1
        have hf9 : (w9.drewN q3).frozen? ⟨ob, 2, none⟩ = false := by simpa using HF9.out.2
        have HN := Lib.hid (HN9.out.move (below_drewN (Below.refl _ _) q3))
        clear HN9 HS9 HF9 HB HZ HS KS
        go_wp2
        go_roundw
        case rel => exact ⟨k + 1, by go_num, hlt, _, _, _, HN, HM9⟩
        case measure => simp [intOf]; omega
      · have hkn : k = n := by omega
        subst hkn
        obtain ⟨ol, t0, t1, t2, tf⟩ := HB.out.out.three
        obtain ⟨rl, u0, u1, u2, uf⟩ := HB.out.res.three
        have HFIN := Lib.hid HB.out.fin
        clear s2 hbb hP
        go_wp2
        try simp only [Exit.inBlock, Exit.then]
        refine bodyPost_ret (v := .agg #[.int .i64 r, .int .i64 c, .slice va k vc]) (by simp [results, Try.results236, go_sem, u0, u1, u2]) rfl ⟨va, vc, zs, rfl, Lib.hid HFIN.out.1, HZ, HFIN.out.2⟩
end Go.Proofs.Ytpemhiaeiecinaa
/- Sums and products with rows of tensors: the reference. No condition. -/
namespace Go.Proofs.Ytpemhiaeiecinaa
open Go Go.RowKit
set_option linter.unusedVariables false
set_option linter.unusedSimpArgs false
def rowE (op : BinOp) (X Y : List Nat) (c n : Nat) : List Nat := listOf n fun i => fop op .f32 (X.getD i 0) (Y.getD (i % c) 0)
set_option maxHeartbeats 8000000 in
set_option maxRecDepth 100000 in
theorem spec_l02AddRow (w : World) (g1 o1 : Nat) (r : Int) (c : Nat) (a1 a2 : Option Addr) (c1 c2 n : Nat) (xs ys : List Nat) (p0 : w.cell? ⟨g1, o1, none⟩ = some (.int .i64 r)) (p1 : w.cell? ⟨g1, o1 + 1, none⟩ = some (.int .i64 c)) (p2 : w.cell? ⟨g1, o1 + 2, none⟩ = some (.slice a1 n c1))
    (hx : F32s w a1 c1 xs) (hy : F32s w a2 c2 ys) (hxl : xs.length = n) (hyl : ys.length = c) (hn : n ≤ 256) (hcp : 1 ≤ c) (hcq : c ≤ 16) :
    Calls Try.prog 237 #[.pointer (some ⟨g1, o1, none⟩), .slice a2 c c2] w (TenPost r c n (rowE .add (xs.map (cn .f32)) (ys.map (cn .f32)) c n) w) := by
  obtain ⟨i0, hi0, hz0, hzs, hz2⟩ := info_parts info_f32
  have HX := Lib.hid hx; have HXL := Lib.hid hxl
  have HY := Lib.hid hy; have HYL := Lib.hid hyl
  clear hy hyl
  clear hx hxl
  have hg1 := World.block_lt_of_cell? w _ p0
  simp only at hg1
  go_enter Try.func237, Try.ntmps237
  go_upto_region 1 with fail
  obtain ⟨W0, hW0⟩ : ∃ W, W = w.alloc (.cells #[.int .i64 0, .int .i64 0, .slice none 0 0] 27) := ⟨_, rfl⟩
  have k0 : W0.cell? ⟨g1, o1, none⟩ = some (.int .i64 r) := by rw [hW0]; go_simp
  have k1 : W0.cell? ⟨g1, o1 + 1, none⟩ = some (.int .i64 c) := by rw [hW0]; go_simp
  have HW0 := Lib.hid hW0
  have hs0 : W0.heap.size = w.heap.size + 1 := by rw [hW0]; simp
  rw [← hW0]
  have HP := Lib.hid (And.intro p1 (And.intro p2 trivial))
  clear hW0 p0 p1 p2
  go_cut [5] (fun p5 wx => ∃ ob va vc, p5 = .pointer (some ⟨ob, 0, none⟩) ∧ Hid (Bld w wx w.heap.size ob r c va 0 vc []))
  case first =>
    go_region_held3 (fun w' => w'.cell? ⟨g1, o1, none⟩ = some (.int .i64 r) ∧ w'.cell? ⟨g1, o1 + 1, none⟩ = some (.int .i64 c)) (go_keep) (first | fail)
    all_goals (try go_wp2_with fail)
    all_goals go_meet
    · exact ⟨_, _, _, rfl, Lib.hid (by rw [HW0.out]; exact (Bld.start1 w r c).move (Below.drew (Below.refl _ _)))⟩
    · exact ⟨_, _, _, rfl, Lib.hid (by rw [HW0.out]; exact (Bld.start2 w r c).move (Below.drew (Below.refl _ _)))⟩
  case rest =>
    obtain ⟨ob, va, vc, rfl, HB⟩ := hcut
    clear k0 k1 HW0 hs0
    go_wp2
    go_loopw [6] (fun i wt => ∃ k : Nat, i = .int .i64 k ∧ k ≤ n ∧ ∃ va vc zs, Hid (Bld w wt w.heap.size ob r c va k vc zs) ∧ Hid (zs.map (cn .f32) = rowE .add (xs.map (cn .f32)) (ys.map (cn .f32)) c k)) (fun i _ => n - (intOf i).toNat)
    case atStart => exact ⟨0, rfl, Nat.zero_le _, va, vc, [], HB, Lib.hid rfl⟩
    case round =>
      clear HB
      obtain ⟨k, rfl, hk, va, vc, zs, HB, HZ⟩ := hrel
      have hbb := HB.out.below
      have hP := HP.out
      have r1 : wr.cell? ⟨g1, o1 + 1, none⟩ = some (.int .i64 c) := (hbb.cell (p := ⟨g1, o1 + 1, none⟩) hg1).trans hP.1
      have r2 : wr.cell? ⟨g1, o1 + 2, none⟩ = some (.slice a1 n c1) := (hbb.cell (p := ⟨g1, o1 + 2, none⟩) hg1).trans hP.2.1
      by_cases hlt : k < n
      · obtain ⟨b1, f1, rfl, hl1, hc1⟩ := HX.out.spot (k := k) (by rw [HXL.out]; exact hlt)
        have d1 := hc1 k (by rw [HXL.out]; exact hlt)
        have hx2 := cn_getD xs k
        obtain ⟨x, hx⟩ : ∃ x, x = xs.getD k 0 := ⟨_, rfl⟩
        rw [← hx] at d1 hx2
        have hjc : k % c < c := Nat.mod_lt _ hcp
        obtain ⟨b2, f2, rfl, hl2, hc2⟩ := HY.out.spot (k := k % c) (by rw [HYL.out]; exact hjc)
        have d2 := hc2 (k % c) (by rw [HYL.out]; exact hjc)
        have hy2 := cn_getD ys (k % c)
        obtain ⟨y, hy⟩ : ∃ y, y = ys.getD (k % c) 0 := ⟨_, rfl⟩
        rw [← hy] at d2 hy2
        have hm0 : (k : Int).tmod (c : Int) = ((k % c : Nat) : Int) := (Int.ofNat_tmod k c).symm
        have hc0 : ¬ c = 0 := by omega
        obtain ⟨j, hj⟩ : ∃ j, j = k % c := ⟨_, rfl⟩
        rw [← hj] at hjc d2 hm0
        have HJ := Lib.hid hj
        clear hj
        have KS : Hid (∀ W, Below w.heap.size w W → W.cell? ⟨ob, 2, none⟩ = some (.slice va k vc) → W.cell? ⟨g1, o1 + 1, none⟩ = some (.int .i64 c) ∧ W.cell? ⟨g1, o1 + 2, none⟩ = some (.slice (some ⟨b1, f1, none⟩) n c1) ∧ W.cell? ⟨b1, f1 + k, none⟩ = some (.float .f32 x) ∧ W.cell? ⟨b2, f2 + j, none⟩ = some (.float .f32 y) ∧ W.cell? ⟨ob, 2, none⟩ = some (.slice va k vc)) := Lib.hid (fun W hb ho => ⟨(hb.cell (p := ⟨g1, o1 + 1, none⟩) hg1).trans hP.1, (hb.cell (p := ⟨g1, o1 + 2, none⟩) hg1).trans hP.2.1, (hb.cell (p := ⟨b1, f1 + k, none⟩) hl1).trans d1, (hb.cell (p := ⟨b2, f2 + j, none⟩) hl2).trans d2, ho⟩)
        have HXY := Lib.hid (And.intro hx2 hy2)
        have HS := Lib.hid (KS.out wr HB.out.below HB.out.out.three.2.2.2.1)
        clear hc1 hx d1 hx2 hbb hP hc2 hy d2 hy2
        go_upto_region 5 with fail
        clear r1 r2
        refine wp_region_mix 22 [19, 20] (fun W => W.cell? ⟨g1, o1 + 1, none⟩ = some (.int .i64 c) ∧ W.cell? ⟨g1, o1 + 2, none⟩ = some (.slice (some ⟨b1, f1, none⟩) n c1) ∧ W.cell? ⟨b1, f1 + k, none⟩ = some (.float .f32 x) ∧ W.cell? ⟨b2, f2 + j, none⟩ = some (.float .f32 y) ∧ W.cell? ⟨ob, 2, none⟩ = some (.slice va k vc)) (fun _ _ _ => False) (fun _ _ _ _ _ => False) (by kernel_rfl) (by kernel_rfl) HS.out (fun W q h => by simpa using h) ?_
        iterate 18 (refine mwalk_plain (by rfl) HS.out (fun K hK W hW => ?_); obtain ⟨e0, e1, e2, e3, e4⟩ := hW; go_simp; refine hK _ ?_; clear hK K e0 e1 e2 e3 e4)
        refine mwalk_plain (by rfl) HS.out (fun K hK W hW => ?_)
        go_simp
        have hz := cn_fbits .add .f32 x y W
        have hzl := fbits_lt .add .f32 x y W
        generalize fbits .add .f32 x y W = z at hz hzl ⊢
        refine hK _ ?_
        have HZ2 := Lib.hid hz; have HZL := Lib.hid hzl
        clear hK K hW hz hzl
        refine mwalk_spec (by rfl) HS.out (fun K hK q => ?_)
        have hbq := below_drewN (Below.refl wr.heap.size wr) q
        go_simp
        have hbA : Below wr.heap.size wr ((wr.drewN q).alloc (.cells #[.float .f32 z] 33)) := hbq.alloc (by simp) _
        have hs1 := KS.out _ ((HB.out.below.trans (hbA.mono HB.out.below.size))) ((HB.out.move hbA).out.three.2.2.2.1)
        have HBA := Lib.hid hbA; have HS1 := Lib.hid hs1
        refine ⟨hs1, hK _ _ ?_⟩
        clear hK K hbq hbA hs1
        refine mwalk_spec (by rfl) HS1.out (fun K hK q2 => ?_)
        refine specRes_append rfl _ _ 25 rfl w.heap.size 33 i0 _ 1 4 Try.underlying25 hi0 hz0 hzs hz2 rfl (by decide) (.slice va k vc) k (zs.map (Value.float .f32)) rfl (HB.out.move (below_drewN HBA.out q2)).row ⟨wr.heap.size, 0, none⟩ 1 1 [.float .f32 z] rfl rfl (World.news_of_block (cs := #[.float .f32 z]) (t := 33) (fr := (0, 0)) (heap_alloc_new (wr.drewN q) _)) (by simp [Value.oneCell']) (by unfold maxLen; omega) (by omega) (Nat.le_trans HB.out.below.size (Nat.le_trans HBA.out.size (Nat.le_refl _))) ?_
        intro v' w9 ho9 hg9 hat9 hb9
        obtain ⟨va', vc', rfl, hc9, hf9, hbel9, hnew⟩ := HB.out.push (W := (wr.drewN q).drewN q2) HZL.out (below_drewN (below_drewN (Below.refl _ _) q) q2) ho9 hg9 (by simpa using hat9)
        have hs9 := KS.out w9 hbel9 hc9
        have HS9 := Lib.hid hs9; have HF9 := Lib.hid (And.intro hc9 hf9); have HN9 := Lib.hid hnew
        have HM9 := Lib.hid (map_push HZ.out (f := fun i => fop .add .f32 ((xs.map (cn .f32)).getD i 0) ((ys.map (cn .f32)).getD (i % c) 0)) (by rw [HZ2.out]; exact (by show _ = fop .add .f32 ((xs.map (cn .f32)).getD k 0) ((ys.map (cn .f32)).getD (k % c) 0); rw [HXY.out.1, HXY.out.2])))
        refine ⟨hs9, hK _ _ ?_⟩
        clear hK K ho9 hg9 hat9 hb9 hc9 hf9 hbel9 hnew hs9 HS1 HBA
        refine mwalk_plain (by rfl) HS9.out (fun K hK W hW => ?_)
        go_simp
        refine hK _ ?_
        clear hK K hW
        refine mwalk_nil (fun q3 => ?_)
        have hc9 : (w9.drewN q3).cell? ⟨ob, 2, none⟩ = some (.slice va k vc) := by simpa using HF9.out.1
        have hf9 : (w9.drewN q3).frozen? ⟨ob, 2, none⟩ = false := by simpa using HF9.out.2
        have HN := Lib.hid (HN9.out.move (below_drewN (Below.refl _ _) q3))
        clear HN9 HS9 HF9 HB HZ HS KS
        go_wp2
        go_roundw
        case rel => exact ⟨k + 1, by go_num, hlt, _, _, _, HN, HM9⟩
        case measure => simp [intOf]; omega
      · have hkn : k = n := by omega
        subst hkn
        obtain ⟨ol, t0, t1, t2, tf⟩ := HB.out.out.three
        obtain ⟨rl, u0, u1, u2, uf⟩ := HB.out.res.three
        have HFIN := Lib.hid HB.out.fin
        clear hbb hP r1
        go_wp2
        try simp only [Exit.inBlock, Exit.then]
        refine bodyPost_ret (v := .agg #[.int .i64 r, .int .i64 c, .slice va k vc]) (by simp [results, Try.results237, go_sem, u0, u1, u2]) rfl ⟨va, vc, zs, rfl, Lib.hid HFIN.out.1, HZ, HFIN.out.2⟩
set_option maxHeartbeats 8000000 in
set_option maxRecDepth 100000 in
theorem spec_l02MulRow (w : World) (g1 o1 : Nat) (r : Int) (c : Nat) (a1 a2 : Option Addr) (c1 c2 n : Nat) (xs ys : List Nat) (p0 : w.cell? ⟨g1, o1, none⟩ = some (.int .i64 r)) (p1 : w.cell? ⟨g1, o1 + 1, none⟩ = some (.int .i64 c)) (p2 : w.cell? ⟨g1, o1 + 2, none⟩ = some (.slice a1 n c1))
    (hx : F32s w a1 c1 xs) (hy : F32s w a2 c2 ys) (hxl : xs.length = n) (hyl : ys.length = c) (hn : n ≤ 256) (hcp : 1 ≤ c) (hcq : c ≤ 16) :
    Calls Try.prog 232 #[.pointer (some ⟨g1, o1, none⟩), .slice a2 c c2] w (TenPost r c n (rowE .mul (xs.map (cn .f32)) (ys.map (cn .f32)) c n) w) := by
  obtain ⟨i0, hi0, hz0, hzs, hz2⟩ := info_parts info_f32
  have HX := Lib.hid hx; have HXL := Lib.hid hxl
  have HY := Lib.hid hy; have HYL := Lib.hid hyl
  clear hy hyl
  clear hx hxl
  have hg1 := World.block_lt_of_cell? w _ p0
  simp only at hg1
  go_enter Try.func232, Try.ntmps232
  go_upto_region 1 with fail
  obtain ⟨W0, hW0⟩ : ∃ W, W = w.alloc (.cells #[.int .i64 0, .int .i64 0, .slice none 0 0] 27) := ⟨_, rfl⟩
  have k0 : W0.cell? ⟨g1, o1, none⟩ = some (.int .i64 r) := by rw [hW0]; go_simp
  have k1 : W0.cell? ⟨g1, o1 + 1, none⟩ = some (.int .i64 c) := by rw [hW0]; go_simp
  have HW0 := Lib.hid hW0
  have hs0 : W0.heap.size = w.heap.size + 1 := by rw [hW0]; simp
  rw [← hW0]
  have HP := Lib.hid (And.intro p1 (And.intro p2 trivial))
  clear hW0 p0 p1 p2
  go_cut [5] (fun p5 wx => ∃ ob va vc, p5 = .pointer (some ⟨ob, 0, none⟩) ∧ Hid (Bld w wx w.heap.size ob r c va 0 vc []))
  case first =>
    go_region_held3 (fun w' => w'.cell? ⟨g1, o1, none⟩ = some (.int .i64 r) ∧ w'.cell? ⟨g1, o1 + 1, none⟩ = some (.int .i64 c)) (go_keep) (first | fail)
    all_goals (try go_wp2_with fail)
    all_goals go_meet
    · exact ⟨_, _, _, rfl, Lib.hid (by rw [HW0.out]; exact (Bld.start1 w r c).move (Below.drew (Below.refl _ _)))⟩
    · exact ⟨_, _, _, rfl, Lib.hid (by rw [HW0.out]; exact (Bld.start2 w r c).move (Below.drew (Below.refl _ _)))⟩
  case rest =>
    obtain ⟨ob, va, vc, rfl, HB⟩ := hcut
    clear k0 k1 HW0 hs0
    go_wp2
    go_loopw [6] (fun i wt => ∃ k : Nat, i = .int .i64 k ∧ k ≤ n ∧ ∃ va vc zs, Hid (Bld w wt w.heap.size ob r c va k vc zs) ∧ Hid (zs.map (cn .f32) = rowE .mul (xs.map (cn .f32)) (ys.map (cn .f32)) c k)) (fun i _ => n - (intOf i).toNat)
    case atStart => exact ⟨0, rfl, Nat.zero_le _, va, vc, [], HB, Lib.hid rfl⟩
    case round =>
      clear HB
      obtain ⟨k, rfl, hk, va, vc, zs, HB, HZ⟩ := hrel
      have hbb := HB.out.below
      have hP := HP.out
      have r1 : wr.cell? ⟨g1, o1 + 1, none⟩ = some (.int .i64 c) := (hbb.cell (p := ⟨g1, o1 + 1, none⟩) hg1).trans hP.1
      have r2 : wr.cell? ⟨g1, o1 + 2, none⟩ = some (.slice a1 n c1) := (hbb.cell (p := ⟨g1, o1 + 2, none⟩) hg1).trans hP.2.1
      by_cases hlt : k < n
      · obtain ⟨b1, f1, rfl, hl1, hc1⟩ := HX.out.spot (k := k) (by rw [HXL.out]; exact hlt)
        have d1 := hc1 k (by rw [HXL.out]; exact hlt)
        have hx2 := cn_getD xs k
        obtain ⟨x, hx⟩ : ∃ x, x = xs.getD k 0 := ⟨_, rfl⟩
        rw [← hx] at d1 hx2
        have hjc : k % c < c := Nat.mod_lt _ hcp
        obtain ⟨b2, f2, rfl, hl2, hc2⟩ := HY.out.spot (k := k % c) (by rw [HYL.out]; exact hjc)
        have d2 := hc2 (k % c) (by rw [HYL.out]; exact hjc)
        have hy2 := cn_getD ys (k % c)
        obtain ⟨y, hy⟩ : ∃ y, y = ys.getD (k % c) 0 := ⟨_, rfl⟩
        rw [← hy] at d2 hy2
        have hm0 : (k : Int).tmod (c : Int) = ((k % c : Nat) : Int) := (Int.ofNat_tmod k c).symm
        have hc0 : ¬ c = 0 := by omega
        obtain ⟨j, hj⟩ : ∃ j, j = k % c := ⟨_, rfl⟩
        rw [← hj] at hjc d2 hm0
        have HJ := Lib.hid hj
        clear hj
        have KS : Hid (∀ W, Below w.heap.size w W → W.cell? ⟨ob, 2, none⟩ = some (.slice va k vc) → W.cell? ⟨g1, o1 + 1, none⟩ = some (.int .i64 c) ∧ W.cell? ⟨g1, o1 + 2, none⟩ = some (.slice (some ⟨b1, f1, none⟩) n c1) ∧ W.cell? ⟨b1, f1 + k, none⟩ = some (.float .f32 x) ∧ W.cell? ⟨b2, f2 + j, none⟩ = some (.float .f32 y) ∧ W.cell? ⟨ob, 2, none⟩ = some (.slice va k vc)) := Lib.hid (fun W hb ho => ⟨(hb.cell (p := ⟨g1, o1 + 1, none⟩) hg1).trans hP.1, (hb.cell (p := ⟨g1, o1 + 2, none⟩) hg1).trans hP.2.1, (hb.cell (p := ⟨b1, f1 + k, none⟩) hl1).trans d1, (hb.cell (p := ⟨b2, f2 + j, none⟩) hl2).trans d2, ho⟩)
        have HXY := Lib.hid (And.intro hx2 hy2)
        have HS := Lib.hid (KS.out wr HB.out.below HB.out.out.three.2.2.2.1)
        clear hc1 hx d1 hx2 hbb hP hc2 hy d2 hy2
        go_upto_region 5 with fail
        clear r1 r2
        refine wp_region_mix 22 [19, 20] (fun W => W.cell? ⟨g1, o1 + 1, none⟩ = some (.int .i64 c) ∧ W.cell? ⟨g1, o1 + 2, none⟩ = some (.slice (some ⟨b1, f1, none⟩) n c1) ∧ W.cell? ⟨b1, f1 + k, none⟩ = some (.float .f32 x) ∧ W.cell? ⟨b2, f2 + j, none⟩ = some (.float .f32 y) ∧ W.cell? ⟨ob, 2, none⟩ = some (.slice va k vc)) (fun _ _ _ => False) (fun _ _ _ _ _ => False) (by kernel_rfl) (by kernel_rfl) HS.out (fun W q h => by simpa using h) ?_
        iterate 18 (refine mwalk_plain (by rfl) HS.out (fun K hK W hW => ?_); obtain ⟨e0, e1, e2, e3, e4⟩ := hW; go_simp; refine hK _ ?_; clear hK K e0 e1 e2 e3 e4)
        refine mwalk_plain (by rfl) HS.out (fun K hK W hW => ?_)
        go_simp
        have hz := cn_fbits .mul .f32 x y W
        have hzl := fbits_lt .mul .f32 x y W
        generalize fbits .mul .f32 x y W = z at hz hzl ⊢
        refine hK _ ?_
        have HZ2 := Lib.hid hz; have HZL := Lib.hid hzl
        clear hK K hW hz hzl
        refine mwalk_spec (by rfl) HS.out (fun K hK q => ?_)
        have hbq := below_drewN (Below.refl wr.heap.size wr) q
        go_simp
        have hbA : Below wr.heap.size wr ((wr.drewN q).alloc (.cells #[.float .f32 z] 33)) := hbq.alloc (by simp) _
        have hs1 := KS.out _ ((HB.out.below.trans (hbA.mono HB.out.below.size))) ((HB.out.move hbA).out.three.2.2.2.1)
        have HBA := Lib.hid hbA; have HS1 := Lib.hid hs1
        refine ⟨hs1, hK _ _ ?_⟩
        clear hK K hbq hbA hs1
        refine mwalk_spec (by rfl) HS1.out (fun K hK q2 => ?_)
        refine specRes_append rfl _ _ 25 rfl w.heap.size 33 i0 _ 1 4 Try.underlying25 hi0 hz0 hzs hz2 rfl (by decide) (.slice va k vc) k (zs.map (Value.float .f32)) rfl (HB.out.move (below_drewN HBA.out q2)).row ⟨wr.heap.size, 0, none⟩ 1 1 [.float .f32 z] rfl rfl (World.news_of_block (cs := #[.float .f32 z]) (t := 33) (fr := (0, 0)) (heap_alloc_new (wr.drewN q) _)) (by simp [Value.oneCell']) (by unfold maxLen; omega) (by omega) (Nat.le_trans HB.out.below.size (Nat.le_trans HBA.out.size (Nat.le_refl _))) ?_
        intro v' w9 ho9 hg9 hat9 hb9
        obtain ⟨va', vc', rfl, hc9, hf9, hbel9, hnew⟩ := HB.out.push (W := (wr.drewN q).drewN q2) HZL.out (below_drewN (below_drewN (Below.refl _ _) q) q2) ho9 hg9 (by simpa using hat9)
        have hs9 := KS.out w9 hbel9 hc9
        have HS9 := Lib.hid hs9; have HF9 := Lib.hid (And.intro hc9 hf9); have HN9 := Lib.hid hnew
        have HM9 := Lib.hid (map_push HZ.out (f := fun i => fop .mul .f32 ((xs.map (cn .f32)).getD i 0) ((ys.map (cn .f32)).getD (i % c) 0)) (by rw [HZ2.out]; exact (by show _ = fop .mul .f32 ((xs.map (cn .f32)).getD k 0) ((ys.map (cn .f32)).getD (k % c) 0); rw [HXY.out.1, HXY.out.2])))
        refine ⟨hs9, hK _ _ ?_⟩
        clear hK K ho9 hg9 hat9 hb9 hc9 hf9 hbel9 hnew hs9 HS1 HBA
        refine mwalk_plain (by rfl) HS9.out (fun K hK W hW => ?_)
        go_simp
        refine hK _ ?_
        clear hK K hW
        refine mwalk_nil (fun q3 => ?_)
        have hc9 : (w9.drewN q3).cell? ⟨ob, 2, none⟩ = some (.slice va k vc) := by simpa using HF9.out.1
        have hf9 : (w9.drewN q3).frozen? ⟨ob, 2, none⟩ = false := by simpa using HF9.out.2
        have HN := Lib.hid (HN9.out.move (below_drewN (Below.refl _ _) q3))
        clear HN9 HS9 HF9 HB HZ HS KS
        go_wp2
        go_roundw
        case rel => exact ⟨k + 1, by go_num, hlt, _, _, _, HN, HM9⟩
        case measure => simp [intOf]; omega
      · have hkn : k = n := by omega
        subst hkn
        obtain ⟨ol, t0, t1, t2, tf⟩ := HB.out.out.three
        obtain ⟨rl, u0, u1, u2, uf⟩ := HB.out.res.three
        have HFIN := Lib.hid HB.out.fin
        clear hbb hP r1
        go_wp2
        try simp only [Exit.inBlock, Exit.then]
        refine bodyPost_ret (v := .agg #[.int .i64 r, .int .i64 c, .slice va k vc]) (by simp [results, Try.results232, go_sem, u0, u1, u2]) rfl ⟨va, vc, zs, rfl, Lib.hid HFIN.out.1, HZ, HFIN.out.2⟩
end Go.Proofs.Ytpemhiaeiecinaa
/- Products with numbers of tensors: the reference. No condition. -/
namespace Go.Proofs.Ytpemhiaeiecinaa
open Go Go.RowKit
set_option linter.unusedVariables false
set_option linter.unusedSimpArgs false
def scaE (X : List Nat) (y n : Nat) : List Nat := listOf n fun i => fop .mul .f32 (X.getD i 0) y
set_option maxHeartbeats 8000000 in
set_option maxRecDepth 100000 in
theorem spec_l02Scale (w : World) (g1 o1 : Nat) (r c : Int) (a1 : Option Addr) (c1 n : Nat) (xs : List Nat) (y : Nat) (p0 : w.cell? ⟨g1, o1, none⟩ = some (.int .i64 r)) (p1 : w.cell? ⟨g1, o1 + 1, none⟩ = some (.int .i64 c)) (p2 : w.cell? ⟨g1, o1 + 2, none⟩ = some (.slice a1 n c1))
    (hx : F32s w a1 c1 xs) (hxl : xs.length = n) (hn : n ≤ 256) :
    Calls Try.prog 233 #[.pointer (some ⟨g1, o1, none⟩), .float .f32 y] w (TenPost r c n (scaE (xs.map (cn .f32)) (cn .f32 y) n) w) := by
  obtain ⟨i0, hi0, hz0, hzs, hz2⟩ := info_parts info_f32
  have HX := Lib.hid hx; have HXL := Lib.hid hxl
  clear hx hxl
  have hg1 := World.block_lt_of_cell? w _ p0
  simp only at hg1
  go_enter Try.func233, Try.ntmps233
  go_upto_region 1 with fail
  obtain ⟨W0, hW0⟩ : ∃ W, W = w.alloc (.cells #[.int .i64 0, .int .i64 0, .slice none 0 0] 27) := ⟨_, rfl⟩
  have k0 : W0.cell? ⟨g1, o1, none⟩ = some (.int .i64 r) := by rw [hW0]; go_simp
  have k1 : W0.cell? ⟨g1, o1 + 1, none⟩ = some (.int .i64 c) := by rw [hW0]; go_simp
  have HW0 := Lib.hid hW0
  have hs0 : W0.heap.size = w.heap.size + 1 := by rw [hW0]; simp
  rw [← hW0]
  have HP := Lib.hid (And.intro p1 (And.intro p2 trivial))
  clear hW0 p0 p1 p2
  go_cut [5] (fun p5 wx => ∃ ob va vc, p5 = .pointer (some ⟨ob, 0, none⟩) ∧ Hid (Bld w wx w.heap.size ob r c va 0 vc []))
  case first =>
    go_region_held3 (fun w' => w'.cell? ⟨g1, o1, none⟩ = some (.int .i64 r) ∧ w'.cell? ⟨g1, o1 + 1, none⟩ = some (.int .i64 c)) (go_keep) (first | fail)
    all_goals (try go_wp2_with fail)
    all_goals go_meet
    · exact ⟨_, _, _, rfl, Lib.hid (by rw [HW0.out]; exact (Bld.start1 w r c).move (Below.drew (Below.refl _ _)))⟩
    · exact ⟨_, _, _, rfl, Lib.hid (by rw [HW0.out]; exact (Bld.start2 w r c).move (Below.drew (Below.refl _ _)))⟩
  case rest =>
    obtain ⟨ob, va, vc, rfl, HB⟩ := hcut
    clear k0 k1 HW0 hs0
    go_wp2
    go_loopw [6] (fun i wt => ∃ k : Nat, i = .int .i64 k ∧ k ≤ n ∧ ∃ va vc zs, Hid (Bld w wt w.heap.size ob r c va k vc zs) ∧ Hid (zs.map (cn .f32) = scaE (xs.map (cn .f32)) (cn .f32 y) k)) (fun i _ => n - (intOf i).toNat)
    case atStart => exact ⟨0, rfl, Nat.zero_le _, va, vc, [], HB, Lib.hid rfl⟩
    case round =>
      clear HB
      obtain ⟨k, rfl, hk, va, vc, zs, HB, HZ⟩ := hrel
      have hbb := HB.out.below
      have hP := HP.out
      have r1 : wr.cell? ⟨g1, o1 + 1, none⟩ = some (.int .i64 c) := (hbb.cell (p := ⟨g1, o1 + 1, none⟩) hg1).trans hP.1
      have r2 : wr.cell? ⟨g1, o1 + 2, none⟩ = some (.slice a1 n c1) := (hbb.cell (p := ⟨g1, o1 + 2, none⟩) hg1).trans hP.2.1
      by_cases hlt : k < n
      · obtain ⟨b1, f1, rfl, hl1, hc1⟩ := HX.out.spot (k := k) (by rw [HXL.out]; exact hlt)
        have d1 := hc1 k (by rw [HXL.out]; exact hlt)
        have hx2 := cn_getD xs k
        obtain ⟨x, hx⟩ : ∃ x, x = xs.getD k 0 := ⟨_, rfl⟩
        rw [← hx] at d1 hx2
        have KS : Hid (∀ W, Below w.heap.size w W → W.cell? ⟨ob, 2, none⟩ = some (.slice va k vc) → W.cell? ⟨g1, o1 + 1, none⟩ = some (.int .i64 c) ∧ W.cell? ⟨g1, o1 + 2, none⟩ = some (.slice (some ⟨b1, f1, none⟩) n c1) ∧ W.cell? ⟨b1, f1 + k, none⟩ = some (.float .f32 x) ∧ W.cell? ⟨ob, 2, none⟩ = some (.slice va k vc)) := Lib.hid (fun W hb ho => ⟨(hb.cell (p := ⟨g1, o1 + 1, none⟩) hg1).trans hP.1, (hb.cell (p := ⟨g1, o1 + 2, none⟩) hg1).trans hP.2.1, (hb.cell (p := ⟨b1, f1 + k, none⟩) hl1).trans d1, ho⟩)
        have HXY := Lib.hid (And.intro hx2 trivial)
        have HS := Lib.hid (KS.out wr HB.out.below HB.out.out.three.2.2.2.1)
        clear hc1 hx d1 hx2 hbb hP 
        go_upto_region 5 with fail
        clear r1 r2
        refine wp_region_mix 14 [11, 12] (fun W => W.cell? ⟨g1, o1 + 1, none⟩ = some (.int .i64 c) ∧ W.cell? ⟨g1, o1 + 2, none⟩ = some (.slice (some ⟨b1, f1, none⟩) n c1) ∧ W.cell? ⟨b1, f1 + k, none⟩ = some (.float .f32 x) ∧ W.cell? ⟨ob, 2, none⟩ = some (.slice va k vc)) (fun _ _ _ => False) (fun _ _ _ _ _ => False) (by kernel_rfl) (by kernel_rfl) HS.out (fun W q h => by simpa using h) ?_
        iterate 10 (refine mwalk_plain (by rfl) HS.out (fun K hK W hW => ?_); obtain ⟨e0, e1, e2, e3⟩ := hW; go_simp; refine hK _ ?_; clear hK K e0 e1 e2 e3)
        refine mwalk_plain (by rfl) HS.out (fun K hK W hW => ?_)
        go_simp
        have hz := cn_fbits .mul .f32 x y W
        have hzl := fbits_lt .mul .f32 x y W
        generalize fbits .mul .f32 x y W = z at hz hzl ⊢
        refine hK _ ?_
        have HZ2 := Lib.hid hz; have HZL := Lib.hid hzl
        clear hK K hW hz hzl
        refine mwalk_spec (by rfl) HS.out (fun K hK q => ?_)
        have hbq := below_drewN (Below.refl wr.heap.size wr) q
        go_simp
        have hbA : Below wr.heap.size wr ((wr.drewN q).alloc (.cells #[.float .f32 z] 33)) := hbq.alloc (by simp) _
        have hs1 := KS.out _ ((HB.out.below.trans (hbA.mono HB.out.below.size))) ((HB.out.move hbA).out.three.2.2.2.1)
        have HBA := Lib.hid hbA; have HS1 := Lib.hid hs1
        refine ⟨hs1, hK _ _ ?_⟩
        clear hK K hbq hbA hs1
        refine mwalk_spec (by rfl) HS1.out (fun K hK q2 => ?_)
        refine specRes_append rfl _ _ 25 rfl w.heap.size 33 i0 _ 1 4 Try.underlying25 hi0 hz0 hzs hz2 rfl (by decide) (.slice va k vc) k (zs.map (Value.float .f32)) rfl (HB.out.move (below_drewN HBA.out q2)).row ⟨wr.heap.size, 0, none⟩ 1 1 [.float .f32 z] rfl rfl (World.news_of_block (cs := #[.float .f32 z]) (t := 33) (fr := (0, 0)) (heap_alloc_new (wr.drewN q) _)) (by simp [Value.oneCell']) (by unfold maxLen; omega) (by omega) (Nat.le_trans HB.out.below.size (Nat.le_trans HBA.out.size (Nat.le_refl _))) ?_
        intro v' w9 ho9 hg9 hat9 hb9
        obtain ⟨va', vc', rfl, hc9, hf9, hbel9, hnew⟩ := HB.out.push (W := (wr.drewN q).drewN q2) HZL.out (below_drewN (below_drewN (Below.refl _ _) q) q2) ho9 hg9 (by simpa using hat9)
        have hs9 := KS.out w9 hbel9 hc9
        have HS9 := Lib.hid hs9; have HF9 := Lib.hid (And.intro hc9 hf9); have HN9 := Lib.hid hnew
        have HM9 := Lib.hid (map_push HZ.out (f := fun i => fop .mul .f32 ((xs.map (cn .f32)).getD i 0) (cn .f32 y)) (by rw [HZ2.out]; exact (by rw [HXY.out.1])))
        refine ⟨hs9, hK _ _ ?_⟩
        clear hK K ho9 hg9 hat9 hb9 hc9 hf9 hbel9 hnew hs9 HS1 HBA
        refine mwalk_plain (by rfl) HS9.out (fun K hK W hW => ?_)
        go_simp
        refine hK _ ?_
        clear hK K hW
        refine mwalk_nil (fun q3 => ?_)
        have hc9 : (w9.drewN q3).cell? ⟨ob, 2, none⟩ = some (.slice va k vc) := by simpa using HF9.out.1
        have hf9 : (w9.drewN q3).frozen? ⟨ob, 2, none⟩ = false := by simpa using HF9.out.2
        have HN := Lib.hid (HN9.out.move (below_drewN (Below.refl _ _) q3))
        clear HN9 HS9 HF9 HB HZ HS KS
        go_wp2
        go_roundw
        case rel => exact ⟨k + 1, by go_num, hlt, _, _, _, HN, HM9⟩
        case measure => simp [intOf]; omega
      · have hkn : k = n := by omega
        subst hkn
        obtain ⟨ol, t0, t1, t2, tf⟩ := HB.out.out.three
        obtain ⟨rl, u0, u1, u2, uf⟩ := HB.out.res.three
        have HFIN := Lib.hid HB.out.fin
        clear hbb hP r1
        go_wp2
        try simp only [Exit.inBlock, Exit.then]
        refine bodyPost_ret (v := .agg #[.int .i64 r, .int .i64 c, .slice va k vc]) (by simp [results, Try.results233, go_sem, u0, u1, u2]) rfl ⟨va, vc, zs, rfl, Lib.hid HFIN.out.1, HZ, HFIN.out.2⟩
end Go.Proofs.Ytpemhiaeiecinaa
/- What is greater than 0; equal numbers: the reference. No condition. -/
namespace Go.Proofs.Ytpemhiaeiecinaa
open Go Go.RowKit
set_option linter.unusedVariables false
set_option linter.unusedSimpArgs false
def relE (X : List Nat) (n : Nat) : List Nat := listOf n fun i => reluW (X.getD i 0)
theorem cn_relu (x : Nat) : cn .f32 (reluW x) = reluW (cn .f32 x) := by
  have h0 : cn .f32 0 = 0 := cn_zero
  have e : FloatKind.f32.format.order (cn .f32 x) 0 = FloatKind.f32.format.order x 0 := by
    rw [← order_cn .f32 x 0, h0]
  unfold reluW
  rw [e, isN_cn]
  split
  · rfl
  · exact h0
theorem relu_split (x : Nat) : ∃ b1 b2, (FloatKind.f32.format.order x 0 == some .lt) = b1 ∧ (FloatKind.f32.format.order x 0 == some .eq) = b2 ∧ reluW x = if (b1 || b2) = true then 0 else x := by
  refine ⟨_, _, rfl, rfl, ?_⟩
  unfold reluW
  cases h : FloatKind.f32.format.order x 0 with
  | none => rw [isN_none h]; rfl
  | some o =>
    have hn : isN .f32 x = false := by
      cases e : isN .f32 x with
      | false => rfl
      | true => rw [order_none (.inl e)] at h; cases h
    rw [hn]
    cases o <;> rfl
set_option maxHeartbeats 8000000 in
set_option maxRecDepth 100000 in
theorem spec_l02Relu (w : World) (g1 o1 : Nat) (r c : Int) (a1 : Option Addr) (c1 n : Nat) (xs : List Nat) (p0 : w.cell? ⟨g1, o1, none⟩ = some (.int .i64 r)) (p1 : w.cell? ⟨g1, o1 + 1, none⟩ = some (.int .i64 c)) (p2 : w.cell? ⟨g1, o1 + 2, none⟩ = some (.slice a1 n c1))
    (hx : F32s w a1 c1 xs) (hxl : xs.length = n) (hn : n ≤ 256) :
    Calls Try.prog 238 #[.pointer (some ⟨g1, o1, none⟩)] w (TenPost r c n (relE (xs.map (cn .f32)) n) w) := by
  obtain ⟨i0, hi0, hz0, hzs, hz2⟩ := info_parts info_f32
  have HX := Lib.hid hx; have HXL := Lib.hid hxl
  clear hx hxl
  have hg1 := World.block_lt_of_cell? w _ p0
  simp only at hg1
  go_enter Try.func238, Try.ntmps238
  go_upto_region 1 with fail
  obtain ⟨W0, hW0⟩ : ∃ W, W = w.alloc (.cells #[.int .i64 0, .int .i64 0, .slice none 0 0] 27) := ⟨_, rfl⟩
  have k0 : W0.cell? ⟨g1, o1, none⟩ = some (.int .i64 r) := by rw [hW0]; go_simp
  have k1 : W0.cell? ⟨g1, o1 + 1, none⟩ = some (.int .i64 c) := by rw [hW0]; go_simp
  have HW0 := Lib.hid hW0
  have hs0 : W0.heap.size = w.heap.size + 1 := by rw [hW0]; simp
  rw [← hW0]
  have HP := Lib.hid (And.intro p1 (And.intro p2 trivial))
  clear hW0 p0 p1 p2
  go_cut [3] (fun p5 wx => ∃ ob va vc, p5 = .pointer (some ⟨ob, 0, none⟩) ∧ Hid (Bld w wx w.heap.size ob r c va 0 vc []))
  case first =>
    go_region_held3 (fun w' => w'.cell? ⟨g1, o1, none⟩ = some (.int .i64 r) ∧ w'.cell? ⟨g1, o1 + 1, none⟩ = some (.int .i64 c)) (go_keep) (first | fail)
    all_goals (try go_wp2_with fail)
    all_goals go_meet
    · exact ⟨_, _, _, rfl, Lib.hid (by rw [HW0.out]; exact (Bld.start1 w r c).move (Below.drew (Below.refl _ _)))⟩
    · exact ⟨_, _, _, rfl, Lib.hid (by rw [HW0.out]; exact (Bld.start2 w r c).move (Below.drew (Below.refl _ _)))⟩
  case rest =>
    obtain ⟨ob, va, vc, rfl, HB⟩ := hcut
    clear k0 k1 HW0 hs0
    go_wp2
    go_loopw [4] (fun i wt => ∃ k : Nat, i = .int .i64 k ∧ k ≤ n ∧ ∃ va vc zs, Hid (Bld w wt w.heap.size ob r c va k vc zs) ∧ Hid (zs.map (cn .f32) = relE (xs.map (cn .f32)) k)) (fun i _ => n - (intOf i).toNat)
    case atStart => exact ⟨0, rfl, Nat.zero_le _, va, vc, [], HB, Lib.hid rfl⟩
    case round =>
      clear HB
      obtain ⟨k, rfl, hk, va, vc, zs, HB, HZ⟩ := hrel
      have hbb := HB.out.below
      have hP := HP.out
      have r1 : wr.cell? ⟨g1, o1 + 1, none⟩ = some (.int .i64 c) := (hbb.cell (p := ⟨g1, o1 + 1, none⟩) hg1).trans hP.1
      have r2 : wr.cell? ⟨g1, o1 + 2, none⟩ = some (.slice a1 n c1) := (hbb.cell (p := ⟨g1, o1 + 2, none⟩) hg1).trans hP.2.1
      by_cases hlt : k < n
      · obtain ⟨b1, f1, rfl, hl1, hc1⟩ := HX.out.spot (k := k) (by rw [HXL.out]; exact hlt)
        have d1 := hc1 k (by rw [HXL.out]; exact hlt)
        have hx2 := cn_getD xs k
        have hxb := HX.out.lt _ (mem_getD (k := k) (by rw [HXL.out]; exact hlt))
        obtain ⟨x, hx⟩ : ∃ x, x = xs.getD k 0 := ⟨_, rfl⟩
        rw [← hx] at d1 hx2 hxb
        have HXB := Lib.hid hxb; clear hxb
        have HXY := Lib.hid hx2
        obtain ⟨ol, t0, t1, t2, tf⟩ := HB.out.out.three
        have d1 := (HB.out.below.cell (p := ⟨b1, f1 + k, none⟩) hl1).trans d1
        have HRW := Lib.hid HB.out.row
        clear hc1 hx hx2 hbb hP r1 t0 t1
        have d2 : wr.cell? ⟨b1, f1 + k, none⟩ = some (.float .f32 x) := d1
        obtain ⟨y1, y2, e1, e2, e3⟩ := relu_split x
        have HRL := Lib.hid e3
        have HXL2 : Hid (x < 4294967296) := Lib.hid (by have := HXB.out; exact this)
        clear e3 d1
        cases y1 <;> cases y2
        all_goals
          obtain ⟨z, hz⟩ : ∃ z, z = reluW x := ⟨_, rfl⟩
          have hzl : z < 4294967296 := by rw [hz]; exact reluW_lt HXL2.out
          have HZ2 : Hid (cn .f32 z = reluW ((xs.map (cn .f32)).getD k 0)) := Lib.hid (by rw [hz, HXY.out]; exact cn_relu x)
          have hrl := HRL.out
          rw [← hz] at hrl
          simp only [Bool.or_self, Bool.or_true, Bool.true_or, Bool.false_or, if_true, if_false, Bool.false_eq_true] at hrl
          subst hrl
          have HZL := Lib.hid hzl
          clear hz hzl
          go_wp2_with (at_builtin; refine wp_appA rfl _ _ 25 rfl w.heap.size i0 _ 1 4 Try.underlying25 hi0 hz0 hzs hz2 rfl (by decide) rfl (by intro u hu; simp at hu; subst hu; rfl) _ _ _ rfl HRW.out (by go_simp) ?c3 ?c4 ?c5 ?_)
          case c3 => unfold maxLen; omega
          case c4 => omega
          case c5 => exact HB.out.below.size
          intro v' w9 ho9 hg9 hat9 hb9 hs9
          obtain ⟨va', vc', rfl, hc9, hf9, hbel9, hnew⟩ := HB.out.push (W := wr) HZL.out (Below.refl _ _) ho9 hg9 (by simpa using hat9)
          have HN := Lib.hid hnew
          have HM9 := Lib.hid (map_push HZ.out (f := fun i => reluW ((xs.map (cn .f32)).getD i 0)) HZ2.out)
          clear ho9 hg9 hat9 hb9 hbel9 hnew HB HZ HRW
          go_wp2
          go_roundw
          case rel => exact ⟨k + 1, by go_num, hlt, _, _, _, HN, HM9⟩
          case measure => simp [intOf]; omega
      · have hkn : k = n := by omega
        subst hkn
        obtain ⟨ol, t0, t1, t2, tf⟩ := HB.out.out.three
        obtain ⟨rl, u0, u1, u2, uf⟩ := HB.out.res.three
        have HFIN := Lib.hid HB.out.fin
        clear hbb hP r1
        go_wp2
        try simp only [Exit.inBlock, Exit.then]
        refine bodyPost_ret (v := .agg #[.int .i64 r, .int .i64 c, .slice va k vc]) (by simp [results, Try.results238, go_sem, u0, u1, u2]) rfl ⟨va, vc, zs, rfl, Lib.hid HFIN.out.1, HZ, HFIN.out.2⟩
end Go.Proofs.Ytpemhiaeiecinaa
