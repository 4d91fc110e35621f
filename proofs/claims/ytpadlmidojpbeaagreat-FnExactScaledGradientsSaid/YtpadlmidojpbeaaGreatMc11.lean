/- Joined texts 11: Dsc. Each is told at its own head. No condition. -/
import Derived.Test.YtpadlmidojpbeaaGreatMc5
import Derived.Test.YtpadlmidojpbeaaGreatMc8
import Derived.Test.YtpadlmidojpbeaaGreatMc10
set_option linter.unusedVariables false
set_option linter.unusedSimpArgs false
/- x -/
namespace Go.Proofs.YtpadlmidojpbeaaGreat
open Go Go.RowKit
theorem F32s.uniq {w : World} {a : Option Addr} {k : Nat} {xs ys : List Nat} (h1 : F32s w a k xs) (h2 : F32s w a k ys) (hl : xs.length = ys.length) : xs = ys := by
  refine List.ext_getElem hl fun i hi hj => ?_
  obtain ⟨b, o, e, _, hc⟩ := h1.spot (k := i) hi
  obtain ⟨b2, o2, e2, _, hc2⟩ := h2.spot (k := i) hj
  rw [e] at e2
  cases e2
  have e3 := (hc i hi).symm.trans (hc2 i hj)
  rw [List.getD_eq_getElem?_getD, List.getD_eq_getElem?_getD, List.getElem?_eq_getElem hi, List.getElem?_eq_getElem hj] at e3
  simpa using e3
structure Dsc where
  r : Nat
  c : Nat
  a : Option Addr
  k : Nat
  xs : List Nat
def Dsc.val (t : Dsc) : Value := .agg #[.int .i64 t.r, .int .i64 t.c, .slice t.a t.xs.length t.k]
def Dsc.cells (t : Dsc) : List Value := [.int .i64 t.r, .int .i64 t.c, .slice t.a t.xs.length t.k]
def Dsc.can (t : Dsc) : TenP := ⟨t.r, t.c, t.xs.map (cn .f32)⟩
structure Dsc.At (t : Dsc) (w : World) : Prop where
  see : F32s w t.a t.k t.xs
  r1 : 1 ≤ t.r
  r2 : t.r ≤ 16
  c1 : 1 ≤ t.c
  c2 : t.c ≤ 16
  len : t.xs.length = t.r * t.c
theorem Dsc.At.below {t : Dsc} {w w' : World} (h : t.At w) (hb : Below w.heap.size w w') : t.At w' := ⟨h.see.below hb, h.r1, h.r2, h.c1, h.c2, h.len⟩
theorem Dsc.At.le {t : Dsc} {w : World} (h : t.At w) : t.xs.length ≤ 256 := by rw [h.len]; exact Nat.mul_le_mul h.r2 h.c2
theorem Dsc.At.pos {t : Dsc} {w : World} (h : t.At w) : 1 ≤ t.xs.length := by rw [h.len]; exact Nat.mul_le_mul h.r1 h.c1
theorem Dsc.At.nil {t : Dsc} {w : World} (h : t.At w) : t.a = none → t.k = 0 := by
  intro e
  obtain ⟨b, o, e2, _, _⟩ := h.see.spot (k := 0) h.pos
  rw [e] at e2; cases e2
theorem Dsc.At.okT {t : Dsc} {w : World} (h : t.At w) : okT t.can := by
  have h1 := h.r1; have h2 := h.r2; have h3 := h.c1; have h4 := h.c2
  refine ⟨?_, ?_, ?_, ?_, ?_⟩ <;> show _
  · show (1 : Int) ≤ t.r; omega
  · show (t.r : Int) ≤ 16; omega
  · show (1 : Int) ≤ t.c; omega
  · show (t.c : Int) ≤ 16; omega
  · show (t.xs.map (cn .f32)).length = (t.r : Int).toNat * (t.c : Int).toNat
    rw [List.length_map, h.len]; simp
theorem Dsc.uniq {t u : Dsc} {w : World} (h1 : t.At w) (h2 : u.At w) (e : t.val = u.val) : t = u := by
  obtain ⟨r, c, a, k, xs⟩ := t
  obtain ⟨r2, c2, a2, k2, ys⟩ := u
  have e' : Value.agg #[.int .i64 (r : Int), .int .i64 (c : Int), .slice a xs.length k] = Value.agg #[.int .i64 (r2 : Int), .int .i64 (c2 : Int), .slice a2 ys.length k2] := e
  simp at e'
  obtain ⟨e1, e2, e3, e4, e5⟩ := e'
  subst e3 e5
  have h6 := F32s.uniq (xs := xs) (ys := ys) h1.see h2.see e4
  subst h6
  have e1 : r = r2 := by omega
  have e2 : c = c2 := by omega
  subst e1 e2
  rfl
def RTen (T : TenP) (w1 : World) (v : Value) (w2 : World) : Prop := ∃ t : Dsc, v = t.val ∧ t.can = T ∧ RepF w2 w1.heap.size w2.heap.size t.a t.xs.length t.k t.xs ∧ Below w1.heap.size w1 w2
theorem RTen.at' {T : TenP} {w1 w2 : World} {v : Value} (h : RTen T w1 v w2) (hT : okT T) : ∃ t : Dsc, v = t.val ∧ t.can = T ∧ t.At w2 ∧ RepF w2 w1.heap.size w2.heap.size t.a t.xs.length t.k t.xs ∧ Below w1.heap.size w1 w2 := by
  obtain ⟨t, e1, e2, hr, hb⟩ := h
  subst e2
  refine ⟨t, e1, rfl, ⟨hr.arg, ?_, ?_, ?_, ?_, ?_⟩, hr, hb⟩
  · have h1 : (1 : Int) ≤ t.r := hT.r1; omega
  · have h1 : (t.r : Int) ≤ 16 := hT.r2; omega
  · have h1 : (1 : Int) ≤ t.c := hT.c1; omega
  · have h1 : (t.c : Int) ≤ 16 := hT.c2; omega
  · have h1 : (t.xs.map (cn .f32)).length = (t.r : Int).toNat * (t.c : Int).toNat := hT.len
    rw [List.length_map] at h1; simpa using h1
theorem RTen.of {r c n : Nat} {P : List Nat} {T : TenP} {w w' : World} {e : Ending} (h : TenPost r c n P w e w') (hT : T = ⟨r, c, P⟩) : ∃ v, e = .returned v ∧ RTen T w v w' := by
  obtain ⟨ad, cap, zs, he, hr, hm, hb⟩ := h
  have hl := hr.out.len
  subst hl
  subst hT
  exact ⟨_, he, ⟨r, c, ad, cap, zs⟩, rfl, by show (⟨_, _, _⟩ : TenP) = _; rw [hm.out], hr.out, hb⟩
def RRow (L : List Nat) (w1 : World) (v : Value) (w2 : World) : Prop := ∃ (a : Option Addr) (k : Nat) (xs : List Nat), v = .slice a xs.length k ∧ xs.map (cn .f32) = L ∧ RepF w2 w1.heap.size w2.heap.size a xs.length k xs ∧ Below w1.heap.size w1 w2
def DAll (f : FuncId) (args : Array Value) (w1 : World) (v : Value) (w2 : World) : Prop :=
  (∃ t u : Dsc, f = 118 ∧ args = #[t.val, u.val] ∧ t.At w1 ∧ u.At w1 ∧ RTen (mulV t.can u.can) w1 v w2) ∨
  (∃ t u : Dsc, f = 94 ∧ args = #[t.val, u.val] ∧ t.At w1 ∧ u.At w1 ∧ RTen (addV t.can u.can) w1 v w2) ∨
  (∃ (t : Dsc) (a : Option Addr) (k : Nat) (ys : List Nat), f = 119 ∧ args = #[t.val, .slice a ys.length k] ∧ t.At w1 ∧ F32s w1 a k ys ∧ RTen ⟨t.r, t.c, rowE .mul t.can.xs (ys.map (cn .f32)) t.c t.xs.length⟩ w1 v w2) ∨
  (∃ t : Dsc, f = 122 ∧ args = #[t.val] ∧ t.At w1 ∧ RTen (turnV t.can) w1 v w2) ∨
  (∃ t u : Dsc, f = 121 ∧ args = #[t.val, u.val] ∧ t.At w1 ∧ u.At w1 ∧ RTen (matV t.can u.can) w1 v w2) ∨
  (∃ t : Dsc, f = 128 ∧ args = #[t.val] ∧ t.At w1 ∧ RRow (listOf t.c (colG t.can.xs t.c t.xs.length)) w1 v w2) ∨
  (∃ (a : Option Addr) (k : Nat) (ys : List Nat), f = 67 ∧ args = #[.slice a ys.length k] ∧ F32s w1 a k ys ∧ RTen ⟨1, ys.length, ys.map (cn .f32)⟩ w1 v w2)
theorem DAll.mulTensors {t u : Dsc} {w1 w2 : World} {v : Value} (h : DAll 118 #[t.val, u.val] w1 v w2) (ht : t.At w1) (hu : u.At w1) : RTen (mulV t.can u.can) w1 v w2 := by
  rcases h with ⟨t2, u2, hf, e, h1, h2, h3⟩ | ⟨t2, u2, hf, e, h1, h2, h3⟩ | ⟨t2, a2, k2, ys2, hf, e, h1, h2, h3⟩ | ⟨t2, hf, e, h1, h3⟩ | ⟨t2, u2, hf, e, h1, h2, h3⟩ | ⟨t2, hf, e, h1, h3⟩ | ⟨a2, k2, ys2, hf, e, h2, h3⟩
  · have e0 := congrArg Array.toList e
    injection e0 with e1 e0
    injection e0 with e2 e0
    cases Dsc.uniq ht h1 e1
    cases Dsc.uniq hu h2 e2
    exact h3
  · exact absurd hf (by decide)
  · exact absurd hf (by decide)
  · exact absurd hf (by decide)
  · exact absurd hf (by decide)
  · exact absurd hf (by decide)
  · exact absurd hf (by decide)
theorem DAll.addTensors {t u : Dsc} {w1 w2 : World} {v : Value} (h : DAll 94 #[t.val, u.val] w1 v w2) (ht : t.At w1) (hu : u.At w1) : RTen (addV t.can u.can) w1 v w2 := by
  rcases h with ⟨t2, u2, hf, e, h1, h2, h3⟩ | ⟨t2, u2, hf, e, h1, h2, h3⟩ | ⟨t2, a2, k2, ys2, hf, e, h1, h2, h3⟩ | ⟨t2, hf, e, h1, h3⟩ | ⟨t2, u2, hf, e, h1, h2, h3⟩ | ⟨t2, hf, e, h1, h3⟩ | ⟨a2, k2, ys2, hf, e, h2, h3⟩
  · exact absurd hf (by decide)
  · have e0 := congrArg Array.toList e
    injection e0 with e1 e0
    injection e0 with e2 e0
    cases Dsc.uniq ht h1 e1
    cases Dsc.uniq hu h2 e2
    exact h3
  · exact absurd hf (by decide)
  · exact absurd hf (by decide)
  · exact absurd hf (by decide)
  · exact absurd hf (by decide)
  · exact absurd hf (by decide)
theorem DAll.matMul {t u : Dsc} {w1 w2 : World} {v : Value} (h : DAll 121 #[t.val, u.val] w1 v w2) (ht : t.At w1) (hu : u.At w1) : RTen (matV t.can u.can) w1 v w2 := by
  rcases h with ⟨t2, u2, hf, e, h1, h2, h3⟩ | ⟨t2, u2, hf, e, h1, h2, h3⟩ | ⟨t2, a2, k2, ys2, hf, e, h1, h2, h3⟩ | ⟨t2, hf, e, h1, h3⟩ | ⟨t2, u2, hf, e, h1, h2, h3⟩ | ⟨t2, hf, e, h1, h3⟩ | ⟨a2, k2, ys2, hf, e, h2, h3⟩
  · exact absurd hf (by decide)
  · exact absurd hf (by decide)
  · exact absurd hf (by decide)
  · exact absurd hf (by decide)
  · have e0 := congrArg Array.toList e
    injection e0 with e1 e0
    injection e0 with e2 e0
    cases Dsc.uniq ht h1 e1
    cases Dsc.uniq hu h2 e2
    exact h3
  · exact absurd hf (by decide)
  · exact absurd hf (by decide)
theorem DAll.transposed {t : Dsc} {w1 w2 : World} {v : Value} (h : DAll 122 #[t.val] w1 v w2) (ht : t.At w1) : RTen (turnV t.can) w1 v w2 := by
  rcases h with ⟨t2, u2, hf, e, h1, h2, h3⟩ | ⟨t2, u2, hf, e, h1, h2, h3⟩ | ⟨t2, a2, k2, ys2, hf, e, h1, h2, h3⟩ | ⟨t2, hf, e, h1, h3⟩ | ⟨t2, u2, hf, e, h1, h2, h3⟩ | ⟨t2, hf, e, h1, h3⟩ | ⟨a2, k2, ys2, hf, e, h2, h3⟩
  · exact absurd hf (by decide)
  · exact absurd hf (by decide)
  · exact absurd hf (by decide)
  · have e0 := congrArg Array.toList e
    injection e0 with e1 e0
    cases Dsc.uniq ht h1 e1
    exact h3
  · exact absurd hf (by decide)
  · exact absurd hf (by decide)
  · exact absurd hf (by decide)
theorem DAll.sumRows {t : Dsc} {w1 w2 : World} {v : Value} (h : DAll 128 #[t.val] w1 v w2) (ht : t.At w1) : RRow (listOf t.c (colG t.can.xs t.c t.xs.length)) w1 v w2 := by
  rcases h with ⟨t2, u2, hf, e, h1, h2, h3⟩ | ⟨t2, u2, hf, e, h1, h2, h3⟩ | ⟨t2, a2, k2, ys2, hf, e, h1, h2, h3⟩ | ⟨t2, hf, e, h1, h3⟩ | ⟨t2, u2, hf, e, h1, h2, h3⟩ | ⟨t2, hf, e, h1, h3⟩ | ⟨a2, k2, ys2, hf, e, h2, h3⟩
  · exact absurd hf (by decide)
  · exact absurd hf (by decide)
  · exact absurd hf (by decide)
  · exact absurd hf (by decide)
  · exact absurd hf (by decide)
  · have e0 := congrArg Array.toList e
    injection e0 with e1 e0
    cases Dsc.uniq ht h1 e1
    exact h3
  · exact absurd hf (by decide)
theorem DAll.mulRow {t : Dsc} {a : Option Addr} {k : Nat} {ys : List Nat} {w1 w2 : World} {v : Value} (h : DAll 119 #[t.val, .slice a ys.length k] w1 v w2) (ht : t.At w1) (hy : F32s w1 a k ys) : RTen ⟨t.r, t.c, rowE .mul t.can.xs (ys.map (cn .f32)) t.c t.xs.length⟩ w1 v w2 := by
  rcases h with ⟨t2, u2, hf, e, h1, h2, h3⟩ | ⟨t2, u2, hf, e, h1, h2, h3⟩ | ⟨t2, a2, k2, ys2, hf, e, h1, h2, h3⟩ | ⟨t2, hf, e, h1, h3⟩ | ⟨t2, u2, hf, e, h1, h2, h3⟩ | ⟨t2, hf, e, h1, h3⟩ | ⟨a2, k2, ys2, hf, e, h2, h3⟩
  · exact absurd hf (by decide)
  · exact absurd hf (by decide)
  · have e0 := congrArg Array.toList e
    injection e0 with e1 e0
    injection e0 with e2 e0
    injection e2 with e4 e3 e5
    cases Dsc.uniq ht h1 e1
    subst e4 e5
    cases F32s.uniq hy h2 e3
    exact h3
  · exact absurd hf (by decide)
  · exact absurd hf (by decide)
  · exact absurd hf (by decide)
  · exact absurd hf (by decide)
theorem DAll.rowTensor {a : Option Addr} {k : Nat} {ys : List Nat} {w1 w2 : World} {v : Value} (h : DAll 67 #[.slice a ys.length k] w1 v w2) (hy : F32s w1 a k ys) : RTen ⟨1, ys.length, ys.map (cn .f32)⟩ w1 v w2 := by
  rcases h with ⟨t2, u2, hf, e, h1, h2, h3⟩ | ⟨t2, u2, hf, e, h1, h2, h3⟩ | ⟨t2, a2, k2, ys2, hf, e, h1, h2, h3⟩ | ⟨t2, hf, e, h1, h3⟩ | ⟨t2, u2, hf, e, h1, h2, h3⟩ | ⟨t2, hf, e, h1, h3⟩ | ⟨a2, k2, ys2, hf, e, h2, h3⟩
  · exact absurd hf (by decide)
  · exact absurd hf (by decide)
  · exact absurd hf (by decide)
  · exact absurd hf (by decide)
  · exact absurd hf (by decide)
  · exact absurd hf (by decide)
  · have e0 := congrArg Array.toList e
    injection e0 with e2 e0
    injection e2 with e4 e3 e5
    subst e4 e5
    cases F32s.uniq hy h2 e3
    exact h3
theorem call_mulTensors {t u : Dsc} {w : World} (ht : t.At w) (hu : u.At w) (h1 : t.r = u.r) (h2 : t.c = u.c) : Calls Tryz.prog 118 #[t.val, u.val] w fun e w' => ∃ v, e = .returned v ∧ DAll 118 #[t.val, u.val] w v w' := by
  have h0 : Calls Tryz.prog 118 #[t.val, u.val] w (TenPost t.r t.c t.xs.length (tenE .mul (t.xs.map (cn .f32)) (u.xs.map (cn .f32)) t.xs.length) w) := by
    show Calls Tryz.prog 118 #[.agg #[.int .i64 t.r, .int .i64 t.c, .slice t.a t.xs.length t.k], .agg #[.int .i64 u.r, .int .i64 u.c, .slice u.a u.xs.length u.k]] w _
    rw [show u.xs.length = t.xs.length by rw [ht.len, hu.len, h1, h2]]
    exact impl_mulTensors w t.r t.c u.r u.c t.a u.a t.k u.k t.xs.length t.xs u.xs ht.see hu.see rfl (by rw [ht.len, hu.len, h1, h2]) ht.le
  refine h0.mono fun e w' h => ?_
  obtain ⟨v, he, hr⟩ := RTen.of (T := mulV t.can u.can) h (by simp [mulV, addV, turnV, matV, Dsc.can])
  exact ⟨v, he, Or.inl ⟨t, u, rfl, rfl, ht, hu, hr⟩⟩
theorem call_addTensors {t u : Dsc} {w : World} (ht : t.At w) (hu : u.At w) (h1 : t.r = u.r) (h2 : t.c = u.c) : Calls Tryz.prog 94 #[t.val, u.val] w fun e w' => ∃ v, e = .returned v ∧ DAll 94 #[t.val, u.val] w v w' := by
  have h0 : Calls Tryz.prog 94 #[t.val, u.val] w (TenPost t.r t.c t.xs.length (tenE .add (t.xs.map (cn .f32)) (u.xs.map (cn .f32)) t.xs.length) w) := by
    show Calls Tryz.prog 94 #[.agg #[.int .i64 t.r, .int .i64 t.c, .slice t.a t.xs.length t.k], .agg #[.int .i64 u.r, .int .i64 u.c, .slice u.a u.xs.length u.k]] w _
    rw [show u.xs.length = t.xs.length by rw [ht.len, hu.len, h1, h2]]
    exact impl_addTensors w t.r t.c u.r u.c t.a u.a t.k u.k t.xs.length t.xs u.xs ht.see hu.see rfl (by rw [ht.len, hu.len, h1, h2]) ht.le
  refine h0.mono fun e w' h => ?_
  obtain ⟨v, he, hr⟩ := RTen.of (T := addV t.can u.can) h (by simp [mulV, addV, turnV, matV, Dsc.can])
  exact ⟨v, he, Or.inr (Or.inl ⟨t, u, rfl, rfl, ht, hu, hr⟩)⟩
theorem call_mulRow {t : Dsc} {a : Option Addr} {k : Nat} {ys : List Nat} {w : World} (ht : t.At w) (hy : F32s w a k ys) (hl : ys.length = t.c) : Calls Tryz.prog 119 #[t.val, .slice a ys.length k] w fun e w' => ∃ v, e = .returned v ∧ DAll 119 #[t.val, .slice a ys.length k] w v w' := by
  have h0 : Calls Tryz.prog 119 #[t.val, .slice a ys.length k] w (TenPost t.r t.c t.xs.length (rowE .mul (t.xs.map (cn .f32)) (ys.map (cn .f32)) t.c t.xs.length) w) := by
    show Calls Tryz.prog 119 #[.agg #[.int .i64 t.r, .int .i64 t.c, .slice t.a t.xs.length t.k], .slice a ys.length k] w _
    rw [hl]
    exact impl_mulRow w t.r t.c t.a a t.k k t.xs.length t.xs ys ht.see hy rfl hl ht.le ht.c1 ht.c2
  refine h0.mono fun e w' h => ?_
  obtain ⟨v, he, hr⟩ := RTen.of (T := ⟨t.r, t.c, rowE .mul t.can.xs (ys.map (cn .f32)) t.c t.xs.length⟩) h (by rfl)
  exact ⟨v, he, Or.inr (Or.inr (Or.inl ⟨t, a, k, ys, rfl, rfl, ht, hy, hr⟩))⟩
theorem call_transposed {t : Dsc} {w : World} (ht : t.At w) : Calls Tryz.prog 122 #[t.val] w fun e w' => ∃ v, e = .returned v ∧ DAll 122 #[t.val] w v w' := by
  refine (impl_transposed w t.r t.c t.a t.k t.xs.length t.xs ht.see rfl ht.r1 ht.r2 ht.c1 ht.c2 ht.len).mono fun e w' h => ?_
  obtain ⟨v, he, hr⟩ := RTen.of (T := turnV t.can) h (by simp [mulV, addV, turnV, matV, Dsc.can])
  exact ⟨v, he, Or.inr (Or.inr (Or.inr (Or.inl ⟨t, rfl, rfl, ht, hr⟩)))⟩
theorem call_matMul {t u : Dsc} {w : World} (ht : t.At w) (hu : u.At w) (h1 : t.c = u.r) : Calls Tryz.prog 121 #[t.val, u.val] w fun e w' => ∃ v, e = .returned v ∧ DAll 121 #[t.val, u.val] w v w' := by
  have h0 : Calls Tryz.prog 121 #[t.val, u.val] w (TenPost t.r u.c (t.r * u.c) (matE (t.xs.map (cn .f32)) (u.xs.map (cn .f32)) t.c u.c (t.r * u.c)) w) := by
    obtain ⟨ur, uc, ua, uk, us⟩ := u; replace h1 : t.c = ur := h1; subst h1; exact impl_matMul w t.r t.c uc t.a ua t.k uk t.xs.length us.length t.xs us ht.see hu.see rfl rfl ht.r1 ht.r2 ht.c1 ht.c2 hu.c1 hu.c2 ht.len hu.len
  refine h0.mono fun e w' h => ?_
  obtain ⟨v, he, hr⟩ := RTen.of (T := matV t.can u.can) h (by simp [mulV, addV, turnV, matV, Dsc.can])
  exact ⟨v, he, Or.inr (Or.inr (Or.inr (Or.inr (Or.inl ⟨t, u, rfl, rfl, ht, hu, hr⟩))))⟩
theorem call_rowTensor {a : Option Addr} {k : Nat} {ys : List Nat} {w : World} (hy : F32s w a k ys) (hl : 1 ≤ ys.length) (hl2 : ys.length ≤ 1048576) : Calls Tryz.prog 67 #[.slice a ys.length k] w fun e w' => ∃ v, e = .returned v ∧ DAll 67 #[.slice a ys.length k] w v w' := by
  refine (impl_rowTensor w a k ys.length ys hy (by intro e; obtain ⟨b, o, e2, _, _⟩ := hy.spot (k := 0) hl; rw [e] at e2; cases e2) rfl hl2).mono fun e w' h => ?_
  obtain ⟨v, he, hr⟩ := RTen.of (T := ⟨1, ys.length, ys.map (cn .f32)⟩) h (by simp [mulV, addV, turnV, matV, Dsc.can])
  exact ⟨v, he, Or.inr (Or.inr (Or.inr (Or.inr (Or.inr (Or.inr (⟨a, k, ys, rfl, rfl, hy, hr⟩))))))⟩
theorem call_sumRows {t : Dsc} {w : World} (ht : t.At w) : Calls Tryz.prog 128 #[t.val] w fun e w' => ∃ v, e = .returned v ∧ DAll 128 #[t.val] w v w' := by
  refine (impl_sumRowsG w t.r t.c t.a t.k t.xs.length t.xs ht.see rfl ht.le ht.c1 ht.c2).mono fun e w' h => ?_
  obtain ⟨ad, cap, zs, he, hr, hm, hb⟩ := h
  have hl := hr.out.len
  refine ⟨_, he, Or.inr (Or.inr (Or.inr (Or.inr (Or.inr (Or.inl ⟨t, rfl, rfl, ht, ad, cap, zs, by rw [hl], hm.out, ?_, hb⟩)))))⟩
  rw [hl]; exact hr.out
end Go.Proofs.YtpadlmidojpbeaaGreat
