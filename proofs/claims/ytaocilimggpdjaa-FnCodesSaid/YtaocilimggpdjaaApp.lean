/- Rows of the call's own that grow by turns. No condition. -/
import Derived.Test.YtaocilimggpdjaaSlI
import Derived.Maps.AppendAt
namespace Go.Proofs.Ytaocilimggpdjaa
open Go Go.RowKit
set_option linter.unusedVariables false
set_option linter.unusedSimpArgs false
/-- an element is appended to a row of the call's own; where it lies then is told -/
theorem wp_appA {P : Program} {ops : Array Oper} {rest : List Oper} {o : Oper} {a : Act} {Q : Exit → Act → World → Prop} {e : TypeId} {W : World} {cs : Array Value} (hgd : o.guard = none) (s x : Operand) (t : TypeId)
    (ho : o.op = .call { callee := .builtin .append, args := #[s, x], argTypes := #[t, t] })
    (base : Nat) (i : TypeInfo) (z : Value) (size bytes : Nat) (ht : P.underlying t = some (.slice e)) (hi : P.info? e = some i) (hz : i.zero = some z)
    (hsize : i.size = size) (hby : i.bytes = bytes) (hzs : z.cells.size = size) (hsz : 0 < size)
    (hcs : cs.size = size) (h1 : ∀ u ∈ cs.toList, u.oneCell' = true)
    (v : Value) (n : Nat) (xs : List Value) (hs : a.eval s = v) (hown : W.ownsRow base e size v n xs) (hx : a.eval x = .slice (some ⟨W.heap.size, 0, none⟩) 1 1)
    (h63 : n + 1 ≤ maxLen) (hbytes : (n + 1) * bytes ≤ 140737488355328) (hbase : base ≤ W.heap.size)
    (h : ∀ v' w', w'.ownsRow base e size v' (n + 1) (xs ++ cs.toList) → (W.alloc (.cells cs e)).grownBy w' v.ownBlock → (v'.ownBlock = v.ownBlock ∨ v'.ownBlock = some (W.heap.size + 1)) → Below base W w' → base ≤ w'.heap.size → wpList P ops Q rest (a.put o.dst v') w') : wpList P ops Q (o :: rest) a (W.alloc (.cells cs e)) := by
  refine wpList_append_own_at (W.alloc (.cells cs e)) hgd s x t ho base e i z size bytes ht hi hz hsize hby hzs hsz v n xs hs (hown.alloc _) ⟨W.heap.size, 0, none⟩ 1 1 cs.toList hx (by simpa using hcs) ?_ h1 h63 hbytes (by simp; omega) ?_
  · intro j u hj
    rw [Addr.add_lit, World.cell?_alloc_at _ _ _ _ rfl]
    simpa using hj
  · intro v' w' h2 hg _ hat
    have hb : Below base W w' := ((Below.refl _ _).alloc hbase _).grown hg (by simp; omega) (fun j hj => (hown.lt j hj).1)
    refine h v' w' h2 hg (by simpa using hat) hb ?_
    have := hg.size
    simp at this
    omega
/-- two rows of the call's own in blocks of their own -/
structure Two (w : World) (base : Nat) (e1 : TypeId) (v1 : Value) (n1 : Nat) (c1 : List Value) (e2 : TypeId) (v2 : Value) (n2 : Nat) (c2 : List Value) : Prop where
  one : w.ownsRow base e1 1 v1 n1 c1
  two : w.ownsRow base e2 1 v2 n2 c2
  sep : ∀ g, v1.ownBlock = some g → v2.ownBlock ≠ some g
theorem Two.swap {w : World} {base : Nat} {e1 e2 : TypeId} {v1 v2 : Value} {n1 n2 : Nat} {c1 c2 : List Value} (h : Two w base e1 v1 n1 c1 e2 v2 n2 c2) : Two w base e2 v2 n2 c2 e1 v1 n1 c1 := ⟨h.two, h.one, fun g e1 e2 => h.sep g e2 e1⟩
theorem Two.below {w w' : World} {base : Nat} {e1 e2 : TypeId} {v1 v2 : Value} {n1 n2 : Nat} {c1 c2 : List Value} (h : Two w base e1 v1 n1 c1 e2 v2 n2 c2) (hb : Below w.heap.size w w') : Two w' base e1 v1 n1 c1 e2 v2 n2 c2 := ⟨owns_below h.one hb, owns_below h.two hb, h.sep⟩
/-- the first row has grown -/
theorem Two.grow {w w' : World} {base : Nat} {e1 e2 : TypeId} {v1 v2 v' : Value} {n1 n2 n' : Nat} {c1 c2 c' : List Value} {o : Obj} (h : Two w base e1 v1 n1 c1 e2 v2 n2 c2)
    (h1 : w'.ownsRow base e1 1 v' n' c') (hg : (w.alloc o).grownBy w' v1.ownBlock) (hat : v'.ownBlock = v1.ownBlock ∨ v'.ownBlock = some (w.heap.size + 1)) : Two w' base e1 v' n' c' e2 v2 n2 c2 := by
  refine ⟨h1, (h.two.alloc o).kept hg ?_, ?_⟩
  · cases hv : v2.ownBlock with
    | none => exact .inl rfl
    | some g =>
      right
      intro e
      exact h.sep g e.symm hv
  · intro g e1 e2
    rcases hat with hat | hat
    · exact h.sep g (hat.symm.trans e1) e2
    · have := (h.two.lt g e2).2
      rw [hat] at e1
      cases e1
      omega
theorem getD_snoc_left {xs : List Int} {x : Int} {i : Nat} (h : i < xs.length) : (xs ++ [x]).getD i 0 = xs.getD i 0 := by
  rw [List.getD_eq_getElem?_getD, List.getD_eq_getElem?_getD, List.getElem?_append_left h]
theorem getD_snoc_at {xs : List Int} {x : Int} {i : Nat} (h : i = xs.length) : (xs ++ [x]).getD i 0 = x := by
  subst h; simp
end Go.Proofs.Ytaocilimggpdjaa
