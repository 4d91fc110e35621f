/- What copying, comparing, marking slices of integers does. No condition. -/
import Derived.Test.YtaocilimggpdjaaSli
namespace Go.Proofs.Ytaocilimggpdjaa
open Go Go.RowKit
set_option linter.unusedVariables false
set_option linter.unusedSimpArgs false
/-- the integers with which a list is marked -/
def markI (k0 n : Nat) : List Int := (List.range n).map fun i => ((k0 + i : Nat) : Int)
theorem markI_lt (k0 n : Nat) (h : k0 + n ≤ 1000000000) : ∀ x ∈ markI k0 n, (Lit.int .i64 x).wf = true := by
  intro x hx
  obtain ⟨i, hi, rfl⟩ := List.mem_map.1 hx
  have := List.mem_range.1 hi
  simp [Lit.wf, IntKind.min, IntKind.max, IntKind.signed, IntKind.bits]
  omega
theorem markI_length (k0 n : Nat) : (markI k0 n).length = n := by simp [markI]
/-- a slice of integers that the call owns -/
structure RepI (w : World) (lo hi : Nat) (ad : Option Addr) (n cap : Nat) (xs : List Int) : Prop where
  row : Row w 2 1 lo hi (.slice ad n cap) n (xs.map (Value.int .i64))
  len : xs.length = n
  lt : ∀ x ∈ xs, (Lit.int .i64 x).wf = true
theorem RepI.arg {w : World} {lo hi : Nat} {ad : Option Addr} {n cap : Nat} {xs : List Int} (h : RepI w lo hi ad n cap xs) : Ints .i64 w ad cap xs := (Ints.of_owns h.row.own h.lt).2
theorem RepI.below {w w' : World} {lo hi : Nat} {ad : Option Addr} {n cap : Nat} {xs : List Int} (h : RepI w lo hi ad n cap xs) (hb : Below w.heap.size w w') : RepI w' lo hi ad n cap xs := ⟨h.row.below hb, h.len, h.lt⟩
theorem RepI.touch {w w' : World} {lo hi lo2 hi2 : Nat} {ad : Option Addr} {n cap : Nat} {xs : List Int} (h : RepI w lo hi ad n cap xs) (ht : Touch lo2 hi2 w w') (hd : hi ≤ lo2 ∨ hi2 ≤ lo) : RepI w' lo hi ad n cap xs := ⟨h.row.touch ht hd, h.len, h.lt⟩
theorem RepI.bounds {w : World} {lo hi lo' hi' : Nat} {ad : Option Addr} {n cap : Nat} {xs : List Int} (h : RepI w lo hi ad n cap xs) (h1 : lo' ≤ lo) (h2 : hi ≤ hi') : RepI w lo' hi' ad n cap xs := ⟨h.row.bounds h1 h2, h.len, h.lt⟩
theorem RepI.nil (w : World) (lo hi : Nat) : RepI w lo hi none 0 0 [] := ⟨Row.nil _ _ _ _, rfl, fun x hx => nomatch hx⟩
theorem RepI.of_owns {w : World} {lo : Nat} {v : Value} {n : Nat} {xs : List Int} (h : w.ownsRow lo 2 1 v n (xs.map (Value.int .i64))) (hx : ∀ x ∈ xs, (Lit.int .i64 x).wf = true) : ∃ ad cap, v = .slice ad n cap ∧ RepI w lo w.heap.size ad n cap xs := by
  obtain ⟨ad, cap, rfl, _⟩ := Rd.of_owns h
  exact ⟨ad, cap, rfl, Row.mk' h, by have := h.1; simpa using this, hx⟩
end Go.Proofs.Ytaocilimggpdjaa
