/- What gathered roundings are. No condition. -/
import Derived.Test.YtaocilimggpdjaaBf
import Derived.Test.YtaocilimggpdjaaLab
import Derived.Deep.RegionWith
namespace Go.Proofs.Ytaocilimggpdjaa
open Go Go.RowKit
set_option linter.unusedVariables false
set_option linter.unusedSimpArgs false
def gR (X : List Nat) : Nat → Nat → Nat
  | 0, _ => 0
  | j + 1, i => fop .sub .f32 (fop .add .f32 (X.getD i 0) (gR X j i)) (bfE (fop .add .f32 (X.getD i 0) (gR X j i)))
def gS (X : List Nat) : Nat → Nat → Nat
  | 0, _ => 0
  | j + 1, i => fop .add .f32 (gS X j i) (bfE (fop .add .f32 (X.getD i 0) (gR X j i)))
theorem zeros_listOf (n : Nat) : (List.replicate n 0).map (cn .f32) = listOf n (fun _ => 0) := by
  apply List.ext_getElem
  · simp [listOf]
  · intro i h1 h2
    simp [listOf, cn_zero]
theorem zeros_own {w : World} {base n : Nat} {e : TypeId} {v : Value} (h : w.ownsRow base e 1 v n (madeCells #[Value.float .f32 0] n).toList) : w.ownsRow base e 1 v n ((List.replicate n 0).map (Value.float .f32)) := by
  rw [toList_madeCells_one] at h
  rwa [List.map_replicate]
theorem zeros_lt (n : Nat) : ∀ x ∈ List.replicate n 0, x < 4294967296 := by
  intro x hx
  rw [(List.mem_replicate.1 hx).2]; decide
theorem zeros_rep {w : World} {n : Nat} {g : Nat} (h : w.ownsRow g 22 1 (.slice (some ⟨g, 0, none⟩) n n) n (madeCells #[Value.float .f32 0] n).toList) : RepF w g w.heap.size (some ⟨g, 0, none⟩) n n (List.replicate n 0) := by
  obtain ⟨a1, c1, e1, hS⟩ := RepF.of_owns (zeros_own h) (zeros_lt n)
  cases e1
  exact hS
def gatOk (n : Nat) (r : Int) : Bool := decide (n ≤ 256) && inB r 0 20
end Go.Proofs.Ytaocilimggpdjaa
