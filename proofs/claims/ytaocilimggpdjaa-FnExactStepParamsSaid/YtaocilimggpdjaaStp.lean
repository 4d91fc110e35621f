/- What one number's step is. No condition. -/
import Derived.Test.YtaocilimggpdjaaSta
import Derived.Test.YtaocilimggpdjaaRate
namespace Go.Proofs.Ytaocilimggpdjaa
open Go Go.RowKit
set_option linter.unusedVariables false
set_option linter.unusedSimpArgs false
/-- a value that a call gives: a 32-bit number, known up to which NaN it is -/
def VF (c : Nat) (v : Value) : Prop := ∃ r, v = .float .f32 r ∧ cn .f32 r = c ∧ r < 4294967296
def ONE : Nat := 1065353216
def blE (b v x : Nat) : Nat := fop .add .f32 (fop .mul .f32 b v) (fop .mul .f32 (fop .sub .f32 ONE b) x)
def leE (r ep x st v : Nat) : Nat := fop .sub .f32 x (fop .quo .f32 (fop .mul .f32 r st) (fop .add .f32 (rootE v) ep))
theorem cn_ONE : cn .f32 1065353216 = ONE := cn_one32
theorem impl_blend (b v x : Nat) (w : World) : Calls Try.prog 162 #[.float .f32 b, .float .f32 v, .float .f32 x] w fun e w' => ∃ r, e = .returned (.float .f32 r) ∧ Hid (cn .f32 r = blE (cn .f32 b) (cn .f32 v) (cn .f32 x) ∧ r < 4294967296) ∧ Dr w w' := by
  go_enter Try.func162, Try.ntmps162
  go_wp2
  go_ret
  refine ⟨_, rfl, Lib.hid ⟨?_, fbits_lt _ .f32 _ _ _⟩, _, rfl⟩
  rw [cn_fbits, cn_fbits, cn_fbits, cn_fbits, cn_ONE]; rfl
set_option maxRecDepth 100000 in
theorem impl_less (k : Int) (r b1 b2 ep x st v : Nat) (hv : v < 4294967296) (w : World) : Calls Try.prog 161 #[.agg #[.int .i64 k, .float .f32 r, .float .f32 b1, .float .f32 b2, .float .f32 ep], .float .f32 x, .float .f32 st, .float .f32 v] w fun e w' => ∃ y, e = .returned (.float .f32 y) ∧ Hid (cn .f32 y = leE (cn .f32 r) (cn .f32 ep) (cn .f32 x) (cn .f32 st) (cn .f32 v) ∧ y < 4294967296) ∧ Below w.heap.size w w' := by
  have HV := Lib.hid hv; clear hv
  go_enter Try.func161, Try.ntmps161
  go_wp2
  refine wp_region_drawn (fun f args u => VF (rootE (cn .f32 v)) u) (by kernel_rfl) (by kernel_rfl) ?_
  iterate 6 (refine wset_step (fun K hK nq => ?_); go_simp; refine hK _ ?_; clear hK K)
  refine wset_step (fun K hK nq => ?_)
  go_simp
  refine ⟨(impl_RootNumber v HV.out _).mono ?_, ?_⟩
  · rintro e w' ⟨y, rfl, hy, q, rfl⟩
    exact ⟨_, rfl, ⟨_, World.drewN_drewN _ _ _⟩, y, rfl, hy.out⟩
  rintro u ⟨y, rfl, hy, hy2⟩
  refine hK _ ?_
  clear hK K
  have HY := Lib.hid hy; clear hy
  repeat (refine wset_step (fun K hK nq => ?_); go_simp; refine hK _ ?_; clear hK K)
  refine wset_nil ?_
  rintro w' ⟨q, rfl⟩
  go_wp2
  go_ret
  refine ⟨_, rfl, Lib.hid ⟨?_, fbits_lt _ .f32 _ _ _⟩, below_drewN (below1 _ _) _⟩
  rw [cn_fbits, cn_fbits, cn_fbits, cn_fbits, HY.out]; rfl
/-- an optimiser's cells -/
structure OptAt (w : World) (g : Nat) (k : Int) (r b1 b2 ep : Nat) : Prop where
  lt : g < w.heap.size
  c0 : w.cell? ⟨g, 0, none⟩ = some (.int .i64 k)
  c1 : w.cell? ⟨g, 1, none⟩ = some (.float .f32 r)
  c2 : w.cell? ⟨g, 2, none⟩ = some (.float .f32 b1)
  c3 : w.cell? ⟨g, 3, none⟩ = some (.float .f32 b2)
  c4 : w.cell? ⟨g, 4, none⟩ = some (.float .f32 ep)
theorem OptAt.below {w w' : World} {B g : Nat} {k : Int} {r b1 b2 ep : Nat} (h : OptAt w g k r b1 b2 ep) (hb : Below B w w') (hB : g < B) : OptAt w' g k r b1 b2 ep :=
  have b := (bcell hb).1 g
  ⟨Nat.lt_of_lt_of_le h.lt hb.size, (b 0 hB).trans h.c0, (b 1 hB).trans h.c1, (b 2 hB).trans h.c2, (b 3 hB).trans h.c3, (b 4 hB).trans h.c4⟩
set_option maxRecDepth 100000 in
theorem spec_l05Down (g : Nat) (k : Int) (r b1 b2 ep x st v : Nat) (hv : v < 4294967296) (w : World) (h : OptAt w g k r b1 b2 ep) : Calls Try.prog 136 #[.pointer (some ⟨g, 0, none⟩), .float .f32 x, .float .f32 st, .float .f32 v] w fun e w' => ∃ y, e = .returned (.float .f32 y) ∧ Hid (cn .f32 y = leE (cn .f32 r) (cn .f32 ep) (cn .f32 x) (cn .f32 st) (cn .f32 v) ∧ y < 4294967296) ∧ Dr w w' := by
  have HV := Lib.hid hv; clear hv
  have h1 := h.c1
  have h4 := h.c4
  clear h
  go_enter Try.func136, Try.ntmps136
  go_wp2
  refine wp_region_drawn (fun f args u => VF (rootE (cn .f32 v)) u) (by kernel_rfl) (by kernel_rfl) ?_
  iterate 8 (refine wset_step (fun K hK nq => ?_); go_simp; refine hK _ ?_; clear hK K)
  refine wset_step (fun K hK nq => ?_)
  go_simp
  refine ⟨(spec_l01Sqrt v HV.out _).mono ?_, ?_⟩
  · rintro e w' ⟨y, rfl, hy, q, rfl⟩
    exact ⟨_, rfl, ⟨_, World.drewN_drewN _ _ _⟩, y, rfl, hy.out⟩
  rintro u ⟨y, rfl, hy, hy2⟩
  refine hK _ ?_
  clear hK K
  have HY := Lib.hid hy; clear hy
  repeat (refine wset_step (fun K hK nq => ?_); go_simp; refine hK _ ?_; clear hK K)
  refine wset_nil ?_
  rintro w' ⟨q, rfl⟩
  go_wp2
  go_ret
  refine ⟨_, rfl, Lib.hid ⟨?_, fbits_lt _ .f32 _ _ _⟩, _, rfl⟩
  rw [cn_fbits, cn_fbits, cn_fbits, cn_fbits, HY.out]; rfl
end Go.Proofs.Ytaocilimggpdjaa
