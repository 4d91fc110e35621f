/- How the arguments of the laws are opened, by their types. No condition. -/
import Derived.Test.YtaocilimggpdjaaRows
import Derived.Test.YtaocilimggpdjaaMem
namespace Go.Proofs.Ytaocilimggpdjaa
open Go Go.RowKit Go.ChangeShapes Go.WideShapes
theorem own_knob : ownKnob Try.prog.godebug = none := by kernel_rfl
theorem laid_out : laidOutB Try.prog = true := by kernel_rfl
section
variable {H : Type} {enc : TypeId × Value → H} {w : World} {base : Nat} {spare : Nat → Bool} {held : Bool}
theorem dec_Opt {n : Nat} {cs : List Value} {y : DataW H × List MemPlace} (h : DataW.trod enc Try.prog w base spare held n 24 cs = some y) :
    ∃ (k : Int) (r b1 b2 ep : Nat), cs = [.int .i64 k, .float .f32 r, .float .f32 b1, .float .f32 b2, .float .f32 ep] ∧ (Lit.int .i64 k).wf = true ∧ r < 4294967296 ∧ b1 < 4294967296 ∧ b2 < 4294967296 ∧ ep < 4294967296 := by
  have c0 : Try.prog.cellsOf 24 = 5 := by kernel_rfl
  have c1 : Try.prog.cellsOf 2 = 1 := by kernel_rfl
  have c2 : Try.prog.cellsOf 22 = 1 := by kernel_rfl
  obtain ⟨n, hl, hp⟩ := trod_parts Try.underlying24 h
  rw [c0] at hl
  obtain ⟨x0, x1, x2, x3, x4, rfl⟩ := list5 hl
  obtain ⟨y0, h0⟩ := hp 0 2 0 1 _ rfl rfl rfl c1
  obtain ⟨y1, h1⟩ := hp 1 22 1 1 _ rfl rfl rfl c2
  obtain ⟨y2, h2⟩ := hp 2 22 2 1 _ rfl rfl rfl c2
  obtain ⟨y3, h3⟩ := hp 3 22 3 1 _ rfl rfl rfl c2
  obtain ⟨y4, h4⟩ := hp 4 22 4 1 _ rfl rfl rfl c2
  simp only [List.drop_succ_cons, List.drop_zero, List.take_succ_cons, List.take_zero] at h0 h1 h2 h3 h4
  obtain ⟨k, e0, _, w0⟩ := DataW.trod_int Try.underlying2 h0
  obtain ⟨r, e1, w1⟩ := trod_float Try.underlying22 h1
  obtain ⟨b1, e2, w2⟩ := trod_float Try.underlying22 h2
  obtain ⟨b2, e3, w3⟩ := trod_float Try.underlying22 h3
  obtain ⟨ep, e4, w4⟩ := trod_float Try.underlying22 h4
  simp only [List.cons.injEq, and_true] at e0 e1 e2 e3 e4
  subst e0 e1 e2 e3 e4
  exact ⟨k, r, b1, b2, ep, rfl, w0, f32_lt w1, f32_lt w2, f32_lt w3, f32_lt w4⟩
end
end Go.Proofs.Ytaocilimggpdjaa
