/- How the arguments of the laws are opened, by their types. No condition. -/
import Derived.Test.YtbcpjjbfkeicaacRows
import Derived.Test.YtbcpjjbfkeicaacMem
namespace Go.Proofs.Ytbcpjjbfkeicaac
open Go Go.RowKit Go.ChangeShapes Go.WideShapes
theorem own_knob : ownKnob Try.prog.godebug = none := by kernel_rfl
theorem laid_out : laidOutB Try.prog = true := by kernel_rfl
section
variable {H : Type} {enc : TypeId × Value → H} {w : World} {base : Nat} {spare : Nat → Bool} {held : Bool}
theorem dec_Scale {n : Nat} {cs : List Value} {y : DataW H × List MemPlace} (h : DataW.trod enc Try.prog w base spare held n 24 cs = some y) :
    ∃ (s : Nat) (gd gw : Int), cs = [.float .f32 s, .int .i64 gd, .int .i64 gw] ∧ s < 4294967296 ∧ (Lit.int .i64 gd).wf = true ∧ (Lit.int .i64 gw).wf = true := by
  have c0 : Try.prog.cellsOf 24 = 3 := by kernel_rfl
  have c1 : Try.prog.cellsOf 2 = 1 := by kernel_rfl
  have c2 : Try.prog.cellsOf 22 = 1 := by kernel_rfl
  obtain ⟨n, hl, hp⟩ := trod_parts Try.underlying24 h
  rw [c0] at hl
  obtain ⟨x0, x1, x2, rfl⟩ := list3 hl
  obtain ⟨y0, h0⟩ := hp 0 22 0 1 _ rfl rfl rfl c2
  obtain ⟨y1, h1⟩ := hp 1 2 1 1 _ rfl rfl rfl c1
  obtain ⟨y2, h2⟩ := hp 2 2 2 1 _ rfl rfl rfl c1
  simp only [List.drop_succ_cons, List.drop_zero, List.take_succ_cons, List.take_zero] at h0 h1 h2
  obtain ⟨r, e0, w0⟩ := trod_float Try.underlying22 h0
  obtain ⟨g, e1, _, w1⟩ := DataW.trod_int Try.underlying2 h1
  obtain ⟨q, e2, _, w2⟩ := DataW.trod_int Try.underlying2 h2
  simp only [List.cons.injEq, and_true] at e0 e1 e2
  subst e0 e1 e2
  exact ⟨r, g, q, rfl, f32_lt w0, w1, w2⟩
end
end Go.Proofs.Ytbcpjjbfkeicaac
