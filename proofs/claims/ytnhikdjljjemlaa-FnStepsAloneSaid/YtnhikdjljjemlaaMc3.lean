/- Joined texts 3: Stp Stq Str Sts Stu Src Drw Drl. Each is told at its own head. No condition. -/
import Derived.BigRegion
import Derived.IntWalk
import Derived.Deep.QuietTactic
import Derived.BigQuiet
import Derived.Laws.Bits64b
import Derived.Test.YtnhikdjljjemlaaMc0
import Derived.Test.YtnhikdjljjemlaaMc1
import Derived.Test.YtnhikdjljjemlaaMc2
/- What one number's step is. No condition. -/
namespace Go.Proofs.Ytnhikdjljjemlaa
open Go Go.RowKit
set_option linter.unusedVariables false
set_option linter.unusedSimpArgs false
/-- a value that a call gives: a 32-bit number, known up to which NaN it is -/
def VF (c : Nat) (v : Value) : Prop := ∃ r, v = .float .f32 r ∧ cn .f32 r = c ∧ r < 4294967296
def ONE : Nat := 1065353216
def blE (b v x : Nat) : Nat := fop .add .f32 (fop .mul .f32 b v) (fop .mul .f32 (fop .sub .f32 ONE b) x)
def leE (r ep x st v : Nat) : Nat := fop .sub .f32 x (fop .quo .f32 (fop .mul .f32 r st) (fop .add .f32 (rootE v) ep))
theorem cn_ONE : cn .f32 1065353216 = ONE := cn_one32
theorem impl_blend (b v x : Nat) (w : World) : Calls Try.prog 100 #[.float .f32 b, .float .f32 v, .float .f32 x] w fun e w' => ∃ r, e = .returned (.float .f32 r) ∧ Hid (cn .f32 r = blE (cn .f32 b) (cn .f32 v) (cn .f32 x) ∧ r < 4294967296) ∧ Dr w w' := by
  go_enter Try.func100, Try.ntmps100
  go_wp2
  go_ret
  refine ⟨_, rfl, Lib.hid ⟨?_, fbits_lt _ .f32 _ _ _⟩, _, rfl⟩
  rw [cn_fbits, cn_fbits, cn_fbits, cn_fbits, cn_ONE]; rfl
set_option maxRecDepth 100000 in
theorem impl_less (k : Int) (r b1 b2 ep x st v : Nat) (hv : v < 4294967296) (w : World) : Calls Try.prog 99 #[.agg #[.int .i64 k, .float .f32 r, .float .f32 b1, .float .f32 b2, .float .f32 ep], .float .f32 x, .float .f32 st, .float .f32 v] w fun e w' => ∃ y, e = .returned (.float .f32 y) ∧ Hid (cn .f32 y = leE (cn .f32 r) (cn .f32 ep) (cn .f32 x) (cn .f32 st) (cn .f32 v) ∧ y < 4294967296) ∧ Below w.heap.size w w' := by
  have HV := Lib.hid hv; clear hv
  go_enter Try.func99, Try.ntmps99
  go_wp2
  refine wp_region_drawn (fun f args u => VF (rootE (cn .f32 v)) u) (by kernel_rfl) (by kernel_rfl) ?_
  iterate 6 (refine wset_step (fun K hK nq => ?_); go_simp; refine hK _ ?_; clear hK K)
  refine wset_step (fun K hK nq => ?_)
  go_simp
  refine ⟨(impl_RootNumber v HV.out _).mono ?_, ?_⟩
  · rintro e w' ⟨y, rfl, hy, q, rfl⟩
    exact ⟨_, rfl, ⟨_, World.drewN_drewN _ _ _⟩, y, rfl, hy.out⟩
  rintro u ⟨y, rfl, hy, hy2⟩
  refine hK _ ?_
  clear hK K
  have HY := Lib.hid hy; clear hy
  repeat (refine wset_step (fun K hK nq => ?_); go_simp; refine hK _ ?_; clear hK K)
  refine wset_nil ?_
  rintro w' ⟨q, rfl⟩
  go_wp2
  go_ret
  refine ⟨_, rfl, Lib.hid ⟨?_, fbits_lt _ .f32 _ _ _⟩, below_drewN (below1 _ _) _⟩
  rw [cn_fbits, cn_fbits, cn_fbits, cn_fbits, HY.out]; rfl
/-- an optimiser's cells -/
structure OptAt (w : World) (g : Nat) (k : Int) (r b1 b2 ep : Nat) : Prop where
  lt : g < w.heap.size
  c0 : w.cell? ⟨g, 0, none⟩ = some (.int .i64 k)
  c1 : w.cell? ⟨g, 1, none⟩ = some (.float .f32 r)
  c2 : w.cell? ⟨g, 2, none⟩ = some (.float .f32 b1)
  c3 : w.cell? ⟨g, 3, none⟩ = some (.float .f32 b2)
  c4 : w.cell? ⟨g, 4, none⟩ = some (.float .f32 ep)
theorem OptAt.below {w w' : World} {B g : Nat} {k : Int} {r b1 b2 ep : Nat} (h : OptAt w g k r b1 b2 ep) (hb : Below B w w') (hB : g < B) : OptAt w' g k r b1 b2 ep :=
  have b := (bcell hb).1 g
  ⟨Nat.lt_of_lt_of_le h.lt hb.size, (b 0 hB).trans h.c0, (b 1 hB).trans h.c1, (b 2 hB).trans h.c2, (b 3 hB).trans h.c3, (b 4 hB).trans h.c4⟩
end Go.Proofs.Ytnhikdjljjemlaa
/- One number's step in slots: the program's. No condition. -/
namespace Go.Proofs.Ytnhikdjljjemlaa
open Go Go.RowKit
set_option linter.unusedVariables false
set_option linter.unusedSimpArgs false
/-- a number of a row is written -/
theorem RepFF.setNum {w : World} {lo hi S cap : Nat} {ad : Option Addr} {vs : List Value} {Xs : List (List Nat)} (h : RepFF w lo hi ad S cap vs Xs) {j : Nat} (hj : j < S) {i n : Nat} (hn : (Xs.getD j []).length = n) (hin : i < n) :
    ∃ b cj, vs.getD j (.slice none 0 0) = .slice (some ⟨b, 0, none⟩) n cj ∧ lo ≤ b ∧ b < w.heap.size ∧ w.cell? ⟨b, i, none⟩ = some (.float .f32 ((Xs.getD j []).getD i 0)) ∧ w.frozen? ⟨b, i, none⟩ = false ∧
      ∀ w', Below w.heap.size w w' → ∀ y, y < 4294967296 → RepFF (w'.setCell ⟨b, i, none⟩ (.float .f32 y)) lo hi ad S cap vs (Xs.set j ((Xs.getD j []).set i y)) ∧ Touch lo hi w (w'.setCell ⟨b, i, none⟩ (.float .f32 y)) := by
  obtain ⟨aj, cj, e, hf⟩ := h.inn j hj
  rw [hn] at e hf
  obtain ⟨b, rfl, hlo, hc, hfr, _⟩ := hf.open (by omega)
  have hb := (hf.row.own.lt b rfl).2
  refine ⟨b, cj, e, hlo, hb, hc i hin, hfr i, fun w' hbw y hy => ?_⟩
  have hf' := hf.below hbw
  have hst := hf'.row.own.stored i (.float .f32 y)
  rw [← List.map_set] at hst
  refine ⟨RepFF.setIn (ys := (Xs.getD j []).set i y) (ai := some ⟨b, 0, none⟩) (ci := cj) (h.below hbw) hj (by rw [hn]; exact e) (by simp) (fun z hz => ?_) (by rw [hn]; exact hst.1) hst.2, (Touch.of_below hbw).trans (Touch.of_grown hf'.row hst.2)⟩
  rcases List.mem_or_eq_of_mem_set hz with hz | rfl
  · exact hf.lt z hz
  · exact hy
/-- what the rows hold -/
structure RowsAre (S n : Nat) (A B : Nat → Nat) (Xs : List (List Nat)) : Prop where
  all : ∀ j, j < S → (Xs.getD j []).length = n
  one : 1 ≤ S → (Xs.getD 0 []).map (cn .f32) = listOf n A
  two : 2 ≤ S → (Xs.getD 1 []).map (cn .f32) = listOf n B
/-- what a slot becomes -/
def upE (k : Int) (b1 b2 g a : Nat) : Nat := if k = 1 then fop .add .f32 (fop .mul .f32 b1 a) g else if k = 2 then fop .add .f32 a (fop .mul .f32 g g) else if k = 3 then blE b2 a (fop .mul .f32 g g) else blE b1 a g
def upF (b2 g b : Nat) : Nat := blE b2 b (fop .mul .f32 g g)
/-- what a parameter becomes -/
def outE (k : Int) (r ep fs sn x g u v : Nat) : Nat :=
  if k = 0 then fop .sub .f32 x (fop .mul .f32 r g) else if k = 1 then fop .sub .f32 x (fop .mul .f32 r u) else if k = 4 then leE r ep x (fop .quo .f32 u fs) (fop .quo .f32 v sn) else leE r ep x g u
def StepPost (w : World) (lo hi : Nat) (ad : Option Addr) (S cap n : Nat) (vs : List Value) (A B : Nat → Nat) (c : Nat) (e : Ending) (w' : World) : Prop :=
  ∃ y Ys, e = .returned (.float .f32 y) ∧ cn .f32 y = c ∧ y < 4294967296 ∧ RepFF w' lo hi ad S cap vs Ys ∧ RowsAre S n A B Ys ∧ Touch lo hi w w'
set_option maxRecDepth 100000 in
set_option maxHeartbeats 2000000 in
theorem impl_step0 (w : World) {lo hi : Nat} (ad : Option Addr) (cap n i : Nat) (vs : List Value) (Xs : List (List Nat)) (h : RepFF w lo hi ad 0 cap vs Xs) (A B : Nat → Nat) (hA : RowsAre 0 n A B Xs) (r b1 b2 ep x g fs sn : Nat) :
    Calls Try.prog 81 #[.agg #[.int .i64 0, .float .f32 r, .float .f32 b1, .float .f32 b2, .float .f32 ep], .float .f32 x, .float .f32 g, .slice ad 0 cap, .int .i64 i, .float .f32 fs, .float .f32 sn] w
      (StepPost w lo hi ad 0 cap n vs A B (outE 0 (cn .f32 r) (cn .f32 ep) (cn .f32 fs) (cn .f32 sn) (cn .f32 x) (cn .f32 g) 0 0)) := by
  have H := Lib.hid h; have HA := Lib.hid hA; clear h hA
  go_enter Try.func81, Try.ntmps81
  go_wp2
  go_ret
  refine ⟨_, Xs, rfl, ?_, fbits_lt _ .f32 _ _ _, H.out.below (below_drewN (below1 _ _) _), HA.out, Touch.of_below (below_drewN (below1 _ _) _)⟩
  rw [cn_fbits, cn_fbits]; rfl
set_option maxRecDepth 100000 in
set_option maxHeartbeats 4000000 in
theorem impl_step1 (w : World) {lo hi : Nat} (ad : Option Addr) (cap n i : Nat) (vs : List Value) (Xs : List (List Nat)) (h : RepFF w lo hi ad 1 cap vs Xs) (A B U V : Nat → Nat) (hA : RowsAre 1 n (stepf i U A) (stepf i V B) Xs) (hin : i < n) (hn : n ≤ 256) (r b1 b2 ep x g fs sn : Nat) (hU : U i = upE 1 (cn .f32 b1) (cn .f32 b2) (cn .f32 g) (A i)) :
    Calls Try.prog 81 #[.agg #[.int .i64 1, .float .f32 r, .float .f32 b1, .float .f32 b2, .float .f32 ep], .float .f32 x, .float .f32 g, .slice ad 1 cap, .int .i64 i, .float .f32 fs, .float .f32 sn] w
      (StepPost w lo hi ad 1 cap n vs (stepf (i + 1) U A) (stepf (i + 1) V B) (outE 1 (cn .f32 r) (cn .f32 ep) (cn .f32 fs) (cn .f32 sn) (cn .f32 x) (cn .f32 g) (U i) (V i))) := by
  obtain ⟨bo, rfl, hlo0, hbs0, hgc, _⟩ := h.addr (by omega)
  obtain ⟨b, cj, e0, hlo, hbs, hc, hf, hset⟩ := h.setNum (j := 0) (by omega) (hA.all 0 (by omega)) hin
  have hg0 := hgc 0 (by omega)
  rw [e0] at hg0
  obtain ⟨a, ha⟩ : ∃ a, a = (Xs.getD 0 []).getD i 0 := ⟨_, rfl⟩
  rw [← ha] at hc
  have hac : cn .f32 a = A i := by rw [ha, cn_at (hA.one (by omega)) hin, stepf_at]
  have H := Lib.hid h; have HA := Lib.hid hA; have HS := Lib.hid hset; have HU := Lib.hid hU; have HAC := Lib.hid hac
  clear h hA hgc e0 hset ha hU hac
  go_enter Try.func81, Try.ntmps81
  go_wp2
  refine wp_region_drawn (fun f args u => False) (by kernel_rfl) (by kernel_rfl) ?_
  repeat (refine wset_step (fun K hK nq => ?_); go_simp; refine hK _ ?_; clear hK K)
  generalize hy : fbits BinOp.add FloatKind.f32 _ g _ = y
  have hyc : cn .f32 y = U i := by rw [← hy, cn_fbits, cn_fbits, HAC.out, HU.out]; rfl
  have hyl : y < 4294967296 := by rw [← hy]; exact fbits_lt _ .f32 _ _ _
  have HY := Lib.hid (And.intro hyc hyl)
  clear hyc hyl hy
  refine wset_nil ?_
  rintro w' ⟨q, rfl⟩
  go_wp2
  go_ret
  have h2 := HS.out _ (below_drewN (below1 w (.cells #[.int .i64 1, .float .f32 r, .float .f32 b1, .float .f32 b2, .float .f32 ep] 26)) q) y HY.out.2
  refine ⟨_, _, rfl, ?_, fbits_lt _ .f32 _ _ _, h2.1.below (below_drewN (Below.refl _ _) _), ⟨fun j hj => ?_, fun _ => ?_, fun h => by omega⟩, h2.2.trans (Touch.of_below (below_drewN (Below.refl _ _) _))⟩
  · rw [cn_fbits, cn_fbits, HY.out.1]; rfl
  · rw [getD_set _ _ _ _ _ (by rw [H.out.len]; omega)]
    have := HA.out.all 0 (by omega)
    rw [if_pos (by omega)]; simpa using this
  · rw [getD_set _ _ _ _ _ (by rw [H.out.len]; omega), if_pos rfl]
    exact set_listOf (HA.out.one (by omega)) HY.out.1
set_option maxRecDepth 100000 in
set_option maxHeartbeats 4000000 in
theorem impl_step2 (w : World) {lo hi : Nat} (ad : Option Addr) (cap n i : Nat) (vs : List Value) (Xs : List (List Nat)) (h : RepFF w lo hi ad 1 cap vs Xs) (A B U V : Nat → Nat) (hA : RowsAre 1 n (stepf i U A) (stepf i V B) Xs) (hin : i < n) (hn : n ≤ 256) (r b1 b2 ep x g fs sn : Nat) (hU : U i = upE 2 (cn .f32 b1) (cn .f32 b2) (cn .f32 g) (A i)) :
    Calls Try.prog 81 #[.agg #[.int .i64 2, .float .f32 r, .float .f32 b1, .float .f32 b2, .float .f32 ep], .float .f32 x, .float .f32 g, .slice ad 1 cap, .int .i64 i, .float .f32 fs, .float .f32 sn] w
      (StepPost w lo hi ad 1 cap n vs (stepf (i + 1) U A) (stepf (i + 1) V B) (outE 2 (cn .f32 r) (cn .f32 ep) (cn .f32 fs) (cn .f32 sn) (cn .f32 x) (cn .f32 g) (U i) (V i))) := by
  obtain ⟨bo, rfl, hlo0, hbs0, hgc, _⟩ := h.addr (by omega)
  obtain ⟨b, cj, e0, hlo, hbs, hc, hf, hset⟩ := h.setNum (j := 0) (by omega) (hA.all 0 (by omega)) hin
  have hg0 := hgc 0 (by omega)
  rw [e0] at hg0
  obtain ⟨a, ha⟩ : ∃ a, a = (Xs.getD 0 []).getD i 0 := ⟨_, rfl⟩
  rw [← ha] at hc
  have hac : cn .f32 a = A i := by rw [ha, cn_at (hA.one (by omega)) hin, stepf_at]
  have H := Lib.hid h; have HA := Lib.hid hA; have HS := Lib.hid hset; have HU := Lib.hid hU; have HAC := Lib.hid hac
  clear h hA hgc e0 hset ha hU hac
  go_enter Try.func81, Try.ntmps81
  go_wp2_with fail
  generalize hy : fbits BinOp.add FloatKind.f32 a _ _ = y
  have hyc : cn .f32 y = U i := by rw [← hy, cn_fbits, cn_fbits, HAC.out, HU.out]; rfl
  have hyl : y < 4294967296 := by rw [← hy]; exact fbits_lt _ .f32 _ _ _
  have HY := Lib.hid (And.intro hyc hyl)
  clear hyc hyl hy
  refine (impl_less 2 r b1 b2 ep x g y HY.out.2 _).mono ?_
  rintro e w1 ⟨z, rfl, hz, hb⟩
  have hbk := hb
  have HB := Lib.hid hb; clear hb
  go_wp2
  go_ret
  refine ⟨_, _, rfl, ?_, hz.out.2, (HS.out _ (below_drewN (below1 w (.cells #[.int .i64 2, .float .f32 r, .float .f32 b1, .float .f32 b2, .float .f32 ep] 26)) _) y HY.out.2).1.below HB.out, ⟨fun j hj => ?_, fun _ => ?_, fun h => by omega⟩, (HS.out _ (below_drewN (below1 w (.cells #[.int .i64 2, .float .f32 r, .float .f32 b1, .float .f32 b2, .float .f32 ep] 26)) _) y HY.out.2).2.trans (Touch.of_below HB.out)⟩
  · rw [hz.out.1, HY.out.1]; rfl
  · rw [getD_set _ _ _ _ _ (by rw [H.out.len]; omega)]
    have := HA.out.all 0 (by omega)
    rw [if_pos (by omega)]; simpa using this
  · rw [getD_set _ _ _ _ _ (by rw [H.out.len]; omega), if_pos rfl]
    exact set_listOf (HA.out.one (by omega)) HY.out.1
set_option maxRecDepth 100000 in
set_option maxHeartbeats 4000000 in
theorem impl_step3 (w : World) {lo hi : Nat} (ad : Option Addr) (cap n i : Nat) (vs : List Value) (Xs : List (List Nat)) (h : RepFF w lo hi ad 1 cap vs Xs) (A B U V : Nat → Nat) (hA : RowsAre 1 n (stepf i U A) (stepf i V B) Xs) (hin : i < n) (hn : n ≤ 256) (r b1 b2 ep x g fs sn : Nat) (hU : U i = upE 3 (cn .f32 b1) (cn .f32 b2) (cn .f32 g) (A i)) :
    Calls Try.prog 81 #[.agg #[.int .i64 3, .float .f32 r, .float .f32 b1, .float .f32 b2, .float .f32 ep], .float .f32 x, .float .f32 g, .slice ad 1 cap, .int .i64 i, .float .f32 fs, .float .f32 sn] w
      (StepPost w lo hi ad 1 cap n vs (stepf (i + 1) U A) (stepf (i + 1) V B) (outE 3 (cn .f32 r) (cn .f32 ep) (cn .f32 fs) (cn .f32 sn) (cn .f32 x) (cn .f32 g) (U i) (V i))) := by
  obtain ⟨bo, rfl, hlo0, hbs0, hgc, _⟩ := h.addr (by omega)
  obtain ⟨b, cj, e0, hlo, hbs, hc, hf, hset⟩ := h.setNum (j := 0) (by omega) (hA.all 0 (by omega)) hin
  have hg0 := hgc 0 (by omega)
  rw [e0] at hg0
  obtain ⟨a, ha⟩ : ∃ a, a = (Xs.getD 0 []).getD i 0 := ⟨_, rfl⟩
  rw [← ha] at hc
  have hac : cn .f32 a = A i := by rw [ha, cn_at (hA.one (by omega)) hin, stepf_at]
  have H := Lib.hid h; have HA := Lib.hid hA; have HS := Lib.hid hset; have HU := Lib.hid hU; have HAC := Lib.hid hac
  clear h hA hgc e0 hset ha hU hac
  go_enter Try.func81, Try.ntmps81
  go_wp2
  refine wp_region_drawn (fun f args u => VF (U i) u) (by kernel_rfl) (by kernel_rfl) ?_
  iterate 11 (refine wset_step (fun K hK nq => ?_); go_simp; refine hK _ ?_; clear hK K)
  refine wset_step (fun K hK nq => ?_)
  go_simp
  refine ⟨(impl_blend b2 a _ _).mono ?_, ?_⟩
  · rintro e w' ⟨y, rfl, hy, q, rfl⟩
    exact ⟨_, rfl, ⟨_, World.drewN_drewN _ _ _⟩, y, rfl, by rw [hy.out.1, cn_fbits, HAC.out, HU.out]; rfl, hy.out.2⟩
  rintro u ⟨y, rfl, hy⟩
  refine hK _ ?_
  clear hK K
  have HY := Lib.hid hy; clear hy
  repeat (refine wset_step (fun K hK nq => ?_); go_simp; refine hK _ ?_; clear hK K)
  refine wset_nil ?_
  rintro w' ⟨q, rfl⟩
  go_wp2_with fail
  refine (impl_less 3 r b1 b2 ep x g y HY.out.2 _).mono ?_
  rintro e w1 ⟨z, rfl, hz, hb⟩
  have hbk := hb
  have HB := Lib.hid hb; clear hb
  go_wp2
  go_ret
  refine ⟨_, _, rfl, ?_, hz.out.2, (HS.out _ (below_drewN (below1 w (.cells #[.int .i64 3, .float .f32 r, .float .f32 b1, .float .f32 b2, .float .f32 ep] 26)) _) y HY.out.2).1.below HB.out, ⟨fun j hj => ?_, fun _ => ?_, fun h => by omega⟩, (HS.out _ (below_drewN (below1 w (.cells #[.int .i64 3, .float .f32 r, .float .f32 b1, .float .f32 b2, .float .f32 ep] 26)) _) y HY.out.2).2.trans (Touch.of_below HB.out)⟩
  · rw [hz.out.1, HY.out.1]; rfl
  · rw [getD_set _ _ _ _ _ (by rw [H.out.len]; omega)]
    have := HA.out.all 0 (by omega)
    rw [if_pos (by omega)]; simpa using this
  · rw [getD_set _ _ _ _ _ (by rw [H.out.len]; omega), if_pos rfl]
    exact set_listOf (HA.out.one (by omega)) HY.out.1
end Go.Proofs.Ytnhikdjljjemlaa
/- One number's step in slots: the program's, two slots. No condition. -/
namespace Go.Proofs.Ytnhikdjljjemlaa
open Go Go.RowKit
set_option linter.unusedVariables false
set_option linter.unusedSimpArgs false
theorem RepFF.setTwo {w : World} {lo hi cap : Nat} {ad : Option Addr} {vs : List Value} {Xs : List (List Nat)} (h : RepFF w lo hi ad 2 cap vs Xs) {i n : Nat} (hn : ∀ j, j < 2 → (Xs.getD j []).length = n) (hin : i < n) :
    ∃ b b' c c', vs.getD 0 (.slice none 0 0) = .slice (some ⟨b, 0, none⟩) n c ∧ vs.getD 1 (.slice none 0 0) = .slice (some ⟨b', 0, none⟩) n c' ∧ b < w.heap.size ∧ b' < w.heap.size ∧ b ≠ b' ∧
      w.cell? ⟨b, i, none⟩ = some (.float .f32 ((Xs.getD 0 []).getD i 0)) ∧ w.frozen? ⟨b, i, none⟩ = false ∧ w.cell? ⟨b', i, none⟩ = some (.float .f32 ((Xs.getD 1 []).getD i 0)) ∧ w.frozen? ⟨b', i, none⟩ = false ∧
      ∀ w', Below w.heap.size w w' → ∀ y z, y < 4294967296 → z < 4294967296 → RepFF ((w'.setCell ⟨b, i, none⟩ (.float .f32 y)).setCell ⟨b', i, none⟩ (.float .f32 z)) lo hi ad 2 cap vs ((Xs.set 0 ((Xs.getD 0 []).set i y)).set 1 ((Xs.getD 1 []).set i z)) ∧ Touch lo hi w ((w'.setCell ⟨b, i, none⟩ (.float .f32 y)).setCell ⟨b', i, none⟩ (.float .f32 z)) := by
  have hx := h.len
  obtain ⟨b, c, e0, _, h1, h2, h3, h4⟩ := h.setNum (j := 0) (by omega) (hn 0 (by omega)) hin
  obtain ⟨b', c', e1, _, g1, g2, g3, g4⟩ := h.setNum (j := 1) (by omega) (hn 1 (by omega)) hin
  refine ⟨b, b', c, c', e0, e1, h1, g1, ?_, h2, h3, g2, g3, fun w' hb y z hy hz => ?_⟩
  · intro e
    have := h.sep 0 1 (by omega) (by omega) (by omega) b (by rw [e0]; rfl)
    rw [e1, e] at this
    exact this rfl
  · have k := h4 w' hb y hy
    have ek : (Xs.set 0 ((Xs.getD 0 []).set i y)).getD 1 [] = Xs.getD 1 [] := by rw [getD_set _ _ _ _ _ (by omega), if_neg (by omega)]
    obtain ⟨b2, c2, e2, _, _, _, _, k4⟩ := k.1.setNum (j := 1) (by omega) (by rw [ek]; exact hn 1 (by omega)) hin
    rw [e1] at e2
    cases e2
    have k5 := k4 _ (Below.refl _ _) z hz
    rw [ek] at k5
    exact ⟨k5.1, k.2.trans k5.2⟩
@[go_sem] theorem drawn_more (w : World) (a b : Nat) : Drawn (w.drewN a) (w.drewN (a + b)) = True := eq_true ⟨b, (World.drewN_drewN _ _ _).symm⟩
theorem drawn_more3 (w : World) (a b c d : Nat) : Drawn (w.drewN a) ((w.drewN (a + b + c)).drewN d) := ⟨b + c + d, by rw [World.drewN_drewN, World.drewN_drewN]; congr 1; omega⟩
theorem drawn_more4 (w : World) (a b d : Nat) : Drawn (w.drewN a) ((w.drewN (a + b)).drewN d) := ⟨b + d, by rw [World.drewN_drewN, World.drewN_drewN]; congr 1; omega⟩
@[go_sem] theorem drawn_more2 (w : World) (a b c : Nat) : Drawn (w.drewN a) (w.drewN (a + b + c)) = True := eq_true ⟨b + c, by rw [World.drewN_drewN, Nat.add_assoc]⟩
set_option maxRecDepth 100000 in
set_option maxHeartbeats 8000000 in
theorem impl_step4 (w : World) {lo hi : Nat} (ad : Option Addr) (cap n i : Nat) (vs : List Value) (Xs : List (List Nat)) (h : RepFF w lo hi ad 2 cap vs Xs) (A B U V : Nat → Nat) (hA : RowsAre 2 n (stepf i U A) (stepf i V B) Xs) (hin : i < n) (hn : n ≤ 256) (r b1 b2 ep x g fs sn : Nat) (hU : U i = upE 4 (cn .f32 b1) (cn .f32 b2) (cn .f32 g) (A i)) (hV : V i = upF (cn .f32 b2) (cn .f32 g) (B i)) :
    Calls Try.prog 81 #[.agg #[.int .i64 4, .float .f32 r, .float .f32 b1, .float .f32 b2, .float .f32 ep], .float .f32 x, .float .f32 g, .slice ad 2 cap, .int .i64 i, .float .f32 fs, .float .f32 sn] w
      (StepPost w lo hi ad 2 cap n vs (stepf (i + 1) U A) (stepf (i + 1) V B) (outE 4 (cn .f32 r) (cn .f32 ep) (cn .f32 fs) (cn .f32 sn) (cn .f32 x) (cn .f32 g) (U i) (V i))) := by
  obtain ⟨bo, rfl, hlo0, hbs0, hgc, _⟩ := h.addr (by omega)
  obtain ⟨b, b', cj, cj', e0, e1, hbs, hbs', hne, hc, hf, hc', hf', hset⟩ := h.setTwo hA.all hin
  have hg0 := hgc 0 (by omega)
  have hg1 := hgc 1 (by omega)
  rw [e0] at hg0
  rw [e1] at hg1
  obtain ⟨a, ha⟩ : ∃ a, a = (Xs.getD 0 []).getD i 0 := ⟨_, rfl⟩
  obtain ⟨d, hd⟩ : ∃ d, d = (Xs.getD 1 []).getD i 0 := ⟨_, rfl⟩
  rw [← ha] at hc
  rw [← hd] at hc'
  have hac : cn .f32 a = A i := by rw [ha, cn_at (hA.one (by omega)) hin, stepf_at]
  have hdc : cn .f32 d = B i := by rw [hd, cn_at (hA.two (by omega)) hin, stepf_at]
  have H := Lib.hid h; have HA := Lib.hid hA; have HS := Lib.hid hset; have HU := Lib.hid hU; have HV := Lib.hid hV; have HAC := Lib.hid hac; have HDC := Lib.hid hdc
  clear h hA hgc e0 e1 hset ha hd hU hV hac hdc
  go_enter Try.func81, Try.ntmps81
  go_wp2
  refine wp_region_drawn (fun f args u => VF (U i) u) (by kernel_rfl) (by kernel_rfl) ?_
  iterate 9 (refine wset_step (fun K hK nq => ?_); go_simp; refine hK _ ?_; clear hK K)
  refine wset_step (fun K hK nq => ?_)
  go_simp
  refine ⟨(impl_blend b1 a _ _).mono ?_, ?_⟩
  · rintro e w' ⟨y, rfl, hy, q, rfl⟩
    exact ⟨_, rfl, ⟨_, World.drewN_drewN _ _ _⟩, y, rfl, by rw [hy.out.1, HAC.out, HU.out]; rfl, hy.out.2⟩
  rintro u ⟨y, rfl, hy⟩
  refine hK _ ?_
  clear hK K
  have HY := Lib.hid hy; clear hy
  repeat (refine wset_step (fun K hK nq => ?_); go_simp; refine hK _ ?_; clear hK K)
  refine wset_nil ?_
  rintro w' ⟨q, rfl⟩
  go_wp2
  refine wp_region_drawn (fun f args u => VF (V i) u) (by kernel_rfl) (by kernel_rfl) ?_
  iterate 11 (refine wset_step (fun K hK nq => ?_); go_simp; refine hK _ ?_; clear hK K)
  refine wset_step (fun K hK nq => ?_)
  go_simp
  refine ⟨(impl_blend b2 d _ _).mono ?_, ?_⟩
  · rintro e w' ⟨y, rfl, hy, q, rfl⟩
    exact ⟨_, rfl, by first | exact drawn_more3 _ _ _ _ _ | exact drawn_more4 _ _ _ _, y, rfl, by rw [hy.out.1, cn_fbits, HDC.out, HV.out]; rfl, hy.out.2⟩
  rintro u ⟨z, rfl, hz⟩
  refine hK _ ?_
  clear hK K
  have HZ := Lib.hid hz; clear hz
  repeat (refine wset_step (fun K hK nq => ?_); go_simp; refine hK _ ?_; clear hK K)
  refine wset_nil ?_
  rintro w' ⟨q2, rfl⟩
  go_wp2
  go_region
  go_wp2_with fail
  generalize hp : fbits BinOp.quo FloatKind.f32 y fs _ = p
  generalize ho : fbits BinOp.quo FloatKind.f32 z sn _ = o
  have hP : cn .f32 p = fop .quo .f32 (U i) (cn .f32 fs) := by rw [← hp, cn_fbits, HY.out.1]
  have hO : cn .f32 o = fop .quo .f32 (V i) (cn .f32 sn) := by rw [← ho, cn_fbits, HZ.out.1]
  have hol : o < 4294967296 := by rw [← ho]; exact fbits_lt _ .f32 _ _ _
  clear hp ho
  refine (impl_less 4 r b1 b2 ep x p o hol _).mono ?_
  rintro e w1 ⟨t, rfl, ht, hb⟩
  have hbk := hb
  have HB := Lib.hid hb; clear hb
  go_wp2
  go_ret
  refine ⟨_, _, rfl, ?_, ht.out.2, ((HS.out _ (below_drewN (below1 w (.cells #[.int .i64 4, .float .f32 r, .float .f32 b1, .float .f32 b2, .float .f32 ep] 26)) _) y z HY.out.2 HZ.out.2).1.below (below_drewN (Below.refl _ _) _)).below HB.out, ⟨fun j hj => ?_, fun _ => ?_, fun _ => ?_⟩, (HS.out _ (below_drewN (below1 w (.cells #[.int .i64 4, .float .f32 r, .float .f32 b1, .float .f32 b2, .float .f32 ep] 26)) _) y z HY.out.2 HZ.out.2).2.trans ((Touch.of_below (below_drewN (Below.refl _ _) _)).trans (Touch.of_below HB.out))⟩
  · rw [ht.out.1, hP, hO]; rfl
  · have hx := H.out.len
    rw [getD_set _ _ _ _ _ (by simp; omega), getD_set _ _ _ _ _ (by omega)]
    have l0 := HA.out.all 0 (by omega)
    have l1 := HA.out.all 1 (by omega)
    by_cases h1 : j = 1
    · rw [if_pos h1]; simpa using l1
    · rw [if_neg h1, if_pos (by omega)]; simpa using l0
  · have hx := H.out.len
    rw [getD_set _ _ _ _ _ (by simp; omega), if_neg (by omega), getD_set _ _ _ _ _ (by omega), if_pos rfl]
    exact set_listOf (HA.out.one (by omega)) HY.out.1
  · have hx := H.out.len
    rw [getD_set _ _ _ _ _ (by simp; omega), if_pos rfl]
    exact set_listOf (HA.out.two (by omega)) HZ.out.1
theorem impl_step (w : World) {lo hi : Nat} (k : Int) (hk : inB k 0 4 = true) (ad : Option Addr) (cap n i : Nat) (vs : List Value) (Xs : List (List Nat)) (h : RepFF w lo hi ad (slotsN k) cap vs Xs) (A B U V : Nat → Nat) (hA : RowsAre (slotsN k) n (stepf i U A) (stepf i V B) Xs) (hin : i < n) (hn : n ≤ 256) (r b1 b2 ep x g fs sn : Nat) (hU : U i = upE k (cn .f32 b1) (cn .f32 b2) (cn .f32 g) (A i)) (hV : V i = upF (cn .f32 b2) (cn .f32 g) (B i)) :
    Calls Try.prog 81 #[.agg #[.int .i64 k, .float .f32 r, .float .f32 b1, .float .f32 b2, .float .f32 ep], .float .f32 x, .float .f32 g, .slice ad (slotsN k) cap, .int .i64 i, .float .f32 fs, .float .f32 sn] w
      (StepPost w lo hi ad (slotsN k) cap n vs (stepf (i + 1) U A) (stepf (i + 1) V B) (outE k (cn .f32 r) (cn .f32 ep) (cn .f32 fs) (cn .f32 sn) (cn .f32 x) (cn .f32 g) (U i) (V i))) := by
  have ⟨k0, k1⟩ := inB_iff.1 hk
  have : k = 0 ∨ k = 1 ∨ k = 2 ∨ k = 3 ∨ k = 4 := by omega
  rcases this with rfl | rfl | rfl | rfl | rfl
  · exact (impl_step0 w ad cap n i vs Xs h _ _ hA r b1 b2 ep x g fs sn).mono fun e w' ⟨y, Ys, h1, h2, h3, h4, h5, h6⟩ => ⟨y, Ys, h1, h2, h3, h4, ⟨h5.all, fun h => absurd h (by decide), fun h => absurd h (by decide)⟩, h6⟩
  · exact impl_step1 w ad cap n i vs Xs h A B U V hA hin hn r b1 b2 ep x g fs sn hU
  · exact impl_step2 w ad cap n i vs Xs h A B U V hA hin hn r b1 b2 ep x g fs sn hU
  · exact impl_step3 w ad cap n i vs Xs h A B U V hA hin hn r b1 b2 ep x g fs sn hU
  · exact impl_step4 w ad cap n i vs Xs h A B U V hA hin hn r b1 b2 ep x g fs sn hU hV
end Go.Proofs.Ytnhikdjljjemlaa
/- A step of all parameters: the program's. No condition. -/
namespace Go.Proofs.Ytnhikdjljjemlaa
open Go Go.RowKit
set_option linter.unusedVariables false
set_option linter.unusedSimpArgs false
def stA (Xs : List (List Nat)) (i : Nat) : Nat := ((Xs.getD 0 []).map (cn .f32)).getD i 0
def stB (Xs : List (List Nat)) (i : Nat) : Nat := ((Xs.getD 1 []).map (cn .f32)).getD i 0
def stU (k : Int) (b1 b2 : Nat) (gs : List Nat) (Xs : List (List Nat)) (i : Nat) : Nat := upE k (cn .f32 b1) (cn .f32 b2) (cn .f32 (gs.getD i 0)) (stA Xs i)
def stV (b2 : Nat) (gs : List Nat) (Xs : List (List Nat)) (i : Nat) : Nat := upF (cn .f32 b2) (cn .f32 (gs.getD i 0)) (stB Xs i)
def stF (b s : Nat) : Nat := fop .sub .f32 ONE (powF (cn .f32 b) (s + 1))
def stO (k : Int) (r b1 b2 ep s : Nat) (ps gs : List Nat) (Xs : List (List Nat)) (i : Nat) : Nat :=
  outE k (cn .f32 r) (cn .f32 ep) (stF b1 s) (stF b2 s) (cn .f32 (ps.getD i 0)) (cn .f32 (gs.getD i 0)) (stU k b1 b2 gs Xs i) (stV b2 gs Xs i)
theorem rows_start {S n : Nat} {Xs : List (List Nat)} (h : ∀ j, j < S → (Xs.getD j []).length = n) : RowsAre S n (stA Xs) (stB Xs) Xs := by
  refine ⟨h, fun h1 => ?_, fun h2 => ?_⟩
  · have := eq_listOf ((Xs.getD 0 []).map (cn .f32))
    rw [List.length_map, h 0 (by omega)] at this
    exact this
  · have := eq_listOf ((Xs.getD 1 []).map (cn .f32))
    rw [List.length_map, h 1 (by omega)] at this
    exact this
theorem RepFF.belowHi {w w' : World} {lo hi B : Nat} {ad : Option Addr} {n cap : Nat} {vs : List Value} {Xs : List (List Nat)} (h : RepFF w lo hi ad n cap vs Xs) (hb : Below B w w') (hB : hi ≤ B) : RepFF w' lo hi ad n cap vs Xs :=
  h.touch (lo2 := B) (hi2 := w.heap.size) ⟨hb.os, hb.tape, hb.output, hb.size, fun k hk hd => hb.block k (by omega)⟩ (.inl hB)
theorem OptAt.touch {w w' : World} {lo hi g : Nat} {k : Int} {r b1 b2 ep : Nat} (h : OptAt w g k r b1 b2 ep) (ht : Touch lo hi w w') (hg : g < lo ∨ hi ≤ g) : OptAt w' g k r b1 b2 ep :=
  have b := fun o => World.cell?_of_block (w := w) (w' := w') (a := ⟨g, o, none⟩) (ht.block g h.lt hg)
  ⟨Nat.lt_of_lt_of_le h.lt ht.size, (b 0).trans h.c0, (b 1).trans h.c1, (b 2).trans h.c2, (b 3).trans h.c3, (b 4).trans h.c4⟩
/-- a value that a call gives: a 32-bit number -/
def VG (c : Nat) (v : Value) : Prop := ∃ r, v = .float .f32 r ∧ cn .f32 r = c
def argF (args : Array Value) : Nat := match args.toList with
  | Value.float .f32 b :: _ => b
  | _ => 0
/-- the end of a step of all -/
def StepsPost (w : World) (S n : Nat) (O U V : Nat → Nat) (e : Ending) (w' : World) : Prop :=
  ∃ a1 c1 ys a2 c2 us Ys mid, e = .returned (.tuple #[.slice a1 n c1, .slice a2 S c2]) ∧ RepF w' mid w'.heap.size a1 n c1 ys ∧ ys.map (cn .f32) = listOf n O ∧
    RepFF w' w.heap.size mid a2 S c2 us Ys ∧ RowsAre S n U V Ys ∧ w.heap.size ≤ mid ∧ mid ≤ w'.heap.size ∧ Below w.heap.size w w'
set_option maxRecDepth 100000 in
set_option maxHeartbeats 8000000 in
theorem impl_steps (w : World) {lo hi : Nat} (k : Int) (hk : inB k 0 4 = true) (r b1 b2 ep : Nat) (pa : Option Addr) (pc n : Nat) (ps : List Nat) (hp : F32s w pa pc ps) (hpn : n = ps.length) (ga : Option Addr) (gc : Nat) (gs : List Nat) (hg : F32s w ga gc gs) (hgn : n = gs.length) (hn : n ≤ 256)
    (sa : Option Addr) (sc : Nat) (vs : List Value) (Xs : List (List Nat)) (h : RepFF w lo hi sa (slotsN k) sc vs Xs) (hX : ∀ j, j < slotsN k → (Xs.getD j []).length = n) (s : Nat) (hs : s ≤ 999) :
    Calls Try.prog 43 #[.agg #[.int .i64 k, .float .f32 r, .float .f32 b1, .float .f32 b2, .float .f32 ep], .slice pa n pc, .slice ga n gc, .slice sa (slotsN k) sc, .int .i64 s] w
      (StepsPost w (slotsN k) n (stO k r b1 b2 ep s ps gs Xs) (stU k b1 b2 gs Xs) (stV b2 gs Xs)) := by
  obtain ⟨i0, hi, hz0, hz1, hz2⟩ := info_parts info_f32
  have hSl := slotsN_le k
  have hA := rows_start hX
  obtain ⟨A, eA⟩ : ∃ A, A = stA Xs := ⟨_, rfl⟩
  obtain ⟨B, eB⟩ : ∃ B, B = stB Xs := ⟨_, rfl⟩
  obtain ⟨U, eU⟩ : ∃ U, U = stU k b1 b2 gs Xs := ⟨_, rfl⟩
  obtain ⟨V, eV⟩ : ∃ V, V = stV b2 gs Xs := ⟨_, rfl⟩
  obtain ⟨O, eO⟩ : ∃ O, O = stO k r b1 b2 ep s ps gs Xs := ⟨_, rfl⟩
  have hU : ∀ i, U i = upE k (cn .f32 b1) (cn .f32 b2) (cn .f32 (gs.getD i 0)) (A i) := fun i => by rw [eU, eA]; rfl
  have hV : ∀ i, V i = upF (cn .f32 b2) (cn .f32 (gs.getD i 0)) (B i) := fun i => by rw [eV, eB]; rfl
  have hO : ∀ i, O i = outE k (cn .f32 r) (cn .f32 ep) (stF b1 s) (stF b2 s) (cn .f32 (ps.getD i 0)) (cn .f32 (gs.getD i 0)) (U i) (V i) := fun i => by rw [eO, eU, eV]; rfl
  rw [← eO, ← eU, ← eV]
  rw [← eA, ← eB] at hA
  have kst := fun W lo hi na nc i us Ys (hr : RepFF W lo hi na (slotsN k) nc us Ys) (hA : RowsAre (slotsN k) n (stepf i U A) (stepf i V B) Ys) hin x fs sn => impl_step W k hk na nc n i us Ys hr A B U V hA hin hn r b1 b2 ep x (gs.getD i 0) fs sn (hU i) (hV i)
  have kcp := fun W lo hi (hr : RepFF W lo hi sa (slotsN k) sc vs Xs) => impl_copyLists W sa (slotsN k) sc vs Xs hr (by omega) (fun i hi => by rw [hX i hi]; omega)
  obtain ⟨S, eS⟩ : ∃ S, S = slotsN k := ⟨_, rfl⟩
  rw [← eS] at hA kst kcp h hSl ⊢
  have HO := Lib.hid hO; have HA := Lib.hid hA; have KST := Lib.hid kst; have KCP := Lib.hid kcp; have H := Lib.hid h
  have HPN := Lib.hid hpn; have HGN := Lib.hid hgn
  clear eA eB eU eV eO hU hV hO hA kst kcp h hX eS hpn hgn
  have hwr : IntKind.i64.wrap ((s : Int) + 1) = (s : Int) + 1 := IntWalk.i64_in _ (by omega)
  go_enter Try.func43, Try.ntmps43
  go_wp2
  refine wp_region_drawn (fun f args u => VG (powF (cn .f32 (argF args)) (s + 1)) u) (by kernel_rfl) (by kernel_rfl) ?_
  iterate 4 (refine wset_step (fun K hK nq => ?_); go_simp; refine hK _ ?_; clear hK K)
  refine wset_step (fun K hK nq => ?_)
  go_simp
  refine ⟨(impl_power b1 ((s : Int) + 1) _ (by omega) (by omega)).mono ?_, ?_⟩
  · rintro e w' ⟨y, rfl, hy, q, rfl⟩
    exact ⟨_, rfl, ⟨_, World.drewN_drewN _ _ _⟩, y, rfl, by rw [hy]; rfl⟩
  rintro u ⟨y1, rfl, hy1⟩
  replace hy1 : cn .f32 y1 = powF (cn .f32 b1) (s + 1) := hy1
  refine hK _ ?_
  clear hK K
  iterate 5 (refine wset_step (fun K hK nq => ?_); go_simp; refine hK _ ?_; clear hK K)
  refine wset_step (fun K hK nq => ?_)
  go_simp
  refine ⟨(impl_power b2 ((s : Int) + 1) _ (by omega) (by omega)).mono ?_, ?_⟩
  · rintro e w' ⟨y, rfl, hy, q, rfl⟩
    exact ⟨_, rfl, ⟨_, World.drewN_drewN _ _ _⟩, y, rfl, by rw [hy]; rfl⟩
  rintro u ⟨y2, rfl, hy2⟩
  replace hy2 : cn .f32 y2 = powF (cn .f32 b2) (s + 1) := hy2
  refine hK _ ?_
  clear hK K
  repeat (refine wset_step (fun K hK nq => ?_); go_simp; refine hK _ ?_; clear hK K)
  generalize hf1 : fbits BinOp.sub FloatKind.f32 _ y1 _ = fs
  generalize hf2 : fbits BinOp.sub FloatKind.f32 _ y2 _ = sn
  have hF1 : cn .f32 fs = stF b1 s := by rw [← hf1, cn_fbits, cn_ONE, hy1]; rfl
  have hF2 : cn .f32 sn = stF b2 s := by rw [← hf2, cn_fbits, cn_ONE, hy2]; rfl
  have HF := Lib.hid (And.intro hF1 hF2)
  clear hf1 hf2 hF1 hF2 hy1 hy2 hwr
  refine wset_nil ?_
  rintro w' ⟨q, rfl⟩
  have hO0 : OptAt ((w.alloc (.cells #[.int .i64 k, .float .f32 r, .float .f32 b1, .float .f32 b2, .float .f32 ep] 26)).drewN q) w.heap.size k r b1 b2 ep := ⟨by simp, by go_simp, by go_simp, by go_simp, by go_simp, by go_simp⟩
  have HO0 := Lib.hid hO0; clear hO0
  have hb0 := below_drewN (below1 w (.cells #[.int .i64 k, .float .f32 r, .float .f32 b1, .float .f32 b2, .float .f32 ep] 26)) q
  go_wp2_with fail
  refine (KCP.out _ _ _ (H.out.below hb0)).mono ?_
  rintro e w3 ⟨na, nc, us, rfl, hr3, hb3⟩
  have hO3 : OptAt w3 w.heap.size k r b1 b2 ep := HO0.out.below hb3 (by simp)
  have hb03 := bthen hb0 hb3
  have hr3 : RepFF w3 (w.heap.size + 1) w3.heap.size na S nc us Xs := hr3.bounds (by simp) (Nat.le_refl _)
  have hs3 : w.heap.size + 1 ≤ w3.heap.size := by have := hb3.size; simpa using this
  have HO3 := Lib.hid hO3; have HB3 := Lib.hid hb03; have HR3 := Lib.hid hr3
  clear hO3 hb03 hr3 hb3 hb0 HO0 KCP
  go_wp2
  go_loopw [15, 35] (fun v i wr => ∃ j : Nat, i = .int .i64 j ∧ j ≤ n ∧ ∃ (Ys : List (List Nat)) (ys : List Nat), RepFF wr (w.heap.size + 1) w3.heap.size na S nc us Ys ∧ RowsAre S n (stepf j U A) (stepf j V B) Ys ∧ OptAt wr w.heap.size k r b1 b2 ep ∧ wr.ownsRow w3.heap.size 24 1 v j (ys.map (Value.float .f32)) ∧ ys.length = j ∧ ys.map (cn .f32) = listOf j O ∧ (∀ y ∈ ys, y < 4294967296) ∧ Below w.heap.size w wr ∧ w3.heap.size ≤ wr.heap.size) (fun _ i _ => n - (intOf i).toNat)
  case atStart => exact ⟨0, rfl, Nat.zero_le _, Xs, [], HR3.out.below (below1 _ _), by rw [stepf_zero, stepf_zero]; exact HA.out, HO3.out.below (below1 _ _) (by omega), World.ownsRow_made _ _ _ (Nat.le_refl _) (Nat.zero_le _) rfl, rfl, rfl, (fun y hy => nomatch hy), HB3.out.trans ((below1 _ _).mono (by omega)), by simp⟩
  case round =>
    obtain ⟨j, rfl, hj, Ys, ys, hr, hA, hO, hown, hyl, hye, hylt, hb, hbs⟩ := hrel
    have HR := Lib.hid hr; have HAR := Lib.hid hA; have HOP := Lib.hid hO; have HOW := Lib.hid hown; have HL := Lib.hid hyl; have HE := Lib.hid hye; have HLT := Lib.hid hylt; have HB := Lib.hid hb
    clear hr hA hO hown hyl hye hylt hb
    by_cases hlt : j < n
    · obtain ⟨bp, op, rfl, hbp, hcp⟩ := hp.spot (k := j) (by rw [← HPN.out]; exact hlt)
      obtain ⟨bg, og, rfl, hbg, hcg⟩ := hg.spot (k := j) (by rw [← HGN.out]; exact hlt)
      have hcp1 : wr.cell? ⟨bp, op + j, none⟩ = some (.float .f32 (ps.getD j 0)) := (HB.out.cell (p := ⟨bp, op + j, none⟩) hbp).trans (hcp j (by rw [← HPN.out]; exact hlt))
      have hcg1 : wr.cell? ⟨bg, og + j, none⟩ = some (.float .f32 (gs.getD j 0)) := (HB.out.cell (p := ⟨bg, og + j, none⟩) hbg).trans (hcg j (by rw [← HGN.out]; exact hlt))
      obtain ⟨x, hx⟩ : ∃ x, x = ps.getD j 0 := ⟨_, rfl⟩
      obtain ⟨g, hgx⟩ : ∃ g, g = gs.getD j 0 := ⟨_, rfl⟩
      rw [← hx] at hcp1
      rw [← hgx] at hcg1
      have kst := fun W (hr : RepFF W (w.heap.size + 1) w3.heap.size na S nc us Ys) => KST.out W _ _ na nc j us Ys hr HAR.out hlt x fs sn
      rw [← hgx] at kst
      have hOj := HO.out j
      rw [← hx, ← hgx] at hOj
      have K1 := Lib.hid kst; have HOJ := Lib.hid hOj
      have o0 := HOP.out.c0; have o1 := HOP.out.c1; have o2 := HOP.out.c2; have o3 := HOP.out.c3; have o4 := HOP.out.c4
      clear kst hOj hx hgx hcp hcg
      go_wp2
      refine wp_region_tail1 11 _ (fun f args u => False) (by kernel_rfl) (by kernel_rfl) rfl rfl (fun _ _ _ h => h) ?_
      go_simp
      repeat (refine wset_step (fun K hK nq => ?_); go_simp; refine hK _ ?_; clear hK K)
      refine wset_nil ?_
      rintro w' ⟨q, rfl⟩
      go_wp2_with fail
      refine (K1.out _ (HR.out.below (below_drewN (Below.refl _ _) _))).mono ?_
      rintro e w4 ⟨y, Ys', rfl, hyc, hyl, hr4, hA4, ht4⟩
      have hown4 := ((Row.mk' (owns_below HOW.out (below_drewN (Below.refl _ _) q))).touch ht4 (.inr (Nat.le_refl _))).own
      have hO4 := (HOP.out.below (below_drewN (Below.refl _ _) q) HOP.out.lt).touch ht4 (.inl (by omega))
      have hb4 := touch_below (below_drewN HB.out q) ht4 (by omega)
      have hs4 : w3.heap.size ≤ w4.heap.size := by have := ht4.size; simp at this; omega
      have HR4 := Lib.hid hr4; have HA4 := Lib.hid hA4; have HO4 := Lib.hid hO4; have HB4 := Lib.hid hb4
      have HY := Lib.hid (hyc.trans (by rw [HF.out.1, HF.out.2, ← HOJ.out]))
      clear hr4 hA4 hO4 hb4 ht4 hyc
      go_wp2_with (at_builtin; refine wp_app rfl _ _ 29 rfl w3.heap.size i0 (.float .f32 0) 1 4 Try.underlying29 hi hz0 hz1 hz2 rfl (by decide) rfl (one_cell _ rfl) _ _ _ rfl hown4 rfl ?c3 ?c4 ?c5 ?_)
      case c3 => unfold maxLen; omega
      case c4 => omega
      case c5 => exact hs4
      intro v' w9 hown1 hb1 hbs1
      have hR9 := HR4.out.belowHi hb1 (Nat.le_refl _)
      have hO9 := HO4.out.below hb1 (by omega)
      have hb9 := HB4.out.trans (hb1.mono (by omega))
      have HR9 := Lib.hid hR9; have HO9 := Lib.hid hO9; have HB9 := Lib.hid hb9
      have HW9 : Hid (w9.ownsRow w3.heap.size 24 1 v' (j + 1) ((ys ++ [y]).map (Value.float .f32))) := Lib.hid (by simpa using hown1)
      clear hown4 hR9 hO9 hb9 hb1 hown1
      go_wp2
      go_roundw
      case rel =>
        refine ⟨j + 1, by go_num, hlt, Ys', ys ++ [y], HR9.out, HA4.out, HO9.out, HW9.out, by simp [HL.out], ?_, ?_, HB9.out, hbs1⟩
        · rw [List.map_append, List.map_cons, List.map_nil, HE.out, HY.out, listOf_succ]
        · intro z hz
          rcases List.mem_append.1 hz with hz | hz
          · exact HLT.out z hz
          · simp at hz; rw [hz]; exact hyl
      case measure => simp [intOf]; omega
    · have hkn : j = n := by omega
      subst hkn
      go_wp2
      go_ret2
      obtain ⟨a1, c1, rfl, hro⟩ := RepF.of_owns HOW.out HLT.out
      have hA9 := HAR.out
      exact ⟨a1, c1, ys, na, nc, us, Ys, w3.heap.size, rfl, hro, HE.out, HR.out.bounds (by omega) (Nat.le_refl _), ⟨hA9.all, fun h => by rw [hA9.one h, listOf_done], fun h => by rw [hA9.two h, listOf_done]⟩, by omega, hbs, HB.out⟩
end Go.Proofs.Ytnhikdjljjemlaa
/- What the program's StepParams returns. No condition. -/
namespace Go.Proofs.Ytnhikdjljjemlaa
open Go Go.RowKit
set_option linter.unusedVariables false
set_option linter.unusedSimpArgs false
def stepOk (k : Int) (np ng : Nat) (Xs : List (List Nat)) (s : Int) : Bool := inB k 0 4 && (decide (np ≤ 256) && (decide (np = ng) && (fitB k Xs np && inB s 0 999)))
def StParPost (w : World) (R : List Nat) (RS : List (List Nat)) (ok : Bool) (e : Ending) (w' : World) : Prop :=
  ∃ a1 n1 c1 ys a2 n2 c2 us Ys lo1 hi1 lo2 hi2, e = .returned (.tuple #[.slice a1 n1 c1, .slice a2 n2 c2, .bool ok]) ∧ RepF w' lo1 hi1 a1 n1 c1 ys ∧ RepFF w' lo2 hi2 a2 n2 c2 us Ys ∧ ys.map (cn .f32) = R ∧ Ys.map (List.map (cn .f32)) = RS ∧
    (n1 ≤ 256 ∧ n2 ≤ 2 ∧ ∀ i, i < n2 → (Ys.getD i []).length ≤ 256) ∧ (w.heap.size ≤ lo1 ∧ hi1 ≤ w'.heap.size ∧ w.heap.size ≤ lo2 ∧ hi2 ≤ w'.heap.size ∧ (hi1 ≤ lo2 ∨ hi2 ≤ lo1)) ∧ Below w.heap.size w w'
def rowsOf (S n : Nat) (U V : Nat → Nat) : List (List Nat) := [listOf n U, listOf n V].take S
theorem RowsAre.eq {S n : Nat} {U V : Nat → Nat} {Ys : List (List Nat)} (h : RowsAre S n U V Ys) (hl : Ys.length = S) (hS : S ≤ 2) : Ys.map (List.map (cn .f32)) = rowsOf S n U V := by
  subst hl
  match Ys, hS with
  | [], _ => rfl
  | [a], _ =>
    have := h.one (by simp)
    simp at this
    simp [rowsOf, this]
  | [a, b], _ =>
    have h1 := h.one (by simp)
    have h2 := h.two (by simp)
    simp at h1 h2
    simp [rowsOf, h1, h2]
def stR (k : Int) (r b1 b2 ep : Nat) (ps gs : List Nat) (Xs : List (List Nat)) (s : Int) : List Nat := if stepOk k ps.length gs.length Xs s = true then listOf ps.length (stO k r b1 b2 ep s.toNat ps gs Xs) else []
def stS (k : Int) (b1 b2 : Nat) (ps gs : List Nat) (Xs : List (List Nat)) (s : Int) : List (List Nat) := if stepOk k ps.length gs.length Xs s = true then rowsOf (slotsN k) ps.length (stU k b1 b2 gs Xs) (stV b2 gs Xs) else []
theorem StParPost.no {w w' : World} {e : Ending} (he : e = .returned (.tuple #[.slice none 0 0, .slice none 0 0, .bool false])) (hb : Below w.heap.size w w') : StParPost w [] [] false e w' :=
  ⟨none, 0, 0, [], none, 0, 0, [], [], w.heap.size, w.heap.size, w.heap.size, w.heap.size, he, RepF.nil _ _ _, RepFF.nil _ _ _, rfl, rfl, ⟨by omega, by omega, fun i hi => by omega⟩, ⟨Nat.le_refl _, hb.size, Nat.le_refl _, hb.size, .inl (Nat.le_refl _)⟩, hb⟩
set_option maxRecDepth 100000 in
set_option maxHeartbeats 4000000 in
theorem impl_StepParams_no (w : World) {lo hi : Nat} (k : Int) (r b1 b2 ep : Nat) (pa : Option Addr) (pc : Nat) (ps : List Nat) (hp : F32s w pa pc ps) (ga : Option Addr) (gc : Nat) (gs : List Nat) (hg : F32s w ga gc gs)
    (sa : Option Addr) (sn sc : Nat) (vs : List Value) (Xs : List (List Nat)) (h : RepFF w lo hi sa sn sc vs Xs) (hsn : sn ≤ 1048576) (s : Int) (hok : stepOk k ps.length gs.length Xs s = false) :
    Calls Try.prog 12 #[.agg #[.int .i64 k, .float .f32 r, .float .f32 b1, .float .f32 b2, .float .f32 ep], .slice pa ps.length pc, .slice ga gs.length gc, .slice sa sn sc, .int .i64 s] w
      (StParPost w [] [] false) := by
  have m1 := Nat.le_trans hp.len hp.cap
  have m2 := Nat.le_trans hg.len hg.cap
  unfold maxLen at m1 m2
  have hxl := h.len
  subst hxl
  have k1 := fun W => impl_ValidOptimizer k r b1 b2 ep W
  have k2 := fun W (hW : RepFF W lo hi sa Xs.length sc vs Xs) (hl : ps.length ≤ 1048576) => impl_areSlots W k r b1 b2 ep sa sc vs Xs hW.see hsn ps.length hl
  have k3 := fun W => within_any s 0 999 W
  obtain ⟨np, eP⟩ : ∃ np, np = ps.length := ⟨_, rfl⟩
  obtain ⟨ng, eG⟩ : ∃ ng, ng = gs.length := ⟨_, rfl⟩
  obtain ⟨nx, eX⟩ : ∃ nx, nx = Xs.length := ⟨_, rfl⟩
  rw [← eP, ← eG] at hok
  rw [← eP] at m1 k2
  rw [← eG] at m2
  rw [← eX] at k2 h hsn
  rw [← eP, ← eG, ← eX]
  unfold stepOk at hok
  obtain ⟨F, eF⟩ : ∃ F, F = fitB k Xs np := ⟨_, rfl⟩
  rw [← eF] at hok k2
  have K1 := Lib.hid k1; have K2 := Lib.hid k2; have K3 := Lib.hid k3; have H := Lib.hid h
  clear k1 k2 k3 h hp hg eP eG eX eF
  cases e1 : inB k 0 4
  · rw [e1] at K1
    clear hok e1
    go_enter Try.func12, Try.ntmps12
    go_wp2_with fail
    refine (K1.out _).mono ?_
    rintro e w1 ⟨rfl, hb1⟩
    have HB := Lib.hid (bthen (below1 _ _) hb1); clear hb1
    go_wp2
    go_ret3
    exact StParPost.no rfl HB.out
  rw [e1] at K1 hok
  by_cases e2 : np ≤ 256
  case neg =>
    clear hok e1
    go_enter Try.func12, Try.ntmps12
    go_wp2_with fail
    refine (K1.out _).mono ?_
    rintro e w1 ⟨rfl, hb1⟩
    have HB := Lib.hid (bthen (below1 _ _) hb1); clear hb1
    go_wp2
    go_ret3
    exact StParPost.no rfl HB.out
  rw [decide_eq_true e2] at hok
  by_cases e3 : np = ng
  case neg =>
    have e4 : ((np : Int) == (ng : Int)) = false := by simpa using (by omega : ¬ (np : Int) = ng)
    clear hok e1
    go_enter Try.func12, Try.ntmps12
    go_wp2_with fail
    refine (K1.out _).mono ?_
    rintro e w1 ⟨rfl, hb1⟩
    have HB := Lib.hid (bthen (below1 _ _) hb1); clear hb1
    go_wp2
    go_ret3
    exact StParPost.no rfl HB.out
  rw [decide_eq_true e3] at hok
  subst e3
  cases F
  · clear hok e1
    go_enter Try.func12, Try.ntmps12
    go_wp2_with fail
    refine (K1.out _).mono ?_
    rintro e w1 ⟨rfl, hb1⟩
    obtain ⟨q1, q2, q3⟩ := bkeep w.heap.size hb1 (by simp)
    have HB := Lib.hid (bthen (below1 _ _) hb1); clear hb1
    go_wp2_with fail
    refine (K2.out _ (H.out.below HB.out) (by omega)).mono ?_
    rintro e w2 ⟨rfl, hb2⟩
    have HB2 := Lib.hid (bthen HB.out hb2); clear hb2
    go_wp2
    go_ret3
    exact StParPost.no rfl HB2.out
  · have e5 : inB s 0 999 = false := by simpa using hok
    rw [e5] at K3
    clear hok e1 e5
    go_enter Try.func12, Try.ntmps12
    go_wp2_with fail
    refine (K1.out _).mono ?_
    rintro e w1 ⟨rfl, hb1⟩
    obtain ⟨q1, q2, q3⟩ := bkeep w.heap.size hb1 (by simp)
    have HB := Lib.hid (bthen (below1 _ _) hb1); clear hb1
    go_wp2_with fail
    refine (K2.out _ (H.out.below HB.out) (by omega)).mono ?_
    rintro e w2 ⟨rfl, hb2⟩
    have HB2 := Lib.hid (bthen HB.out hb2); clear hb2
    go_wp2_with fail
    refine (K3.out _).mono ?_
    rintro e w3 ⟨rfl, rfl⟩
    go_wp2
    go_ret3
    exact StParPost.no rfl HB2.out
set_option maxRecDepth 100000 in
set_option maxHeartbeats 4000000 in
theorem impl_StepParams_yes (w : World) {lo hi : Nat} (k : Int) (r b1 b2 ep : Nat) (pa : Option Addr) (pc : Nat) (ps : List Nat) (hp : F32s w pa pc ps) (ga : Option Addr) (gc : Nat) (gs : List Nat) (hg : F32s w ga gc gs)
    (sa : Option Addr) (sn sc : Nat) (vs : List Value) (Xs : List (List Nat)) (h : RepFF w lo hi sa sn sc vs Xs) (hsn : sn ≤ 1048576) (s : Int) (hok : stepOk k ps.length gs.length Xs s = true) :
    Calls Try.prog 12 #[.agg #[.int .i64 k, .float .f32 r, .float .f32 b1, .float .f32 b2, .float .f32 ep], .slice pa ps.length pc, .slice ga gs.length gc, .slice sa sn sc, .int .i64 s] w
      (StParPost w (listOf ps.length (stO k r b1 b2 ep s.toNat ps gs Xs)) (rowsOf (slotsN k) ps.length (stU k b1 b2 gs Xs) (stV b2 gs Xs)) true) := by
  unfold stepOk at hok
  simp only [Bool.and_eq_true, decide_eq_true_eq] at hok
  obtain ⟨e1, e2, e3, e4, e5⟩ := hok
  have ⟨s0, s1⟩ := inB_iff.1 e5
  obtain ⟨t, rfl⟩ := Int.eq_ofNat_of_zero_le s0
  rw [Int.toNat_natCast]
  have hxl := h.len
  subst hxl
  have ⟨f1, f2⟩ := fit_iff.1 e4
  have hS2 := slotsN_le k
  have k1 := fun W => impl_ValidOptimizer k r b1 b2 ep W
  rw [e1] at k1
  have k2 := fun W (hW : RepFF W lo hi sa Xs.length sc vs Xs) => impl_areSlots W k r b1 b2 ep sa sc vs Xs hW.see hsn ps.length (by omega)
  rw [e4] at k2
  have k3 := fun W => within_any t 0 999 W
  rw [e5] at k3
  have k4 := fun W (hp : F32s W pa pc ps) (hg : F32s W ga gc gs) (hW : RepFF W lo hi sa (slotsN k) sc vs Xs) => impl_steps W k e1 r b1 b2 ep pa pc ps.length ps hp rfl ga gc gs hg e3 e2 sa sc vs Xs hW (fun j hj => f2 j (by omega)) t (by omega)
  rw [f1] at h k2
  have hre : ∀ (U V : Nat → Nat) (Ys : List (List Nat)), RowsAre (slotsN k) ps.length U V Ys → Ys.length = slotsN k → Ys.map (List.map (cn .f32)) = rowsOf (slotsN k) ps.length U V := fun U V Ys h hl => h.eq hl hS2
  obtain ⟨O, eO⟩ : ∃ O, O = stO k r b1 b2 ep t ps gs Xs := ⟨_, rfl⟩
  obtain ⟨U, eU⟩ : ∃ U, U = stU k b1 b2 gs Xs := ⟨_, rfl⟩
  obtain ⟨V, eV⟩ : ∃ V, V = stV b2 gs Xs := ⟨_, rfl⟩
  rw [← eO, ← eU, ← eV] at k4 ⊢
  rw [f1]
  obtain ⟨S, eS⟩ : ∃ S, S = slotsN k := ⟨_, rfl⟩
  rw [← eS] at k2 k4 h hre hS2 ⊢
  obtain ⟨n, eN⟩ : ∃ n, n = ps.length := ⟨_, rfl⟩
  rw [← eN] at k2 k4 hre e2 e3 ⊢
  rw [← e3]
  have K1 := Lib.hid k1; have K2 := Lib.hid k2; have K3 := Lib.hid k3; have K4 := Lib.hid k4; have H := Lib.hid h; have HP := Lib.hid hp; have HG := Lib.hid hg; have HRE := Lib.hid hre
  clear k1 k2 k3 k4 h hp hg hre eO eU eV eS eN e1 e3 e4 e5 f1 f2 s0 s1
  go_enter Try.func12, Try.ntmps12
  go_wp2_with fail
  refine (K1.out _).mono ?_
  rintro e w1 ⟨rfl, hb1⟩
  obtain ⟨q1, q2, q3⟩ := bkeep w.heap.size hb1 (by simp)
  have HB := Lib.hid (bthen (below1 _ _) hb1); clear hb1
  go_wp2_with fail
  refine (K2.out _ (H.out.below HB.out)).mono ?_
  rintro e w2 ⟨rfl, hb2⟩
  obtain ⟨q4, q5, q6⟩ := bkeep w.heap.size hb2 q3
  have HB2 := Lib.hid (bthen HB.out hb2); clear hb2
  go_wp2_with fail
  refine (K3.out _).mono ?_
  rintro e w3 ⟨rfl, rfl⟩
  go_wp2_with fail
  refine (K4.out _ (HP.out.below HB2.out) (HG.out.below HB2.out) (H.out.below HB2.out)).mono ?_
  rintro e w3 ⟨a1, c1, ys, a2, c2, us, Ys, mid, rfl, hr1, hy, hr2, hra, hm1, hm2, hb3⟩
  have hs2 := HB2.out.size
  have HB3 := Lib.hid (bthen HB2.out hb3)
  have HRR := Lib.hid hr1; have HRS := Lib.hid hr2; have HY := Lib.hid hy; have HRA := Lib.hid hra
  clear hb3 hr1 hr2 hy hra
  go_wp2
  go_ret3
  exact ⟨a1, n, c1, ys, a2, S, c2, us, Ys, mid, w3.heap.size, w2.heap.size, mid, rfl, HRR.out, HRS.out, HY.out, HRE.out _ _ _ HRA.out HRS.out.len, ⟨by omega, hS2, fun i hi => by rw [HRA.out.all i hi]; omega⟩, ⟨by omega, Nat.le_refl _, hs2, hm2, .inr (Nat.le_refl _)⟩, HB3.out⟩
theorem impl_StepParams (w : World) {lo hi : Nat} (k : Int) (r b1 b2 ep : Nat) (pa : Option Addr) (pc : Nat) (ps : List Nat) (hp : F32s w pa pc ps) (ga : Option Addr) (gc : Nat) (gs : List Nat) (hg : F32s w ga gc gs)
    (sa : Option Addr) (sn sc : Nat) (vs : List Value) (Xs : List (List Nat)) (h : RepFF w lo hi sa sn sc vs Xs) (hsn : sn ≤ 1048576) (s : Int) :
    Calls Try.prog 12 #[.agg #[.int .i64 k, .float .f32 r, .float .f32 b1, .float .f32 b2, .float .f32 ep], .slice pa ps.length pc, .slice ga gs.length gc, .slice sa sn sc, .int .i64 s] w
      (StParPost w (stR k r b1 b2 ep ps gs Xs s) (stS k b1 b2 ps gs Xs s) (stepOk k ps.length gs.length Xs s)) := by
  unfold stR stS
  cases e : stepOk k ps.length gs.length Xs s
  · exact impl_StepParams_no w k r b1 b2 ep pa pc ps hp ga gc gs hg sa sn sc vs Xs h hsn s e
  · exact impl_StepParams_yes w k r b1 b2 ep pa pc ps hp ga gc gs hg sa sn sc vs Xs h hsn s e
end Go.Proofs.Ytnhikdjljjemlaa
/- What the reference's source of choices gives. No condition. -/
namespace Go.Proofs.Ytnhikdjljjemlaa
open Go Go.RowKit
set_option linter.unusedVariables false
set_option linter.unusedSimpArgs false
/-- a source of choices: its block, where it stands at most -/
structure SrcAt (w : World) (g : Nat) (ad : Option Addr) (cap : Nat) (xs : List Int) (at_ : Nat) (seed : Int) : Prop where
  lt : g < w.heap.size
  code : w.cell? ⟨g, 0, none⟩ = some (.slice ad xs.length cap)
  at1 : w.cell? ⟨g, 1, none⟩ = some (.int .i64 at_)
  seed2 : w.cell? ⟨g, 2, none⟩ = some (.int .u64 seed)
  free : ∀ o, w.frozen? ⟨g, o, none⟩ = false
  ints : Ints .u8 w ad cap xs
  other : xs ≠ [] → ∀ b off, ad = some ⟨b, off, none⟩ → b < g
def Src (w : World) (g n : Nat) : Prop := ∃ ad cap xs at_ seed, SrcAt w g ad cap xs at_ seed ∧ at_ ≤ n
theorem Src.mono {w : World} {g n m : Nat} (h : Src w g n) (hm : n ≤ m) : Src w g m := by
  obtain ⟨ad, cap, xs, a, s, h1, h2⟩ := h; exact ⟨ad, cap, xs, a, s, h1, Nat.le_trans h2 hm⟩
theorem Src.kept {w w' : World} {g n : Nat} (h : Src w g n) (hs : w.heap.size ≤ w'.heap.size) (hb : ∀ k, k ≤ g → w'.heap[k]? = w.heap[k]?) : Src w' g n := by
  obtain ⟨ad, cap, xs, a, s, h1, h2⟩ := h
  have hg := hb g (Nat.le_refl _)
  refine ⟨ad, cap, xs, a, s, ⟨Nat.lt_of_lt_of_le h1.lt hs, ?_, ?_, ?_, ?_, ?_, h1.other⟩, h2⟩
  · rw [World.cell?_of_block (w := w) hg]; exact h1.code
  · rw [World.cell?_of_block (w := w) hg]; exact h1.at1
  · rw [World.cell?_of_block (w := w) hg]; exact h1.seed2
  · intro o; rw [World.frozen?_of_block (w := w) hg]; exact h1.free o
  · refine ⟨h1.ints.len, h1.ints.cap, ?_, h1.ints.wf⟩
    by_cases hx : xs = []
    · subst hx; exact .inl rfl
    · exact h1.ints.rd.kept hs (fun b off e _ => hb b (Nat.le_of_lt (h1.other hx b off e)))
theorem Src.below {w w' : World} {g n : Nat} (h : Src w g n) (hb : Below w.heap.size w w') : Src w' g n :=
  h.kept hb.size fun k hk => hb.block k (by obtain ⟨_, _, _, _, _, h1, _⟩ := h; exact Nat.lt_of_le_of_lt hk h1.lt)
theorem touch_cell {w : World} {g k : Nat} {v : Value} : Touch g (g + 1) w (w.setCell ⟨g, k, none⟩ v) :=
  ⟨rfl, rfl, rfl, by simp [World.setCell], fun j hj hd => Below.heap_setCell _ _ _ _ (by intro e; simp at e; omega)⟩
theorem src_after {w : World} {g n : Nat} {ad : Option Addr} {cap : Nat} {xs : List Int} {a : Nat} {s : Int} (h : SrcAt w g ad cap xs a s) (han : a ≤ n) (u : Int) (q1 q2 : Nat) :
    Src ((((w.drewN q1).setCell ⟨g, 1, none⟩ (.int .i64 ((a : Int) + 1))).setCell ⟨g, 2, none⟩ (.int .u64 u)).drewN q2) g (n + 1) ∧
    Touch g (g + 1) w ((((w.drewN q1).setCell ⟨g, 1, none⟩ (.int .i64 ((a : Int) + 1))).setCell ⟨g, 2, none⟩ (.int .u64 u)).drewN q2) := by
  obtain ⟨hg, h0, h1, h2, hf, hi, ho⟩ := h
  have hb : Below g w ((((w.drewN q1).setCell ⟨g, 1, none⟩ (.int .i64 ((a : Int) + 1))).setCell ⟨g, 2, none⟩ (.int .u64 u)).drewN q2) :=
    below_drewN (((below_drewN (Below.refl g w) q1).setCell (Nat.le_refl g) _).setCell (Nat.le_refl g) _) q2
  refine ⟨⟨ad, cap, xs, a + 1, u, ⟨by simpa [World.setCell] using hg, ?_, ?_, ?_, ?_, ⟨hi.len, hi.cap, by
    by_cases hx : xs = []
    · subst hx; exact .inl rfl
    · exact hi.rd.belowLt hb (ho hx), hi.wf⟩, ho⟩, by omega⟩, ?_⟩
  · go_simp
  · have e : ((a + 1 : Nat) : Int) = (a : Int) + 1 := by omega
    rw [e]
    go_simp
  · go_simp
  · intro o
    have := hf o
    go_simp
  · exact (((Touch.of_below (below_drewN (Below.refl _ _) _)).trans touch_cell).trans touch_cell).trans (Touch.of_below (below_drewN (Below.refl _ _) _))
theorem and255 (Z : Int) : ∃ r : Nat, wrap64 (bits .and .u64 (IntKind.u64.wrap Z / 1099511627776) 255) = r ∧ r < 256 := by
  have hw : 0 ≤ IntKind.u64.wrap Z ∧ IntKind.u64.wrap Z < 18446744073709551616 := by
    have := wf_wrap .u64 Z
    simp [Lit.wf, IntKind.min, IntKind.max, IntKind.signed, IntKind.bits] at this
    omega
  have h0 : 0 ≤ IntKind.u64.wrap Z / 1099511627776 := by omega
  obtain ⟨m, hm⟩ := Int.eq_ofNat_of_zero_le h0
  rw [hm]
  have := bits_and_u64_nat m 255 (by omega) (by decide)
  rw [show ((255 : Nat) : Int) = 255 from rfl] at this
  rw [this]
  have hl : m &&& 255 < 256 := Nat.lt_of_le_of_lt Nat.and_le_right (by decide)
  refine ⟨m &&& 255, ?_, hl⟩
  unfold wrap64
  omega
theorem src_next (w : World) (g n : Nat) (h : Src w g n) (hn : n ≤ 1000000000) :
    Calls Try.prog 82 #[.pointer (some ⟨g, 0, none⟩)] w fun e w' => ∃ r : Nat, e = .returned (.int .i64 r) ∧ r < 256 ∧ Src w' g (n + 1) ∧ Touch g (g + 1) w w' := by
  obtain ⟨ad, cap, xs, a, s, ⟨hg, h0, h1, h2, hf, hi, ho⟩, han⟩ := h
  have hm := Nat.le_trans hi.len hi.cap
  unfold maxLen at hm
  by_cases hlt : a < xs.length
  · obtain ⟨b, off, rfl, hb, hc⟩ := hi.spot (i := a) hlt
    have hcell := hc a hlt
    have hw := hi.wf (xs.getD a 0) (by rw [List.getD_eq_getElem?_getD, List.getElem?_eq_getElem hlt]; exact List.getElem_mem hlt)
    obtain ⟨x, hx⟩ : ∃ x, x = xs.getD a 0 := ⟨_, rfl⟩
    rw [← hx] at hcell hw
    obtain ⟨hb0, hb1⟩ := bounds_u8 hw
    obtain ⟨l, hl⟩ : ∃ l, l = xs.length := ⟨_, rfl⟩
    rw [← hl] at hlt hm h0
    have HI := Lib.hid hi; have HO := Lib.hid ho; have HL := Lib.hid hl
    clear hx hw hc hi ho hl
    go_enter Try.func82, Try.ntmps82
    go_wp2
    go_quiet (fail)
    go_wp2
    go_quiet (fail)
    go_wp2
    go_quiet (fail)
    go_wp2
    go_ret
    obtain ⟨y, rfl⟩ := Int.eq_ofNat_of_zero_le hb0
    have hsa := src_after (ad := some ⟨b, off, none⟩) (n := n) ⟨hg, by rw [← HL.out]; exact h0, h1, h2, hf, HI.out, HO.out⟩ han
    exact ⟨y, rfl, by omega, (hsa _ _ _).1, (hsa _ _ _).2⟩
  · have HI := Lib.hid hi; have HO := Lib.hid ho
    obtain ⟨l, hl⟩ : ∃ l, l = xs.length := ⟨_, rfl⟩
    rw [← hl] at hlt hm h0
    have HL := Lib.hid hl
    clear hi ho hl
    go_enter Try.func82, Try.ntmps82
    go_wp2
    go_quiet (fail)
    go_wp2
    go_quiet (fail)
    go_wp2
    go_ret
    have hsa := src_after (n := n) ⟨hg, by rw [← HL.out]; exact h0, h1, h2, hf, HI.out, HO.out⟩ han
    obtain ⟨r, hr, hr2⟩ := and255 (IntKind.u64.wrap (IntKind.u64.wrap (s * 6364136223846793005)) + 1442695040888963407)
    exact ⟨r, by rw [← hr]; rfl, hr2, (hsa _ _ _).1, (hsa _ _ _).2⟩
theorem src_pick (w : World) (g n : Nat) (h : Src w g n) (hn : n ≤ 900000000) (N : Int) (h1 : 1 ≤ N) (h2 : N ≤ 1000000) :
    Calls Try.prog 46 #[.pointer (some ⟨g, 0, none⟩), .int .i64 N] w fun e w' => ∃ r : Nat, e = .returned (.int .i64 r) ∧ (r : Int) < N ∧ Src w' g (n + 2) ∧ Touch g (g + 1) w w' := by
  have HS := Lib.hid h; clear h
  by_cases hN : N ≤ 1
  · go_enter Try.func46, Try.ntmps46
    go_wp2
    go_ret
    exact ⟨0, rfl, by omega, HS.out.mono (by omega), Touch.refl _ _ _⟩
  · have hk := fun W m hW hm => src_next W g m hW hm
    have HK := Lib.hid hk; clear hk
    by_cases h200 : 200 < N
    · go_enter Try.func46, Try.ntmps46
      go_wp2_with fail
      refine (HK.out _ n HS.out (by omega)).mono ?_
      rintro e w1 ⟨r, rfl, hr, hs1, ht1⟩
      have HS1 := Lib.hid hs1; have HT1 := Lib.hid ht1; clear hs1 ht1
      go_wp2_with fail
      refine (HK.out _ (n + 1) HS1.out (by omega)).mono ?_
      rintro e w2 ⟨q, rfl, hq, hs2, ht2⟩
      have HS2 := Lib.hid hs2; have HT2 := Lib.hid ht2; clear hs2 ht2
      go_wp2
      go_ret
      have g0 := Int.emod_nonneg ((r : Int) * 256 + q) (show N ≠ 0 by omega)
      have g1 := Int.emod_lt_of_pos ((r : Int) * 256 + q) (show 0 < N by omega)
      exact ⟨(((r : Int) * 256 + q) % N).toNat, by rw [Int.toNat_of_nonneg g0]; rfl, by omega, HS2.out, HT1.out.trans HT2.out⟩
    · go_enter Try.func46, Try.ntmps46
      go_wp2_with fail
      refine (HK.out _ n HS.out (by omega)).mono ?_
      rintro e w1 ⟨r, rfl, hr, hs1, ht1⟩
      have HS1 := Lib.hid hs1; have HT1 := Lib.hid ht1; clear hs1 ht1
      go_wp2
      go_ret
      have g0 := Int.emod_nonneg (r : Int) (show N ≠ 0 by omega)
      have g1 := Int.emod_lt_of_pos (r : Int) (show 0 < N by omega)
      exact ⟨((r : Int) % N).toNat, by rw [Int.toNat_of_nonneg g0]; rfl, by omega, HS1.out.mono (by omega), HT1.out⟩
theorem src_one (w : World) (g n : Nat) (h : Src w g n) (hn : n ≤ 900000000) (N : Int) (h1 : 1 ≤ N) (h2 : N ≤ 1000000) :
    Calls Try.prog 45 #[.pointer (some ⟨g, 0, none⟩), .int .i64 N] w fun e w' => ∃ b : Bool, e = .returned (.bool b) ∧ Src w' g (n + 2) ∧ Touch g (g + 1) w w' := by
  have hk := src_pick w g n h hn N h1 h2
  have HK := Lib.hid hk; clear hk h
  go_enter Try.func45, Try.ntmps45
  go_wp2_with fail
  refine HK.out.mono ?_
  rintro e w1 ⟨r, rfl, hr, hs1, ht1⟩
  have HS1 := Lib.hid hs1; have HT1 := Lib.hid ht1; clear hs1 ht1
  go_wp2
  go_ret
  exact ⟨_, rfl, HS1.out, HT1.out⟩
theorem src_among (w : World) (g n : Nat) (h : Src w g n) (hn : n ≤ 900000000) (b : Nat) (len cap : Nat) (vs : List Int) (hb : b ≠ g) (hbl : b < w.heap.size) (hc : ∀ i, i < len → w.cell? ⟨b, i, none⟩ = some (.int .i64 (vs.getD i 0))) (h1 : 1 ≤ len) (h2 : len ≤ 1000) :
    Calls Try.prog 84 #[.pointer (some ⟨g, 0, none⟩), .slice (some ⟨b, 0, none⟩) len cap] w fun e w' => ∃ i : Nat, i < len ∧ e = .returned (.int .i64 (vs.getD i 0)) ∧ Src w' g (n + 2) ∧ Touch g (g + 1) w w' := by
  have hk := src_pick w g n h hn len (by omega) (by omega)
  have HK := Lib.hid hk; have HC := Lib.hid hc; clear hk h hc
  go_enter Try.func84, Try.ntmps84
  go_wp2_with fail
  refine HK.out.mono ?_
  rintro e w1 ⟨r, rfl, hr, hs1, ht1⟩
  have hr := Int.ofNat_lt.1 hr
  have hcell : w1.cell? ⟨b, r, none⟩ = some (.int .i64 (vs.getD r 0)) := by
    rw [World.cell?_of_block (w := w) (ht1.block b hbl (by omega))]; exact HC.out r hr
  have HS1 := Lib.hid hs1; have HT1 := Lib.hid ht1; clear hs1 ht1
  go_wp2
  go_ret
  exact ⟨r, hr, rfl, HS1.out, HT1.out⟩
theorem src_from (w : World) (ad : Option Addr) (cap : Nat) (xs : List Int) (h : Ints .u8 w ad cap xs) :
    Calls Try.prog 37 #[.slice ad xs.length cap] w fun e w' => e = .returned (.pointer (some ⟨w.heap.size, 0, none⟩)) ∧ Src w' w.heap.size 0 ∧ Below w.heap.size w w' ∧ w.heap.size < w'.heap.size := by
  obtain ⟨l, hl⟩ : ∃ l, l = xs.length := ⟨_, rfl⟩
  have hother : xs ≠ [] → ∀ b off, ad = some ⟨b, off, none⟩ → b < w.heap.size := by
    intro hne b off e
    rcases h.rd with h1 | ⟨b', off', e', hb', _⟩
    · exact absurd (by simpa using h1) hne
    · rw [e] at e'; cases e'; exact hb'
  rw [← hl]
  have HL := Lib.hid hl; have HI := Lib.hid h; have HO := Lib.hid hother; clear hl h hother
  go_enter Try.func37, Try.ntmps37
  go_wp2
  go_ret
  refine ⟨rfl, ⟨ad, cap, xs, 0, 0, ⟨by simp, ?_, ?_, ?_, ?_, HI.out.below (below1 _ _), HO.out⟩, Nat.le_refl _⟩, below1 _ _, by simp⟩
  · rw [← HL.out]; go_simp
  · go_simp
  · go_simp
  · intro o; go_simp
end Go.Proofs.Ytnhikdjljjemlaa
/- What the reference draws from a source of choices: numbers. No condition. -/
namespace Go.Proofs.Ytnhikdjljjemlaa
open Go Go.RowKit
set_option linter.unusedVariables false
set_option linter.unusedSimpArgs false
def plainQ (d j : Nat) : Nat := fop .quo .f32 (floatOfInt .f32 ((j : Int) - 64)) d
def isPl (x : Nat) : Prop := ∃ j, j < 129 ∧ (x = plainQ 1088421888 j ∨ x = plainQ 1098907648 j)
theorem plain_some : ∀ j : Nat, j < 129 → floatBits .quo .f32 (floatOfInt .f32 ((j : Int) - 64)) 1088421888 = some (plainQ 1088421888 j) ∧ floatBits .quo .f32 (floatOfInt .f32 ((j : Int) - 64)) 1098907648 = some (plainQ 1098907648 j) := by decide +kernel
theorem isPl_lt {x : Nat} (h : isPl x) : x < 4294967296 := by
  obtain ⟨j, hj, h⟩ := h
  obtain ⟨h1, h2⟩ := plain_some j hj
  rcases h with rfl | rfl
  · have := floatBits_wf h1; simpa [Lit.wf] using this
  · have := floatBits_wf h2; simpa [Lit.wf] using this
theorem draw_plain (w : World) (g n : Nat) (h : Src w g n) (hn : n ≤ 800000000) :
    Calls Try.prog 49 #[.pointer (some ⟨g, 0, none⟩)] w fun e w' => ∃ x : Nat, e = .returned (.float .f32 x) ∧ Hid (isPl x) ∧ Src w' g (n + 4) ∧ Touch g (g + 1) w w' := by
  have hk := fun W m hW hm => src_pick W g m hW hm 129 (by decide) (by decide)
  have ho := fun W m hW hm => src_one W g m hW hm 4 (by decide) (by decide)
  have HK := Lib.hid hk; have HO := Lib.hid ho; have HS := Lib.hid h; clear hk ho h
  go_enter Try.func49, Try.ntmps49
  go_wp2_with fail
  refine (HK.out _ n HS.out (by omega)).mono ?_
  rintro e w1 ⟨j, rfl, hj, hs1, ht1⟩
  have hj := Int.ofNat_lt.1 hj
  have HS1 := Lib.hid hs1; have HT1 := Lib.hid ht1; clear hs1 ht1
  obtain ⟨h7, h16⟩ := plain_some j hj
  have q1 := fun w => fbits_some h7 w
  have q2 := fdr_some h7
  have q3 := fun w => fbits_some h16 w
  have q4 := fdr_some h16
  have hz := World.drewN_none
  clear h7 h16
  go_wp2_with fail
  refine (HO.out _ (n + 2) HS1.out (by omega)).mono ?_
  rintro e w2 ⟨b, rfl, hs2, ht2⟩
  have HS2 := Lib.hid hs2; have HT2 := Lib.hid ht2; clear hs2 ht2
  cases b
  · go_wp2
    go_ret
    exact ⟨_, rfl, Lib.hid ⟨j, hj, .inr rfl⟩, HS2.out, HT1.out.trans HT2.out⟩
  · go_wp2
    go_ret
    exact ⟨_, rfl, Lib.hid ⟨j, hj, .inl rfl⟩, HS2.out, HT1.out.trans HT2.out⟩
theorem strange_lt : ∀ i, i < 10 → ∃ m : Nat, ([0, 2147483648, 2139095040, 4286578688, 2143289344, 1, 2139095039, 8388608, 8388607, 2147483649] : List Int).getD i 0 = m ∧ m < 4294967296 := by
  intro i hi
  match i, hi with
  | 0, _ => exact ⟨0, rfl, by decide⟩
  | 1, _ => exact ⟨2147483648, rfl, by decide⟩
  | 2, _ => exact ⟨2139095040, rfl, by decide⟩
  | 3, _ => exact ⟨4286578688, rfl, by decide⟩
  | 4, _ => exact ⟨2143289344, rfl, by decide⟩
  | 5, _ => exact ⟨1, rfl, by decide⟩
  | 6, _ => exact ⟨2139095039, rfl, by decide⟩
  | 7, _ => exact ⟨8388608, rfl, by decide⟩
  | 8, _ => exact ⟨8388607, rfl, by decide⟩
  | 9, _ => exact ⟨2147483649, rfl, by decide⟩
theorem scales_lt : ∀ i, i < 4 → ∃ m : Nat, ([8388608, 2130706432, 1610612736, 536870912] : List Int).getD i 0 = m ∧ m < 4294967296 := by
  intro i hi
  match i, hi with
  | 0, _ => exact ⟨8388608, rfl, by decide⟩
  | 1, _ => exact ⟨2130706432, rfl, by decide⟩
  | 2, _ => exact ⟨1610612736, rfl, by decide⟩
  | 3, _ => exact ⟨536870912, rfl, by decide⟩
theorem arr_cell (w : World) (e : TypeId) (vs : List Int) (i : Nat) (hi : i < vs.length) : (w.alloc (.cells (vs.map (Value.int .i64)).toArray e)).cell? ⟨w.heap.size, i, none⟩ = some (.int .i64 (vs.getD i 0)) := by
  rw [World.cell?_alloc_at _ _ _ _ rfl]
  simp [List.getD_eq_getElem?_getD, List.getElem?_eq_getElem hi]
theorem draw_float (w : World) (g n : Nat) (h : Src w g n) (hn : n ≤ 700000000) :
    Calls Try.prog 48 #[.pointer (some ⟨g, 0, none⟩)] w fun e w' => ∃ x : Nat, e = .returned (.float .f32 x) ∧ x < 4294967296 ∧ Src w' g (n + 20) ∧ Touch g (g + 1) w w' := by
  have hk := fun W m hW hm N h1 h2 => src_pick W g m hW hm N h1 h2
  have ho := fun W m hW hm => src_one W g m hW hm 12 (by decide) (by decide)
  have hp := fun W m hW hm => draw_plain W g m hW hm
  have hgl : g < w.heap.size := by obtain ⟨_, _, _, _, _, h1, _⟩ := h; exact h1.lt
  have HK := Lib.hid hk; have HO := Lib.hid ho; have HP := Lib.hid hp; have HS := Lib.hid h; clear hk ho hp h
  go_enter Try.func48, Try.ntmps48
  go_wp2_with fail
  refine (HO.out _ n HS.out (by omega)).mono ?_
  rintro e w1 ⟨b, rfl, hs1, ht1⟩
  have z1 := ht1.size
  have HS1 := Lib.hid hs1; have HT1 := Lib.hid ht1; clear hs1 ht1
  cases b
  · go_wp2_with fail
    refine (HP.out _ (n + 2) HS1.out (by omega)).mono ?_
    rintro e w2 ⟨x, rfl, hx, hs2, ht2⟩
    have HS2 := Lib.hid hs2; have HT2 := Lib.hid ht2; clear hs2 ht2
    go_wp2
    go_ret
    exact ⟨x, rfl, isPl_lt hx.out, HS2.out.mono (by omega), HT1.out.trans HT2.out⟩
  go_wp2_with fail
  refine (HK.out _ (n + 2) HS1.out (by omega) 4 (by decide) (by decide)).mono ?_
  rintro e w2 ⟨c, rfl, hc, hs2, ht2⟩
  have hc := Int.ofNat_lt.1 hc
  have z2 := ht2.size
  have HS2 := Lib.hid hs2; have HT2 := Lib.hid (HT1.out.trans ht2); clear hs2 ht2
  by_cases h0 : c = 0
  · subst h0
    go_wp2_with fail
    refine (src_among _ g (n + 4) ((HS2.out.below (below1 _ _)).mono (by omega)) (by omega) w2.heap.size 10 10 [0, 2147483648, 2139095040, 4286578688, 2143289344, 1, 2139095039, 8388608, 8388607, 2147483649] (by omega) (by simp) ?_ (by decide) (by decide)).mono ?_
    · intro i hi
      exact arr_cell _ _ [0, 2147483648, 2139095040, 4286578688, 2143289344, 1, 2139095039, 8388608, 8388607, 2147483649] i hi
    rintro e w3 ⟨i, hi, rfl, hs3, ht3⟩
    obtain ⟨m, hm, hm2⟩ := strange_lt i hi
    rw [hm]
    have HS3 := Lib.hid hs3; have HT3 := Lib.hid ht3; clear hs3 ht3
    go_wp2_with fail
    refine (spec_l01From m hm2 _).mono ?_
    rintro e w4 ⟨rfl, rfl⟩
    go_wp2
    go_ret
    exact ⟨m, rfl, hm2, HS3.out.mono (by omega), (HT2.out.trans (Touch.of_below (below1 _ _))).trans HT3.out⟩
  by_cases h1 : c = 1
  · subst h1
    go_wp2_with fail
    refine (HK.out _ (n + 4) HS2.out (by omega) 65536 (by decide) (by decide)).mono ?_
    rintro e w3 ⟨a, rfl, ha, hs3, ht3⟩
    have HS3 := Lib.hid hs3; have HT3 := Lib.hid (HT2.out.trans ht3); clear hs3 ht3
    go_wp2_with fail
    refine (HK.out _ (n + 6) HS3.out (by omega) 65536 (by decide) (by decide)).mono ?_
    rintro e w4 ⟨d, rfl, hd, hs4, ht4⟩
    have HS4 := Lib.hid hs4; have HT4 := Lib.hid (HT3.out.trans ht4); clear hs4 ht4
    go_wp2_with fail
    refine (spec_l01From (a * 65536 + d) (by omega) _).mono ?_
    rintro e w5 ⟨rfl, rfl⟩
    go_wp2
    go_ret
    exact ⟨_, rfl, by omega, HS4.out.mono (by omega), HT4.out⟩
  by_cases h2 : c = 2
  · subst h2
    go_wp2_with fail
    refine (HK.out _ (n + 4) HS2.out (by omega) 65536 (by decide) (by decide)).mono ?_
    rintro e w3 ⟨a, rfl, ha, hs3, ht3⟩
    have HS3 := Lib.hid hs3; have HT3 := Lib.hid (HT2.out.trans ht3); clear hs3 ht3
    go_wp2_with fail
    refine (spec_l01From (a * 65536) (by omega) _).mono ?_
    rintro e w5 ⟨rfl, rfl⟩
    go_wp2
    go_ret
    exact ⟨_, rfl, by omega, HS3.out.mono (by omega), HT3.out⟩
  · have n0 : ((c : Int) == 0) = false := by simp; omega
    have n1 : ((c : Int) == 1) = false := by simp; omega
    have n2 : ((c : Int) == 2) = false := by simp; omega
    clear h0 h1 h2
    go_wp2_with fail
    refine (HP.out _ (n + 4) HS2.out (by omega)).mono ?_
    rintro e w3 ⟨x, rfl, hx, hs3, ht3⟩
    have z3 := ht3.size
    have HS3 := Lib.hid hs3; have HT3 := Lib.hid (HT2.out.trans ht3); clear hs3 ht3
    go_wp2_with fail
    refine (src_among _ g (n + 8) ((HS3.out.below (below1 _ _)).mono (by omega)) (by omega) w3.heap.size 4 4 [8388608, 2130706432, 1610612736, 536870912] (by omega) (by simp) ?_ (by decide) (by decide)).mono ?_
    · intro i hi
      exact arr_cell _ _ [8388608, 2130706432, 1610612736, 536870912] i hi
    rintro e w4 ⟨i, hi, rfl, hs4, ht4⟩
    obtain ⟨m, hm, hm2⟩ := scales_lt i hi
    rw [hm]
    have HS4 := Lib.hid hs4; have HT4 := Lib.hid ht4; clear hs4 ht4
    go_wp2_with fail
    refine (spec_l01From m hm2 _).mono ?_
    rintro e w5 ⟨rfl, rfl⟩
    go_wp2
    go_ret
    exact ⟨_, rfl, fbits_lt _ .f32 _ _ _, (HS4.out.below (below_drewN (Below.refl _ _) _)).mono (by omega), ((HT3.out.trans (Touch.of_below (below1 _ _))).trans HT4.out).trans (Touch.of_below (below_drewN (Below.refl _ _) _))⟩
end Go.Proofs.Ytnhikdjljjemlaa
/- What the reference draws from a source of choices: lists. No condition. -/
namespace Go.Proofs.Ytnhikdjljjemlaa
open Go Go.RowKit
set_option linter.unusedVariables false
set_option linter.unusedSimpArgs false
theorem touch_below' {lo hi : Nat} {w W w' : World} (ht : Touch lo hi w W) (hb : Below w.heap.size W w') : Touch lo hi w w' :=
  ⟨hb.os.trans ht.os, hb.tape.trans ht.tape, hb.output.trans ht.output, Nat.le_trans ht.size hb.size, fun k hk hd => (hb.block k hk).trans (ht.block k hk hd)⟩
theorem src_lt {w : World} {g n : Nat} (h : Src w g n) : g < w.heap.size := by obtain ⟨_, _, _, _, _, h1, _⟩ := h; exact h1.lt
theorem src_belowB {B : Nat} {w w' : World} {g n : Nat} (h : Src w g n) (hb : Below B w w') (hg : g < B) : Src w' g n := h.kept hb.size fun k hk => hb.block k (Nat.lt_of_le_of_lt hk hg)
theorem owns_touch {w w' : World} {lo2 hi2 e size base n : Nat} {v : Value} {cs : List Value} (h : w.ownsRow base e size v n cs) (ht : Touch lo2 hi2 w w') (hd : hi2 ≤ base) : w'.ownsRow base e size v n cs := ((Row.mk' h).touch ht (.inr hd)).own
theorem touch_from {w w1 w' : World} {g : Nat} (hb : Below w.heap.size w w1) (hg : w.heap.size ≤ g) (ht : Touch g (g + 1) w1 w') : Below w.heap.size w w' := touch_below hb ht hg
set_option maxRecDepth 100000 in
set_option maxHeartbeats 2000000 in
theorem draw_floats (w : World) (g n : Nat) (h : Src w g n) (hn : n ≤ 600000000) (N : Nat) (hN : N ≤ 100000) :
    Calls Try.prog 39 #[.pointer (some ⟨g, 0, none⟩), .int .i64 N] w fun e w' => ∃ (ad : Option Addr) (cap : Nat) (ys : List Nat), e = .returned (.slice ad N cap) ∧ RepF w' w.heap.size w'.heap.size ad N cap ys ∧ Src w' g (n + 2 + 20 * N) ∧ Touch g (g + 1) w w' := by
  obtain ⟨i0, hi, hz0, hz1, hz2⟩ := info_parts info_f32
  have ho := fun W m hW hm => src_one W g m hW hm 4 (by decide) (by decide)
  have hp := fun W m hW hm => draw_plain W g m hW hm
  have hq := fun W m hW hm => draw_float W g m hW hm
  have hgl := src_lt h
  have HO := Lib.hid ho; have HP := Lib.hid hp; have HQ := Lib.hid hq; have HS := Lib.hid h; clear ho hp hq h
  go_enter Try.func39, Try.ntmps39
  go_wp2_with fail
  refine (HO.out _ n ((HS.out.below (below1 _ _)).mono (Nat.le_refl _)) (by omega)).mono ?_
  rintro e w1 ⟨b, rfl, hs1, ht1⟩
  have z1 := ht1.size
  have ho1 : w1.ownsRow w.heap.size 24 1 (.slice (some ⟨w.heap.size, 0, none⟩) 0 0) 0 [] := owns_touch (World.ownsRow_made _ _ _ (Nat.le_refl _) (Nat.zero_le _) rfl) ht1 (by omega)
  have hT1 : Touch g (g + 1) w w1 := (Touch.of_below (below1 _ _)).trans ht1
  clear ht1
  go_wp2
  go_loopw [5, 1] (fun v i wr => ∃ k : Nat, i = .int .i64 ((N : Int) - k) ∧ k ≤ N ∧ ∃ ys : List Nat, wr.ownsRow w.heap.size 24 1 v k (ys.map (Value.float .f32)) ∧ (∀ y ∈ ys, (fun y => y < 4294967296) y) ∧ Src wr g (n + 2 + 20 * k) ∧ Touch g (g + 1) w wr) (fun _ i _ => (intOf i).toNat)
  case atStart => exact ⟨0, by simp, Nat.zero_le _, [], ho1, (fun y hy => nomatch hy), hs1.mono (by omega), hT1⟩
  case round =>
    clear ho1 hs1 hT1
    obtain ⟨k, rfl, hk, ys, hown, hys, hs, ht⟩ := hrel
    have hwz := ht.size
    have HLT := Lib.hid hys; have HWN := Lib.hid hown; have HS1 := Lib.hid hs; have HT1 := Lib.hid ht; clear hys hown hs ht
    by_cases hlt : k < N
    · have hp : 0 < (N : Int) - k := by omega
      cases b
      · go_wp2_with fail
        refine (HP.out _ (n + 2 + 20 * k) HS1.out (by omega)).mono ?_
        rintro e w2 ⟨x, rfl, hx, hs2, ht2⟩
        have hx := isPl_lt hx.out
        have hwz2 := ht2.size
        have hown2 := owns_touch HWN.out ht2 (by omega)
        have HT2 := Lib.hid (HT1.out.trans ht2); have HS2 := Lib.hid hs2; have HWN := Lib.hid hown2
        clear ht2 hs2 hown2
        go_wp2_with (at_builtin; refine wp_app rfl _ _ 29 rfl w.heap.size i0 (.float .f32 0) 1 4 Try.underlying29 hi hz0 hz1 hz2 rfl (by decide) rfl (one_cell _ rfl) _ _ _ rfl HWN.out rfl ?c3 ?c4 ?c5 ?_)
        case c3 => unfold maxLen; omega
        case c4 => omega
        case c5 => omega
        intro v' w9 hown1 hb9 hbs1
        have hs9 := src_belowB HS2.out hb9 (by omega)
        have ht9 := touch_below' HT2.out (hb9.mono (by omega))
        have HS9 := Lib.hid hs9; have HT9 := Lib.hid ht9
        clear hs9 ht9 hb9
        go_wp2
        go_roundw
        case rel =>
          refine ⟨k + 1, by congr 1; omega, hlt, ys ++ [x], by simpa using hown1, ?_, HS9.out.mono (by omega), HT9.out⟩
          intro z hz
          rcases List.mem_append.1 hz with hz | hz
          · exact HLT.out z hz
          · simp at hz; rw [hz]; exact hx
        case measure => simp [intOf]; omega
      · go_wp2_with fail
        refine (HQ.out _ (n + 2 + 20 * k) HS1.out (by omega)).mono ?_
        rintro e w2 ⟨x, rfl, hx, hs2, ht2⟩
        have hwz2 := ht2.size
        have hown2 := owns_touch HWN.out ht2 (by omega)
        have HT2 := Lib.hid (HT1.out.trans ht2); have HS2 := Lib.hid hs2; have HWN := Lib.hid hown2
        clear ht2 hs2 hown2
        go_wp2_with (at_builtin; refine wp_app rfl _ _ 29 rfl w.heap.size i0 (.float .f32 0) 1 4 Try.underlying29 hi hz0 hz1 hz2 rfl (by decide) rfl (one_cell _ rfl) _ _ _ rfl HWN.out rfl ?c3 ?c4 ?c5 ?_)
        case c3 => unfold maxLen; omega
        case c4 => omega
        case c5 => omega
        intro v' w9 hown1 hb9 hbs1
        have hs9 := src_belowB HS2.out hb9 (by omega)
        have ht9 := touch_below' HT2.out (hb9.mono (by omega))
        have HS9 := Lib.hid hs9; have HT9 := Lib.hid ht9
        clear hs9 ht9 hb9
        go_wp2
        go_roundw
        case rel =>
          refine ⟨k + 1, by congr 1; omega, hlt, ys ++ [x], by simpa using hown1, ?_, HS9.out.mono (by omega), HT9.out⟩
          intro z hz
          rcases List.mem_append.1 hz with hz | hz
          · exact HLT.out z hz
          · simp at hz; rw [hz]; exact hx
        case measure => simp [intOf]; omega
    · have hkn : k = N := by omega
      subst hkn
      have hp : (k : Int) - k ≤ 0 := by omega
      go_wp2
      go_ret
      obtain ⟨ad, cap, rfl, hr⟩ := RepF.of_owns HWN.out HLT.out
      exact ⟨ad, cap, rfl, ⟨ys, hr⟩, HS1.out.mono (by omega), HT1.out⟩
set_option maxRecDepth 100000 in
set_option maxHeartbeats 2000000 in
theorem b10_small (w : World) (a0 : Option Addr) (c0 : Nat) (l0 : List Int) (h : Ints .u8 w a0 c0 l0) (N : Nat) (hN : N ≤ 100000) :
    Calls Try.prog 24 #[.slice a0 l0.length c0, .int .i64 N] w fun e w' => ∃ (ad : Option Addr) (cap : Nat) (ys : List Nat), e = .returned (.slice ad N cap) ∧ RepF w' w.heap.size w'.heap.size ad N cap ys ∧ Hid (∀ y ∈ ys, isPl y) ∧ Below w.heap.size w w' := by
  obtain ⟨i0, hi, hz0, hz1, hz2⟩ := info_parts info_f32
  have hp := fun W m hW hm => draw_plain W w.heap.size m hW hm
  have hf := src_from w a0 c0 l0 h
  have HP := Lib.hid hp; have HF := Lib.hid hf; clear hp hf h
  go_enter Try.func24, Try.ntmps24
  go_wp2_with fail
  refine HF.out.mono ?_
  rintro e w1 ⟨rfl, hs, hb1, hz⟩
  obtain ⟨g, hg⟩ : ∃ g, g = w.heap.size := ⟨_, rfl⟩
  rw [← hg] at hs hz HP ⊢
  obtain ⟨n, hn⟩ : ∃ n, n = 0 := ⟨_, rfl⟩
  rw [← hn] at hs
  have hn0 : n ≤ 0 := by omega
  have hgl : w.heap.size ≤ g := by omega
  have HG := Lib.hid hg; have HB1 := Lib.hid hb1; clear hn hg hb1
  have hS1 := src_belowB hs (below1 w1 (.cells #[] 24)) hz
  have HS1 := Lib.hid hS1; clear hS1
  go_wp2
  go_loopw [6, 1] (fun v i wr => ∃ k : Nat, i = .int .i64 ((N : Int) - k) ∧ k ≤ N ∧ ∃ ys : List Nat, wr.ownsRow w1.heap.size 24 1 v k (ys.map (Value.float .f32)) ∧ (∀ y ∈ ys, isPl y) ∧ Src wr g (n + 0 + 4 * k) ∧ Touch g (g + 1) w1 wr) (fun _ i _ => (intOf i).toNat)
  case atStart => exact ⟨0, by simp, Nat.zero_le _, [], World.ownsRow_made _ _ _ (Nat.le_refl _) (Nat.zero_le _) rfl, (fun y hy => nomatch hy), (hs.below (below1 _ _)).mono (by omega), Touch.of_below (below1 _ _)⟩
  case round =>
    clear hs HS1
    obtain ⟨k, rfl, hk, ys, hown, hys, hs, ht⟩ := hrel
    have hwz := ht.size
    have HLT := Lib.hid hys; have HWN := Lib.hid hown; have HS1 := Lib.hid hs; have HT1 := Lib.hid ht; clear hys hown hs ht
    by_cases hlt : k < N
    · have hp : 0 < (N : Int) - k := by omega
      go_wp2_with fail
      refine (HP.out _ (n + 0 + 4 * k) HS1.out (by omega)).mono ?_
      rintro e w2 ⟨x, rfl, hx, hs2, ht2⟩
      have hx := hx.out
      have HXX := Lib.hid hx; clear hx
      have hwz2 := ht2.size
      have hown2 := owns_touch HWN.out ht2 (by omega)
      have HT2 := Lib.hid (HT1.out.trans ht2); have HS2 := Lib.hid hs2; have HWN := Lib.hid hown2
      clear ht2 hs2 hown2
      go_wp2_with (at_builtin; refine wp_app rfl _ _ 29 rfl w1.heap.size i0 (.float .f32 0) 1 4 Try.underlying29 hi hz0 hz1 hz2 rfl (by decide) rfl (one_cell _ rfl) _ _ _ rfl HWN.out rfl ?c3 ?c4 ?c5 ?_)
      case c3 => unfold maxLen; omega
      case c4 => omega
      case c5 => omega
      intro v' w9 hown1 hb9 hbs1
      have hs9 := src_belowB HS2.out hb9 (by omega)
      have ht9 := touch_below' HT2.out (hb9.mono (by omega))
      have HS9 := Lib.hid hs9; have HT9 := Lib.hid ht9
      clear hs9 ht9 hb9
      go_wp2
      go_roundw
      case rel =>
        refine ⟨k + 1, by congr 1; omega, hlt, ys ++ [x], by simpa using hown1, ?_, HS9.out.mono (by omega), HT9.out⟩
        intro z hz
        rcases List.mem_append.1 hz with hz | hz
        · exact HLT.out z hz
        · simp at hz; rw [hz]; exact HXX.out
      case measure => simp [intOf]; omega
    · have hkn : k = N := by omega
      subst hkn
      have hp : (k : Int) - k ≤ 0 := by omega
      go_wp2
      go_ret
      obtain ⟨ad, cap, rfl, hr⟩ := RepF.of_owns HWN.out (fun x hx => isPl_lt (HLT.out x hx))
      refine ⟨ad, cap, ys, rfl, ?_, HLT, ?_⟩
      · exact hr.bounds (by omega) (Nat.le_refl _)
      · exact touch_from HB1.out hgl HT1.out
theorem b10_plain (w : World) (a0 : Option Addr) (c0 : Nat) (l0 : List Int) (h : Ints .u8 w a0 c0 l0) :
    Calls Try.prog 17 #[.slice a0 l0.length c0] w fun e w' => ∃ x : Nat, e = .returned (.float .f32 x) ∧ Hid (isPl x) ∧ Below w.heap.size w w' := by
  have hp := fun W m hW hm => draw_plain W w.heap.size m hW hm
  have hf := src_from w a0 c0 l0 h
  have HP := Lib.hid hp; have HF := Lib.hid hf; clear hp hf h
  go_enter Try.func17, Try.ntmps17
  go_wp2_with fail
  refine HF.out.mono ?_
  rintro e w1 ⟨rfl, hs, hb1, hz⟩
  have HS := Lib.hid hs; have HB := Lib.hid hb1; clear hs hb1
  go_wp2_with fail
  refine (HP.out _ 0 HS.out (by decide)).mono ?_
  rintro e w2 ⟨x, rfl, hx, hs2, ht2⟩
  have HT := Lib.hid ht2; clear hs2 ht2
  go_wp2
  go_ret
  exact ⟨x, rfl, hx, touch_from HB.out (Nat.le_refl _) HT.out⟩
theorem b10_number (w : World) (a0 : Option Addr) (c0 : Nat) (l0 : List Int) (h : Ints .u8 w a0 c0 l0) :
    Calls Try.prog 16 #[.slice a0 l0.length c0] w fun e w' => ∃ x : Nat, e = .returned (.float .f32 x) ∧ x < 4294967296 ∧ Below w.heap.size w w' := by
  have hp := fun W m hW hm => draw_float W w.heap.size m hW hm
  have hk := fun W m hW hm => src_pick W w.heap.size m hW hm 65536 (by decide) (by decide)
  have ho := fun W m hW hm => src_one W w.heap.size m hW hm 2 (by decide) (by decide)
  have hf := src_from w a0 c0 l0 h
  have HP := Lib.hid hp; have HF := Lib.hid hf; have HK := Lib.hid hk; have HO := Lib.hid ho; clear hp hf h hk ho
  go_enter Try.func16, Try.ntmps16
  go_wp2_with fail
  refine HF.out.mono ?_
  rintro e w1 ⟨rfl, hs, hb1, hz⟩
  have HS := Lib.hid hs; have HB := Lib.hid hb1; clear hs hb1
  go_wp2_with fail
  refine (HO.out _ 0 HS.out (by decide)).mono ?_
  rintro e w2 ⟨b, rfl, hs2, ht2⟩
  have HS2 := Lib.hid hs2; have HT2 := Lib.hid ht2; clear hs2 ht2
  cases b
  · go_wp2_with fail
    refine (HP.out _ _ HS2.out (by decide)).mono ?_
    rintro e w3 ⟨x, rfl, hx, hs3, ht3⟩
    have HT := Lib.hid ht3; clear hs3 ht3
    go_wp2
    go_ret
    exact ⟨x, rfl, hx, touch_from HB.out (Nat.le_refl _) (HT2.out.trans HT.out)⟩
  · go_wp2_with fail
    refine (HK.out _ _ HS2.out (by decide)).mono ?_
    rintro e w3 ⟨a, rfl, ha, hs3, ht3⟩
    have HS3 := Lib.hid hs3; have HT3 := Lib.hid ht3; clear hs3 ht3
    go_wp2_with fail
    refine (HK.out _ _ HS3.out (by decide)).mono ?_
    rintro e w4 ⟨d, rfl, hd, hs4, ht4⟩
    have HT4 := Lib.hid ht4; clear hs4 ht4
    go_wp2_with fail
    refine (spec_l01From (a * 65536 + d) (by omega) _).mono ?_
    rintro e w5 ⟨rfl, rfl⟩
    go_wp2
    go_ret
    exact ⟨_, rfl, by omega, touch_from HB.out (Nat.le_refl _) ((HT2.out.trans HT3.out).trans HT4.out)⟩
theorem b10_numbers (w : World) (a0 : Option Addr) (c0 : Nat) (l0 : List Int) (h : Ints .u8 w a0 c0 l0) (N : Nat) (hN : N ≤ 100000) :
    Calls Try.prog 10 #[.slice a0 l0.length c0, .int .i64 N] w fun e w' => ∃ (ad : Option Addr) (cap : Nat) (ys : List Nat), e = .returned (.slice ad N cap) ∧ RepF w' w.heap.size w'.heap.size ad N cap ys ∧ Below w.heap.size w w' := by
  have hp := fun W m hW hm => draw_floats W w.heap.size m hW hm N hN
  have hf := src_from w a0 c0 l0 h
  have HP := Lib.hid hp; have HF := Lib.hid hf; clear hp hf h
  go_enter Try.func10, Try.ntmps10
  go_wp2_with fail
  refine HF.out.mono ?_
  rintro e w1 ⟨rfl, hs, hb1, hz⟩
  have HS := Lib.hid hs; have HB := Lib.hid hb1; clear hs hb1
  go_wp2_with fail
  refine (HP.out _ 0 HS.out (by decide)).mono ?_
  rintro e w2 ⟨ad, cap, ys, rfl, hr, hs2, ht2⟩
  have HT := Lib.hid ht2; have HR := Lib.hid hr; clear hs2 ht2 hr
  go_wp2
  go_ret
  exact ⟨ad, cap, ys, rfl, HR.out.bounds (by omega) (Nat.le_refl _), touch_from HB.out (Nat.le_refl _) HT.out⟩
end Go.Proofs.Ytnhikdjljjemlaa
