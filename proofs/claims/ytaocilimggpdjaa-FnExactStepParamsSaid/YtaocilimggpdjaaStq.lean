/- One number's step in slots: the program's. No condition. -/
import Derived.Test.YtaocilimggpdjaaStp
namespace Go.Proofs.Ytaocilimggpdjaa
open Go Go.RowKit
set_option linter.unusedVariables false
set_option linter.unusedSimpArgs false
/-- a number of a row is written -/
theorem RepFF.setNum {w : World} {lo hi S cap : Nat} {ad : Option Addr} {vs : List Value} {Xs : List (List Nat)} (h : RepFF w lo hi ad S cap vs Xs) {j : Nat} (hj : j < S) {i n : Nat} (hn : (Xs.getD j []).length = n) (hin : i < n) :
    ∃ b cj, vs.getD j (.slice none 0 0) = .slice (some ⟨b, 0, none⟩) n cj ∧ lo ≤ b ∧ b < w.heap.size ∧ w.cell? ⟨b, i, none⟩ = some (.float .f32 ((Xs.getD j []).getD i 0)) ∧ w.frozen? ⟨b, i, none⟩ = false ∧
      ∀ w', Below w.heap.size w w' → ∀ y, y < 4294967296 → RepFF (w'.setCell ⟨b, i, none⟩ (.float .f32 y)) lo hi ad S cap vs (Xs.set j ((Xs.getD j []).set i y)) ∧ Touch lo hi w (w'.setCell ⟨b, i, none⟩ (.float .f32 y)) := by
  obtain ⟨aj, cj, e, hf⟩ := h.inn j hj
  rw [hn] at e hf
  obtain ⟨b, rfl, hlo, hc, hfr, _⟩ := hf.open (by omega)
  have hb := (hf.row.own.lt b rfl).2
  refine ⟨b, cj, e, hlo, hb, hc i hin, hfr i, fun w' hbw y hy => ?_⟩
  have hf' := hf.below hbw
  have hst := hf'.row.own.stored i (.float .f32 y)
  rw [← List.map_set] at hst
  refine ⟨RepFF.setIn (ys := (Xs.getD j []).set i y) (ai := some ⟨b, 0, none⟩) (ci := cj) (h.below hbw) hj (by rw [hn]; exact e) (by simp) (fun z hz => ?_) (by rw [hn]; exact hst.1) hst.2, (Touch.of_below hbw).trans (Touch.of_grown hf'.row hst.2)⟩
  rcases List.mem_or_eq_of_mem_set hz with hz | rfl
  · exact hf.lt z hz
  · exact hy
/-- what the rows hold -/
structure RowsAre (S n : Nat) (A B : Nat → Nat) (Xs : List (List Nat)) : Prop where
  all : ∀ j, j < S → (Xs.getD j []).length = n
  one : 1 ≤ S → (Xs.getD 0 []).map (cn .f32) = listOf n A
  two : 2 ≤ S → (Xs.getD 1 []).map (cn .f32) = listOf n B
/-- what a slot becomes -/
def upE (k : Int) (b1 b2 g a : Nat) : Nat := if k = 1 then fop .add .f32 (fop .mul .f32 b1 a) g else if k = 2 then fop .add .f32 a (fop .mul .f32 g g) else if k = 3 then blE b2 a (fop .mul .f32 g g) else blE b1 a g
def upF (b2 g b : Nat) : Nat := blE b2 b (fop .mul .f32 g g)
/-- what a parameter becomes -/
def outE (k : Int) (r ep fs sn x g u v : Nat) : Nat :=
  if k = 0 then fop .sub .f32 x (fop .mul .f32 r g) else if k = 1 then fop .sub .f32 x (fop .mul .f32 r u) else if k = 4 then leE r ep x (fop .quo .f32 u fs) (fop .quo .f32 v sn) else leE r ep x g u
def StepPost (w : World) (lo hi : Nat) (ad : Option Addr) (S cap n : Nat) (vs : List Value) (A B : Nat → Nat) (c : Nat) (e : Ending) (w' : World) : Prop :=
  ∃ y Ys, e = .returned (.float .f32 y) ∧ cn .f32 y = c ∧ y < 4294967296 ∧ RepFF w' lo hi ad S cap vs Ys ∧ RowsAre S n A B Ys ∧ Touch lo hi w w'
set_option maxRecDepth 100000 in
set_option maxHeartbeats 2000000 in
theorem impl_step0 (w : World) {lo hi : Nat} (ad : Option Addr) (cap n i : Nat) (vs : List Value) (Xs : List (List Nat)) (h : RepFF w lo hi ad 0 cap vs Xs) (A B : Nat → Nat) (hA : RowsAre 0 n A B Xs) (r b1 b2 ep x g fs sn : Nat) :
    Calls Try.prog 140 #[.agg #[.int .i64 0, .float .f32 r, .float .f32 b1, .float .f32 b2, .float .f32 ep], .float .f32 x, .float .f32 g, .slice ad 0 cap, .int .i64 i, .float .f32 fs, .float .f32 sn] w
      (StepPost w lo hi ad 0 cap n vs A B (outE 0 (cn .f32 r) (cn .f32 ep) (cn .f32 fs) (cn .f32 sn) (cn .f32 x) (cn .f32 g) 0 0)) := by
  have H := Lib.hid h; have HA := Lib.hid hA; clear h hA
  go_enter Try.func140, Try.ntmps140
  go_wp2
  go_ret
  refine ⟨_, Xs, rfl, ?_, fbits_lt _ .f32 _ _ _, H.out.below (below_drewN (below1 _ _) _), HA.out, Touch.of_below (below_drewN (below1 _ _) _)⟩
  rw [cn_fbits, cn_fbits]; rfl
set_option maxRecDepth 100000 in
set_option maxHeartbeats 4000000 in
theorem impl_step1 (w : World) {lo hi : Nat} (ad : Option Addr) (cap n i : Nat) (vs : List Value) (Xs : List (List Nat)) (h : RepFF w lo hi ad 1 cap vs Xs) (A B U V : Nat → Nat) (hA : RowsAre 1 n (stepf i U A) (stepf i V B) Xs) (hin : i < n) (hn : n ≤ 256) (r b1 b2 ep x g fs sn : Nat) (hU : U i = upE 1 (cn .f32 b1) (cn .f32 b2) (cn .f32 g) (A i)) :
    Calls Try.prog 140 #[.agg #[.int .i64 1, .float .f32 r, .float .f32 b1, .float .f32 b2, .float .f32 ep], .float .f32 x, .float .f32 g, .slice ad 1 cap, .int .i64 i, .float .f32 fs, .float .f32 sn] w
      (StepPost w lo hi ad 1 cap n vs (stepf (i + 1) U A) (stepf (i + 1) V B) (outE 1 (cn .f32 r) (cn .f32 ep) (cn .f32 fs) (cn .f32 sn) (cn .f32 x) (cn .f32 g) (U i) (V i))) := by
  obtain ⟨bo, rfl, hlo0, hbs0, hgc, _⟩ := h.addr (by omega)
  obtain ⟨b, cj, e0, hlo, hbs, hc, hf, hset⟩ := h.setNum (j := 0) (by omega) (hA.all 0 (by omega)) hin
  have hg0 := hgc 0 (by omega)
  rw [e0] at hg0
  obtain ⟨a, ha⟩ : ∃ a, a = (Xs.getD 0 []).getD i 0 := ⟨_, rfl⟩
  rw [← ha] at hc
  have hac : cn .f32 a = A i := by rw [ha, cn_at (hA.one (by omega)) hin, stepf_at]
  have H := Lib.hid h; have HA := Lib.hid hA; have HS := Lib.hid hset; have HU := Lib.hid hU; have HAC := Lib.hid hac
  clear h hA hgc e0 hset ha hU hac
  go_enter Try.func140, Try.ntmps140
  go_wp2
  refine wp_region_drawn (fun f args u => False) (by kernel_rfl) (by kernel_rfl) ?_
  repeat (refine wset_step (fun K hK nq => ?_); go_simp; refine hK _ ?_; clear hK K)
  generalize hy : fbits BinOp.add FloatKind.f32 _ g _ = y
  have hyc : cn .f32 y = U i := by rw [← hy, cn_fbits, cn_fbits, HAC.out, HU.out]; rfl
  have hyl : y < 4294967296 := by rw [← hy]; exact fbits_lt _ .f32 _ _ _
  have HY := Lib.hid (And.intro hyc hyl)
  clear hyc hyl hy
  refine wset_nil ?_
  rintro w' ⟨q, rfl⟩
  go_wp2
  go_ret
  have h2 := HS.out _ (below_drewN (below1 w (.cells #[.int .i64 1, .float .f32 r, .float .f32 b1, .float .f32 b2, .float .f32 ep] 30)) q) y HY.out.2
  refine ⟨_, _, rfl, ?_, fbits_lt _ .f32 _ _ _, h2.1.below (below_drewN (Below.refl _ _) _), ⟨fun j hj => ?_, fun _ => ?_, fun h => by omega⟩, h2.2.trans (Touch.of_below (below_drewN (Below.refl _ _) _))⟩
  · rw [cn_fbits, cn_fbits, HY.out.1]; rfl
  · rw [getD_set _ _ _ _ _ (by rw [H.out.len]; omega)]
    have := HA.out.all 0 (by omega)
    rw [if_pos (by omega)]; simpa using this
  · rw [getD_set _ _ _ _ _ (by rw [H.out.len]; omega), if_pos rfl]
    exact set_listOf (HA.out.one (by omega)) HY.out.1
set_option maxRecDepth 100000 in
set_option maxHeartbeats 4000000 in
theorem impl_step2 (w : World) {lo hi : Nat} (ad : Option Addr) (cap n i : Nat) (vs : List Value) (Xs : List (List Nat)) (h : RepFF w lo hi ad 1 cap vs Xs) (A B U V : Nat → Nat) (hA : RowsAre 1 n (stepf i U A) (stepf i V B) Xs) (hin : i < n) (hn : n ≤ 256) (r b1 b2 ep x g fs sn : Nat) (hU : U i = upE 2 (cn .f32 b1) (cn .f32 b2) (cn .f32 g) (A i)) :
    Calls Try.prog 140 #[.agg #[.int .i64 2, .float .f32 r, .float .f32 b1, .float .f32 b2, .float .f32 ep], .float .f32 x, .float .f32 g, .slice ad 1 cap, .int .i64 i, .float .f32 fs, .float .f32 sn] w
      (StepPost w lo hi ad 1 cap n vs (stepf (i + 1) U A) (stepf (i + 1) V B) (outE 2 (cn .f32 r) (cn .f32 ep) (cn .f32 fs) (cn .f32 sn) (cn .f32 x) (cn .f32 g) (U i) (V i))) := by
  obtain ⟨bo, rfl, hlo0, hbs0, hgc, _⟩ := h.addr (by omega)
  obtain ⟨b, cj, e0, hlo, hbs, hc, hf, hset⟩ := h.setNum (j := 0) (by omega) (hA.all 0 (by omega)) hin
  have hg0 := hgc 0 (by omega)
  rw [e0] at hg0
  obtain ⟨a, ha⟩ : ∃ a, a = (Xs.getD 0 []).getD i 0 := ⟨_, rfl⟩
  rw [← ha] at hc
  have hac : cn .f32 a = A i := by rw [ha, cn_at (hA.one (by omega)) hin, stepf_at]
  have H := Lib.hid h; have HA := Lib.hid hA; have HS := Lib.hid hset; have HU := Lib.hid hU; have HAC := Lib.hid hac
  clear h hA hgc e0 hset ha hU hac
  go_enter Try.func140, Try.ntmps140
  go_wp2_with fail
  generalize hy : fbits BinOp.add FloatKind.f32 a _ _ = y
  have hyc : cn .f32 y = U i := by rw [← hy, cn_fbits, cn_fbits, HAC.out, HU.out]; rfl
  have hyl : y < 4294967296 := by rw [← hy]; exact fbits_lt _ .f32 _ _ _
  have HY := Lib.hid (And.intro hyc hyl)
  clear hyc hyl hy
  refine (impl_less 2 r b1 b2 ep x g y HY.out.2 _).mono ?_
  rintro e w1 ⟨z, rfl, hz, hb⟩
  have hbk := hb
  have HB := Lib.hid hb; clear hb
  go_wp2
  go_ret
  refine ⟨_, _, rfl, ?_, hz.out.2, (HS.out _ (below_drewN (below1 w (.cells #[.int .i64 2, .float .f32 r, .float .f32 b1, .float .f32 b2, .float .f32 ep] 30)) _) y HY.out.2).1.below HB.out, ⟨fun j hj => ?_, fun _ => ?_, fun h => by omega⟩, (HS.out _ (below_drewN (below1 w (.cells #[.int .i64 2, .float .f32 r, .float .f32 b1, .float .f32 b2, .float .f32 ep] 30)) _) y HY.out.2).2.trans (Touch.of_below HB.out)⟩
  · rw [hz.out.1, HY.out.1]; rfl
  · rw [getD_set _ _ _ _ _ (by rw [H.out.len]; omega)]
    have := HA.out.all 0 (by omega)
    rw [if_pos (by omega)]; simpa using this
  · rw [getD_set _ _ _ _ _ (by rw [H.out.len]; omega), if_pos rfl]
    exact set_listOf (HA.out.one (by omega)) HY.out.1
set_option maxRecDepth 100000 in
set_option maxHeartbeats 4000000 in
theorem impl_step3 (w : World) {lo hi : Nat} (ad : Option Addr) (cap n i : Nat) (vs : List Value) (Xs : List (List Nat)) (h : RepFF w lo hi ad 1 cap vs Xs) (A B U V : Nat → Nat) (hA : RowsAre 1 n (stepf i U A) (stepf i V B) Xs) (hin : i < n) (hn : n ≤ 256) (r b1 b2 ep x g fs sn : Nat) (hU : U i = upE 3 (cn .f32 b1) (cn .f32 b2) (cn .f32 g) (A i)) :
    Calls Try.prog 140 #[.agg #[.int .i64 3, .float .f32 r, .float .f32 b1, .float .f32 b2, .float .f32 ep], .float .f32 x, .float .f32 g, .slice ad 1 cap, .int .i64 i, .float .f32 fs, .float .f32 sn] w
      (StepPost w lo hi ad 1 cap n vs (stepf (i + 1) U A) (stepf (i + 1) V B) (outE 3 (cn .f32 r) (cn .f32 ep) (cn .f32 fs) (cn .f32 sn) (cn .f32 x) (cn .f32 g) (U i) (V i))) := by
  obtain ⟨bo, rfl, hlo0, hbs0, hgc, _⟩ := h.addr (by omega)
  obtain ⟨b, cj, e0, hlo, hbs, hc, hf, hset⟩ := h.setNum (j := 0) (by omega) (hA.all 0 (by omega)) hin
  have hg0 := hgc 0 (by omega)
  rw [e0] at hg0
  obtain ⟨a, ha⟩ : ∃ a, a = (Xs.getD 0 []).getD i 0 := ⟨_, rfl⟩
  rw [← ha] at hc
  have hac : cn .f32 a = A i := by rw [ha, cn_at (hA.one (by omega)) hin, stepf_at]
  have H := Lib.hid h; have HA := Lib.hid hA; have HS := Lib.hid hset; have HU := Lib.hid hU; have HAC := Lib.hid hac
  clear h hA hgc e0 hset ha hU hac
  go_enter Try.func140, Try.ntmps140
  go_wp2
  refine wp_region_drawn (fun f args u => VF (U i) u) (by kernel_rfl) (by kernel_rfl) ?_
  iterate 11 (refine wset_step (fun K hK nq => ?_); go_simp; refine hK _ ?_; clear hK K)
  refine wset_step (fun K hK nq => ?_)
  go_simp
  refine ⟨(impl_blend b2 a _ _).mono ?_, ?_⟩
  · rintro e w' ⟨y, rfl, hy, q, rfl⟩
    exact ⟨_, rfl, ⟨_, World.drewN_drewN _ _ _⟩, y, rfl, by rw [hy.out.1, cn_fbits, HAC.out, HU.out]; rfl, hy.out.2⟩
  rintro u ⟨y, rfl, hy⟩
  refine hK _ ?_
  clear hK K
  have HY := Lib.hid hy; clear hy
  repeat (refine wset_step (fun K hK nq => ?_); go_simp; refine hK _ ?_; clear hK K)
  refine wset_nil ?_
  rintro w' ⟨q, rfl⟩
  go_wp2_with fail
  refine (impl_less 3 r b1 b2 ep x g y HY.out.2 _).mono ?_
  rintro e w1 ⟨z, rfl, hz, hb⟩
  have hbk := hb
  have HB := Lib.hid hb; clear hb
  go_wp2
  go_ret
  refine ⟨_, _, rfl, ?_, hz.out.2, (HS.out _ (below_drewN (below1 w (.cells #[.int .i64 3, .float .f32 r, .float .f32 b1, .float .f32 b2, .float .f32 ep] 30)) _) y HY.out.2).1.below HB.out, ⟨fun j hj => ?_, fun _ => ?_, fun h => by omega⟩, (HS.out _ (below_drewN (below1 w (.cells #[.int .i64 3, .float .f32 r, .float .f32 b1, .float .f32 b2, .float .f32 ep] 30)) _) y HY.out.2).2.trans (Touch.of_below HB.out)⟩
  · rw [hz.out.1, HY.out.1]; rfl
  · rw [getD_set _ _ _ _ _ (by rw [H.out.len]; omega)]
    have := HA.out.all 0 (by omega)
    rw [if_pos (by omega)]; simpa using this
  · rw [getD_set _ _ _ _ _ (by rw [H.out.len]; omega), if_pos rfl]
    exact set_listOf (HA.out.one (by omega)) HY.out.1
end Go.Proofs.Ytaocilimggpdjaa
