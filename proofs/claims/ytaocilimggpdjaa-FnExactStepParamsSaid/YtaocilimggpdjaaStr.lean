/- One number's step in slots: the program's, two slots. No condition. -/
import Derived.Test.YtaocilimggpdjaaStq
import Derived.BigRegion
namespace Go.Proofs.Ytaocilimggpdjaa
open Go Go.RowKit
set_option linter.unusedVariables false
set_option linter.unusedSimpArgs false
theorem RepFF.setTwo {w : World} {lo hi cap : Nat} {ad : Option Addr} {vs : List Value} {Xs : List (List Nat)} (h : RepFF w lo hi ad 2 cap vs Xs) {i n : Nat} (hn : ∀ j, j < 2 → (Xs.getD j []).length = n) (hin : i < n) :
    ∃ b b' c c', vs.getD 0 (.slice none 0 0) = .slice (some ⟨b, 0, none⟩) n c ∧ vs.getD 1 (.slice none 0 0) = .slice (some ⟨b', 0, none⟩) n c' ∧ b < w.heap.size ∧ b' < w.heap.size ∧ b ≠ b' ∧
      w.cell? ⟨b, i, none⟩ = some (.float .f32 ((Xs.getD 0 []).getD i 0)) ∧ w.frozen? ⟨b, i, none⟩ = false ∧ w.cell? ⟨b', i, none⟩ = some (.float .f32 ((Xs.getD 1 []).getD i 0)) ∧ w.frozen? ⟨b', i, none⟩ = false ∧
      ∀ w', Below w.heap.size w w' → ∀ y z, y < 4294967296 → z < 4294967296 → RepFF ((w'.setCell ⟨b, i, none⟩ (.float .f32 y)).setCell ⟨b', i, none⟩ (.float .f32 z)) lo hi ad 2 cap vs ((Xs.set 0 ((Xs.getD 0 []).set i y)).set 1 ((Xs.getD 1 []).set i z)) ∧ Touch lo hi w ((w'.setCell ⟨b, i, none⟩ (.float .f32 y)).setCell ⟨b', i, none⟩ (.float .f32 z)) := by
  have hx := h.len
  obtain ⟨b, c, e0, _, h1, h2, h3, h4⟩ := h.setNum (j := 0) (by omega) (hn 0 (by omega)) hin
  obtain ⟨b', c', e1, _, g1, g2, g3, g4⟩ := h.setNum (j := 1) (by omega) (hn 1 (by omega)) hin
  refine ⟨b, b', c, c', e0, e1, h1, g1, ?_, h2, h3, g2, g3, fun w' hb y z hy hz => ?_⟩
  · intro e
    have := h.sep 0 1 (by omega) (by omega) (by omega) b (by rw [e0]; rfl)
    rw [e1, e] at this
    exact this rfl
  · have k := h4 w' hb y hy
    have ek : (Xs.set 0 ((Xs.getD 0 []).set i y)).getD 1 [] = Xs.getD 1 [] := by rw [getD_set _ _ _ _ _ (by omega), if_neg (by omega)]
    obtain ⟨b2, c2, e2, _, _, _, _, k4⟩ := k.1.setNum (j := 1) (by omega) (by rw [ek]; exact hn 1 (by omega)) hin
    rw [e1] at e2
    cases e2
    have k5 := k4 _ (Below.refl _ _) z hz
    rw [ek] at k5
    exact ⟨k5.1, k.2.trans k5.2⟩
@[go_sem] theorem drawn_more (w : World) (a b : Nat) : Drawn (w.drewN a) (w.drewN (a + b)) = True := eq_true ⟨b, (World.drewN_drewN _ _ _).symm⟩
theorem drawn_more3 (w : World) (a b c d : Nat) : Drawn (w.drewN a) ((w.drewN (a + b + c)).drewN d) := ⟨b + c + d, by rw [World.drewN_drewN, World.drewN_drewN]; congr 1; omega⟩
theorem drawn_more4 (w : World) (a b d : Nat) : Drawn (w.drewN a) ((w.drewN (a + b)).drewN d) := ⟨b + d, by rw [World.drewN_drewN, World.drewN_drewN]; congr 1; omega⟩
@[go_sem] theorem drawn_more2 (w : World) (a b c : Nat) : Drawn (w.drewN a) (w.drewN (a + b + c)) = True := eq_true ⟨b + c, by rw [World.drewN_drewN, Nat.add_assoc]⟩
set_option maxRecDepth 100000 in
set_option maxHeartbeats 8000000 in
theorem impl_step4 (w : World) {lo hi : Nat} (ad : Option Addr) (cap n i : Nat) (vs : List Value) (Xs : List (List Nat)) (h : RepFF w lo hi ad 2 cap vs Xs) (A B U V : Nat → Nat) (hA : RowsAre 2 n (stepf i U A) (stepf i V B) Xs) (hin : i < n) (hn : n ≤ 256) (r b1 b2 ep x g fs sn : Nat) (hU : U i = upE 4 (cn .f32 b1) (cn .f32 b2) (cn .f32 g) (A i)) (hV : V i = upF (cn .f32 b2) (cn .f32 g) (B i)) :
    Calls Try.prog 140 #[.agg #[.int .i64 4, .float .f32 r, .float .f32 b1, .float .f32 b2, .float .f32 ep], .float .f32 x, .float .f32 g, .slice ad 2 cap, .int .i64 i, .float .f32 fs, .float .f32 sn] w
      (StepPost w lo hi ad 2 cap n vs (stepf (i + 1) U A) (stepf (i + 1) V B) (outE 4 (cn .f32 r) (cn .f32 ep) (cn .f32 fs) (cn .f32 sn) (cn .f32 x) (cn .f32 g) (U i) (V i))) := by
  obtain ⟨bo, rfl, hlo0, hbs0, hgc, _⟩ := h.addr (by omega)
  obtain ⟨b, b', cj, cj', e0, e1, hbs, hbs', hne, hc, hf, hc', hf', hset⟩ := h.setTwo hA.all hin
  have hg0 := hgc 0 (by omega)
  have hg1 := hgc 1 (by omega)
  rw [e0] at hg0
  rw [e1] at hg1
  obtain ⟨a, ha⟩ : ∃ a, a = (Xs.getD 0 []).getD i 0 := ⟨_, rfl⟩
  obtain ⟨d, hd⟩ : ∃ d, d = (Xs.getD 1 []).getD i 0 := ⟨_, rfl⟩
  rw [← ha] at hc
  rw [← hd] at hc'
  have hac : cn .f32 a = A i := by rw [ha, cn_at (hA.one (by omega)) hin, stepf_at]
  have hdc : cn .f32 d = B i := by rw [hd, cn_at (hA.two (by omega)) hin, stepf_at]
  have H := Lib.hid h; have HA := Lib.hid hA; have HS := Lib.hid hset; have HU := Lib.hid hU; have HV := Lib.hid hV; have HAC := Lib.hid hac; have HDC := Lib.hid hdc
  clear h hA hgc e0 e1 hset ha hd hU hV hac hdc
  go_enter Try.func140, Try.ntmps140
  go_wp2
  refine wp_region_drawn (fun f args u => VF (U i) u) (by kernel_rfl) (by kernel_rfl) ?_
  iterate 9 (refine wset_step (fun K hK nq => ?_); go_simp; refine hK _ ?_; clear hK K)
  refine wset_step (fun K hK nq => ?_)
  go_simp
  refine ⟨(impl_blend b1 a _ _).mono ?_, ?_⟩
  · rintro e w' ⟨y, rfl, hy, q, rfl⟩
    exact ⟨_, rfl, ⟨_, World.drewN_drewN _ _ _⟩, y, rfl, by rw [hy.out.1, HAC.out, HU.out]; rfl, hy.out.2⟩
  rintro u ⟨y, rfl, hy⟩
  refine hK _ ?_
  clear hK K
  have HY := Lib.hid hy; clear hy
  repeat (refine wset_step (fun K hK nq => ?_); go_simp; refine hK _ ?_; clear hK K)
  refine wset_nil ?_
  rintro w' ⟨q, rfl⟩
  go_wp2
  refine wp_region_drawn (fun f args u => VF (V i) u) (by kernel_rfl) (by kernel_rfl) ?_
  iterate 11 (refine wset_step (fun K hK nq => ?_); go_simp; refine hK _ ?_; clear hK K)
  refine wset_step (fun K hK nq => ?_)
  go_simp
  refine ⟨(impl_blend b2 d _ _).mono ?_, ?_⟩
  · rintro e w' ⟨y, rfl, hy, q, rfl⟩
    exact ⟨_, rfl, by first | exact drawn_more3 _ _ _ _ _ | exact drawn_more4 _ _ _ _, y, rfl, by rw [hy.out.1, cn_fbits, HDC.out, HV.out]; rfl, hy.out.2⟩
  rintro u ⟨z, rfl, hz⟩
  refine hK _ ?_
  clear hK K
  have HZ := Lib.hid hz; clear hz
  repeat (refine wset_step (fun K hK nq => ?_); go_simp; refine hK _ ?_; clear hK K)
  refine wset_nil ?_
  rintro w' ⟨q2, rfl⟩
  go_wp2
  go_region
  go_wp2_with fail
  generalize hp : fbits BinOp.quo FloatKind.f32 y fs _ = p
  generalize ho : fbits BinOp.quo FloatKind.f32 z sn _ = o
  have hP : cn .f32 p = fop .quo .f32 (U i) (cn .f32 fs) := by rw [← hp, cn_fbits, HY.out.1]
  have hO : cn .f32 o = fop .quo .f32 (V i) (cn .f32 sn) := by rw [← ho, cn_fbits, HZ.out.1]
  have hol : o < 4294967296 := by rw [← ho]; exact fbits_lt _ .f32 _ _ _
  clear hp ho
  refine (impl_less 4 r b1 b2 ep x p o hol _).mono ?_
  rintro e w1 ⟨t, rfl, ht, hb⟩
  have hbk := hb
  have HB := Lib.hid hb; clear hb
  go_wp2
  go_ret
  refine ⟨_, _, rfl, ?_, ht.out.2, ((HS.out _ (below_drewN (below1 w (.cells #[.int .i64 4, .float .f32 r, .float .f32 b1, .float .f32 b2, .float .f32 ep] 30)) _) y z HY.out.2 HZ.out.2).1.below (below_drewN (Below.refl _ _) _)).below HB.out, ⟨fun j hj => ?_, fun _ => ?_, fun _ => ?_⟩, (HS.out _ (below_drewN (below1 w (.cells #[.int .i64 4, .float .f32 r, .float .f32 b1, .float .f32 b2, .float .f32 ep] 30)) _) y z HY.out.2 HZ.out.2).2.trans ((Touch.of_below (below_drewN (Below.refl _ _) _)).trans (Touch.of_below HB.out))⟩
  · rw [ht.out.1, hP, hO]; rfl
  · have hx := H.out.len
    rw [getD_set _ _ _ _ _ (by simp; omega), getD_set _ _ _ _ _ (by omega)]
    have l0 := HA.out.all 0 (by omega)
    have l1 := HA.out.all 1 (by omega)
    by_cases h1 : j = 1
    · rw [if_pos h1]; simpa using l1
    · rw [if_neg h1, if_pos (by omega)]; simpa using l0
  · have hx := H.out.len
    rw [getD_set _ _ _ _ _ (by simp; omega), if_neg (by omega), getD_set _ _ _ _ _ (by omega), if_pos rfl]
    exact set_listOf (HA.out.one (by omega)) HY.out.1
  · have hx := H.out.len
    rw [getD_set _ _ _ _ _ (by simp; omega), if_pos rfl]
    exact set_listOf (HA.out.two (by omega)) HZ.out.1
theorem impl_step (w : World) {lo hi : Nat} (k : Int) (hk : inB k 0 4 = true) (ad : Option Addr) (cap n i : Nat) (vs : List Value) (Xs : List (List Nat)) (h : RepFF w lo hi ad (slotsN k) cap vs Xs) (A B U V : Nat → Nat) (hA : RowsAre (slotsN k) n (stepf i U A) (stepf i V B) Xs) (hin : i < n) (hn : n ≤ 256) (r b1 b2 ep x g fs sn : Nat) (hU : U i = upE k (cn .f32 b1) (cn .f32 b2) (cn .f32 g) (A i)) (hV : V i = upF (cn .f32 b2) (cn .f32 g) (B i)) :
    Calls Try.prog 140 #[.agg #[.int .i64 k, .float .f32 r, .float .f32 b1, .float .f32 b2, .float .f32 ep], .float .f32 x, .float .f32 g, .slice ad (slotsN k) cap, .int .i64 i, .float .f32 fs, .float .f32 sn] w
      (StepPost w lo hi ad (slotsN k) cap n vs (stepf (i + 1) U A) (stepf (i + 1) V B) (outE k (cn .f32 r) (cn .f32 ep) (cn .f32 fs) (cn .f32 sn) (cn .f32 x) (cn .f32 g) (U i) (V i))) := by
  have ⟨k0, k1⟩ := inB_iff.1 hk
  have : k = 0 ∨ k = 1 ∨ k = 2 ∨ k = 3 ∨ k = 4 := by omega
  rcases this with rfl | rfl | rfl | rfl | rfl
  · exact (impl_step0 w ad cap n i vs Xs h _ _ hA r b1 b2 ep x g fs sn).mono fun e w' ⟨y, Ys, h1, h2, h3, h4, h5, h6⟩ => ⟨y, Ys, h1, h2, h3, h4, ⟨h5.all, fun h => absurd h (by decide), fun h => absurd h (by decide)⟩, h6⟩
  · exact impl_step1 w ad cap n i vs Xs h A B U V hA hin hn r b1 b2 ep x g fs sn hU
  · exact impl_step2 w ad cap n i vs Xs h A B U V hA hin hn r b1 b2 ep x g fs sn hU
  · exact impl_step3 w ad cap n i vs Xs h A B U V hA hin hn r b1 b2 ep x g fs sn hU
  · exact impl_step4 w ad cap n i vs Xs h A B U V hA hin hn r b1 b2 ep x g fs sn hU hV
end Go.Proofs.Ytaocilimggpdjaa
