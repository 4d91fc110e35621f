/- A step of all parameters: the program's. No condition. -/
import Derived.Test.YtaocilimggpdjaaStr
import Derived.IntWalk
namespace Go.Proofs.Ytaocilimggpdjaa
open Go Go.RowKit
set_option linter.unusedVariables false
set_option linter.unusedSimpArgs false
def stA (Xs : List (List Nat)) (i : Nat) : Nat := ((Xs.getD 0 []).map (cn .f32)).getD i 0
def stB (Xs : List (List Nat)) (i : Nat) : Nat := ((Xs.getD 1 []).map (cn .f32)).getD i 0
def stU (k : Int) (b1 b2 : Nat) (gs : List Nat) (Xs : List (List Nat)) (i : Nat) : Nat := upE k (cn .f32 b1) (cn .f32 b2) (cn .f32 (gs.getD i 0)) (stA Xs i)
def stV (b2 : Nat) (gs : List Nat) (Xs : List (List Nat)) (i : Nat) : Nat := upF (cn .f32 b2) (cn .f32 (gs.getD i 0)) (stB Xs i)
def stF (b s : Nat) : Nat := fop .sub .f32 ONE (powF (cn .f32 b) (s + 1))
def stO (k : Int) (r b1 b2 ep s : Nat) (ps gs : List Nat) (Xs : List (List Nat)) (i : Nat) : Nat :=
  outE k (cn .f32 r) (cn .f32 ep) (stF b1 s) (stF b2 s) (cn .f32 (ps.getD i 0)) (cn .f32 (gs.getD i 0)) (stU k b1 b2 gs Xs i) (stV b2 gs Xs i)
theorem rows_start {S n : Nat} {Xs : List (List Nat)} (h : ∀ j, j < S → (Xs.getD j []).length = n) : RowsAre S n (stA Xs) (stB Xs) Xs := by
  refine ⟨h, fun h1 => ?_, fun h2 => ?_⟩
  · have := eq_listOf ((Xs.getD 0 []).map (cn .f32))
    rw [List.length_map, h 0 (by omega)] at this
    exact this
  · have := eq_listOf ((Xs.getD 1 []).map (cn .f32))
    rw [List.length_map, h 1 (by omega)] at this
    exact this
theorem RepFF.belowHi {w w' : World} {lo hi B : Nat} {ad : Option Addr} {n cap : Nat} {vs : List Value} {Xs : List (List Nat)} (h : RepFF w lo hi ad n cap vs Xs) (hb : Below B w w') (hB : hi ≤ B) : RepFF w' lo hi ad n cap vs Xs :=
  h.touch (lo2 := B) (hi2 := w.heap.size) ⟨hb.os, hb.tape, hb.output, hb.size, fun k hk hd => hb.block k (by omega)⟩ (.inl hB)
theorem OptAt.touch {w w' : World} {lo hi g : Nat} {k : Int} {r b1 b2 ep : Nat} (h : OptAt w g k r b1 b2 ep) (ht : Touch lo hi w w') (hg : g < lo ∨ hi ≤ g) : OptAt w' g k r b1 b2 ep :=
  have b := fun o => World.cell?_of_block (w := w) (w' := w') (a := ⟨g, o, none⟩) (ht.block g h.lt hg)
  ⟨Nat.lt_of_lt_of_le h.lt ht.size, (b 0).trans h.c0, (b 1).trans h.c1, (b 2).trans h.c2, (b 3).trans h.c3, (b 4).trans h.c4⟩
/-- a value that a call gives: a 32-bit number -/
def VG (c : Nat) (v : Value) : Prop := ∃ r, v = .float .f32 r ∧ cn .f32 r = c
def argF (args : Array Value) : Nat := match args.toList with
  | Value.float .f32 b :: _ => b
  | _ => 0
/-- the end of a step of all -/
def StepsPost (w : World) (S n : Nat) (O U V : Nat → Nat) (e : Ending) (w' : World) : Prop :=
  ∃ a1 c1 ys a2 c2 us Ys mid, e = .returned (.tuple #[.slice a1 n c1, .slice a2 S c2]) ∧ RepF w' mid w'.heap.size a1 n c1 ys ∧ ys.map (cn .f32) = listOf n O ∧
    RepFF w' w.heap.size mid a2 S c2 us Ys ∧ RowsAre S n U V Ys ∧ w.heap.size ≤ mid ∧ mid ≤ w'.heap.size ∧ Below w.heap.size w w'
set_option maxRecDepth 100000 in
set_option maxHeartbeats 8000000 in
theorem impl_steps (w : World) {lo hi : Nat} (k : Int) (hk : inB k 0 4 = true) (r b1 b2 ep : Nat) (pa : Option Addr) (pc n : Nat) (ps : List Nat) (hp : F32s w pa pc ps) (hpn : n = ps.length) (ga : Option Addr) (gc : Nat) (gs : List Nat) (hg : F32s w ga gc gs) (hgn : n = gs.length) (hn : n ≤ 256)
    (sa : Option Addr) (sc : Nat) (vs : List Value) (Xs : List (List Nat)) (h : RepFF w lo hi sa (slotsN k) sc vs Xs) (hX : ∀ j, j < slotsN k → (Xs.getD j []).length = n) (s : Nat) (hs : s ≤ 999) :
    Calls Try.prog 82 #[.agg #[.int .i64 k, .float .f32 r, .float .f32 b1, .float .f32 b2, .float .f32 ep], .slice pa n pc, .slice ga n gc, .slice sa (slotsN k) sc, .int .i64 s] w
      (StepsPost w (slotsN k) n (stO k r b1 b2 ep s ps gs Xs) (stU k b1 b2 gs Xs) (stV b2 gs Xs)) := by
  obtain ⟨i0, hi, hz0, hz1, hz2⟩ := info_parts info_f32
  have hSl := slotsN_le k
  have hA := rows_start hX
  obtain ⟨A, eA⟩ : ∃ A, A = stA Xs := ⟨_, rfl⟩
  obtain ⟨B, eB⟩ : ∃ B, B = stB Xs := ⟨_, rfl⟩
  obtain ⟨U, eU⟩ : ∃ U, U = stU k b1 b2 gs Xs := ⟨_, rfl⟩
  obtain ⟨V, eV⟩ : ∃ V, V = stV b2 gs Xs := ⟨_, rfl⟩
  obtain ⟨O, eO⟩ : ∃ O, O = stO k r b1 b2 ep s ps gs Xs := ⟨_, rfl⟩
  have hU : ∀ i, U i = upE k (cn .f32 b1) (cn .f32 b2) (cn .f32 (gs.getD i 0)) (A i) := fun i => by rw [eU, eA]; rfl
  have hV : ∀ i, V i = upF (cn .f32 b2) (cn .f32 (gs.getD i 0)) (B i) := fun i => by rw [eV, eB]; rfl
  have hO : ∀ i, O i = outE k (cn .f32 r) (cn .f32 ep) (stF b1 s) (stF b2 s) (cn .f32 (ps.getD i 0)) (cn .f32 (gs.getD i 0)) (U i) (V i) := fun i => by rw [eO, eU, eV]; rfl
  rw [← eO, ← eU, ← eV]
  rw [← eA, ← eB] at hA
  have kst := fun W lo hi na nc i us Ys (hr : RepFF W lo hi na (slotsN k) nc us Ys) (hA : RowsAre (slotsN k) n (stepf i U A) (stepf i V B) Ys) hin x fs sn => impl_step W k hk na nc n i us Ys hr A B U V hA hin hn r b1 b2 ep x (gs.getD i 0) fs sn (hU i) (hV i)
  have kcp := fun W lo hi (hr : RepFF W lo hi sa (slotsN k) sc vs Xs) => impl_copyLists W sa (slotsN k) sc vs Xs hr (by omega) (fun i hi => by rw [hX i hi]; omega)
  obtain ⟨S, eS⟩ : ∃ S, S = slotsN k := ⟨_, rfl⟩
  rw [← eS] at hA kst kcp h hSl ⊢
  have HO := Lib.hid hO; have HA := Lib.hid hA; have KST := Lib.hid kst; have KCP := Lib.hid kcp; have H := Lib.hid h
  have HPN := Lib.hid hpn; have HGN := Lib.hid hgn
  clear eA eB eU eV eO hU hV hO hA kst kcp h hX eS hpn hgn
  have hwr : IntKind.i64.wrap ((s : Int) + 1) = (s : Int) + 1 := IntWalk.i64_in _ (by omega)
  go_enter Try.func82, Try.ntmps82
  go_wp2
  refine wp_region_drawn (fun f args u => VG (powF (cn .f32 (argF args)) (s + 1)) u) (by kernel_rfl) (by kernel_rfl) ?_
  iterate 4 (refine wset_step (fun K hK nq => ?_); go_simp; refine hK _ ?_; clear hK K)
  refine wset_step (fun K hK nq => ?_)
  go_simp
  refine ⟨(impl_power b1 ((s : Int) + 1) _ (by omega) (by omega)).mono ?_, ?_⟩
  · rintro e w' ⟨y, rfl, hy, q, rfl⟩
    exact ⟨_, rfl, ⟨_, World.drewN_drewN _ _ _⟩, y, rfl, by rw [hy]; rfl⟩
  rintro u ⟨y1, rfl, hy1⟩
  replace hy1 : cn .f32 y1 = powF (cn .f32 b1) (s + 1) := hy1
  refine hK _ ?_
  clear hK K
  iterate 5 (refine wset_step (fun K hK nq => ?_); go_simp; refine hK _ ?_; clear hK K)
  refine wset_step (fun K hK nq => ?_)
  go_simp
  refine ⟨(impl_power b2 ((s : Int) + 1) _ (by omega) (by omega)).mono ?_, ?_⟩
  · rintro e w' ⟨y, rfl, hy, q, rfl⟩
    exact ⟨_, rfl, ⟨_, World.drewN_drewN _ _ _⟩, y, rfl, by rw [hy]; rfl⟩
  rintro u ⟨y2, rfl, hy2⟩
  replace hy2 : cn .f32 y2 = powF (cn .f32 b2) (s + 1) := hy2
  refine hK _ ?_
  clear hK K
  repeat (refine wset_step (fun K hK nq => ?_); go_simp; refine hK _ ?_; clear hK K)
  generalize hf1 : fbits BinOp.sub FloatKind.f32 _ y1 _ = fs
  generalize hf2 : fbits BinOp.sub FloatKind.f32 _ y2 _ = sn
  have hF1 : cn .f32 fs = stF b1 s := by rw [← hf1, cn_fbits, cn_ONE, hy1]; rfl
  have hF2 : cn .f32 sn = stF b2 s := by rw [← hf2, cn_fbits, cn_ONE, hy2]; rfl
  have HF := Lib.hid (And.intro hF1 hF2)
  clear hf1 hf2 hF1 hF2 hy1 hy2 hwr
  refine wset_nil ?_
  rintro w' ⟨q, rfl⟩
  have hO0 : OptAt ((w.alloc (.cells #[.int .i64 k, .float .f32 r, .float .f32 b1, .float .f32 b2, .float .f32 ep] 30)).drewN q) w.heap.size k r b1 b2 ep := ⟨by simp, by go_simp, by go_simp, by go_simp, by go_simp, by go_simp⟩
  have HO0 := Lib.hid hO0; clear hO0
  have hb0 := below_drewN (below1 w (.cells #[.int .i64 k, .float .f32 r, .float .f32 b1, .float .f32 b2, .float .f32 ep] 30)) q
  go_wp2_with fail
  refine (KCP.out _ _ _ (H.out.below hb0)).mono ?_
  rintro e w3 ⟨na, nc, us, rfl, hr3, hb3⟩
  have hO3 : OptAt w3 w.heap.size k r b1 b2 ep := HO0.out.below hb3 (by simp)
  have hb03 := bthen hb0 hb3
  have hr3 : RepFF w3 (w.heap.size + 1) w3.heap.size na S nc us Xs := hr3.bounds (by simp) (Nat.le_refl _)
  have hs3 : w.heap.size + 1 ≤ w3.heap.size := by have := hb3.size; simpa using this
  have HO3 := Lib.hid hO3; have HB3 := Lib.hid hb03; have HR3 := Lib.hid hr3
  clear hO3 hb03 hr3 hb3 hb0 HO0 KCP
  go_wp2
  go_loopw [15, 35] (fun v i wr => ∃ j : Nat, i = .int .i64 j ∧ j ≤ n ∧ ∃ (Ys : List (List Nat)) (ys : List Nat), RepFF wr (w.heap.size + 1) w3.heap.size na S nc us Ys ∧ RowsAre S n (stepf j U A) (stepf j V B) Ys ∧ OptAt wr w.heap.size k r b1 b2 ep ∧ wr.ownsRow w3.heap.size 22 1 v j (ys.map (Value.float .f32)) ∧ ys.length = j ∧ ys.map (cn .f32) = listOf j O ∧ (∀ y ∈ ys, y < 4294967296) ∧ Below w.heap.size w wr ∧ w3.heap.size ≤ wr.heap.size) (fun _ i _ => n - (intOf i).toNat)
  case atStart => exact ⟨0, rfl, Nat.zero_le _, Xs, [], HR3.out.below (below1 _ _), by rw [stepf_zero, stepf_zero]; exact HA.out, HO3.out.below (below1 _ _) (by omega), World.ownsRow_made _ _ _ (Nat.le_refl _) (Nat.zero_le _) rfl, rfl, rfl, (fun y hy => nomatch hy), HB3.out.trans ((below1 _ _).mono (by omega)), by simp⟩
  case round =>
    obtain ⟨j, rfl, hj, Ys, ys, hr, hA, hO, hown, hyl, hye, hylt, hb, hbs⟩ := hrel
    have HR := Lib.hid hr; have HAR := Lib.hid hA; have HOP := Lib.hid hO; have HOW := Lib.hid hown; have HL := Lib.hid hyl; have HE := Lib.hid hye; have HLT := Lib.hid hylt; have HB := Lib.hid hb
    clear hr hA hO hown hyl hye hylt hb
    by_cases hlt : j < n
    · obtain ⟨bp, op, rfl, hbp, hcp⟩ := hp.spot (k := j) (by rw [← HPN.out]; exact hlt)
      obtain ⟨bg, og, rfl, hbg, hcg⟩ := hg.spot (k := j) (by rw [← HGN.out]; exact hlt)
      have hcp1 : wr.cell? ⟨bp, op + j, none⟩ = some (.float .f32 (ps.getD j 0)) := (HB.out.cell (p := ⟨bp, op + j, none⟩) hbp).trans (hcp j (by rw [← HPN.out]; exact hlt))
      have hcg1 : wr.cell? ⟨bg, og + j, none⟩ = some (.float .f32 (gs.getD j 0)) := (HB.out.cell (p := ⟨bg, og + j, none⟩) hbg).trans (hcg j (by rw [← HGN.out]; exact hlt))
      obtain ⟨x, hx⟩ : ∃ x, x = ps.getD j 0 := ⟨_, rfl⟩
      obtain ⟨g, hgx⟩ : ∃ g, g = gs.getD j 0 := ⟨_, rfl⟩
      rw [← hx] at hcp1
      rw [← hgx] at hcg1
      have kst := fun W (hr : RepFF W (w.heap.size + 1) w3.heap.size na S nc us Ys) => KST.out W _ _ na nc j us Ys hr HAR.out hlt x fs sn
      rw [← hgx] at kst
      have hOj := HO.out j
      rw [← hx, ← hgx] at hOj
      have K1 := Lib.hid kst; have HOJ := Lib.hid hOj
      have o0 := HOP.out.c0; have o1 := HOP.out.c1; have o2 := HOP.out.c2; have o3 := HOP.out.c3; have o4 := HOP.out.c4
      clear kst hOj hx hgx hcp hcg
      go_wp2
      refine wp_region_tail1 11 _ (fun f args u => False) (by kernel_rfl) (by kernel_rfl) rfl rfl (fun _ _ _ h => h) ?_
      go_simp
      repeat (refine wset_step (fun K hK nq => ?_); go_simp; refine hK _ ?_; clear hK K)
      refine wset_nil ?_
      rintro w' ⟨q, rfl⟩
      go_wp2_with fail
      refine (K1.out _ (HR.out.below (below_drewN (Below.refl _ _) _))).mono ?_
      rintro e w4 ⟨y, Ys', rfl, hyc, hyl, hr4, hA4, ht4⟩
      have hown4 := ((Row.mk' (owns_below HOW.out (below_drewN (Below.refl _ _) q))).touch ht4 (.inr (Nat.le_refl _))).own
      have hO4 := (HOP.out.below (below_drewN (Below.refl _ _) q) HOP.out.lt).touch ht4 (.inl (by omega))
      have hb4 := touch_below (below_drewN HB.out q) ht4 (by omega)
      have hs4 : w3.heap.size ≤ w4.heap.size := by have := ht4.size; simp at this; omega
      have HR4 := Lib.hid hr4; have HA4 := Lib.hid hA4; have HO4 := Lib.hid hO4; have HB4 := Lib.hid hb4
      have HY := Lib.hid (hyc.trans (by rw [HF.out.1, HF.out.2, ← HOJ.out]))
      clear hr4 hA4 hO4 hb4 ht4 hyc
      go_wp2_with (at_builtin; refine wp_app rfl _ _ 25 rfl w3.heap.size i0 (.float .f32 0) 1 4 Try.underlying25 hi hz0 hz1 hz2 rfl (by decide) rfl (one_cell _ rfl) _ _ _ rfl hown4 rfl ?c3 ?c4 ?c5 ?_)
      case c3 => unfold maxLen; omega
      case c4 => omega
      case c5 => exact hs4
      intro v' w9 hown1 hb1 hbs1
      have hR9 := HR4.out.belowHi hb1 (Nat.le_refl _)
      have hO9 := HO4.out.below hb1 (by omega)
      have hb9 := HB4.out.trans (hb1.mono (by omega))
      have HR9 := Lib.hid hR9; have HO9 := Lib.hid hO9; have HB9 := Lib.hid hb9
      have HW9 : Hid (w9.ownsRow w3.heap.size 22 1 v' (j + 1) ((ys ++ [y]).map (Value.float .f32))) := Lib.hid (by simpa using hown1)
      clear hown4 hR9 hO9 hb9 hb1 hown1
      go_wp2
      go_roundw
      case rel =>
        refine ⟨j + 1, by go_num, hlt, Ys', ys ++ [y], HR9.out, HA4.out, HO9.out, HW9.out, by simp [HL.out], ?_, ?_, HB9.out, hbs1⟩
        · rw [List.map_append, List.map_cons, List.map_nil, HE.out, HY.out, listOf_succ]
        · intro z hz
          rcases List.mem_append.1 hz with hz | hz
          · exact HLT.out z hz
          · simp at hz; rw [hz]; exact hyl
      case measure => simp [intOf]; omega
    · have hkn : j = n := by omega
      subst hkn
      go_wp2
      go_ret2
      obtain ⟨a1, c1, rfl, hro⟩ := RepF.of_owns HOW.out HLT.out
      have hA9 := HAR.out
      exact ⟨a1, c1, ys, na, nc, us, Ys, w3.heap.size, rfl, hro, HE.out, HR.out.bounds (by omega) (Nat.le_refl _), ⟨hA9.all, fun h => by rw [hA9.one h, listOf_done], fun h => by rw [hA9.two h, listOf_done]⟩, by omega, hbs, HB.out⟩
end Go.Proofs.Ytaocilimggpdjaa
