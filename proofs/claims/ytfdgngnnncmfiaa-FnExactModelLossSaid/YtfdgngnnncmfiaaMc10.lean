/- Joined texts 10: Mp0 Le2 Col Dsc. Each is told at its own head. No condition. -/
import Derived.Test.YtfdgngnnncmfiaaMc1
import Derived.Test.YtfdgngnnncmfiaaMc5
import Derived.Test.YtfdgngnnncmfiaaMc6
import Derived.Test.YtfdgngnnncmfiaaMc7
import Derived.Test.YtfdgngnnncmfiaaMc9
/- A tape and the indices of its weights as results. No condition. -/
namespace Go.Proofs.Ytfdgngnnncmfiaa
open Go Go.RowKit
set_option linter.unusedVariables false
set_option linter.unusedSimpArgs false
section
variable {w w' : World} {lo hi n1 c1 n2 c2 : Nat} {a1 a2 : Option Addr} {us : List OpD} {ws : List Int}
end
section
variable {lo1 hi1 lo2 hi2 n1 c1 n2 c2 m1 d1 m2 d2 : Nat} {a1 a2 b1 b2 : Option Addr} {us vs : List OpD} {ws zs : List Int}
end
/-- the operations of a model's tape are not too long -/
theorem stM_xs {ls : List LayP} {X Y : TenP} (hg : modB ls = true) (hX : X.xs.length ≤ 256) (hY : Y.xs.length ≤ 256) {k : Nat} {s : MS} (h : stM ls X Y k = some s) : ∀ p ∈ s.ops, p.xs.length ≤ 256 := by
  induction k generalizing s with
  | zero =>
    rw [stM] at h; cases h
    intro p hp
    simp only [List.singleton_append, List.mem_cons, List.not_mem_nil, or_false] at hp
    rcases hp with rfl | rfl
    · exact hX
    · exact hY
  | succ k ih =>
    rw [stM] at h
    obtain ⟨s0, h0, h1⟩ := Option.bind_eq_some_iff.1 h
    obtain ⟨l, hl, h2⟩ := Option.bind_eq_some_iff.1 h1
    have h3 := ih h0
    have h4 := cnt_le (modB_lay hg hl)
    unfold stepL at h2
    split at h2
    · cases h2
      intro p hp
      simp only [denseM, List.mem_append, List.mem_singleton] at hp
      rcases hp with (((((hp | rfl) | rfl) | rfl) | rfl) | rfl)
      · exact h3 p hp
      · exact Nat.le_trans h4.1 (by decide)
      · exact Nat.le_trans h4.2 (by decide)
      · exact Nat.zero_le _
      · exact Nat.zero_le _
      · exact Nat.zero_le _
    · split at h2
      · cases h2
        intro p hp
        simp only [reluM, List.mem_append, List.mem_singleton] at hp
        rcases hp with hp | rfl
        · exact h3 p hp
        · exact Nat.zero_le _
      · split at h2
        · cases h2
          intro p hp
          simp only [scaleM, List.mem_append, List.mem_singleton] at hp
          rcases hp with ((hp | rfl) | rfl)
          · exact h3 p hp
          · exact Nat.le_trans h4.1 (by decide)
          · exact Nat.zero_le _
        · cases h2
theorem modelP_len {ls : List LayP} {X Y : TenP} {num : Nat} {C : List OpP} {ws : List Int} (h : modelP ls X Y num = some (C, ws)) : C.length ≤ 37 ∧ (∀ p ∈ C, p.xs.length ≤ 256) ∧ ws.length ≤ 12 := by
  unfold modelP at h
  split at h
  · rename_i hg
    unfold goodM at hg
    simp only [Bool.and_eq_true] at hg
    obtain ⟨h1, h2, h3, _⟩ := hg
    have hl := modB_len h1
    have tl : ∀ t : TenP, tenB t.r t.c t.xs.length = true → t.xs.length ≤ 256 := by
      intro t ht
      obtain ⟨⟨a1, a2⟩, ⟨b1, b2⟩, h⟩ := tenB_iff.1 ht
      have : t.r * t.c ≤ 16 * t.c := Int.mul_le_mul_of_nonneg_right a2 (by omega)
      omega
    obtain ⟨s, hs, e⟩ := Option.map_eq_some_iff.1 h
    cases e
    have h4 := stM_len hs
    have h5 := stM_xs h1 (tl X h2) (tl Y h3) hs
    refine ⟨?_, ?_, by omega⟩
    · unfold finM finN; simp only [List.length_append, List.length_singleton]; omega
    · intro p hp
      unfold finM finN at hp
      simp only [List.mem_append, List.mem_singleton] at hp
      rcases hp with (((((hp | rfl) | rfl) | rfl) | rfl) | rfl)
      · exact h5 p hp
      all_goals exact Nat.zero_le _
  · cases h
/-- what a model and its tensors give -/
def modelT (L : List LayP) (xr xc : Int) (xs : List Nat) (yr yc : Int) (ys : List Nat) : Option (List OpP × List Int) := modelP (L.map LayP.can) ⟨xr, xc, xs.map (cn .f32)⟩ ⟨yr, yc, ys.map (cn .f32)⟩ (shareE ys.length)
theorem modelT_eq (ls : List LayD) (xr xc : Int) (xs : List Nat) (yr yc : Int) (ys : List Nat) : modelP (ls.map fun l => l.toLayP.can) ⟨xr, xc, xs.map (cn .f32)⟩ ⟨yr, yc, ys.map (cn .f32)⟩ (shareE ys.length) = modelT (ls.map LayD.toLayP) xr xc xs yr yc ys := by
  unfold modelT; rw [List.map_map]; rfl
end Go.Proofs.Ytfdgngnnncmfiaa
/- The loss of a model and the gradients of its weights: what the tape gives. No condition. -/
namespace Go.Proofs.Ytfdgngnnncmfiaa
open Go Go.RowKit
set_option linter.unusedVariables false
set_option linter.unusedSimpArgs false
theorem wrap_fitL {n : Int} (h1 : -9223372036854775808 ≤ n) (h2 : n < 9223372036854775808) : IntKind.i64.wrap n = n := by
  have e1 : (2 : Int) ^ 64 = 18446744073709551616 := by decide
  have e2 : (2 : Int) ^ (64 - 1) = 9223372036854775808 := by decide
  by_cases h : n % 18446744073709551616 ≥ 9223372036854775808
  · simp only [IntKind.wrap, IntKind.bits, IntKind.signed, e1, e2, h, decide_true, Bool.and_self, if_true]; omega
  · simp only [IntKind.wrap, IntKind.bits, IntKind.signed, e1, e2, h, decide_false, Bool.and_false, Bool.false_eq_true, if_false]; omega
/-- a model's tape and the indices of its weights, as they are read -/
structure TapeF (W : World) (ad : Option Addr) (n cap : Nat) (wa : Option Addr) (wk : Nat) (ws : List Int) (C : List OpP) (us : List OpD) (S : List Sh) : Prop where
  see : SeeR opR W ad cap us
  len : us.length = n
  nil : nilOK us
  lens : ∀ o ∈ us, o.xs.length ≤ 1048576
  sh : shapesP (us.map OpD.toOpP) = some S
  v : valsP (us.map OpD.toOpP) = valsP C
  g : gradP (us.map OpD.toOpP) = gradP C
  ints : Ints .i64 W wa wk ws
  ix : ∀ i ∈ ws, 0 ≤ i ∧ i < n
  n1 : 1 ≤ n
  n2 : n ≤ 48
  m : ws.length ≤ 12
  clen : C.length = n
  last : (vGet (valsP C) ((n - 1 : Nat) : Int)).xs.length = 1
theorem TapeF.below {W V : World} {ad : Option Addr} {n cap : Nat} {wa : Option Addr} {wk : Nat} {ws : List Int} {C : List OpP} {us : List OpD} {S : List Sh} (h : TapeF W ad n cap wa wk ws C us S) (hb : Below W.heap.size W V) : TapeF V ad n cap wa wk ws C us S :=
  ⟨h.see.below hb, h.len, h.nil, h.lens, h.sh, h.v, h.g, h.ints.below hb, h.ix, h.n1, h.n2, h.m, h.clen, h.last⟩
theorem TapeF.of {w W : World} {ad : Option Addr} {n cap : Nat} {wa : Option Addr} {wk : Nat} {ws : List Int} {C : List OpP} {ls : List LayP} {X Y : TenP} {num : Nat} (h : TN w W ad n cap C [intRow wa wk ws]) (hR : modelP ls X Y num = some (C, ws)) (hwf : ∀ x ∈ ws, (Lit.int .i64 x).wf = true) :
    ∃ us S, TapeF W ad n cap wa wk ws C us S := by
  obtain ⟨us, h1, h2, h3⟩ := h
  obtain ⟨S, hS, hl, hix⟩ := modelP_ok hR
  have hlen := modelP_len hR
  have hp := shapesP_some hS
  have hcl : C.length = n := by rw [← h1, ← h2, List.length_map]
  have hown := h3.own
  have e : (us.map OpD.toOpP).map OpP.can = C := by rw [← can_toOpP]; exact h2
  have hri := hown.own.repI (hown.memE (List.mem_cons_self ..)) hwf
  have hlast := last_one hS hl
  rw [hcl] at hlast hix hp
  refine ⟨us, S, hown.r.see, h1, hown.r.nilOK, fun o ho => ?_, by rw [← shapesP_can, e]; exact hS, by rw [← valsP_can, e], by rw [← gradP_can, e], hri.arg, hix, hp.1.1, hp.1.2, hlen.2.2, hcl, hlast⟩
  have h4 := hlen.2.1 o.toOpP.can (by rw [← h2]; exact List.mem_map_of_mem ho)
  have h5 : o.xs.length ≤ 256 := by simpa [OpP.can] using h4
  omega
/-- the last value is one number -/
def LastC (W : World) (g n tb tq tc z : Nat) : Prop := W.cell? ⟨g, (n - 1) * 3 + 2, none⟩ = some (.slice (some ⟨tb, tq, none⟩) 1 tc) ∧ W.cell? ⟨tb, tq, none⟩ = some (.float .f32 z)
theorem last_cell {W : World} {ad : Option Addr} {n cap : Nat} {wa : Option Addr} {wk : Nat} {ws : List Int} {C : List OpP} {us : List OpD} {S : List Sh} (hT : TapeF W ad n cap wa wk ws C us S) {lo hi cv : Nat} {av : Option Addr} {vs : List Ten} (hv : OwnR tenR W lo hi av n cv vs) (he : vs.map (fun t => t.toTenP.can) = valsP C) :
    ∃ g tb tq tc z, av = some ⟨g, 0, none⟩ ∧ (∀ V, Below W.heap.size W V → LastC V g n tb tq tc z) ∧ z < 4294967296 ∧ cn .f32 z = lossP C := by
  have h1 := hT.n1
  obtain ⟨t, ht⟩ := getElem?_lt (show n - 1 < vs.length by rw [hv.len]; omega)
  have hg := vGet_map he ht
  have hl := hT.last
  rw [hg] at hl
  have hl2 : t.xs.length = 1 := by simpa [TenP.can] using hl
  obtain ⟨z, hz⟩ : ∃ z, t.xs = [z] := List.length_eq_one_iff.1 hl2
  obtain ⟨g, e, hr, ⟨-, -, hc⟩, -, hrep⟩ := ten_own hv ht
  have hF := hrep.arg
  rcases hF.rd with h3 | ⟨tb, tq, e3, hb3, hc3⟩
  · rw [hz] at h3; cases h3
  · refine ⟨g, tb, tq, t.cap, z, e, fun V hb => ⟨?_, ?_⟩, hF.lt z (by rw [hz]; exact List.mem_singleton.2 rfl), ?_⟩
    · rw [hb.cell hr.2.2, hc, e3, hl2]
    · have h5 := hc3 0 (by rw [hz]; exact Nat.one_pos)
      rw [hz] at h5
      rw [hb.cell hb3]
      exact h5
    · unfold lossP
      rw [hT.clen, hg]
      unfold TenP.can
      rw [hz]; rfl
/-- what both make of a model -/
def LQ (R : Option (List OpP × List Int)) (w w' : World) (ad : Option Addr) (n cap z : Nat) (b : Bool) (xs : List Nat) : Prop :=
  ((b = R.isSome ∧ z < 4294967296) ∧ (xs.map (cn .f32), cn .f32 z) = (learnM R).getD ([], 0)) ∧ RepF w' w.heap.size w'.heap.size ad n cap xs
def LPost (R : Option (List OpP × List Int)) (w : World) (e : Ending) (w' : World) : Prop := ∃ ad n cap z b xs, e = .returned (.tuple #[.slice ad n cap, .float .f32 z, .bool b]) ∧ Hid (LQ R w w' ad n cap z b xs) ∧ Below w.heap.size w w'
def ZPost (R : Option (List OpP × List Int)) (w : World) (e : Ending) (w' : World) : Prop := ∃ z b, e = .returned (.tuple #[.float .f32 z, .bool b]) ∧ Hid ((b = R.isSome ∧ z < 4294967296) ∧ cn .f32 z = ((learnM R).getD ([], 0)).2) ∧ Below w.heap.size w w'
theorem cn_zero32 : cn .f32 0 = 0 := by decide +kernel
theorem LPost.none {R : Option (List OpP × List Int)} {w w' : World} {e : Ending} (h : R = none) (he : e = .returned (.tuple #[.slice none 0 0, .float .f32 0, .bool false])) (hb : Below w.heap.size w w') : LPost R w e w' := by
  subst h
  exact ⟨_, _, _, _, _, [], he, Lib.hid ⟨⟨⟨rfl, by decide⟩, by rw [cn_zero32]; rfl⟩, RepF.nil _ _ _⟩, hb⟩
theorem ZPost.none {R : Option (List OpP × List Int)} {w w' : World} {e : Ending} (h : R = none) (he : e = .returned (.tuple #[.float .f32 0, .bool false])) (hb : Below w.heap.size w w') : ZPost R w e w' := by
  subst h
  exact ⟨_, _, he, Lib.hid ⟨⟨rfl, by decide⟩, by rw [cn_zero32]; rfl⟩, hb⟩
end Go.Proofs.Ytfdgngnnncmfiaa
/- Sums of columns of a tensor: the program. No condition. -/
namespace Go.Proofs.Ytfdgngnnncmfiaa
open Go Go.RowKit
set_option linter.unusedVariables false
set_option linter.unusedSimpArgs false
theorem set_listOfG {n k : Nat} {f g : Nat → Nat} {y : Nat} {zs : List Nat} (h : zs.map (cn .f32) = listOf n f) (hy : cn .f32 y = g k) (hg : ∀ i, i ≠ k → g i = f i) : (zs.set k y).map (cn .f32) = listOf n g := by
  rw [List.map_set, h, hy]
  apply List.ext_getElem
  · simp [listOf]
  · intro i h1 h2
    simp only [List.getElem_set]
    split
    · next e => subst e; simp [listOf]
    · next e => simp [listOf, hg i (Ne.symm e)]
set_option maxRecDepth 100000 in
set_option maxHeartbeats 8000000 in
theorem impl_sumRowsG (w : World) (r c : Nat) (ad : Option Addr) (cap n : Nat) (xs : List Nat) (h : F32s w ad cap xs) (hx : xs.length = n) (hn6 : n ≤ 256) (hc1 : 1 ≤ c) (hc : c ≤ 16) :
    Calls Try.prog 100 #[.agg #[.int .i64 r, .int .i64 c, .slice ad n cap]] w fun e w' => ∃ ad' cap' zs, e = .returned (.slice ad' c cap') ∧ Hid (RepF w' w.heap.size w'.heap.size ad' c cap' zs) ∧ Hid (zs.map (cn .f32) = listOf c (colG (xs.map (cn .f32)) c n)) ∧ Below w.heap.size w w' := by
  obtain ⟨i0, hi0, hz0, hz1, hz2⟩ := info_parts info_f32
  obtain ⟨X, hX⟩ : ∃ X, X = xs.map (cn .f32) := ⟨_, rfl⟩
  rw [← hX]
  have HX := Lib.hid hX; have HXL := Lib.hid hx; have H0 := Lib.hid h
  have XB := Lib.hid (BoxN.alloc w #[.int .i64 r, .int .i64 c, .slice ad n cap] 38)
  have hB := below1 w (.cells #[.int .i64 r, .int .i64 c, .slice ad n cap] 38)
  have B := Lib.hid hB
  have hsz := hB.size
  clear hX hx h hB
  go_enter Try.func100, Try.ntmps100
  obtain ⟨w0, hw0⟩ : ∃ w0, w0 = w.alloc (.cells #[.int .i64 r, .int .i64 c, .slice ad n cap] 38) := ⟨_, rfl⟩
  rw [← hw0] at XB B hsz
  go_wp2_with (at_make; refine wpList_make_full _ rfl _ _ 25 rfl (w.heap.size + 1) 49 i0 (.float .f32 0) 1 Try.underlying25 hi0 hz0 hz1 .i64 .i64 _ _ c rfl rfl rfl rfl ?c1 ?c2 ?c3 ?_)
  case c1 => omega
  case c2 => unfold maxLen; omega
  intro w1 hown1 hg1
  rw [← hw0] at hg1
  have hw1 : w0.heap.size = w.heap.size + 1 := by rw [hw0]; simp
  have hb1 : Below (w.heap.size + 1) w0 w1 := (Below.refl _ _).grown hg1 (by omega) (fun k e => by cases e)
  have hs1 := hb1.size
  have hS := zeros_rep hown1
  have B0 := B
  have HW1 := Lib.hid hw1
  have hne : ¬ c = 0 := by omega
  clear hown1 hg1 hw0 B
  have XB1 := Lib.hid (XB.out.below (HW1.out.symm ▸ hb1))
  obtain ⟨-, y0, y1, y2, yf⟩ := XB1.out.three
  go_wp2
  go_loopw [13] (fun i wr => ∃ k : Nat, i = .int .i64 k ∧ k ≤ n ∧ ∃ zs : List Nat, RepF wr (w.heap.size + 1) w1.heap.size (some ⟨w.heap.size + 1, 0, none⟩) c c zs ∧ Hid (zs.map (cn .f32) = listOf c (colG X c k)) ∧ Below (w.heap.size + 1) w0 wr ∧ w1.heap.size ≤ wr.heap.size) (fun i _ => n - (intOf i).toNat)
  case atStart => exact ⟨0, rfl, Nat.zero_le _, _, hS, Lib.hid (by rw [zeros_listOf]; rfl), hb1, Nat.le_refl _⟩
  case round =>
    obtain ⟨k, rfl, hk, zs, hz, HZ, hb, hbs⟩ := hrel
    have hx := H0.out.below (bthen B0.out (HW1.out.symm ▸ hb))
    obtain ⟨-, x0, x1, x2, xf⟩ := (XB.out.below (HW1.out.symm ▸ hb)).three
    by_cases hlt : k < n
    · have hk1 : k < xs.length := by rw [HXL.out]; exact hlt
      obtain ⟨bx, offx, rfl, _, hqx⟩ := F32s.spot hx (k := k) hk1
      have hcx := hqx k hk1
      obtain ⟨x, px⟩ : ∃ x, x = xs.getD k 0 := ⟨_, rfl⟩
      rw [← px] at hcx
      have Px := Lib.hid px; clear px hqx hx
      have hmod : k % c < c := Nat.mod_lt _ hc1
      have ht : (k : Int).tmod (c : Int) = ((k % c : Nat) : Int) := (Int.ofNat_tmod k c).symm
      obtain ⟨j, hj⟩ : ∃ j, j = k % c := ⟨_, rfl⟩
      rw [← hj] at hmod ht
      have HJ := Lib.hid hj; clear hj
      obtain ⟨g, hg, hlo, hcell, hfr, _⟩ := hz.open (by omega)
      cases hg
      have hc2 := hcell j hmod
      have hf := hfr j
      obtain ⟨z, hzz⟩ : ∃ z, z = zs.getD j 0 := ⟨_, rfl⟩
      rw [← hzz] at hc2
      have HZZ := Lib.hid hzz
      clear hcell hfr hzz
      go_wp2
      go_roundw
      case rel =>
        refine ⟨k + 1, by go_num, hlt, zs.set j _, RepF.setAt (hz.below (below_drewN (Below.refl _ _) _)) j _ (fbits_lt _ .f32 _ _ _) (by omega), Lib.hid (set_listOfG HZ.out ?_ ?_), (below_drewN hb _).setCell (Nat.le_refl _) _, by simpa [World.setCell] using hbs⟩
        · rw [cn_fbits, HZZ.out, cn_at HZ.out hmod, Px.out, ← cn_getD, ← HX.out]
          show _ = if j = k % c then _ else _
          rw [if_pos HJ.out]
        · intro i hi
          show (if i = k % c then _ else _) = _
          rw [if_neg (by rw [← HJ.out]; exact hi)]
      case measure => simp [intOf]; omega
    · have hkn : k = n := by omega
      subst hkn
      go_wp2
      go_ret
      exact ⟨_, _, zs, rfl, Lib.hid (hz.bounds (by omega) hbs), HZ, bthen B0.out (HW1.out.symm ▸ hb)⟩
end Go.Proofs.Ytfdgngnnncmfiaa
/- Tensors that are told as data, and what calls give for them. No condition. -/
namespace Go.Proofs.Ytfdgngnnncmfiaa
open Go Go.RowKit
set_option linter.unusedVariables false
set_option linter.unusedSimpArgs false
theorem F32s.uniq {w : World} {a : Option Addr} {k : Nat} {xs ys : List Nat} (h1 : F32s w a k xs) (h2 : F32s w a k ys) (hl : xs.length = ys.length) : xs = ys := by
  refine List.ext_getElem hl fun i hi hj => ?_
  obtain ⟨b, o, e, _, hc⟩ := h1.spot (k := i) hi
  obtain ⟨b2, o2, e2, _, hc2⟩ := h2.spot (k := i) hj
  rw [e] at e2
  cases e2
  have e3 := (hc i hi).symm.trans (hc2 i hj)
  rw [List.getD_eq_getElem?_getD, List.getD_eq_getElem?_getD, List.getElem?_eq_getElem hi, List.getElem?_eq_getElem hj] at e3
  simpa using e3
structure Dsc where
  r : Nat
  c : Nat
  a : Option Addr
  k : Nat
  xs : List Nat
def Dsc.val (t : Dsc) : Value := .agg #[.int .i64 t.r, .int .i64 t.c, .slice t.a t.xs.length t.k]
def Dsc.cells (t : Dsc) : List Value := [.int .i64 t.r, .int .i64 t.c, .slice t.a t.xs.length t.k]
def Dsc.can (t : Dsc) : TenP := ⟨t.r, t.c, t.xs.map (cn .f32)⟩
structure Dsc.At (t : Dsc) (w : World) : Prop where
  see : F32s w t.a t.k t.xs
  r1 : 1 ≤ t.r
  r2 : t.r ≤ 16
  c1 : 1 ≤ t.c
  c2 : t.c ≤ 16
  len : t.xs.length = t.r * t.c
theorem Dsc.At.below {t : Dsc} {w w' : World} (h : t.At w) (hb : Below w.heap.size w w') : t.At w' := ⟨h.see.below hb, h.r1, h.r2, h.c1, h.c2, h.len⟩
theorem Dsc.At.le {t : Dsc} {w : World} (h : t.At w) : t.xs.length ≤ 256 := by rw [h.len]; exact Nat.mul_le_mul h.r2 h.c2
theorem Dsc.At.pos {t : Dsc} {w : World} (h : t.At w) : 1 ≤ t.xs.length := by rw [h.len]; exact Nat.mul_le_mul h.r1 h.c1
theorem Dsc.At.nil {t : Dsc} {w : World} (h : t.At w) : t.a = none → t.k = 0 := by
  intro e
  obtain ⟨b, o, e2, _, _⟩ := h.see.spot (k := 0) h.pos
  rw [e] at e2; cases e2
theorem Dsc.At.okT {t : Dsc} {w : World} (h : t.At w) : okT t.can := by
  have h1 := h.r1; have h2 := h.r2; have h3 := h.c1; have h4 := h.c2
  refine ⟨?_, ?_, ?_, ?_, ?_⟩ <;> show _
  · show (1 : Int) ≤ t.r; omega
  · show (t.r : Int) ≤ 16; omega
  · show (1 : Int) ≤ t.c; omega
  · show (t.c : Int) ≤ 16; omega
  · show (t.xs.map (cn .f32)).length = (t.r : Int).toNat * (t.c : Int).toNat
    rw [List.length_map, h.len]; simp
theorem Dsc.uniq {t u : Dsc} {w : World} (h1 : t.At w) (h2 : u.At w) (e : t.val = u.val) : t = u := by
  obtain ⟨r, c, a, k, xs⟩ := t
  obtain ⟨r2, c2, a2, k2, ys⟩ := u
  have e' : Value.agg #[.int .i64 (r : Int), .int .i64 (c : Int), .slice a xs.length k] = Value.agg #[.int .i64 (r2 : Int), .int .i64 (c2 : Int), .slice a2 ys.length k2] := e
  simp at e'
  obtain ⟨e1, e2, e3, e4, e5⟩ := e'
  subst e3 e5
  have h6 := F32s.uniq (xs := xs) (ys := ys) h1.see h2.see e4
  subst h6
  have e1 : r = r2 := by omega
  have e2 : c = c2 := by omega
  subst e1 e2
  rfl
/-- a tensor that a call gives -/
def RTen (T : TenP) (w1 : World) (v : Value) (w2 : World) : Prop := ∃ t : Dsc, v = t.val ∧ t.can = T ∧ RepF w2 w1.heap.size w2.heap.size t.a t.xs.length t.k t.xs ∧ Below w1.heap.size w1 w2
theorem RTen.at' {T : TenP} {w1 w2 : World} {v : Value} (h : RTen T w1 v w2) (hT : okT T) : ∃ t : Dsc, v = t.val ∧ t.can = T ∧ t.At w2 ∧ RepF w2 w1.heap.size w2.heap.size t.a t.xs.length t.k t.xs ∧ Below w1.heap.size w1 w2 := by
  obtain ⟨t, e1, e2, hr, hb⟩ := h
  subst e2
  refine ⟨t, e1, rfl, ⟨hr.arg, ?_, ?_, ?_, ?_, ?_⟩, hr, hb⟩
  · have h1 : (1 : Int) ≤ t.r := hT.r1; omega
  · have h1 : (t.r : Int) ≤ 16 := hT.r2; omega
  · have h1 : (1 : Int) ≤ t.c := hT.c1; omega
  · have h1 : (t.c : Int) ≤ 16 := hT.c2; omega
  · have h1 : (t.xs.map (cn .f32)).length = (t.r : Int).toNat * (t.c : Int).toNat := hT.len
    rw [List.length_map] at h1; simpa using h1
theorem RTen.of {r c n : Nat} {P : List Nat} {T : TenP} {w w' : World} {e : Ending} (h : TenPost r c n P w e w') (hT : T = ⟨r, c, P⟩) : ∃ v, e = .returned v ∧ RTen T w v w' := by
  obtain ⟨ad, cap, zs, he, hr, hm, hb⟩ := h
  have hl := hr.out.len
  subst hl
  subst hT
  exact ⟨_, he, ⟨r, c, ad, cap, zs⟩, rfl, by show (⟨_, _, _⟩ : TenP) = _; rw [hm.out], hr.out, hb⟩
/-- a row that a call gives -/
def RRow (L : List Nat) (w1 : World) (v : Value) (w2 : World) : Prop := ∃ (a : Option Addr) (k : Nat) (xs : List Nat), v = .slice a xs.length k ∧ xs.map (cn .f32) = L ∧ RepF w2 w1.heap.size w2.heap.size a xs.length k xs ∧ Below w1.heap.size w1 w2
/-- what the calls of an operation's parts give -/
def DAll (f : FuncId) (args : Array Value) (w1 : World) (v : Value) (w2 : World) : Prop :=
  (∃ t u : Dsc, f = 90 ∧ args = #[t.val, u.val] ∧ t.At w1 ∧ u.At w1 ∧ RTen (mulV t.can u.can) w1 v w2) ∨
  (∃ t u : Dsc, f = 82 ∧ args = #[t.val, u.val] ∧ t.At w1 ∧ u.At w1 ∧ RTen (addV t.can u.can) w1 v w2) ∨
  (∃ (t : Dsc) (a : Option Addr) (k : Nat) (ys : List Nat), f = 91 ∧ args = #[t.val, .slice a ys.length k] ∧ t.At w1 ∧ F32s w1 a k ys ∧ RTen ⟨t.r, t.c, rowE .mul t.can.xs (ys.map (cn .f32)) t.c t.xs.length⟩ w1 v w2) ∨
  (∃ t : Dsc, f = 94 ∧ args = #[t.val] ∧ t.At w1 ∧ RTen (turnV t.can) w1 v w2) ∨
  (∃ t u : Dsc, f = 93 ∧ args = #[t.val, u.val] ∧ t.At w1 ∧ u.At w1 ∧ RTen (matV t.can u.can) w1 v w2) ∨
  (∃ t : Dsc, f = 100 ∧ args = #[t.val] ∧ t.At w1 ∧ RRow (listOf t.c (colG t.can.xs t.c t.xs.length)) w1 v w2) ∨
  (∃ (a : Option Addr) (k : Nat) (ys : List Nat), f = 56 ∧ args = #[.slice a ys.length k] ∧ F32s w1 a k ys ∧ RTen ⟨1, ys.length, ys.map (cn .f32)⟩ w1 v w2)
theorem DAll.mulTensors {t u : Dsc} {w1 w2 : World} {v : Value} (h : DAll 90 #[t.val, u.val] w1 v w2) (ht : t.At w1) (hu : u.At w1) : RTen (mulV t.can u.can) w1 v w2 := by
  rcases h with ⟨t2, u2, hf, e, h1, h2, h3⟩ | ⟨t2, u2, hf, e, h1, h2, h3⟩ | ⟨t2, a2, k2, ys2, hf, e, h1, h2, h3⟩ | ⟨t2, hf, e, h1, h3⟩ | ⟨t2, u2, hf, e, h1, h2, h3⟩ | ⟨t2, hf, e, h1, h3⟩ | ⟨a2, k2, ys2, hf, e, h2, h3⟩
  · have e0 := congrArg Array.toList e
    injection e0 with e1 e0
    injection e0 with e2 e0
    cases Dsc.uniq ht h1 e1
    cases Dsc.uniq hu h2 e2
    exact h3
  · exact absurd hf (by decide)
  · exact absurd hf (by decide)
  · exact absurd hf (by decide)
  · exact absurd hf (by decide)
  · exact absurd hf (by decide)
  · exact absurd hf (by decide)
theorem DAll.addTensors {t u : Dsc} {w1 w2 : World} {v : Value} (h : DAll 82 #[t.val, u.val] w1 v w2) (ht : t.At w1) (hu : u.At w1) : RTen (addV t.can u.can) w1 v w2 := by
  rcases h with ⟨t2, u2, hf, e, h1, h2, h3⟩ | ⟨t2, u2, hf, e, h1, h2, h3⟩ | ⟨t2, a2, k2, ys2, hf, e, h1, h2, h3⟩ | ⟨t2, hf, e, h1, h3⟩ | ⟨t2, u2, hf, e, h1, h2, h3⟩ | ⟨t2, hf, e, h1, h3⟩ | ⟨a2, k2, ys2, hf, e, h2, h3⟩
  · exact absurd hf (by decide)
  · have e0 := congrArg Array.toList e
    injection e0 with e1 e0
    injection e0 with e2 e0
    cases Dsc.uniq ht h1 e1
    cases Dsc.uniq hu h2 e2
    exact h3
  · exact absurd hf (by decide)
  · exact absurd hf (by decide)
  · exact absurd hf (by decide)
  · exact absurd hf (by decide)
  · exact absurd hf (by decide)
theorem DAll.matMul {t u : Dsc} {w1 w2 : World} {v : Value} (h : DAll 93 #[t.val, u.val] w1 v w2) (ht : t.At w1) (hu : u.At w1) : RTen (matV t.can u.can) w1 v w2 := by
  rcases h with ⟨t2, u2, hf, e, h1, h2, h3⟩ | ⟨t2, u2, hf, e, h1, h2, h3⟩ | ⟨t2, a2, k2, ys2, hf, e, h1, h2, h3⟩ | ⟨t2, hf, e, h1, h3⟩ | ⟨t2, u2, hf, e, h1, h2, h3⟩ | ⟨t2, hf, e, h1, h3⟩ | ⟨a2, k2, ys2, hf, e, h2, h3⟩
  · exact absurd hf (by decide)
  · exact absurd hf (by decide)
  · exact absurd hf (by decide)
  · exact absurd hf (by decide)
  · have e0 := congrArg Array.toList e
    injection e0 with e1 e0
    injection e0 with e2 e0
    cases Dsc.uniq ht h1 e1
    cases Dsc.uniq hu h2 e2
    exact h3
  · exact absurd hf (by decide)
  · exact absurd hf (by decide)
theorem DAll.transposed {t : Dsc} {w1 w2 : World} {v : Value} (h : DAll 94 #[t.val] w1 v w2) (ht : t.At w1) : RTen (turnV t.can) w1 v w2 := by
  rcases h with ⟨t2, u2, hf, e, h1, h2, h3⟩ | ⟨t2, u2, hf, e, h1, h2, h3⟩ | ⟨t2, a2, k2, ys2, hf, e, h1, h2, h3⟩ | ⟨t2, hf, e, h1, h3⟩ | ⟨t2, u2, hf, e, h1, h2, h3⟩ | ⟨t2, hf, e, h1, h3⟩ | ⟨a2, k2, ys2, hf, e, h2, h3⟩
  · exact absurd hf (by decide)
  · exact absurd hf (by decide)
  · exact absurd hf (by decide)
  · have e0 := congrArg Array.toList e
    injection e0 with e1 e0
    cases Dsc.uniq ht h1 e1
    exact h3
  · exact absurd hf (by decide)
  · exact absurd hf (by decide)
  · exact absurd hf (by decide)
theorem DAll.sumRows {t : Dsc} {w1 w2 : World} {v : Value} (h : DAll 100 #[t.val] w1 v w2) (ht : t.At w1) : RRow (listOf t.c (colG t.can.xs t.c t.xs.length)) w1 v w2 := by
  rcases h with ⟨t2, u2, hf, e, h1, h2, h3⟩ | ⟨t2, u2, hf, e, h1, h2, h3⟩ | ⟨t2, a2, k2, ys2, hf, e, h1, h2, h3⟩ | ⟨t2, hf, e, h1, h3⟩ | ⟨t2, u2, hf, e, h1, h2, h3⟩ | ⟨t2, hf, e, h1, h3⟩ | ⟨a2, k2, ys2, hf, e, h2, h3⟩
  · exact absurd hf (by decide)
  · exact absurd hf (by decide)
  · exact absurd hf (by decide)
  · exact absurd hf (by decide)
  · exact absurd hf (by decide)
  · have e0 := congrArg Array.toList e
    injection e0 with e1 e0
    cases Dsc.uniq ht h1 e1
    exact h3
  · exact absurd hf (by decide)
theorem DAll.mulRow {t : Dsc} {a : Option Addr} {k : Nat} {ys : List Nat} {w1 w2 : World} {v : Value} (h : DAll 91 #[t.val, .slice a ys.length k] w1 v w2) (ht : t.At w1) (hy : F32s w1 a k ys) : RTen ⟨t.r, t.c, rowE .mul t.can.xs (ys.map (cn .f32)) t.c t.xs.length⟩ w1 v w2 := by
  rcases h with ⟨t2, u2, hf, e, h1, h2, h3⟩ | ⟨t2, u2, hf, e, h1, h2, h3⟩ | ⟨t2, a2, k2, ys2, hf, e, h1, h2, h3⟩ | ⟨t2, hf, e, h1, h3⟩ | ⟨t2, u2, hf, e, h1, h2, h3⟩ | ⟨t2, hf, e, h1, h3⟩ | ⟨a2, k2, ys2, hf, e, h2, h3⟩
  · exact absurd hf (by decide)
  · exact absurd hf (by decide)
  · have e0 := congrArg Array.toList e
    injection e0 with e1 e0
    injection e0 with e2 e0
    injection e2 with e4 e3 e5
    cases Dsc.uniq ht h1 e1
    subst e4 e5
    cases F32s.uniq hy h2 e3
    exact h3
  · exact absurd hf (by decide)
  · exact absurd hf (by decide)
  · exact absurd hf (by decide)
  · exact absurd hf (by decide)
theorem DAll.rowTensor {a : Option Addr} {k : Nat} {ys : List Nat} {w1 w2 : World} {v : Value} (h : DAll 56 #[.slice a ys.length k] w1 v w2) (hy : F32s w1 a k ys) : RTen ⟨1, ys.length, ys.map (cn .f32)⟩ w1 v w2 := by
  rcases h with ⟨t2, u2, hf, e, h1, h2, h3⟩ | ⟨t2, u2, hf, e, h1, h2, h3⟩ | ⟨t2, a2, k2, ys2, hf, e, h1, h2, h3⟩ | ⟨t2, hf, e, h1, h3⟩ | ⟨t2, u2, hf, e, h1, h2, h3⟩ | ⟨t2, hf, e, h1, h3⟩ | ⟨a2, k2, ys2, hf, e, h2, h3⟩
  · exact absurd hf (by decide)
  · exact absurd hf (by decide)
  · exact absurd hf (by decide)
  · exact absurd hf (by decide)
  · exact absurd hf (by decide)
  · exact absurd hf (by decide)
  · have e0 := congrArg Array.toList e
    injection e0 with e2 e0
    injection e2 with e4 e3 e5
    subst e4 e5
    cases F32s.uniq hy h2 e3
    exact h3
theorem call_mulTensors {t u : Dsc} {w : World} (ht : t.At w) (hu : u.At w) (h1 : t.r = u.r) (h2 : t.c = u.c) : Calls Try.prog 90 #[t.val, u.val] w fun e w' => ∃ v, e = .returned v ∧ DAll 90 #[t.val, u.val] w v w' := by
  have h0 : Calls Try.prog 90 #[t.val, u.val] w (TenPost t.r t.c t.xs.length (tenE .mul (t.xs.map (cn .f32)) (u.xs.map (cn .f32)) t.xs.length) w) := by
    show Calls Try.prog 90 #[.agg #[.int .i64 t.r, .int .i64 t.c, .slice t.a t.xs.length t.k], .agg #[.int .i64 u.r, .int .i64 u.c, .slice u.a u.xs.length u.k]] w _
    rw [show u.xs.length = t.xs.length by rw [ht.len, hu.len, h1, h2]]
    exact impl_mulTensors w t.r t.c u.r u.c t.a u.a t.k u.k t.xs.length t.xs u.xs ht.see hu.see rfl (by rw [ht.len, hu.len, h1, h2]) ht.le
  refine h0.mono fun e w' h => ?_
  obtain ⟨v, he, hr⟩ := RTen.of (T := mulV t.can u.can) h (by simp [mulV, addV, turnV, matV, Dsc.can])
  exact ⟨v, he, Or.inl ⟨t, u, rfl, rfl, ht, hu, hr⟩⟩
theorem call_addTensors {t u : Dsc} {w : World} (ht : t.At w) (hu : u.At w) (h1 : t.r = u.r) (h2 : t.c = u.c) : Calls Try.prog 82 #[t.val, u.val] w fun e w' => ∃ v, e = .returned v ∧ DAll 82 #[t.val, u.val] w v w' := by
  have h0 : Calls Try.prog 82 #[t.val, u.val] w (TenPost t.r t.c t.xs.length (tenE .add (t.xs.map (cn .f32)) (u.xs.map (cn .f32)) t.xs.length) w) := by
    show Calls Try.prog 82 #[.agg #[.int .i64 t.r, .int .i64 t.c, .slice t.a t.xs.length t.k], .agg #[.int .i64 u.r, .int .i64 u.c, .slice u.a u.xs.length u.k]] w _
    rw [show u.xs.length = t.xs.length by rw [ht.len, hu.len, h1, h2]]
    exact impl_addTensors w t.r t.c u.r u.c t.a u.a t.k u.k t.xs.length t.xs u.xs ht.see hu.see rfl (by rw [ht.len, hu.len, h1, h2]) ht.le
  refine h0.mono fun e w' h => ?_
  obtain ⟨v, he, hr⟩ := RTen.of (T := addV t.can u.can) h (by simp [mulV, addV, turnV, matV, Dsc.can])
  exact ⟨v, he, Or.inr (Or.inl ⟨t, u, rfl, rfl, ht, hu, hr⟩)⟩
theorem call_mulRow {t : Dsc} {a : Option Addr} {k : Nat} {ys : List Nat} {w : World} (ht : t.At w) (hy : F32s w a k ys) (hl : ys.length = t.c) : Calls Try.prog 91 #[t.val, .slice a ys.length k] w fun e w' => ∃ v, e = .returned v ∧ DAll 91 #[t.val, .slice a ys.length k] w v w' := by
  have h0 : Calls Try.prog 91 #[t.val, .slice a ys.length k] w (TenPost t.r t.c t.xs.length (rowE .mul (t.xs.map (cn .f32)) (ys.map (cn .f32)) t.c t.xs.length) w) := by
    show Calls Try.prog 91 #[.agg #[.int .i64 t.r, .int .i64 t.c, .slice t.a t.xs.length t.k], .slice a ys.length k] w _
    rw [hl]
    exact impl_mulRow w t.r t.c t.a a t.k k t.xs.length t.xs ys ht.see hy rfl hl ht.le ht.c1 ht.c2
  refine h0.mono fun e w' h => ?_
  obtain ⟨v, he, hr⟩ := RTen.of (T := ⟨t.r, t.c, rowE .mul t.can.xs (ys.map (cn .f32)) t.c t.xs.length⟩) h (by rfl)
  exact ⟨v, he, Or.inr (Or.inr (Or.inl ⟨t, a, k, ys, rfl, rfl, ht, hy, hr⟩))⟩
theorem call_transposed {t : Dsc} {w : World} (ht : t.At w) : Calls Try.prog 94 #[t.val] w fun e w' => ∃ v, e = .returned v ∧ DAll 94 #[t.val] w v w' := by
  refine (impl_transposed w t.r t.c t.a t.k t.xs.length t.xs ht.see rfl ht.r1 ht.r2 ht.c1 ht.c2 ht.len).mono fun e w' h => ?_
  obtain ⟨v, he, hr⟩ := RTen.of (T := turnV t.can) h (by simp [mulV, addV, turnV, matV, Dsc.can])
  exact ⟨v, he, Or.inr (Or.inr (Or.inr (Or.inl ⟨t, rfl, rfl, ht, hr⟩)))⟩
theorem call_matMul {t u : Dsc} {w : World} (ht : t.At w) (hu : u.At w) (h1 : t.c = u.r) : Calls Try.prog 93 #[t.val, u.val] w fun e w' => ∃ v, e = .returned v ∧ DAll 93 #[t.val, u.val] w v w' := by
  have h0 : Calls Try.prog 93 #[t.val, u.val] w (TenPost t.r u.c (t.r * u.c) (matE (t.xs.map (cn .f32)) (u.xs.map (cn .f32)) t.c u.c (t.r * u.c)) w) := by
    obtain ⟨ur, uc, ua, uk, us⟩ := u; replace h1 : t.c = ur := h1; subst h1; exact impl_matMul w t.r t.c uc t.a ua t.k uk t.xs.length us.length t.xs us ht.see hu.see rfl rfl ht.r1 ht.r2 ht.c1 ht.c2 hu.c1 hu.c2 ht.len hu.len
  refine h0.mono fun e w' h => ?_
  obtain ⟨v, he, hr⟩ := RTen.of (T := matV t.can u.can) h (by simp [mulV, addV, turnV, matV, Dsc.can])
  exact ⟨v, he, Or.inr (Or.inr (Or.inr (Or.inr (Or.inl ⟨t, u, rfl, rfl, ht, hu, hr⟩))))⟩
theorem call_rowTensor {a : Option Addr} {k : Nat} {ys : List Nat} {w : World} (hy : F32s w a k ys) (hl : 1 ≤ ys.length) (hl2 : ys.length ≤ 1048576) : Calls Try.prog 56 #[.slice a ys.length k] w fun e w' => ∃ v, e = .returned v ∧ DAll 56 #[.slice a ys.length k] w v w' := by
  refine (impl_rowTensor w a k ys.length ys hy (by intro e; obtain ⟨b, o, e2, _, _⟩ := hy.spot (k := 0) hl; rw [e] at e2; cases e2) rfl hl2).mono fun e w' h => ?_
  obtain ⟨v, he, hr⟩ := RTen.of (T := ⟨1, ys.length, ys.map (cn .f32)⟩) h (by simp [mulV, addV, turnV, matV, Dsc.can])
  exact ⟨v, he, Or.inr (Or.inr (Or.inr (Or.inr (Or.inr (Or.inr (⟨a, k, ys, rfl, rfl, hy, hr⟩))))))⟩
theorem call_sumRows {t : Dsc} {w : World} (ht : t.At w) : Calls Try.prog 100 #[t.val] w fun e w' => ∃ v, e = .returned v ∧ DAll 100 #[t.val] w v w' := by
  refine (impl_sumRowsG w t.r t.c t.a t.k t.xs.length t.xs ht.see rfl ht.le ht.c1 ht.c2).mono fun e w' h => ?_
  obtain ⟨ad, cap, zs, he, hr, hm, hb⟩ := h
  have hl := hr.out.len
  refine ⟨_, he, Or.inr (Or.inr (Or.inr (Or.inr (Or.inr (Or.inl ⟨t, rfl, rfl, ht, ad, cap, zs, by rw [hl], hm.out, ?_, hb⟩)))))⟩
  rw [hl]; exact hr.out
end Go.Proofs.Ytfdgngnnncmfiaa
