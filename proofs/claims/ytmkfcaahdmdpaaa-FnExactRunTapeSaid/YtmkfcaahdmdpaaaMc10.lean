/- Joined texts 10: Tv2 Tw3 Ts2 Ts8 Tv3. Each is told at its own head. No condition. -/
import Derived.Deep.CutBlock
import Derived.Test.YtmkfcaahdmdpaaaMc4
import Derived.Test.YtmkfcaahdmdpaaaMc5
import Derived.Test.YtmkfcaahdmdpaaaMc6
import Derived.Test.YtmkfcaahdmdpaaaMc7
import Derived.Test.YtmkfcaahdmdpaaaMc8
import Derived.Test.YtmkfcaahdmdpaaaMc9
/- All values of a tape: the program. No condition. -/
namespace Go.Proofs.Ytmkfcaahdmdpaaa
open Go Go.RowKit
set_option linter.unusedVariables false
set_option linter.unusedSimpArgs false
theorem vGet_sh {V : List TenP} {S : List Sh} (h : V.map TenP.sh = S) {i : Int} (h0 : 0 ≤ i) (h1 : i ≤ V.length - 1) : (vGet V i).sh = shGet S i := by
  have hi : i.toNat < V.length := by omega
  have e1 : vGet V i = V[i.toNat] := by unfold vGet; rw [List.getD_eq_getElem?_getD, List.getElem?_eq_getElem hi]; rfl
  rw [e1]
  unfold shGet
  rw [← h, List.getD_eq_getElem?_getD, List.getElem?_map, List.getElem?_eq_getElem hi]; rfl
/-- what is known of a valid tape at an operation -/
theorem valid_round {P : List OpP} {S : List Sh} (h : shapesP P = some S) {k : Nat} {o : OpP} (ho : P[k]? = some o) :
    (valsN P k).length = k ∧ (∀ t ∈ valsN P k, okT t) ∧ fitsB k o = true ∧ (o.k ≠ 0 → ∃ s, shapeOf o.k (vGet (valsN P k) o.a).sh (vGet (valsN P k) o.b).sh = some s) := by
  have hk := (List.getElem?_eq_some_iff.1 ho).1
  have hp := shapesP_some h
  have hf := valid_fit h ho
  cases hSk : shapesN P k with
  | none =>
    have := shapesN_none hSk (Nat.le_of_lt hk) (Nat.le_refl _)
    rw [hp.2.1] at this; cases this
  | some Sk =>
    have h1 := valsN_ok (Nat.le_of_lt hk) hSk
    have hl := shapesN_length (Nat.le_of_lt hk) hSk
    have hVl : (valsN P k).length = k := by have := congrArg List.length h1.1; rw [List.length_map, hl] at this; exact this
    refine ⟨hVl, h1.2, hf, fun h0 => ?_⟩
    cases hS1 : shapesN P (k + 1) with
    | none =>
      have := shapesN_none hS1 hk (Nat.le_refl _)
      rw [hp.2.1] at this; cases this
    | some S1 =>
      rw [shapesN_succ ho, hSk] at hS1
      have hst : stepSh Sk o = some S1 := hS1
      unfold stepSh at hst
      rw [hl, if_pos hf, if_neg h0] at hst
      obtain ⟨s, hs, _⟩ := Option.map_eq_some_iff.1 hst
      have ha := fitsB_args hf h0
      refine ⟨s, ?_⟩
      rw [vGet_sh h1.1 ha.1.1 (by rw [hVl]; exact ha.1.2), vGet_sh h1.1 ha.2.1.1 (by rw [hVl]; exact ha.2.1.2)]
      exact hs
theorem ts_snoc {w W w9 : World} {B k cap : Nat} {ad : Option Addr} {S : List Ten} {s : Ten} {v' : Value} {o : Obj} (h : OwnR tenR w B w.heap.size ad k cap S) (hB : B ≤ w.heap.size) (hb : Below w.heap.size w W) {hi1 : Nat} (hr : RepF W w.heap.size hi1 s.ad s.xs.length s.cap s.xs) (hh : hi1 ≤ W.heap.size) (hh0 : w.heap.size ≤ hi1)
    (ho : w9.ownsRow B 27 3 v' (k + 1) (S.flatMap tenR.cells ++ s.cells)) (hg : (W.alloc o).grownBy w9 (Value.slice ad k cap).ownBlock) (hat : v'.ownBlock = (Value.slice ad k cap).ownBlock ∨ v'.ownBlock = some (W.heap.size + 1)) :
    ∃ ad' cap', v' = .slice ad' (k + 1) cap' ∧ OwnR tenR w9 B w9.heap.size ad' (k + 1) cap' (S ++ [s]) :=
  h.snoc hB hb hr.okF hr.ownRow hh hh0 ho hg hat
theorem ts_row {w W : World} {B k cap : Nat} {ad : Option Addr} {S : List Ten} (h : OwnR tenR w B w.heap.size ad k cap S) (hb : Below w.heap.size w W) : W.ownsRow B 27 3 (.slice ad k cap) k (S.flatMap tenR.cells) := (h.below hb).own.head.own
/-- values that are given -/
def TTOut (res : Option (List TenP)) (w w' : World) (ad : Option Addr) (n cap : Nat) (b : Bool) (us : List Ten) : Prop := (b = res.isSome ∧ us.map (fun t => t.toTenP.can) = res.getD []) ∧ OwnR tenR w' w.heap.size w'.heap.size ad n cap us
def TTPost (res : Option (List TenP)) (w : World) (e : Ending) (w' : World) : Prop := ∃ ad' n' cap' b us, e = .returned (.tuple #[.slice ad' n' cap', .bool b]) ∧ Hid (TTOut res w w' ad' n' cap' b us) ∧ Below w.heap.size w w'
/-- the values of a valid tape -/
def runP (os : List OpP) : Option (List TenP) := if (shapesP os).isSome = true then some (valsP os) else none
set_option maxHeartbeats 8000000 in
set_option maxRecDepth 100000 in
theorem impl_runTape (w : World) (ad : Option Addr) (cap : Nat) (os : List OpD) (h : SeeR opR w ad cap os) (hno : nilOK os) (S : List Sh) (hS : shapesP (os.map OpD.toOpP) = some S) (hi2 : ∀ o ∈ os, o.xs.length ≤ 1048576) :
    Calls Try.prog 174 #[.slice ad os.length cap] w fun e w' => ∃ ad' cap' us, e = .returned (.slice ad' os.length cap') ∧ Hid (OwnR tenR w' w.heap.size w'.heap.size ad' os.length cap' us ∧ us.map (fun t => t.toTenP.can) = valsP (os.map OpD.toOpP)) ∧ Below w.heap.size w w' := by
  obtain ⟨i0, hi0, hz0, hzs, hz2⟩ := info_parts info_ten
  have hp := shapesP_some hS
  rw [List.length_map] at hp
  obtain ⟨n, hN⟩ : ∃ n, n = os.length := ⟨_, rfl⟩
  rw [← hN] at hp ⊢
  have hn1 := hp.1.1; have hn2 := hp.1.2
  have HN := Lib.hid hN; have HI2 := Lib.hid hi2; have H := Lib.hid h; have HNO := Lib.hid hno; have HS := Lib.hid hS
  clear hN hi2 h hno hS hp
  go_enter Try.func174, Try.ntmps174
  go_wp2
  go_loopw [3, 9] (fun v i wt => ∃ k : Nat, i = .int .i64 k ∧ k ≤ n ∧ ∃ (ad' : Option Addr) (cap' : Nat) (us : List Ten), v = .slice ad' k cap' ∧ Hid (OwnR tenR wt w.heap.size wt.heap.size ad' k cap' us) ∧ Hid (us.map (fun t => t.toTenP.can) = valsN (os.map OpD.toOpP) k) ∧ Hid (Below w.heap.size w wt)) (fun _ i _ => n - (intOf i).toNat)
  case atStart => exact ⟨0, rfl, Nat.zero_le _, _, _, [], rfl, Lib.hid (OwnR.nil1 tenR w), Lib.hid rfl, Lib.hid (below1 _ _)⟩
  case round =>
    obtain ⟨k, rfl, hk, ad', cap', us, rfl, HR, HE, HB⟩ := hrel
    by_cases hlt : k < n
    · obtain ⟨o, ho⟩ := getElem?_lt (show k < os.length by rw [← HN.out]; exact hlt)
      have hop : (os.map OpD.toOpP)[k]? = some o.toOpP := by rw [List.getElem?_map, ho]; rfl
      obtain ⟨vl, vok, vf, vs⟩ := valid_round HS.out hop
      obtain ⟨b, off, rfl, hbl, ⟨p0, p1, p2, p3, p4, p5, p6⟩, hf, hok⟩ := op_spot (H.out.below HB.out) ho
      have hm := List.mem_of_getElem? ho
      have hul : us.length = k := HR.out.len
      have K := Lib.hid (fun W (hb : Below wr.heap.size wr W) => impl_value W o ad' cap' us (HR.out.see.below hb) _ HE.out vok k hul (by omega) vf vs (hf.below hb) (HNO.out o hm) (HI2.out o hm))
      have HST : Hid (valsN (os.map OpD.toOpP) (k + 1) = valsN (os.map OpD.toOpP) k ++ [stepV (valsN (os.map OpD.toOpP) k) o.toOpP]) := Lib.hid (valsN_succ hop)
      obtain ⟨T, hT⟩ : ∃ T, T = stepV (valsN (os.map OpD.toOpP) k) o.toOpP := ⟨_, rfl⟩
      rw [← hT] at K HST
      unfold OpD.val at K
      obtain ⟨m, hM⟩ : ∃ m, m = o.xs.length := ⟨_, rfl⟩
      rw [← hM] at K p6
      have HRW := Lib.hid (fun W hb => ts_row HR.out (W := W) hb)
      have hb1 := below1 wr (.cells #[.int .i64 o.k, .int .i64 o.a, .int .i64 o.b, .float .f32 o.num, .int .i64 o.r, .int .i64 o.c, .slice o.ad m o.cap] 111)
      have B1 := Lib.hid hb1
      clear hM ho hop vl vok vf vs hf hok hm hul hT hb1
      go_wp2_with fail
      refine (K.out _ B1.out).mono ?_
      rintro e w2 ⟨va, vc, zs, rfl, RO, RM, hb2⟩
      have HB2 := Lib.hid (bthen B1.out hb2)
      have hz2' := hb2.size
      simp at hz2'
      clear hb2 p0 p1 p2 p3 p4 p5 p6
      obtain ⟨tl, htl⟩ : ∃ tl, tl = T.xs.length := ⟨_, rfl⟩
      rw [← htl] at RO ⊢
      have HTL := Lib.hid htl
      clear htl
      go_wp2_with (at_builtin; refine wp_appA rfl _ _ 41 rfl w.heap.size i0 (.agg #[.int .i64 0, .int .i64 0, .slice none 0 0]) 3 40 Try.underlying41 hi0 hz0 hzs hz2 rfl (by decide) rfl (by intro u hu; simp at hu; rcases hu with rfl | rfl | rfl <;> rfl) _ _ _ rfl (HRW.out _ HB2.out) (by go_simp) ?c3 ?c4 ?c5 ?_)
      case c3 => unfold maxLen; omega
      case c4 => omega
      case c5 => exact Nat.le_trans HB.out.size HB2.out.size
      intro v' w9 ho9 hg9 hat9 hb9 hs9
      have hzl := RO.out.len
      obtain ⟨ad9, cap9, rfl, hown9⟩ := ts_snoc (s := ⟨⟨T.r, T.c, zs⟩, va, vc⟩) HR.out HB.out.size HB2.out (hi1 := w2.heap.size) (by show RepF w2 wr.heap.size w2.heap.size va zs.length vc zs; rw [hzl]; exact RO.out.bounds (by simp) (Nat.le_refl _)) (Nat.le_refl _) HB2.out.size (by show w9.ownsRow _ _ _ _ _ (_ ++ [Value.int .i64 T.r, .int .i64 T.c, .slice va zs.length vc]); rw [hzl]; exact ho9) hg9 (by simpa using hat9)
      have HO9 := Lib.hid hown9; have HB9 := Lib.hid ((HB.out.trans (HB2.out.mono HB.out.size)).trans hb9)
      have HE9 : Hid ((us ++ [(⟨⟨T.r, T.c, zs⟩, va, vc⟩ : Ten)]).map (fun t => t.toTenP.can) = valsN (os.map OpD.toOpP) (k + 1)) := Lib.hid (by
        rw [List.map_append, HE.out, HST.out]
        congr 1
        show [TenP.can ⟨T.r, T.c, zs⟩] = [T]
        unfold TenP.can
        rw [RM.out])
      clear ho9 hg9 hat9 hb9 hown9 HR HE HB HB2 HRW hzl
      go_wp2
      go_roundw
      case rel => exact ⟨k + 1, by go_num, hlt, _, _, _, rfl, HO9, HE9, HB9⟩
      case measure => simp [intOf]; omega
    · have hkn : k = n := by omega
      subst hkn
      have HA := Lib.hid (And.intro HR.out (show us.map (fun t => t.toTenP.can) = valsP (os.map OpD.toOpP) by rw [HE.out]; unfold valsP; rw [List.length_map, ← HN.out]))
      go_wp2
      go_ret
      exact ⟨_, _, us, rfl, HA, HB.out⟩
theorem impl_RunTape (w : World) (ad : Option Addr) (cap : Nat) (os : List OpD) (h : SeeR opR w ad cap os) (hno : nilOK os) (hi2 : ∀ o ∈ os, o.xs.length ≤ 1048576) :
    Calls Try.prog 86 #[.slice ad os.length cap] w (TTPost (runP (os.map OpD.toOpP)) w) := by
  have K := Lib.hid (impl_ValidTape w ad cap os h)
  have H := Lib.hid h; have HNO := Lib.hid hno; have HI2 := Lib.hid hi2
  obtain ⟨n, hN⟩ : ∃ n, n = os.length := ⟨_, rfl⟩
  rw [← hN] at K ⊢
  have HN := Lib.hid hN
  clear h hno hi2 hN
  cases hs : shapesP (os.map OpD.toOpP) with
  | none =>
    rw [hs] at K
    have HS := Lib.hid (show runP (os.map OpD.toOpP) = none by unfold runP; rw [hs]; rfl)
    clear hs
    go_enter Try.func86, Try.ntmps86
    go_wp2_with fail
    refine K.out.mono ?_
    rintro e w1 ⟨rfl, hb⟩
    go_wp2
    go_ret2
    exact ⟨none, 0, 0, _, [], rfl, Lib.hid ⟨⟨by rw [HS.out]; rfl, by rw [HS.out]; rfl⟩, OwnR.nil _ _ _ _⟩, hb⟩
  | some S =>
    rw [hs] at K
    have K2 := Lib.hid (fun W (hb : Below w.heap.size w W) => impl_runTape W ad cap os (H.out.below hb) HNO.out S hs HI2.out)
    rw [← HN.out] at K2
    have HS := Lib.hid (show runP (os.map OpD.toOpP) = some (valsP (os.map OpD.toOpP)) by unfold runP; rw [hs]; rfl)
    clear hs
    go_enter Try.func86, Try.ntmps86
    go_wp2_with fail
    refine K.out.mono ?_
    rintro e w1 ⟨rfl, hb⟩
    have HB := Lib.hid hb
    have hzb := hb.size
    clear hb
    go_wp2_with fail
    refine (K2.out _ HB.out).mono ?_
    rintro e w2 ⟨a2, c2, us, rfl, HU, hb2⟩
    have HB2 := Lib.hid (bthen HB.out hb2); clear hb2
    go_wp2
    go_ret2
    exact ⟨_, _, _, _, us, rfl, Lib.hid ⟨⟨by rw [HS.out]; rfl, by rw [HS.out]; exact HU.out.2⟩, HU.out.1.bounds hzb (Nat.le_refl _)⟩, HB2.out⟩
end Go.Proofs.Ytmkfcaahdmdpaaa
/- Lists of tensors compared and marked, for the walks of laws. No condition. -/
namespace Go.Proofs.Ytmkfcaahdmdpaaa
open Go Go.RowKit
set_option linter.unusedVariables false
set_option linter.unusedSimpArgs false
theorem ten_own {w : World} {lo hi n cap : Nat} {ad : Option Addr} {us : List Ten} (h : OwnR tenR w lo hi ad n cap us) {k : Nat} {t : Ten} (hk : us[k]? = some t) : ∃ g, ad = some ⟨g, 0, none⟩ ∧ (lo ≤ g ∧ g < hi ∧ g < w.heap.size) ∧
    (w.cell? ⟨g, k * 3, none⟩ = some (.int .i64 t.r) ∧ w.cell? ⟨g, k * 3 + 1, none⟩ = some (.int .i64 t.c) ∧ w.cell? ⟨g, k * 3 + 2, none⟩ = some (.slice t.ad t.xs.length t.cap)) ∧
    (∀ j, w.frozen? ⟨g, j, none⟩ = false) ∧ RepF w lo hi t.ad t.xs.length t.cap t.xs := by
  obtain ⟨g, e, hr, hc, hf⟩ := h.spot hk (by decide)
  have hm := List.mem_of_getElem? hk
  refine ⟨g, e, hr, ⟨hc 0 (by decide), hc 1 (by decide), hc 2 (by decide)⟩, hf, h.own.repF (List.mem_cons_of_mem _ (List.mem_flatMap.2 ⟨t, hm, List.mem_singleton.2 rfl⟩)) (h.ok t hm)⟩
set_option maxHeartbeats 4000000 in
set_option maxRecDepth 100000 in
theorem TS_eq (w : World) {a1 a2 : Option Addr} {c1 c2 : Nat} {us vs : List Ten} (h1 : SeeR tenR w a1 c1 us) (h2 : SeeR tenR w a2 c2 vs) (he : us.map (fun t => t.toTenP.can) = vs.map (fun t => t.toTenP.can)) (hn : us.length ≤ 1048576) (hi : ∀ t ∈ us, t.xs.length ≤ 1048576) :
    Calls Try.prog 90 #[.slice a1 us.length c1, .slice a2 vs.length c2] w fun e w' => e = .returned (.bool true) ∧ Below w.heap.size w w' := by
  have hl : us.length = vs.length := by have := congrArg List.length he; simpa using this
  rw [← hl]
  obtain ⟨n, hN⟩ : ∃ n, n = us.length := ⟨_, rfl⟩
  have HL := Lib.hid hl; clear hl
  rw [← hN] at hn ⊢
  have HN := Lib.hid hN; have HE := Lib.hid he; have HI := Lib.hid hi; have H1 := Lib.hid h1; have H2 := Lib.hid h2
  clear hN he hi h1 h2
  go_enter Try.func90, Try.ntmps90
  go_wp2
  go_loopw [5] (fun i wt => ∃ k : Nat, i = .int .i64 k ∧ k ≤ n ∧ Hid (Below w.heap.size w wt)) (fun i _ => n - (intOf i).toNat)
  case atStart => exact ⟨0, rfl, Nat.zero_le _, Lib.hid (Below.refl _ _)⟩
  case round =>
    obtain ⟨k, rfl, hk, HB⟩ := hrel
    by_cases hlt : k < n
    · have hkx : k < us.length := by rw [← HN.out]; exact hlt
      obtain ⟨o, ho⟩ := getElem?_lt hkx
      obtain ⟨p, hp⟩ := getElem?_lt (show k < vs.length by rw [← HL.out]; exact hkx)
      obtain ⟨b, off, rfl, _, ⟨p0, p1, p2⟩, hf⟩ := ten_spot (H1.out.below HB.out) ho
      obtain ⟨b', off', rfl, _, ⟨q0, q1, q2⟩, hf'⟩ := ten_spot (H2.out.below HB.out) hp
      have e1 : o.toTenP.can = p.toTenP.can := by
        have e1 := congrArg (fun l => l[k]?) HE.out
        simpa [ho, hp] using e1
      have hio := HI.out o (List.mem_of_getElem? ho)
      obtain ⟨⟨r, c, xs⟩, ax, cx⟩ := o
      obtain ⟨⟨r2, c2', ys⟩, ay, cy⟩ := p
      unfold TenP.can at e1
      simp only [TenP.mk.injEq] at e1
      obtain ⟨e2, e3, e4⟩ := e1
      simp only at e2 e3 e4 p0 p1 p2 q0 q1 q2 hf hf' hio
      subst e2 e3
      have K := Lib.hid (fun W (hb : Below wr.heap.size wr W) => T_eq W r c ax ay cx cy xs ys (hf.below hb) (hf'.below hb) hio e4)
      obtain ⟨x, hx⟩ : ∃ x, x = xs.length := ⟨_, rfl⟩
      obtain ⟨y, hy⟩ : ∃ y, y = ys.length := ⟨_, rfl⟩
      rw [← hx] at K p2
      rw [← hy] at K q2
      clear hf hf' ho hp e4 hx hy hkx hio
      go_wp2
      refine wp_region_tail 8 (fun f args u => False) (by kernel_rfl) (by kernel_rfl) ?_
      repeat (refine wset_step (fun K hK nq => ?_); go_simp; refine hK _ ?_; clear hK K)
      refine wset_nil ?_
      rintro w' ⟨q, rfl⟩
      go_wp2_with fail
      refine (K.out _ (below_drewN (Below.refl _ _) _)).mono ?_
      rintro e w2 ⟨rfl, hb⟩
      have HB2 := Lib.hid (bthen HB.out ((below_drewN (Below.refl _ _) _).trans hb)); clear hb
      go_wp2
      go_roundw
      case rel => exact ⟨k + 1, by go_num, hlt, HB2⟩
      case measure => simp [intOf]; omega
    · go_wp2
      go_ret
      exact ⟨rfl, HB.out⟩
/-- the marks of a tensor -/
def markT (k0 : Nat) (t : Ten) : Ten := ⟨⟨(k0 : Nat), (k0 + 1 : Nat), markF (k0 + 2) t.xs.length⟩, t.ad, t.cap⟩
def Ten.w (t : Ten) : Nat := 2 + t.xs.length
def totT (us : List Ten) : Nat := (us.map Ten.w).sum
def markTs : Nat → List Ten → List Ten
  | _, [] => []
  | k0, t :: us => markT k0 t :: markTs (k0 + t.w) us
theorem totT_snoc (A : List Ten) (t : Ten) : totT (A ++ [t]) = totT A + t.w := by simp [totT]
theorem totT_append (A B : List Ten) : totT (A ++ B) = totT A + totT B := by simp [totT]
theorem totT_cons (t : Ten) (B : List Ten) : totT (t :: B) = t.w + totT B := by simp [totT]
theorem markTs_length (k0 : Nat) (A : List Ten) : (markTs k0 A).length = A.length := by
  induction A generalizing k0 with
  | nil => rfl
  | cons o A ih => simp [markTs, ih]
theorem markTs_snoc (k0 : Nat) (A : List Ten) (t : Ten) : markTs k0 (A ++ [t]) = markTs k0 A ++ [markT (k0 + totT A) t] := by
  induction A generalizing k0 with
  | nil => simp [markTs, totT]
  | cons p A ih => rw [List.cons_append, markTs, ih, totT_cons, markTs, List.cons_append, Nat.add_assoc]
theorem markTs_at (k0 : Nat) (A B : List Ten) (t : Ten) : (markTs k0 (A ++ t :: B))[A.length]? = some (markT (k0 + totT A) t) := by
  induction A generalizing k0 with
  | nil => simp [markTs, totT]
  | cons p A ih => rw [List.cons_append, markTs, List.length_cons, List.getElem?_cons_succ, ih, totT_cons, Nat.add_assoc]
theorem OwnR.markTAt {w w2 : World} {lo hi n cap g k0 : Nat} {A B : List Ten} {o : Ten} (h : OwnR tenR w lo hi (some ⟨g, 0, none⟩) n cap (A ++ o :: B)) (hk : k0 ≤ 100000000)
    (ho : w2.ownsRow lo 33 1 (.slice o.ad o.xs.length o.cap) o.xs.length ((markF (k0 + 2) o.xs.length).map (Value.float .f32)))
    (hg : (setCs w g (A.length * 3) [.int .i64 (k0 : Nat), .int .i64 (k0 + 1 : Nat)]).grownBy w2 (Value.slice o.ad o.xs.length o.cap).ownBlock) :
    OwnR tenR w2 lo hi (some ⟨g, 0, none⟩) n cap (A ++ markT k0 o :: B) := by
  have h1 := setCs_own h.own (A.length * 3) [.int .i64 (k0 : Nat), .int .i64 (k0 + 1 : Nat)]
  have e1 : (A ++ o :: B).flatMap tenR.inn = A.flatMap tenR.inn ++ floatRow o.ad o.cap o.xs :: B.flatMap tenR.inn := by
    rw [List.flatMap_append, List.flatMap_cons]; rfl
  have e2 : (A ++ markT k0 o :: B).flatMap tenR.inn = A.flatMap tenR.inn ++ floatRow o.ad o.cap (markF (k0 + 2) o.xs.length) :: B.flatMap tenR.inn := by
    rw [List.flatMap_append, List.flatMap_cons]; rfl
  rw [e1, ← List.cons_append] at h1
  have hl : (markF (k0 + 2) o.xs.length).length = o.xs.length := markF_length _ _
  have h2 := h1.setAt (y := floatRow o.ad o.cap (markF (k0 + 2) o.xs.length)) hg (by
    refine ⟨?_, ?_⟩
    · show w2.ownsRow lo 33 1 (.slice o.ad (markF (k0 + 2) o.xs.length).length o.cap) (markF (k0 + 2) o.xs.length).length _
      rw [hl]; exact ho
    · intro g' e
      have h3 := (h1.row (floatRow o.ad o.cap o.xs) (List.mem_append_right _ (List.mem_cons_self ..))).top g'
      have e5 : (Value.slice o.ad (markF (k0 + 2) o.xs.length).length o.cap).ownBlock = some g' := e
      rw [hl] at e5
      exact h3 e5) (by show Value.slice o.ad (markF (k0 + 2) o.xs.length).length o.cap = Value.slice o.ad o.xs.length o.cap; rw [hl])
  rw [List.cons_append, ← e2] at h2
  have e3 : (A ++ markT k0 o :: B).flatMap tenR.cells = setL ((A ++ o :: B).flatMap tenR.cells) (A.length * 3) [.int .i64 (k0 : Nat), .int .i64 (k0 + 1 : Nat)] := by
    have h3 := flat_set tenR (A ++ o :: B) (k := A.length) (by simp) (markT k0 o)
    rw [set_mid] at h3
    rw [← h3]
    have e4 : tenR.cells (markT k0 o) = [.int .i64 (k0 : Nat), .int .i64 (k0 + 1 : Nat)] ++ [.slice o.ad o.xs.length o.cap] := by
      show Ten.cells (markT k0 o) = _
      unfold Ten.cells markT
      simp [hl]
    rw [e4, setL_append]
    refine set_same ?_
    rw [setL_get _ _ _ _ (.inr (by simp))]
    exact (flat_at tenR (A ++ o :: B) (k := A.length) (j := 2) (get_mid A B o) (by decide)).trans rfl
  refine ⟨?_, ?_, fun p hp => ?_⟩
  · rw [e3]; exact h2
  · have := h.len; simp at this ⊢; exact this
  · rcases List.mem_append.1 hp with hp | hp
    · exact h.ok p (List.mem_append_left _ hp)
    · rcases List.mem_cons.1 hp with rfl | hp
      · exact markF_lt _ _
      · exact h.ok p (List.mem_append_right _ (List.mem_cons_of_mem _ hp))
set_option maxHeartbeats 4000000 in
set_option maxRecDepth 100000 in
theorem TS_mark (w : World) {lo hi : Nat} {ad : Option Addr} {n cap : Nat} {os : List Ten} (k0 : Nat) (h : OwnR tenR w lo hi ad n cap os) (hhi : hi ≤ w.heap.size) (hn : n ≤ 1048576) (hk : k0 + totT os ≤ 10000000) (hi2 : ∀ o ∈ os, o.xs.length ≤ 1048576) :
    Calls Try.prog 91 #[.slice ad n cap, .int .i64 k0] w fun e w' => e = .returned (.int .i64 (k0 + totT os : Nat)) ∧ Hid (OwnR tenR w' lo hi ad n cap (markTs k0 os)) ∧ Touch lo hi w w' := by
  have HN := Lib.hid h.len; have HI2 := Lib.hid hi2; have HH := Lib.hid h; clear hi2 h
  go_enter Try.func91, Try.ntmps91
  go_wp2
  go_loopw [1, 5] (fun q i wt => ∃ k k1 : Nat, i = .int .i64 k ∧ q = .int .i64 k1 ∧ k ≤ n ∧ k1 ≤ 10000000 ∧ Hid (∃ A B, os = A ++ B ∧ A.length = k ∧ k1 = k0 + totT A ∧ OwnR tenR wt lo hi ad n cap (markTs k0 A ++ B)) ∧ Hid (Touch lo hi w wt)) (fun _ i _ => n - (intOf i).toNat)
  case atStart => exact ⟨0, k0, rfl, rfl, Nat.zero_le _, by omega, Lib.hid ⟨[], os, rfl, rfl, rfl, HH.out⟩, Lib.hid (Touch.refl _ _ _)⟩
  case round =>
    clear HH
    obtain ⟨k, k1, rfl, rfl, hkn, hk1, HX, HT⟩ := hrel
    by_cases hlt : k < n
    · obtain ⟨A, B0, e1, e2, e3, hown⟩ := HX.out
      cases B0 with
      | nil => exfalso; have := HN.out; rw [e1, List.append_nil] at this; omega
      | cons o B =>
        have HE1 := Lib.hid e1; have HE3 := Lib.hid e3; have HE2 := Lib.hid e2; have HO := Lib.hid hown
        have hml : (markTs k0 A).length = k := by rw [markTs_length, e2]
        have HML := Lib.hid hml
        have hget := get_mid (markTs k0 A) B o
        rw [hml] at hget
        obtain ⟨g, rfl, hgr, ⟨p0, p1, p2⟩, hfz, hrf⟩ := ten_own hown hget
        have hmb := HI2.out o (by rw [e1]; simp)
        have htot : k1 + o.w ≤ 10000000 := by
          have := hk
          rw [e1, totT_append, totT_cons] at this
          omega
        unfold Ten.w at htot
        have hm := fun W (ho : W.ownsRow lo 33 1 (.slice o.ad o.xs.length o.cap) o.xs.length (o.xs.map (Value.float .f32))) => laws_markFloat32S lo o.ad o.cap o.xs.length (o.xs.map (Value.float .f32)) (k1 + 2) W hmb (by omega) ho
        have HM := Lib.hid hm
        have hW := (setCs_own hown.own (k * 3) [.int .i64 (k1 : Nat), .int .i64 (k1 + 1 : Nat)]).row (floatRow o.ad o.cap o.xs) (List.mem_cons_of_mem _ (List.mem_flatMap.2 ⟨o, by simp, List.mem_singleton.2 rfl⟩))
        have HW := Lib.hid hW.own
        have htw := ((setCs_touch wr g (k * 3) [.int .i64 (k1 : Nat), .int .i64 (k1 + 1 : Nat)]).mono hgr.1 hgr.2.1)
        have HTW := Lib.hid htw; have HRF := Lib.hid hW
        clear e1 e2 e3 hown hget hrf hm hW htw hml hgr
        obtain ⟨m, hm0⟩ : ∃ m, m = o.xs.length := ⟨_, rfl⟩
        rw [← hm0] at p2 hmb htot HM
        have HM0 := Lib.hid hm0; clear hm0
        go_wp2_with fail
        refine (HM.out _ (by rw [HM0.out]; exact HW.out)).mono ?_
        rintro e w2 ⟨rfl, ho2, hg2⟩
        have hmk := OwnR.markTAt (A := markTs k0 A) (B := B) (o := o) HO.out (k0 := k1) (by omega) (by rw [← HM0.out]; exact ho2) (by rw [HML.out, ← HM0.out]; exact hg2)
        have ht2 : Touch lo hi w w2 := HT.out.trans (HTW.out.trans (Touch.of_grown HRF.out (by rw [floatRow, RowD.val, ← HM0.out]; exact hg2)))
        have HMK := Lib.hid hmk; have HT2 := Lib.hid ht2
        clear hmk ht2 ho2 hg2 HO HTW HRF HW p0 p1 p2 hfz HM HT
        go_wp2
        refine ⟨?rel, ?measure⟩
        case rel => exact ⟨k + 1, k1 + 2 + m, by go_num, by go_num, hlt, by omega, Lib.hid ⟨A ++ [o], B, by rw [HE1.out]; simp, by simp [HE2.out], by rw [totT_snoc, HE3.out, Ten.w, HM0.out]; omega, by rw [markTs_snoc, ← HE3.out, List.append_assoc]; exact HMK.out⟩, HT2⟩
        case measure => simp [intOf]; omega
    · have hkn2 : k = n := by omega
      subst hkn2
      obtain ⟨A, B, e1, e2, e3, hown⟩ := HX.out
      have hB : B = [] := by
        have := HN.out; rw [e1, List.length_append, e2] at this
        exact List.eq_nil_of_length_eq_zero (by omega)
      subst hB
      rw [List.append_nil] at e1 hown
      subst e1
      have HO := Lib.hid hown; clear hown HX
      subst e3
      clear e2
      go_wp2
      go_ret
      exact ⟨rfl, HO, HT.out⟩
set_option maxHeartbeats 4000000 in
set_option maxRecDepth 100000 in
theorem TS_held (w : World) {ad : Option Addr} {n cap : Nat} {os : List Ten} (k0 : Nat) (h : SeeR tenR w ad cap (markTs k0 os)) (hl : os.length = n) (hn : n ≤ 1048576) (hk : k0 + totT os ≤ 10000000) (hi2 : ∀ o ∈ os, o.xs.length ≤ 1048576) :
    Calls Try.prog 92 #[.slice ad n cap, .int .i64 k0] w fun e w' => e = .returned (.int .i64 (k0 + totT os : Nat)) ∧ w = w' := by
  have HN := Lib.hid hl; have HI2 := Lib.hid hi2; have HH := Lib.hid h; clear hi2 h hl
  go_enter Try.func92, Try.ntmps92
  go_wp2
  go_loop [1, 5] (fun q i => ∃ k k1 : Nat, i = .int .i64 k ∧ q = .int .i64 k1 ∧ k ≤ n ∧ k1 ≤ 10000000 ∧ Hid (∃ A B, os = A ++ B ∧ A.length = k ∧ k1 = k0 + totT A)) (fun _ i => n - (intOf i).toNat)
  case atStart => exact ⟨0, k0, rfl, rfl, Nat.zero_le _, by omega, Lib.hid ⟨[], os, rfl, rfl, rfl⟩⟩
  case round =>
    obtain ⟨k, k1, rfl, rfl, hkn, hk1, HX⟩ := hrel
    by_cases hlt : k < n
    · obtain ⟨A, B0, e1, e2, e3⟩ := HX.out
      cases B0 with
      | nil => exfalso; have := HN.out; rw [e1, List.append_nil] at this; omega
      | cons o B =>
        have HE1 := Lib.hid e1; have HE3 := Lib.hid e3; have HE2 := Lib.hid e2
        have hget := markTs_at k0 A B o
        rw [← e1, e2, ← e3] at hget
        obtain ⟨b, off, rfl, hb, ⟨p0, p1, p2⟩, hf⟩ := ten_spot HH.out hget
        have hmb := HI2.out o (by rw [e1]; simp)
        have htot : k1 + o.w ≤ 10000000 := by
          have := hk
          rw [e1, totT_append, totT_cons] at this
          omega
        unfold Ten.w at htot
        simp only [markT, markF_length] at p0 p1 p2 hf
        obtain ⟨m, hm0⟩ : ∃ m, m = o.xs.length := ⟨_, rfl⟩
        rw [← hm0] at p2 hmb htot hf
        have hheld := fun W hW => laws_heldFloat32S o.ad o.cap m (markF (k1 + 2) m) (k1 + 2) W (by omega) (by omega) hW rfl
        have HM := Lib.hid hheld; have HF := Lib.hid hf
        have HM0 := Lib.hid hm0
        clear e1 e2 e3 hget hheld hf hm0
        go_wp2_with fail
        refine (HM.out _ HF.out).mono ?_
        rintro e w2 ⟨rfl, rfl⟩
        have hnn : 0 ≤ ((k1 + 2 + m : Nat) : Int) := by omega
        clear p0 p1 p2
        go_wp2
        go_round
        case rel => exact ⟨k + 1, k1 + 2 + m, by go_num, rfl, hlt, by omega, Lib.hid ⟨A ++ [o], B, by rw [HE1.out]; simp, by simp [HE2.out], by rw [totT_snoc, HE3.out, Ten.w, HM0.out]; omega⟩⟩
        case measure => simp [intOf]; omega
    · have hkn2 : k = n := by omega
      obtain ⟨A, B, e1, e2, e3⟩ := HX.out
      have hB : B = [] := by
        have := HN.out; rw [e1, List.length_append, e2] at this
        exact List.eq_nil_of_length_eq_zero (by omega)
      subst hB
      rw [List.append_nil] at e1
      subst e1
      subst e3
      clear HX e2
      go_wp2
      go_ret
      exact ⟨rfl, rfl⟩
theorem TT_eq2 (w : World) {lo1 hi1 lo2 hi2 : Nat} {a1 a2 : Option Addr} {n1 n2 c1 c2 : Nat} {us vs : List Ten} (h1 : OwnR tenR w lo1 hi1 a1 n1 c1 us) (h2 : OwnR tenR w lo2 hi2 a2 n2 c2 vs) (he : us.map (fun t => t.toTenP.can) = vs.map (fun t => t.toTenP.can)) (hm : n1 ≤ 1048576 ∧ totT us ≤ 9000000 ∧ ∀ u ∈ us, u.xs.length ≤ 1048576) :
    Calls Try.prog 90 #[.slice a1 n1 c1, .slice a2 n2 c2] w fun e w' => e = .returned (.bool true) ∧ Below w.heap.size w w' := by
  have e1 := h1.len; have e2 := h2.len
  subst e1 e2
  exact TS_eq w h1.see h2.see he hm.1 hm.2.2
theorem TT_mark2 (w : World) {lo hi : Nat} {ad : Option Addr} {n cap : Nat} {us : List Ten} (k0 : Nat) (h : OwnR tenR w lo hi ad n cap us) (hhi : hi ≤ w.heap.size) (hm : n ≤ 1048576 ∧ totT us ≤ 9000000 ∧ ∀ u ∈ us, u.xs.length ≤ 1048576) (hk : k0 + totT us ≤ 10000000) :
    Calls Try.prog 91 #[.slice ad n cap, .int .i64 k0] w fun e w' => e = .returned (.int .i64 (k0 + totT us : Nat)) ∧ Hid (OwnR tenR w' lo hi ad n cap (markTs k0 us)) ∧ Touch lo hi w w' :=
  TS_mark w k0 h hhi hm.1 hk hm.2.2
theorem TT_held2 (w : World) {lo hi : Nat} {ad : Option Addr} {n cap : Nat} {us : List Ten} (k0 : Nat) (h : OwnR tenR w lo hi ad n cap (markTs k0 us)) (hm : n ≤ 1048576 ∧ totT us ≤ 9000000 ∧ ∀ u ∈ us, u.xs.length ≤ 1048576) (hk : k0 + totT us ≤ 10000000) :
    Calls Try.prog 92 #[.slice ad n cap, .int .i64 k0] w fun e w' => e = .returned (.int .i64 (k0 + totT us : Nat)) ∧ w = w' :=
  TS_held w k0 h.see (by rw [← markTs_length k0 us]; exact h.len) hm.1 hk hm.2.2
/-- bounds of the values of a tape -/
theorem tt_bounds {us : List Ten} {P : List OpP} (h : us.map (fun t => t.toTenP.can) = (runP P).getD []) : us.length ≤ 1048576 ∧ totT us ≤ 9000000 ∧ ∀ u ∈ us, u.xs.length ≤ 1048576 := by
  have hV : (∀ t ∈ (runP P).getD [], t.xs.length ≤ 256) ∧ ((runP P).getD []).length ≤ 48 := by
    unfold runP
    cases e : shapesP P with
    | none => exact ⟨fun t ht => (nomatch ht), by simp⟩
    | some S =>
      have hp := shapesP_some e
      have hv := valsN_ok (Nat.le_refl _) hp.2.1
      refine ⟨fun t ht => (hv.2 t ht).le, ?_⟩
      have := congrArg List.length hv.1
      rw [List.length_map, hp.2.2.1] at this
      show (valsN P P.length).length ≤ 48
      rw [this]; exact hp.1.2
  have hl : us.length ≤ 48 := by have := congrArg List.length h; rw [List.length_map] at this; rw [this]; exact hV.2
  have hx : ∀ u ∈ us, u.xs.length ≤ 256 := by
    intro u hu
    have := hV.1 u.toTenP.can (by rw [← h]; exact List.mem_map_of_mem hu)
    simpa [TenP.can] using this
  have ht : totT us ≤ 258 * us.length := by
    clear h hl
    induction us with
    | nil => simp [totT]
    | cons a us ih =>
      rw [totT_cons, List.length_cons]
      have h1 := hx a (List.mem_cons_self ..)
      have h2 := ih (fun u hu => hx u (List.mem_cons_of_mem _ hu))
      unfold Ten.w; omega
  exact ⟨by omega, by omega, fun u hu => by have := hx u hu; omega⟩
theorem impl_RunTapeW (w : World) (ad : Option Addr) (cap : Nat) (os : List OpD) {lo hi n : Nat} (h : OwnR opR w lo hi ad n cap os) (hi2 : ∀ o ∈ os, o.xs.length ≤ 1048576) :
    Calls Try.prog 86 #[.slice ad os.length cap] w (TTPost (runP (os.map OpD.toOpP)) w) := impl_RunTape w ad cap os h.see h.nilOK hi2
end Go.Proofs.Ytmkfcaahdmdpaaa
/- Products of tensors: the reference. No condition. -/
namespace Go.Proofs.Ytmkfcaahdmdpaaa
open Go Go.RowKit
set_option linter.unusedVariables false
set_option linter.unusedSimpArgs false
set_option maxHeartbeats 8000000 in
set_option maxRecDepth 100000 in
theorem spec_l02Mul (w : World) (g1 o1 g2 o2 : Nat) (r c : Int) (a1 a2 : Option Addr) (c1 c2 n : Nat) (xs ys : List Nat) (p0 : w.cell? ⟨g1, o1, none⟩ = some (.int .i64 r)) (p1 : w.cell? ⟨g1, o1 + 1, none⟩ = some (.int .i64 c)) (p2 : w.cell? ⟨g1, o1 + 2, none⟩ = some (.slice a1 n c1)) (q2 : w.cell? ⟨g2, o2 + 2, none⟩ = some (.slice a2 n c2))
    (hx : F32s w a1 c1 xs) (hy : F32s w a2 c2 ys) (hxl : xs.length = n) (hyl : ys.length = n) (hn : n ≤ 256) :
    Calls Try.prog 223 #[.pointer (some ⟨g1, o1, none⟩), .pointer (some ⟨g2, o2, none⟩)] w (TenPost r c n (tenE .mul (xs.map (cn .f32)) (ys.map (cn .f32)) n) w) := by
  obtain ⟨i0, hi0, hz0, hzs, hz2⟩ := info_parts info_f32
  have HX := Lib.hid hx; have HXL := Lib.hid hxl
  have HY := Lib.hid hy; have HYL := Lib.hid hyl
  clear hy hyl
  clear hx hxl
  have hg1 := World.block_lt_of_cell? w _ p0
  simp only at hg1
  have hg2 := World.block_lt_of_cell? w _ q2
  simp only at hg2
  go_enter Try.func223, Try.ntmps223
  go_upto_region 1 with fail
  obtain ⟨W0, hW0⟩ : ∃ W, W = w.alloc (.cells #[.int .i64 0, .int .i64 0, .slice none 0 0] 27) := ⟨_, rfl⟩
  have k0 : W0.cell? ⟨g1, o1, none⟩ = some (.int .i64 r) := by rw [hW0]; go_simp
  have k1 : W0.cell? ⟨g1, o1 + 1, none⟩ = some (.int .i64 c) := by rw [hW0]; go_simp
  have HW0 := Lib.hid hW0
  have hs0 : W0.heap.size = w.heap.size + 1 := by rw [hW0]; simp
  rw [← hW0]
  have HP := Lib.hid (And.intro p1 (And.intro p2 q2))
  clear hW0 p0 p1 p2 q2
  go_cut [5] (fun p5 wx => ∃ ob va vc, p5 = .pointer (some ⟨ob, 0, none⟩) ∧ Hid (Bld w wx w.heap.size ob r c va 0 vc []))
  case first =>
    go_region_held3 (fun w' => w'.cell? ⟨g1, o1, none⟩ = some (.int .i64 r) ∧ w'.cell? ⟨g1, o1 + 1, none⟩ = some (.int .i64 c)) (go_keep) (first | fail)
    all_goals (try go_wp2_with fail)
    all_goals go_meet
    · exact ⟨_, _, _, rfl, Lib.hid (by rw [HW0.out]; exact (Bld.start1 w r c).move (Below.drew (Below.refl _ _)))⟩
    · exact ⟨_, _, _, rfl, Lib.hid (by rw [HW0.out]; exact (Bld.start2 w r c).move (Below.drew (Below.refl _ _)))⟩
  case rest =>
    obtain ⟨ob, va, vc, rfl, HB⟩ := hcut
    clear k0 k1 HW0 hs0
    go_wp2
    go_loopw [6] (fun i wt => ∃ k : Nat, i = .int .i64 k ∧ k ≤ n ∧ ∃ va vc zs, Hid (Bld w wt w.heap.size ob r c va k vc zs) ∧ Hid (zs.map (cn .f32) = tenE .mul (xs.map (cn .f32)) (ys.map (cn .f32)) k)) (fun i _ => n - (intOf i).toNat)
    case atStart => exact ⟨0, rfl, Nat.zero_le _, va, vc, [], HB, Lib.hid rfl⟩
    case round =>
      clear HB
      obtain ⟨k, rfl, hk, va, vc, zs, HB, HZ⟩ := hrel
      have hbb := HB.out.below
      have hP := HP.out
      have r1 : wr.cell? ⟨g1, o1 + 1, none⟩ = some (.int .i64 c) := (hbb.cell (p := ⟨g1, o1 + 1, none⟩) hg1).trans hP.1
      have r2 : wr.cell? ⟨g1, o1 + 2, none⟩ = some (.slice a1 n c1) := (hbb.cell (p := ⟨g1, o1 + 2, none⟩) hg1).trans hP.2.1
      by_cases hlt : k < n
      · obtain ⟨b1, f1, rfl, hl1, hc1⟩ := HX.out.spot (k := k) (by rw [HXL.out]; exact hlt)
        have d1 := hc1 k (by rw [HXL.out]; exact hlt)
        have hx2 := cn_getD xs k
        obtain ⟨x, hx⟩ : ∃ x, x = xs.getD k 0 := ⟨_, rfl⟩
        rw [← hx] at d1 hx2
        obtain ⟨b2, f2, rfl, hl2, hc2⟩ := HY.out.spot (k := k) (by rw [HYL.out]; exact hlt)
        have d2 := hc2 k (by rw [HYL.out]; exact hlt)
        have hy2 := cn_getD ys k
        obtain ⟨y, hy⟩ : ∃ y, y = ys.getD k 0 := ⟨_, rfl⟩
        rw [← hy] at d2 hy2
        have KS : Hid (∀ W, Below w.heap.size w W → W.cell? ⟨ob, 2, none⟩ = some (.slice va k vc) → W.cell? ⟨g1, o1 + 1, none⟩ = some (.int .i64 c) ∧ W.cell? ⟨g1, o1 + 2, none⟩ = some (.slice (some ⟨b1, f1, none⟩) n c1) ∧ W.cell? ⟨b1, f1 + k, none⟩ = some (.float .f32 x) ∧ W.cell? ⟨g2, o2 + 2, none⟩ = some (.slice (some ⟨b2, f2, none⟩) n c2) ∧ W.cell? ⟨b2, f2 + k, none⟩ = some (.float .f32 y) ∧ W.cell? ⟨ob, 2, none⟩ = some (.slice va k vc)) := Lib.hid (fun W hb ho => ⟨(hb.cell (p := ⟨g1, o1 + 1, none⟩) hg1).trans hP.1, (hb.cell (p := ⟨g1, o1 + 2, none⟩) hg1).trans hP.2.1, (hb.cell (p := ⟨b1, f1 + k, none⟩) hl1).trans d1, (hb.cell (p := ⟨g2, o2 + 2, none⟩) hg2).trans hP.2.2, (hb.cell (p := ⟨b2, f2 + k, none⟩) hl2).trans d2, ho⟩)
        have HXY := Lib.hid (And.intro hx2 hy2)
        have HS := Lib.hid (KS.out wr HB.out.below HB.out.out.three.2.2.2.1)
        clear hc1 hx d1 hx2 hbb hP hc2 hy d2 hy2
        go_upto_region 5 with fail
        clear r1 r2
        refine wp_region_mix 20 [17, 18] (fun W => W.cell? ⟨g1, o1 + 1, none⟩ = some (.int .i64 c) ∧ W.cell? ⟨g1, o1 + 2, none⟩ = some (.slice (some ⟨b1, f1, none⟩) n c1) ∧ W.cell? ⟨b1, f1 + k, none⟩ = some (.float .f32 x) ∧ W.cell? ⟨g2, o2 + 2, none⟩ = some (.slice (some ⟨b2, f2, none⟩) n c2) ∧ W.cell? ⟨b2, f2 + k, none⟩ = some (.float .f32 y) ∧ W.cell? ⟨ob, 2, none⟩ = some (.slice va k vc)) (fun _ _ _ => False) (fun _ _ _ _ _ => False) (by kernel_rfl) (by kernel_rfl) HS.out (fun W q h => by simpa using h) ?_
        iterate 16 (refine mwalk_plain (by rfl) HS.out (fun K hK W hW => ?_); obtain ⟨e0, e1, e2, e3, e4, e5⟩ := hW; go_simp; refine hK _ ?_; clear hK K e0 e1 e2 e3 e4 e5)
        refine mwalk_plain (by rfl) HS.out (fun K hK W hW => ?_)
        go_simp
        have hz := cn_fbits .mul .f32 x y W
        have hzl := fbits_lt .mul .f32 x y W
        generalize fbits .mul .f32 x y W = z at hz hzl ⊢
        refine hK _ ?_
        have HZ2 := Lib.hid hz; have HZL := Lib.hid hzl
        clear hK K hW hz hzl
        refine mwalk_spec (by rfl) HS.out (fun K hK q => ?_)
        have hbq := below_drewN (Below.refl wr.heap.size wr) q
        go_simp
        have hbA : Below wr.heap.size wr ((wr.drewN q).alloc (.cells #[.float .f32 z] 33)) := hbq.alloc (by simp) _
        have hs1 := KS.out _ ((HB.out.below.trans (hbA.mono HB.out.below.size))) ((HB.out.move hbA).out.three.2.2.2.1)
        have HBA := Lib.hid hbA; have HS1 := Lib.hid hs1
        refine ⟨hs1, hK _ _ ?_⟩
        clear hK K hbq hbA hs1
        refine mwalk_spec (by rfl) HS1.out (fun K hK q2 => ?_)
        refine specRes_append rfl _ _ 25 rfl w.heap.size 33 i0 _ 1 4 Try.underlying25 hi0 hz0 hzs hz2 rfl (by decide) (.slice va k vc) k (zs.map (Value.float .f32)) rfl (HB.out.move (below_drewN HBA.out q2)).row ⟨wr.heap.size, 0, none⟩ 1 1 [.float .f32 z] rfl rfl (World.news_of_block (cs := #[.float .f32 z]) (t := 33) (fr := (0, 0)) (heap_alloc_new (wr.drewN q) _)) (by simp [Value.oneCell']) (by unfold maxLen; omega) (by omega) (Nat.le_trans HB.out.below.size (Nat.le_trans HBA.out.size (Nat.le_refl _))) ?_
        intro v' w9 ho9 hg9 hat9 hb9
        obtain ⟨va', vc', rfl, hc9, hf9, hbel9, hnew⟩ := HB.out.push (W := (wr.drewN q).drewN q2) HZL.out (below_drewN (below_drewN (Below.refl _ _) q) q2) ho9 hg9 (by simpa using hat9)
        have hs9 := KS.out w9 hbel9 hc9
        have HS9 := Lib.hid hs9; have HF9 := Lib.hid (And.intro hc9 hf9); have HN9 := Lib.hid hnew
        have HM9 := Lib.hid (map_push HZ.out (f := fun i => fop .mul .f32 ((xs.map (cn .f32)).getD i 0) ((ys.map (cn .f32)).getD i 0)) (by rw [HZ2.out]; exact (by rw [HXY.out.1, HXY.out.2])))
        refine ⟨hs9, hK _ _ ?_⟩
        clear hK K ho9 hg9 hat9 hb9 hc9 hf9 hbel9 hnew hs9 HS1 HBA
        refine mwalk_plain (by rfl) HS9.out (fun K hK W hW => ?_)
        go_simp
        refine hK _ ?_
        clear hK K hW
        refine mwalk_nil (fun q3 => ?_)
        have hc9 : (w9.drewN q3).cell? ⟨ob, 2, none⟩ = some (.slice va k vc) := by simpa using HF9.out.1
        have hf9 : (w9.drewN q3).frozen? ⟨ob, 2, none⟩ = false := by simpa using HF9.out.2
        have HN := Lib.hid (HN9.out.move (below_drewN (Below.refl _ _) q3))
        clear HN9 HS9 HF9 HB HZ HS KS
        go_wp2
        go_roundw
        case rel => exact ⟨k + 1, by go_num, hlt, _, _, _, HN, HM9⟩
        case measure => simp [intOf]; omega
      · have hkn : k = n := by omega
        subst hkn
        obtain ⟨ol, t0, t1, t2, tf⟩ := HB.out.out.three
        obtain ⟨rl, u0, u1, u2, uf⟩ := HB.out.res.three
        have HFIN := Lib.hid HB.out.fin
        clear hbb hP r1
        go_wp2
        try simp only [Exit.inBlock, Exit.then]
        refine bodyPost_ret (v := .agg #[.int .i64 r, .int .i64 c, .slice va k vc]) (by simp [results, Try.results223, go_sem, u0, u1, u2]) rfl ⟨va, vc, zs, rfl, Lib.hid HFIN.out.1, HZ, HFIN.out.2⟩
end Go.Proofs.Ytmkfcaahdmdpaaa
/- Some rows: the reference. No condition. -/
namespace Go.Proofs.Ytmkfcaahdmdpaaa
open Go Go.RowKit
set_option linter.unusedVariables false
set_option linter.unusedSimpArgs false
set_option maxHeartbeats 8000000 in
set_option maxRecDepth 100000 in
theorem spec_l02Slice (w : World) (g1 o1 : Nat) (r : Int) (c : Nat) (a1 : Option Addr) (c1 n : Nat) (xs : List Nat) (p1 : w.cell? ⟨g1, o1 + 1, none⟩ = some (.int .i64 c)) (p2 : w.cell? ⟨g1, o1 + 2, none⟩ = some (.slice a1 n c1))
    (hx : F32s w a1 c1 xs) (hxl : xs.length = n) (hn : n ≤ 256) (f k : Nat) (hk : 1 ≤ k) (hc : 1 ≤ c) (hf : f ≤ 256) (hc2 : c ≤ 256) (hfk : (f + k) * c ≤ n) :
    Calls Try.prog 212 #[.pointer (some ⟨g1, o1, none⟩), .int .i64 f, .int .i64 k] w (TenPost k c (k * c) (((xs.drop (f * c)).take (k * c)).map (cn .f32)) w) := by
  have hg1 := World.block_lt_of_cell? w _ p1
  simp only at hg1
  have hadd : (f + k) * c = f * c + k * c := Nat.add_mul _ _ _
  have hkk : 1 ≤ k * c := Nat.mul_le_mul hk hc
  have hfc : f ≤ f * c := by have := Nat.mul_le_mul_left f hc; omega
  have hkc : k ≤ k * c := by have := Nat.mul_le_mul_left k hc; omega
  obtain ⟨p, hp⟩ : ∃ p, p = f * c := ⟨_, rfl⟩
  obtain ⟨m, hm⟩ : ∃ m, m = k * c := ⟨_, rfl⟩
  obtain ⟨q, hq⟩ : ∃ q, q = p + m := ⟨_, rfl⟩
  have hqe : (f + k) * c = q := by rw [hadd, hq, hp, hm]
  have e1 : (f : Int) * (c : Int) = (p : Int) := by rw [hp]; rfl
  have e2 : ((f + k : Nat) : Int) * (c : Int) = (q : Int) := by rw [← hqe]; rfl
  obtain ⟨u, hu⟩ : ∃ u, u = f + k := ⟨_, rfl⟩
  have e3 : (f : Int) + (k : Int) = (u : Int) := by rw [hu]; rfl
  rw [← hu] at e2 hqe hfk
  rw [hqe] at hfk
  rw [← hp] at hfc ⊢
  rw [← hm] at hkc hkk ⊢
  have t1 : IntKind.i64.wrap (p : Int) = p := wrap_nat (by omega)
  have t2 : IntKind.i64.wrap (q : Int) = q := wrap_nat (by omega)
  have t3 : IntKind.i64.wrap (u : Int) = u := wrap_nat (by omega)
  obtain ⟨b, off, rfl, hbl, _⟩ := hx.spot (k := 0) (by omega)
  have hcap := hx.len
  rw [hxl] at hcap
  have h1 := hx.cut3 q (by rw [hxl]; exact hfk)
  have h2 := (h1.1.cut3 p (by rw [List.length_take, hxl]; omega)).2
  have hyl : ((xs.take q).drop p).length = m := by rw [List.length_drop, List.length_take, hxl]; omega
  have hye : (xs.take q).drop p = (xs.drop p).take m := by rw [List.drop_take]; congr 1; omega
  rw [hye] at h2 hyl
  obtain ⟨ys, hys⟩ : ∃ ys, ys = (xs.drop p).take m := ⟨_, rfl⟩
  rw [← hys] at h2 hyl ⊢
  have K := Lib.hid (fun W (hb : Below w.heap.size w W) => spec_l02OwnF W _ _ ys (h2.below hb) (fun h => nomatch h) (by omega))
  rw [hyl] at K
  have KS : Hid (∀ W, Below w.heap.size w W → W.cell? ⟨g1, o1 + 1, none⟩ = some (.int .i64 c) ∧ W.cell? ⟨g1, o1 + 2, none⟩ = some (.slice (some ⟨b, off, none⟩) n c1)) := Lib.hid (fun W hb => ⟨(hb.cell (p := ⟨g1, o1 + 1, none⟩) hg1).trans p1, (hb.cell (p := ⟨g1, o1 + 2, none⟩) hg1).trans p2⟩)
  have hpq : p ≤ q := by omega
  have hqc : q ≤ c1 := by omega
  have t9 : q - p = m := by omega
  have t8 : ¬ (c1 = p) := by omega
  have HQ := Lib.hid hq
  clear hx h1 h2 hye hys hyl hxl p1 p2 hp hm hadd hqe hu hq
  go_enter Try.func212, Try.ntmps212
  go_upto_region 1 with fail
  have hb1 := below1 w (.cells #[.int .i64 0, .int .i64 0, .slice none 0 0] 27)
  have RB0 := Lib.hid (BoxN.alloc w #[.int .i64 0, .int .i64 0, .slice none 0 0] 27)
  obtain ⟨W1, hW1⟩ : ∃ W, W = w.alloc (.cells #[.int .i64 0, .int .i64 0, .slice none 0 0] 27) := ⟨_, rfl⟩
  have hz1 : W1.heap.size = w.heap.size + 1 := by rw [hW1]; simp
  rw [← hW1] at hb1 RB0 ⊢
  have HS := Lib.hid (KS.out W1 hb1)
  have HB1 := Lib.hid hb1
  clear hb1 hW1
  refine wp_region_mix 26 [24] (fun W => W.cell? ⟨g1, o1 + 1, none⟩ = some (.int .i64 c) ∧ W.cell? ⟨g1, o1 + 2, none⟩ = some (.slice (some ⟨b, off, none⟩) n c1)) (fun _ _ _ => False) (OwnF m ys) (by kernel_rfl) (by kernel_rfl) HS.out (fun W q h => by simpa using h) ?_
  iterate 24 (refine mwalk_plain (by rfl) HS.out (fun K hK W hW => ?_); obtain ⟨d1, d2⟩ := hW; go_simp; refine hK _ ?_; clear hK K d1 d2)
  refine mwalk_spec (by rfl) HS.out (fun K' hK dq => ?_)
  go_simp
  refine ⟨(K.out _ (below_drewN HB1.out dq)).mono ?_, ?_⟩
  · rintro e w1 ⟨a2, c2, rfl, HX, hb⟩
    exact ⟨_, rfl, _, _, rfl, HX.out, hb⟩
  rintro v w2 ⟨a2, c2, rfl, hx2, hb2⟩
  have hb3 := bthen (below_drewN HB1.out dq) hb2
  have HS2 := Lib.hid (KS.out w2 hb3)
  have HX2 := Lib.hid hx2; have HB3 := Lib.hid hb3
  have RB2 := Lib.hid ((RB0.out.below (below_drewN (Below.refl _ _) dq)).below hb2)
  refine ⟨KS.out w2 hb3, hK _ _ ?_⟩
  clear hK K' hb2 hx2 hb3
  refine mwalk_plain (by rfl) HS2.out (fun K hK W hW => ?_)
  go_simp
  refine hK _ ?_
  clear hK K hW
  refine mwalk_nil (fun q3 => ?_)
  have HX3 := Lib.hid (HX2.out.below (below_drewN (Below.refl _ _) q3))
  have HB4 := Lib.hid (below_drewN HB3.out q3)
  have RB3 := Lib.hid (RB2.out.below (below_drewN (Below.refl _ _) q3))
  have hz3 : w2.heap.size ≤ (w2.drewN q3).heap.size := by simp
  have hzq : (W1.drewN dq).heap.size = w.heap.size + 1 := hz1
  generalize w2.drewN q3 = w3 at HX3 HB4 RB3 hz3 ⊢
  obtain ⟨rl, u0, u1, u2, uf⟩ := RB3.out.three
  have hfin := setCs_repF (g := w.heap.size) (lo' := w.heap.size) (i := 0) HX3.out (by rw [hzq]; omega) (by rw [hzq]; omega) hz3 [.int .i64 k, .int .i64 c, .slice a2 m c2]
  have hbf := setCs_below HB4.out (g := w.heap.size) (Nat.le_refl _) 0 [.int .i64 k, .int .i64 c, .slice a2 m c2]
  have HF := Lib.hid hfin; have HBF := Lib.hid hbf
  clear hfin hbf HX2 HB3 RB2 HS HS2 KS K
  go_wp2
  try simp only [Exit.inBlock, Exit.then]
  refine bodyPost_ret (v := .agg #[.int .i64 k, .int .i64 c, .slice a2 m c2]) (by simp [results, Try.results212, go_sem, u0, u1, u2]) rfl ⟨_, _, _, rfl, HF, Lib.hid rfl, HBF.out⟩
end Go.Proofs.Ytmkfcaahdmdpaaa
/- All values of a tape: the reference. No condition. -/
namespace Go.Proofs.Ytmkfcaahdmdpaaa
open Go Go.RowKit
set_option linter.unusedVariables false
set_option linter.unusedSimpArgs false
theorem BoxN.setAll {w : World} {g : Nat} {a b c x y z : Value} (h : BoxN w g [a, b, c]) : BoxN (setCs w g 0 [x, y, z]) g [x, y, z] := ((h.set 0 x).set 1 y).set 2 z
/-- a tensor that was laid into a box -/
def LaidT (T : TenP) (tl g : Nat) (w0 wr wx : World) : Prop := ∃ ad cap zs, BoxN wx g [.int .i64 T.r, .int .i64 T.c, .slice ad tl cap] ∧ RepF wx w0.heap.size wx.heap.size ad tl cap zs ∧ zs.map (cn .f32) = T.xs ∧ Below wr.heap.size wr wx
theorem LaidT.of {T : TenP} {tl g : Nat} {w0 wr w' : World} {a b c : Value} {va : Option Addr} {vc : Nat} {zs : List Nat} (hr : RepF w' w0.heap.size w'.heap.size va tl vc zs) (hm : zs.map (cn .f32) = T.xs) (hx : BoxN w' g [a, b, c]) (hb : Below wr.heap.size wr w') (hg : wr.heap.size ≤ g) (hg2 : g < w0.heap.size) :
    LaidT T tl g w0 wr (setCs w' g 0 [.int .i64 T.r, .int .i64 T.c, .slice va tl vc]) :=
  ⟨va, vc, zs, hx.setAll, setCs_repF hr hg2 (Nat.le_refl _) (Nat.le_refl _) 0 _, hm, setCs_below hb hg 0 _⟩
set_option maxHeartbeats 64000000 in
set_option maxRecDepth 100000 in
theorem spec_l04Run (w : World) (ad : Option Addr) (cap : Nat) (os : List OpD) (h : SeeR opR w ad cap os) (hno : nilOK os) (S : List Sh) (hS : shapesP (os.map OpD.toOpP) = some S) (hi2 : ∀ o ∈ os, o.xs.length ≤ 1048576) :
    Calls Try.prog 175 #[.slice ad os.length cap] w fun e w' => ∃ ad' cap' us, e = .returned (.slice ad' os.length cap') ∧ Hid (OwnR tenR w' w.heap.size w'.heap.size ad' os.length cap' us ∧ us.map (fun t => t.toTenP.can) = valsP (os.map OpD.toOpP)) ∧ Below w.heap.size w w' := by
  obtain ⟨i0, hi0, hz0, hzs, hz2⟩ := info_parts info_ten
  have hp := shapesP_some hS
  rw [List.length_map] at hp
  obtain ⟨n, hN⟩ : ∃ n, n = os.length := ⟨_, rfl⟩
  rw [← hN] at hp ⊢
  have hn1 := hp.1.1; have hn2 := hp.1.2
  have HN := Lib.hid hN; have HI2 := Lib.hid hi2; have H := Lib.hid h; have HNO := Lib.hid hno; have HS := Lib.hid hS
  clear hN hi2 h hno hS hp
  go_enter Try.func175, Try.ntmps175
  go_wp2
  go_loopw [3, 4] (fun v i wt => ∃ k : Nat, i = .int .i64 k ∧ k ≤ n ∧ ∃ (ad' : Option Addr) (cap' : Nat) (us : List Ten), v = .slice ad' k cap' ∧ Hid (OwnR tenR wt w.heap.size wt.heap.size ad' k cap' us) ∧ Hid (us.map (fun t => t.toTenP.can) = valsN (os.map OpD.toOpP) k) ∧ Hid (Below w.heap.size w wt)) (fun _ i _ => n - (intOf i).toNat)
  case atStart => exact ⟨0, rfl, Nat.zero_le _, _, _, [], rfl, Lib.hid (OwnR.nil1 tenR w), Lib.hid rfl, Lib.hid (below1 _ _)⟩
  case round =>
    obtain ⟨k, rfl, hk, ad', cap', us, rfl, HR, HE, HB⟩ := hrel
    by_cases hlt : k < n
    · obtain ⟨o, ho⟩ := getElem?_lt (show k < os.length by rw [← HN.out]; exact hlt)
      have hop : (os.map OpD.toOpP)[k]? = some o.toOpP := by rw [List.getElem?_map, ho]; rfl
      obtain ⟨vl, vok, vf, vs⟩ := valid_round HS.out hop
      obtain ⟨b, off, rfl, hbl, ⟨p0, p1, p2, p3, p4, p5, p6⟩, hf, hok⟩ := op_spot (H.out.below HB.out) ho
      have hm := List.mem_of_getElem? ho
      have hul : us.length = k := HR.out.len
      have HST : Hid (valsN (os.map OpD.toOpP) (k + 1) = valsN (os.map OpD.toOpP) k ++ [stepV (valsN (os.map OpD.toOpP) k) o.toOpP]) := Lib.hid (valsN_succ hop)
      have hTok : okT (stepV (valsN (os.map OpD.toOpP) k) o.toOpP) := by
        by_cases h0 : o.k = 0
        · have e : stepV (valsN (os.map OpD.toOpP) k) o.toOpP = ⟨o.r, o.c, o.xs.map (cn .f32)⟩ := by unfold stepV; rw [if_pos h0]
          rw [e]
          have ht := tenB_iff.1 (fitsB_input vf h0).2.2
          refine ⟨ht.1.1, ht.1.2, ht.2.1.1, ht.2.1.2, ?_⟩
          show (o.xs.map (cn .f32)).length = o.r.toNat * o.c.toNat
          rw [List.length_map]
          have h4 := ht.2.2
          have h5 : ((o.r.toNat * o.c.toNat : Nat) : Int) = o.r * o.c := by
            have := ht.1.1; have := ht.2.1.1
            rw [Int.natCast_mul, Int.toNat_of_nonneg (by omega), Int.toNat_of_nonneg (by omega)]
          have h6 : (o.xs.length : Int) = o.r * o.c := h4
          omega
        · obtain ⟨s, hs⟩ := vs h0
          have hk10 := fitsB_in vf
          have ha := fitsB_args vf h0
          have mem : ∀ i : Int, 0 ≤ i → i ≤ k - 1 → okT (vGet (valsN (os.map OpD.toOpP) k) i) := fun i h0 h1 => by
            have hi : i.toNat < (valsN (os.map OpD.toOpP) k).length := by omega
            have e1 : vGet (valsN (os.map OpD.toOpP) k) i = (valsN (os.map OpD.toOpP) k)[i.toNat] := by unfold vGet; rw [List.getD_eq_getElem?_getD, List.getElem?_eq_getElem hi]; rfl
            rw [e1]; exact vok _ (List.getElem_mem hi)
          have e : stepV (valsN (os.map OpD.toOpP) k) o.toOpP = valV o.k (vGet (valsN (os.map OpD.toOpP) k) o.a) (vGet (valsN (os.map OpD.toOpP) k) o.b) (cn .f32 o.num) := by unfold stepV; rw [if_neg h0]
          rw [e]
          exact (valV_ok (k := o.k) (by omega) (mem o.a ha.1.1 ha.1.2) (mem o.b ha.2.1.1 ha.2.1.2) hs).2
      obtain ⟨T, hT⟩ : ∃ T, T = stepV (valsN (os.map OpD.toOpP) k) o.toOpP := ⟨_, rfl⟩
      rw [← hT] at HST hTok
      have HTP : Hid (T.xs.length ≤ 256 ∧ 1 ≤ T.xs.length) := Lib.hid ⟨hTok.le, hTok.pos⟩
      obtain ⟨tl, htl⟩ : ∃ tl, tl = T.xs.length := ⟨_, rfl⟩
      rw [← htl] at HTP
      have HTL := Lib.hid htl
      have HRW := Lib.hid (fun W hb => ts_row HR.out (W := W) hb)
      -- the end of a round, wherever the tensor lies in its box
      have KF : Hid (∀ (w0 wx W9 : World) (ad2 : Option Addr) (cap2 : Nat) (zs : List Nat) (v' : Value), wr.heap.size ≤ w0.heap.size → RepF wx w0.heap.size wx.heap.size ad2 tl cap2 zs → zs.map (cn .f32) = T.xs → Below wr.heap.size wr wx → W9.ownsRow w.heap.size 27 3 v' (k + 1) (us.flatMap tenR.cells ++ [.int .i64 T.r, .int .i64 T.c, .slice ad2 tl cap2]) → (∃ o, (wx.alloc o).grownBy W9 (Value.slice ad' k cap').ownBlock) → (v'.ownBlock = (Value.slice ad' k cap').ownBlock ∨ v'.ownBlock = some (wx.heap.size + 1)) → ∃ ad9 cap9 us9, v' = .slice ad9 (k + 1) cap9 ∧ OwnR tenR W9 w.heap.size W9.heap.size ad9 (k + 1) cap9 us9 ∧ us9.map (fun t => t.toTenP.can) = valsN (os.map OpD.toOpP) (k + 1)) := Lib.hid (by
        intro w0 wx W9 ad2 cap2 zs v' h0 hr hzz hb ho hg hat
        obtain ⟨oo, hg⟩ := hg
        have hzl := hr.len
        obtain ⟨ad9, cap9, rfl, hown9⟩ := ts_snoc (s := ⟨⟨T.r, T.c, zs⟩, ad2, cap2⟩) HR.out HB.out.size hb (hi1 := wx.heap.size) (by show RepF wx wr.heap.size wx.heap.size ad2 zs.length cap2 zs; rw [hzl]; exact hr.bounds h0 (Nat.le_refl _)) (Nat.le_refl _) hb.size (by show W9.ownsRow _ _ _ _ _ (_ ++ [Value.int .i64 T.r, .int .i64 T.c, .slice ad2 zs.length cap2]); rw [hzl]; exact ho) hg hat
        refine ⟨ad9, cap9, _, rfl, hown9, ?_⟩
        rw [List.map_append, HE.out, HST.out]
        congr 1
        show [TenP.can ⟨T.r, T.c, zs⟩] = [T]
        unfold TenP.can
        rw [hzz])
      have OB := Lib.hid (show BoxN (wr.alloc (.cells o.cells.toArray 111)) wr.heap.size o.cells from BoxN.alloc wr o.cells.toArray 111)
      by_cases h0 : o.k = 0
      · as_aux_lemma =>
          have e : T = ⟨o.r, o.c, o.xs.map (cn .f32)⟩ := by rw [hT]; unfold stepV; rw [if_pos h0]
          have ht := tenB_iff.1 (fitsB_input vf h0).2.2
          have htlx : tl = o.xs.length := by rw [htl, e]; show (o.xs.map (cn .f32)).length = _; rw [List.length_map]
          obtain ⟨⟨kk, a, b', q, r, c, xs⟩, adx, capx⟩ := o
          replace h0 : kk = 0 := h0
          subst h0
          replace htlx : tl = xs.length := htlx
          unfold OpD.cells at OB
          simp only at p0 p1 p2 p3 p4 p5 p6 OB hf e
          replace ht : (1 ≤ r ∧ r ≤ 16) ∧ (1 ≤ c ∧ c ≤ 16) ∧ (xs.length : Int) = r * c := ht
          obtain ⟨R, rfl⟩ : ∃ R : Nat, r = R := ⟨r.toNat, by omega⟩
          obtain ⟨C, rfl⟩ : ∃ C : Nat, c = C := ⟨c.toNat, by omega⟩
          have hrc : xs.length = R * C := by have := ht.2.2; rw [← Int.natCast_mul] at this; omega
          have hTr : T.r = R := by rw [e]
          have hTc : T.c = C := by rw [e]
          have hTx : T.xs = xs.map (cn .f32) := by rw [e]
          rw [← htlx] at p6 OB
          have XB := Lib.hid (OB.out.below (below1 _ (.cells #[.int .i64 0, .int .i64 0, .slice none 0 0] 27)))
          have TB := Lib.hid (BoxN.alloc2 wr (.cells #[.int .i64 0, .int .i64 a, .int .i64 b', .float .f32 q, .int .i64 R, .int .i64 C, .slice adx tl capx] 111) #[.int .i64 0, .int .i64 0, .slice none 0 0] 27)
          have b2 := below2 wr (.cells #[.int .i64 0, .int .i64 a, .int .i64 b', .float .f32 q, .int .i64 R, .int .i64 C, .slice adx tl capx] 111) (.cells #[.int .i64 0, .int .i64 0, .slice none 0 0] 27)
          have htp := HTP.out
          have hRC : R ≤ 256 ∧ C ≤ 256 ∧ 1 ≤ R ∧ 1 ≤ C := by omega
          have K := Lib.hid (spec_l02Slice ((wr.alloc (.cells #[.int .i64 0, .int .i64 a, .int .i64 b', .float .f32 q, .int .i64 R, .int .i64 C, .slice adx tl capx] 111)).alloc (.cells #[.int .i64 0, .int .i64 0, .slice none 0 0] 27)) wr.heap.size 4 R C adx capx tl xs XB.out.seven.2.2.2.2.2.2.1 XB.out.seven.2.2.2.2.2.2.2.1 (hf.below b2) htlx.symm htp.1 0 R hRC.2.2.1 hRC.2.2.2 (by decide) hRC.2.1 (by rw [Nat.zero_add, ← hrc, htlx]; exact Nat.le_refl _))
          rw [Nat.zero_mul, List.drop_zero, ← hrc, ← htlx, htlx, List.take_length, ← htlx] at K
          have hz00 : ((0 : Nat) : Int) = 0 := rfl
          rw [hz00] at K
          clear hz00
          have B2 := Lib.hid b2
          have HTX := Lib.hid hTx; have HTR := Lib.hid (And.intro hTr hTc)
          have htp1 := htp.1
          clear b2 hf hok hm hul vl vok vf vs e ht htlx hrc hTr hTc hTx htp hRC OB hT htl hTok hop ho
          obtain ⟨-, x0, x1, x2, x3, x4, x5, x6, xf⟩ := XB.out.seven
          go_wp2_with fail
          refine K.out.mono ?_
          rintro e w2 ⟨va, vc, zs, rfl, RO, RM, hb2⟩
          obtain ⟨tbl, y0, y1, y2, yf⟩ := (TB.out.below hb2).three
          have HB2 := Lib.hid (bthen B2.out hb2)
          have TB2 := Lib.hid (TB.out.below hb2)
          have hz2' := hb2.size
          simp at hz2'
          have hla := LaidT.of (T := T) (tl := tl) (g := wr.heap.size + 1) (w0 := (wr.alloc (.cells #[.int .i64 0, .int .i64 a, .int .i64 b', .float .f32 q, .int .i64 R, .int .i64 C, .slice adx tl capx] 111)).alloc (.cells #[.int .i64 0, .int .i64 0, .slice none 0 0] 27)) (wr := wr) RO.out (by rw [RM.out, HTX.out]) TB2.out HB2.out (by omega) (by simp)
          rw [HTR.out.1, HTR.out.2] at hla
          obtain ⟨ad2, cap2, zs2, hbx, hr2, hz2m, hbb⟩ := hla
          have hfrom := hbx.three.2.2.2.1
          have HLA := Lib.hid (And.intro (show RepF (setCs w2 (wr.heap.size + 1) 0 [.int .i64 R, .int .i64 C, .slice va tl vc]) _ _ _ _ _ zs from setCs_repF RO.out (by simp) (Nat.le_refl _) (Nat.le_refl _) 0 _) (And.intro (show zs.map (cn .f32) = T.xs by rw [RM.out, HTX.out]) hbb))
          clear hb2 hbx hr2 hz2m hbb hfrom x0 x1 x2 x3 x4 x5 x6 xf K TB XB B2 p0 p1 p2 p3 p4 p5 p6
          go_wp2_with (at_builtin; refine wp_appA rfl _ _ 41 rfl w.heap.size i0 (.agg #[.int .i64 0, .int .i64 0, .slice none 0 0]) 3 40 Try.underlying41 hi0 hz0 hzs hz2 rfl (by decide) rfl (by intro u hu; simp at hu; rcases hu with rfl | rfl | rfl <;> rfl) _ _ _ rfl (HRW.out _ HLA.out.2.2) (by go_simp) ?c3 ?c4 ?c5 ?_)
          case c3 => unfold maxLen; omega
          case c4 => omega
          case c5 => exact Nat.le_trans HB.out.size HLA.out.2.2.size
          intro v' w9 ho9 hg9 hat9 hb9 hs9
          obtain ⟨ad9, cap9, us9, rfl, hown9, hm9⟩ := KF.out _ _ w9 va vc zs v' (by simp; omega) HLA.out.1 HLA.out.2.1 HLA.out.2.2 (by rw [HTR.out.1, HTR.out.2]; exact ho9) ⟨_, hg9⟩ (by rw [setCs_size]; simpa [World.setCell] using hat9)
          have HO9 := Lib.hid hown9; have HB9 := Lib.hid ((HB.out.trans (HLA.out.2.2.mono HB.out.size)).trans hb9); have HE9 := Lib.hid hm9
          clear ho9 hg9 hat9 hb9 hown9 hm9 HR HE HB HB2 HRW HLA KF TB2 RO RM
          go_wp2
          refine ⟨?rel, ?measure⟩
          case rel => exact ⟨k + 1, by go_num, hlt, _, _, _, rfl, HO9, HE9, HB9⟩
          case measure => simp [intOf]; omega
      have hst : T = valV o.k (vGet (valsN (os.map OpD.toOpP) k) o.a) (vGet (valsN (os.map OpD.toOpP) k) o.b) (cn .f32 o.num) := by rw [hT]; unfold stepV; rw [if_neg h0]
      obtain ⟨s, hs⟩ := vs h0
      have hk10 := fitsB_in vf
      have ha := fitsB_args vf h0
      obtain ⟨A, hA⟩ : ∃ A : Nat, o.a = A := ⟨o.a.toNat, by have := ha.1.1; omega⟩
      obtain ⟨B, hB⟩ : ∃ B : Nat, o.b = B := ⟨o.b.toNat, by have := ha.2.1.1; omega⟩
      have hAi : A < k := by have := ha.1.2; rw [show o.toOpP.a = o.a from rfl, hA] at this; omega
      have hBi : B < k := by have := ha.2.1.2; rw [show o.toOpP.b = o.b from rfl, hB] at this; omega
      obtain ⟨tv, htv⟩ := getElem?_lt (show A < us.length by omega)
      obtain ⟨tw, htw⟩ := getElem?_lt (show B < us.length by omega)
      rw [hA, hB, vGet_map HE.out htv, vGet_map HE.out htw] at hs hst
      have okv : okT tv.toTenP.can := vok _ (by rw [← HE.out]; exact List.mem_map_of_mem (List.mem_of_getElem? htv))
      have okw : okT tw.toTenP.can := vok _ (by rw [← HE.out]; exact List.mem_map_of_mem (List.mem_of_getElem? htw))
      obtain ⟨gb, goff, hge, hgl, ⟨s0, s1, s2⟩, hxv⟩ := ten_spot HR.out.see htv
      obtain ⟨gb2, goff2, hge2, _, ⟨t0, t1, t2⟩, hxw⟩ := ten_spot HR.out.see htw
      subst hge
      cases hge2
      obtain ⟨⟨kk, a, b', q, r, c, xs⟩, adx, capx⟩ := o
      replace hA : a = A := hA
      replace hB : b' = B := hB
      subst hA hB
      obtain ⟨⟨rv0, cv0, xv⟩, av, kv⟩ := tv
      obtain ⟨⟨rw0, cw0, xw⟩, aw, kw⟩ := tw
      obtain ⟨rv, cv, e1, e2, hrv, hcv, hlv⟩ := okv.nat
      obtain ⟨rw', cw, e3, e4, hrw, hcw, hlw⟩ := okw.nat
      replace e1 : rv0 = rv := e1
      replace e2 : cv0 = cv := e2
      replace e3 : rw0 = rw' := e3
      replace e4 : cw0 = cw := e4
      subst e1 e2 e3 e4
      replace hlv : (xv.map (cn .f32)).length = rv * cv := hlv
      replace hlw : (xw.map (cn .f32)).length = rw' * cw := hlw
      replace hk10 : 0 ≤ kk ∧ kk ≤ 10 := hk10
      replace h0 : ¬ kk = 0 := h0
      replace hs : shapeOf kk (((rv : Nat) : Int), ((cv : Nat) : Int)) (((rw' : Nat) : Int), ((cw : Nat) : Int)) = some s := hs
      replace hst : T = valV kk ⟨rv, cv, xv.map (cn .f32)⟩ ⟨rw', cw, xw.map (cn .f32)⟩ (cn .f32 q) := hst
      unfold OpD.cells at OB
      simp only at p0 p1 p2 p3 p4 p5 p6 OB s0 s1 s2 t0 t1 t2 hxv hxw
      rw [List.length_map] at hlv hlw
      obtain ⟨n1, hn1'⟩ : ∃ n, n = xv.length := ⟨_, rfl⟩
      obtain ⟨n2, hn2'⟩ : ∃ n, n = xw.length := ⟨_, rfl⟩
      rw [← hn1'] at hlv s2
      rw [← hn2'] at hlw t2
      obtain ⟨nx, hnx⟩ : ∃ n, n = xs.length := ⟨_, rfl⟩
      rw [← hnx] at p6 OB
      have hn256 : n1 ≤ 256 := by rw [hlv]; exact Nat.mul_le_mul hrv.2 hcv.2
      have HXV := Lib.hid hxv; have HXW := Lib.hid hxw; have HN1 := Lib.hid hn1'; have HN2 := Lib.hid hn2'; have HLV := Lib.hid hlv; have HLW := Lib.hid hlw; have HSH := Lib.hid hs; have HTV := Lib.hid hst
      have HRV := Lib.hid hrv; have HCV := Lib.hid hcv; have HRW2 := Lib.hid hrw; have HCW := Lib.hid hcw
      have hk0' : (kk == 0) = false := by simpa using h0
      clear hxv hxw hn1' hn2' hlv hlw hnx hst htv htw okv okw vok vl vf vs hs ha hrv hcv hrw hcw hf hok hm hul hT htl hTok hop ho
      have XB := Lib.hid (((OB.out.below (below1 _ (.cells #[.int .i64 0, .int .i64 0, .slice none 0 0] 27))).below (below1 _ (.cells #[.int .i64 rv, .int .i64 cv, .slice av n1 kv] 27))).below (below1 _ (.cells #[.int .i64 rw', .int .i64 cw, .slice aw n2 kw] 27)))
      have TB := Lib.hid (((BoxN.alloc2 wr (.cells #[.int .i64 kk, .int .i64 A, .int .i64 B, .float .f32 q, .int .i64 r, .int .i64 c, .slice adx nx capx] 111) #[.int .i64 0, .int .i64 0, .slice none 0 0] 27).below (below1 _ (.cells #[.int .i64 rv, .int .i64 cv, .slice av n1 kv] 27))).below (below1 _ (.cells #[.int .i64 rw', .int .i64 cw, .slice aw n2 kw] 27)))
      have VB := Lib.hid ((BoxN.alloc3 wr (.cells #[.int .i64 kk, .int .i64 A, .int .i64 B, .float .f32 q, .int .i64 r, .int .i64 c, .slice adx nx capx] 111) (.cells #[.int .i64 0, .int .i64 0, .slice none 0 0] 27) #[.int .i64 rv, .int .i64 cv, .slice av n1 kv] 27).below (below1 _ (.cells #[.int .i64 rw', .int .i64 cw, .slice aw n2 kw] 27)))
      have b4 : Below wr.heap.size wr ((((wr.alloc (.cells #[.int .i64 kk, .int .i64 A, .int .i64 B, .float .f32 q, .int .i64 r, .int .i64 c, .slice adx nx capx] 111)).alloc (.cells #[.int .i64 0, .int .i64 0, .slice none 0 0] 27)).alloc (.cells #[.int .i64 rv, .int .i64 cv, .slice av n1 kv] 27)).alloc (.cells #[.int .i64 rw', .int .i64 cw, .slice aw n2 kw] 27)) := (below3 wr _ _ _).alloc (by simp; omega) _
      go_upto_region 11 with fail
      obtain ⟨wp, hwp⟩ : ∃ W, W = (((wr.alloc (.cells #[.int .i64 kk, .int .i64 A, .int .i64 B, .float .f32 q, .int .i64 r, .int .i64 c, .slice adx nx capx] 111)).alloc (.cells #[.int .i64 0, .int .i64 0, .slice none 0 0] 27)).alloc (.cells #[.int .i64 rv, .int .i64 cv, .slice av n1 kv] 27)) := ⟨_, rfl⟩
      have bp : Below wr.heap.size wr wp := by rw [hwp]; exact below3 wr _ _ _
      have zp : wp.heap.size = wr.heap.size + 1 + 1 + 1 := by rw [hwp]; simp
      have t0' : wp.cell? ⟨gb, goff + B * 3, none⟩ = some (.int .i64 rw') := (bp.cell (p := ⟨gb, goff + B * 3, none⟩) hgl).trans t0
      have t1' : wp.cell? ⟨gb, goff + B * 3 + 1, none⟩ = some (.int .i64 cw) := (bp.cell (p := ⟨gb, goff + B * 3 + 1, none⟩) hgl).trans t1
      have t2' : wp.cell? ⟨gb, goff + B * 3 + 2, none⟩ = some (.slice aw n2 kw) := (bp.cell (p := ⟨gb, goff + B * 3 + 2, none⟩) hgl).trans t2
      have ob' : wp.cell? ⟨wr.heap.size, 2, none⟩ = some (.int .i64 B) := by
        have h := (OB.out.below (below2 _ (.cells #[.int .i64 0, .int .i64 0, .slice none 0 0] 27) (.cells #[.int .i64 rv, .int .i64 cv, .slice av n1 kv] 27))).seven.2.2.2.1
        rw [hwp]; exact h
      have ob0 : wp.cell? ⟨wr.heap.size, 0, none⟩ = some (.int .i64 kk) := by
        have h := (OB.out.below (below2 _ (.cells #[.int .i64 0, .int .i64 0, .slice none 0 0] 27) (.cells #[.int .i64 rv, .int .i64 cv, .slice av n1 kv] 27))).seven.2.1
        rw [hwp]; exact h
      have hgp : gb < wp.heap.size := by omega
      have hwp1 : wr.heap.size < wp.heap.size := by omega
      rw [← hwp]
      rw [← hwp] at XB TB VB b4
      have ZP := Lib.hid zp
      clear hwp t0 t1 t2 s0 s1 s2 bp zp p0 p1 p2 p3 p4 p5 p6 hgl hbl
      go_upto_block 2 with fail
      obtain ⟨wq, hwq⟩ : ∃ W, W = wp.alloc (.cells #[.int .i64 rw', .int .i64 cw, .slice aw n2 kw] 27) := ⟨_, rfl⟩
      have hzq : wr.heap.size + 4 ≤ wq.heap.size := by rw [hwq]; have := ZP.out; simp; omega
      have WB : Hid (BoxN wq wp.heap.size [.int .i64 rw', .int .i64 cw, .slice aw n2 kw]) := Lib.hid (by rw [hwq]; exact BoxN.alloc wp #[.int .i64 rw', .int .i64 cw, .slice aw n2 kw] 27)
      rw [← hwq]
      rw [← hwq] at XB TB VB b4
      have B4 := Lib.hid b4
      clear hwq b4 OB t0' t1' t2' ob' ob0 hgp hwp1
      go_cut [6] (fun p6 wx => p6 = .pointer (some ⟨wr.heap.size + 1, 0, none⟩) ∧ Hid (LaidT T tl (wr.heap.size + 1) wq wr wx))
      case first =>
        clear HR HE HB HRW KF HST
        obtain ⟨-, x0, x1, x2, x3, x4, x5, x6, xf⟩ := XB.out.seven
        obtain ⟨-, y0, y1, y2, yf⟩ := VB.out.three
        obtain ⟨-, z0, z1, z2, zf⟩ := WB.out.three
        have FV := Lib.hid (HXV.out.below B4.out); have FW := Lib.hid (HXW.out.below B4.out)
        have PV := Lib.hid (And.intro y0 (And.intro y1 y2)); have PW := Lib.hid (And.intro z0 (And.intro z1 z2))
        have KL : Hid (∀ (w' : World) (va : Option Addr) (vc : Nat) (zs : List Nat), RepF w' wq.heap.size w'.heap.size va tl vc zs → zs.map (cn .f32) = T.xs → Below wq.heap.size wq w' → BoxN w' (wr.heap.size + 1) [.int .i64 0, .int .i64 0, .slice none 0 0] ∧ LaidT T tl (wr.heap.size + 1) wq wr (setCs w' (wr.heap.size + 1) 0 [.int .i64 T.r, .int .i64 T.c, .slice va tl vc])) := Lib.hid (fun w' va vc zs hr hm hb => ⟨TB.out.below hb, LaidT.of hr hm (TB.out.below hb) (bthen B4.out hb) (by omega) (by omega)⟩)
        clear TB XB VB WB xf yf zf HXV HXW x1 x2 x4 x5 x6 B4 z0 z1 y0 y1
        have h1k : 1 ≤ kk := by omega
        rcases (by omega : kk = 1 ∨ kk = 2 ∨ kk = 3 ∨ kk = 4 ∨ kk = 5 ∨ kk = 6 ∨ kk = 7 ∨ kk = 8 ∨ kk = 9 ∨ kk = 10) with rfl | rfl | rfl | rfl | rfl | rfl | rfl | rfl | rfl | rfl
        · as_aux_lemma =>
            have hsh : rv = rw' ∧ cv = cw := by have := HSH.out; simp [shapeOf] at this; omega
            obtain ⟨rfl, rfl⟩ := hsh
            have hnn : n1 = n2 := by rw [HLV.out, HLW.out]
            subst hnn
            have hT : T = ⟨rv, cv, tenE .add (xv.map (cn .f32)) (xw.map (cn .f32)) n1⟩ := by rw [HTV.out]; simp [valV, ← HN1.out]
            have HT1 : Hid (tl = n1 ∧ T.xs = tenE .add (xv.map (cn .f32)) (xw.map (cn .f32)) n1 ∧ T.r = rv ∧ T.c = cv) := Lib.hid ⟨by rw [HTL.out, hT]; exact listOf_length _ _, by rw [hT], by rw [hT], by rw [hT]⟩
            clear hT
            go_wp2_with fail
            refine (spec_l02Add _ (wr.heap.size + 1 + 1) 0 wp.heap.size 0 rv cv av aw kv kw n1 xv xw PV.out.1 PV.out.2.1 PV.out.2.2 PW.out.2.2 FV.out FW.out HN1.out.symm HN2.out.symm hn256).mono ?_
            rintro e w' ⟨va, vc, zs, rfl, RO, RM, hb⟩
            have hk := KL.out w' va vc zs (by rw [HT1.out.1]; exact RO.out) (by rw [RM.out, HT1.out.2.1]) hb
            rw [HT1.out.1, HT1.out.2.2.1, HT1.out.2.2.2] at hk
            obtain ⟨tbl, u0, u1, u2, uf⟩ := hk.1.three
            have HK := Lib.hid hk.2
            clear hk hb x0 x3 y2 z2
            go_wp2_with fail
            go_meet
            exact ⟨rfl, Lib.hid (by rw [HT1.out.1]; exact HK.out)⟩
        · as_aux_lemma =>
            have hsh : rw' = 1 ∧ cv = cw := by have := HSH.out; simp [shapeOf] at this; omega
            obtain ⟨rfl, rfl⟩ := hsh
            have hnn : cv = n2 := by rw [HLW.out, Nat.one_mul]
            subst hnn
            have hT : T = ⟨rv, cv, rowE .add (xv.map (cn .f32)) (xw.map (cn .f32)) cv n1⟩ := by rw [HTV.out]; simp [valV, ← HN1.out]
            have HT1 : Hid (tl = n1 ∧ T.xs = rowE .add (xv.map (cn .f32)) (xw.map (cn .f32)) cv n1 ∧ T.r = rv ∧ T.c = cv) := Lib.hid ⟨by rw [HTL.out, hT]; exact listOf_length _ _, by rw [hT], by rw [hT], by rw [hT]⟩
            clear hT
            go_wp2_with fail
            refine (spec_l02AddRow _ (wr.heap.size + 1 + 1) 0 rv cv av aw kv kw n1 xv xw PV.out.1 PV.out.2.1 PV.out.2.2 FV.out FW.out HN1.out.symm HN2.out.symm hn256 HCV.out.1 HCV.out.2).mono ?_
            rintro e w' ⟨va, vc, zs, rfl, RO, RM, hb⟩
            have hk := KL.out w' va vc zs (by rw [HT1.out.1]; exact RO.out) (by rw [RM.out, HT1.out.2.1]) hb
            rw [HT1.out.1, HT1.out.2.2.1, HT1.out.2.2.2] at hk
            obtain ⟨tbl, u0, u1, u2, uf⟩ := hk.1.three
            have HK := Lib.hid hk.2
            clear hk hb x0 x3 y2 z2
            go_wp2_with fail
            go_meet
            exact ⟨rfl, Lib.hid (by rw [HT1.out.1]; exact HK.out)⟩
        · as_aux_lemma =>
            have hsh : rv = rw' ∧ cv = cw := by have := HSH.out; simp [shapeOf] at this; omega
            obtain ⟨rfl, rfl⟩ := hsh
            have hnn : n1 = n2 := by rw [HLV.out, HLW.out]
            subst hnn
            have hT : T = ⟨rv, cv, tenE .mul (xv.map (cn .f32)) (xw.map (cn .f32)) n1⟩ := by rw [HTV.out]; simp [valV, ← HN1.out]
            have HT1 : Hid (tl = n1 ∧ T.xs = tenE .mul (xv.map (cn .f32)) (xw.map (cn .f32)) n1 ∧ T.r = rv ∧ T.c = cv) := Lib.hid ⟨by rw [HTL.out, hT]; exact listOf_length _ _, by rw [hT], by rw [hT], by rw [hT]⟩
            clear hT
            go_wp2_with fail
            refine (spec_l02Mul _ (wr.heap.size + 1 + 1) 0 wp.heap.size 0 rv cv av aw kv kw n1 xv xw PV.out.1 PV.out.2.1 PV.out.2.2 PW.out.2.2 FV.out FW.out HN1.out.symm HN2.out.symm hn256).mono ?_
            rintro e w' ⟨va, vc, zs, rfl, RO, RM, hb⟩
            have hk := KL.out w' va vc zs (by rw [HT1.out.1]; exact RO.out) (by rw [RM.out, HT1.out.2.1]) hb
            rw [HT1.out.1, HT1.out.2.2.1, HT1.out.2.2.2] at hk
            obtain ⟨tbl, u0, u1, u2, uf⟩ := hk.1.three
            have HK := Lib.hid hk.2
            clear hk hb x0 x3 y2 z2
            go_wp2_with fail
            go_meet
            exact ⟨rfl, Lib.hid (by rw [HT1.out.1]; exact HK.out)⟩
        · as_aux_lemma =>
            have hsh : rw' = 1 ∧ cv = cw := by have := HSH.out; simp [shapeOf] at this; omega
            obtain ⟨rfl, rfl⟩ := hsh
            have hnn : cv = n2 := by rw [HLW.out, Nat.one_mul]
            subst hnn
            have hT : T = ⟨rv, cv, rowE .mul (xv.map (cn .f32)) (xw.map (cn .f32)) cv n1⟩ := by rw [HTV.out]; simp [valV, ← HN1.out]
            have HT1 : Hid (tl = n1 ∧ T.xs = rowE .mul (xv.map (cn .f32)) (xw.map (cn .f32)) cv n1 ∧ T.r = rv ∧ T.c = cv) := Lib.hid ⟨by rw [HTL.out, hT]; exact listOf_length _ _, by rw [hT], by rw [hT], by rw [hT]⟩
            clear hT
            go_wp2_with fail
            refine (spec_l02MulRow _ (wr.heap.size + 1 + 1) 0 rv cv av aw kv kw n1 xv xw PV.out.1 PV.out.2.1 PV.out.2.2 FV.out FW.out HN1.out.symm HN2.out.symm hn256 HCV.out.1 HCV.out.2).mono ?_
            rintro e w' ⟨va, vc, zs, rfl, RO, RM, hb⟩
            have hk := KL.out w' va vc zs (by rw [HT1.out.1]; exact RO.out) (by rw [RM.out, HT1.out.2.1]) hb
            rw [HT1.out.1, HT1.out.2.2.1, HT1.out.2.2.2] at hk
            obtain ⟨tbl, u0, u1, u2, uf⟩ := hk.1.three
            have HK := Lib.hid hk.2
            clear hk hb x0 x3 y2 z2
            go_wp2_with fail
            go_meet
            exact ⟨rfl, Lib.hid (by rw [HT1.out.1]; exact HK.out)⟩
        · as_aux_lemma =>
            have hT : T = ⟨rv, cv, scaE (xv.map (cn .f32)) (cn .f32 q) n1⟩ := by rw [HTV.out]; simp [valV, ← HN1.out]
            have HT1 : Hid (tl = n1 ∧ T.xs = scaE (xv.map (cn .f32)) (cn .f32 q) n1 ∧ T.r = rv ∧ T.c = cv) := Lib.hid ⟨by rw [HTL.out, hT]; exact listOf_length _ _, by rw [hT], by rw [hT], by rw [hT]⟩
            clear hT
            go_wp2_with fail
            refine (spec_l02Scale _ (wr.heap.size + 1 + 1) 0 rv cv av kv n1 xv q PV.out.1 PV.out.2.1 PV.out.2.2 FV.out HN1.out.symm hn256).mono ?_
            rintro e w' ⟨va, vc, zs, rfl, RO, RM, hb⟩
            have hk := KL.out w' va vc zs (by rw [HT1.out.1]; exact RO.out) (by rw [RM.out, HT1.out.2.1]) hb
            rw [HT1.out.1, HT1.out.2.2.1, HT1.out.2.2.2] at hk
            obtain ⟨tbl, u0, u1, u2, uf⟩ := hk.1.three
            have HK := Lib.hid hk.2
            clear hk hb x0 x3 y2 z2
            go_wp2_with fail
            go_meet
            exact ⟨rfl, Lib.hid (by rw [HT1.out.1]; exact HK.out)⟩
        · as_aux_lemma =>
            have hsh : cv = rw' := by have := HSH.out; simp [shapeOf] at this; omega
            subst hsh
            have hT : T = ⟨rv, cw, matE (xv.map (cn .f32)) (xw.map (cn .f32)) cv cw (rv * cw)⟩ := by rw [HTV.out]; simp [valV, ← HN1.out]
            have HT1 : Hid (tl = (rv * cw) ∧ T.xs = matE (xv.map (cn .f32)) (xw.map (cn .f32)) cv cw (rv * cw) ∧ T.r = rv ∧ T.c = cw) := Lib.hid ⟨by rw [HTL.out, hT]; exact listOf_length _ _, by rw [hT], by rw [hT], by rw [hT]⟩
            clear hT
            go_wp2_with fail
            refine (spec_l02MatMul _ (wr.heap.size + 1 + 1) 0 wp.heap.size 0 rv cv cw av aw kv kw n1 n2 xv xw PV.out.1 PV.out.2.1 PV.out.2.2 PW.out.2.1 PW.out.2.2 FV.out FW.out HN1.out.symm HN2.out.symm HRV.out.2 HCV.out.2 HCW.out.2 HLV.out HLW.out).mono ?_
            rintro e w' ⟨va, vc, zs, rfl, RO, RM, hb⟩
            have hk := KL.out w' va vc zs (by rw [HT1.out.1]; exact RO.out) (by rw [RM.out, HT1.out.2.1]) hb
            rw [HT1.out.1, HT1.out.2.2.1, HT1.out.2.2.2] at hk
            obtain ⟨tbl, u0, u1, u2, uf⟩ := hk.1.three
            have HK := Lib.hid hk.2
            clear hk hb x0 x3 y2 z2
            go_wp2_with fail
            go_meet
            exact ⟨rfl, Lib.hid (by rw [HT1.out.1]; exact HK.out)⟩
        · as_aux_lemma =>
            have hT : T = ⟨cv, rv, turnE (xv.map (cn .f32)) rv cv n1⟩ := by rw [HTV.out]; simp [valV, ← HN1.out]
            have HT1 : Hid (tl = n1 ∧ T.xs = turnE (xv.map (cn .f32)) rv cv n1 ∧ T.r = cv ∧ T.c = rv) := Lib.hid ⟨by rw [HTL.out, hT]; exact listOf_length _ _, by rw [hT], by rw [hT], by rw [hT]⟩
            clear hT
            go_wp2_with fail
            refine (spec_l02Turn _ (wr.heap.size + 1 + 1) 0 rv cv av kv n1 xv PV.out.1 PV.out.2.1 PV.out.2.2 FV.out HN1.out.symm HRV.out.2 HCV.out.2 HLV.out).mono ?_
            rintro e w' ⟨va, vc, zs, rfl, RO, RM, hb⟩
            have hk := KL.out w' va vc zs (by rw [HT1.out.1]; exact RO.out) (by rw [RM.out, HT1.out.2.1]) hb
            rw [HT1.out.1, HT1.out.2.2.1, HT1.out.2.2.2] at hk
            obtain ⟨tbl, u0, u1, u2, uf⟩ := hk.1.three
            have HK := Lib.hid hk.2
            clear hk hb x0 x3 y2 z2
            go_wp2_with fail
            go_meet
            exact ⟨rfl, Lib.hid (by rw [HT1.out.1]; exact HK.out)⟩
        · as_aux_lemma =>
            have hT : T = ⟨rv, cv, relE (xv.map (cn .f32)) n1⟩ := by rw [HTV.out]; simp [valV, ← HN1.out]
            have HT1 : Hid (tl = n1 ∧ T.xs = relE (xv.map (cn .f32)) n1 ∧ T.r = rv ∧ T.c = cv) := Lib.hid ⟨by rw [HTL.out, hT]; exact listOf_length _ _, by rw [hT], by rw [hT], by rw [hT]⟩
            clear hT
            go_wp2_with fail
            refine (spec_l02Relu _ (wr.heap.size + 1 + 1) 0 rv cv av kv n1 xv PV.out.1 PV.out.2.1 PV.out.2.2 FV.out HN1.out.symm hn256).mono ?_
            rintro e w' ⟨va, vc, zs, rfl, RO, RM, hb⟩
            have hk := KL.out w' va vc zs (by rw [HT1.out.1]; exact RO.out) (by rw [RM.out, HT1.out.2.1]) hb
            rw [HT1.out.1, HT1.out.2.2.1, HT1.out.2.2.2] at hk
            obtain ⟨tbl, u0, u1, u2, uf⟩ := hk.1.three
            have HK := Lib.hid hk.2
            clear hk hb x0 x3 y2 z2
            go_wp2_with fail
            go_meet
            exact ⟨rfl, Lib.hid (by rw [HT1.out.1]; exact HK.out)⟩
        · as_aux_lemma =>
            have hT : T = ⟨rv, cv, tenE .mul (xv.map (cn .f32)) (xv.map (cn .f32)) n1⟩ := by rw [HTV.out]; simp [valV, ← HN1.out]
            have HT1 : Hid (tl = n1 ∧ T.xs = tenE .mul (xv.map (cn .f32)) (xv.map (cn .f32)) n1 ∧ T.r = rv ∧ T.c = cv) := Lib.hid ⟨by rw [HTL.out, hT]; exact listOf_length _ _, by rw [hT], by rw [hT], by rw [hT]⟩
            clear hT
            go_wp2_with fail
            refine (spec_l02Mul _ (wr.heap.size + 1 + 1) 0 (wr.heap.size + 1 + 1) 0 rv cv av av kv kv n1 xv xv PV.out.1 PV.out.2.1 PV.out.2.2 PV.out.2.2 FV.out FV.out HN1.out.symm HN1.out.symm hn256).mono ?_
            rintro e w' ⟨va, vc, zs, rfl, RO, RM, hb⟩
            have hk := KL.out w' va vc zs (by rw [HT1.out.1]; exact RO.out) (by rw [RM.out, HT1.out.2.1]) hb
            rw [HT1.out.1, HT1.out.2.2.1, HT1.out.2.2.2] at hk
            obtain ⟨tbl, u0, u1, u2, uf⟩ := hk.1.three
            have HK := Lib.hid hk.2
            clear hk hb x0 x3 y2 z2
            go_wp2_with fail
            go_meet
            exact ⟨rfl, Lib.hid (by rw [HT1.out.1]; exact HK.out)⟩
        · as_aux_lemma =>
            have hT : T = ⟨1, 1, filE (sumS (xv.map (cn .f32)) n1) 1⟩ := by rw [HTV.out]; simp [valV, ← HN1.out]
            have HT1 : Hid (tl = 1 ∧ T.xs = filE (sumS (xv.map (cn .f32)) n1) 1 ∧ T.r = 1 ∧ T.c = 1) := Lib.hid ⟨by rw [HTL.out, hT]; exact listOf_length _ _, by rw [hT], by rw [hT], by rw [hT]⟩
            clear hT
            have KSU := Lib.hid (spec_l01Sum wq av kv xv FV.out)
            rw [← HN1.out] at KSU
            go_wp2_with fail
            refine KSU.out.mono ?_
            rintro e w2 ⟨su, rfl, HSU, hd⟩
            have HDB := Lib.hid hd.below
            clear hd
            go_wp2_with fail
            refine (spec_l02Filled _ 1 1 su HSU.out.2 (by decide) (by decide)).mono ?_
            rintro e w' ⟨va, vc, zs, rfl, RO, RM, hb⟩
            have hk := KL.out w' va vc zs (by rw [HT1.out.1]; exact RO.out.bounds HDB.out.size (Nat.le_refl _)) (by rw [RM.out, HT1.out.2.1, HSU.out.1]) (bthen HDB.out hb)
            rw [HT1.out.1, HT1.out.2.2.1, HT1.out.2.2.2] at hk
            obtain ⟨tbl, u0, u1, u2, uf⟩ := hk.1.three
            have HK := Lib.hid hk.2
            clear hk hb x0 x3 y2 z2
            go_wp2_with fail
            go_meet
            exact ⟨rfl, Lib.hid (by rw [HT1.out.1]; exact HK.out)⟩
      case rest =>
        obtain ⟨rfl, HL⟩ := hcut
        obtain ⟨va, vc, zs, hbx, hr2, hz2m, hbb⟩ := HL.out
        obtain ⟨tbl, u0, u1, u2, uf⟩ := hbx.three
        have HLA := Lib.hid (And.intro hr2 (And.intro hz2m hbb))
        have htp1 := HTP.out.1
        clear hbx hr2 hz2m hbb HL XB TB VB WB HXV HXW B4
        go_wp2_with (at_builtin; refine wp_appA rfl _ _ 41 rfl w.heap.size i0 (.agg #[.int .i64 0, .int .i64 0, .slice none 0 0]) 3 40 Try.underlying41 hi0 hz0 hzs hz2 rfl (by decide) rfl (by intro u hu; simp at hu; rcases hu with rfl | rfl | rfl <;> rfl) _ _ _ rfl (HRW.out _ HLA.out.2.2) (by go_simp) ?c3 ?c4 ?c5 ?_)
        case c3 => unfold maxLen; omega
        case c4 => omega
        case c5 => exact Nat.le_trans HB.out.size HLA.out.2.2.size
        intro v' w9 ho9 hg9 hat9 hb9 hs9
        obtain ⟨ad9, cap9, us9, rfl, hown9, hm9⟩ := KF.out wq wc w9 va vc zs v' (by omega) HLA.out.1 HLA.out.2.1 HLA.out.2.2 ho9 ⟨_, hg9⟩ (by simpa using hat9)
        have HO9 := Lib.hid hown9; have HB9 := Lib.hid ((HB.out.trans (HLA.out.2.2.mono HB.out.size)).trans hb9); have HE9 := Lib.hid hm9
        clear ho9 hg9 hat9 hb9 hown9 hm9 HR HE HB HRW HLA KF
        go_wp2
        go_roundw
        case rel => exact ⟨k + 1, by go_num, hlt, _, _, _, rfl, HO9, HE9, HB9⟩
        case measure => simp [intOf]; omega
    · have hkn : k = n := by omega
      subst hkn
      have HA := Lib.hid (And.intro HR.out (show us.map (fun t => t.toTenP.can) = valsP (os.map OpD.toOpP) by rw [HE.out]; unfold valsP; rw [List.length_map, ← HN.out]))
      go_wp2
      go_ret
      exact ⟨_, _, us, rfl, HA, HB.out⟩
theorem spec_RunTape (w : World) (ad : Option Addr) (cap : Nat) (os : List OpD) (h : SeeR opR w ad cap os) (hno : nilOK os) (hi2 : ∀ o ∈ os, o.xs.length ≤ 1048576) :
    Calls Try.prog 89 #[.slice ad os.length cap] w (TTPost (runP (os.map OpD.toOpP)) w) := by
  have K := Lib.hid (spec_l04Is w ad cap os h)
  have H := Lib.hid h; have HNO := Lib.hid hno; have HI2 := Lib.hid hi2
  obtain ⟨n, hN⟩ : ∃ n, n = os.length := ⟨_, rfl⟩
  rw [← hN] at K ⊢
  have HN := Lib.hid hN
  clear h hno hi2 hN
  cases hs : shapesP (os.map OpD.toOpP) with
  | none =>
    rw [hs] at K
    have HS := Lib.hid (show runP (os.map OpD.toOpP) = none by unfold runP; rw [hs]; rfl)
    clear hs
    go_enter Try.func89, Try.ntmps89
    go_wp2_with fail
    refine K.out.mono ?_
    rintro e w1 ⟨rfl, hb⟩
    go_wp2
    go_ret2
    exact ⟨none, 0, 0, _, [], rfl, Lib.hid ⟨⟨by rw [HS.out]; rfl, by rw [HS.out]; rfl⟩, OwnR.nil _ _ _ _⟩, hb⟩
  | some S =>
    rw [hs] at K
    have K2 := Lib.hid (fun W (hb : Below w.heap.size w W) => spec_l04Run W ad cap os (H.out.below hb) HNO.out S hs HI2.out)
    rw [← HN.out] at K2
    have HS := Lib.hid (show runP (os.map OpD.toOpP) = some (valsP (os.map OpD.toOpP)) by unfold runP; rw [hs]; rfl)
    clear hs
    go_enter Try.func89, Try.ntmps89
    go_wp2_with fail
    refine K.out.mono ?_
    rintro e w1 ⟨rfl, hb⟩
    have HB := Lib.hid hb
    have hzb := hb.size
    clear hb
    go_wp2_with fail
    refine (K2.out _ HB.out).mono ?_
    rintro e w2 ⟨a2, c2, us, rfl, HU, hb2⟩
    have HB2 := Lib.hid (bthen HB.out hb2); clear hb2
    go_wp2
    go_ret2
    exact ⟨_, _, _, _, us, rfl, Lib.hid ⟨⟨by rw [HS.out]; rfl, by rw [HS.out]; exact HU.out.2⟩, HU.out.1.bounds hzb (Nat.le_refl _)⟩, HB2.out⟩
end Go.Proofs.Ytmkfcaahdmdpaaa
