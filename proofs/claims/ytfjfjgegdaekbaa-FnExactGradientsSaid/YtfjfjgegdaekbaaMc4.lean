/- Joined texts 4: Tp2 Tu2 Tp4 Tu3 Tn1 Tn2 Tn3 Rp0 Rg3. Each is told at its own head. No condition. -/
import Derived.Deep.CutRange
import Derived.Deep.CutBlock
import Derived.Deep.DeepCutAuto
import Derived.Deep.RegionHeld3
import Derived.WalkSmall
import Derived.Test.YtfjfjgegdaekbaaMc0
import Derived.Test.YtfjfjgegdaekbaaMc2
import Derived.Test.YtfjfjgegdaekbaaMc3
/- The shapes of the values of a tape: the reference. No condition. -/
namespace Go.Proofs.Ytfjfjgegdaekbaa
open Go Go.RowKit
set_option linter.unusedVariables false
set_option linter.unusedSimpArgs false
def shTenR : RecT Sh := ⟨44, 3, fun s => [.int .i64 s.1, .int .i64 s.2, .slice none 0 0], fun _ => [], fun _ => True, fun _ => rfl⟩
theorem shapesP_eq {os : List OpP} {n : Nat} (h : n = os.length) (h1 : 1 ≤ n) (h2 : n ≤ 48) : shapesP os = shapesN os n := by
  unfold shapesP; rw [← h, if_pos ⟨h1, h2⟩]
theorem shapesP_no {os : List OpP} {n : Nat} (h : n = os.length) (h1 : ¬(1 ≤ n ∧ n ≤ 48)) : shapesP os = none := by
  unfold shapesP; rw [← h, if_neg h1]
theorem twoB_in {k : Int} (h : twoB k = true) : k = 1 ∨ k = 2 ∨ k = 3 ∨ k = 4 ∨ k = 6 := by
  unfold twoB at h
  simpa using h
theorem oneB_in {k : Int} (h : twoB k = false) : k ≠ 1 ∧ k ≠ 2 ∧ k ≠ 3 ∧ k ≠ 4 ∧ k ≠ 6 := by
  unfold twoB at h
  simp at h
  omega
theorem BoxN.alloc4 (w : World) (o o2 o3 : Obj) (cs : Array Value) (t : TypeId) : BoxN ((((w.alloc o).alloc o2).alloc o3).alloc (.cells cs t)) (w.heap.size + 1 + 1 + 1) cs.toList := by
  have h := BoxN.alloc3 (w.alloc o) o2 o3 cs t
  rwa [show (w.alloc o).heap.size + 2 = w.heap.size + 1 + 1 + 1 by simp] at h
/-- a shape that does not fit -/
theorem shapes_stop {os : List OpP} {n k : Nat} {o : OpP} {S : List Sh} (hn : n = os.length) (h1 : 1 ≤ n) (h2 : n ≤ 48) (ho : os[k]? = some o) (hS : shapesN os k = some S) (h : stepSh S o = none) : shapesP os = none := by
  have hk : k < os.length := (List.getElem?_eq_some_iff.1 ho).1
  rw [shapesP_eq hn h1 h2]
  refine shapesN_none (k := k + 1) ?_ (by omega) (by omega)
  rw [shapesN_succ ho, hS]; exact h
theorem step_unfit {S : List Sh} {o : OpP} (h : fitsB S.length o = false) : stepSh S o = none := by
  unfold stepSh; rw [h]; rfl
theorem shGet_some {S : List Sh} {i : Nat} (h : i < S.length) : S[i]? = some (shGet S (i : Int)) := by
  unfold shGet
  rw [List.getD_eq_getElem?_getD, Int.toNat_natCast, List.getElem?_eq_getElem h]; rfl
/-- what the reference tells of the shapes -/
def ShOut (os : List OpP) (w w' : World) (v : Value) (b : Bool) : Prop := b = (shapesP os).isSome ∧ ∀ S, shapesP os = some S → ∃ ad cap, v = .slice ad S.length cap ∧ OwnR shTenR w' w.heap.size w'.heap.size ad S.length cap S
theorem ShOut.no {os : List OpP} {w w' : World} {v : Value} (h : shapesP os = none) : ShOut os w w' v false := ⟨by rw [h]; rfl, fun S hS => by rw [h] at hS; cases hS⟩
/-- a shape is appended -/
theorem sh_snoc {w W w9 : World} {B k cap : Nat} {ad : Option Addr} {S : List Sh} {s : Sh} {v' : Value} {o : Obj} (h : OwnR shTenR w B w.heap.size ad k cap S) (hB : B ≤ w.heap.size) (hb : Below w.heap.size w W)
    (ho : w9.ownsRow B 44 3 v' (k + 1) (S.flatMap shTenR.cells ++ [.int .i64 s.1, .int .i64 s.2, .slice none 0 0])) (hg : (W.alloc o).grownBy w9 (Value.slice ad k cap).ownBlock) (hat : v'.ownBlock = (Value.slice ad k cap).ownBlock ∨ v'.ownBlock = some (W.heap.size + 1)) :
    ∃ ad' cap', v' = .slice ad' (k + 1) cap' ∧ OwnR shTenR w9 B w9.heap.size ad' (k + 1) cap' (S ++ [s]) :=
  h.snoc hB hb trivial (Own.nil W _ W.heap.size) (Nat.le_refl _) hb.size ho hg hat
theorem sh_row {w W : World} {B k cap : Nat} {ad : Option Addr} {S : List Sh} (h : OwnR shTenR w B w.heap.size ad k cap S) (hb : Below w.heap.size w W) : W.ownsRow B 44 3 (.slice ad k cap) k (S.flatMap shTenR.cells) := (h.below hb).own.head.own
set_option maxHeartbeats 16000000 in
set_option maxRecDepth 100000 in
theorem spec_l04Shapes (w : World) (ad : Option Addr) (cap : Nat) (os : List OpD) (h : SeeR opR w ad cap os) :
    Calls Try.prog 26 #[.slice ad os.length cap] w fun e w' => ∃ v b, e = .returned (.tuple #[v, .bool b]) ∧ Hid (ShOut (os.map OpD.toOpP) w w' v b) ∧ Below w.heap.size w w' := by
  obtain ⟨i0, hi0, hz0, hzs, hz2⟩ := info_parts info_ten
  have hm := Nat.le_trans h.le h.cap
  unfold maxLen at hm
  obtain ⟨n, hN⟩ : ∃ n, n = os.length := ⟨_, rfl⟩
  have hP : n = (os.map OpD.toOpP).length := by rw [List.length_map]; exact hN
  rw [← hN] at hm ⊢
  have HN := Lib.hid hN; have HP := Lib.hid hP; have H := Lib.hid h; clear hN hP h
  by_cases hr : (1 ≤ n ∧ n ≤ 48)
  rotate_left
  · have K := Lib.hid (fun W => l00In_any n 1 48 W)
    have hb : inB n 1 48 = false := by
      cases e : inB (n : Int) 1 48 with
      | false => rfl
      | true => have := inB_iff.1 e; omega
    rw [hb] at K
    have HS := Lib.hid (shapesP_no HP.out hr)
    clear hb hr
    go_enter Try.func26, Try.ntmps26
    go_wp2_with fail
    refine (K.out _).mono ?_
    rintro e w1 ⟨rfl, rfl⟩
    go_wp2
    go_ret2
    exact ⟨_, _, rfl, Lib.hid (ShOut.no HS.out), below1 _ _⟩
  obtain ⟨hn1, hn2⟩ := hr
  have K := Lib.hid (fun W => l00In_any n 1 48 W)
  rw [inB_iff.2 ⟨by omega, by omega⟩] at K
  go_enter Try.func26, Try.ntmps26
  go_wp2_with fail
  refine (K.out _).mono ?_
  rintro e w1 ⟨rfl, rfl⟩
  clear K
  go_wp2
  go_loopw [4, 5] (fun v i wt => ∃ k : Nat, i = .int .i64 k ∧ k ≤ n ∧ ∃ (S : List Sh) (ad' : Option Addr) (cap' : Nat), v = .slice ad' k cap' ∧ Hid (shapesN (os.map OpD.toOpP) k = some S ∧ OwnR shTenR wt w.heap.size wt.heap.size ad' k cap' S) ∧ Hid (Below w.heap.size w wt)) (fun _ i _ => n - (intOf i).toNat)
  case atStart =>
    refine ⟨0, rfl, Nat.zero_le _, [], _, _, rfl, Lib.hid ⟨rfl, ?_⟩, Lib.hid (below1 _ _)⟩
    exact ⟨Own.one (Row.mk' (World.ownsRow_made _ _ _ (Nat.le_refl _) (Nat.zero_le _) rfl)), rfl, fun a ha => (nomatch ha)⟩
  case round =>
    obtain ⟨k, rfl, hk, S, ad', cap', rfl, HS, HB⟩ := hrel
    by_cases hlt : k < n
    · obtain ⟨o, ho⟩ := getElem?_lt (show k < os.length by rw [← HN.out]; exact hlt)
      obtain ⟨b, off, rfl, hbl, ⟨p0, p1, p2, p3, p4, p5, p6⟩, hf, hok⟩ := op_spot (H.out.below HB.out) ho
      have hop : (os.map OpD.toOpP)[k]? = some o.toOpP := by rw [List.getElem?_map, ho]; rfl
      have hSl := shapesN_length (by rw [← HP.out]; omega) HS.out.1
      have hxm : o.xs.length ≤ maxLen := Nat.le_trans hf.len hf.cap
      have hno : ∀ (W : World) (v : Value), fitsB k o.toOpP = false → ShOut (os.map OpD.toOpP) w W v false := fun _ _ h1 => ShOut.no (shapes_stop HP.out hn1 hn2 hop HS.out.1 (step_unfit (by rw [hSl]; exact h1)))
      have hyes : fitsB k o.toOpP = true → shapesN (os.map OpD.toOpP) (k + 1) = (if o.k = 0 then some (S ++ [(o.r, o.c)]) else (shapeOf o.k (shGet S o.a) (shGet S o.b)).map fun s => S ++ [s]) := by
        intro h1
        rw [shapesN_succ hop, HS.out.1]
        show stepSh S o.toOpP = _
        unfold stepSh
        rw [hSl, if_pos h1]
      have hnoS : ∀ (W : World) (v : Value), fitsB k o.toOpP = true → o.k ≠ 0 → shapeOf o.k (shGet S o.a) (shGet S o.b) = none → ShOut (os.map OpD.toOpP) w W v false := fun _ _ h1 h2 h3 => ShOut.no (shapes_stop HP.out hn1 hn2 hop HS.out.1 (by unfold stepSh; rw [hSl, if_pos h1, if_neg h2, h3]; rfl))
      obtain ⟨hok1, hok2, hok3, hok4, hok5, hok6, hok7⟩ := hok
      have HNO := Lib.hid hno; have HY := Lib.hid hyes; have HNS := Lib.hid hnoS; have HSL := Lib.hid hSl
      clear hno hyes hnoS hop ho hf hSl hok1 hok4 hok5 hok6 hok7
      obtain ⟨⟨kk, a, b', q, r, c, xs⟩, adx, capx⟩ := o
      simp only at p0 p1 p2 p3 p4 p5 p6 HY HNO HNS hxm hok2 hok3
      obtain ⟨m, hM⟩ : ∃ m, m = xs.length := ⟨_, rfl⟩
      have hxm : m ≤ maxLen := by rw [hM]; exact hxm
      have HFB : Hid (fitsB k ⟨kk, a, b', q, r, c, xs⟩ = (inB kk 0 10 && ((kk == 5 || zeroB q) && (if kk = 0 then (a == 0 && (b' == 0 && tenB r c m)) else ((r == 0 && (c == 0 && decide (m = 0))) && (inB a 0 (k - 1) && (if twoB kk = true then inB b' 0 (k - 1) else b' == 0))))))) := by
        rw [hM]; unfold fitsB; simp only [Bool.and_assoc]; exact Lib.hid trivial
      rw [← hM] at p6
      clear hM
      have K1 := Lib.hid (fun W => l00In_any kk 0 10 W)
      have K2 := Lib.hid (fun W => spec_l01Same q 0 hok2 (by decide) W)
      cases e1 : inB kk 0 10
      · rw [e1] at K1
        go_wp2_with fail
        refine (K1.out _).mono ?_
        rintro e w1 ⟨rfl, rfl⟩
        have HF := Lib.hid (fun W v => HNO.out W v (by rw [HFB.out, e1]; rfl))
        clear HNO HY HNS HFB e1 K2
        go_wp2
        go_ret2
        exact ⟨_, _, rfl, Lib.hid (HF.out _ _), HB.out.alloc HB.out.size _⟩
      clear K1 K2
      by_cases hk0 : kk = 0
      · as_aux_lemma =>
          subst hk0
          have K1 := Lib.hid (fun W => l00In_any 0 0 10 W)
          rw [show inB (0 : Int) 0 10 = true by decide] at K1
          have K2 := Lib.hid (fun W => spec_l01Same q 0 hok2 (by decide) W)
          have ez : decide (cn .f32 q = cn .f32 0) = zeroB q := rfl
          rw [ez] at K2
          go_wp2_with fail
          refine (K1.out _).mono ?_
          rintro e w1 ⟨rfl, rfl⟩
          cases e2 : zeroB q
          · rw [e2] at K2
            go_wp2_with fail
            refine (K2.out _).mono ?_
            rintro e w1 ⟨rfl, rfl⟩
            have HF := Lib.hid (fun W v => HNO.out W v (by rw [HFB.out, e2]; rfl))
            clear HNO HY HNS HFB HS H
            go_wp2
            go_ret2
            exact ⟨_, _, rfl, Lib.hid (HF.out _ _), HB.out.alloc HB.out.size _⟩
          rw [e2] at K2
          go_wp2_with fail
          refine (K2.out _).mono ?_
          rintro e w1 ⟨rfl, rfl⟩
          cases e4 : (a == 0)
          · have e7 : (a != 0) = true := by simpa [bne] using e4
            have HF := Lib.hid (fun W v => HNO.out W v (by rw [HFB.out, e2, e4]; rfl))
            clear HNO HY HNS HFB HS H
            go_wp2
            go_ret2
            exact ⟨_, _, rfl, Lib.hid (HF.out _ _), HB.out.alloc HB.out.size _⟩
          cases e5 : (b' == 0)
          · obtain rfl : a = 0 := by simpa using e4
            have e7 : (b' != 0) = true := by simpa [bne] using e5
            have HF := Lib.hid (fun W v => HNO.out W v (by rw [HFB.out, e2, e4, e5]; rfl))
            clear HNO HY HNS HFB HS H
            go_wp2
            go_ret2
            exact ⟨_, _, rfl, Lib.hid (HF.out _ _), HB.out.alloc HB.out.size _⟩
          have K3 := Lib.hid (fun W h1 h2 h3 => spec_l02Is W wr.heap.size 4 r c adx m capx hxm h1 h2 h3)
          cases e6 : tenB r c m
          · rw [e6] at K3
            obtain rfl : a = 0 := by simpa using e4
            obtain rfl : b' = 0 := by simpa using e5
            go_wp2_with fail
            refine (K3.out _ (by go_simp) (by go_simp) (by go_simp)).mono ?_
            rintro e w1 ⟨rfl, qd, rfl⟩
            have HF := Lib.hid (fun W v => HNO.out W v (by rw [HFB.out, e2, e6]; rfl))
            clear HNO HY HNS HFB HS H
            go_wp2
            go_ret2
            exact ⟨_, _, rfl, Lib.hid (HF.out _ _), below_drewN (HB.out.alloc HB.out.size _) _⟩
          rw [e6] at K3
          have hfit : fitsB k ⟨0, a, b', q, r, c, xs⟩ = true := by rw [HFB.out, e2, e4, e5, e6]; rfl
          have hya := HY.out hfit
          rw [if_pos (by first | trivial | rfl)] at hya
          obtain rfl : a = 0 := by simpa using e4
          obtain rfl : b' = 0 := by simpa using e5
          clear HNO HY HNS HFB e4 e5 e6 hfit e2
          go_wp2_with fail
          refine (K3.out _ (by go_simp) (by go_simp) (by go_simp)).mono ?_
          rintro e w1 ⟨rfl, qd, rfl⟩
          have HR := Lib.hid (fun W hb => sh_row HS.out.2 (W := W) hb)
          go_wp2_with (at_builtin; refine wp_appA rfl _ _ 24 rfl w.heap.size i0 (.agg #[.int .i64 0, .int .i64 0, .slice none 0 0]) 3 40 Try.underlying24 hi0 hz0 hzs hz2 rfl (by decide) rfl (by intro u hu; simp at hu; rcases hu with rfl | rfl | rfl <;> rfl) _ _ _ rfl (HR.out _ (below_drewN (below1 _ _) _)) (by go_simp) ?c3 ?c4 ?c5 ?_)
          case c3 => unfold maxLen; omega
          case c4 => omega
          case c5 => have := HB.out.size; simp; omega
          intro v' w9 ho9 hg9 hat9 hb9 hs9
          obtain ⟨ad9, cap9, rfl, hown9⟩ := sh_snoc (s := (r, c)) HS.out.2 HB.out.size (below_drewN (below1 _ _) _) ho9 hg9 (by simpa using hat9)
          have HO9 := Lib.hid (And.intro hya hown9); have HB9 := Lib.hid ((below_drewN (HB.out.alloc HB.out.size _) _).trans hb9)
          clear ho9 hg9 hat9 hb9 hya hown9 HR HS HB p0 p1 p2 p3 p4 p5 p6
          go_wp2
          go_roundw
          case rel => exact ⟨k + 1, by go_num, hlt, _, _, _, rfl, HO9, HB9⟩
          case measure => simp [intOf]; omega
      have hk0' : (kk == 0) = false := by simpa using hk0
      by_cases h5 : kk = 5
      · as_aux_lemma =>
          subst h5
          have KT := Lib.hid (fun W => spec_l04Two 5 W)
          rw [show twoB 5 = false by decide] at KT
          have K1 := Lib.hid (fun W => l00In_any 5 0 10 W)
          rw [e1] at K1
          go_wp2_with fail
          refine (K1.out _).mono ?_
          rintro e w1 ⟨rfl, rfl⟩
          have K4 := Lib.hid (fun W h1 h2 h3 => spec_l04None W wr.heap.size 4 r c adx m capx h1 h2 h3)
          cases e4 : (r == 0 && (c == 0 && decide (m = 0)))
          · rw [e4] at K4
            go_wp2_with fail
            refine (K4.out _ (by go_simp) (by go_simp) (by go_simp)).mono ?_
            rintro e w1 ⟨rfl, rfl⟩
            have HF := Lib.hid (fun W v => HNO.out W v (by rw [HFB.out, e1, e4]; rfl))
            clear HNO HY HNS HFB HS H
            go_wp2
            go_ret2
            exact ⟨_, _, rfl, Lib.hid (HF.out _ _), HB.out.alloc HB.out.size _⟩
          rw [e4] at K4
          go_wp2_with fail
          refine (K4.out _ (by go_simp) (by go_simp) (by go_simp)).mono ?_
          rintro e w1 ⟨rfl, rfl⟩
          have K5 := Lib.hid (fun W => l00In_any a 0 (k - 1) W)
          cases e5 : inB a 0 (k - 1)
          · rw [e5] at K5
            go_wp2_with fail
            refine (K5.out _).mono ?_
            rintro e w1 ⟨rfl, rfl⟩
            have HF := Lib.hid (fun W v => HNO.out W v (by rw [HFB.out, e1, e4, e5]; rfl))
            clear HNO HY HNS HFB HS H
            go_wp2
            go_ret2
            exact ⟨_, _, rfl, Lib.hid (HF.out _ _), HB.out.alloc HB.out.size _⟩
          rw [e5] at K5
          go_wp2_with fail
          refine (K5.out _).mono ?_
          rintro e w1 ⟨rfl, rfl⟩
          go_wp2_with fail
          refine (KT.out _).mono ?_
          rintro e w1 ⟨rfl, rfl⟩
          go_wp2_with fail
          refine (KT.out _).mono ?_
          rintro e w1 ⟨rfl, rfl⟩
          cases e6 : (b' == 0)
          · have e7 : (b' != 0) = true := by simpa [bne] using e6
            have HF := Lib.hid (fun W v => HNO.out W v (by rw [HFB.out, e1, e4, e5, e6]; rfl))
            clear HNO HY HNS HFB HS H
            go_wp2
            go_ret2
            exact ⟨_, _, rfl, Lib.hid (HF.out _ _), HB.out.alloc HB.out.size _⟩
          obtain rfl : b' = 0 := by simpa using e6
          have ⟨a1, a2⟩ := inB_iff.1 e5
          obtain ⟨A, rfl⟩ : ∃ A : Nat, a = A := ⟨a.toNat, by omega⟩
          have hfit : fitsB k ⟨5, A, 0, q, r, c, xs⟩ = true := by rw [HFB.out, e1, e4, e5]; rfl
          have hAk : A < k := by omega
          have hBk : 0 < k := by omega
          have hya := HY.out hfit
          rw [if_neg (by decide)] at hya
          have hns := fun W v => HNS.out W v hfit (by decide)
          clear HNO HY HNS HFB e4 e5 e6 K1 K4 K5 KT hfit
          have hsa := shGet_some (S := S) (i := A) (by rw [HSL.out]; exact hAk)
          have hsb := shGet_some (S := S) (i := 0) (by rw [HSL.out]; exact hBk)
          obtain ⟨⟨v1, v2⟩, hv⟩ : ∃ v, v = shGet S A := ⟨_, rfl⟩
          obtain ⟨⟨u1, u2⟩, hu⟩ : ∃ v, v = shGet S 0 := ⟨_, rfl⟩
          rw [← hv] at hsa hya hns
          rw [show ((0 : Nat) : Int) = 0 by rfl, ← hu] at hsb
          rw [← hu] at hya hns
          obtain ⟨g, rfl, hgr, ca, hfz⟩ := HS.out.2.spot hsa (by decide)
          obtain ⟨g', eg, -, cb, -⟩ := HS.out.2.spot hsb (by decide)
          cases eg
          have ca0 : wr.cell? ⟨g, A * 3, none⟩ = some (.int .i64 v1) := ca 0 (by decide)
          have ca1 : wr.cell? ⟨g, A * 3 + 1, none⟩ = some (.int .i64 v2) := ca 1 (by decide)
          have ca2 : wr.cell? ⟨g, A * 3 + 2, none⟩ = some (.slice none 0 0) := ca 2 (by decide)
          have cb0 : wr.cell? ⟨g, 0 * 3, none⟩ = some (.int .i64 u1) := cb 0 (by decide)
          have cb1 : wr.cell? ⟨g, 0 * 3 + 1, none⟩ = some (.int .i64 u2) := cb 1 (by decide)
          have cb2 : wr.cell? ⟨g, 0 * 3 + 2, none⟩ = some (.slice none 0 0) := cb 2 (by decide)
          have hgl := hgr.2.2
          have HGR := Lib.hid hgr
          have HR := Lib.hid (fun W hb => sh_row HS.out.2 (W := W) hb)
          clear ca cb hsa hsb hv hu hgr
          go_upto_block 2 with fail
          go_cut [9] (fun f wx => ∃ b1 : Bool, ∃ s1 s2 : Int, f = .bool b1 ∧ Hid ((b1 = true ∧ shapeOf 5 (v1, v2) (u1, u2) = some (s1, s2)) ∨ (b1 = false ∧ shapeOf 5 (v1, v2) (u1, u2) = none)) ∧ Hid (BoxN wx (wr.heap.size + 1 + 1 + 1) [.int .i64 s1, .int .i64 s2, .slice none 0 0] ∧ Below wr.heap.size wr wx))
          case first =>
            clear hya hns HS HR HB
            go_wp2_with fail
            go_meet
            refine ⟨true, v1, v2, rfl, Lib.hid (.inl ⟨rfl, by simp [shapeOf]⟩), Lib.hid ⟨?_, ?_⟩⟩
            · exact BoxN.alloc4 wr _ _ _ #[.int .i64 v1, .int .i64 v2, .slice none 0 0] 44
            · repeat (first | exact Below.refl _ _ | refine Below.alloc ?_ (by simp; try omega) _)
          case rest =>
            obtain ⟨b1, s1, s2, rfl, HSH, HBX⟩ := hcut
            obtain ⟨bx, hb2⟩ := HBX.out
            obtain ⟨l9, t0, t1, t2, tf⟩ := bx.three
            have HB2 := Lib.hid hb2
            clear bx hb2 HBX p0 p1 p2 p3 p4 p5 p6 ca0 ca1 ca2 cb0 cb1 cb2 hfz
            cases b1
            · have hf : ∀ W v, ShOut (os.map OpD.toOpP) w W v false := fun W v => hns W v (by rcases HSH.out with h | h; exact absurd h.1 (by decide); exact h.2)
              have HF := Lib.hid hf
              clear hns hya hf HSH
              go_wp2
              go_ret2
              exact ⟨_, _, rfl, Lib.hid (HF.out _ _), HB.out.trans (HB2.out.mono HB.out.size)⟩
            · have hsh : shapeOf 5 (v1, v2) (u1, u2) = some (s1, s2) := by
                rcases HSH.out with h | h
                · exact h.2
                · exact absurd h.1 (by decide)
              rw [hsh] at hya
              have HYA := Lib.hid hya
              clear hns hya hsh HSH
              go_wp2_with (at_builtin; refine wp_appA rfl _ _ 24 rfl w.heap.size i0 (.agg #[.int .i64 0, .int .i64 0, .slice none 0 0]) 3 40 Try.underlying24 hi0 hz0 hzs hz2 rfl (by decide) rfl (by intro u hu; simp at hu; rcases hu with rfl | rfl | rfl <;> rfl) _ _ _ rfl (HR.out _ HB2.out) (by go_simp) ?c3 ?c4 ?c5 ?_)
              case c3 => unfold maxLen; omega
              case c4 => omega
              case c5 => exact Nat.le_trans HB.out.size HB2.out.size
              intro v' w9 ho9 hg9 hat9 hb9 hs9
              obtain ⟨ad9, cap9, rfl, hown9⟩ := sh_snoc (s := (s1, s2)) HS.out.2 HB.out.size HB2.out ho9 hg9 (by simpa using hat9)
              have HO9 := Lib.hid (And.intro HYA.out hown9); have HB9 := Lib.hid ((HB.out.trans (HB2.out.mono HB.out.size)).trans hb9)
              clear ho9 hg9 hat9 hb9 HYA hown9 HR HS HB HB2
              go_wp2
              go_roundw
              case rel => exact ⟨k + 1, by go_num, hlt, _, _, _, rfl, HO9, HB9⟩
              case measure => simp [intOf]; omega
      have k5 : (kk == 5) = false := by simpa using h5
      cases hT : twoB kk
      · as_aux_lemma =>
          have KT := Lib.hid (fun W => spec_l04Two kk W)
          rw [hT] at KT
          have K1 := Lib.hid (fun W => l00In_any kk 0 10 W)
          rw [e1] at K1
          go_wp2_with fail
          refine (K1.out _).mono ?_
          rintro e w1 ⟨rfl, rfl⟩
          have K2 := Lib.hid (fun W => spec_l01Same q 0 hok2 (by decide) W)
          have ez : decide (cn .f32 q = cn .f32 0) = zeroB q := rfl
          rw [ez] at K2
          cases e2 : zeroB q
          · rw [e2] at K2
            go_wp2_with fail
            refine (K2.out _).mono ?_
            rintro e w1 ⟨rfl, rfl⟩
            have HF := Lib.hid (fun W v => HNO.out W v (by rw [HFB.out, e1, k5, e2]; rfl))
            clear HNO HY HNS HFB HS H
            go_wp2
            go_ret2
            exact ⟨_, _, rfl, Lib.hid (HF.out _ _), HB.out.alloc HB.out.size _⟩
          rw [e2] at K2
          go_wp2_with fail
          refine (K2.out _).mono ?_
          rintro e w1 ⟨rfl, rfl⟩
          have K4 := Lib.hid (fun W h1 h2 h3 => spec_l04None W wr.heap.size 4 r c adx m capx h1 h2 h3)
          cases e4 : (r == 0 && (c == 0 && decide (m = 0)))
          · rw [e4] at K4
            go_wp2_with fail
            refine (K4.out _ (by go_simp) (by go_simp) (by go_simp)).mono ?_
            rintro e w1 ⟨rfl, rfl⟩
            have HF := Lib.hid (fun W v => HNO.out W v (by rw [HFB.out, e1, k5, e2, if_neg hk0, e4]; rfl))
            clear HNO HY HNS HFB HS H
            go_wp2
            go_ret2
            exact ⟨_, _, rfl, Lib.hid (HF.out _ _), HB.out.alloc HB.out.size _⟩
          rw [e4] at K4
          go_wp2_with fail
          refine (K4.out _ (by go_simp) (by go_simp) (by go_simp)).mono ?_
          rintro e w1 ⟨rfl, rfl⟩
          have K5 := Lib.hid (fun W => l00In_any a 0 (k - 1) W)
          cases e5 : inB a 0 (k - 1)
          · rw [e5] at K5
            go_wp2_with fail
            refine (K5.out _).mono ?_
            rintro e w1 ⟨rfl, rfl⟩
            have HF := Lib.hid (fun W v => HNO.out W v (by rw [HFB.out, e1, k5, e2, if_neg hk0, e4, e5]; rfl))
            clear HNO HY HNS HFB HS H
            go_wp2
            go_ret2
            exact ⟨_, _, rfl, Lib.hid (HF.out _ _), HB.out.alloc HB.out.size _⟩
          rw [e5] at K5
          go_wp2_with fail
          refine (K5.out _).mono ?_
          rintro e w1 ⟨rfl, rfl⟩
          go_wp2_with fail
          refine (KT.out _).mono ?_
          rintro e w1 ⟨rfl, rfl⟩
          go_wp2_with fail
          refine (KT.out _).mono ?_
          rintro e w1 ⟨rfl, rfl⟩
          cases e6 : (b' == 0)
          · have e7 : (b' != 0) = true := by simpa [bne] using e6
            have HF := Lib.hid (fun W v => HNO.out W v (by rw [HFB.out, e1, k5, e2, if_neg hk0, e4, e5, hT, e6]; rfl))
            clear HNO HY HNS HFB HS H
            go_wp2
            go_ret2
            exact ⟨_, _, rfl, Lib.hid (HF.out _ _), HB.out.alloc HB.out.size _⟩
          obtain rfl : b' = 0 := by simpa using e6
          have ⟨a1, a2⟩ := inB_iff.1 e5
          obtain ⟨A, rfl⟩ : ∃ A : Nat, a = A := ⟨a.toNat, by omega⟩
          have hfit : fitsB k ⟨kk, A, 0, q, r, c, xs⟩ = true := by rw [HFB.out, e1, k5, e2, if_neg hk0, e4, e5, hT]; rfl
          have hAk : A < k := by omega
          have hBk : 0 < k := by omega
          have hya := HY.out hfit
          rw [if_neg hk0] at hya
          have hns := fun W v => HNS.out W v hfit hk0
          clear HNO HY HNS HFB e4 e5 e6 K1 K4 K5 KT K2 e2 ez hfit
          have hsa := shGet_some (S := S) (i := A) (by rw [HSL.out]; exact hAk)
          have hsb := shGet_some (S := S) (i := 0) (by rw [HSL.out]; exact hBk)
          obtain ⟨⟨v1, v2⟩, hv⟩ : ∃ v, v = shGet S A := ⟨_, rfl⟩
          obtain ⟨⟨u1, u2⟩, hu⟩ : ∃ v, v = shGet S 0 := ⟨_, rfl⟩
          rw [← hv] at hsa hya hns
          rw [show ((0 : Nat) : Int) = 0 by rfl, ← hu] at hsb
          rw [← hu] at hya hns
          obtain ⟨g, rfl, hgr, ca, hfz⟩ := HS.out.2.spot hsa (by decide)
          obtain ⟨g', eg, -, cb, -⟩ := HS.out.2.spot hsb (by decide)
          cases eg
          have ca0 : wr.cell? ⟨g, A * 3, none⟩ = some (.int .i64 v1) := ca 0 (by decide)
          have ca1 : wr.cell? ⟨g, A * 3 + 1, none⟩ = some (.int .i64 v2) := ca 1 (by decide)
          have ca2 : wr.cell? ⟨g, A * 3 + 2, none⟩ = some (.slice none 0 0) := ca 2 (by decide)
          have cb0 : wr.cell? ⟨g, 0 * 3, none⟩ = some (.int .i64 u1) := cb 0 (by decide)
          have cb1 : wr.cell? ⟨g, 0 * 3 + 1, none⟩ = some (.int .i64 u2) := cb 1 (by decide)
          have cb2 : wr.cell? ⟨g, 0 * 3 + 2, none⟩ = some (.slice none 0 0) := cb 2 (by decide)
          have hgl := hgr.2.2
          have HGR := Lib.hid hgr
          have HR := Lib.hid (fun W hb => sh_row HS.out.2 (W := W) hb)
          clear ca cb hsa hsb hv hu hgr
          go_upto_block 2 with fail
          go_cut [9] (fun f wx => ∃ b1 : Bool, ∃ s1 s2 : Int, f = .bool b1 ∧ Hid ((b1 = true ∧ shapeOf kk (v1, v2) (u1, u2) = some (s1, s2)) ∨ (b1 = false ∧ shapeOf kk (v1, v2) (u1, u2) = none)) ∧ Hid (BoxN wx (wr.heap.size + 1 + 1 + 1) [.int .i64 s1, .int .i64 s2, .slice none 0 0] ∧ Below wr.heap.size wr wx))
          case first =>
            clear hya hns HS HR HB
            rcases (by have := oneB_in hT; have := inB_iff.1 e1; omega : kk = 7 ∨ kk = 8 ∨ kk = 9 ∨ kk = 10) with rfl | rfl | rfl | rfl
            · as_aux_lemma =>
                go_wp2_with fail
                go_meet
                refine ⟨true, v2, v1, rfl, Lib.hid (.inl ⟨rfl, by simp [shapeOf]⟩), Lib.hid ⟨?_, ?_⟩⟩
                · exact BoxN.alloc4 wr _ _ _ #[.int .i64 v2, .int .i64 v1, .slice none 0 0] 44
                · repeat (first | exact Below.refl _ _ | refine Below.alloc ?_ (by simp; try omega) _)
            · as_aux_lemma =>
                go_wp2_with fail
                go_meet
                refine ⟨true, v1, v2, rfl, Lib.hid (.inl ⟨rfl, by simp [shapeOf]⟩), Lib.hid ⟨?_, ?_⟩⟩
                · exact BoxN.alloc4 wr _ _ _ #[.int .i64 v1, .int .i64 v2, .slice none 0 0] 44
                · repeat (first | exact Below.refl _ _ | refine Below.alloc ?_ (by simp; try omega) _)
            · as_aux_lemma =>
                go_wp2_with fail
                go_meet
                refine ⟨true, v1, v2, rfl, Lib.hid (.inl ⟨rfl, by simp [shapeOf]⟩), Lib.hid ⟨?_, ?_⟩⟩
                · exact BoxN.alloc4 wr _ _ _ #[.int .i64 v1, .int .i64 v2, .slice none 0 0] 44
                · repeat (first | exact Below.refl _ _ | refine Below.alloc ?_ (by simp; try omega) _)
            · as_aux_lemma =>
                go_wp2_with fail
                go_meet
                refine ⟨true, 1, 1, rfl, Lib.hid (.inl ⟨rfl, by simp [shapeOf]⟩), Lib.hid ⟨?_, ?_⟩⟩
                · exact BoxN.alloc4 wr _ _ _ #[.int .i64 1, .int .i64 1, .slice none 0 0] 44
                · repeat (first | exact Below.refl _ _ | refine Below.alloc ?_ (by simp; try omega) _)
          case rest =>
            obtain ⟨b1, s1, s2, rfl, HSH, HBX⟩ := hcut
            obtain ⟨bx, hb2⟩ := HBX.out
            obtain ⟨l9, t0, t1, t2, tf⟩ := bx.three
            have HB2 := Lib.hid hb2
            clear bx hb2 HBX p0 p1 p2 p3 p4 p5 p6 ca0 ca1 ca2 cb0 cb1 cb2 hfz
            cases b1
            · have hf : ∀ W v, ShOut (os.map OpD.toOpP) w W v false := fun W v => hns W v (by rcases HSH.out with h | h; exact absurd h.1 (by decide); exact h.2)
              have HF := Lib.hid hf
              clear hns hya hf HSH
              go_wp2
              go_ret2
              exact ⟨_, _, rfl, Lib.hid (HF.out _ _), HB.out.trans (HB2.out.mono HB.out.size)⟩
            · have hsh : shapeOf kk (v1, v2) (u1, u2) = some (s1, s2) := by
                rcases HSH.out with h | h
                · exact h.2
                · exact absurd h.1 (by decide)
              rw [hsh] at hya
              have HYA := Lib.hid hya
              clear hns hya hsh HSH
              go_wp2_with (at_builtin; refine wp_appA rfl _ _ 24 rfl w.heap.size i0 (.agg #[.int .i64 0, .int .i64 0, .slice none 0 0]) 3 40 Try.underlying24 hi0 hz0 hzs hz2 rfl (by decide) rfl (by intro u hu; simp at hu; rcases hu with rfl | rfl | rfl <;> rfl) _ _ _ rfl (HR.out _ HB2.out) (by go_simp) ?c3 ?c4 ?c5 ?_)
              case c3 => unfold maxLen; omega
              case c4 => omega
              case c5 => exact Nat.le_trans HB.out.size HB2.out.size
              intro v' w9 ho9 hg9 hat9 hb9 hs9
              obtain ⟨ad9, cap9, rfl, hown9⟩ := sh_snoc (s := (s1, s2)) HS.out.2 HB.out.size HB2.out ho9 hg9 (by simpa using hat9)
              have HO9 := Lib.hid (And.intro HYA.out hown9); have HB9 := Lib.hid ((HB.out.trans (HB2.out.mono HB.out.size)).trans hb9)
              clear ho9 hg9 hat9 hb9 HYA hown9 HR HS HB HB2
              go_wp2
              go_roundw
              case rel => exact ⟨k + 1, by go_num, hlt, _, _, _, rfl, HO9, HB9⟩
              case measure => simp [intOf]; omega
      · as_aux_lemma =>
          have KT := Lib.hid (fun W => spec_l04Two kk W)
          rw [hT] at KT
          have K1 := Lib.hid (fun W => l00In_any kk 0 10 W)
          rw [e1] at K1
          go_wp2_with fail
          refine (K1.out _).mono ?_
          rintro e w1 ⟨rfl, rfl⟩
          have K2 := Lib.hid (fun W => spec_l01Same q 0 hok2 (by decide) W)
          have ez : decide (cn .f32 q = cn .f32 0) = zeroB q := rfl
          rw [ez] at K2
          cases e2 : zeroB q
          · rw [e2] at K2
            go_wp2_with fail
            refine (K2.out _).mono ?_
            rintro e w1 ⟨rfl, rfl⟩
            have HF := Lib.hid (fun W v => HNO.out W v (by rw [HFB.out, e1, k5, e2]; rfl))
            clear HNO HY HNS HFB HS H
            go_wp2
            go_ret2
            exact ⟨_, _, rfl, Lib.hid (HF.out _ _), HB.out.alloc HB.out.size _⟩
          rw [e2] at K2
          go_wp2_with fail
          refine (K2.out _).mono ?_
          rintro e w1 ⟨rfl, rfl⟩
          have K4 := Lib.hid (fun W h1 h2 h3 => spec_l04None W wr.heap.size 4 r c adx m capx h1 h2 h3)
          cases e4 : (r == 0 && (c == 0 && decide (m = 0)))
          · rw [e4] at K4
            go_wp2_with fail
            refine (K4.out _ (by go_simp) (by go_simp) (by go_simp)).mono ?_
            rintro e w1 ⟨rfl, rfl⟩
            have HF := Lib.hid (fun W v => HNO.out W v (by rw [HFB.out, e1, k5, e2, if_neg hk0, e4]; rfl))
            clear HNO HY HNS HFB HS H
            go_wp2
            go_ret2
            exact ⟨_, _, rfl, Lib.hid (HF.out _ _), HB.out.alloc HB.out.size _⟩
          rw [e4] at K4
          go_wp2_with fail
          refine (K4.out _ (by go_simp) (by go_simp) (by go_simp)).mono ?_
          rintro e w1 ⟨rfl, rfl⟩
          have K5 := Lib.hid (fun W => l00In_any a 0 (k - 1) W)
          cases e5 : inB a 0 (k - 1)
          · rw [e5] at K5
            go_wp2_with fail
            refine (K5.out _).mono ?_
            rintro e w1 ⟨rfl, rfl⟩
            have HF := Lib.hid (fun W v => HNO.out W v (by rw [HFB.out, e1, k5, e2, if_neg hk0, e4, e5]; rfl))
            clear HNO HY HNS HFB HS H
            go_wp2
            go_ret2
            exact ⟨_, _, rfl, Lib.hid (HF.out _ _), HB.out.alloc HB.out.size _⟩
          rw [e5] at K5
          go_wp2_with fail
          refine (K5.out _).mono ?_
          rintro e w1 ⟨rfl, rfl⟩
          go_wp2_with fail
          refine (KT.out _).mono ?_
          rintro e w1 ⟨rfl, rfl⟩
          have K6 := Lib.hid (fun W => l00In_any b' 0 (k - 1) W)
          cases e6 : inB b' 0 (k - 1)
          · rw [e6] at K6
            go_wp2_with fail
            refine (K6.out _).mono ?_
            rintro e w1 ⟨rfl, rfl⟩
            have HF := Lib.hid (fun W v => HNO.out W v (by rw [HFB.out, e1, k5, e2, if_neg hk0, e4, e5, hT, if_pos rfl, e6]; rfl))
            clear HNO HY HNS HFB HS H
            go_wp2
            go_ret2
            exact ⟨_, _, rfl, Lib.hid (HF.out _ _), HB.out.alloc HB.out.size _⟩
          rw [e6] at K6
          go_wp2_with fail
          refine (K6.out _).mono ?_
          rintro e w1 ⟨rfl, rfl⟩
          go_wp2_with fail
          refine (KT.out _).mono ?_
          rintro e w1 ⟨rfl, rfl⟩
          have ⟨a1, a2⟩ := inB_iff.1 e5
          have ⟨b1, b2⟩ := inB_iff.1 e6
          obtain ⟨A, rfl⟩ : ∃ A : Nat, a = A := ⟨a.toNat, by omega⟩
          obtain ⟨B, rfl⟩ : ∃ B : Nat, b' = B := ⟨b'.toNat, by omega⟩
          have hfit : fitsB k ⟨kk, A, B, q, r, c, xs⟩ = true := by rw [HFB.out, e1, k5, e2, if_neg hk0, e4, e5, hT, if_pos rfl, e6]; rfl
          have hAk : A < k := by omega
          have hBk : B < k := by omega
          have hya := HY.out hfit
          rw [if_neg hk0] at hya
          have hns := fun W v => HNS.out W v hfit hk0
          clear HNO HY HNS HFB e4 e5 e6 K1 K4 K5 K6 KT K2 e2 ez hfit
          have hsa := shGet_some (S := S) (i := A) (by rw [HSL.out]; exact hAk)
          have hsb := shGet_some (S := S) (i := B) (by rw [HSL.out]; exact hBk)
          obtain ⟨⟨v1, v2⟩, hv⟩ : ∃ v, v = shGet S A := ⟨_, rfl⟩
          obtain ⟨⟨u1, u2⟩, hu⟩ : ∃ v, v = shGet S B := ⟨_, rfl⟩
          rw [← hv] at hsa hya hns
          rw [← hu] at hsb hya hns
          obtain ⟨g, rfl, hgr, ca, hfz⟩ := HS.out.2.spot hsa (by decide)
          obtain ⟨g', eg, -, cb, -⟩ := HS.out.2.spot hsb (by decide)
          cases eg
          have ca0 : wr.cell? ⟨g, A * 3, none⟩ = some (.int .i64 v1) := ca 0 (by decide)
          have ca1 : wr.cell? ⟨g, A * 3 + 1, none⟩ = some (.int .i64 v2) := ca 1 (by decide)
          have ca2 : wr.cell? ⟨g, A * 3 + 2, none⟩ = some (.slice none 0 0) := ca 2 (by decide)
          have cb0 : wr.cell? ⟨g, B * 3, none⟩ = some (.int .i64 u1) := cb 0 (by decide)
          have cb1 : wr.cell? ⟨g, B * 3 + 1, none⟩ = some (.int .i64 u2) := cb 1 (by decide)
          have cb2 : wr.cell? ⟨g, B * 3 + 2, none⟩ = some (.slice none 0 0) := cb 2 (by decide)
          have hgl := hgr.2.2
          have HGR := Lib.hid hgr
          have HR := Lib.hid (fun W hb => sh_row HS.out.2 (W := W) hb)
          clear ca cb hsa hsb hv hu hgr
          go_upto_block 2 with fail
          go_cut [9] (fun f wx => ∃ b1 : Bool, ∃ s1 s2 : Int, f = .bool b1 ∧ Hid ((b1 = true ∧ shapeOf kk (v1, v2) (u1, u2) = some (s1, s2)) ∨ (b1 = false ∧ shapeOf kk (v1, v2) (u1, u2) = none)) ∧ Hid (BoxN wx (wr.heap.size + 1 + 1 + 1) [.int .i64 s1, .int .i64 s2, .slice none 0 0] ∧ Below wr.heap.size wr wx))
          case first =>
            clear hya hns HS HR HB
            rcases (twoB_in hT) with rfl | rfl | rfl | rfl | rfl
            · as_aux_lemma =>
                by_cases hf3 : v1 = u1
                · subst hf3
                  by_cases hf2 : v2 = u2
                  · subst hf2
                    have t1 : (v1 == v1) = true := beq_self_eq_true _
                    have t2 : (v2 == v2) = true := beq_self_eq_true _
                    go_wp2_with fail
                    go_meet
                    refine ⟨true, v1, v2, rfl, Lib.hid (.inl ⟨rfl, by simp [shapeOf]⟩), Lib.hid ⟨?_, ?_⟩⟩
                    · exact BoxN.alloc4 wr _ _ _ #[.int .i64 v1, .int .i64 v2, .slice none 0 0] 44
                    · repeat (first | exact Below.refl _ _ | refine Below.alloc ?_ (by simp; try omega) _)
                  · have t1 : (v1 == v1) = true := beq_self_eq_true _
                    have t2 : (v2 == u2) = false := by simpa using hf2
                    go_wp2_with fail
                    go_meet
                    refine ⟨false, v1, v2, rfl, Lib.hid (.inr ⟨rfl, by simp [shapeOf, hf2]⟩), Lib.hid ⟨?_, ?_⟩⟩
                    · exact BoxN.alloc4 wr _ _ _ #[.int .i64 v1, .int .i64 v2, .slice none 0 0] 44
                    · repeat (first | exact Below.refl _ _ | refine Below.alloc ?_ (by simp; try omega) _)
                · have t1 : (v1 == u1) = false := by simpa using hf3
                  go_wp2_with fail
                  go_meet
                  refine ⟨false, v1, v2, rfl, Lib.hid (.inr ⟨rfl, by simp [shapeOf, hf3]⟩), Lib.hid ⟨?_, ?_⟩⟩
                  · exact BoxN.alloc4 wr _ _ _ #[.int .i64 v1, .int .i64 v2, .slice none 0 0] 44
                  · repeat (first | exact Below.refl _ _ | refine Below.alloc ?_ (by simp; try omega) _)
            · as_aux_lemma =>
                by_cases hf3 : u1 = 1
                · subst hf3
                  by_cases hf2 : v2 = u2
                  · subst hf2
                    have t2 : (v2 == v2) = true := beq_self_eq_true _
                    go_wp2_with fail
                    go_meet
                    refine ⟨true, v1, v2, rfl, Lib.hid (.inl ⟨rfl, by simp [shapeOf]⟩), Lib.hid ⟨?_, ?_⟩⟩
                    · exact BoxN.alloc4 wr _ _ _ #[.int .i64 v1, .int .i64 v2, .slice none 0 0] 44
                    · repeat (first | exact Below.refl _ _ | refine Below.alloc ?_ (by simp; try omega) _)
                  · have t2 : (v2 == u2) = false := by simpa using hf2
                    go_wp2_with fail
                    go_meet
                    refine ⟨false, v1, v2, rfl, Lib.hid (.inr ⟨rfl, by simp [shapeOf, Ne.symm hf2]⟩), Lib.hid ⟨?_, ?_⟩⟩
                    · exact BoxN.alloc4 wr _ _ _ #[.int .i64 v1, .int .i64 v2, .slice none 0 0] 44
                    · repeat (first | exact Below.refl _ _ | refine Below.alloc ?_ (by simp; try omega) _)
                · have t1 : (u1 == 1) = false := by simpa using hf3
                  go_wp2_with fail
                  go_meet
                  refine ⟨false, v1, v2, rfl, Lib.hid (.inr ⟨rfl, by simp [shapeOf, hf3]⟩), Lib.hid ⟨?_, ?_⟩⟩
                  · exact BoxN.alloc4 wr _ _ _ #[.int .i64 v1, .int .i64 v2, .slice none 0 0] 44
                  · repeat (first | exact Below.refl _ _ | refine Below.alloc ?_ (by simp; try omega) _)
            · as_aux_lemma =>
                by_cases hf3 : v1 = u1
                · subst hf3
                  by_cases hf2 : v2 = u2
                  · subst hf2
                    have t1 : (v1 == v1) = true := beq_self_eq_true _
                    have t2 : (v2 == v2) = true := beq_self_eq_true _
                    go_wp2_with fail
                    go_meet
                    refine ⟨true, v1, v2, rfl, Lib.hid (.inl ⟨rfl, by simp [shapeOf]⟩), Lib.hid ⟨?_, ?_⟩⟩
                    · exact BoxN.alloc4 wr _ _ _ #[.int .i64 v1, .int .i64 v2, .slice none 0 0] 44
                    · repeat (first | exact Below.refl _ _ | refine Below.alloc ?_ (by simp; try omega) _)
                  · have t1 : (v1 == v1) = true := beq_self_eq_true _
                    have t2 : (v2 == u2) = false := by simpa using hf2
                    go_wp2_with fail
                    go_meet
                    refine ⟨false, v1, v2, rfl, Lib.hid (.inr ⟨rfl, by simp [shapeOf, hf2]⟩), Lib.hid ⟨?_, ?_⟩⟩
                    · exact BoxN.alloc4 wr _ _ _ #[.int .i64 v1, .int .i64 v2, .slice none 0 0] 44
                    · repeat (first | exact Below.refl _ _ | refine Below.alloc ?_ (by simp; try omega) _)
                · have t1 : (v1 == u1) = false := by simpa using hf3
                  go_wp2_with fail
                  go_meet
                  refine ⟨false, v1, v2, rfl, Lib.hid (.inr ⟨rfl, by simp [shapeOf, hf3]⟩), Lib.hid ⟨?_, ?_⟩⟩
                  · exact BoxN.alloc4 wr _ _ _ #[.int .i64 v1, .int .i64 v2, .slice none 0 0] 44
                  · repeat (first | exact Below.refl _ _ | refine Below.alloc ?_ (by simp; try omega) _)
            · as_aux_lemma =>
                by_cases hf3 : u1 = 1
                · subst hf3
                  by_cases hf2 : v2 = u2
                  · subst hf2
                    have t2 : (v2 == v2) = true := beq_self_eq_true _
                    go_wp2_with fail
                    go_meet
                    refine ⟨true, v1, v2, rfl, Lib.hid (.inl ⟨rfl, by simp [shapeOf]⟩), Lib.hid ⟨?_, ?_⟩⟩
                    · exact BoxN.alloc4 wr _ _ _ #[.int .i64 v1, .int .i64 v2, .slice none 0 0] 44
                    · repeat (first | exact Below.refl _ _ | refine Below.alloc ?_ (by simp; try omega) _)
                  · have t2 : (v2 == u2) = false := by simpa using hf2
                    go_wp2_with fail
                    go_meet
                    refine ⟨false, v1, v2, rfl, Lib.hid (.inr ⟨rfl, by simp [shapeOf, Ne.symm hf2]⟩), Lib.hid ⟨?_, ?_⟩⟩
                    · exact BoxN.alloc4 wr _ _ _ #[.int .i64 v1, .int .i64 v2, .slice none 0 0] 44
                    · repeat (first | exact Below.refl _ _ | refine Below.alloc ?_ (by simp; try omega) _)
                · have t1 : (u1 == 1) = false := by simpa using hf3
                  go_wp2_with fail
                  go_meet
                  refine ⟨false, v1, v2, rfl, Lib.hid (.inr ⟨rfl, by simp [shapeOf, hf3]⟩), Lib.hid ⟨?_, ?_⟩⟩
                  · exact BoxN.alloc4 wr _ _ _ #[.int .i64 v1, .int .i64 v2, .slice none 0 0] 44
                  · repeat (first | exact Below.refl _ _ | refine Below.alloc ?_ (by simp; try omega) _)
            · as_aux_lemma =>
                by_cases hf3 : v2 = u1
                · subst hf3
                  have t2 : (v2 == v2) = true := beq_self_eq_true _
                  go_wp2_with fail
                  go_meet
                  refine ⟨true, v1, u2, rfl, Lib.hid (.inl ⟨rfl, by simp [shapeOf]⟩), Lib.hid ⟨?_, ?_⟩⟩
                  · exact BoxN.alloc4 wr _ _ _ #[.int .i64 v1, .int .i64 u2, .slice none 0 0] 44
                  · repeat (first | exact Below.refl _ _ | refine Below.alloc ?_ (by simp; try omega) _)
                · have t1 : (v2 == u1) = false := by simpa using hf3
                  go_wp2_with fail
                  go_meet
                  refine ⟨false, v1, u2, rfl, Lib.hid (.inr ⟨rfl, by simp [shapeOf, hf3]⟩), Lib.hid ⟨?_, ?_⟩⟩
                  · exact BoxN.alloc4 wr _ _ _ #[.int .i64 v1, .int .i64 u2, .slice none 0 0] 44
                  · repeat (first | exact Below.refl _ _ | refine Below.alloc ?_ (by simp; try omega) _)
          case rest =>
            obtain ⟨b1, s1, s2, rfl, HSH, HBX⟩ := hcut
            obtain ⟨bx, hb2⟩ := HBX.out
            obtain ⟨l9, t0, t1, t2, tf⟩ := bx.three
            have HB2 := Lib.hid hb2
            clear bx hb2 HBX p0 p1 p2 p3 p4 p5 p6 ca0 ca1 ca2 cb0 cb1 cb2 hfz
            cases b1
            · have hf : ∀ W v, ShOut (os.map OpD.toOpP) w W v false := fun W v => hns W v (by rcases HSH.out with h | h; exact absurd h.1 (by decide); exact h.2)
              have HF := Lib.hid hf
              clear hns hya hf HSH
              go_wp2
              go_ret2
              exact ⟨_, _, rfl, Lib.hid (HF.out _ _), HB.out.trans (HB2.out.mono HB.out.size)⟩
            · have hsh : shapeOf kk (v1, v2) (u1, u2) = some (s1, s2) := by
                rcases HSH.out with h | h
                · exact h.2
                · exact absurd h.1 (by decide)
              rw [hsh] at hya
              have HYA := Lib.hid hya
              clear hns hya hsh HSH
              go_wp2_with (at_builtin; refine wp_appA rfl _ _ 24 rfl w.heap.size i0 (.agg #[.int .i64 0, .int .i64 0, .slice none 0 0]) 3 40 Try.underlying24 hi0 hz0 hzs hz2 rfl (by decide) rfl (by intro u hu; simp at hu; rcases hu with rfl | rfl | rfl <;> rfl) _ _ _ rfl (HR.out _ HB2.out) (by go_simp) ?c3 ?c4 ?c5 ?_)
              case c3 => unfold maxLen; omega
              case c4 => omega
              case c5 => exact Nat.le_trans HB.out.size HB2.out.size
              intro v' w9 ho9 hg9 hat9 hb9 hs9
              obtain ⟨ad9, cap9, rfl, hown9⟩ := sh_snoc (s := (s1, s2)) HS.out.2 HB.out.size HB2.out ho9 hg9 (by simpa using hat9)
              have HO9 := Lib.hid (And.intro HYA.out hown9); have HB9 := Lib.hid ((HB.out.trans (HB2.out.mono HB.out.size)).trans hb9)
              clear ho9 hg9 hat9 hb9 HYA hown9 HR HS HB HB2
              go_wp2
              go_roundw
              case rel => exact ⟨k + 1, by go_num, hlt, _, _, _, rfl, HO9, HB9⟩
              case measure => simp [intOf]; omega
    · have hkn : k = n := by omega
      subst hkn
      have hf : ShOut (os.map OpD.toOpP) w wr (.slice ad' k cap') true := by
        have hl := shapesN_length (by rw [← HP.out]; exact Nat.le_refl _) HS.out.1
        have he := (shapesP_eq HP.out hn1 hn2).trans HS.out.1
        refine ⟨by rw [he]; rfl, fun S' hS' => ?_⟩
        rw [he] at hS'; cases hS'
        rw [hl]
        exact ⟨_, _, rfl, HS.out.2⟩
      have HF := Lib.hid hf; clear hf
      go_wp2
      go_ret2
      exact ⟨_, _, rfl, HF, HB.out⟩
end Go.Proofs.Ytfjfjgegdaekbaa
/- Which operations a tape's last value depends on: the reference. No condition. -/
namespace Go.Proofs.Ytfjfjgegdaekbaa
open Go Go.RowKit
set_option linter.unusedVariables false
set_option linter.unusedSimpArgs false
theorem spec_l04Is (w : World) (ad : Option Addr) (cap : Nat) (os : List OpD) (h : SeeR opR w ad cap os) :
    Calls Try.prog 14 #[.slice ad os.length cap] w fun e w' => e = .returned (.bool (shapesP (os.map OpD.toOpP)).isSome) ∧ Below w.heap.size w w' := by
  have K := Lib.hid (spec_l04Shapes w ad cap os h)
  clear h
  go_enter Try.func14, Try.ntmps14
  go_wp2_with fail
  refine K.out.mono ?_
  rintro e w1 ⟨v, b, rfl, hs, hb⟩
  have HS := Lib.hid hs.out.1
  clear hs
  go_wp2
  go_ret
  exact ⟨by rw [HS.out]; rfl, hb⟩
theorem info_bool : (Try.prog.info? 4).map (fun i => (i.zero, i.size, i.bytes)) = some (some (.bool false), 1, 1) := by kernel_rfl
/-- the marks of what is used -/
structure RepU (w : World) (g n : Nat) (U : List Bool) : Prop where
  own : w.ownsRow g 4 1 (.slice (some ⟨g, 0, none⟩) n n) n (U.map Value.bool)
  len : U.length = n
theorem RepU.below {w w' : World} {g n : Nat} {U : List Bool} (h : RepU w g n U) (hb : Below w.heap.size w w') : RepU w' g n U := ⟨owns_below h.own hb, h.len⟩
theorem RepU.set {w : World} {g n : Nat} {U : List Bool} (h : RepU w g n U) (k : Nat) : RepU (w.setCell ⟨g, k, none⟩ (.bool true)) g n (U.set k true) :=
  ⟨by rw [List.map_set]; exact (h.own.stored k (.bool true)).1, by rw [List.length_set]; exact h.len⟩
theorem RepU.cell {w : World} {g n : Nat} {U : List Bool} (h : RepU w g n U) {k : Nat} (hk : k < n) : w.cell? ⟨g, k, none⟩ = some (.bool (U.getD k false)) := by
  rw [h.own.cellAt k (by omega), List.getElem?_map, List.getElem?_eq_getElem (by rw [h.len]; exact hk), List.getD_eq_getElem?_getD, List.getElem?_eq_getElem (by rw [h.len]; exact hk)]; rfl
theorem RepU.fz {w : World} {g n : Nat} {U : List Bool} (h : RepU w g n U) (k : Nat) : w.frozen? ⟨g, k, none⟩ = false := h.own.frozenAt k
theorem RepU.lt {w : World} {g n : Nat} {U : List Bool} (h : RepU w g n U) : g < w.heap.size := (h.own.lt g rfl).2
theorem stepU_no {U : List Bool} {i : Nat} {o : OpP} (h : U.getD i false = false ∨ o.k = 0) : stepU U i o = U := by
  unfold stepU; rw [if_neg]; rintro ⟨h1, h2⟩; rcases h with h | h
  · rw [h] at h1; cases h1
  · exact h2 h
theorem stepU_one {U : List Bool} {i : Nat} {o : OpP} (h : U.getD i false = true) (hk : o.k ≠ 0) (ht : twoB o.k = false) : stepU U i o = U.set o.a.toNat true := by
  unfold stepU; rw [if_pos ⟨h, hk⟩, if_neg (by rw [ht]; decide)]
theorem stepU_two {U : List Bool} {i : Nat} {o : OpP} (h : U.getD i false = true) (hk : o.k ≠ 0) (ht : twoB o.k = true) : stepU U i o = (U.set o.a.toNat true).set o.b.toNat true := by
  unfold stepU; rw [if_pos ⟨h, hk⟩, if_pos ht]
theorem usedM_next {os : List OpP} {n i : Nat} {o : OpP} (hn : n = os.length) (hi : i < n) (ho : os[i]? = some o) : usedM os (n - i) = stepU (usedM os (n - (i + 1))) i o := by
  rw [show n - i = (n - (i + 1)) + 1 by omega, usedM, show os.length - 1 - (n - (i + 1)) = i by omega, opAtP_some ho]
/-- an operation is gone by -/
theorem usedF_step {os : List OpP} {U V : List Bool} {n i : Nat} {o : OpP} (hf : fitsB i o = true) (hV : V = stepU U i o) (hi : i < n) : usedF V i n = (if U.getD i false = true then [(i : Int)] else []) ++ usedF U (i + 1) n := by
  subst hV
  rw [usedF_cons _ hi, stepU_keep hf (Nat.le_refl _)]
  congr 1
  exact usedF_congr fun j h1 h2 => stepU_keep hf (by omega)
theorem getElem_some {α : Type} {us : List α} {i : Nat} (h : i < us.length) : us[i]? = some us[i] := List.getElem?_eq_getElem h
end Go.Proofs.Ytfjfjgegdaekbaa
/- The shapes of the values of a tape: the program. No condition. -/
namespace Go.Proofs.Ytfjfjgegdaekbaa
open Go Go.RowKit
set_option linter.unusedVariables false
set_option linter.unusedSimpArgs false
def shR : RecT Sh := ⟨81, 2, fun s => [.int .i64 s.1, .int .i64 s.2], fun _ => [], fun _ => True, fun _ => rfl⟩
theorem info_sh : (Try.prog.info? 81).map (fun i => (i.zero, i.size, i.bytes)) = some (some (.agg #[.int .i64 0, .int .i64 0]), 2, 16) := by kernel_rfl
theorem shapesP_eq' {os : List OpP} {n : Nat} (h : n = os.length) (h1 : 1 ≤ n) (h2 : n ≤ 48) : shapesP os = shapesN os n := by
  unfold shapesP; rw [← h, if_pos ⟨h1, h2⟩]
theorem shapesP_no' {os : List OpP} {n : Nat} (h : n = os.length) (h1 : ¬(1 ≤ n ∧ n ≤ 48)) : shapesP os = none := by
  unfold shapesP; rw [← h, if_neg h1]
theorem shapes_stop' {os : List OpP} {n k : Nat} {o : OpP} {S : List Sh} (hn : n = os.length) (h1 : 1 ≤ n) (h2 : n ≤ 48) (ho : os[k]? = some o) (hS : shapesN os k = some S) (h : stepSh S o = none) : shapesP os = none := by
  have hk : k < os.length := (List.getElem?_eq_some_iff.1 ho).1
  rw [shapesP_eq' hn h1 h2]
  refine shapesN_none (k := k + 1) ?_ (by omega) (by omega)
  rw [shapesN_succ ho, hS]; exact h
theorem step_unfit' {S : List Sh} {o : OpP} (h : fitsB S.length o = false) : stepSh S o = none := by
  unfold stepSh; rw [h]; rfl
theorem shGet_some' {S : List Sh} {i : Nat} (h : i < S.length) : S[i]? = some (shGet S (i : Int)) := by
  unfold shGet
  rw [List.getD_eq_getElem?_getD, Int.toNat_natCast, List.getElem?_eq_getElem h]; rfl
/-- what the program tells of the shapes -/
def ShIm (os : List OpP) (w w' : World) (v : Value) (b : Bool) : Prop := b = (shapesP os).isSome ∧ ∀ S, shapesP os = some S → ∃ ad cap, v = .slice ad S.length cap ∧ OwnR shR w' w.heap.size w'.heap.size ad S.length cap S
theorem ShIm.no {os : List OpP} {w w' : World} {v : Value} (h : shapesP os = none) : ShIm os w w' v false := ⟨by rw [h]; rfl, fun S hS => by rw [h] at hS; cases hS⟩
theorem sh2_snoc {w W w9 : World} {B k cap : Nat} {ad : Option Addr} {S : List Sh} {s : Sh} {v' : Value} {o : Obj} (h : OwnR shR w B w.heap.size ad k cap S) (hB : B ≤ w.heap.size) (hb : Below w.heap.size w W)
    (ho : w9.ownsRow B 81 2 v' (k + 1) (S.flatMap shR.cells ++ [.int .i64 s.1, .int .i64 s.2])) (hg : (W.alloc o).grownBy w9 (Value.slice ad k cap).ownBlock) (hat : v'.ownBlock = (Value.slice ad k cap).ownBlock ∨ v'.ownBlock = some (W.heap.size + 1)) :
    ∃ ad' cap', v' = .slice ad' (k + 1) cap' ∧ OwnR shR w9 B w9.heap.size ad' (k + 1) cap' (S ++ [s]) :=
  h.snoc hB hb trivial (Own.nil W _ W.heap.size) (Nat.le_refl _) hb.size ho hg hat
theorem sh2_row {w W : World} {B k cap : Nat} {ad : Option Addr} {S : List Sh} (h : OwnR shR w B w.heap.size ad k cap S) (hb : Below w.heap.size w W) : W.ownsRow B 81 2 (.slice ad k cap) k (S.flatMap shR.cells) := (h.below hb).own.head.own
set_option maxHeartbeats 32000000 in
set_option maxRecDepth 100000 in
theorem impl_shapes (w : World) (ad : Option Addr) (cap : Nat) (os : List OpD) (h : SeeR opR w ad cap os) :
    Calls Try.prog 41 #[.slice ad os.length cap] w fun e w' => ∃ v b, e = .returned (.tuple #[v, .bool b]) ∧ Hid (ShIm (os.map OpD.toOpP) w w' v b) ∧ Below w.heap.size w w' := by
  obtain ⟨i0, hi0, hz0, hzs, hz2⟩ := info_parts info_sh
  have hm := Nat.le_trans h.le h.cap
  unfold maxLen at hm
  obtain ⟨n, hN⟩ : ∃ n, n = os.length := ⟨_, rfl⟩
  have hP : n = (os.map OpD.toOpP).length := by rw [List.length_map]; exact hN
  rw [← hN] at hm ⊢
  have HN := Lib.hid hN; have HP := Lib.hid hP; have H := Lib.hid h; clear hN hP h
  by_cases hr : (1 ≤ n ∧ n ≤ 48)
  rotate_left
  · have HS := Lib.hid (shapesP_no' HP.out hr)
    by_cases h0 : n = 0
    · subst h0
      go_enter Try.func41, Try.ntmps41
      go_wp2
      go_ret2
      exact ⟨_, _, rfl, Lib.hid (ShIm.no HS.out), Below.refl _ _⟩
    · have h48 : 48 < n := by omega
      clear hr h0
      go_enter Try.func41, Try.ntmps41
      go_wp2
      go_ret2
      exact ⟨_, _, rfl, Lib.hid (ShIm.no HS.out), Below.refl _ _⟩
  obtain ⟨hn1, hn2⟩ := hr
  go_enter Try.func41, Try.ntmps41
  go_wp2
  go_loopw [4, 22] (fun v i wt => ∃ k : Nat, i = .int .i64 k ∧ k ≤ n ∧ ∃ (S : List Sh) (ad' : Option Addr) (cap' : Nat), v = .slice ad' k cap' ∧ Hid (shapesN (os.map OpD.toOpP) k = some S ∧ OwnR shR wt w.heap.size wt.heap.size ad' k cap' S) ∧ Hid (Below w.heap.size w wt)) (fun _ i _ => n - (intOf i).toNat)
  case atStart =>
    refine ⟨0, rfl, Nat.zero_le _, [], _, _, rfl, Lib.hid ⟨rfl, ?_⟩, Lib.hid (below1 _ _)⟩
    exact ⟨Own.one (Row.mk' (World.ownsRow_made _ _ _ (Nat.le_refl _) (Nat.zero_le _) rfl)), rfl, fun a ha => (nomatch ha)⟩
  case round =>
    obtain ⟨k, rfl, hk, S, ad', cap', rfl, HS, HB⟩ := hrel
    by_cases hlt : k < n
    · obtain ⟨o, ho⟩ := getElem?_lt (show k < os.length by rw [← HN.out]; exact hlt)
      obtain ⟨b, off, rfl, hbl, ⟨p0, p1, p2, p3, p4, p5, p6⟩, hf, hok⟩ := op_spot (H.out.below HB.out) ho
      have hop : (os.map OpD.toOpP)[k]? = some o.toOpP := by rw [List.getElem?_map, ho]; rfl
      have hSl := shapesN_length (by rw [← HP.out]; omega) HS.out.1
      have hxm : o.xs.length ≤ maxLen := Nat.le_trans hf.len hf.cap
      have hno : ∀ (W : World) (v : Value), fitsB k o.toOpP = false → ShIm (os.map OpD.toOpP) w W v false := fun _ _ h1 => ShIm.no (shapes_stop' HP.out hn1 hn2 hop HS.out.1 (step_unfit' (by rw [hSl]; exact h1)))
      have hyes : fitsB k o.toOpP = true → shapesN (os.map OpD.toOpP) (k + 1) = (if o.k = 0 then some (S ++ [(o.r, o.c)]) else (shapeOf o.k (shGet S o.a) (shGet S o.b)).map fun s => S ++ [s]) := by
        intro h1
        rw [shapesN_succ hop, HS.out.1]
        show stepSh S o.toOpP = _
        unfold stepSh
        rw [hSl, if_pos h1]
      have hnoS : ∀ (W : World) (v : Value), fitsB k o.toOpP = true → o.k ≠ 0 → shapeOf o.k (shGet S o.a) (shGet S o.b) = none → ShIm (os.map OpD.toOpP) w W v false := fun _ _ h1 h2 h3 => ShIm.no (shapes_stop' HP.out hn1 hn2 hop HS.out.1 (by unfold stepSh; rw [hSl, if_pos h1, if_neg h2, h3]; rfl))
      have K1 := Lib.hid (fun W => impl_fieldsFit W o k (by omega) hxm hok.2.1)
      have HNO := Lib.hid hno; have HY := Lib.hid hyes; have HNS := Lib.hid hnoS; have HSL := Lib.hid hSl
      clear hno hyes hnoS hop ho hf hSl hok hxm
      have hbx := BoxN.alloc wr o.cells.toArray 46
      have BX := Lib.hid (show BoxN (wr.alloc (.cells o.cells.toArray 46)) wr.heap.size o.cells from hbx)
      clear hbx
      obtain ⟨⟨kk, a, b', q, r, c, xs⟩, adx, capx⟩ := o
      unfold OpD.val at K1
      unfold OpD.cells at BX
      simp only at p0 p1 p2 p3 p4 p5 p6 HY HNO HNS K1 BX
      obtain ⟨m, hM⟩ : ∃ m, m = xs.length := ⟨_, rfl⟩
      rw [← hM] at p6 K1 BX
      clear hM
      cases e1 : fitsB k ⟨kk, a, b', q, r, c, xs⟩
      · rw [e1] at K1
        go_wp2_with fail
        refine (K1.out _).mono ?_
        rintro e w1 ⟨rfl, hb1⟩
        have HF := Lib.hid (fun W v => HNO.out W v e1)
        have HB1 := Lib.hid (bthen (HB.out.alloc HB.out.size _) (by simpa using hb1)); clear hb1
        clear HNO HY HNS e1
        go_wp2
        go_ret2
        exact ⟨_, _, rfl, Lib.hid (HF.out _ _), HB1.out⟩
      rw [e1] at K1
      by_cases hk0 : kk = 0
      · as_aux_lemma =>
          subst hk0
          have hya := HY.out e1
          rw [if_pos rfl] at hya
          clear HNO HY HNS e1
          go_wp2_with fail
          refine (K1.out _).mono ?_
          rintro e w1 ⟨rfl, hb1⟩
          obtain ⟨-, x0, x1, x2, x3, x4, x5, x6, xf⟩ := (BX.out.below hb1).seven
          have hsz1 : wr.heap.size + 1 ≤ w1.heap.size := by have := hb1.size; simpa using this
          have HB1 : Hid (Below wr.heap.size wr w1) := Lib.hid (bthen (below1 wr _) hb1)
          have HR := Lib.hid (fun W hb => sh2_row HS.out.2 (W := W) hb)
          clear hb1 p0 p1 p2 p3 p4 p5 p6 K1 BX H HN HP HSL
          go_wp2_with (at_builtin; refine wp_appA rfl _ _ 64 rfl w.heap.size i0 (.agg #[.int .i64 0, .int .i64 0]) 2 16 Try.underlying64 hi0 hz0 hzs hz2 rfl (by decide) rfl (by intro u hu; simp at hu; rcases hu with rfl | rfl <;> rfl) _ _ _ rfl (HR.out _ HB1.out) (by go_simp) ?c3 ?c4 ?c5 ?_)
          case c3 => unfold maxLen; omega
          case c4 => omega
          case c5 => exact Nat.le_trans HB.out.size HB1.out.size
          intro v' w9 ho9 hg9 hat9 hb9 hs9
          obtain ⟨ad9, cap9, rfl, hown9⟩ := sh2_snoc (s := (r, c)) HS.out.2 HB.out.size HB1.out ho9 hg9 (by simpa using hat9)
          have HO9 := Lib.hid (And.intro hya hown9); have HB9 := Lib.hid ((HB.out.trans (HB1.out.mono HB.out.size)).trans hb9)
          clear ho9 hg9 hat9 hb9 hya hown9 HR HS HB HB1
          go_wp2
          refine ⟨?rel, ?measure⟩
          case rel => exact ⟨k + 1, by go_num, hlt, _, _, _, rfl, HO9, HB9⟩
          case measure => simp [intOf]; omega
      have ⟨a1, a2⟩ := (fitsB_args e1 hk0).1
      have ⟨b1, b2⟩ := (fitsB_args e1 hk0).2.1
      simp only at a1 a2 b1 b2
      obtain ⟨A, rfl⟩ : ∃ A : Nat, a = A := ⟨a.toNat, by omega⟩
      obtain ⟨B, rfl⟩ : ∃ B : Nat, b' = B := ⟨b'.toNat, by omega⟩
      have hAk : A < k := by omega
      have hBk : B < k := by omega
      have hya := HY.out e1
      rw [if_neg hk0] at hya
      have hns := fun W v => HNS.out W v e1 hk0
      have hkr := fitsB_in e1
      simp only at hkr
      have HKR := Lib.hid hkr
      clear hkr HNO HY HNS e1 a1 a2 b1 b2
      have hsa := shGet_some' (S := S) (i := A) (by rw [HSL.out]; exact hAk)
      have hsb := shGet_some' (S := S) (i := B) (by rw [HSL.out]; exact hBk)
      obtain ⟨⟨v1, v2⟩, hv⟩ : ∃ v, v = shGet S A := ⟨_, rfl⟩
      obtain ⟨⟨u1, u2⟩, hu⟩ : ∃ v, v = shGet S B := ⟨_, rfl⟩
      rw [← hv] at hsa hya hns
      rw [← hu] at hsb hya hns
      obtain ⟨g, rfl, hgr, ca, hfz⟩ := HS.out.2.spot hsa (by decide)
      obtain ⟨g', eg, -, cb, -⟩ := HS.out.2.spot hsb (by decide)
      cases eg
      have CA := Lib.hid ca; have CB := Lib.hid cb; have HGR := Lib.hid hgr
      clear ca cb hgr hsa hsb hv hu
      have hk0' : (kk == 0) = false := by simpa using hk0
      go_wp2_with fail
      refine (K1.out _).mono ?_
      rintro e w1 ⟨rfl, hb1⟩
      obtain ⟨-, x0, x1, x2, x3, x4, x5, x6, xf⟩ := (BX.out.below hb1).seven
      have hsz1 : wr.heap.size + 1 ≤ w1.heap.size := by have := hb1.size; simpa using this
      have HB1 : Hid (Below wr.heap.size wr w1) := Lib.hid (bthen (below1 wr _) hb1)
      have ca0 : w1.cell? ⟨g, A * 2, none⟩ = some (.int .i64 v1) := (HB1.out.cell (p := ⟨g, A * 2, none⟩) HGR.out.2.2).trans (CA.out 0 (by decide))
      have ca1 : w1.cell? ⟨g, A * 2 + 1, none⟩ = some (.int .i64 v2) := (HB1.out.cell (p := ⟨g, A * 2 + 1, none⟩) HGR.out.2.2).trans (CA.out 1 (by decide))
      have cb0 : w1.cell? ⟨g, B * 2, none⟩ = some (.int .i64 u1) := (HB1.out.cell (p := ⟨g, B * 2, none⟩) HGR.out.2.2).trans (CB.out 0 (by decide))
      have cb1 : w1.cell? ⟨g, B * 2 + 1, none⟩ = some (.int .i64 u2) := (HB1.out.cell (p := ⟨g, B * 2 + 1, none⟩) HGR.out.2.2).trans (CB.out 1 (by decide))
      have hgl : g < w1.heap.size := Nat.lt_of_lt_of_le HGR.out.2.2 HB1.out.size
      have HR := Lib.hid (fun W hb => sh2_row HS.out.2 (W := W) hb)
      clear CA CB hb1 p0 p1 p2 p3 p4 p5 p6 K1 BX H HN HP HSL
      go_upto_region 11 with fail
      go_cut [7, 8] (fun p7 p8 wx => ∃ g7 g8 : Nat, p7 = .pointer (some ⟨g7, 0, none⟩) ∧ p8 = .pointer (some ⟨g8, 0, none⟩) ∧ Hid (g7 ≠ g8 ∧ w1.heap.size ≤ g7 ∧ w1.heap.size ≤ g8 ∧ BoxN wx g7 [.int .i64 v1, .int .i64 v2] ∧ BoxN wx g8 [.int .i64 u1, .int .i64 u2] ∧ Below w1.heap.size w1 wx))
      case first =>
        go_region_held3 (fun w' => (w'.cell? ⟨wr.heap.size, 1, none⟩ = some (.int .i64 A) ∧ w'.cell? ⟨wr.heap.size, 2, none⟩ = some (.int .i64 B)) ∧ (w'.cell? ⟨g, A * 2, none⟩ = some (.int .i64 v1) ∧ w'.cell? ⟨g, A * 2 + 1, none⟩ = some (.int .i64 v2)) ∧ (w'.cell? ⟨g, B * 2, none⟩ = some (.int .i64 u1) ∧ w'.cell? ⟨g, B * 2 + 1, none⟩ = some (.int .i64 u2))) (go_keep) (first | fail)
        all_goals (try go_wp2_with fail)
        all_goals go_meet
        · exact ⟨_, _, rfl, rfl, Lib.hid ⟨by omega, Nat.le_refl _, Nat.le_succ _, ((BoxN.alloc w1 #[.int .i64 v1, .int .i64 v2] 81).below (below1 _ _)).below (Below.drew (Below.refl _ _)), (BoxN.alloc2 w1 _ #[.int .i64 u1, .int .i64 u2] 81).below (Below.drew (Below.refl _ _)), Below.drew (below2 _ _ _)⟩⟩
        · exact ⟨_, _, rfl, rfl, Lib.hid ⟨by omega, Nat.le_succ _, Nat.le_refl _, (BoxN.alloc2 w1 _ #[.int .i64 v1, .int .i64 v2] 81).below (Below.drew (Below.refl _ _)), ((BoxN.alloc w1 #[.int .i64 u1, .int .i64 u2] 81).below (below1 _ _)).below (Below.drew (Below.refl _ _)), Below.drew (below2 _ _ _)⟩⟩
      case rest =>
        obtain ⟨g7, g8, rfl, rfl, HC⟩ := hcut
        obtain ⟨hne, hg7, hg8, bx7, bx8, hbc⟩ := HC.out
        obtain ⟨l7, y0, y1, yf⟩ := bx7.two
        obtain ⟨l8, z0, z1, zf⟩ := bx8.two
        have hx0 : wc.cell? ⟨wr.heap.size, 0, none⟩ = some (.int .i64 kk) := (hbc.cell (p := ⟨wr.heap.size, 0, none⟩) (by show wr.heap.size < w1.heap.size; omega)).trans x0
        have HBC : Hid (Below wr.heap.size wr wc) := Lib.hid (HB1.out.trans (hbc.mono (by omega)))
        clear bx7 bx8 hbc HB1 x0 x1 x2 x3 x4 x5 x6 xf ca0 ca1 cb0 cb1 HC
        have hwc : wr.heap.size < wc.heap.size := by omega
        go_upto_block 2 with fail
        go_cut [10] (fun f wx => ∃ b1 : Bool, ∃ s1 s2 : Int, f = .bool b1 ∧ Hid ((b1 = true ∧ shapeOf kk (v1, v2) (u1, u2) = some (s1, s2)) ∨ (b1 = false ∧ shapeOf kk (v1, v2) (u1, u2) = none)) ∧ Hid (BoxN wx wc.heap.size [.int .i64 s1, .int .i64 s2] ∧ Below wr.heap.size wr wx))
        case first =>
          clear hya hns HS HR HB
          have hkr := HKR.out
          rcases (by omega : kk = 1 ∨ kk = 2 ∨ kk = 3 ∨ kk = 4 ∨ kk = 5 ∨ kk = 6 ∨ kk = 7 ∨ kk = 8 ∨ kk = 9 ∨ kk = 10) with rfl | rfl | rfl | rfl | rfl | rfl | rfl | rfl | rfl | rfl
          · as_aux_lemma =>
              by_cases hf3 : v1 = u1
              · subst hf3
                by_cases hf2 : v2 = u2
                · subst hf2
                  have t1 : (v1 == v1) = true := beq_self_eq_true _
                  have t2 : (v2 == v2) = true := beq_self_eq_true _
                  go_wp2_with fail
                  go_meet
                  exact ⟨true, _, _, rfl, Lib.hid (.inl ⟨rfl, by simp [shapeOf]⟩), Lib.hid ⟨BoxN.alloc wc #[.int .i64 v1, .int .i64 v2] 81, HBC.out.alloc HBC.out.size _⟩⟩
                · have t1 : (v1 == v1) = true := beq_self_eq_true _
                  have t2 : (v2 == u2) = false := by simpa using hf2
                  go_wp2_with fail
                  go_meet
                  exact ⟨false, _, _, rfl, Lib.hid (.inr ⟨rfl, by simp [shapeOf, hf2]⟩), Lib.hid ⟨BoxN.alloc wc #[.int .i64 v1, .int .i64 v2] 81, HBC.out.alloc HBC.out.size _⟩⟩
              · have t1 : (v1 == u1) = false := by simpa using hf3
                go_wp2_with fail
                go_meet
                exact ⟨false, _, _, rfl, Lib.hid (.inr ⟨rfl, by simp [shapeOf, hf3]⟩), Lib.hid ⟨BoxN.alloc wc #[.int .i64 v1, .int .i64 v2] 81, HBC.out.alloc HBC.out.size _⟩⟩
          · as_aux_lemma =>
              by_cases hf3 : u1 = 1
              · subst hf3
                by_cases hf2 : u2 = v2
                · subst hf2
                  have t2 : (u2 == u2) = true := beq_self_eq_true _
                  go_wp2_with fail
                  go_meet
                  exact ⟨true, _, _, rfl, Lib.hid (.inl ⟨rfl, by simp [shapeOf]⟩), Lib.hid ⟨BoxN.alloc wc #[.int .i64 v1, .int .i64 u2] 81, HBC.out.alloc HBC.out.size _⟩⟩
                · have t2 : (u2 == v2) = false := by simpa using hf2
                  go_wp2_with fail
                  go_meet
                  exact ⟨false, _, _, rfl, Lib.hid (.inr ⟨rfl, by simp [shapeOf, hf2]⟩), Lib.hid ⟨BoxN.alloc wc #[.int .i64 v1, .int .i64 v2] 81, HBC.out.alloc HBC.out.size _⟩⟩
              · have t1 : (u1 == 1) = false := by simpa using hf3
                go_wp2_with fail
                go_meet
                exact ⟨false, _, _, rfl, Lib.hid (.inr ⟨rfl, by simp [shapeOf, hf3]⟩), Lib.hid ⟨BoxN.alloc wc #[.int .i64 v1, .int .i64 v2] 81, HBC.out.alloc HBC.out.size _⟩⟩
          · as_aux_lemma =>
              by_cases hf3 : v1 = u1
              · subst hf3
                by_cases hf2 : v2 = u2
                · subst hf2
                  have t1 : (v1 == v1) = true := beq_self_eq_true _
                  have t2 : (v2 == v2) = true := beq_self_eq_true _
                  go_wp2_with fail
                  go_meet
                  exact ⟨true, _, _, rfl, Lib.hid (.inl ⟨rfl, by simp [shapeOf]⟩), Lib.hid ⟨BoxN.alloc wc #[.int .i64 v1, .int .i64 v2] 81, HBC.out.alloc HBC.out.size _⟩⟩
                · have t1 : (v1 == v1) = true := beq_self_eq_true _
                  have t2 : (v2 == u2) = false := by simpa using hf2
                  go_wp2_with fail
                  go_meet
                  exact ⟨false, _, _, rfl, Lib.hid (.inr ⟨rfl, by simp [shapeOf, hf2]⟩), Lib.hid ⟨BoxN.alloc wc #[.int .i64 v1, .int .i64 v2] 81, HBC.out.alloc HBC.out.size _⟩⟩
              · have t1 : (v1 == u1) = false := by simpa using hf3
                go_wp2_with fail
                go_meet
                exact ⟨false, _, _, rfl, Lib.hid (.inr ⟨rfl, by simp [shapeOf, hf3]⟩), Lib.hid ⟨BoxN.alloc wc #[.int .i64 v1, .int .i64 v2] 81, HBC.out.alloc HBC.out.size _⟩⟩
          · as_aux_lemma =>
              by_cases hf3 : u1 = 1
              · subst hf3
                by_cases hf2 : u2 = v2
                · subst hf2
                  have t2 : (u2 == u2) = true := beq_self_eq_true _
                  go_wp2_with fail
                  go_meet
                  exact ⟨true, _, _, rfl, Lib.hid (.inl ⟨rfl, by simp [shapeOf]⟩), Lib.hid ⟨BoxN.alloc wc #[.int .i64 v1, .int .i64 u2] 81, HBC.out.alloc HBC.out.size _⟩⟩
                · have t2 : (u2 == v2) = false := by simpa using hf2
                  go_wp2_with fail
                  go_meet
                  exact ⟨false, _, _, rfl, Lib.hid (.inr ⟨rfl, by simp [shapeOf, hf2]⟩), Lib.hid ⟨BoxN.alloc wc #[.int .i64 v1, .int .i64 v2] 81, HBC.out.alloc HBC.out.size _⟩⟩
              · have t1 : (u1 == 1) = false := by simpa using hf3
                go_wp2_with fail
                go_meet
                exact ⟨false, _, _, rfl, Lib.hid (.inr ⟨rfl, by simp [shapeOf, hf3]⟩), Lib.hid ⟨BoxN.alloc wc #[.int .i64 v1, .int .i64 v2] 81, HBC.out.alloc HBC.out.size _⟩⟩
          · as_aux_lemma =>
              go_wp2_with fail
              go_meet
              exact ⟨true, _, _, rfl, Lib.hid (.inl ⟨rfl, by simp [shapeOf]⟩), Lib.hid ⟨BoxN.alloc wc #[.int .i64 v1, .int .i64 v2] 81, HBC.out.alloc HBC.out.size _⟩⟩
          · as_aux_lemma =>
              by_cases hf3 : v2 = u1
              · subst hf3
                have t2 : (v2 == v2) = true := beq_self_eq_true _
                go_wp2_with fail
                go_meet
                exact ⟨true, _, _, rfl, Lib.hid (.inl ⟨rfl, by simp [shapeOf]⟩), Lib.hid ⟨BoxN.alloc wc #[.int .i64 v1, .int .i64 u2] 81, HBC.out.alloc HBC.out.size _⟩⟩
              · have t1 : (v2 == u1) = false := by simpa using hf3
                go_wp2_with fail
                go_meet
                exact ⟨false, _, _, rfl, Lib.hid (.inr ⟨rfl, by simp [shapeOf, hf3]⟩), Lib.hid ⟨BoxN.alloc wc #[.int .i64 v1, .int .i64 u2] 81, HBC.out.alloc HBC.out.size _⟩⟩
          · as_aux_lemma =>
              go_wp2_with fail
              go_meet
              exact ⟨true, _, _, rfl, Lib.hid (.inl ⟨rfl, by simp [shapeOf]⟩), Lib.hid ⟨BoxN.alloc wc #[.int .i64 v2, .int .i64 v1] 81, HBC.out.alloc HBC.out.size _⟩⟩
          · as_aux_lemma =>
              go_wp2_with fail
              go_meet
              exact ⟨true, _, _, rfl, Lib.hid (.inl ⟨rfl, by simp [shapeOf]⟩), Lib.hid ⟨BoxN.alloc wc #[.int .i64 v1, .int .i64 v2] 81, HBC.out.alloc HBC.out.size _⟩⟩
          · as_aux_lemma =>
              go_wp2_with fail
              go_meet
              exact ⟨true, _, _, rfl, Lib.hid (.inl ⟨rfl, by simp [shapeOf]⟩), Lib.hid ⟨BoxN.alloc wc #[.int .i64 v1, .int .i64 v2] 81, HBC.out.alloc HBC.out.size _⟩⟩
          · as_aux_lemma =>
              go_wp2_with fail
              go_meet
              exact ⟨true, _, _, rfl, Lib.hid (.inl ⟨rfl, by simp [shapeOf]⟩), Lib.hid ⟨BoxN.alloc wc #[.int .i64 1, .int .i64 1] 81, HBC.out.alloc HBC.out.size _⟩⟩
        case rest =>
          obtain ⟨b1, s1, s2, rfl, HSH, HBX⟩ := hcut
          obtain ⟨bx, hb2⟩ := HBX.out
          obtain ⟨l9, t0, t1, tf⟩ := bx.two
          have HB2 := Lib.hid hb2
          clear bx hb2 HBX y0 y1 yf z0 z1 zf hx0 hne hg7 hg8 l7 l8 hwc HBC
          cases b1
          · have hf : ∀ W v, ShIm (os.map OpD.toOpP) w W v false := fun W v => hns W v (by rcases HSH.out with h | h; exact absurd h.1 (by decide); exact h.2)
            have HF := Lib.hid hf
            clear hns hya hf HSH
            go_wp2
            go_ret2
            exact ⟨_, _, rfl, Lib.hid (HF.out _ _), HB.out.trans (HB2.out.mono HB.out.size)⟩
          · have hsh : shapeOf kk (v1, v2) (u1, u2) = some (s1, s2) := by
              rcases HSH.out with h | h
              · exact h.2
              · exact absurd h.1 (by decide)
            rw [hsh] at hya
            have HYA := Lib.hid hya
            clear hns hya hsh HSH
            go_wp2_with (at_builtin; refine wp_appA rfl _ _ 64 rfl w.heap.size i0 (.agg #[.int .i64 0, .int .i64 0]) 2 16 Try.underlying64 hi0 hz0 hzs hz2 rfl (by decide) rfl (by intro u hu; simp at hu; rcases hu with rfl | rfl <;> rfl) _ _ _ rfl (HR.out _ HB2.out) (by go_simp) ?c3 ?c4 ?c5 ?_)
            case c3 => unfold maxLen; omega
            case c4 => omega
            case c5 => exact Nat.le_trans HB.out.size HB2.out.size
            intro v' w9 ho9 hg9 hat9 hb9 hs9
            obtain ⟨ad9, cap9, rfl, hown9⟩ := sh2_snoc (s := (s1, s2)) HS.out.2 HB.out.size HB2.out ho9 hg9 (by simpa using hat9)
            have HO9 := Lib.hid (And.intro HYA.out hown9); have HB9 := Lib.hid ((HB.out.trans (HB2.out.mono HB.out.size)).trans hb9)
            clear ho9 hg9 hat9 hb9 HYA hown9 HR HS HB HB2
            go_wp2
            go_roundw
            case rel => exact ⟨k + 1, by go_num, hlt, _, _, _, rfl, HO9, HB9⟩
            case measure => simp [intOf]; omega
    · have hkn : k = n := by omega
      subst hkn
      have hf : ShIm (os.map OpD.toOpP) w wr (.slice ad' k cap') true := by
        have hl := shapesN_length (by rw [← HP.out]; exact Nat.le_refl _) HS.out.1
        have he := (shapesP_eq' HP.out hn1 hn2).trans HS.out.1
        refine ⟨by rw [he]; rfl, fun S' hS' => ?_⟩
        rw [he] at hS'; cases hS'
        rw [hl]
        exact ⟨_, _, rfl, HS.out.2⟩
      have HF := Lib.hid hf; clear hf
      go_wp2
      go_ret2
      exact ⟨_, _, rfl, HF, HB.out⟩
end Go.Proofs.Ytfjfjgegdaekbaa
/- Which operations a tape's last value depends on: the program. No condition. -/
namespace Go.Proofs.Ytfjfjgegdaekbaa
open Go Go.RowKit
set_option linter.unusedVariables false
set_option linter.unusedSimpArgs false
theorem impl_ValidTape (w : World) (ad : Option Addr) (cap : Nat) (os : List OpD) (h : SeeR opR w ad cap os) :
    Calls Try.prog 18 #[.slice ad os.length cap] w fun e w' => e = .returned (.bool (shapesP (os.map OpD.toOpP)).isSome) ∧ Below w.heap.size w w' := by
  have K := Lib.hid (impl_shapes w ad cap os h)
  clear h
  go_enter Try.func18, Try.ntmps18
  go_wp2_with fail
  refine K.out.mono ?_
  rintro e w1 ⟨v, b, rfl, hs, hb⟩
  have HS := Lib.hid hs.out.1
  clear hs
  go_wp2
  go_ret
  exact ⟨by rw [HS.out]; rfl, hb⟩
theorem RepU.low {w w' : World} {g n B : Nat} {U : List Bool} (h : RepU w g n U) (hb : Below B w w') (hg : g < B) : RepU w' g n U := by
  refine ⟨⟨h.own.1, ?_⟩, h.len⟩
  rcases h.own.2 with h2 | ⟨g', cap, cur, hv, hbg, hh, r⟩
  · exact .inl h2
  · have e : g = g' := by cases hv; rfl
    exact .inr ⟨g', cap, cur, hv, hbg, by rw [hb.block g' (by omega)]; exact hh, r⟩
end Go.Proofs.Ytfjfjgegdaekbaa
/- Lists and tensors that are the same. No condition. -/
namespace Go.Proofs.Ytfjfjgegdaekbaa
open Go Go.RowKit
set_option linter.unusedVariables false
set_option linter.unusedSimpArgs false
theorem eq_take_next {xs ys : List Nat} {k : Nat} (hx : k < xs.length) (hy : k < ys.length) (h : (xs.take k).map (cn .f32) = (ys.take k).map (cn .f32)) (he : cn .f32 (xs.getD k 0) = cn .f32 (ys.getD k 0)) : (xs.take (k + 1)).map (cn .f32) = (ys.take (k + 1)).map (cn .f32) := by
  rw [List.getD_eq_getElem?_getD, List.getD_eq_getElem?_getD, List.getElem?_eq_getElem hx, List.getElem?_eq_getElem hy] at he
  rw [List.take_succ_eq_append_getElem hx, List.take_succ_eq_append_getElem hy, List.map_append, List.map_append, h]
  simpa using he
end Go.Proofs.Ytfjfjgegdaekbaa
/- Tensors that are the same; rows. No condition. -/
namespace Go.Proofs.Ytfjfjgegdaekbaa
open Go Go.RowKit
set_option linter.unusedVariables false
set_option linter.unusedSimpArgs false
theorem below_dr {w w1 w2 : World} (h : Below w.heap.size w w1) (hd : Dr w1 w2) : Below w.heap.size w w2 := by obtain ⟨q, rfl⟩ := hd; exact below_drewN h q
/-- a row of a tensor -/
theorem impl_row (w : World) (r c : Nat) (ad : Option Addr) (n cap : Nat) (hn : n = r * c) (hc1 : 1 ≤ c) (hc2 : c ≤ 16) (hr2 : r ≤ 16) (hcap : n ≤ cap) (i : Nat) (hi : i < r) (b off : Nat) (had : ad = some ⟨b, off, none⟩) :
    Calls Try.prog 85 #[.agg #[.int .i64 r, .int .i64 c, .slice ad n cap], .int .i64 i] w fun e w' => e = .returned (.slice (some ⟨b, off + i * c, none⟩) c (cap - i * c)) ∧ Below w.heap.size w w' := by
  subst had
  have h1 : i * c + c ≤ n := by
    rw [hn]
    have : (i + 1) * c ≤ r * c := Nat.mul_le_mul_right c (by omega)
    rw [Nat.succ_mul] at this; exact this
  have hnb : n ≤ 256 := by rw [hn]; exact Nat.le_trans (Nat.mul_le_mul hr2 hc2) (by decide)
  obtain ⟨p, hp⟩ : ∃ p, p = i * c := ⟨_, rfl⟩
  have e1 : ((i : Int) * (c : Int)) = (p : Int) := by rw [hp]; rfl
  have e2 : (((i : Int) + 1) * (c : Int)) = ((p + c : Nat) : Int) := by rw [hp, Int.add_mul, Int.one_mul]; rfl
  rw [← hp] at h1 ⊢
  clear hp hn
  go_enter Try.func85, Try.ntmps85
  go_wp2
  go_ret
  exact ⟨by rw [Nat.add_sub_cancel_left]; rfl, below1 _ _⟩
end Go.Proofs.Ytfjfjgegdaekbaa
/- Rows of a tensor. No condition. -/
namespace Go.Proofs.Ytfjfjgegdaekbaa
open Go Go.RowKit
set_option linter.unusedVariables false
set_option linter.unusedSimpArgs false
theorem slices_CloneF (w : World) (ad : Option Addr) (cap : Nat) (xs : List Nat) (h : F32s w ad cap xs) (hc : ad = none → cap = 0) (hn : xs.length ≤ 1048576) :
    Calls Try.prog 61 #[.slice ad xs.length cap] w fun e w' => ∃ ad' cap', e = .returned (.slice ad' xs.length cap') ∧ Hid (RepF w' w.heap.size w'.heap.size ad' xs.length cap' xs) ∧ Below w.heap.size w w' := by
  refine (slices_Clone w ad cap xs h hc hn).mono ?_
  rintro e w' ⟨v, rfl, ho, hb⟩
  obtain ⟨ad', cap', rfl, hr⟩ := RepF.of_owns ho h.lt
  exact ⟨ad', cap', rfl, Lib.hid hr, hb⟩
theorem wrap_ok {x : Int} (h1 : -1000000 ≤ x) (h2 : x ≤ 1000000) : IntKind.i64.wrap x = x := by rw [IntKind.wrap_i64]; omega
end Go.Proofs.Ytfjfjgegdaekbaa
/- Tapes that are copied by the program. No condition. -/
namespace Go.Proofs.Ytfjfjgegdaekbaa
open Go Go.RowKit
set_option linter.unusedVariables false
set_option linter.unusedSimpArgs false
/-- operations, each with a mark that tells whether its numbers are the call's own -/
def optR : RecT (OpD × Bool) := ⟨46, 7, fun p => p.1.cells, fun p => if p.2 = true then [floatRow p.1.ad p.1.cap p.1.xs] else [], fun p => p.1.ok, fun _ => rfl⟩
theorem optR_cells (us : List (OpD × Bool)) : us.flatMap optR.cells = (us.map Prod.fst).flatMap opR.cells := by
  induction us with
  | nil => rfl
  | cons a us ih => rw [List.flatMap_cons, ih, List.map_cons, List.flatMap_cons]; rfl
theorem optR_inn (us : List (OpD × Bool)) (h : ∀ p ∈ us, p.2 = true) : us.flatMap optR.inn = (us.map Prod.fst).flatMap opR.inn := by
  induction us with
  | nil => rfl
  | cons a us ih =>
    rw [List.flatMap_cons, ih (fun p hp => h p (List.mem_cons_of_mem _ hp)), List.map_cons, List.flatMap_cons]
    have e : a.2 = true := h a (List.mem_cons_self ..)
    show (if a.2 = true then _ else _) ++ _ = _
    rw [if_pos e]; rfl
theorem optR_none (os : List OpD) : (os.map fun o => (o, false)).flatMap optR.inn = [] := by
  induction os with
  | nil => rfl
  | cons a us ih => rw [List.map_cons, List.flatMap_cons, ih]; rfl
theorem OwnR.ofOpt {w : World} {lo hi n cap : Nat} {ad : Option Addr} {us : List (OpD × Bool)} (h : OwnR optR w lo hi ad n cap us) (ht : ∀ p ∈ us, p.2 = true) : OwnR opR w lo hi ad n cap (us.map Prod.fst) := by
  refine ⟨?_, by rw [List.length_map]; exact h.len, fun o ho => ?_⟩
  · have h0 := h.own
    rw [optR_cells, optR_inn us ht] at h0
    exact h0
  · obtain ⟨p, hp, rfl⟩ := List.mem_map.1 ho
    exact h.ok p hp
/-- no list without a place has room -/
def nilOK (os : List OpD) : Prop := ∀ o ∈ os, o.ad = none → o.cap = 0
theorem OwnR.nilOK {w : World} {lo hi n cap : Nat} {ad : Option Addr} {us : List OpD} (h : OwnR opR w lo hi ad n cap us) : nilOK us := fun o ho =>
  (h.own.repF (List.mem_cons_of_mem _ (List.mem_flatMap.2 ⟨o, ho, List.mem_singleton.2 rfl⟩)) (h.ok o ho).1).nilcap
theorem OwnR.nilcap {α : Type} {R : RecT α} {w : World} {lo hi n cap : Nat} {ad : Option Addr} {us : List α} (h : OwnR R w lo hi ad n cap us) : ad = none → cap = 0 := by
  intro e
  subst e
  rcases h.own.head.own.2 with ⟨h1, _⟩ | ⟨g, cap', cur, h1, _⟩
  · unfold RowD.val at h1
    simp only at h1
    cases h1; rfl
  · unfold RowD.val at h1
    cases h1
theorem opd_cells_one (o : OpD) : ∀ u ∈ o.cells, u.oneCell' = true := by
  intro u hu
  unfold OpD.cells at hu
  simp at hu
  rcases hu with rfl | rfl | rfl | rfl | rfl | rfl | rfl <;> rfl
set_option maxHeartbeats 2000000 in
theorem impl_copyTensor (w : World) (r c : Int) (ad : Option Addr) (cap : Nat) (xs : List Nat) (h : F32s w ad cap xs) (hc : ad = none → cap = 0) (hn : xs.length ≤ 1048576) :
    Calls Try.prog 44 #[.agg #[.int .i64 r, .int .i64 c, .slice ad xs.length cap]] w fun e w' => ∃ ad' cap', e = .returned (.agg #[.int .i64 r, .int .i64 c, .slice ad' xs.length cap']) ∧ Hid (RepF w' w.heap.size w'.heap.size ad' xs.length cap' xs) ∧ Below w.heap.size w w' := by
  have b2 := below2 w (.cells #[.int .i64 r, .int .i64 c, .slice ad xs.length cap] 44) (.cells #[.int .i64 0, .int .i64 0, .slice none 0 0] 44)
  have K := Lib.hid (slices_CloneF _ ad cap xs (h.below b2) hc hn)
  have XB := Lib.hid ((BoxN.alloc w #[.int .i64 r, .int .i64 c, .slice ad xs.length cap] 44).below (below1 _ (.cells #[.int .i64 0, .int .i64 0, .slice none 0 0] 44)))
  have RB := Lib.hid (BoxN.alloc2 w (.cells #[.int .i64 r, .int .i64 c, .slice ad xs.length cap] 44) #[.int .i64 0, .int .i64 0, .slice none 0 0] 44)
  have B := Lib.hid b2
  obtain ⟨n, hN⟩ : ∃ n, n = xs.length := ⟨_, rfl⟩
  rw [← hN] at K XB RB B ⊢
  clear b2 h hN hn hc
  go_enter Try.func44, Try.ntmps44
  go_wp2_with fail
  refine K.out.mono ?_
  rintro e w' ⟨a', c', rfl, HR, hb⟩
  obtain ⟨-, x0, x1, x2, xf⟩ := (XB.out.below hb).three
  obtain ⟨-, r0, r1, r2, rf⟩ := (RB.out.below hb).three
  have HB := Lib.hid (bthen B.out hb)
  have hz := hb.size
  simp at hz
  clear hb
  go_wp2
  refine bodyPost_ret (v := .agg #[.int .i64 r, .int .i64 c, .slice a' n c']) (by simp [results, Try.results44, go_sem, r0, r1, r2, x0, x1, x2]) rfl ⟨_, _, rfl, Lib.hid ?_, ?_⟩
  · have h1 := setCs_repF (g := w.heap.size) (lo' := w.heap.size + 2) (i := 2) HR.out (by simp; omega) (by simp) (Nat.le_refl _) [.slice a' n c']
    have h2 := setCs_repF (g := w.heap.size + 1) (lo' := w.heap.size) (i := 0) h1 (by omega) (by omega) (Nat.le_refl _) [.int .i64 r, .int .i64 c, .slice a' n c']
    exact h2
  · exact setCs_below (setCs_below HB.out (g := w.heap.size) (by omega) 2 [.slice a' n c']) (g := w.heap.size + 1) (by omega) 0 [.int .i64 r, .int .i64 c, .slice a' n c']
theorem setL_same {vs : List Value} {i : Nat} {cs : List Value} (h : ∀ j, j < cs.length → vs[i + j]? = cs[j]?) : setL vs i cs = vs := by
  induction cs generalizing i with
  | nil => rfl
  | cons c cs ih =>
    have h0 := h 0 (by simp)
    show setL (vs.set i c) (i + 1) cs = vs
    rw [set_same (by simpa using h0)]
    refine ih fun j hj => ?_
    have h1 := h (j + 1) (by simpa using hj)
    rw [show i + 1 + j = i + (j + 1) by omega, h1]; rfl
theorem RecT.tail {α : Type} (R : RecT α) {us : List α} {k : Nat} {p a : α} (hk : us[k]? = some p) (pre post : List Value) (ha : R.cells a = pre ++ post) (hp : ∀ j, j < pre.length → (R.cells p)[j]? = pre[j]?) :
    setL (us.flatMap R.cells) (k * R.size) (R.cells a) = setL (us.flatMap R.cells) (k * R.size + pre.length) post := by
  have hl := congrArg List.length ha
  rw [R.len, List.length_append] at hl
  have hs : setL (us.flatMap R.cells) (k * R.size) pre = us.flatMap R.cells := setL_same fun j hj => by
    rw [flat_at R us hk (by omega), hp j hj]
  rw [ha, setL_append, hs]
end Go.Proofs.Ytfjfjgegdaekbaa
/- A region whose order is open, whose operations read old memory and make calls that leave the old memory: one walk in the order of the text serves every order. No condition. -/
namespace Go.Proofs.Ytfjfjgegdaekbaa
open Go Go.RowKit
set_option linter.unusedVariables false
section
variable {P : Program} {ops : Array Oper} {C : World → Prop} {VC : FuncId → Array Value → Value → Prop} {Q : Act → Prop} {o : Oper} {rest : List Oper} {a : Act}
/-- what is asked of one operation in a world of the class: every value that it gives leads on -/
@[go_sem] def UponC (P : Program) (VC : FuncId → Array Value → Value → Prop) (C : World → Prop) (K : Value → Prop) : Result Next → Prop
  | .ok (.value v) w' => C w' ∧ K v
  | .ok .skip w' => C w' ∧ K undef
  | .ok (.enter f args) w' => C w' ∧ (Calls P f args w' fun e w'' => ∃ v, e = .returned v ∧ C w'' ∧ VC f args v) ∧ ∀ v, VC f args v → K v
  | _ => False
theorem cset_step {w0 : World} (h0 : C w0) (h : ∀ K : Act → Prop, (∀ a, WSet P ops C VC Q rest a → K a) → ∀ W : World, C W → if Region.wanted o (yielded ops a.tmps) then UponC P VC C (fun v => K (a.put o.dst v)) ((execOp a.eval o).run P W) else K (a.put o.dst undef)) :
    WSet P ops C VC Q (o :: rest) a := by
  have h := h _ (fun _ h => h)
  refine ⟨fun hw w' hC => ?_, fun v hv => ?_⟩
  · have := h w' hC
    rw [if_pos hw] at this
    revert this
    generalize (execOp a.eval o).run P w' = r
    intro this
    unfold UponC at this
    unfold FineRes
    split at this
    · exact this.1
    · exact this.1
    · exact ⟨this.1, this.2.1⟩
    · cases this
  · rcases hv with ⟨hw, w1, w2, hC, hv⟩ | ⟨hw, rfl⟩
    · have := h w1 hC
      rw [if_pos hw] at this
      unfold UponC at this
      rcases hv with hv | ⟨hv, rfl⟩ | ⟨f, args, hv, hvc⟩
      · rw [hv] at this; exact this.2
      · rw [hv] at this; exact this.2
      · rw [hv] at this; exact this.2.2 v hvc
    · have := h w0 h0
      rwa [if_neg (by rw [hw]; exact Bool.false_ne_true)] at this
theorem cset_nil (hq : Q a) : WSet P ops C VC Q [] a := hq
/-- what two functions give -/
def VC2 (fa : FuncId) (va : Value) (fb : FuncId) (vb : Value) (f : FuncId) (args : Array Value) (u : Value) : Prop := (f = fa → u = va) ∧ (f = fb → u = vb)
theorem VC2.one {fa fb : FuncId} {va vb : Value} {args : Array Value} (h : fa ≠ fb) : VC2 fa va fb vb fa args va := ⟨fun _ => rfl, fun e => absurd e h⟩
theorem VC2.two {fa fb : FuncId} {va vb : Value} {args : Array Value} (h : fb ≠ fa) : VC2 fa va fb vb fb args vb := ⟨fun e => absurd e h, fun _ => rfl⟩
def VC1 (va : Value) (f : FuncId) (args : Array Value) (u : Value) : Prop := u = va
/-- a world in which all old memory is as it was -/
def Low (w W : World) : Prop := Below w.heap.size w W
@[go_sem] theorem low_drawn {w W : World} (h : Low w W) (n : Nat) : Low w (W.drewN n) = True := by
  exact eq_true (below_drewN h n)
theorem low_self (w : World) : Low w w := Below.refl _ _
theorem low_drew1 (w : World) : Low w { w with drawn := w.drawn + 1 } := Below.drew (Below.refl _ _)
/-- **the region, by the walk in the order of the text, in worlds in which the old memory is as it was** -/
theorem wp_region_low {id : Nat} {Q : Exit → Act → World → Prop} {a : Act} {w : World} {l : List Oper} (VC : FuncId → Array Value → Value → Prop) (hm : P.follows .mixedOrders = true) (hB : Region.lexB .any l.toArray = true)
    (h : WSet P l.toArray (Low w) VC (fun a' => ∀ w', Low w w' → Q .normal a' w') l a) : (Code.region id l.toArray true).wp P Q a w :=
  wp_region_set (Low w) VC hm hB (low_drew1 w) h
end
end Go.Proofs.Ytfjfjgegdaekbaa
