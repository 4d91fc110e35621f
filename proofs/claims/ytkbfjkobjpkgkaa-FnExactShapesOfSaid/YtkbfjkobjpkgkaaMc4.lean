/- Joined texts 4: Tp2. Each is told at its own head. No condition. -/
import Derived.Test.YtkbfjkobjpkgkaaMc3
/- The shapes of the values of a tape: the reference. No condition. -/
namespace Go.Proofs.Ytkbfjkobjpkgkaa
open Go Go.RowKit
set_option linter.unusedVariables false
set_option linter.unusedSimpArgs false
def shTenR : RecT Sh := ⟨31, 3, fun s => [.int .i64 s.1, .int .i64 s.2, .slice none 0 0], fun _ => [], fun _ => True, fun _ => rfl⟩
theorem shapesP_eq {os : List OpP} {n : Nat} (h : n = os.length) (h1 : 1 ≤ n) (h2 : n ≤ 48) : shapesP os = shapesN os n := by
  unfold shapesP; rw [← h, if_pos ⟨h1, h2⟩]
theorem shapesP_no {os : List OpP} {n : Nat} (h : n = os.length) (h1 : ¬(1 ≤ n ∧ n ≤ 48)) : shapesP os = none := by
  unfold shapesP; rw [← h, if_neg h1]
/-- a shape that does not fit -/
theorem shapes_stop {os : List OpP} {n k : Nat} {o : OpP} {S : List Sh} (hn : n = os.length) (h1 : 1 ≤ n) (h2 : n ≤ 48) (ho : os[k]? = some o) (hS : shapesN os k = some S) (h : stepSh S o = none) : shapesP os = none := by
  have hk : k < os.length := (List.getElem?_eq_some_iff.1 ho).1
  rw [shapesP_eq hn h1 h2]
  refine shapesN_none (k := k + 1) ?_ (by omega) (by omega)
  rw [shapesN_succ ho, hS]; exact h
theorem step_unfit {S : List Sh} {o : OpP} (h : fitsB S.length o = false) : stepSh S o = none := by
  unfold stepSh; rw [h]; rfl
theorem shGet_some {S : List Sh} {i : Nat} (h : i < S.length) : S[i]? = some (shGet S (i : Int)) := by
  unfold shGet
  rw [List.getD_eq_getElem?_getD, Int.toNat_natCast, List.getElem?_eq_getElem h]; rfl
/-- what the reference tells of the shapes -/
def ShOut (os : List OpP) (w w' : World) (v : Value) (b : Bool) : Prop := b = (shapesP os).isSome ∧ ∀ S, shapesP os = some S → ∃ ad cap, v = .slice ad S.length cap ∧ OwnR shTenR w' w.heap.size w'.heap.size ad S.length cap S
theorem ShOut.no {os : List OpP} {w w' : World} {v : Value} (h : shapesP os = none) : ShOut os w w' v false := ⟨by rw [h]; rfl, fun S hS => by rw [h] at hS; cases hS⟩
/-- a shape is appended -/
theorem sh_snoc {w W w9 : World} {B k cap : Nat} {ad : Option Addr} {S : List Sh} {s : Sh} {v' : Value} {o : Obj} (h : OwnR shTenR w B w.heap.size ad k cap S) (hB : B ≤ w.heap.size) (hb : Below w.heap.size w W)
    (ho : w9.ownsRow B 31 3 v' (k + 1) (S.flatMap shTenR.cells ++ [.int .i64 s.1, .int .i64 s.2, .slice none 0 0])) (hg : (W.alloc o).grownBy w9 (Value.slice ad k cap).ownBlock) (hat : v'.ownBlock = (Value.slice ad k cap).ownBlock ∨ v'.ownBlock = some (W.heap.size + 1)) :
    ∃ ad' cap', v' = .slice ad' (k + 1) cap' ∧ OwnR shTenR w9 B w9.heap.size ad' (k + 1) cap' (S ++ [s]) :=
  h.snoc hB hb trivial (Own.nil W _ W.heap.size) (Nat.le_refl _) hb.size ho hg hat
theorem sh_row {w W : World} {B k cap : Nat} {ad : Option Addr} {S : List Sh} (h : OwnR shTenR w B w.heap.size ad k cap S) (hb : Below w.heap.size w W) : W.ownsRow B 31 3 (.slice ad k cap) k (S.flatMap shTenR.cells) := (h.below hb).own.head.own
set_option maxHeartbeats 16000000 in
set_option maxRecDepth 100000 in
theorem spec_l04Shapes (w : World) (ad : Option Addr) (cap : Nat) (os : List OpD) (h : SeeR opR w ad cap os) :
    Calls Try.prog 152 #[.slice ad os.length cap] w fun e w' => ∃ v b, e = .returned (.tuple #[v, .bool b]) ∧ Hid (ShOut (os.map OpD.toOpP) w w' v b) ∧ Below w.heap.size w w' := by
  obtain ⟨i0, hi0, hz0, hzs, hz2⟩ := info_parts info_ten
  have hm := Nat.le_trans h.le h.cap
  unfold maxLen at hm
  obtain ⟨n, hN⟩ : ∃ n, n = os.length := ⟨_, rfl⟩
  have hP : n = (os.map OpD.toOpP).length := by rw [List.length_map]; exact hN
  rw [← hN] at hm ⊢
  have HN := Lib.hid hN; have HP := Lib.hid hP; have H := Lib.hid h; clear hN hP h
  by_cases hr : (1 ≤ n ∧ n ≤ 48)
  rotate_left
  · have K := Lib.hid (fun W => l00In_any n 1 48 W)
    have hb : inB n 1 48 = false := by
      cases e : inB (n : Int) 1 48 with
      | false => rfl
      | true => have := inB_iff.1 e; omega
    rw [hb] at K
    have HS := Lib.hid (shapesP_no HP.out hr)
    clear hb hr
    go_enter Try.func152, Try.ntmps152
    go_wp2_with fail
    refine (K.out _).mono ?_
    rintro e w1 ⟨rfl, rfl⟩
    go_wp2
    go_ret2
    exact ⟨_, _, rfl, Lib.hid (ShOut.no HS.out), below1 _ _⟩
  obtain ⟨hn1, hn2⟩ := hr
  have K := Lib.hid (fun W => l00In_any n 1 48 W)
  rw [inB_iff.2 ⟨by omega, by omega⟩] at K
  go_enter Try.func152, Try.ntmps152
  go_wp2_with fail
  refine (K.out _).mono ?_
  rintro e w1 ⟨rfl, rfl⟩
  clear K
  go_wp2
  go_loopw [4, 5] (fun v i wt => ∃ k : Nat, i = .int .i64 k ∧ k ≤ n ∧ ∃ (S : List Sh) (ad' : Option Addr) (cap' : Nat), v = .slice ad' k cap' ∧ Hid (shapesN (os.map OpD.toOpP) k = some S ∧ OwnR shTenR wt w.heap.size wt.heap.size ad' k cap' S) ∧ Hid (Below w.heap.size w wt)) (fun _ i _ => n - (intOf i).toNat)
  case atStart =>
    refine ⟨0, rfl, Nat.zero_le _, [], _, _, rfl, Lib.hid ⟨rfl, ?_⟩, Lib.hid (below1 _ _)⟩
    exact ⟨Own.one (Row.mk' (World.ownsRow_made _ _ _ (Nat.le_refl _) (Nat.zero_le _) rfl)), rfl, fun a ha => (nomatch ha)⟩
  case round =>
    obtain ⟨k, rfl, hk, S, ad', cap', rfl, HS, HB⟩ := hrel
    by_cases hlt : k < n
    · obtain ⟨o, ho⟩ := getElem?_lt (show k < os.length by rw [← HN.out]; exact hlt)
      obtain ⟨b, off, rfl, hbl, ⟨p0, p1, p2, p3, p4, p5, p6⟩, hf, hok⟩ := op_spot (H.out.below HB.out) ho
      have hop : (os.map OpD.toOpP)[k]? = some o.toOpP := by rw [List.getElem?_map, ho]; rfl
      have hSl := shapesN_length (by rw [← HP.out]; omega) HS.out.1
      have hxm : o.xs.length ≤ maxLen := Nat.le_trans hf.len hf.cap
      have hno : ∀ (W : World) (v : Value), fitsB k o.toOpP = false → ShOut (os.map OpD.toOpP) w W v false := fun _ _ h1 => ShOut.no (shapes_stop HP.out hn1 hn2 hop HS.out.1 (step_unfit (by rw [hSl]; exact h1)))
      have hyes : fitsB k o.toOpP = true → shapesN (os.map OpD.toOpP) (k + 1) = (if o.k = 0 then some (S ++ [(o.r, o.c)]) else (shapeOf o.k (shGet S o.a) (shGet S o.b)).map fun s => S ++ [s]) := by
        intro h1
        rw [shapesN_succ hop, HS.out.1]
        show stepSh S o.toOpP = _
        unfold stepSh
        rw [hSl, if_pos h1]
      have hnoS : ∀ (W : World) (v : Value), fitsB k o.toOpP = true → o.k ≠ 0 → shapeOf o.k (shGet S o.a) (shGet S o.b) = none → ShOut (os.map OpD.toOpP) w W v false := fun _ _ h1 h2 h3 => ShOut.no (shapes_stop HP.out hn1 hn2 hop HS.out.1 (by unfold stepSh; rw [hSl, if_pos h1, if_neg h2, h3]; rfl))
      obtain ⟨hok1, hok2, hok3, hok4, hok5, hok6, hok7⟩ := hok
      have HNO := Lib.hid hno; have HY := Lib.hid hyes; have HNS := Lib.hid hnoS; have HSL := Lib.hid hSl
      clear hno hyes hnoS hop ho hf hSl hok1 hok4 hok5 hok6 hok7
      obtain ⟨⟨kk, a, b', q, r, c, xs⟩, adx, capx⟩ := o
      simp only at p0 p1 p2 p3 p4 p5 p6 HY HNO HNS hxm hok2 hok3
      obtain ⟨m, hM⟩ : ∃ m, m = xs.length := ⟨_, rfl⟩
      have hxm : m ≤ maxLen := by rw [hM]; exact hxm
      have HFB : Hid (fitsB k ⟨kk, a, b', q, r, c, xs⟩ = (inB kk 0 10 && ((kk == 5 || zeroB q) && (if kk = 0 then (a == 0 && (b' == 0 && tenB r c m)) else ((r == 0 && (c == 0 && decide (m = 0))) && (inB a 0 (k - 1) && (if twoB kk = true then inB b' 0 (k - 1) else b' == 0))))))) := by
        rw [hM]; unfold fitsB; simp only [Bool.and_assoc]; exact Lib.hid trivial
      rw [← hM] at p6
      clear hM
      have K1 := Lib.hid (fun W => l00In_any kk 0 10 W)
      have K2 := Lib.hid (fun W => spec_l01Same q 0 hok2 (by decide) W)
      cases e1 : inB kk 0 10
      · rw [e1] at K1
        go_wp2_with fail
        refine (K1.out _).mono ?_
        rintro e w1 ⟨rfl, rfl⟩
        have HF := Lib.hid (fun W v => HNO.out W v (by rw [HFB.out, e1]; rfl))
        clear HNO HY HNS HFB e1 K2
        go_wp2
        go_ret2
        exact ⟨_, _, rfl, Lib.hid (HF.out _ _), HB.out.alloc HB.out.size _⟩
      clear K1 K2
      rcases (by have := inB_iff.1 e1; omega : kk = 0 ∨ kk = 1 ∨ kk = 2 ∨ kk = 3 ∨ kk = 4 ∨ kk = 5 ∨ kk = 6 ∨ kk = 7 ∨ kk = 8 ∨ kk = 9 ∨ kk = 10) with hkk | hkk | hkk | hkk | hkk | hkk | hkk | hkk | hkk | hkk | hkk
      · as_aux_lemma =>
          subst hkk
          have K1 := Lib.hid (fun W => l00In_any 0 0 10 W)
          rw [show inB (0 : Int) 0 10 = true by decide] at K1
          have K2 := Lib.hid (fun W => spec_l01Same q 0 hok2 (by decide) W)
          have ez : decide (cn .f32 q = cn .f32 0) = zeroB q := rfl
          rw [ez] at K2
          go_wp2_with fail
          refine (K1.out _).mono ?_
          rintro e w1 ⟨rfl, rfl⟩
          cases e2 : zeroB q
          · rw [e2] at K2
            go_wp2_with fail
            refine (K2.out _).mono ?_
            rintro e w1 ⟨rfl, rfl⟩
            have HF := Lib.hid (fun W v => HNO.out W v (by rw [HFB.out, e2]; rfl))
            clear HNO HY HNS HFB HS H
            go_wp2
            go_ret2
            exact ⟨_, _, rfl, Lib.hid (HF.out _ _), HB.out.alloc HB.out.size _⟩
          rw [e2] at K2
          go_wp2_with fail
          refine (K2.out _).mono ?_
          rintro e w1 ⟨rfl, rfl⟩
          cases e4 : (a == 0)
          · have e7 : (a != 0) = true := by simpa [bne] using e4
            have HF := Lib.hid (fun W v => HNO.out W v (by rw [HFB.out, e2, e4]; rfl))
            clear HNO HY HNS HFB HS H
            go_wp2
            go_ret2
            exact ⟨_, _, rfl, Lib.hid (HF.out _ _), HB.out.alloc HB.out.size _⟩
          cases e5 : (b' == 0)
          · obtain rfl : a = 0 := by simpa using e4
            have e7 : (b' != 0) = true := by simpa [bne] using e5
            have HF := Lib.hid (fun W v => HNO.out W v (by rw [HFB.out, e2, e4, e5]; rfl))
            clear HNO HY HNS HFB HS H
            go_wp2
            go_ret2
            exact ⟨_, _, rfl, Lib.hid (HF.out _ _), HB.out.alloc HB.out.size _⟩
          have K3 := Lib.hid (fun W h1 h2 h3 => spec_l02Is W wr.heap.size 4 r c adx m capx hxm h1 h2 h3)
          cases e6 : tenB r c m
          · rw [e6] at K3
            obtain rfl : a = 0 := by simpa using e4
            obtain rfl : b' = 0 := by simpa using e5
            go_wp2_with fail
            refine (K3.out _ (by go_simp) (by go_simp) (by go_simp)).mono ?_
            rintro e w1 ⟨rfl, qd, rfl⟩
            have HF := Lib.hid (fun W v => HNO.out W v (by rw [HFB.out, e2, e6]; rfl))
            clear HNO HY HNS HFB HS H
            go_wp2
            go_ret2
            exact ⟨_, _, rfl, Lib.hid (HF.out _ _), below_drewN (HB.out.alloc HB.out.size _) _⟩
          rw [e6] at K3
          have hfit : fitsB k ⟨0, a, b', q, r, c, xs⟩ = true := by rw [HFB.out, e2, e4, e5, e6]; rfl
          have hya := HY.out hfit
          rw [if_pos (by first | trivial | rfl)] at hya
          obtain rfl : a = 0 := by simpa using e4
          obtain rfl : b' = 0 := by simpa using e5
          clear HNO HY HNS HFB e4 e5 e6 hfit e2
          go_wp2_with fail
          refine (K3.out _ (by go_simp) (by go_simp) (by go_simp)).mono ?_
          rintro e w1 ⟨rfl, qd, rfl⟩
          have hz1 := fun W hb => sh_row HS.out.2 (W := W) hb
          have HR := Lib.hid hz1
          clear hz1
          go_wp2_with (at_builtin; refine wp_appA rfl _ _ 47 rfl w.heap.size i0 (.agg #[.int .i64 0, .int .i64 0, .slice none 0 0]) 3 40 Try.underlying47 hi0 hz0 hzs hz2 rfl (by decide) rfl (by intro u hu; simp at hu; rcases hu with rfl | rfl | rfl <;> rfl) _ _ _ rfl (HR.out _ (below_drewN (below1 _ _) _)) (by go_simp) ?c3 ?c4 ?c5 ?_)
          case c3 => unfold maxLen; omega
          case c4 => omega
          case c5 => have := HB.out.size; simp; omega
          intro v' w9 ho9 hg9 hat9 hb9 hs9
          obtain ⟨ad9, cap9, rfl, hown9⟩ := sh_snoc (s := (r, c)) HS.out.2 HB.out.size (below_drewN (below1 _ _) _) ho9 hg9 (by simpa using hat9)
          have HO9 := Lib.hid (And.intro hya hown9); have HB9 := Lib.hid ((below_drewN (HB.out.alloc HB.out.size _) _).trans hb9)
          clear ho9 hg9 hat9 hb9 hya hown9 HR HS HB p0 p1 p2 p3 p4 p5 p6
          go_wp2
          go_roundw
          case rel => exact ⟨k + 1, by go_num, hlt, _, _, _, rfl, HO9, HB9⟩
          case measure => simp [intOf]; omega
      · as_aux_lemma =>
          subst hkk
          have K1 := Lib.hid (fun W => l00In_any 1 0 10 W)
          rw [show inB (1 : Int) 0 10 = true by decide] at K1
          have KT := Lib.hid (fun W => spec_l04Two 1 W)
          rw [show twoB (1 : Int) = true by decide] at KT
          go_wp2_with fail
          refine (K1.out _).mono ?_
          rintro e w1 ⟨rfl, rfl⟩
          have K2 := Lib.hid (fun W => spec_l01Same q 0 hok2 (by decide) W)
          have ez : decide (cn .f32 q = cn .f32 0) = zeroB q := rfl
          rw [ez] at K2
          cases e2 : zeroB q
          · rw [e2] at K2
            go_wp2_with fail
            refine (K2.out _).mono ?_
            rintro e w1 ⟨rfl, rfl⟩
            have HF := Lib.hid (fun W v => HNO.out W v (by rw [HFB.out, e2]; rfl))
            clear HNO HY HNS HFB HS H
            go_wp2
            go_ret2
            exact ⟨_, _, rfl, Lib.hid (HF.out _ _), HB.out.alloc HB.out.size _⟩
          rw [e2] at K2
          go_wp2_with fail
          refine (K2.out _).mono ?_
          rintro e w1 ⟨rfl, rfl⟩
          have K4 := Lib.hid (fun W h1 h2 h3 => spec_l04None W wr.heap.size 4 r c adx m capx h1 h2 h3)
          cases e4 : (r == 0 && (c == 0 && decide (m = 0)))
          · rw [e4] at K4
            go_wp2_with fail
            refine (K4.out _ (by go_simp) (by go_simp) (by go_simp)).mono ?_
            rintro e w1 ⟨rfl, rfl⟩
            have HF := Lib.hid (fun W v => HNO.out W v (by rw [HFB.out, e2, e4]; rfl))
            clear HNO HY HNS HFB HS H
            go_wp2
            go_ret2
            exact ⟨_, _, rfl, Lib.hid (HF.out _ _), HB.out.alloc HB.out.size _⟩
          rw [e4] at K4
          go_wp2_with fail
          refine (K4.out _ (by go_simp) (by go_simp) (by go_simp)).mono ?_
          rintro e w1 ⟨rfl, rfl⟩
          have K5 := Lib.hid (fun W => l00In_any a 0 (k - 1) W)
          cases e5 : inB a 0 (k - 1)
          · rw [e5] at K5
            go_wp2_with fail
            refine (K5.out _).mono ?_
            rintro e w1 ⟨rfl, rfl⟩
            have HF := Lib.hid (fun W v => HNO.out W v (by rw [HFB.out, e2, e4, e5]; rfl))
            clear HNO HY HNS HFB HS H
            go_wp2
            go_ret2
            exact ⟨_, _, rfl, Lib.hid (HF.out _ _), HB.out.alloc HB.out.size _⟩
          rw [e5] at K5
          go_wp2_with fail
          refine (K5.out _).mono ?_
          rintro e w1 ⟨rfl, rfl⟩
          go_wp2_with fail
          refine (KT.out _).mono ?_
          rintro e w1 ⟨rfl, rfl⟩
          have K6 := Lib.hid (fun W => l00In_any b' 0 (k - 1) W)
          cases e6 : inB b' 0 (k - 1)
          · rw [e6] at K6
            go_wp2_with fail
            refine (K6.out _).mono ?_
            rintro e w1 ⟨rfl, rfl⟩
            have HF := Lib.hid (fun W v => HNO.out W v (by rw [HFB.out, e2, e4, e5, e6]; rfl))
            clear HNO HY HNS HFB HS H
            go_wp2
            go_ret2
            exact ⟨_, _, rfl, Lib.hid (HF.out _ _), HB.out.alloc HB.out.size _⟩
          rw [e6] at K6
          go_wp2_with fail
          refine (K6.out _).mono ?_
          rintro e w1 ⟨rfl, rfl⟩
          go_wp2_with fail
          refine (KT.out _).mono ?_
          rintro e w1 ⟨rfl, rfl⟩
          have ⟨a1, a2⟩ := inB_iff.1 e5
          have ⟨b1, b2⟩ := inB_iff.1 e6
          obtain ⟨A, rfl⟩ : ∃ A : Nat, a = A := ⟨a.toNat, by omega⟩
          obtain ⟨B, rfl⟩ : ∃ B : Nat, b' = B := ⟨b'.toNat, by omega⟩
          have hfit : fitsB k ⟨1, A, B, q, r, c, xs⟩ = true := by rw [HFB.out, e2, e4, e5, e6]; rfl
          have hAk : A < k := by omega
          have hBk : B < k := by omega
          have hya := HY.out hfit
          rw [if_neg (by decide)] at hya
          have hns := fun W v => HNS.out W v hfit (by decide)
          clear HNO HY HNS HFB e4 e5 e6 K1 K4 K5 K6 KT K2 e2 ez hfit
          have hsa := shGet_some (S := S) (i := A) (by rw [HSL.out]; exact hAk)
          have hsb := shGet_some (S := S) (i := B) (by rw [HSL.out]; exact hBk)
          obtain ⟨⟨v1, v2⟩, hv⟩ : ∃ v, v = shGet S A := ⟨_, rfl⟩
          obtain ⟨⟨u1, u2⟩, hu⟩ : ∃ v, v = shGet S B := ⟨_, rfl⟩
          rw [← hv] at hsa hya hns
          rw [← hu] at hsb hya hns
          obtain ⟨g, rfl, hgr, ca, hfz⟩ := HS.out.2.spot hsa (by decide)
          obtain ⟨g', eg, -, cb, -⟩ := HS.out.2.spot hsb (by decide)
          cases eg
          have ca0 : wr.cell? ⟨g, A * 3, none⟩ = some (.int .i64 v1) := ca 0 (by decide)
          have ca1 : wr.cell? ⟨g, A * 3 + 1, none⟩ = some (.int .i64 v2) := ca 1 (by decide)
          have ca2 : wr.cell? ⟨g, A * 3 + 2, none⟩ = some (.slice none 0 0) := ca 2 (by decide)
          have cb0 : wr.cell? ⟨g, B * 3, none⟩ = some (.int .i64 u1) := cb 0 (by decide)
          have cb1 : wr.cell? ⟨g, B * 3 + 1, none⟩ = some (.int .i64 u2) := cb 1 (by decide)
          have cb2 : wr.cell? ⟨g, B * 3 + 2, none⟩ = some (.slice none 0 0) := cb 2 (by decide)
          have hgl := hgr.2.2
          have HGR := Lib.hid hgr
          clear ca cb hsa hsb hv hu hgr
          by_cases hf : v1 = u1
          · subst hf
            by_cases hf2 : v2 = u2
            · subst hf2
              rw [show shapeOf 1 (v1, v2) (v1, v2) = some (v1, v2) by simp [shapeOf]] at hya
              have t1 : (v1 == v1) = true := beq_self_eq_true _
              have t2 : (v2 == v2) = true := beq_self_eq_true _
              have hz1 := fun W hb => sh_row HS.out.2 (W := W) hb
              have HR := Lib.hid hz1
              clear hz1
              go_wp2_with (at_builtin; refine wp_appA rfl _ _ 47 rfl w.heap.size i0 (.agg #[.int .i64 0, .int .i64 0, .slice none 0 0]) 3 40 Try.underlying47 hi0 hz0 hzs hz2 rfl (by decide) rfl (by intro u hu; simp at hu; rcases hu with rfl | rfl | rfl <;> rfl) _ _ _ rfl (HR.out _ (by repeat (first | exact Below.refl _ _ | refine Below.alloc ?_ (by simp; try omega) _))) (by go_simp) ?c3 ?c4 ?c5 ?_)
              case c3 => unfold maxLen; omega
              case c4 => omega
              case c5 => have := HB.out.size; simp; omega
              intro v' w9 ho9 hg9 hat9 hb9 hs9
              obtain ⟨ad9, cap9, rfl, hown9⟩ := sh_snoc (s := (v1, v2)) HS.out.2 HB.out.size (by repeat (first | exact Below.refl _ _ | refine Below.alloc ?_ (by simp; try omega) _)) ho9 hg9 (by simpa using hat9)
              have HO9 := Lib.hid (And.intro hya hown9); have HB9 := Lib.hid ((HB.out.trans ((show Below wr.heap.size wr _ by repeat (first | exact Below.refl _ _ | refine Below.alloc ?_ (by simp; try omega) _)).mono HB.out.size)).trans hb9)
              clear ho9 hg9 hat9 hb9 hya hown9 HR HS HB p0 p1 p2 p3 p4 p5 p6 ca0 ca1 ca2 cb0 cb1 cb2 hfz hns
              go_wp2
              go_roundw
              case rel => exact ⟨k + 1, by go_num, hlt, _, _, _, rfl, HO9, HB9⟩
              case measure => simp [intOf]; omega
            · have t1 : (v1 == v1) = true := beq_self_eq_true _
              have t2 : (v2 == u2) = false := by simpa using hf2
              have HF := Lib.hid (fun W v => hns W v (by simp [shapeOf, hf2]))
              clear hns hya
              go_wp2
              go_ret2
              exact ⟨_, _, rfl, Lib.hid (HF.out _ _), HB.out.trans ((show Below wr.heap.size wr _ by repeat (first | exact Below.refl _ _ | refine Below.alloc ?_ (by simp; try omega) _)).mono HB.out.size)⟩
          · have t1 : (v1 == u1) = false := by simpa using hf
            have HF := Lib.hid (fun W v => hns W v (by simp [shapeOf, hf]))
            clear hns hya
            go_wp2
            go_ret2
            exact ⟨_, _, rfl, Lib.hid (HF.out _ _), HB.out.trans ((show Below wr.heap.size wr _ by repeat (first | exact Below.refl _ _ | refine Below.alloc ?_ (by simp; try omega) _)).mono HB.out.size)⟩
      · as_aux_lemma =>
          subst hkk
          have K1 := Lib.hid (fun W => l00In_any 2 0 10 W)
          rw [show inB (2 : Int) 0 10 = true by decide] at K1
          have KT := Lib.hid (fun W => spec_l04Two 2 W)
          rw [show twoB (2 : Int) = true by decide] at KT
          go_wp2_with fail
          refine (K1.out _).mono ?_
          rintro e w1 ⟨rfl, rfl⟩
          have K2 := Lib.hid (fun W => spec_l01Same q 0 hok2 (by decide) W)
          have ez : decide (cn .f32 q = cn .f32 0) = zeroB q := rfl
          rw [ez] at K2
          cases e2 : zeroB q
          · rw [e2] at K2
            go_wp2_with fail
            refine (K2.out _).mono ?_
            rintro e w1 ⟨rfl, rfl⟩
            have HF := Lib.hid (fun W v => HNO.out W v (by rw [HFB.out, e2]; rfl))
            clear HNO HY HNS HFB HS H
            go_wp2
            go_ret2
            exact ⟨_, _, rfl, Lib.hid (HF.out _ _), HB.out.alloc HB.out.size _⟩
          rw [e2] at K2
          go_wp2_with fail
          refine (K2.out _).mono ?_
          rintro e w1 ⟨rfl, rfl⟩
          have K4 := Lib.hid (fun W h1 h2 h3 => spec_l04None W wr.heap.size 4 r c adx m capx h1 h2 h3)
          cases e4 : (r == 0 && (c == 0 && decide (m = 0)))
          · rw [e4] at K4
            go_wp2_with fail
            refine (K4.out _ (by go_simp) (by go_simp) (by go_simp)).mono ?_
            rintro e w1 ⟨rfl, rfl⟩
            have HF := Lib.hid (fun W v => HNO.out W v (by rw [HFB.out, e2, e4]; rfl))
            clear HNO HY HNS HFB HS H
            go_wp2
            go_ret2
            exact ⟨_, _, rfl, Lib.hid (HF.out _ _), HB.out.alloc HB.out.size _⟩
          rw [e4] at K4
          go_wp2_with fail
          refine (K4.out _ (by go_simp) (by go_simp) (by go_simp)).mono ?_
          rintro e w1 ⟨rfl, rfl⟩
          have K5 := Lib.hid (fun W => l00In_any a 0 (k - 1) W)
          cases e5 : inB a 0 (k - 1)
          · rw [e5] at K5
            go_wp2_with fail
            refine (K5.out _).mono ?_
            rintro e w1 ⟨rfl, rfl⟩
            have HF := Lib.hid (fun W v => HNO.out W v (by rw [HFB.out, e2, e4, e5]; rfl))
            clear HNO HY HNS HFB HS H
            go_wp2
            go_ret2
            exact ⟨_, _, rfl, Lib.hid (HF.out _ _), HB.out.alloc HB.out.size _⟩
          rw [e5] at K5
          go_wp2_with fail
          refine (K5.out _).mono ?_
          rintro e w1 ⟨rfl, rfl⟩
          go_wp2_with fail
          refine (KT.out _).mono ?_
          rintro e w1 ⟨rfl, rfl⟩
          have K6 := Lib.hid (fun W => l00In_any b' 0 (k - 1) W)
          cases e6 : inB b' 0 (k - 1)
          · rw [e6] at K6
            go_wp2_with fail
            refine (K6.out _).mono ?_
            rintro e w1 ⟨rfl, rfl⟩
            have HF := Lib.hid (fun W v => HNO.out W v (by rw [HFB.out, e2, e4, e5, e6]; rfl))
            clear HNO HY HNS HFB HS H
            go_wp2
            go_ret2
            exact ⟨_, _, rfl, Lib.hid (HF.out _ _), HB.out.alloc HB.out.size _⟩
          rw [e6] at K6
          go_wp2_with fail
          refine (K6.out _).mono ?_
          rintro e w1 ⟨rfl, rfl⟩
          go_wp2_with fail
          refine (KT.out _).mono ?_
          rintro e w1 ⟨rfl, rfl⟩
          have ⟨a1, a2⟩ := inB_iff.1 e5
          have ⟨b1, b2⟩ := inB_iff.1 e6
          obtain ⟨A, rfl⟩ : ∃ A : Nat, a = A := ⟨a.toNat, by omega⟩
          obtain ⟨B, rfl⟩ : ∃ B : Nat, b' = B := ⟨b'.toNat, by omega⟩
          have hfit : fitsB k ⟨2, A, B, q, r, c, xs⟩ = true := by rw [HFB.out, e2, e4, e5, e6]; rfl
          have hAk : A < k := by omega
          have hBk : B < k := by omega
          have hya := HY.out hfit
          rw [if_neg (by decide)] at hya
          have hns := fun W v => HNS.out W v hfit (by decide)
          clear HNO HY HNS HFB e4 e5 e6 K1 K4 K5 K6 KT K2 e2 ez hfit
          have hsa := shGet_some (S := S) (i := A) (by rw [HSL.out]; exact hAk)
          have hsb := shGet_some (S := S) (i := B) (by rw [HSL.out]; exact hBk)
          obtain ⟨⟨v1, v2⟩, hv⟩ : ∃ v, v = shGet S A := ⟨_, rfl⟩
          obtain ⟨⟨u1, u2⟩, hu⟩ : ∃ v, v = shGet S B := ⟨_, rfl⟩
          rw [← hv] at hsa hya hns
          rw [← hu] at hsb hya hns
          obtain ⟨g, rfl, hgr, ca, hfz⟩ := HS.out.2.spot hsa (by decide)
          obtain ⟨g', eg, -, cb, -⟩ := HS.out.2.spot hsb (by decide)
          cases eg
          have ca0 : wr.cell? ⟨g, A * 3, none⟩ = some (.int .i64 v1) := ca 0 (by decide)
          have ca1 : wr.cell? ⟨g, A * 3 + 1, none⟩ = some (.int .i64 v2) := ca 1 (by decide)
          have ca2 : wr.cell? ⟨g, A * 3 + 2, none⟩ = some (.slice none 0 0) := ca 2 (by decide)
          have cb0 : wr.cell? ⟨g, B * 3, none⟩ = some (.int .i64 u1) := cb 0 (by decide)
          have cb1 : wr.cell? ⟨g, B * 3 + 1, none⟩ = some (.int .i64 u2) := cb 1 (by decide)
          have cb2 : wr.cell? ⟨g, B * 3 + 2, none⟩ = some (.slice none 0 0) := cb 2 (by decide)
          have hgl := hgr.2.2
          have HGR := Lib.hid hgr
          clear ca cb hsa hsb hv hu hgr
          by_cases hf : u1 = 1
          · subst hf
            by_cases hf2 : v2 = u2
            · subst hf2
              rw [show shapeOf 2 (v1, v2) (1, v2) = some (v1, v2) by simp [shapeOf]] at hya
              have t2 : (v2 == v2) = true := beq_self_eq_true _
              have hz1 := fun W hb => sh_row HS.out.2 (W := W) hb
              have HR := Lib.hid hz1
              clear hz1
              go_wp2_with (at_builtin; refine wp_appA rfl _ _ 47 rfl w.heap.size i0 (.agg #[.int .i64 0, .int .i64 0, .slice none 0 0]) 3 40 Try.underlying47 hi0 hz0 hzs hz2 rfl (by decide) rfl (by intro u hu; simp at hu; rcases hu with rfl | rfl | rfl <;> rfl) _ _ _ rfl (HR.out _ (by repeat (first | exact Below.refl _ _ | refine Below.alloc ?_ (by simp; try omega) _))) (by go_simp) ?c3 ?c4 ?c5 ?_)
              case c3 => unfold maxLen; omega
              case c4 => omega
              case c5 => have := HB.out.size; simp; omega
              intro v' w9 ho9 hg9 hat9 hb9 hs9
              obtain ⟨ad9, cap9, rfl, hown9⟩ := sh_snoc (s := (v1, v2)) HS.out.2 HB.out.size (by repeat (first | exact Below.refl _ _ | refine Below.alloc ?_ (by simp; try omega) _)) ho9 hg9 (by simpa using hat9)
              have HO9 := Lib.hid (And.intro hya hown9); have HB9 := Lib.hid ((HB.out.trans ((show Below wr.heap.size wr _ by repeat (first | exact Below.refl _ _ | refine Below.alloc ?_ (by simp; try omega) _)).mono HB.out.size)).trans hb9)
              clear ho9 hg9 hat9 hb9 hya hown9 HR HS HB p0 p1 p2 p3 p4 p5 p6 ca0 ca1 ca2 cb0 cb1 cb2 hfz hns
              go_wp2
              go_roundw
              case rel => exact ⟨k + 1, by go_num, hlt, _, _, _, rfl, HO9, HB9⟩
              case measure => simp [intOf]; omega
            · have t2 : (v2 == u2) = false := by simpa using hf2
              have HF := Lib.hid (fun W v => hns W v (by simp [shapeOf, Ne.symm hf2]))
              clear hns hya
              go_wp2
              go_ret2
              exact ⟨_, _, rfl, Lib.hid (HF.out _ _), HB.out.trans ((show Below wr.heap.size wr _ by repeat (first | exact Below.refl _ _ | refine Below.alloc ?_ (by simp; try omega) _)).mono HB.out.size)⟩
          · have t1 : (u1 == 1) = false := by simpa using hf
            have HF := Lib.hid (fun W v => hns W v (by simp [shapeOf, hf]))
            clear hns hya
            go_wp2
            go_ret2
            exact ⟨_, _, rfl, Lib.hid (HF.out _ _), HB.out.trans ((show Below wr.heap.size wr _ by repeat (first | exact Below.refl _ _ | refine Below.alloc ?_ (by simp; try omega) _)).mono HB.out.size)⟩
      · as_aux_lemma =>
          subst hkk
          have K1 := Lib.hid (fun W => l00In_any 3 0 10 W)
          rw [show inB (3 : Int) 0 10 = true by decide] at K1
          have KT := Lib.hid (fun W => spec_l04Two 3 W)
          rw [show twoB (3 : Int) = true by decide] at KT
          go_wp2_with fail
          refine (K1.out _).mono ?_
          rintro e w1 ⟨rfl, rfl⟩
          have K2 := Lib.hid (fun W => spec_l01Same q 0 hok2 (by decide) W)
          have ez : decide (cn .f32 q = cn .f32 0) = zeroB q := rfl
          rw [ez] at K2
          cases e2 : zeroB q
          · rw [e2] at K2
            go_wp2_with fail
            refine (K2.out _).mono ?_
            rintro e w1 ⟨rfl, rfl⟩
            have HF := Lib.hid (fun W v => HNO.out W v (by rw [HFB.out, e2]; rfl))
            clear HNO HY HNS HFB HS H
            go_wp2
            go_ret2
            exact ⟨_, _, rfl, Lib.hid (HF.out _ _), HB.out.alloc HB.out.size _⟩
          rw [e2] at K2
          go_wp2_with fail
          refine (K2.out _).mono ?_
          rintro e w1 ⟨rfl, rfl⟩
          have K4 := Lib.hid (fun W h1 h2 h3 => spec_l04None W wr.heap.size 4 r c adx m capx h1 h2 h3)
          cases e4 : (r == 0 && (c == 0 && decide (m = 0)))
          · rw [e4] at K4
            go_wp2_with fail
            refine (K4.out _ (by go_simp) (by go_simp) (by go_simp)).mono ?_
            rintro e w1 ⟨rfl, rfl⟩
            have HF := Lib.hid (fun W v => HNO.out W v (by rw [HFB.out, e2, e4]; rfl))
            clear HNO HY HNS HFB HS H
            go_wp2
            go_ret2
            exact ⟨_, _, rfl, Lib.hid (HF.out _ _), HB.out.alloc HB.out.size _⟩
          rw [e4] at K4
          go_wp2_with fail
          refine (K4.out _ (by go_simp) (by go_simp) (by go_simp)).mono ?_
          rintro e w1 ⟨rfl, rfl⟩
          have K5 := Lib.hid (fun W => l00In_any a 0 (k - 1) W)
          cases e5 : inB a 0 (k - 1)
          · rw [e5] at K5
            go_wp2_with fail
            refine (K5.out _).mono ?_
            rintro e w1 ⟨rfl, rfl⟩
            have HF := Lib.hid (fun W v => HNO.out W v (by rw [HFB.out, e2, e4, e5]; rfl))
            clear HNO HY HNS HFB HS H
            go_wp2
            go_ret2
            exact ⟨_, _, rfl, Lib.hid (HF.out _ _), HB.out.alloc HB.out.size _⟩
          rw [e5] at K5
          go_wp2_with fail
          refine (K5.out _).mono ?_
          rintro e w1 ⟨rfl, rfl⟩
          go_wp2_with fail
          refine (KT.out _).mono ?_
          rintro e w1 ⟨rfl, rfl⟩
          have K6 := Lib.hid (fun W => l00In_any b' 0 (k - 1) W)
          cases e6 : inB b' 0 (k - 1)
          · rw [e6] at K6
            go_wp2_with fail
            refine (K6.out _).mono ?_
            rintro e w1 ⟨rfl, rfl⟩
            have HF := Lib.hid (fun W v => HNO.out W v (by rw [HFB.out, e2, e4, e5, e6]; rfl))
            clear HNO HY HNS HFB HS H
            go_wp2
            go_ret2
            exact ⟨_, _, rfl, Lib.hid (HF.out _ _), HB.out.alloc HB.out.size _⟩
          rw [e6] at K6
          go_wp2_with fail
          refine (K6.out _).mono ?_
          rintro e w1 ⟨rfl, rfl⟩
          go_wp2_with fail
          refine (KT.out _).mono ?_
          rintro e w1 ⟨rfl, rfl⟩
          have ⟨a1, a2⟩ := inB_iff.1 e5
          have ⟨b1, b2⟩ := inB_iff.1 e6
          obtain ⟨A, rfl⟩ : ∃ A : Nat, a = A := ⟨a.toNat, by omega⟩
          obtain ⟨B, rfl⟩ : ∃ B : Nat, b' = B := ⟨b'.toNat, by omega⟩
          have hfit : fitsB k ⟨3, A, B, q, r, c, xs⟩ = true := by rw [HFB.out, e2, e4, e5, e6]; rfl
          have hAk : A < k := by omega
          have hBk : B < k := by omega
          have hya := HY.out hfit
          rw [if_neg (by decide)] at hya
          have hns := fun W v => HNS.out W v hfit (by decide)
          clear HNO HY HNS HFB e4 e5 e6 K1 K4 K5 K6 KT K2 e2 ez hfit
          have hsa := shGet_some (S := S) (i := A) (by rw [HSL.out]; exact hAk)
          have hsb := shGet_some (S := S) (i := B) (by rw [HSL.out]; exact hBk)
          obtain ⟨⟨v1, v2⟩, hv⟩ : ∃ v, v = shGet S A := ⟨_, rfl⟩
          obtain ⟨⟨u1, u2⟩, hu⟩ : ∃ v, v = shGet S B := ⟨_, rfl⟩
          rw [← hv] at hsa hya hns
          rw [← hu] at hsb hya hns
          obtain ⟨g, rfl, hgr, ca, hfz⟩ := HS.out.2.spot hsa (by decide)
          obtain ⟨g', eg, -, cb, -⟩ := HS.out.2.spot hsb (by decide)
          cases eg
          have ca0 : wr.cell? ⟨g, A * 3, none⟩ = some (.int .i64 v1) := ca 0 (by decide)
          have ca1 : wr.cell? ⟨g, A * 3 + 1, none⟩ = some (.int .i64 v2) := ca 1 (by decide)
          have ca2 : wr.cell? ⟨g, A * 3 + 2, none⟩ = some (.slice none 0 0) := ca 2 (by decide)
          have cb0 : wr.cell? ⟨g, B * 3, none⟩ = some (.int .i64 u1) := cb 0 (by decide)
          have cb1 : wr.cell? ⟨g, B * 3 + 1, none⟩ = some (.int .i64 u2) := cb 1 (by decide)
          have cb2 : wr.cell? ⟨g, B * 3 + 2, none⟩ = some (.slice none 0 0) := cb 2 (by decide)
          have hgl := hgr.2.2
          have HGR := Lib.hid hgr
          clear ca cb hsa hsb hv hu hgr
          by_cases hf : v1 = u1
          · subst hf
            by_cases hf2 : v2 = u2
            · subst hf2
              rw [show shapeOf 3 (v1, v2) (v1, v2) = some (v1, v2) by simp [shapeOf]] at hya
              have t1 : (v1 == v1) = true := beq_self_eq_true _
              have t2 : (v2 == v2) = true := beq_self_eq_true _
              have hz1 := fun W hb => sh_row HS.out.2 (W := W) hb
              have HR := Lib.hid hz1
              clear hz1
              go_wp2_with (at_builtin; refine wp_appA rfl _ _ 47 rfl w.heap.size i0 (.agg #[.int .i64 0, .int .i64 0, .slice none 0 0]) 3 40 Try.underlying47 hi0 hz0 hzs hz2 rfl (by decide) rfl (by intro u hu; simp at hu; rcases hu with rfl | rfl | rfl <;> rfl) _ _ _ rfl (HR.out _ (by repeat (first | exact Below.refl _ _ | refine Below.alloc ?_ (by simp; try omega) _))) (by go_simp) ?c3 ?c4 ?c5 ?_)
              case c3 => unfold maxLen; omega
              case c4 => omega
              case c5 => have := HB.out.size; simp; omega
              intro v' w9 ho9 hg9 hat9 hb9 hs9
              obtain ⟨ad9, cap9, rfl, hown9⟩ := sh_snoc (s := (v1, v2)) HS.out.2 HB.out.size (by repeat (first | exact Below.refl _ _ | refine Below.alloc ?_ (by simp; try omega) _)) ho9 hg9 (by simpa using hat9)
              have HO9 := Lib.hid (And.intro hya hown9); have HB9 := Lib.hid ((HB.out.trans ((show Below wr.heap.size wr _ by repeat (first | exact Below.refl _ _ | refine Below.alloc ?_ (by simp; try omega) _)).mono HB.out.size)).trans hb9)
              clear ho9 hg9 hat9 hb9 hya hown9 HR HS HB p0 p1 p2 p3 p4 p5 p6 ca0 ca1 ca2 cb0 cb1 cb2 hfz hns
              go_wp2
              go_roundw
              case rel => exact ⟨k + 1, by go_num, hlt, _, _, _, rfl, HO9, HB9⟩
              case measure => simp [intOf]; omega
            · have t1 : (v1 == v1) = true := beq_self_eq_true _
              have t2 : (v2 == u2) = false := by simpa using hf2
              have HF := Lib.hid (fun W v => hns W v (by simp [shapeOf, hf2]))
              clear hns hya
              go_wp2
              go_ret2
              exact ⟨_, _, rfl, Lib.hid (HF.out _ _), HB.out.trans ((show Below wr.heap.size wr _ by repeat (first | exact Below.refl _ _ | refine Below.alloc ?_ (by simp; try omega) _)).mono HB.out.size)⟩
          · have t1 : (v1 == u1) = false := by simpa using hf
            have HF := Lib.hid (fun W v => hns W v (by simp [shapeOf, hf]))
            clear hns hya
            go_wp2
            go_ret2
            exact ⟨_, _, rfl, Lib.hid (HF.out _ _), HB.out.trans ((show Below wr.heap.size wr _ by repeat (first | exact Below.refl _ _ | refine Below.alloc ?_ (by simp; try omega) _)).mono HB.out.size)⟩
      · as_aux_lemma =>
          subst hkk
          have K1 := Lib.hid (fun W => l00In_any 4 0 10 W)
          rw [show inB (4 : Int) 0 10 = true by decide] at K1
          have KT := Lib.hid (fun W => spec_l04Two 4 W)
          rw [show twoB (4 : Int) = true by decide] at KT
          go_wp2_with fail
          refine (K1.out _).mono ?_
          rintro e w1 ⟨rfl, rfl⟩
          have K2 := Lib.hid (fun W => spec_l01Same q 0 hok2 (by decide) W)
          have ez : decide (cn .f32 q = cn .f32 0) = zeroB q := rfl
          rw [ez] at K2
          cases e2 : zeroB q
          · rw [e2] at K2
            go_wp2_with fail
            refine (K2.out _).mono ?_
            rintro e w1 ⟨rfl, rfl⟩
            have HF := Lib.hid (fun W v => HNO.out W v (by rw [HFB.out, e2]; rfl))
            clear HNO HY HNS HFB HS H
            go_wp2
            go_ret2
            exact ⟨_, _, rfl, Lib.hid (HF.out _ _), HB.out.alloc HB.out.size _⟩
          rw [e2] at K2
          go_wp2_with fail
          refine (K2.out _).mono ?_
          rintro e w1 ⟨rfl, rfl⟩
          have K4 := Lib.hid (fun W h1 h2 h3 => spec_l04None W wr.heap.size 4 r c adx m capx h1 h2 h3)
          cases e4 : (r == 0 && (c == 0 && decide (m = 0)))
          · rw [e4] at K4
            go_wp2_with fail
            refine (K4.out _ (by go_simp) (by go_simp) (by go_simp)).mono ?_
            rintro e w1 ⟨rfl, rfl⟩
            have HF := Lib.hid (fun W v => HNO.out W v (by rw [HFB.out, e2, e4]; rfl))
            clear HNO HY HNS HFB HS H
            go_wp2
            go_ret2
            exact ⟨_, _, rfl, Lib.hid (HF.out _ _), HB.out.alloc HB.out.size _⟩
          rw [e4] at K4
          go_wp2_with fail
          refine (K4.out _ (by go_simp) (by go_simp) (by go_simp)).mono ?_
          rintro e w1 ⟨rfl, rfl⟩
          have K5 := Lib.hid (fun W => l00In_any a 0 (k - 1) W)
          cases e5 : inB a 0 (k - 1)
          · rw [e5] at K5
            go_wp2_with fail
            refine (K5.out _).mono ?_
            rintro e w1 ⟨rfl, rfl⟩
            have HF := Lib.hid (fun W v => HNO.out W v (by rw [HFB.out, e2, e4, e5]; rfl))
            clear HNO HY HNS HFB HS H
            go_wp2
            go_ret2
            exact ⟨_, _, rfl, Lib.hid (HF.out _ _), HB.out.alloc HB.out.size _⟩
          rw [e5] at K5
          go_wp2_with fail
          refine (K5.out _).mono ?_
          rintro e w1 ⟨rfl, rfl⟩
          go_wp2_with fail
          refine (KT.out _).mono ?_
          rintro e w1 ⟨rfl, rfl⟩
          have K6 := Lib.hid (fun W => l00In_any b' 0 (k - 1) W)
          cases e6 : inB b' 0 (k - 1)
          · rw [e6] at K6
            go_wp2_with fail
            refine (K6.out _).mono ?_
            rintro e w1 ⟨rfl, rfl⟩
            have HF := Lib.hid (fun W v => HNO.out W v (by rw [HFB.out, e2, e4, e5, e6]; rfl))
            clear HNO HY HNS HFB HS H
            go_wp2
            go_ret2
            exact ⟨_, _, rfl, Lib.hid (HF.out _ _), HB.out.alloc HB.out.size _⟩
          rw [e6] at K6
          go_wp2_with fail
          refine (K6.out _).mono ?_
          rintro e w1 ⟨rfl, rfl⟩
          go_wp2_with fail
          refine (KT.out _).mono ?_
          rintro e w1 ⟨rfl, rfl⟩
          have ⟨a1, a2⟩ := inB_iff.1 e5
          have ⟨b1, b2⟩ := inB_iff.1 e6
          obtain ⟨A, rfl⟩ : ∃ A : Nat, a = A := ⟨a.toNat, by omega⟩
          obtain ⟨B, rfl⟩ : ∃ B : Nat, b' = B := ⟨b'.toNat, by omega⟩
          have hfit : fitsB k ⟨4, A, B, q, r, c, xs⟩ = true := by rw [HFB.out, e2, e4, e5, e6]; rfl
          have hAk : A < k := by omega
          have hBk : B < k := by omega
          have hya := HY.out hfit
          rw [if_neg (by decide)] at hya
          have hns := fun W v => HNS.out W v hfit (by decide)
          clear HNO HY HNS HFB e4 e5 e6 K1 K4 K5 K6 KT K2 e2 ez hfit
          have hsa := shGet_some (S := S) (i := A) (by rw [HSL.out]; exact hAk)
          have hsb := shGet_some (S := S) (i := B) (by rw [HSL.out]; exact hBk)
          obtain ⟨⟨v1, v2⟩, hv⟩ : ∃ v, v = shGet S A := ⟨_, rfl⟩
          obtain ⟨⟨u1, u2⟩, hu⟩ : ∃ v, v = shGet S B := ⟨_, rfl⟩
          rw [← hv] at hsa hya hns
          rw [← hu] at hsb hya hns
          obtain ⟨g, rfl, hgr, ca, hfz⟩ := HS.out.2.spot hsa (by decide)
          obtain ⟨g', eg, -, cb, -⟩ := HS.out.2.spot hsb (by decide)
          cases eg
          have ca0 : wr.cell? ⟨g, A * 3, none⟩ = some (.int .i64 v1) := ca 0 (by decide)
          have ca1 : wr.cell? ⟨g, A * 3 + 1, none⟩ = some (.int .i64 v2) := ca 1 (by decide)
          have ca2 : wr.cell? ⟨g, A * 3 + 2, none⟩ = some (.slice none 0 0) := ca 2 (by decide)
          have cb0 : wr.cell? ⟨g, B * 3, none⟩ = some (.int .i64 u1) := cb 0 (by decide)
          have cb1 : wr.cell? ⟨g, B * 3 + 1, none⟩ = some (.int .i64 u2) := cb 1 (by decide)
          have cb2 : wr.cell? ⟨g, B * 3 + 2, none⟩ = some (.slice none 0 0) := cb 2 (by decide)
          have hgl := hgr.2.2
          have HGR := Lib.hid hgr
          clear ca cb hsa hsb hv hu hgr
          by_cases hf : u1 = 1
          · subst hf
            by_cases hf2 : v2 = u2
            · subst hf2
              rw [show shapeOf 4 (v1, v2) (1, v2) = some (v1, v2) by simp [shapeOf]] at hya
              have t2 : (v2 == v2) = true := beq_self_eq_true _
              have hz1 := fun W hb => sh_row HS.out.2 (W := W) hb
              have HR := Lib.hid hz1
              clear hz1
              go_wp2_with (at_builtin; refine wp_appA rfl _ _ 47 rfl w.heap.size i0 (.agg #[.int .i64 0, .int .i64 0, .slice none 0 0]) 3 40 Try.underlying47 hi0 hz0 hzs hz2 rfl (by decide) rfl (by intro u hu; simp at hu; rcases hu with rfl | rfl | rfl <;> rfl) _ _ _ rfl (HR.out _ (by repeat (first | exact Below.refl _ _ | refine Below.alloc ?_ (by simp; try omega) _))) (by go_simp) ?c3 ?c4 ?c5 ?_)
              case c3 => unfold maxLen; omega
              case c4 => omega
              case c5 => have := HB.out.size; simp; omega
              intro v' w9 ho9 hg9 hat9 hb9 hs9
              obtain ⟨ad9, cap9, rfl, hown9⟩ := sh_snoc (s := (v1, v2)) HS.out.2 HB.out.size (by repeat (first | exact Below.refl _ _ | refine Below.alloc ?_ (by simp; try omega) _)) ho9 hg9 (by simpa using hat9)
              have HO9 := Lib.hid (And.intro hya hown9); have HB9 := Lib.hid ((HB.out.trans ((show Below wr.heap.size wr _ by repeat (first | exact Below.refl _ _ | refine Below.alloc ?_ (by simp; try omega) _)).mono HB.out.size)).trans hb9)
              clear ho9 hg9 hat9 hb9 hya hown9 HR HS HB p0 p1 p2 p3 p4 p5 p6 ca0 ca1 ca2 cb0 cb1 cb2 hfz hns
              go_wp2
              go_roundw
              case rel => exact ⟨k + 1, by go_num, hlt, _, _, _, rfl, HO9, HB9⟩
              case measure => simp [intOf]; omega
            · have t2 : (v2 == u2) = false := by simpa using hf2
              have HF := Lib.hid (fun W v => hns W v (by simp [shapeOf, Ne.symm hf2]))
              clear hns hya
              go_wp2
              go_ret2
              exact ⟨_, _, rfl, Lib.hid (HF.out _ _), HB.out.trans ((show Below wr.heap.size wr _ by repeat (first | exact Below.refl _ _ | refine Below.alloc ?_ (by simp; try omega) _)).mono HB.out.size)⟩
          · have t1 : (u1 == 1) = false := by simpa using hf
            have HF := Lib.hid (fun W v => hns W v (by simp [shapeOf, hf]))
            clear hns hya
            go_wp2
            go_ret2
            exact ⟨_, _, rfl, Lib.hid (HF.out _ _), HB.out.trans ((show Below wr.heap.size wr _ by repeat (first | exact Below.refl _ _ | refine Below.alloc ?_ (by simp; try omega) _)).mono HB.out.size)⟩
      · as_aux_lemma =>
          subst hkk
          have K1 := Lib.hid (fun W => l00In_any 5 0 10 W)
          rw [show inB (5 : Int) 0 10 = true by decide] at K1
          have KT := Lib.hid (fun W => spec_l04Two 5 W)
          rw [show twoB (5 : Int) = false by decide] at KT
          go_wp2_with fail
          refine (K1.out _).mono ?_
          rintro e w1 ⟨rfl, rfl⟩
          have K4 := Lib.hid (fun W h1 h2 h3 => spec_l04None W wr.heap.size 4 r c adx m capx h1 h2 h3)
          cases e4 : (r == 0 && (c == 0 && decide (m = 0)))
          · rw [e4] at K4
            go_wp2_with fail
            refine (K4.out _ (by go_simp) (by go_simp) (by go_simp)).mono ?_
            rintro e w1 ⟨rfl, rfl⟩
            have HF := Lib.hid (fun W v => HNO.out W v (by rw [HFB.out, e4]; rfl))
            clear HNO HY HNS HFB HS H
            go_wp2
            go_ret2
            exact ⟨_, _, rfl, Lib.hid (HF.out _ _), HB.out.alloc HB.out.size _⟩
          rw [e4] at K4
          go_wp2_with fail
          refine (K4.out _ (by go_simp) (by go_simp) (by go_simp)).mono ?_
          rintro e w1 ⟨rfl, rfl⟩
          have K5 := Lib.hid (fun W => l00In_any a 0 (k - 1) W)
          cases e5 : inB a 0 (k - 1)
          · rw [e5] at K5
            go_wp2_with fail
            refine (K5.out _).mono ?_
            rintro e w1 ⟨rfl, rfl⟩
            have HF := Lib.hid (fun W v => HNO.out W v (by rw [HFB.out, e4, e5]; rfl))
            clear HNO HY HNS HFB HS H
            go_wp2
            go_ret2
            exact ⟨_, _, rfl, Lib.hid (HF.out _ _), HB.out.alloc HB.out.size _⟩
          rw [e5] at K5
          go_wp2_with fail
          refine (K5.out _).mono ?_
          rintro e w1 ⟨rfl, rfl⟩
          go_wp2_with fail
          refine (KT.out _).mono ?_
          rintro e w1 ⟨rfl, rfl⟩
          go_wp2_with fail
          refine (KT.out _).mono ?_
          rintro e w1 ⟨rfl, rfl⟩
          cases e6 : (b' == 0)
          · have e7 : (b' != 0) = true := by simpa [bne] using e6
            have HF := Lib.hid (fun W v => HNO.out W v (by rw [HFB.out, e4, e5, e6]; rfl))
            clear HNO HY HNS HFB HS H
            go_wp2
            go_ret2
            exact ⟨_, _, rfl, Lib.hid (HF.out _ _), HB.out.alloc HB.out.size _⟩
          obtain rfl : b' = 0 := by simpa using e6
          have ⟨a1, a2⟩ := inB_iff.1 e5
          obtain ⟨A, rfl⟩ : ∃ A : Nat, a = A := ⟨a.toNat, by omega⟩
          obtain ⟨B, hB0⟩ : ∃ B : Nat, B = 0 := ⟨0, rfl⟩
          have hfit : fitsB k ⟨5, A, 0, q, r, c, xs⟩ = true := by rw [HFB.out, e4, e5, e6]; rfl
          have hAk : A < k := by omega
          have hBk : 0 < k := by omega
          have hya := HY.out hfit
          rw [if_neg (by decide)] at hya
          have hns := fun W v => HNS.out W v hfit (by decide)
          clear HNO HY HNS HFB e4 e5 e6 K1 K4 K5 KT hfit
          have hsa := shGet_some (S := S) (i := A) (by rw [HSL.out]; exact hAk)
          have hsb := shGet_some (S := S) (i := 0) (by rw [HSL.out]; exact hBk)
          obtain ⟨⟨v1, v2⟩, hv⟩ : ∃ v, v = shGet S A := ⟨_, rfl⟩
          obtain ⟨⟨u1, u2⟩, hu⟩ : ∃ v, v = shGet S 0 := ⟨_, rfl⟩
          rw [← hv] at hsa hya hns
          rw [show ((0 : Nat) : Int) = 0 by rfl, ← hu] at hsb
          rw [← hu] at hya hns
          obtain ⟨g, rfl, hgr, ca, hfz⟩ := HS.out.2.spot hsa (by decide)
          obtain ⟨g', eg, -, cb, -⟩ := HS.out.2.spot hsb (by decide)
          cases eg
          have ca0 : wr.cell? ⟨g, A * 3, none⟩ = some (.int .i64 v1) := ca 0 (by decide)
          have ca1 : wr.cell? ⟨g, A * 3 + 1, none⟩ = some (.int .i64 v2) := ca 1 (by decide)
          have ca2 : wr.cell? ⟨g, A * 3 + 2, none⟩ = some (.slice none 0 0) := ca 2 (by decide)
          have cb0 : wr.cell? ⟨g, 0 * 3, none⟩ = some (.int .i64 u1) := cb 0 (by decide)
          have cb1 : wr.cell? ⟨g, 0 * 3 + 1, none⟩ = some (.int .i64 u2) := cb 1 (by decide)
          have cb2 : wr.cell? ⟨g, 0 * 3 + 2, none⟩ = some (.slice none 0 0) := cb 2 (by decide)
          have hgl := hgr.2.2
          have HGR := Lib.hid hgr
          clear ca cb hsa hsb hv hu hgr
          rw [show shapeOf 5 (v1, v2) (u1, u2) = some (v1, v2) by simp [shapeOf]] at hya
          have hz1 := fun W hb => sh_row HS.out.2 (W := W) hb
          have HR := Lib.hid hz1
          clear hz1
          go_wp2_with (at_builtin; refine wp_appA rfl _ _ 47 rfl w.heap.size i0 (.agg #[.int .i64 0, .int .i64 0, .slice none 0 0]) 3 40 Try.underlying47 hi0 hz0 hzs hz2 rfl (by decide) rfl (by intro u hu; simp at hu; rcases hu with rfl | rfl | rfl <;> rfl) _ _ _ rfl (HR.out _ (by repeat (first | exact Below.refl _ _ | refine Below.alloc ?_ (by simp; try omega) _))) (by go_simp) ?c3 ?c4 ?c5 ?_)
          case c3 => unfold maxLen; omega
          case c4 => omega
          case c5 => have := HB.out.size; simp; omega
          intro v' w9 ho9 hg9 hat9 hb9 hs9
          obtain ⟨ad9, cap9, rfl, hown9⟩ := sh_snoc (s := (v1, v2)) HS.out.2 HB.out.size (by repeat (first | exact Below.refl _ _ | refine Below.alloc ?_ (by simp; try omega) _)) ho9 hg9 (by simpa using hat9)
          have HO9 := Lib.hid (And.intro hya hown9); have HB9 := Lib.hid ((HB.out.trans ((show Below wr.heap.size wr _ by repeat (first | exact Below.refl _ _ | refine Below.alloc ?_ (by simp; try omega) _)).mono HB.out.size)).trans hb9)
          clear ho9 hg9 hat9 hb9 hya hown9 HR HS HB p0 p1 p2 p3 p4 p5 p6 ca0 ca1 ca2 cb0 cb1 cb2 hfz hns
          go_wp2
          go_roundw
          case rel => exact ⟨k + 1, by go_num, hlt, _, _, _, rfl, HO9, HB9⟩
          case measure => simp [intOf]; omega
      · as_aux_lemma =>
          subst hkk
          have K1 := Lib.hid (fun W => l00In_any 6 0 10 W)
          rw [show inB (6 : Int) 0 10 = true by decide] at K1
          have KT := Lib.hid (fun W => spec_l04Two 6 W)
          rw [show twoB (6 : Int) = true by decide] at KT
          go_wp2_with fail
          refine (K1.out _).mono ?_
          rintro e w1 ⟨rfl, rfl⟩
          have K2 := Lib.hid (fun W => spec_l01Same q 0 hok2 (by decide) W)
          have ez : decide (cn .f32 q = cn .f32 0) = zeroB q := rfl
          rw [ez] at K2
          cases e2 : zeroB q
          · rw [e2] at K2
            go_wp2_with fail
            refine (K2.out _).mono ?_
            rintro e w1 ⟨rfl, rfl⟩
            have HF := Lib.hid (fun W v => HNO.out W v (by rw [HFB.out, e2]; rfl))
            clear HNO HY HNS HFB HS H
            go_wp2
            go_ret2
            exact ⟨_, _, rfl, Lib.hid (HF.out _ _), HB.out.alloc HB.out.size _⟩
          rw [e2] at K2
          go_wp2_with fail
          refine (K2.out _).mono ?_
          rintro e w1 ⟨rfl, rfl⟩
          have K4 := Lib.hid (fun W h1 h2 h3 => spec_l04None W wr.heap.size 4 r c adx m capx h1 h2 h3)
          cases e4 : (r == 0 && (c == 0 && decide (m = 0)))
          · rw [e4] at K4
            go_wp2_with fail
            refine (K4.out _ (by go_simp) (by go_simp) (by go_simp)).mono ?_
            rintro e w1 ⟨rfl, rfl⟩
            have HF := Lib.hid (fun W v => HNO.out W v (by rw [HFB.out, e2, e4]; rfl))
            clear HNO HY HNS HFB HS H
            go_wp2
            go_ret2
            exact ⟨_, _, rfl, Lib.hid (HF.out _ _), HB.out.alloc HB.out.size _⟩
          rw [e4] at K4
          go_wp2_with fail
          refine (K4.out _ (by go_simp) (by go_simp) (by go_simp)).mono ?_
          rintro e w1 ⟨rfl, rfl⟩
          have K5 := Lib.hid (fun W => l00In_any a 0 (k - 1) W)
          cases e5 : inB a 0 (k - 1)
          · rw [e5] at K5
            go_wp2_with fail
            refine (K5.out _).mono ?_
            rintro e w1 ⟨rfl, rfl⟩
            have HF := Lib.hid (fun W v => HNO.out W v (by rw [HFB.out, e2, e4, e5]; rfl))
            clear HNO HY HNS HFB HS H
            go_wp2
            go_ret2
            exact ⟨_, _, rfl, Lib.hid (HF.out _ _), HB.out.alloc HB.out.size _⟩
          rw [e5] at K5
          go_wp2_with fail
          refine (K5.out _).mono ?_
          rintro e w1 ⟨rfl, rfl⟩
          go_wp2_with fail
          refine (KT.out _).mono ?_
          rintro e w1 ⟨rfl, rfl⟩
          have K6 := Lib.hid (fun W => l00In_any b' 0 (k - 1) W)
          cases e6 : inB b' 0 (k - 1)
          · rw [e6] at K6
            go_wp2_with fail
            refine (K6.out _).mono ?_
            rintro e w1 ⟨rfl, rfl⟩
            have HF := Lib.hid (fun W v => HNO.out W v (by rw [HFB.out, e2, e4, e5, e6]; rfl))
            clear HNO HY HNS HFB HS H
            go_wp2
            go_ret2
            exact ⟨_, _, rfl, Lib.hid (HF.out _ _), HB.out.alloc HB.out.size _⟩
          rw [e6] at K6
          go_wp2_with fail
          refine (K6.out _).mono ?_
          rintro e w1 ⟨rfl, rfl⟩
          go_wp2_with fail
          refine (KT.out _).mono ?_
          rintro e w1 ⟨rfl, rfl⟩
          have ⟨a1, a2⟩ := inB_iff.1 e5
          have ⟨b1, b2⟩ := inB_iff.1 e6
          obtain ⟨A, rfl⟩ : ∃ A : Nat, a = A := ⟨a.toNat, by omega⟩
          obtain ⟨B, rfl⟩ : ∃ B : Nat, b' = B := ⟨b'.toNat, by omega⟩
          have hfit : fitsB k ⟨6, A, B, q, r, c, xs⟩ = true := by rw [HFB.out, e2, e4, e5, e6]; rfl
          have hAk : A < k := by omega
          have hBk : B < k := by omega
          have hya := HY.out hfit
          rw [if_neg (by decide)] at hya
          have hns := fun W v => HNS.out W v hfit (by decide)
          clear HNO HY HNS HFB e4 e5 e6 K1 K4 K5 K6 KT K2 e2 ez hfit
          have hsa := shGet_some (S := S) (i := A) (by rw [HSL.out]; exact hAk)
          have hsb := shGet_some (S := S) (i := B) (by rw [HSL.out]; exact hBk)
          obtain ⟨⟨v1, v2⟩, hv⟩ : ∃ v, v = shGet S A := ⟨_, rfl⟩
          obtain ⟨⟨u1, u2⟩, hu⟩ : ∃ v, v = shGet S B := ⟨_, rfl⟩
          rw [← hv] at hsa hya hns
          rw [← hu] at hsb hya hns
          obtain ⟨g, rfl, hgr, ca, hfz⟩ := HS.out.2.spot hsa (by decide)
          obtain ⟨g', eg, -, cb, -⟩ := HS.out.2.spot hsb (by decide)
          cases eg
          have ca0 : wr.cell? ⟨g, A * 3, none⟩ = some (.int .i64 v1) := ca 0 (by decide)
          have ca1 : wr.cell? ⟨g, A * 3 + 1, none⟩ = some (.int .i64 v2) := ca 1 (by decide)
          have ca2 : wr.cell? ⟨g, A * 3 + 2, none⟩ = some (.slice none 0 0) := ca 2 (by decide)
          have cb0 : wr.cell? ⟨g, B * 3, none⟩ = some (.int .i64 u1) := cb 0 (by decide)
          have cb1 : wr.cell? ⟨g, B * 3 + 1, none⟩ = some (.int .i64 u2) := cb 1 (by decide)
          have cb2 : wr.cell? ⟨g, B * 3 + 2, none⟩ = some (.slice none 0 0) := cb 2 (by decide)
          have hgl := hgr.2.2
          have HGR := Lib.hid hgr
          clear ca cb hsa hsb hv hu hgr
          by_cases hf : v2 = u1
          · subst hf
            rw [show shapeOf 6 (v1, v2) (v2, u2) = some (v1, u2) by simp [shapeOf]] at hya
            have t2 : (v2 == v2) = true := beq_self_eq_true _
            have hz1 := fun W hb => sh_row HS.out.2 (W := W) hb
            have HR := Lib.hid hz1
            clear hz1
            go_wp2_with (at_builtin; refine wp_appA rfl _ _ 47 rfl w.heap.size i0 (.agg #[.int .i64 0, .int .i64 0, .slice none 0 0]) 3 40 Try.underlying47 hi0 hz0 hzs hz2 rfl (by decide) rfl (by intro u hu; simp at hu; rcases hu with rfl | rfl | rfl <;> rfl) _ _ _ rfl (HR.out _ (by repeat (first | exact Below.refl _ _ | refine Below.alloc ?_ (by simp; try omega) _))) (by go_simp) ?c3 ?c4 ?c5 ?_)
            case c3 => unfold maxLen; omega
            case c4 => omega
            case c5 => have := HB.out.size; simp; omega
            intro v' w9 ho9 hg9 hat9 hb9 hs9
            obtain ⟨ad9, cap9, rfl, hown9⟩ := sh_snoc (s := (v1, u2)) HS.out.2 HB.out.size (by repeat (first | exact Below.refl _ _ | refine Below.alloc ?_ (by simp; try omega) _)) ho9 hg9 (by simpa using hat9)
            have HO9 := Lib.hid (And.intro hya hown9); have HB9 := Lib.hid ((HB.out.trans ((show Below wr.heap.size wr _ by repeat (first | exact Below.refl _ _ | refine Below.alloc ?_ (by simp; try omega) _)).mono HB.out.size)).trans hb9)
            clear ho9 hg9 hat9 hb9 hya hown9 HR HS HB p0 p1 p2 p3 p4 p5 p6 ca0 ca1 ca2 cb0 cb1 cb2 hfz hns
            go_wp2
            go_roundw
            case rel => exact ⟨k + 1, by go_num, hlt, _, _, _, rfl, HO9, HB9⟩
            case measure => simp [intOf]; omega
          · have t1 : (v2 == u1) = false := by simpa using hf
            have HF := Lib.hid (fun W v => hns W v (by simp [shapeOf, hf]))
            clear hns hya
            go_wp2
            go_ret2
            exact ⟨_, _, rfl, Lib.hid (HF.out _ _), HB.out.trans ((show Below wr.heap.size wr _ by repeat (first | exact Below.refl _ _ | refine Below.alloc ?_ (by simp; try omega) _)).mono HB.out.size)⟩
      · as_aux_lemma =>
          subst hkk
          have K1 := Lib.hid (fun W => l00In_any 7 0 10 W)
          rw [show inB (7 : Int) 0 10 = true by decide] at K1
          have KT := Lib.hid (fun W => spec_l04Two 7 W)
          rw [show twoB (7 : Int) = false by decide] at KT
          go_wp2_with fail
          refine (K1.out _).mono ?_
          rintro e w1 ⟨rfl, rfl⟩
          have K2 := Lib.hid (fun W => spec_l01Same q 0 hok2 (by decide) W)
          have ez : decide (cn .f32 q = cn .f32 0) = zeroB q := rfl
          rw [ez] at K2
          cases e2 : zeroB q
          · rw [e2] at K2
            go_wp2_with fail
            refine (K2.out _).mono ?_
            rintro e w1 ⟨rfl, rfl⟩
            have HF := Lib.hid (fun W v => HNO.out W v (by rw [HFB.out, e2]; rfl))
            clear HNO HY HNS HFB HS H
            go_wp2
            go_ret2
            exact ⟨_, _, rfl, Lib.hid (HF.out _ _), HB.out.alloc HB.out.size _⟩
          rw [e2] at K2
          go_wp2_with fail
          refine (K2.out _).mono ?_
          rintro e w1 ⟨rfl, rfl⟩
          have K4 := Lib.hid (fun W h1 h2 h3 => spec_l04None W wr.heap.size 4 r c adx m capx h1 h2 h3)
          cases e4 : (r == 0 && (c == 0 && decide (m = 0)))
          · rw [e4] at K4
            go_wp2_with fail
            refine (K4.out _ (by go_simp) (by go_simp) (by go_simp)).mono ?_
            rintro e w1 ⟨rfl, rfl⟩
            have HF := Lib.hid (fun W v => HNO.out W v (by rw [HFB.out, e2, e4]; rfl))
            clear HNO HY HNS HFB HS H
            go_wp2
            go_ret2
            exact ⟨_, _, rfl, Lib.hid (HF.out _ _), HB.out.alloc HB.out.size _⟩
          rw [e4] at K4
          go_wp2_with fail
          refine (K4.out _ (by go_simp) (by go_simp) (by go_simp)).mono ?_
          rintro e w1 ⟨rfl, rfl⟩
          have K5 := Lib.hid (fun W => l00In_any a 0 (k - 1) W)
          cases e5 : inB a 0 (k - 1)
          · rw [e5] at K5
            go_wp2_with fail
            refine (K5.out _).mono ?_
            rintro e w1 ⟨rfl, rfl⟩
            have HF := Lib.hid (fun W v => HNO.out W v (by rw [HFB.out, e2, e4, e5]; rfl))
            clear HNO HY HNS HFB HS H
            go_wp2
            go_ret2
            exact ⟨_, _, rfl, Lib.hid (HF.out _ _), HB.out.alloc HB.out.size _⟩
          rw [e5] at K5
          go_wp2_with fail
          refine (K5.out _).mono ?_
          rintro e w1 ⟨rfl, rfl⟩
          go_wp2_with fail
          refine (KT.out _).mono ?_
          rintro e w1 ⟨rfl, rfl⟩
          go_wp2_with fail
          refine (KT.out _).mono ?_
          rintro e w1 ⟨rfl, rfl⟩
          cases e6 : (b' == 0)
          · have e7 : (b' != 0) = true := by simpa [bne] using e6
            have HF := Lib.hid (fun W v => HNO.out W v (by rw [HFB.out, e2, e4, e5, e6]; rfl))
            clear HNO HY HNS HFB HS H
            go_wp2
            go_ret2
            exact ⟨_, _, rfl, Lib.hid (HF.out _ _), HB.out.alloc HB.out.size _⟩
          obtain rfl : b' = 0 := by simpa using e6
          have ⟨a1, a2⟩ := inB_iff.1 e5
          obtain ⟨A, rfl⟩ : ∃ A : Nat, a = A := ⟨a.toNat, by omega⟩
          obtain ⟨B, hB0⟩ : ∃ B : Nat, B = 0 := ⟨0, rfl⟩
          have hfit : fitsB k ⟨7, A, 0, q, r, c, xs⟩ = true := by rw [HFB.out, e2, e4, e5, e6]; rfl
          have hAk : A < k := by omega
          have hBk : 0 < k := by omega
          have hya := HY.out hfit
          rw [if_neg (by decide)] at hya
          have hns := fun W v => HNS.out W v hfit (by decide)
          clear HNO HY HNS HFB e4 e5 e6 K1 K4 K5 KT K2 e2 ez hfit
          have hsa := shGet_some (S := S) (i := A) (by rw [HSL.out]; exact hAk)
          have hsb := shGet_some (S := S) (i := 0) (by rw [HSL.out]; exact hBk)
          obtain ⟨⟨v1, v2⟩, hv⟩ : ∃ v, v = shGet S A := ⟨_, rfl⟩
          obtain ⟨⟨u1, u2⟩, hu⟩ : ∃ v, v = shGet S 0 := ⟨_, rfl⟩
          rw [← hv] at hsa hya hns
          rw [show ((0 : Nat) : Int) = 0 by rfl, ← hu] at hsb
          rw [← hu] at hya hns
          obtain ⟨g, rfl, hgr, ca, hfz⟩ := HS.out.2.spot hsa (by decide)
          obtain ⟨g', eg, -, cb, -⟩ := HS.out.2.spot hsb (by decide)
          cases eg
          have ca0 : wr.cell? ⟨g, A * 3, none⟩ = some (.int .i64 v1) := ca 0 (by decide)
          have ca1 : wr.cell? ⟨g, A * 3 + 1, none⟩ = some (.int .i64 v2) := ca 1 (by decide)
          have ca2 : wr.cell? ⟨g, A * 3 + 2, none⟩ = some (.slice none 0 0) := ca 2 (by decide)
          have cb0 : wr.cell? ⟨g, 0 * 3, none⟩ = some (.int .i64 u1) := cb 0 (by decide)
          have cb1 : wr.cell? ⟨g, 0 * 3 + 1, none⟩ = some (.int .i64 u2) := cb 1 (by decide)
          have cb2 : wr.cell? ⟨g, 0 * 3 + 2, none⟩ = some (.slice none 0 0) := cb 2 (by decide)
          have hgl := hgr.2.2
          have HGR := Lib.hid hgr
          clear ca cb hsa hsb hv hu hgr
          rw [show shapeOf 7 (v1, v2) (u1, u2) = some (v2, v1) by simp [shapeOf]] at hya
          have hz1 := fun W hb => sh_row HS.out.2 (W := W) hb
          have HR := Lib.hid hz1
          clear hz1
          go_wp2_with (at_builtin; refine wp_appA rfl _ _ 47 rfl w.heap.size i0 (.agg #[.int .i64 0, .int .i64 0, .slice none 0 0]) 3 40 Try.underlying47 hi0 hz0 hzs hz2 rfl (by decide) rfl (by intro u hu; simp at hu; rcases hu with rfl | rfl | rfl <;> rfl) _ _ _ rfl (HR.out _ (by repeat (first | exact Below.refl _ _ | refine Below.alloc ?_ (by simp; try omega) _))) (by go_simp) ?c3 ?c4 ?c5 ?_)
          case c3 => unfold maxLen; omega
          case c4 => omega
          case c5 => have := HB.out.size; simp; omega
          intro v' w9 ho9 hg9 hat9 hb9 hs9
          obtain ⟨ad9, cap9, rfl, hown9⟩ := sh_snoc (s := (v2, v1)) HS.out.2 HB.out.size (by repeat (first | exact Below.refl _ _ | refine Below.alloc ?_ (by simp; try omega) _)) ho9 hg9 (by simpa using hat9)
          have HO9 := Lib.hid (And.intro hya hown9); have HB9 := Lib.hid ((HB.out.trans ((show Below wr.heap.size wr _ by repeat (first | exact Below.refl _ _ | refine Below.alloc ?_ (by simp; try omega) _)).mono HB.out.size)).trans hb9)
          clear ho9 hg9 hat9 hb9 hya hown9 HR HS HB p0 p1 p2 p3 p4 p5 p6 ca0 ca1 ca2 cb0 cb1 cb2 hfz hns
          go_wp2
          go_roundw
          case rel => exact ⟨k + 1, by go_num, hlt, _, _, _, rfl, HO9, HB9⟩
          case measure => simp [intOf]; omega
      · as_aux_lemma =>
          subst hkk
          have K1 := Lib.hid (fun W => l00In_any 8 0 10 W)
          rw [show inB (8 : Int) 0 10 = true by decide] at K1
          have KT := Lib.hid (fun W => spec_l04Two 8 W)
          rw [show twoB (8 : Int) = false by decide] at KT
          go_wp2_with fail
          refine (K1.out _).mono ?_
          rintro e w1 ⟨rfl, rfl⟩
          have K2 := Lib.hid (fun W => spec_l01Same q 0 hok2 (by decide) W)
          have ez : decide (cn .f32 q = cn .f32 0) = zeroB q := rfl
          rw [ez] at K2
          cases e2 : zeroB q
          · rw [e2] at K2
            go_wp2_with fail
            refine (K2.out _).mono ?_
            rintro e w1 ⟨rfl, rfl⟩
            have HF := Lib.hid (fun W v => HNO.out W v (by rw [HFB.out, e2]; rfl))
            clear HNO HY HNS HFB HS H
            go_wp2
            go_ret2
            exact ⟨_, _, rfl, Lib.hid (HF.out _ _), HB.out.alloc HB.out.size _⟩
          rw [e2] at K2
          go_wp2_with fail
          refine (K2.out _).mono ?_
          rintro e w1 ⟨rfl, rfl⟩
          have K4 := Lib.hid (fun W h1 h2 h3 => spec_l04None W wr.heap.size 4 r c adx m capx h1 h2 h3)
          cases e4 : (r == 0 && (c == 0 && decide (m = 0)))
          · rw [e4] at K4
            go_wp2_with fail
            refine (K4.out _ (by go_simp) (by go_simp) (by go_simp)).mono ?_
            rintro e w1 ⟨rfl, rfl⟩
            have HF := Lib.hid (fun W v => HNO.out W v (by rw [HFB.out, e2, e4]; rfl))
            clear HNO HY HNS HFB HS H
            go_wp2
            go_ret2
            exact ⟨_, _, rfl, Lib.hid (HF.out _ _), HB.out.alloc HB.out.size _⟩
          rw [e4] at K4
          go_wp2_with fail
          refine (K4.out _ (by go_simp) (by go_simp) (by go_simp)).mono ?_
          rintro e w1 ⟨rfl, rfl⟩
          have K5 := Lib.hid (fun W => l00In_any a 0 (k - 1) W)
          cases e5 : inB a 0 (k - 1)
          · rw [e5] at K5
            go_wp2_with fail
            refine (K5.out _).mono ?_
            rintro e w1 ⟨rfl, rfl⟩
            have HF := Lib.hid (fun W v => HNO.out W v (by rw [HFB.out, e2, e4, e5]; rfl))
            clear HNO HY HNS HFB HS H
            go_wp2
            go_ret2
            exact ⟨_, _, rfl, Lib.hid (HF.out _ _), HB.out.alloc HB.out.size _⟩
          rw [e5] at K5
          go_wp2_with fail
          refine (K5.out _).mono ?_
          rintro e w1 ⟨rfl, rfl⟩
          go_wp2_with fail
          refine (KT.out _).mono ?_
          rintro e w1 ⟨rfl, rfl⟩
          go_wp2_with fail
          refine (KT.out _).mono ?_
          rintro e w1 ⟨rfl, rfl⟩
          cases e6 : (b' == 0)
          · have e7 : (b' != 0) = true := by simpa [bne] using e6
            have HF := Lib.hid (fun W v => HNO.out W v (by rw [HFB.out, e2, e4, e5, e6]; rfl))
            clear HNO HY HNS HFB HS H
            go_wp2
            go_ret2
            exact ⟨_, _, rfl, Lib.hid (HF.out _ _), HB.out.alloc HB.out.size _⟩
          obtain rfl : b' = 0 := by simpa using e6
          have ⟨a1, a2⟩ := inB_iff.1 e5
          obtain ⟨A, rfl⟩ : ∃ A : Nat, a = A := ⟨a.toNat, by omega⟩
          obtain ⟨B, hB0⟩ : ∃ B : Nat, B = 0 := ⟨0, rfl⟩
          have hfit : fitsB k ⟨8, A, 0, q, r, c, xs⟩ = true := by rw [HFB.out, e2, e4, e5, e6]; rfl
          have hAk : A < k := by omega
          have hBk : 0 < k := by omega
          have hya := HY.out hfit
          rw [if_neg (by decide)] at hya
          have hns := fun W v => HNS.out W v hfit (by decide)
          clear HNO HY HNS HFB e4 e5 e6 K1 K4 K5 KT K2 e2 ez hfit
          have hsa := shGet_some (S := S) (i := A) (by rw [HSL.out]; exact hAk)
          have hsb := shGet_some (S := S) (i := 0) (by rw [HSL.out]; exact hBk)
          obtain ⟨⟨v1, v2⟩, hv⟩ : ∃ v, v = shGet S A := ⟨_, rfl⟩
          obtain ⟨⟨u1, u2⟩, hu⟩ : ∃ v, v = shGet S 0 := ⟨_, rfl⟩
          rw [← hv] at hsa hya hns
          rw [show ((0 : Nat) : Int) = 0 by rfl, ← hu] at hsb
          rw [← hu] at hya hns
          obtain ⟨g, rfl, hgr, ca, hfz⟩ := HS.out.2.spot hsa (by decide)
          obtain ⟨g', eg, -, cb, -⟩ := HS.out.2.spot hsb (by decide)
          cases eg
          have ca0 : wr.cell? ⟨g, A * 3, none⟩ = some (.int .i64 v1) := ca 0 (by decide)
          have ca1 : wr.cell? ⟨g, A * 3 + 1, none⟩ = some (.int .i64 v2) := ca 1 (by decide)
          have ca2 : wr.cell? ⟨g, A * 3 + 2, none⟩ = some (.slice none 0 0) := ca 2 (by decide)
          have cb0 : wr.cell? ⟨g, 0 * 3, none⟩ = some (.int .i64 u1) := cb 0 (by decide)
          have cb1 : wr.cell? ⟨g, 0 * 3 + 1, none⟩ = some (.int .i64 u2) := cb 1 (by decide)
          have cb2 : wr.cell? ⟨g, 0 * 3 + 2, none⟩ = some (.slice none 0 0) := cb 2 (by decide)
          have hgl := hgr.2.2
          have HGR := Lib.hid hgr
          clear ca cb hsa hsb hv hu hgr
          rw [show shapeOf 8 (v1, v2) (u1, u2) = some (v1, v2) by simp [shapeOf]] at hya
          have hz1 := fun W hb => sh_row HS.out.2 (W := W) hb
          have HR := Lib.hid hz1
          clear hz1
          go_wp2_with (at_builtin; refine wp_appA rfl _ _ 47 rfl w.heap.size i0 (.agg #[.int .i64 0, .int .i64 0, .slice none 0 0]) 3 40 Try.underlying47 hi0 hz0 hzs hz2 rfl (by decide) rfl (by intro u hu; simp at hu; rcases hu with rfl | rfl | rfl <;> rfl) _ _ _ rfl (HR.out _ (by repeat (first | exact Below.refl _ _ | refine Below.alloc ?_ (by simp; try omega) _))) (by go_simp) ?c3 ?c4 ?c5 ?_)
          case c3 => unfold maxLen; omega
          case c4 => omega
          case c5 => have := HB.out.size; simp; omega
          intro v' w9 ho9 hg9 hat9 hb9 hs9
          obtain ⟨ad9, cap9, rfl, hown9⟩ := sh_snoc (s := (v1, v2)) HS.out.2 HB.out.size (by repeat (first | exact Below.refl _ _ | refine Below.alloc ?_ (by simp; try omega) _)) ho9 hg9 (by simpa using hat9)
          have HO9 := Lib.hid (And.intro hya hown9); have HB9 := Lib.hid ((HB.out.trans ((show Below wr.heap.size wr _ by repeat (first | exact Below.refl _ _ | refine Below.alloc ?_ (by simp; try omega) _)).mono HB.out.size)).trans hb9)
          clear ho9 hg9 hat9 hb9 hya hown9 HR HS HB p0 p1 p2 p3 p4 p5 p6 ca0 ca1 ca2 cb0 cb1 cb2 hfz hns
          go_wp2
          go_roundw
          case rel => exact ⟨k + 1, by go_num, hlt, _, _, _, rfl, HO9, HB9⟩
          case measure => simp [intOf]; omega
      · as_aux_lemma =>
          subst hkk
          have K1 := Lib.hid (fun W => l00In_any 9 0 10 W)
          rw [show inB (9 : Int) 0 10 = true by decide] at K1
          have KT := Lib.hid (fun W => spec_l04Two 9 W)
          rw [show twoB (9 : Int) = false by decide] at KT
          go_wp2_with fail
          refine (K1.out _).mono ?_
          rintro e w1 ⟨rfl, rfl⟩
          have K2 := Lib.hid (fun W => spec_l01Same q 0 hok2 (by decide) W)
          have ez : decide (cn .f32 q = cn .f32 0) = zeroB q := rfl
          rw [ez] at K2
          cases e2 : zeroB q
          · rw [e2] at K2
            go_wp2_with fail
            refine (K2.out _).mono ?_
            rintro e w1 ⟨rfl, rfl⟩
            have HF := Lib.hid (fun W v => HNO.out W v (by rw [HFB.out, e2]; rfl))
            clear HNO HY HNS HFB HS H
            go_wp2
            go_ret2
            exact ⟨_, _, rfl, Lib.hid (HF.out _ _), HB.out.alloc HB.out.size _⟩
          rw [e2] at K2
          go_wp2_with fail
          refine (K2.out _).mono ?_
          rintro e w1 ⟨rfl, rfl⟩
          have K4 := Lib.hid (fun W h1 h2 h3 => spec_l04None W wr.heap.size 4 r c adx m capx h1 h2 h3)
          cases e4 : (r == 0 && (c == 0 && decide (m = 0)))
          · rw [e4] at K4
            go_wp2_with fail
            refine (K4.out _ (by go_simp) (by go_simp) (by go_simp)).mono ?_
            rintro e w1 ⟨rfl, rfl⟩
            have HF := Lib.hid (fun W v => HNO.out W v (by rw [HFB.out, e2, e4]; rfl))
            clear HNO HY HNS HFB HS H
            go_wp2
            go_ret2
            exact ⟨_, _, rfl, Lib.hid (HF.out _ _), HB.out.alloc HB.out.size _⟩
          rw [e4] at K4
          go_wp2_with fail
          refine (K4.out _ (by go_simp) (by go_simp) (by go_simp)).mono ?_
          rintro e w1 ⟨rfl, rfl⟩
          have K5 := Lib.hid (fun W => l00In_any a 0 (k - 1) W)
          cases e5 : inB a 0 (k - 1)
          · rw [e5] at K5
            go_wp2_with fail
            refine (K5.out _).mono ?_
            rintro e w1 ⟨rfl, rfl⟩
            have HF := Lib.hid (fun W v => HNO.out W v (by rw [HFB.out, e2, e4, e5]; rfl))
            clear HNO HY HNS HFB HS H
            go_wp2
            go_ret2
            exact ⟨_, _, rfl, Lib.hid (HF.out _ _), HB.out.alloc HB.out.size _⟩
          rw [e5] at K5
          go_wp2_with fail
          refine (K5.out _).mono ?_
          rintro e w1 ⟨rfl, rfl⟩
          go_wp2_with fail
          refine (KT.out _).mono ?_
          rintro e w1 ⟨rfl, rfl⟩
          go_wp2_with fail
          refine (KT.out _).mono ?_
          rintro e w1 ⟨rfl, rfl⟩
          cases e6 : (b' == 0)
          · have e7 : (b' != 0) = true := by simpa [bne] using e6
            have HF := Lib.hid (fun W v => HNO.out W v (by rw [HFB.out, e2, e4, e5, e6]; rfl))
            clear HNO HY HNS HFB HS H
            go_wp2
            go_ret2
            exact ⟨_, _, rfl, Lib.hid (HF.out _ _), HB.out.alloc HB.out.size _⟩
          obtain rfl : b' = 0 := by simpa using e6
          have ⟨a1, a2⟩ := inB_iff.1 e5
          obtain ⟨A, rfl⟩ : ∃ A : Nat, a = A := ⟨a.toNat, by omega⟩
          obtain ⟨B, hB0⟩ : ∃ B : Nat, B = 0 := ⟨0, rfl⟩
          have hfit : fitsB k ⟨9, A, 0, q, r, c, xs⟩ = true := by rw [HFB.out, e2, e4, e5, e6]; rfl
          have hAk : A < k := by omega
          have hBk : 0 < k := by omega
          have hya := HY.out hfit
          rw [if_neg (by decide)] at hya
          have hns := fun W v => HNS.out W v hfit (by decide)
          clear HNO HY HNS HFB e4 e5 e6 K1 K4 K5 KT K2 e2 ez hfit
          have hsa := shGet_some (S := S) (i := A) (by rw [HSL.out]; exact hAk)
          have hsb := shGet_some (S := S) (i := 0) (by rw [HSL.out]; exact hBk)
          obtain ⟨⟨v1, v2⟩, hv⟩ : ∃ v, v = shGet S A := ⟨_, rfl⟩
          obtain ⟨⟨u1, u2⟩, hu⟩ : ∃ v, v = shGet S 0 := ⟨_, rfl⟩
          rw [← hv] at hsa hya hns
          rw [show ((0 : Nat) : Int) = 0 by rfl, ← hu] at hsb
          rw [← hu] at hya hns
          obtain ⟨g, rfl, hgr, ca, hfz⟩ := HS.out.2.spot hsa (by decide)
          obtain ⟨g', eg, -, cb, -⟩ := HS.out.2.spot hsb (by decide)
          cases eg
          have ca0 : wr.cell? ⟨g, A * 3, none⟩ = some (.int .i64 v1) := ca 0 (by decide)
          have ca1 : wr.cell? ⟨g, A * 3 + 1, none⟩ = some (.int .i64 v2) := ca 1 (by decide)
          have ca2 : wr.cell? ⟨g, A * 3 + 2, none⟩ = some (.slice none 0 0) := ca 2 (by decide)
          have cb0 : wr.cell? ⟨g, 0 * 3, none⟩ = some (.int .i64 u1) := cb 0 (by decide)
          have cb1 : wr.cell? ⟨g, 0 * 3 + 1, none⟩ = some (.int .i64 u2) := cb 1 (by decide)
          have cb2 : wr.cell? ⟨g, 0 * 3 + 2, none⟩ = some (.slice none 0 0) := cb 2 (by decide)
          have hgl := hgr.2.2
          have HGR := Lib.hid hgr
          clear ca cb hsa hsb hv hu hgr
          rw [show shapeOf 9 (v1, v2) (u1, u2) = some (v1, v2) by simp [shapeOf]] at hya
          have hz1 := fun W hb => sh_row HS.out.2 (W := W) hb
          have HR := Lib.hid hz1
          clear hz1
          go_wp2_with (at_builtin; refine wp_appA rfl _ _ 47 rfl w.heap.size i0 (.agg #[.int .i64 0, .int .i64 0, .slice none 0 0]) 3 40 Try.underlying47 hi0 hz0 hzs hz2 rfl (by decide) rfl (by intro u hu; simp at hu; rcases hu with rfl | rfl | rfl <;> rfl) _ _ _ rfl (HR.out _ (by repeat (first | exact Below.refl _ _ | refine Below.alloc ?_ (by simp; try omega) _))) (by go_simp) ?c3 ?c4 ?c5 ?_)
          case c3 => unfold maxLen; omega
          case c4 => omega
          case c5 => have := HB.out.size; simp; omega
          intro v' w9 ho9 hg9 hat9 hb9 hs9
          obtain ⟨ad9, cap9, rfl, hown9⟩ := sh_snoc (s := (v1, v2)) HS.out.2 HB.out.size (by repeat (first | exact Below.refl _ _ | refine Below.alloc ?_ (by simp; try omega) _)) ho9 hg9 (by simpa using hat9)
          have HO9 := Lib.hid (And.intro hya hown9); have HB9 := Lib.hid ((HB.out.trans ((show Below wr.heap.size wr _ by repeat (first | exact Below.refl _ _ | refine Below.alloc ?_ (by simp; try omega) _)).mono HB.out.size)).trans hb9)
          clear ho9 hg9 hat9 hb9 hya hown9 HR HS HB p0 p1 p2 p3 p4 p5 p6 ca0 ca1 ca2 cb0 cb1 cb2 hfz hns
          go_wp2
          go_roundw
          case rel => exact ⟨k + 1, by go_num, hlt, _, _, _, rfl, HO9, HB9⟩
          case measure => simp [intOf]; omega
      · as_aux_lemma =>
          subst hkk
          have K1 := Lib.hid (fun W => l00In_any 10 0 10 W)
          rw [show inB (10 : Int) 0 10 = true by decide] at K1
          have KT := Lib.hid (fun W => spec_l04Two 10 W)
          rw [show twoB (10 : Int) = false by decide] at KT
          go_wp2_with fail
          refine (K1.out _).mono ?_
          rintro e w1 ⟨rfl, rfl⟩
          have K2 := Lib.hid (fun W => spec_l01Same q 0 hok2 (by decide) W)
          have ez : decide (cn .f32 q = cn .f32 0) = zeroB q := rfl
          rw [ez] at K2
          cases e2 : zeroB q
          · rw [e2] at K2
            go_wp2_with fail
            refine (K2.out _).mono ?_
            rintro e w1 ⟨rfl, rfl⟩
            have HF := Lib.hid (fun W v => HNO.out W v (by rw [HFB.out, e2]; rfl))
            clear HNO HY HNS HFB HS H
            go_wp2
            go_ret2
            exact ⟨_, _, rfl, Lib.hid (HF.out _ _), HB.out.alloc HB.out.size _⟩
          rw [e2] at K2
          go_wp2_with fail
          refine (K2.out _).mono ?_
          rintro e w1 ⟨rfl, rfl⟩
          have K4 := Lib.hid (fun W h1 h2 h3 => spec_l04None W wr.heap.size 4 r c adx m capx h1 h2 h3)
          cases e4 : (r == 0 && (c == 0 && decide (m = 0)))
          · rw [e4] at K4
            go_wp2_with fail
            refine (K4.out _ (by go_simp) (by go_simp) (by go_simp)).mono ?_
            rintro e w1 ⟨rfl, rfl⟩
            have HF := Lib.hid (fun W v => HNO.out W v (by rw [HFB.out, e2, e4]; rfl))
            clear HNO HY HNS HFB HS H
            go_wp2
            go_ret2
            exact ⟨_, _, rfl, Lib.hid (HF.out _ _), HB.out.alloc HB.out.size _⟩
          rw [e4] at K4
          go_wp2_with fail
          refine (K4.out _ (by go_simp) (by go_simp) (by go_simp)).mono ?_
          rintro e w1 ⟨rfl, rfl⟩
          have K5 := Lib.hid (fun W => l00In_any a 0 (k - 1) W)
          cases e5 : inB a 0 (k - 1)
          · rw [e5] at K5
            go_wp2_with fail
            refine (K5.out _).mono ?_
            rintro e w1 ⟨rfl, rfl⟩
            have HF := Lib.hid (fun W v => HNO.out W v (by rw [HFB.out, e2, e4, e5]; rfl))
            clear HNO HY HNS HFB HS H
            go_wp2
            go_ret2
            exact ⟨_, _, rfl, Lib.hid (HF.out _ _), HB.out.alloc HB.out.size _⟩
          rw [e5] at K5
          go_wp2_with fail
          refine (K5.out _).mono ?_
          rintro e w1 ⟨rfl, rfl⟩
          go_wp2_with fail
          refine (KT.out _).mono ?_
          rintro e w1 ⟨rfl, rfl⟩
          go_wp2_with fail
          refine (KT.out _).mono ?_
          rintro e w1 ⟨rfl, rfl⟩
          cases e6 : (b' == 0)
          · have e7 : (b' != 0) = true := by simpa [bne] using e6
            have HF := Lib.hid (fun W v => HNO.out W v (by rw [HFB.out, e2, e4, e5, e6]; rfl))
            clear HNO HY HNS HFB HS H
            go_wp2
            go_ret2
            exact ⟨_, _, rfl, Lib.hid (HF.out _ _), HB.out.alloc HB.out.size _⟩
          obtain rfl : b' = 0 := by simpa using e6
          have ⟨a1, a2⟩ := inB_iff.1 e5
          obtain ⟨A, rfl⟩ : ∃ A : Nat, a = A := ⟨a.toNat, by omega⟩
          obtain ⟨B, hB0⟩ : ∃ B : Nat, B = 0 := ⟨0, rfl⟩
          have hfit : fitsB k ⟨10, A, 0, q, r, c, xs⟩ = true := by rw [HFB.out, e2, e4, e5, e6]; rfl
          have hAk : A < k := by omega
          have hBk : 0 < k := by omega
          have hya := HY.out hfit
          rw [if_neg (by decide)] at hya
          have hns := fun W v => HNS.out W v hfit (by decide)
          clear HNO HY HNS HFB e4 e5 e6 K1 K4 K5 KT K2 e2 ez hfit
          have hsa := shGet_some (S := S) (i := A) (by rw [HSL.out]; exact hAk)
          have hsb := shGet_some (S := S) (i := 0) (by rw [HSL.out]; exact hBk)
          obtain ⟨⟨v1, v2⟩, hv⟩ : ∃ v, v = shGet S A := ⟨_, rfl⟩
          obtain ⟨⟨u1, u2⟩, hu⟩ : ∃ v, v = shGet S 0 := ⟨_, rfl⟩
          rw [← hv] at hsa hya hns
          rw [show ((0 : Nat) : Int) = 0 by rfl, ← hu] at hsb
          rw [← hu] at hya hns
          obtain ⟨g, rfl, hgr, ca, hfz⟩ := HS.out.2.spot hsa (by decide)
          obtain ⟨g', eg, -, cb, -⟩ := HS.out.2.spot hsb (by decide)
          cases eg
          have ca0 : wr.cell? ⟨g, A * 3, none⟩ = some (.int .i64 v1) := ca 0 (by decide)
          have ca1 : wr.cell? ⟨g, A * 3 + 1, none⟩ = some (.int .i64 v2) := ca 1 (by decide)
          have ca2 : wr.cell? ⟨g, A * 3 + 2, none⟩ = some (.slice none 0 0) := ca 2 (by decide)
          have cb0 : wr.cell? ⟨g, 0 * 3, none⟩ = some (.int .i64 u1) := cb 0 (by decide)
          have cb1 : wr.cell? ⟨g, 0 * 3 + 1, none⟩ = some (.int .i64 u2) := cb 1 (by decide)
          have cb2 : wr.cell? ⟨g, 0 * 3 + 2, none⟩ = some (.slice none 0 0) := cb 2 (by decide)
          have hgl := hgr.2.2
          have HGR := Lib.hid hgr
          clear ca cb hsa hsb hv hu hgr
          rw [show shapeOf 10 (v1, v2) (u1, u2) = some (1, 1) by simp [shapeOf]] at hya
          have hz1 := fun W hb => sh_row HS.out.2 (W := W) hb
          have HR := Lib.hid hz1
          clear hz1
          go_wp2_with (at_builtin; refine wp_appA rfl _ _ 47 rfl w.heap.size i0 (.agg #[.int .i64 0, .int .i64 0, .slice none 0 0]) 3 40 Try.underlying47 hi0 hz0 hzs hz2 rfl (by decide) rfl (by intro u hu; simp at hu; rcases hu with rfl | rfl | rfl <;> rfl) _ _ _ rfl (HR.out _ (by repeat (first | exact Below.refl _ _ | refine Below.alloc ?_ (by simp; try omega) _))) (by go_simp) ?c3 ?c4 ?c5 ?_)
          case c3 => unfold maxLen; omega
          case c4 => omega
          case c5 => have := HB.out.size; simp; omega
          intro v' w9 ho9 hg9 hat9 hb9 hs9
          obtain ⟨ad9, cap9, rfl, hown9⟩ := sh_snoc (s := (1, 1)) HS.out.2 HB.out.size (by repeat (first | exact Below.refl _ _ | refine Below.alloc ?_ (by simp; try omega) _)) ho9 hg9 (by simpa using hat9)
          have HO9 := Lib.hid (And.intro hya hown9); have HB9 := Lib.hid ((HB.out.trans ((show Below wr.heap.size wr _ by repeat (first | exact Below.refl _ _ | refine Below.alloc ?_ (by simp; try omega) _)).mono HB.out.size)).trans hb9)
          clear ho9 hg9 hat9 hb9 hya hown9 HR HS HB p0 p1 p2 p3 p4 p5 p6 ca0 ca1 ca2 cb0 cb1 cb2 hfz hns
          go_wp2
          go_roundw
          case rel => exact ⟨k + 1, by go_num, hlt, _, _, _, rfl, HO9, HB9⟩
          case measure => simp [intOf]; omega
    · have hkn : k = n := by omega
      subst hkn
      have hf : ShOut (os.map OpD.toOpP) w wr (.slice ad' k cap') true := by
        have hl := shapesN_length (by rw [← HP.out]; exact Nat.le_refl _) HS.out.1
        have he := (shapesP_eq HP.out hn1 hn2).trans HS.out.1
        refine ⟨by rw [he]; rfl, fun S' hS' => ?_⟩
        rw [he] at hS'; cases hS'
        rw [hl]
        exact ⟨_, _, rfl, HS.out.2⟩
      have HF := Lib.hid hf; clear hf
      go_wp2
      go_ret2
      exact ⟨_, _, rfl, HF, HB.out⟩
end Go.Proofs.Ytkbfjkobjpkgkaa
