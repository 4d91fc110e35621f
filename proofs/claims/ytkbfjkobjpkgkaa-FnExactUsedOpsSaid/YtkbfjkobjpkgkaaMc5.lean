/- Joined texts 5: Tp4 Tu3 Tp8 Tw0 WUsd. Each is told at its own head. No condition. -/
import Derived.Deep.RegionHeld3
import Derived.Deep.CutRange
import Derived.Deep.CutBlock
import Derived.Deep.DeepCutAuto
import Derived.Test.YtkbfjkobjpkgkaaMc3
import Derived.Test.YtkbfjkobjpkgkaaMc4
/- The shapes of the values of a tape: the program. No condition. -/
namespace Go.Proofs.Ytkbfjkobjpkgkaa
open Go Go.RowKit
set_option linter.unusedVariables false
set_option linter.unusedSimpArgs false
def shR : RecT Sh := ⟨135, 2, fun s => [.int .i64 s.1, .int .i64 s.2], fun _ => [], fun _ => True, fun _ => rfl⟩
theorem info_sh : (Try.prog.info? 135).map (fun i => (i.zero, i.size, i.bytes)) = some (some (.agg #[.int .i64 0, .int .i64 0]), 2, 16) := by kernel_rfl
theorem shapesP_eq' {os : List OpP} {n : Nat} (h : n = os.length) (h1 : 1 ≤ n) (h2 : n ≤ 48) : shapesP os = shapesN os n := by
  unfold shapesP; rw [← h, if_pos ⟨h1, h2⟩]
theorem shapesP_no' {os : List OpP} {n : Nat} (h : n = os.length) (h1 : ¬(1 ≤ n ∧ n ≤ 48)) : shapesP os = none := by
  unfold shapesP; rw [← h, if_neg h1]
theorem shapes_stop' {os : List OpP} {n k : Nat} {o : OpP} {S : List Sh} (hn : n = os.length) (h1 : 1 ≤ n) (h2 : n ≤ 48) (ho : os[k]? = some o) (hS : shapesN os k = some S) (h : stepSh S o = none) : shapesP os = none := by
  have hk : k < os.length := (List.getElem?_eq_some_iff.1 ho).1
  rw [shapesP_eq' hn h1 h2]
  refine shapesN_none (k := k + 1) ?_ (by omega) (by omega)
  rw [shapesN_succ ho, hS]; exact h
theorem step_unfit' {S : List Sh} {o : OpP} (h : fitsB S.length o = false) : stepSh S o = none := by
  unfold stepSh; rw [h]; rfl
theorem shGet_some' {S : List Sh} {i : Nat} (h : i < S.length) : S[i]? = some (shGet S (i : Int)) := by
  unfold shGet
  rw [List.getD_eq_getElem?_getD, Int.toNat_natCast, List.getElem?_eq_getElem h]; rfl
/-- what the program tells of the shapes -/
def ShIm (os : List OpP) (w w' : World) (v : Value) (b : Bool) : Prop := b = (shapesP os).isSome ∧ ∀ S, shapesP os = some S → ∃ ad cap, v = .slice ad S.length cap ∧ OwnR shR w' w.heap.size w'.heap.size ad S.length cap S
theorem ShIm.no {os : List OpP} {w w' : World} {v : Value} (h : shapesP os = none) : ShIm os w w' v false := ⟨by rw [h]; rfl, fun S hS => by rw [h] at hS; cases hS⟩
theorem sh2_snoc {w W w9 : World} {B k cap : Nat} {ad : Option Addr} {S : List Sh} {s : Sh} {v' : Value} {o : Obj} (h : OwnR shR w B w.heap.size ad k cap S) (hB : B ≤ w.heap.size) (hb : Below w.heap.size w W)
    (ho : w9.ownsRow B 135 2 v' (k + 1) (S.flatMap shR.cells ++ [.int .i64 s.1, .int .i64 s.2])) (hg : (W.alloc o).grownBy w9 (Value.slice ad k cap).ownBlock) (hat : v'.ownBlock = (Value.slice ad k cap).ownBlock ∨ v'.ownBlock = some (W.heap.size + 1)) :
    ∃ ad' cap', v' = .slice ad' (k + 1) cap' ∧ OwnR shR w9 B w9.heap.size ad' (k + 1) cap' (S ++ [s]) :=
  h.snoc hB hb trivial (Own.nil W _ W.heap.size) (Nat.le_refl _) hb.size ho hg hat
theorem sh2_row {w W : World} {B k cap : Nat} {ad : Option Addr} {S : List Sh} (h : OwnR shR w B w.heap.size ad k cap S) (hb : Below w.heap.size w W) : W.ownsRow B 135 2 (.slice ad k cap) k (S.flatMap shR.cells) := (h.below hb).own.head.own
set_option maxHeartbeats 32000000 in
set_option maxRecDepth 100000 in
theorem impl_shapes (w : World) (ad : Option Addr) (cap : Nat) (os : List OpD) (h : SeeR opR w ad cap os) :
    Calls Try.prog 105 #[.slice ad os.length cap] w fun e w' => ∃ v b, e = .returned (.tuple #[v, .bool b]) ∧ Hid (ShIm (os.map OpD.toOpP) w w' v b) ∧ Below w.heap.size w w' := by
  obtain ⟨i0, hi0, hz0, hzs, hz2⟩ := info_parts info_sh
  have hm := Nat.le_trans h.le h.cap
  unfold maxLen at hm
  obtain ⟨n, hN⟩ : ∃ n, n = os.length := ⟨_, rfl⟩
  have hP : n = (os.map OpD.toOpP).length := by rw [List.length_map]; exact hN
  rw [← hN] at hm ⊢
  have HN := Lib.hid hN; have HP := Lib.hid hP; have H := Lib.hid h; clear hN hP h
  by_cases hr : (1 ≤ n ∧ n ≤ 48)
  rotate_left
  · have HS := Lib.hid (shapesP_no' HP.out hr)
    by_cases h0 : n = 0
    · subst h0
      go_enter Try.func105, Try.ntmps105
      go_wp2
      go_ret2
      exact ⟨_, _, rfl, Lib.hid (ShIm.no HS.out), Below.refl _ _⟩
    · have h48 : 48 < n := by omega
      clear hr h0
      go_enter Try.func105, Try.ntmps105
      go_wp2
      go_ret2
      exact ⟨_, _, rfl, Lib.hid (ShIm.no HS.out), Below.refl _ _⟩
  obtain ⟨hn1, hn2⟩ := hr
  go_enter Try.func105, Try.ntmps105
  go_wp2
  go_loopw [4, 22] (fun v i wt => ∃ k : Nat, i = .int .i64 k ∧ k ≤ n ∧ ∃ (S : List Sh) (ad' : Option Addr) (cap' : Nat), v = .slice ad' k cap' ∧ Hid (shapesN (os.map OpD.toOpP) k = some S ∧ OwnR shR wt w.heap.size wt.heap.size ad' k cap' S) ∧ Hid (Below w.heap.size w wt)) (fun _ i _ => n - (intOf i).toNat)
  case atStart =>
    refine ⟨0, rfl, Nat.zero_le _, [], _, _, rfl, Lib.hid ⟨rfl, ?_⟩, Lib.hid (below1 _ _)⟩
    exact ⟨Own.one (Row.mk' (World.ownsRow_made _ _ _ (Nat.le_refl _) (Nat.zero_le _) rfl)), rfl, fun a ha => (nomatch ha)⟩
  case round =>
    obtain ⟨k, rfl, hk, S, ad', cap', rfl, HS, HB⟩ := hrel
    by_cases hlt : k < n
    · obtain ⟨o, ho⟩ := getElem?_lt (show k < os.length by rw [← HN.out]; exact hlt)
      obtain ⟨b, off, rfl, hbl, ⟨p0, p1, p2, p3, p4, p5, p6⟩, hf, hok⟩ := op_spot (H.out.below HB.out) ho
      have hop : (os.map OpD.toOpP)[k]? = some o.toOpP := by rw [List.getElem?_map, ho]; rfl
      have hSl := shapesN_length (by rw [← HP.out]; omega) HS.out.1
      have hxm : o.xs.length ≤ maxLen := Nat.le_trans hf.len hf.cap
      have hno : ∀ (W : World) (v : Value), fitsB k o.toOpP = false → ShIm (os.map OpD.toOpP) w W v false := fun _ _ h1 => ShIm.no (shapes_stop' HP.out hn1 hn2 hop HS.out.1 (step_unfit' (by rw [hSl]; exact h1)))
      have hyes : fitsB k o.toOpP = true → shapesN (os.map OpD.toOpP) (k + 1) = (if o.k = 0 then some (S ++ [(o.r, o.c)]) else (shapeOf o.k (shGet S o.a) (shGet S o.b)).map fun s => S ++ [s]) := by
        intro h1
        rw [shapesN_succ hop, HS.out.1]
        show stepSh S o.toOpP = _
        unfold stepSh
        rw [hSl, if_pos h1]
      have hnoS : ∀ (W : World) (v : Value), fitsB k o.toOpP = true → o.k ≠ 0 → shapeOf o.k (shGet S o.a) (shGet S o.b) = none → ShIm (os.map OpD.toOpP) w W v false := fun _ _ h1 h2 h3 => ShIm.no (shapes_stop' HP.out hn1 hn2 hop HS.out.1 (by unfold stepSh; rw [hSl, if_pos h1, if_neg h2, h3]; rfl))
      have K1 := Lib.hid (fun W => impl_fieldsFit W o k (by omega) hxm hok.2.1)
      have HNO := Lib.hid hno; have HY := Lib.hid hyes; have HNS := Lib.hid hnoS; have HSL := Lib.hid hSl
      clear hno hyes hnoS hop ho hf hSl hok hxm
      have hbx := BoxN.alloc wr o.cells.toArray 55
      have BX := Lib.hid (show BoxN (wr.alloc (.cells o.cells.toArray 55)) wr.heap.size o.cells from hbx)
      clear hbx
      obtain ⟨⟨kk, a, b', q, r, c, xs⟩, adx, capx⟩ := o
      unfold OpD.val at K1
      unfold OpD.cells at BX
      simp only at p0 p1 p2 p3 p4 p5 p6 HY HNO HNS K1 BX
      obtain ⟨m, hM⟩ : ∃ m, m = xs.length := ⟨_, rfl⟩
      rw [← hM] at p6 K1 BX
      clear hM
      cases e1 : fitsB k ⟨kk, a, b', q, r, c, xs⟩
      · rw [e1] at K1
        go_wp2_with fail
        refine (K1.out _).mono ?_
        rintro e w1 ⟨rfl, hb1⟩
        have HF := Lib.hid (fun W v => HNO.out W v e1)
        have HB1 := Lib.hid (bthen (HB.out.alloc HB.out.size _) (by simpa using hb1)); clear hb1
        clear HNO HY HNS e1
        go_wp2
        go_ret2
        exact ⟨_, _, rfl, Lib.hid (HF.out _ _), HB1.out⟩
      rw [e1] at K1
      by_cases hk0 : kk = 0
      · as_aux_lemma =>
          subst hk0
          have hya := HY.out e1
          rw [if_pos rfl] at hya
          clear HNO HY HNS e1
          go_wp2_with fail
          refine (K1.out _).mono ?_
          rintro e w1 ⟨rfl, hb1⟩
          obtain ⟨-, x0, x1, x2, x3, x4, x5, x6, xf⟩ := (BX.out.below hb1).seven
          have hsz1 : wr.heap.size + 1 ≤ w1.heap.size := by have := hb1.size; simpa using this
          have HB1 : Hid (Below wr.heap.size wr w1) := Lib.hid (bthen (below1 wr _) hb1)
          have HR := Lib.hid (fun W hb => sh2_row HS.out.2 (W := W) hb)
          clear hb1 p0 p1 p2 p3 p4 p5 p6 K1 BX H HN HP HSL
          go_wp2_with (at_builtin; refine wp_appA rfl _ _ 131 rfl w.heap.size i0 (.agg #[.int .i64 0, .int .i64 0]) 2 16 Try.underlying131 hi0 hz0 hzs hz2 rfl (by decide) rfl (by intro u hu; simp at hu; rcases hu with rfl | rfl <;> rfl) _ _ _ rfl (HR.out _ HB1.out) (by go_simp) ?c3 ?c4 ?c5 ?_)
          case c3 => unfold maxLen; omega
          case c4 => omega
          case c5 => exact Nat.le_trans HB.out.size HB1.out.size
          intro v' w9 ho9 hg9 hat9 hb9 hs9
          obtain ⟨ad9, cap9, rfl, hown9⟩ := sh2_snoc (s := (r, c)) HS.out.2 HB.out.size HB1.out ho9 hg9 (by simpa using hat9)
          have HO9 := Lib.hid (And.intro hya hown9); have HB9 := Lib.hid ((HB.out.trans (HB1.out.mono HB.out.size)).trans hb9)
          clear ho9 hg9 hat9 hb9 hya hown9 HR HS HB HB1
          go_wp2
          refine ⟨?rel, ?measure⟩
          case rel => exact ⟨k + 1, by go_num, hlt, _, _, _, rfl, HO9, HB9⟩
          case measure => simp [intOf]; omega
      have ⟨a1, a2⟩ := (fitsB_args e1 hk0).1
      have ⟨b1, b2⟩ := (fitsB_args e1 hk0).2.1
      simp only at a1 a2 b1 b2
      obtain ⟨A, rfl⟩ : ∃ A : Nat, a = A := ⟨a.toNat, by omega⟩
      obtain ⟨B, rfl⟩ : ∃ B : Nat, b' = B := ⟨b'.toNat, by omega⟩
      have hAk : A < k := by omega
      have hBk : B < k := by omega
      have hya := HY.out e1
      rw [if_neg hk0] at hya
      have hns := fun W v => HNS.out W v e1 hk0
      have hkr := fitsB_in e1
      simp only at hkr
      have HKR := Lib.hid hkr
      clear hkr HNO HY HNS e1 a1 a2 b1 b2
      have hsa := shGet_some' (S := S) (i := A) (by rw [HSL.out]; exact hAk)
      have hsb := shGet_some' (S := S) (i := B) (by rw [HSL.out]; exact hBk)
      obtain ⟨⟨v1, v2⟩, hv⟩ : ∃ v, v = shGet S A := ⟨_, rfl⟩
      obtain ⟨⟨u1, u2⟩, hu⟩ : ∃ v, v = shGet S B := ⟨_, rfl⟩
      rw [← hv] at hsa hya hns
      rw [← hu] at hsb hya hns
      obtain ⟨g, rfl, hgr, ca, hfz⟩ := HS.out.2.spot hsa (by decide)
      obtain ⟨g', eg, -, cb, -⟩ := HS.out.2.spot hsb (by decide)
      cases eg
      have CA := Lib.hid ca; have CB := Lib.hid cb; have HGR := Lib.hid hgr
      clear ca cb hgr hsa hsb hv hu
      have hk0' : (kk == 0) = false := by simpa using hk0
      go_wp2_with fail
      refine (K1.out _).mono ?_
      rintro e w1 ⟨rfl, hb1⟩
      obtain ⟨-, x0, x1, x2, x3, x4, x5, x6, xf⟩ := (BX.out.below hb1).seven
      have hsz1 : wr.heap.size + 1 ≤ w1.heap.size := by have := hb1.size; simpa using this
      have HB1 : Hid (Below wr.heap.size wr w1) := Lib.hid (bthen (below1 wr _) hb1)
      have ca0 : w1.cell? ⟨g, A * 2, none⟩ = some (.int .i64 v1) := (HB1.out.cell (p := ⟨g, A * 2, none⟩) HGR.out.2.2).trans (CA.out 0 (by decide))
      have ca1 : w1.cell? ⟨g, A * 2 + 1, none⟩ = some (.int .i64 v2) := (HB1.out.cell (p := ⟨g, A * 2 + 1, none⟩) HGR.out.2.2).trans (CA.out 1 (by decide))
      have cb0 : w1.cell? ⟨g, B * 2, none⟩ = some (.int .i64 u1) := (HB1.out.cell (p := ⟨g, B * 2, none⟩) HGR.out.2.2).trans (CB.out 0 (by decide))
      have cb1 : w1.cell? ⟨g, B * 2 + 1, none⟩ = some (.int .i64 u2) := (HB1.out.cell (p := ⟨g, B * 2 + 1, none⟩) HGR.out.2.2).trans (CB.out 1 (by decide))
      have hgl : g < w1.heap.size := Nat.lt_of_lt_of_le HGR.out.2.2 HB1.out.size
      have HR := Lib.hid (fun W hb => sh2_row HS.out.2 (W := W) hb)
      clear CA CB hb1 p0 p1 p2 p3 p4 p5 p6 K1 BX H HN HP HSL
      go_upto_region 11 with fail
      go_cut [7, 8] (fun p7 p8 wx => ∃ g7 g8 : Nat, p7 = .pointer (some ⟨g7, 0, none⟩) ∧ p8 = .pointer (some ⟨g8, 0, none⟩) ∧ Hid (g7 ≠ g8 ∧ w1.heap.size ≤ g7 ∧ w1.heap.size ≤ g8 ∧ BoxN wx g7 [.int .i64 v1, .int .i64 v2] ∧ BoxN wx g8 [.int .i64 u1, .int .i64 u2] ∧ Below w1.heap.size w1 wx))
      case first =>
        go_region_held3 (fun w' => (w'.cell? ⟨wr.heap.size, 1, none⟩ = some (.int .i64 A) ∧ w'.cell? ⟨wr.heap.size, 2, none⟩ = some (.int .i64 B)) ∧ (w'.cell? ⟨g, A * 2, none⟩ = some (.int .i64 v1) ∧ w'.cell? ⟨g, A * 2 + 1, none⟩ = some (.int .i64 v2)) ∧ (w'.cell? ⟨g, B * 2, none⟩ = some (.int .i64 u1) ∧ w'.cell? ⟨g, B * 2 + 1, none⟩ = some (.int .i64 u2))) (go_keep) (first | fail)
        all_goals (try go_wp2_with fail)
        all_goals go_meet
        · exact ⟨_, _, rfl, rfl, Lib.hid ⟨by omega, Nat.le_refl _, Nat.le_succ _, ((BoxN.alloc w1 #[.int .i64 v1, .int .i64 v2] 135).below (below1 _ _)).below (Below.drew (Below.refl _ _)), (BoxN.alloc2 w1 _ #[.int .i64 u1, .int .i64 u2] 135).below (Below.drew (Below.refl _ _)), Below.drew (below2 _ _ _)⟩⟩
        · exact ⟨_, _, rfl, rfl, Lib.hid ⟨by omega, Nat.le_succ _, Nat.le_refl _, (BoxN.alloc2 w1 _ #[.int .i64 v1, .int .i64 v2] 135).below (Below.drew (Below.refl _ _)), ((BoxN.alloc w1 #[.int .i64 u1, .int .i64 u2] 135).below (below1 _ _)).below (Below.drew (Below.refl _ _)), Below.drew (below2 _ _ _)⟩⟩
      case rest =>
        obtain ⟨g7, g8, rfl, rfl, HC⟩ := hcut
        obtain ⟨hne, hg7, hg8, bx7, bx8, hbc⟩ := HC.out
        obtain ⟨l7, y0, y1, yf⟩ := bx7.two
        obtain ⟨l8, z0, z1, zf⟩ := bx8.two
        have hx0 : wc.cell? ⟨wr.heap.size, 0, none⟩ = some (.int .i64 kk) := (hbc.cell (p := ⟨wr.heap.size, 0, none⟩) (by show wr.heap.size < w1.heap.size; omega)).trans x0
        have HBC : Hid (Below wr.heap.size wr wc) := Lib.hid (HB1.out.trans (hbc.mono (by omega)))
        clear bx7 bx8 hbc HB1 x0 x1 x2 x3 x4 x5 x6 xf ca0 ca1 cb0 cb1 HC
        have hwc : wr.heap.size < wc.heap.size := by omega
        go_upto_block 2 with fail
        go_cut [10] (fun f wx => ∃ b1 : Bool, ∃ s1 s2 : Int, f = .bool b1 ∧ Hid ((b1 = true ∧ shapeOf kk (v1, v2) (u1, u2) = some (s1, s2)) ∨ (b1 = false ∧ shapeOf kk (v1, v2) (u1, u2) = none)) ∧ Hid (BoxN wx wc.heap.size [.int .i64 s1, .int .i64 s2] ∧ Below wr.heap.size wr wx))
        case first =>
          clear hya hns HS HR HB
          have hkr := HKR.out
          rcases (by omega : kk = 1 ∨ kk = 2 ∨ kk = 3 ∨ kk = 4 ∨ kk = 5 ∨ kk = 6 ∨ kk = 7 ∨ kk = 8 ∨ kk = 9 ∨ kk = 10) with rfl | rfl | rfl | rfl | rfl | rfl | rfl | rfl | rfl | rfl
          · as_aux_lemma =>
              by_cases hf3 : v1 = u1
              · subst hf3
                by_cases hf2 : v2 = u2
                · subst hf2
                  have t1 : (v1 == v1) = true := beq_self_eq_true _
                  have t2 : (v2 == v2) = true := beq_self_eq_true _
                  go_wp2_with fail
                  go_meet
                  exact ⟨true, _, _, rfl, Lib.hid (.inl ⟨rfl, by simp [shapeOf]⟩), Lib.hid ⟨BoxN.alloc wc #[.int .i64 v1, .int .i64 v2] 135, HBC.out.alloc HBC.out.size _⟩⟩
                · have t1 : (v1 == v1) = true := beq_self_eq_true _
                  have t2 : (v2 == u2) = false := by simpa using hf2
                  go_wp2_with fail
                  go_meet
                  exact ⟨false, _, _, rfl, Lib.hid (.inr ⟨rfl, by simp [shapeOf, hf2]⟩), Lib.hid ⟨BoxN.alloc wc #[.int .i64 v1, .int .i64 v2] 135, HBC.out.alloc HBC.out.size _⟩⟩
              · have t1 : (v1 == u1) = false := by simpa using hf3
                go_wp2_with fail
                go_meet
                exact ⟨false, _, _, rfl, Lib.hid (.inr ⟨rfl, by simp [shapeOf, hf3]⟩), Lib.hid ⟨BoxN.alloc wc #[.int .i64 v1, .int .i64 v2] 135, HBC.out.alloc HBC.out.size _⟩⟩
          · as_aux_lemma =>
              by_cases hf3 : u1 = 1
              · subst hf3
                by_cases hf2 : u2 = v2
                · subst hf2
                  have t2 : (u2 == u2) = true := beq_self_eq_true _
                  go_wp2_with fail
                  go_meet
                  exact ⟨true, _, _, rfl, Lib.hid (.inl ⟨rfl, by simp [shapeOf]⟩), Lib.hid ⟨BoxN.alloc wc #[.int .i64 v1, .int .i64 u2] 135, HBC.out.alloc HBC.out.size _⟩⟩
                · have t2 : (u2 == v2) = false := by simpa using hf2
                  go_wp2_with fail
                  go_meet
                  exact ⟨false, _, _, rfl, Lib.hid (.inr ⟨rfl, by simp [shapeOf, hf2]⟩), Lib.hid ⟨BoxN.alloc wc #[.int .i64 v1, .int .i64 v2] 135, HBC.out.alloc HBC.out.size _⟩⟩
              · have t1 : (u1 == 1) = false := by simpa using hf3
                go_wp2_with fail
                go_meet
                exact ⟨false, _, _, rfl, Lib.hid (.inr ⟨rfl, by simp [shapeOf, hf3]⟩), Lib.hid ⟨BoxN.alloc wc #[.int .i64 v1, .int .i64 v2] 135, HBC.out.alloc HBC.out.size _⟩⟩
          · as_aux_lemma =>
              by_cases hf3 : v1 = u1
              · subst hf3
                by_cases hf2 : v2 = u2
                · subst hf2
                  have t1 : (v1 == v1) = true := beq_self_eq_true _
                  have t2 : (v2 == v2) = true := beq_self_eq_true _
                  go_wp2_with fail
                  go_meet
                  exact ⟨true, _, _, rfl, Lib.hid (.inl ⟨rfl, by simp [shapeOf]⟩), Lib.hid ⟨BoxN.alloc wc #[.int .i64 v1, .int .i64 v2] 135, HBC.out.alloc HBC.out.size _⟩⟩
                · have t1 : (v1 == v1) = true := beq_self_eq_true _
                  have t2 : (v2 == u2) = false := by simpa using hf2
                  go_wp2_with fail
                  go_meet
                  exact ⟨false, _, _, rfl, Lib.hid (.inr ⟨rfl, by simp [shapeOf, hf2]⟩), Lib.hid ⟨BoxN.alloc wc #[.int .i64 v1, .int .i64 v2] 135, HBC.out.alloc HBC.out.size _⟩⟩
              · have t1 : (v1 == u1) = false := by simpa using hf3
                go_wp2_with fail
                go_meet
                exact ⟨false, _, _, rfl, Lib.hid (.inr ⟨rfl, by simp [shapeOf, hf3]⟩), Lib.hid ⟨BoxN.alloc wc #[.int .i64 v1, .int .i64 v2] 135, HBC.out.alloc HBC.out.size _⟩⟩
          · as_aux_lemma =>
              by_cases hf3 : u1 = 1
              · subst hf3
                by_cases hf2 : u2 = v2
                · subst hf2
                  have t2 : (u2 == u2) = true := beq_self_eq_true _
                  go_wp2_with fail
                  go_meet
                  exact ⟨true, _, _, rfl, Lib.hid (.inl ⟨rfl, by simp [shapeOf]⟩), Lib.hid ⟨BoxN.alloc wc #[.int .i64 v1, .int .i64 u2] 135, HBC.out.alloc HBC.out.size _⟩⟩
                · have t2 : (u2 == v2) = false := by simpa using hf2
                  go_wp2_with fail
                  go_meet
                  exact ⟨false, _, _, rfl, Lib.hid (.inr ⟨rfl, by simp [shapeOf, hf2]⟩), Lib.hid ⟨BoxN.alloc wc #[.int .i64 v1, .int .i64 v2] 135, HBC.out.alloc HBC.out.size _⟩⟩
              · have t1 : (u1 == 1) = false := by simpa using hf3
                go_wp2_with fail
                go_meet
                exact ⟨false, _, _, rfl, Lib.hid (.inr ⟨rfl, by simp [shapeOf, hf3]⟩), Lib.hid ⟨BoxN.alloc wc #[.int .i64 v1, .int .i64 v2] 135, HBC.out.alloc HBC.out.size _⟩⟩
          · as_aux_lemma =>
              go_wp2_with fail
              go_meet
              exact ⟨true, _, _, rfl, Lib.hid (.inl ⟨rfl, by simp [shapeOf]⟩), Lib.hid ⟨BoxN.alloc wc #[.int .i64 v1, .int .i64 v2] 135, HBC.out.alloc HBC.out.size _⟩⟩
          · as_aux_lemma =>
              by_cases hf3 : v2 = u1
              · subst hf3
                have t2 : (v2 == v2) = true := beq_self_eq_true _
                go_wp2_with fail
                go_meet
                exact ⟨true, _, _, rfl, Lib.hid (.inl ⟨rfl, by simp [shapeOf]⟩), Lib.hid ⟨BoxN.alloc wc #[.int .i64 v1, .int .i64 u2] 135, HBC.out.alloc HBC.out.size _⟩⟩
              · have t1 : (v2 == u1) = false := by simpa using hf3
                go_wp2_with fail
                go_meet
                exact ⟨false, _, _, rfl, Lib.hid (.inr ⟨rfl, by simp [shapeOf, hf3]⟩), Lib.hid ⟨BoxN.alloc wc #[.int .i64 v1, .int .i64 u2] 135, HBC.out.alloc HBC.out.size _⟩⟩
          · as_aux_lemma =>
              go_wp2_with fail
              go_meet
              exact ⟨true, _, _, rfl, Lib.hid (.inl ⟨rfl, by simp [shapeOf]⟩), Lib.hid ⟨BoxN.alloc wc #[.int .i64 v2, .int .i64 v1] 135, HBC.out.alloc HBC.out.size _⟩⟩
          · as_aux_lemma =>
              go_wp2_with fail
              go_meet
              exact ⟨true, _, _, rfl, Lib.hid (.inl ⟨rfl, by simp [shapeOf]⟩), Lib.hid ⟨BoxN.alloc wc #[.int .i64 v1, .int .i64 v2] 135, HBC.out.alloc HBC.out.size _⟩⟩
          · as_aux_lemma =>
              go_wp2_with fail
              go_meet
              exact ⟨true, _, _, rfl, Lib.hid (.inl ⟨rfl, by simp [shapeOf]⟩), Lib.hid ⟨BoxN.alloc wc #[.int .i64 v1, .int .i64 v2] 135, HBC.out.alloc HBC.out.size _⟩⟩
          · as_aux_lemma =>
              go_wp2_with fail
              go_meet
              exact ⟨true, _, _, rfl, Lib.hid (.inl ⟨rfl, by simp [shapeOf]⟩), Lib.hid ⟨BoxN.alloc wc #[.int .i64 1, .int .i64 1] 135, HBC.out.alloc HBC.out.size _⟩⟩
        case rest =>
          obtain ⟨b1, s1, s2, rfl, HSH, HBX⟩ := hcut
          obtain ⟨bx, hb2⟩ := HBX.out
          obtain ⟨l9, t0, t1, tf⟩ := bx.two
          have HB2 := Lib.hid hb2
          clear bx hb2 HBX y0 y1 yf z0 z1 zf hx0 hne hg7 hg8 l7 l8 hwc HBC
          cases b1
          · have hf : ∀ W v, ShIm (os.map OpD.toOpP) w W v false := fun W v => hns W v (by rcases HSH.out with h | h; exact absurd h.1 (by decide); exact h.2)
            have HF := Lib.hid hf
            clear hns hya hf HSH
            go_wp2
            go_ret2
            exact ⟨_, _, rfl, Lib.hid (HF.out _ _), HB.out.trans (HB2.out.mono HB.out.size)⟩
          · have hsh : shapeOf kk (v1, v2) (u1, u2) = some (s1, s2) := by
              rcases HSH.out with h | h
              · exact h.2
              · exact absurd h.1 (by decide)
            rw [hsh] at hya
            have HYA := Lib.hid hya
            clear hns hya hsh HSH
            go_wp2_with (at_builtin; refine wp_appA rfl _ _ 131 rfl w.heap.size i0 (.agg #[.int .i64 0, .int .i64 0]) 2 16 Try.underlying131 hi0 hz0 hzs hz2 rfl (by decide) rfl (by intro u hu; simp at hu; rcases hu with rfl | rfl <;> rfl) _ _ _ rfl (HR.out _ HB2.out) (by go_simp) ?c3 ?c4 ?c5 ?_)
            case c3 => unfold maxLen; omega
            case c4 => omega
            case c5 => exact Nat.le_trans HB.out.size HB2.out.size
            intro v' w9 ho9 hg9 hat9 hb9 hs9
            obtain ⟨ad9, cap9, rfl, hown9⟩ := sh2_snoc (s := (s1, s2)) HS.out.2 HB.out.size HB2.out ho9 hg9 (by simpa using hat9)
            have HO9 := Lib.hid (And.intro HYA.out hown9); have HB9 := Lib.hid ((HB.out.trans (HB2.out.mono HB.out.size)).trans hb9)
            clear ho9 hg9 hat9 hb9 HYA hown9 HR HS HB HB2
            go_wp2
            go_roundw
            case rel => exact ⟨k + 1, by go_num, hlt, _, _, _, rfl, HO9, HB9⟩
            case measure => simp [intOf]; omega
    · have hkn : k = n := by omega
      subst hkn
      have hf : ShIm (os.map OpD.toOpP) w wr (.slice ad' k cap') true := by
        have hl := shapesN_length (by rw [← HP.out]; exact Nat.le_refl _) HS.out.1
        have he := (shapesP_eq' HP.out hn1 hn2).trans HS.out.1
        refine ⟨by rw [he]; rfl, fun S' hS' => ?_⟩
        rw [he] at hS'; cases hS'
        rw [hl]
        exact ⟨_, _, rfl, HS.out.2⟩
      have HF := Lib.hid hf; clear hf
      go_wp2
      go_ret2
      exact ⟨_, _, rfl, HF, HB.out⟩
end Go.Proofs.Ytkbfjkobjpkgkaa
/- Which operations a tape's last value depends on: the program. No condition. -/
namespace Go.Proofs.Ytkbfjkobjpkgkaa
open Go Go.RowKit
set_option linter.unusedVariables false
set_option linter.unusedSimpArgs false
theorem impl_ValidTape (w : World) (ad : Option Addr) (cap : Nat) (os : List OpD) (h : SeeR opR w ad cap os) :
    Calls Try.prog 89 #[.slice ad os.length cap] w fun e w' => e = .returned (.bool (shapesP (os.map OpD.toOpP)).isSome) ∧ Below w.heap.size w w' := by
  have K := Lib.hid (impl_shapes w ad cap os h)
  clear h
  go_enter Try.func89, Try.ntmps89
  go_wp2_with fail
  refine K.out.mono ?_
  rintro e w1 ⟨v, b, rfl, hs, hb⟩
  have HS := Lib.hid hs.out.1
  clear hs
  go_wp2
  go_ret
  exact ⟨by rw [HS.out]; rfl, hb⟩
theorem RepU.low {w w' : World} {g n B : Nat} {U : List Bool} (h : RepU w g n U) (hb : Below B w w') (hg : g < B) : RepU w' g n U := by
  refine ⟨⟨h.own.1, ?_⟩, h.len⟩
  rcases h.own.2 with h2 | ⟨g', cap, cur, hv, hbg, hh, r⟩
  · exact .inl h2
  · have e : g = g' := by cases hv; rfl
    exact .inr ⟨g', cap, cur, hv, hbg, by rw [hb.block g' (by omega)]; exact hh, r⟩
set_option maxHeartbeats 8000000 in
set_option maxRecDepth 100000 in
theorem impl_UsedOps (w : World) (ad : Option Addr) (cap : Nat) (os : List OpD) (h : SeeR opR w ad cap os) :
    Calls Try.prog 77 #[.slice ad os.length cap] w fun e w' => ∃ ad' n' cap' b xs, e = .returned (.tuple #[.slice ad' n' cap', .bool b]) ∧ Hid (UsedOut (os.map OpD.toOpP) w w' ad' n' cap' b xs) ∧ Below w.heap.size w w' := by
  obtain ⟨i0, hi0, hz0, hz1, hz2⟩ := info_parts info_bool
  obtain ⟨j0, hj0, hy0, hy1, hy2⟩ := info_parts info_i64
  have K := Lib.hid (impl_ValidTape w ad cap os h)
  have hPl : (os.map OpD.toOpP).length = os.length := List.length_map _
  have hPo : ∀ {i : Nat} {o : OpD}, os[i]? = some o → (os.map OpD.toOpP)[i]? = some o.toOpP := fun {i o} h => by rw [List.getElem?_map, h]; rfl
  obtain ⟨P, hP⟩ : ∃ P, P = os.map OpD.toOpP := ⟨_, rfl⟩
  rw [← hP] at K hPl ⊢
  have HPO : Hid (∀ (i : Nat) (o : OpD), os[i]? = some o → P[i]? = some o.toOpP) := Lib.hid (fun i o h => by rw [hP]; exact hPo h)
  clear hP hPo
  have H := Lib.hid h; clear h
  cases hs : shapesP P with
  | none =>
    have HS := Lib.hid hs
    rw [hs] at K
    clear hs
    go_enter Try.func77, Try.ntmps77
    go_wp2_with fail
    refine K.out.mono ?_
    rintro e w1 ⟨rfl, hb⟩
    go_wp2
    go_ret2
    exact ⟨none, 0, 0, _, [], rfl, Lib.hid ⟨⟨by rw [HS.out]; rfl, by rw [HS.out]; rfl⟩, RepI.nil _ _ _⟩, hb⟩
  | some S =>
    rw [hs] at K
    have hp := shapesP_some hs
    have hfit := fun {i : Nat} {o : OpP} (ho : P[i]? = some o) => valid_fit hs ho
    have HFIT : Hid (∀ (i : Nat) (o : OpP), P[i]? = some o → fitsB i o = true) := Lib.hid (fun i o ho => hfit ho)
    obtain ⟨n, hN⟩ : ∃ n, n = os.length := ⟨_, rfl⟩
    have hn1 : 1 ≤ n := by have := hp.1.1; omega
    have hn2 : n ≤ 48 := by have := hp.1.2; omega
    rw [← hN] at K hPl ⊢
    have HN := Lib.hid hN; have HPL := Lib.hid hPl; have HS := Lib.hid hs
    clear hN hPl hp hfit hs
    have hni : (n : Int) - 1 = ((n - 1 : Nat) : Int) := by omega
    have hnl : n - 1 < n := by omega
    go_enter Try.func77, Try.ntmps77
    go_wp2_with fail
    refine K.out.mono ?_
    rintro e w1 ⟨rfl, hb⟩
    have HB := Lib.hid hb; clear hb
    go_wp2_with (at_make; refine wpList_make_full _ rfl _ _ 171 rfl w1.heap.size 4 i0 (.bool false) 1 Try.underlying171 hi0 hz0 hz1 .i64 .i64 _ _ n rfl rfl rfl rfl ?c1 ?c2 ?c3 ?_)
    case c1 => rw [hz2]; omega
    case c2 => unfold maxLen; omega
    case c3 => exact Nat.le_refl _
    intro w2 hown hg
    have hb2 : Below w1.heap.size w1 w2 := (Below.refl _ _).grown hg (Nat.le_refl _) (fun k e => by cases e)
    have hu0 : RepU w2 w1.heap.size n (List.replicate n false) := by
      refine ⟨?_, by simp⟩
      rw [toList_madeCells_one] at hown
      rw [List.map_replicate]; exact hown
    have hu1 := hu0.set (n - 1)
    have c0 := hu0.cell hnl
    have f0 := hu0.fz (n - 1)
    have hu2 : RepU (w2.setCell ⟨w1.heap.size, n - 1, none⟩ (.bool true)) w1.heap.size n (usedM P 0) := by
      have e : usedM P 0 = (List.replicate n false).set (n - 1) true := by unfold usedM; rw [HPL.out]
      rw [e]; exact hu1
    have HU := Lib.hid hu2
    have hb3 : Below w1.heap.size w1 (w2.setCell ⟨w1.heap.size, n - 1, none⟩ (.bool true)) := hb2.setCell (p := ⟨w1.heap.size, n - 1, none⟩) (Nat.le_refl _) _
    have HB3 := Lib.hid hb3
    have hl2 : w1.heap.size < w2.heap.size := hu0.lt
    clear hown hg hb2 hu0 hu1 hu2 hb3
    go_wp2
    go_loopw [5] (fun i wt => ∃ j : Nat, i = .int .i64 ((j : Int) - 1) ∧ j ≤ n ∧ Hid (RepU wt w1.heap.size n (usedM P (n - j))) ∧ Hid (Below w1.heap.size w1 wt)) (fun i _ => (intOf i + 1).toNat)
    case atStart => exact ⟨n, by go_num, Nat.le_refl _, by rw [Nat.sub_self]; exact HU, HB3⟩
    case round =>
      clear HU HB3 c0 f0 hl2
      obtain ⟨j, rfl, hj, HU, HB2⟩ := hrel
      rcases j with _ | i
      · rw [Nat.sub_zero] at HU
        have hgl := HU.out.lt
        obtain ⟨U, hU⟩ : ∃ U, U = usedM P n := ⟨_, rfl⟩
        rw [← hU] at HU
        have HUE := Lib.hid hU
        clear hU hj
        go_wp2
        go_loopw [7, 56] (fun v i wt => ∃ k : Nat, i = .int .i64 k ∧ k ≤ n ∧ Hid (wt.ownsRow (w1.heap.size + 1) 2 1 v (usedF U 0 k).length ((usedF U 0 k).map (Value.int .i64))) ∧ Hid (RepU wt w1.heap.size n U) ∧ Hid (Below w1.heap.size w1 wt)) (fun _ i _ => n - (intOf i).toNat)
        case atStart =>
          refine ⟨0, rfl, Nat.zero_le _, Lib.hid ?_, Lib.hid (HU.out.below (below1 _ _)), Lib.hid (HB2.out.alloc HB2.out.size _)⟩
          rw [usedF_nil]
          exact World.ownsRow_made _ _ _ hgl (Nat.zero_le _) rfl
        case round =>
          clear HU HB2 hgl
          obtain ⟨k, rfl, hk, HO, HU, HB2⟩ := hrel
          by_cases hlt : k < n
          · have hc := HU.out.cell hlt
            have hgl := HU.out.lt
            have hsn := usedF_snoc U k
            have hll := usedF_length U 0 k
            cases hu : U.getD k false
            · rw [hu] at hc hsn
              have hs2 : usedF U 0 (k + 1) = usedF U 0 k := by rw [hsn]; simp
              have HS2 := Lib.hid hs2
              clear hu hsn hs2
              go_wp2
              refine ⟨?rel, ?measure⟩
              case rel => exact ⟨k + 1, by go_num, hlt, by rw [HS2.out]; exact HO, HU, HB2⟩
              case measure => first | (simp [intOf]; done) | (simp [intOf]; omega)
            · rw [hu] at hc hsn
              have hs2 : usedF U 0 (k + 1) = usedF U 0 k ++ [(k : Int)] := hsn
              have HS2 := Lib.hid hs2
              clear hu hsn hs2
              go_wp2_with (at_builtin; refine wp_app rfl _ _ 69 rfl (w1.heap.size + 1) j0 (.int .i64 0) 1 8 Try.underlying69 hj0 hy0 hy1 hy2 rfl (by decide) rfl (one_cell _ rfl) _ _ _ rfl HO.out rfl ?c3 ?c4 ?c5 ?_)
              case c3 => unfold maxLen; omega
              case c4 => omega
              case c5 => exact hgl
              intro v2 w3 ho2 hb2 hs2
              have HO2 := Lib.hid ho2
              have HU2 := Lib.hid (HU.out.low hb2 (Nat.lt_succ_self _))
              have HB4 := Lib.hid (HB2.out.trans (hb2.mono (Nat.le_succ _)))
              clear ho2 hb2 HO HU HB2 hc
              go_wp2
              go_roundw
              case rel => (repeat apply Exists.intro); exact ⟨⟨k + 1, by go_num, hlt, Lib.hid (by rw [HS2.out, List.length_append, List.map_append]; exact HO2.out), HU2, HB4⟩, rfl⟩
              case measure => first | (simp [intOf]; done) | (simp [intOf]; omega)
          · have hkn : k = n := by omega
            obtain ⟨ad9, cap9, rfl, hr9⟩ := RepI.of_owns HO.out (by intro z hz; have := usedF_gt U 0 k z hz; obtain ⟨q, rfl⟩ : ∃ q : Nat, z = q := ⟨z.toNat, by omega⟩; exact nat_wf (by omega))
            have HR9 := Lib.hid hr9
            have hfin : usedF U 0 k = usedP P := by rw [usedP_eq, HPL.out, ← HUE.out, hkn]
            have HFIN := Lib.hid hfin
            clear hr9 hfin
            subst hkn
            go_wp2
            go_ret2
            exact ⟨_, _, _, _, _, rfl, Lib.hid ⟨⟨by rw [HS.out]; rfl, by rw [HS.out]; exact HFIN.out⟩, HR9.out.bounds (by have := HB.out.size; omega) (Nat.le_refl _)⟩, HB.out.trans (HB2.out.mono HB.out.size)⟩
      · have hi : i < n := by omega
        rw [show ((i + 1 : Nat) : Int) - 1 = (i : Int) by omega]
        obtain ⟨o, ho⟩ := getElem?_lt (show i < os.length by rw [← HN.out]; exact hi)
        obtain ⟨b, off, rfl, hbl, ⟨p0, p1, p2, p3, p4, p5, p6⟩, hf, hok⟩ := op_spot ((H.out.below HB.out).below HB2.out) ho
        have hop := HPO.out i o ho
        have hfit := HFIT.out i o.toOpP hop
        have hnext := usedM_next (os := P) (n := n) HPL.out.symm hi hop
        have hc := HU.out.cell hi
        obtain ⟨U, hU⟩ : ∃ U, U = usedM P (n - (i + 1)) := ⟨_, rfl⟩
        obtain ⟨V, hV⟩ : ∃ V, V = usedM P (n - i) := ⟨_, rfl⟩
        rw [← hU] at HU hnext hc
        rw [← hV] at hnext
        have HV := Lib.hid hV; have HNX := Lib.hid hnext; have HFT := Lib.hid hfit
        clear hU hV hnext hop hf hok ho hfit
        have hgl := HU.out.lt
        have HUB := Lib.hid (HU.out.below (below1 wr (.cells o.cells.toArray 55)))
        have HBB := Lib.hid (HB2.out.alloc HB2.out.size (.cells o.cells.toArray 55))
        cases hu : U.getD i false
        · rw [hu] at hc
          have hV2 : V = U := by rw [HNX.out]; exact stepU_no (.inl hu)
          clear hu HU HNX HFT
          go_wp2
          go_roundw
          case rel => exact ⟨i, rfl, by omega, by rw [← HV.out, hV2]; exact HUB, HBB⟩
          case measure => first | (simp [intOf]; done) | (simp [intOf]; omega)
        · rw [hu] at hc
          have HU0 := Lib.hid hu
          clear hu
          by_cases hk0 : o.k = 0
          · have HU4 : Hid (RepU (wr.alloc (.cells o.cells.toArray 55)) w1.heap.size n V) := by rw [HNX.out, stepU_no (.inr hk0)]; exact HUB
            have hk1 : (o.k == 0) = true := by simpa using hk0
            clear HU HNX hk0 HU0 HFT HUB
            go_wp2
            go_roundw
            case rel => exact ⟨i, rfl, by omega, by rw [← HV.out]; exact HU4, HBB⟩
            case measure => first | (simp [intOf]; done) | (simp [intOf]; omega)
          · have hk0' : (o.k == 0) = false := by simpa using hk0
            obtain ⟨⟨a1, a2⟩, ⟨b1, b2⟩, -⟩ := fitsB_args HFT.out hk0
            have KT := Lib.hid (fun W => impl_takesTwo o.k W)
            obtain ⟨A, hA⟩ : ∃ A : Nat, o.a = A := ⟨o.a.toNat, by omega⟩
            obtain ⟨B, hB⟩ : ∃ B : Nat, o.b = B := ⟨o.b.toNat, by omega⟩
            rw [hA] at p1 a2
            rw [hB] at p2 b2
            have hAn : A < n := by omega
            have hBn : B < n := by omega
            have cA := HU.out.cell hAn
            have fA := HU.out.fz A
            have cB := HU.out.cell hBn
            have fB := HU.out.fz B
            have HUA := Lib.hid (HU.out.set A)
            have HBA := Lib.hid (HB2.out.setCell (p := ⟨w1.heap.size, A, none⟩) (Nat.le_refl _) (.bool true))
            have hszA : (wr.setCell ⟨w1.heap.size, A, none⟩ (.bool true)).heap.size = wr.heap.size := by simp [World.setCell]
            cases hT : twoB o.k
            · rw [hT] at KT
              have HU4 : Hid (RepU ((wr.setCell ⟨w1.heap.size, A, none⟩ (.bool true)).alloc (.cells o.cells.toArray 55)) w1.heap.size n V) := by rw [HNX.out, stepU_one HU0.out hk0 hT, hA, Int.toNat_natCast]; exact Lib.hid (HUA.out.below (below1 _ _))
              have HB4 := Lib.hid (HBA.out.alloc HBA.out.size (.cells o.cells.toArray 55))
              unfold OpD.cells at HU4 HB4
              rw [hA, hB] at HU4 HB4
              clear HNX hk0 HU0 HFT HUA hT hA hB a1 a2 b1 b2 HUB HBB HU
              go_wp2_with fail
              refine (KT.out _).mono ?_
              rintro e w4 ⟨rfl, rfl⟩
              go_wp2
              go_roundw
              case rel => exact ⟨i, rfl, by omega, by rw [← HV.out]; exact HU4, HB4⟩
              case measure => first | (simp [intOf]; done) | (simp [intOf]; omega)
            · rw [hT] at KT
              have HU4 : Hid (RepU (((wr.setCell ⟨w1.heap.size, A, none⟩ (.bool true)).setCell ⟨w1.heap.size, B, none⟩ (.bool true)).alloc (.cells o.cells.toArray 55)) w1.heap.size n V) := by rw [HNX.out, stepU_two HU0.out hk0 hT, hA, hB, Int.toNat_natCast, Int.toNat_natCast]; exact Lib.hid ((HUA.out.set B).below (below1 _ _))
              have HBB2 := HBA.out.setCell (p := ⟨w1.heap.size, B, none⟩) (Nat.le_refl _) (.bool true)
              have HB4 := Lib.hid (HBB2.alloc HBB2.size (.cells o.cells.toArray 55))
              have hcB := HUA.out.cell hBn
              have hfB := HUA.out.fz B
              unfold OpD.cells at HU4 HB4
              rw [hA, hB] at HU4 HB4
              clear HNX hk0 HU0 HFT HUA hT hA hB a1 a2 b1 b2 HUB HBB HU HBB2
              go_wp2_with fail
              refine (KT.out _).mono ?_
              rintro e w4 ⟨rfl, rfl⟩
              go_wp2
              go_roundw
              case rel => exact ⟨i, rfl, by omega, by rw [← HV.out]; exact HU4, HB4⟩
              case measure => first | (simp [intOf]; done) | (simp [intOf]; omega)
end Go.Proofs.Ytkbfjkobjpkgkaa
/- What comparing, marking rows of rows of integers does. No condition. -/
namespace Go.Proofs.Ytkbfjkobjpkgkaa
open Go Go.RowKit
set_option linter.unusedVariables false
set_option linter.unusedSimpArgs false
theorem ii_spot {w : World} {ad : Option Addr} {cap : Nat} {us : List IRow} (h : SeeR iiR w ad cap us) {k : Nat} {u : IRow} (hk : us[k]? = some u) : ∃ b off, ad = some ⟨b, off, none⟩ ∧ b < w.heap.size ∧ w.cell? ⟨b, off + k, none⟩ = some (.slice u.ad u.xs.length u.cap) ∧ Ints .i64 w u.ad u.cap u.xs := by
  obtain ⟨b, off, e, hb, hc⟩ := h.spot hk (by decide)
  have hm := List.mem_of_getElem? hk
  have h1 := hc 0 (by decide)
  rw [show off + k * iiR.size + 0 = off + k by show off + k * 1 + 0 = off + k; omega] at h1
  have h2 := h.inn u hm _ (List.mem_singleton.2 rfl)
  exact ⟨b, off, e, hb, h1, ⟨by have := h2.le; exact this, h2.cap, h2.rd, h.ok u hm⟩⟩
def markII : Nat → List IRow → List IRow
  | _, [] => []
  | k0, u :: us => ⟨u.ad, u.cap, markI k0 u.xs.length⟩ :: markII (k0 + u.xs.length) us
def totI (us : List IRow) : Nat := (us.map fun u => u.xs.length).sum
theorem totI_append (A B : List IRow) : totI (A ++ B) = totI A + totI B := by simp [totI]
theorem totI_cons (u : IRow) (B : List IRow) : totI (u :: B) = u.xs.length + totI B := by simp [totI]
theorem totI_snoc (A : List IRow) (u : IRow) : totI (A ++ [u]) = totI A + u.xs.length := by simp [totI]
theorem markII_length (k0 : Nat) (A : List IRow) : (markII k0 A).length = A.length := by
  induction A generalizing k0 with
  | nil => rfl
  | cons u A ih => simp [markII, ih]
theorem markII_snoc (k0 : Nat) (A : List IRow) (u : IRow) : markII k0 (A ++ [u]) = markII k0 A ++ [⟨u.ad, u.cap, markI (k0 + totI A) u.xs.length⟩] := by
  induction A generalizing k0 with
  | nil => simp [markII, totI]
  | cons p A ih => rw [List.cons_append, markII, ih, totI_cons, markII, List.cons_append, Nat.add_assoc]
theorem markII_at (k0 : Nat) (A B : List IRow) (u : IRow) : (markII k0 (A ++ u :: B))[A.length]? = some ⟨u.ad, u.cap, markI (k0 + totI A) u.xs.length⟩ := by
  induction A generalizing k0 with
  | nil => simp [markII, totI]
  | cons p A ih => rw [List.cons_append, markII, List.length_cons, List.getElem?_cons_succ, ih, totI_cons, Nat.add_assoc]
set_option maxHeartbeats 4000000 in
theorem II_eq (w : World) {a1 a2 : Option Addr} {c1 c2 : Nat} {us vs : List IRow} (h1 : SeeR iiR w a1 c1 us) (h2 : SeeR iiR w a2 c2 vs) (he : us.map IRow.xs = vs.map IRow.xs) (hn : us.length ≤ 1048576) (hi : ∀ u ∈ us, u.xs.length ≤ 1048576) :
    Calls Try.prog 71 #[.slice a1 us.length c1, .slice a2 vs.length c2] w fun e w' => e = .returned (.bool true) ∧ Dr w w' := by
  have hl : us.length = vs.length := by have := congrArg List.length he; simpa using this
  rw [← hl]
  obtain ⟨n, hN⟩ : ∃ n, n = us.length := ⟨_, rfl⟩
  have HL := Lib.hid hl; clear hl
  rw [← hN] at hn ⊢
  have HN := Lib.hid hN; have HE := Lib.hid he; have HI := Lib.hid hi; have H1 := Lib.hid h1; have H2 := Lib.hid h2
  clear hN he hi h1 h2
  go_enter Try.func71, Try.ntmps71
  go_wp2
  go_loopw [5] (fun i wt => ∃ k : Nat, i = .int .i64 k ∧ k ≤ n ∧ Hid (Dr w wt)) (fun i _ => n - (intOf i).toNat)
  case atStart => exact ⟨0, rfl, Nat.zero_le _, Lib.hid (Dr.refl _)⟩
  case round =>
    obtain ⟨k, rfl, hk, HB⟩ := hrel
    by_cases hlt : k < n
    · have hkx : k < us.length := by rw [← HN.out]; exact hlt
      obtain ⟨u, hu⟩ := getElem?_lt hkx
      obtain ⟨v, hv⟩ := getElem?_lt (show k < vs.length by rw [← HL.out]; exact hkx)
      obtain ⟨b, off, rfl, _, p0, hf⟩ := ii_spot (H1.out.below HB.out.below) hu
      obtain ⟨b', off', rfl, _, q0, hf'⟩ := ii_spot (H2.out.below HB.out.below) hv
      have e1 : u.xs = v.xs := by
        have e1 := congrArg (fun l => l[k]?) HE.out
        simpa [hu, hv] using e1
      rw [← e1] at hf' q0
      have K := Lib.hid (fun W (hb : Below wr.heap.size wr W) => laws_eqInt64S u.ad v.ad u.cap v.cap u.xs W (hf.below hb) (hf'.below hb) (HI.out u (List.mem_of_getElem? hu)))
      obtain ⟨x, hx⟩ : ∃ x, x = u.xs.length := ⟨_, rfl⟩
      rw [← hx] at K p0 q0
      clear hf hf' hu hv e1 hx hkx
      go_wp2
      refine wp_region_tail 8 (fun f args u => False) (by kernel_rfl) (by kernel_rfl) ?_
      repeat (refine wset_step (fun K hK nq => ?_); go_simp; refine hK _ ?_; clear hK K)
      refine wset_nil ?_
      rintro w' ⟨q, rfl⟩
      go_wp2_with fail
      refine (K.out _ (below_drewN (Below.refl _ _) _)).mono ?_
      rintro e w2 ⟨rfl, hd⟩
      have HB2 := Lib.hid ((HB.out.trans ⟨_, rfl⟩).trans hd); clear hd
      go_wp2
      go_roundw
      case rel => exact ⟨k + 1, by go_num, hlt, HB2⟩
      case measure => simp [intOf]; omega
    · go_wp2
      go_ret
      exact ⟨rfl, HB.out⟩
set_option maxHeartbeats 4000000 in
theorem II_mark (w : World) {lo hi : Nat} {ad : Option Addr} {n cap : Nat} {us : List IRow} (k0 : Nat) (h : OwnR iiR w lo hi ad n cap us) (hn : n ≤ 1048576) (hk : k0 + totI us ≤ 10000000) (hi2 : ∀ u ∈ us, u.xs.length ≤ 1048576) :
    Calls Try.prog 74 #[.slice ad n cap, .int .i64 k0] w fun e w' => e = .returned (.int .i64 (k0 + totI us : Nat)) ∧ Hid (OwnR iiR w' lo hi ad n cap (markII k0 us)) ∧ Touch lo hi w w' := by
  have HN := Lib.hid h.len; have HI2 := Lib.hid hi2; have HH := Lib.hid h; clear hi2 h
  go_enter Try.func74, Try.ntmps74
  go_wp2
  go_loopw [1, 5] (fun q i wt => ∃ k k1 : Nat, i = .int .i64 k ∧ q = .int .i64 k1 ∧ k ≤ n ∧ k1 ≤ 10000000 ∧ Hid (∃ A B, us = A ++ B ∧ A.length = k ∧ k1 = k0 + totI A ∧ OwnR iiR wt lo hi ad n cap (markII k0 A ++ B)) ∧ Hid (Touch lo hi w wt)) (fun _ i _ => n - (intOf i).toNat)
  case atStart => exact ⟨0, k0, rfl, rfl, Nat.zero_le _, by omega, Lib.hid ⟨[], us, rfl, rfl, rfl, HH.out⟩, Lib.hid (Touch.refl _ _ _)⟩
  case round =>
    clear HH
    obtain ⟨k, k1, rfl, rfl, hkn, hk1, HX, HT⟩ := hrel
    by_cases hlt : k < n
    · obtain ⟨A, B0, e1, e2, e3, hown⟩ := HX.out
      cases B0 with
      | nil => exfalso; have := HN.out; rw [e1, List.append_nil] at this; omega
      | cons u B =>
        have HE1 := Lib.hid e1; have HE3 := Lib.hid e3; have HE2 := Lib.hid e2; have HO := Lib.hid hown
        have hml : (markII k0 A).length = k := by rw [markII_length, e2]
        have hget := get_mid (markII k0 A) B u
        rw [hml] at hget
        obtain ⟨b, off, rfl, hb, p0, hf⟩ := ii_spot hown.see hget
        have hmb := HI2.out u (by rw [e1]; simp)
        have htot : k1 + u.xs.length ≤ 10000000 := by
          have := hk
          rw [e1, totI_append, totI_cons] at this
          omega
        have hrow := hown.own.row (intRow u.ad u.cap u.xs) (List.mem_cons_of_mem _ (List.mem_flatMap.2 ⟨u, by simp, List.mem_singleton.2 rfl⟩))
        have HROW := Lib.hid hrow
        have HM := Lib.hid (fun W (ho : W.ownsRow lo 2 1 (.slice u.ad u.xs.length u.cap) u.xs.length (u.xs.map (Value.int .i64))) => laws_markInt64S lo u.ad u.cap u.xs.length (u.xs.map (Value.int .i64)) k1 W hmb (by omega) ho)
        clear e1 e2 e3 hown hget hrow hml hf
        obtain ⟨m, hm0⟩ : ∃ m, m = u.xs.length := ⟨_, rfl⟩
        rw [← hm0] at p0 hmb htot HM
        have HM0 := Lib.hid hm0; clear hm0
        go_wp2_with fail
        refine (HM.out _ (by rw [HM0.out]; exact HROW.out.own)).mono ?_
        rintro e w2 ⟨rfl, ho2, hg2⟩
        have hl : (markI k1 m).length = u.xs.length := by rw [markI_length, HM0.out]
        have ho3 : w2.ownsRow lo 2 1 (.slice u.ad u.xs.length u.cap) u.xs.length ((markI k1 m).map (Value.int .i64)) := by rw [← HM0.out]; exact ho2
        have hg3 : wr.grownBy w2 (Value.slice u.ad u.xs.length u.cap).ownBlock := by rw [← HM0.out]; exact hg2
        have hmk : OwnR iiR w2 lo hi (some ⟨b, off, none⟩) n cap (markII k0 A ++ ⟨u.ad, u.cap, markI k1 m⟩ :: B) := by
          have h1 := HO.out.own
          have e1 : (markII k0 A ++ u :: B).flatMap iiR.inn = (markII k0 A).flatMap iiR.inn ++ intRow u.ad u.cap u.xs :: B.flatMap iiR.inn := by
            rw [List.flatMap_append, List.flatMap_cons]; rfl
          have e2 : (markII k0 A ++ ⟨u.ad, u.cap, markI k1 m⟩ :: B).flatMap iiR.inn = (markII k0 A).flatMap iiR.inn ++ intRow u.ad u.cap (markI k1 m) :: B.flatMap iiR.inn := by
            rw [List.flatMap_append, List.flatMap_cons]; rfl
          have e3 : (markII k0 A ++ (⟨u.ad, u.cap, markI k1 m⟩ : IRow) :: B).flatMap iiR.cells = (markII k0 A ++ u :: B).flatMap iiR.cells := by
            rw [List.flatMap_append, List.flatMap_cons, List.flatMap_append, List.flatMap_cons]
            congr 2
            show [Value.slice u.ad (markI k1 m).length u.cap] = [Value.slice u.ad u.xs.length u.cap]
            rw [hl]
          rw [e1, ← List.cons_append] at h1
          have h2 := h1.setAt (y := intRow u.ad u.cap (markI k1 m)) hg3 (by
            refine ⟨?_, ?_⟩
            · show w2.ownsRow lo 2 1 (.slice u.ad (markI k1 m).length u.cap) (markI k1 m).length _
              rw [hl]; exact ho3
            · intro g' e
              have e5 : (Value.slice u.ad (markI k1 m).length u.cap).ownBlock = some g' := e
              rw [hl] at e5
              exact HROW.out.top g' e5) (by show Value.slice u.ad (markI k1 m).length u.cap = Value.slice u.ad u.xs.length u.cap; rw [hl])
          rw [List.cons_append, ← e2, ← e3] at h2
          refine ⟨h2, by have := HO.out.len; simp at this ⊢; exact this, fun p hp => ?_⟩
          rcases List.mem_append.1 hp with hp | hp
          · exact HO.out.ok p (List.mem_append_left _ hp)
          · rcases List.mem_cons.1 hp with rfl | hp
            · exact markI_lt _ _ (by omega)
            · exact HO.out.ok p (List.mem_append_right _ (List.mem_cons_of_mem _ hp))
        have ht2 : Touch lo hi w w2 := HT.out.trans (Touch.of_grown HROW.out hg3)
        have HMK := Lib.hid hmk; have HT2 := Lib.hid ht2
        clear hmk ht2 ho2 hg2 ho3 hg3 hl HO HROW p0 HM HT
        go_wp2
        go_roundw
        case rel => exact ⟨k + 1, k1 + m, by go_num, by go_num, hlt, by omega, Lib.hid ⟨A ++ [u], B, by rw [HE1.out]; simp, by simp [HE2.out], by rw [totI_snoc, HE3.out, HM0.out]; omega, by rw [markII_snoc, ← HE3.out, ← HM0.out, List.append_assoc]; exact HMK.out⟩, HT2⟩
        case measure => simp [intOf]; omega
    · have hkn2 : k = n := by omega
      subst hkn2
      obtain ⟨A, B, e1, e2, e3, hown⟩ := HX.out
      have hB : B = [] := by
        have := HN.out; rw [e1, List.length_append, e2] at this
        exact List.eq_nil_of_length_eq_zero (by omega)
      subst hB
      rw [List.append_nil] at e1 hown
      subst e1
      have HO := Lib.hid hown; clear hown HX
      subst e3
      clear e2
      go_wp2
      go_ret
      exact ⟨rfl, HO, HT.out⟩
set_option maxHeartbeats 4000000 in
theorem II_held (w : World) {ad : Option Addr} {n cap : Nat} {us : List IRow} (k0 : Nat) (h : SeeR iiR w ad cap (markII k0 us)) (hl : us.length = n) (hn : n ≤ 1048576) (hk : k0 + totI us ≤ 10000000) (hi2 : ∀ u ∈ us, u.xs.length ≤ 1048576) :
    Calls Try.prog 75 #[.slice ad n cap, .int .i64 k0] w fun e w' => e = .returned (.int .i64 (k0 + totI us : Nat)) ∧ w = w' := by
  have HN := Lib.hid hl; have HI2 := Lib.hid hi2; have HH := Lib.hid h; clear hi2 h hl
  go_enter Try.func75, Try.ntmps75
  go_wp2
  go_loop [1, 5] (fun q i => ∃ k k1 : Nat, i = .int .i64 k ∧ q = .int .i64 k1 ∧ k ≤ n ∧ k1 ≤ 10000000 ∧ Hid (∃ A B, us = A ++ B ∧ A.length = k ∧ k1 = k0 + totI A)) (fun _ i => n - (intOf i).toNat)
  case atStart => exact ⟨0, k0, rfl, rfl, Nat.zero_le _, by omega, Lib.hid ⟨[], us, rfl, rfl, rfl⟩⟩
  case round =>
    obtain ⟨k, k1, rfl, rfl, hkn, hk1, HX⟩ := hrel
    by_cases hlt : k < n
    · obtain ⟨A, B0, e1, e2, e3⟩ := HX.out
      cases B0 with
      | nil => exfalso; have := HN.out; rw [e1, List.append_nil] at this; omega
      | cons u B =>
        have HE1 := Lib.hid e1; have HE3 := Lib.hid e3; have HE2 := Lib.hid e2
        have hget := markII_at k0 A B u
        rw [← e1, e2, ← e3] at hget
        obtain ⟨b, off, rfl, hb, p0, hf⟩ := ii_spot HH.out hget
        have hmb := HI2.out u (by rw [e1]; simp)
        have htot : k1 + u.xs.length ≤ 10000000 := by
          have := hk
          rw [e1, totI_append, totI_cons] at this
          omega
        simp only [markI_length] at p0 hf
        obtain ⟨m, hm0⟩ : ∃ m, m = u.xs.length := ⟨_, rfl⟩
        rw [← hm0] at p0 hmb htot hf
        have HM := Lib.hid (fun W (hW : Ints .i64 W u.ad u.cap (markI k1 m)) => laws_heldInt64S u.ad u.cap m (markI k1 m) k1 W (by omega) (by omega) hW rfl)
        have HF := Lib.hid hf
        have HM0 := Lib.hid hm0
        clear e1 e2 e3 hget hf hm0
        go_wp2_with fail
        refine (HM.out _ HF.out).mono ?_
        rintro e w2 ⟨rfl, rfl⟩
        have hnn : 0 ≤ ((k1 + m : Nat) : Int) := by omega
        clear p0
        go_wp2
        go_round
        case rel => exact ⟨k + 1, k1 + m, by go_num, by go_num, hlt, by omega, Lib.hid ⟨A ++ [u], B, by rw [HE1.out]; simp, by simp [HE2.out], by rw [totI_snoc, HE3.out, HM0.out]; omega⟩⟩
        case measure => simp [intOf]; omega
    · have hkn2 : k = n := by omega
      obtain ⟨A, B, e1, e2, e3⟩ := HX.out
      have hB : B = [] := by
        have := HN.out; rw [e1, List.length_append, e2] at this
        exact List.eq_nil_of_length_eq_zero (by omega)
      subst hB
      rw [List.append_nil] at e1
      subst e1
      subst e3
      clear HX e2
      go_wp2
      go_ret
      exact ⟨rfl, rfl⟩
end Go.Proofs.Ytkbfjkobjpkgkaa
/- Bounds for the walks of laws over tapes. No condition. -/
namespace Go.Proofs.Ytkbfjkobjpkgkaa
open Go Go.RowKit
set_option linter.unusedVariables false
set_option linter.unusedSimpArgs false
theorem left_bounds {os : List OpD} {L R : Int} (h : L = leftBy OpD.n os R) (h0 : 0 ≤ L) (h1 : R ≤ 1048576) : os.length ≤ 1048576 ∧ L ≤ 1048576 ∧ (∀ o ∈ os, o.xs.length ≤ 1048576) ∧ totO os ≤ 8000000 := by
  unfold leftBy at h
  split at h
  · rename_i hle
    have ht : totO os = 6 * os.length + sumBy OpD.n os os.length := by
      unfold totO sumBy
      rw [List.take_length]
      clear h hle h0 h1
      induction os with
      | nil => rfl
      | cons o os ih => rw [List.map_cons, List.sum_cons, ih, List.map_cons, List.sum_cons, List.length_cons]; unfold OpD.w OpD.n; omega
    refine ⟨by omega, by omega, fun o ho => ?_, by omega⟩
    have := sumBy_mem OpD.n ho
    unfold OpD.n at *
    omega
  · omega
theorem left_bound1 {n : Nat} {L R : Int} (h : L = if (n : Int) ≤ R then R - n else -1) (h0 : 0 ≤ L) (h1 : R ≤ 1048576) : n ≤ 1048576 ∧ L ≤ 1048576 := by
  split at h <;> omega
theorem tot_of {us os : List OpD} (h : us.map OpD.toOpP = os.map OpD.toOpP) : totO us = totO os := by
  have h1 : ∀ l : List OpD, totO l = ((l.map OpD.toOpP).map (fun p : OpP => 6 + p.xs.length)).sum := by
    intro l; unfold totO; rw [List.map_map]; rfl
  rw [h1, h1, h]
theorem lens_of {us os : List OpD} (h : us.map OpD.toOpP = os.map OpD.toOpP) (hb : ∀ o ∈ os, o.xs.length ≤ 1048576) : ∀ o ∈ us, o.xs.length ≤ 1048576 := by
  intro o ho
  have h1 : o.toOpP ∈ os.map OpD.toOpP := by rw [← h]; exact List.mem_map_of_mem ho
  obtain ⟨p, hp, e⟩ := List.mem_map.1 h1
  have := hb p hp
  rw [← e]; exact this
theorem can_of {us os : List OpD} (h : us.map OpD.toOpP = os.map OpD.toOpP) : us.map (fun o => o.toOpP.can) = os.map (fun o => o.toOpP.can) := by
  have h1 : ∀ l : List OpD, l.map (fun o => o.toOpP.can) = (l.map OpD.toOpP).map OpP.can := by intro l; rw [List.map_map]; rfl
  rw [h1, h1, h]
theorem II_eq2 (w : World) {lo1 hi1 lo2 hi2 : Nat} {a1 a2 : Option Addr} {n1 n2 c1 c2 : Nat} {us vs : List IRow} (h1 : OwnR iiR w lo1 hi1 a1 n1 c1 us) (h2 : OwnR iiR w lo2 hi2 a2 n2 c2 vs) (he : us.map IRow.xs = vs.map IRow.xs) (hm : Hid (n1 ≤ 1048576 ∧ totI us ≤ 1000000 ∧ ∀ u ∈ us, u.xs.length ≤ 1048576)) :
    Calls Try.prog 71 #[.slice a1 n1 c1, .slice a2 n2 c2] w fun e w' => e = .returned (.bool true) ∧ Dr w w' := by
  have e1 := h1.len; have e2 := h2.len
  subst e1 e2
  exact II_eq w h1.see h2.see he hm.out.1 hm.out.2.2
theorem ii_bounds {us : List IRow} {os : List OpP} (h : us.map IRow.xs = shRows os) : us.length ≤ 1048576 ∧ totI us ≤ 1000000 ∧ ∀ u ∈ us, u.xs.length ≤ 1048576 := by
  have hl : (shRows os).length ≤ 48 ∧ ∀ x ∈ shRows os, x.length = 2 := by
    cases e : shapesP os with
    | none => rw [shRows_none e]; exact ⟨by decide, fun x hx => (nomatch hx)⟩
    | some S =>
      rw [shRows_some e]
      have := shapesP_some e
      refine ⟨by rw [List.length_map, this.2.2.1]; exact this.1.2, fun x hx => ?_⟩
      obtain ⟨s, _, rfl⟩ := List.mem_map.1 hx
      rfl
  have h1 : us.length ≤ 48 := by have := congrArg List.length h; rw [List.length_map] at this; omega
  have h2 : ∀ u ∈ us, u.xs.length = 2 := fun u hu => hl.2 _ (by rw [← h]; exact List.mem_map_of_mem hu)
  have h3 : totI us = 2 * us.length := by
    clear h h1
    induction us with
    | nil => rfl
    | cons u us ih => rw [totI_cons, ih (fun v hv => h2 v (List.mem_cons_of_mem _ hv)), h2 u (List.mem_cons_self ..), List.length_cons]; omega
  exact ⟨by omega, by omega, fun u hu => by rw [h2 u hu]; decide⟩
end Go.Proofs.Ytkbfjkobjpkgkaa
/- The law of UsedOps, walked. No condition. -/
namespace Go.Proofs.Ytkbfjkobjpkgkaa
open Go Go.RowKit
set_option linter.unusedVariables false
set_option linter.unusedSimpArgs false
theorem used_bound {os : List OpP} {xs : List Int} (h : xs = if (shapesP os).isSome = true then usedP os else []) : xs.length ≤ 48 := by
  cases e : shapesP os with
  | none =>
    rw [e] at h
    have h2 : xs = [] := h
    rw [h2]; decide
  | some S =>
    rw [e] at h
    have h2 : xs = usedP os := h
    rw [h2, usedP_eq]
    have := usedF_length (usedM os os.length) 0 os.length
    have := (shapesP_some e).1.2
    omega
set_option maxHeartbeats 16000000 in
set_option maxRecDepth 100000 in
theorem fnExactUsedOps_walk (w : World) (a0 : Option Addr) (c0 : Nat) (l0 : List OpD) (A0 : SeeR opR w a0 c0 l0) :
    Calls Try.prog 11 #[.slice a0 l0.length c0] w fun e w' => e = .returned (.bool true) ∧ Below w.heap.size w w' := by
  have hwf : Hid True := Lib.hid trivial
  replace A0 := Lib.hid A0
  have B0 := A0
  obtain ⟨L0, hL0⟩ : ∃ L, L = leftBy OpD.n l0 1048576 := ⟨_, rfl⟩
  have KS0 := Lib.hid (fun W (h : SeeR opR W a0 c0 l0) => OS_sz W a0 c0 l0 h 1048576 (by decide) (by decide))
  rw [← hL0] at KS0
  have HL0 := Lib.hid hL0; clear hL0
  go_enter Try.func11, Try.ntmps11
  go_wp2_with fail
  refine (KS0.out _ A0.out).mono ?_
  rintro e w1 ⟨rfl, hb⟩
  replace A0 := Lib.hid (A0.out.below hb)
  have z1 : w.heap.size ≤ w1.heap.size := hb.size
  have b1 := Lib.hid hb
  clear hb
  by_cases hp0 : 0 ≤ L0
  rotate_left
  · have hp0 : L0 < 0 := by omega
    go_wp2
    go_ret
    exact ⟨rfl, b1.out⟩
  have hS0 := left_bounds HL0.out hp0 (by decide)
  have hn0 := hS0.1; have hq0 := hS0.2.1; have HI0 := Lib.hid hS0.2.2.1; have ht0 := hS0.2.2.2; clear hS0
  go_wp2_with fail
  refine (OS_to _ a0 c0 l0 A0.out hn0 HI0.out).mono ?_
  rintro e w2 ⟨p_t0, q_t0, o_t0, rfl, he_t0, t0, hb⟩
  have E_t0 := Lib.hid he_t0; have hlen_t0 : o_t0.length = l0.length := by have := congrArg List.length he_t0; simpa using this
  have N_t0 := Lib.hid hlen_t0; clear he_t0 hlen_t0
  replace A0 := Lib.hid (A0.out.below hb)
  have z2 : w1.heap.size ≤ w2.heap.size := hb.size
  have b2 := Lib.hid (bthen b1.out hb); clear b1
  clear hb
  have hK := spec_UsedOps w2 p_t0 q_t0 o_t0 t0.out.see
  rw [N_t0.out, E_t0.out] at hK
  have HK := Lib.hid hK; clear hK
  go_wp2_with fail
  refine HK.out.mono ?_
  rintro e w3 ⟨ad_s0, n_s0, cp_s0, v_s1, y_s0, rfl, HO_s, hb⟩
  clear HK
  have Q_s0 := Lib.hid HO_s.out.1.2
  have s0 := Lib.hid HO_s.out.2
  have V_s := Lib.hid HO_s.out.1.1
  have M_s0 : Hid (n_s0 ≤ 1048576) := Lib.hid (by have h1 := HO_s.out.2.len; have h2 := used_bound HO_s.out.1.2; omega)
  clear HO_s
  replace t0 := Lib.hid (t0.out.below hb)
  replace A0 := Lib.hid (A0.out.below hb)
  have z3 : w2.heap.size ≤ w3.heap.size := hb.size
  have b3 := Lib.hid (bthen b2.out hb); clear b2
  clear hb
  clear t0
  try clear E_t0 N_t0
  go_wp2_with fail
  refine (OS_to _ a0 c0 l0 A0.out hn0 HI0.out).mono ?_
  rintro e w4 ⟨p_x0, q_x0, o_x0, rfl, he_x0, x0, hb⟩
  have E_x0 := Lib.hid he_x0; have hlen_x0 : o_x0.length = l0.length := by have := congrArg List.length he_x0; simpa using this
  have N_x0 := Lib.hid hlen_x0; clear he_x0 hlen_x0
  replace s0 := Lib.hid (s0.out.below hb)
  replace A0 := Lib.hid (A0.out.below hb)
  have z4 : w3.heap.size ≤ w4.heap.size := hb.size
  have b4 := Lib.hid (bthen b3.out hb); clear b3
  clear hb
  have hK := impl_UsedOps w4 p_x0 q_x0 o_x0 x0.out.see
  rw [N_x0.out, E_x0.out] at hK
  have HK := Lib.hid hK; clear hK
  go_wp2_with fail
  refine HK.out.mono ?_
  rintro e w5 ⟨ad_g0, n_g0, cp_g0, v_g1, y_g0, rfl, HO_g, hb⟩
  clear HK
  have Q_g0 := Lib.hid HO_g.out.1.2
  have g0 := Lib.hid HO_g.out.2
  have V_g := Lib.hid HO_g.out.1.1
  have M_g0 : Hid (n_g0 ≤ 1048576) := Lib.hid (by have h1 := HO_g.out.2.len; have h2 := used_bound HO_g.out.1.2; omega)
  clear HO_g
  replace s0 := Lib.hid (s0.out.below hb)
  replace x0 := Lib.hid (x0.out.below hb)
  replace A0 := Lib.hid (A0.out.below hb)
  have z5 : w4.heap.size ≤ w5.heap.size := hb.size
  have b5 := Lib.hid (bthen b4.out hb); clear b4
  clear hb
  obtain rfl : v_s1 = v_g1 := V_s.out.trans V_g.out.symm
  go_wp2_with fail
  refine (I_eq _ g0.out s0.out (by rw [Q_g0.out, Q_s0.out]) M_g0.out).mono ?_
  rintro e w6 ⟨rfl, hb⟩
  replace s0 := Lib.hid (s0.out.below hb)
  replace x0 := Lib.hid (x0.out.below hb)
  replace g0 := Lib.hid (g0.out.below hb)
  replace A0 := Lib.hid (A0.out.below hb)
  have z6 : w5.heap.size ≤ w6.heap.size := hb.size
  have b6 := Lib.hid (bthen b5.out hb); clear b5
  clear hb
  go_wp2_with fail
  refine (OS_to _ a0 c0 l0 A0.out hn0 HI0.out).mono ?_
  rintro e w7 ⟨p_t0, q_t0, o_t0, rfl, he_t0, t0, hb⟩
  have E_t0 := Lib.hid he_t0; have hlen_t0 : o_t0.length = l0.length := by have := congrArg List.length he_t0; simpa using this
  have N_t0 := Lib.hid hlen_t0; clear he_t0 hlen_t0
  replace s0 := Lib.hid (s0.out.below hb)
  replace x0 := Lib.hid (x0.out.below hb)
  replace g0 := Lib.hid (g0.out.below hb)
  replace A0 := Lib.hid (A0.out.below hb)
  have z7 : w6.heap.size ≤ w7.heap.size := hb.size
  have b7 := Lib.hid (bthen b6.out hb); clear b6
  clear hb
  go_wp2_with fail
  have hq := OS_eq w7 x0.out.see t0.out.see (by rw [can_of E_x0.out, can_of E_t0.out]) (by rw [N_x0.out]; exact hn0) (lens_of E_x0.out HI0.out)
  rw [N_x0.out, N_t0.out] at hq
  refine hq.mono ?_
  rintro e w8 ⟨rfl, hb⟩
  replace s0 := Lib.hid (s0.out.below hb)
  replace x0 := Lib.hid (x0.out.below hb)
  replace g0 := Lib.hid (g0.out.below hb)
  replace t0 := Lib.hid (t0.out.below hb)
  replace A0 := Lib.hid (A0.out.below hb)
  have z8 : w7.heap.size ≤ w8.heap.size := hb.size
  have b8 := Lib.hid (bthen b7.out hb); clear b7
  clear hb
  clear hq
  clear t0
  try clear E_t0 N_t0
  go_wp2_with fail
  refine (OS_mark _ (1) x0.out (by omega) hn0 (by rw [tot_of E_x0.out]; omega) (lens_of E_x0.out HI0.out)).mono ?_
  rintro e w9 ⟨rfl, -, ht⟩
  rw [tot_of E_x0.out]
  clear x0
  replace s0 := Lib.hid (s0.out.touch ht (by omega))
  replace g0 := Lib.hid (g0.out.touch ht (by omega))
  have z9 : w8.heap.size ≤ w9.heap.size := ht.size
  have b9 := Lib.hid (touch_below b8.out ht (by omega)); clear b8 ht
  replace A0 := Lib.hid (B0.out.below b9.out)
  go_wp2_with fail
  refine (I_eq _ g0.out s0.out (by rw [Q_g0.out, Q_s0.out]) M_g0.out).mono ?_
  rintro e w10 ⟨rfl, hb⟩
  replace s0 := Lib.hid (s0.out.below hb)
  replace g0 := Lib.hid (g0.out.below hb)
  replace A0 := Lib.hid (A0.out.below hb)
  have z10 : w9.heap.size ≤ w10.heap.size := hb.size
  have b10 := Lib.hid (bthen b9.out hb); clear b9
  clear hb
  go_wp2_with fail
  refine (I_mark _ (1) g0.out M_g0.out (by omega)).mono ?_
  rintro e w11 ⟨rfl, hr, ht⟩
  clear g0; have g0 := Lib.hid hr; clear hr
  replace s0 := Lib.hid (s0.out.touch ht (by omega))
  have z11 : w10.heap.size ≤ w11.heap.size := ht.size
  have b11 := Lib.hid (touch_below b10.out ht (by omega)); clear b10 ht
  replace A0 := Lib.hid (B0.out.below b11.out)
  go_wp2_with fail
  refine (I_held _ (1) g0.out M_g0.out (by omega)).mono ?_
  rintro e we ⟨rfl, rfl⟩
  go_wp2_with fail
  refine (OS_to _ a0 c0 l0 A0.out hn0 HI0.out).mono ?_
  rintro e w12 ⟨p_t0, q_t0, o_t0, rfl, he_t0, t0, hb⟩
  have E_t0 := Lib.hid he_t0; have hlen_t0 : o_t0.length = l0.length := by have := congrArg List.length he_t0; simpa using this
  have N_t0 := Lib.hid hlen_t0; clear he_t0 hlen_t0
  replace s0 := Lib.hid (s0.out.below hb)
  replace g0 := Lib.hid (g0.out.below hb)
  replace A0 := Lib.hid (A0.out.below hb)
  have z12 : w11.heap.size ≤ w12.heap.size := hb.size
  have b12 := Lib.hid (bthen b11.out hb); clear b11
  clear hb
  have hK := impl_UsedOps w12 p_t0 q_t0 o_t0 t0.out.see
  rw [N_t0.out, E_t0.out] at hK
  have HK := Lib.hid hK; clear hK
  go_wp2_with fail
  refine HK.out.mono ?_
  rintro e w13 ⟨ad_h0, n_h0, cp_h0, v_h1, y_h0, rfl, HO_h, hb⟩
  clear HK
  have Q_h0 := Lib.hid HO_h.out.1.2
  have h0 := Lib.hid HO_h.out.2
  have V_h := Lib.hid HO_h.out.1.1
  have M_h0 : Hid (n_h0 ≤ 1048576) := Lib.hid (by have h1 := HO_h.out.2.len; have h2 := used_bound HO_h.out.1.2; omega)
  clear HO_h
  replace s0 := Lib.hid (s0.out.below hb)
  replace g0 := Lib.hid (g0.out.below hb)
  replace t0 := Lib.hid (t0.out.below hb)
  replace A0 := Lib.hid (A0.out.below hb)
  have z13 : w12.heap.size ≤ w13.heap.size := hb.size
  have b13 := Lib.hid (bthen b12.out hb); clear b12
  clear hb
  obtain rfl : v_s1 = v_h1 := V_s.out.trans V_h.out.symm
  go_wp2_with fail
  refine (I_eq _ h0.out s0.out (by rw [Q_h0.out, Q_s0.out]) M_h0.out).mono ?_
  rintro e w14 ⟨rfl, hb⟩
  replace s0 := Lib.hid (s0.out.below hb)
  replace g0 := Lib.hid (g0.out.below hb)
  replace t0 := Lib.hid (t0.out.below hb)
  replace h0 := Lib.hid (h0.out.below hb)
  replace A0 := Lib.hid (A0.out.below hb)
  have z14 : w13.heap.size ≤ w14.heap.size := hb.size
  have b14 := Lib.hid (bthen b13.out hb); clear b13
  clear hb
  go_wp2_with fail
  refine (I_held _ (1) g0.out M_g0.out (by omega)).mono ?_
  rintro e we ⟨rfl, rfl⟩
  go_wp2
  go_ret
  exact ⟨rfl, b14.out⟩
end Go.Proofs.Ytkbfjkobjpkgkaa
