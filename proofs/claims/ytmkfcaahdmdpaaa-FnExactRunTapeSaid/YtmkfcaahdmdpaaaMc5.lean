/- Joined texts 5: Tp4 Tu3 Tn1 Tn2 Tn3 Rp0 Rg3. Each is told at its own head. No condition. -/
import Derived.Deep.RegionHeld3
import Derived.Deep.CutRange
import Derived.Deep.CutBlock
import Derived.Deep.DeepCutAuto
import Derived.WalkSmall
import Derived.Test.YtmkfcaahdmdpaaaMc0
import Derived.Test.YtmkfcaahdmdpaaaMc2
import Derived.Test.YtmkfcaahdmdpaaaMc3
import Derived.Test.YtmkfcaahdmdpaaaMc4
/- The shapes of the values of a tape: the program. No condition. -/
namespace Go.Proofs.Ytmkfcaahdmdpaaa
open Go Go.RowKit
set_option linter.unusedVariables false
set_option linter.unusedSimpArgs false
def shR : RecT Sh := ⟨164, 2, fun s => [.int .i64 s.1, .int .i64 s.2], fun _ => [], fun _ => True, fun _ => rfl⟩
theorem info_sh : (Try.prog.info? 164).map (fun i => (i.zero, i.size, i.bytes)) = some (some (.agg #[.int .i64 0, .int .i64 0]), 2, 16) := by kernel_rfl
theorem shapesP_eq' {os : List OpP} {n : Nat} (h : n = os.length) (h1 : 1 ≤ n) (h2 : n ≤ 48) : shapesP os = shapesN os n := by
  unfold shapesP; rw [← h, if_pos ⟨h1, h2⟩]
theorem shapesP_no' {os : List OpP} {n : Nat} (h : n = os.length) (h1 : ¬(1 ≤ n ∧ n ≤ 48)) : shapesP os = none := by
  unfold shapesP; rw [← h, if_neg h1]
theorem shapes_stop' {os : List OpP} {n k : Nat} {o : OpP} {S : List Sh} (hn : n = os.length) (h1 : 1 ≤ n) (h2 : n ≤ 48) (ho : os[k]? = some o) (hS : shapesN os k = some S) (h : stepSh S o = none) : shapesP os = none := by
  have hk : k < os.length := (List.getElem?_eq_some_iff.1 ho).1
  rw [shapesP_eq' hn h1 h2]
  refine shapesN_none (k := k + 1) ?_ (by omega) (by omega)
  rw [shapesN_succ ho, hS]; exact h
theorem step_unfit' {S : List Sh} {o : OpP} (h : fitsB S.length o = false) : stepSh S o = none := by
  unfold stepSh; rw [h]; rfl
theorem shGet_some' {S : List Sh} {i : Nat} (h : i < S.length) : S[i]? = some (shGet S (i : Int)) := by
  unfold shGet
  rw [List.getD_eq_getElem?_getD, Int.toNat_natCast, List.getElem?_eq_getElem h]; rfl
/-- what the program tells of the shapes -/
def ShIm (os : List OpP) (w w' : World) (v : Value) (b : Bool) : Prop := b = (shapesP os).isSome ∧ ∀ S, shapesP os = some S → ∃ ad cap, v = .slice ad S.length cap ∧ OwnR shR w' w.heap.size w'.heap.size ad S.length cap S
theorem ShIm.no {os : List OpP} {w w' : World} {v : Value} (h : shapesP os = none) : ShIm os w w' v false := ⟨by rw [h]; rfl, fun S hS => by rw [h] at hS; cases hS⟩
theorem sh2_snoc {w W w9 : World} {B k cap : Nat} {ad : Option Addr} {S : List Sh} {s : Sh} {v' : Value} {o : Obj} (h : OwnR shR w B w.heap.size ad k cap S) (hB : B ≤ w.heap.size) (hb : Below w.heap.size w W)
    (ho : w9.ownsRow B 164 2 v' (k + 1) (S.flatMap shR.cells ++ [.int .i64 s.1, .int .i64 s.2])) (hg : (W.alloc o).grownBy w9 (Value.slice ad k cap).ownBlock) (hat : v'.ownBlock = (Value.slice ad k cap).ownBlock ∨ v'.ownBlock = some (W.heap.size + 1)) :
    ∃ ad' cap', v' = .slice ad' (k + 1) cap' ∧ OwnR shR w9 B w9.heap.size ad' (k + 1) cap' (S ++ [s]) :=
  h.snoc hB hb trivial (Own.nil W _ W.heap.size) (Nat.le_refl _) hb.size ho hg hat
theorem sh2_row {w W : World} {B k cap : Nat} {ad : Option Addr} {S : List Sh} (h : OwnR shR w B w.heap.size ad k cap S) (hb : Below w.heap.size w W) : W.ownsRow B 164 2 (.slice ad k cap) k (S.flatMap shR.cells) := (h.below hb).own.head.own
set_option maxHeartbeats 32000000 in
set_option maxRecDepth 100000 in
theorem impl_shapes (w : World) (ad : Option Addr) (cap : Nat) (os : List OpD) (h : SeeR opR w ad cap os) :
    Calls Try.prog 160 #[.slice ad os.length cap] w fun e w' => ∃ v b, e = .returned (.tuple #[v, .bool b]) ∧ Hid (ShIm (os.map OpD.toOpP) w w' v b) ∧ Below w.heap.size w w' := by
  obtain ⟨i0, hi0, hz0, hzs, hz2⟩ := info_parts info_sh
  have hm := Nat.le_trans h.le h.cap
  unfold maxLen at hm
  obtain ⟨n, hN⟩ : ∃ n, n = os.length := ⟨_, rfl⟩
  have hP : n = (os.map OpD.toOpP).length := by rw [List.length_map]; exact hN
  rw [← hN] at hm ⊢
  have HN := Lib.hid hN; have HP := Lib.hid hP; have H := Lib.hid h; clear hN hP h
  by_cases hr : (1 ≤ n ∧ n ≤ 48)
  rotate_left
  · have HS := Lib.hid (shapesP_no' HP.out hr)
    by_cases h0 : n = 0
    · subst h0
      go_enter Try.func160, Try.ntmps160
      go_wp2
      go_ret2
      exact ⟨_, _, rfl, Lib.hid (ShIm.no HS.out), Below.refl _ _⟩
    · have h48 : 48 < n := by omega
      clear hr h0
      go_enter Try.func160, Try.ntmps160
      go_wp2
      go_ret2
      exact ⟨_, _, rfl, Lib.hid (ShIm.no HS.out), Below.refl _ _⟩
  obtain ⟨hn1, hn2⟩ := hr
  go_enter Try.func160, Try.ntmps160
  go_wp2
  go_loopw [4, 22] (fun v i wt => ∃ k : Nat, i = .int .i64 k ∧ k ≤ n ∧ ∃ (S : List Sh) (ad' : Option Addr) (cap' : Nat), v = .slice ad' k cap' ∧ Hid (shapesN (os.map OpD.toOpP) k = some S ∧ OwnR shR wt w.heap.size wt.heap.size ad' k cap' S) ∧ Hid (Below w.heap.size w wt)) (fun _ i _ => n - (intOf i).toNat)
  case atStart =>
    refine ⟨0, rfl, Nat.zero_le _, [], _, _, rfl, Lib.hid ⟨rfl, ?_⟩, Lib.hid (below1 _ _)⟩
    exact ⟨Own.one (Row.mk' (World.ownsRow_made _ _ _ (Nat.le_refl _) (Nat.zero_le _) rfl)), rfl, fun a ha => (nomatch ha)⟩
  case round =>
    obtain ⟨k, rfl, hk, S, ad', cap', rfl, HS, HB⟩ := hrel
    by_cases hlt : k < n
    · obtain ⟨o, ho⟩ := getElem?_lt (show k < os.length by rw [← HN.out]; exact hlt)
      obtain ⟨b, off, rfl, hbl, ⟨p0, p1, p2, p3, p4, p5, p6⟩, hf, hok⟩ := op_spot (H.out.below HB.out) ho
      have hop : (os.map OpD.toOpP)[k]? = some o.toOpP := by rw [List.getElem?_map, ho]; rfl
      have hSl := shapesN_length (by rw [← HP.out]; omega) HS.out.1
      have hxm : o.xs.length ≤ maxLen := Nat.le_trans hf.len hf.cap
      have hno : ∀ (W : World) (v : Value), fitsB k o.toOpP = false → ShIm (os.map OpD.toOpP) w W v false := fun _ _ h1 => ShIm.no (shapes_stop' HP.out hn1 hn2 hop HS.out.1 (step_unfit' (by rw [hSl]; exact h1)))
      have hyes : fitsB k o.toOpP = true → shapesN (os.map OpD.toOpP) (k + 1) = (if o.k = 0 then some (S ++ [(o.r, o.c)]) else (shapeOf o.k (shGet S o.a) (shGet S o.b)).map fun s => S ++ [s]) := by
        intro h1
        rw [shapesN_succ hop, HS.out.1]
        show stepSh S o.toOpP = _
        unfold stepSh
        rw [hSl, if_pos h1]
      have hnoS : ∀ (W : World) (v : Value), fitsB k o.toOpP = true → o.k ≠ 0 → shapeOf o.k (shGet S o.a) (shGet S o.b) = none → ShIm (os.map OpD.toOpP) w W v false := fun _ _ h1 h2 h3 => ShIm.no (shapes_stop' HP.out hn1 hn2 hop HS.out.1 (by unfold stepSh; rw [hSl, if_pos h1, if_neg h2, h3]; rfl))
      have K1 := Lib.hid (fun W => impl_fieldsFit W o k (by omega) hxm hok.2.1)
      have HNO := Lib.hid hno; have HY := Lib.hid hyes; have HNS := Lib.hid hnoS; have HSL := Lib.hid hSl
      clear hno hyes hnoS hop ho hf hSl hok hxm
      have hbx := BoxN.alloc wr o.cells.toArray 111
      have BX := Lib.hid (show BoxN (wr.alloc (.cells o.cells.toArray 111)) wr.heap.size o.cells from hbx)
      clear hbx
      obtain ⟨⟨kk, a, b', q, r, c, xs⟩, adx, capx⟩ := o
      unfold OpD.val at K1
      unfold OpD.cells at BX
      simp only at p0 p1 p2 p3 p4 p5 p6 HY HNO HNS K1 BX
      obtain ⟨m, hM⟩ : ∃ m, m = xs.length := ⟨_, rfl⟩
      rw [← hM] at p6 K1 BX
      clear hM
      cases e1 : fitsB k ⟨kk, a, b', q, r, c, xs⟩
      · rw [e1] at K1
        go_wp2_with fail
        refine (K1.out _).mono ?_
        rintro e w1 ⟨rfl, hb1⟩
        have HF := Lib.hid (fun W v => HNO.out W v e1)
        have HB1 := Lib.hid (bthen (HB.out.alloc HB.out.size _) (by simpa using hb1)); clear hb1
        clear HNO HY HNS e1
        go_wp2
        go_ret2
        exact ⟨_, _, rfl, Lib.hid (HF.out _ _), HB1.out⟩
      rw [e1] at K1
      by_cases hk0 : kk = 0
      · as_aux_lemma =>
          subst hk0
          have hya := HY.out e1
          rw [if_pos rfl] at hya
          clear HNO HY HNS e1
          go_wp2_with fail
          refine (K1.out _).mono ?_
          rintro e w1 ⟨rfl, hb1⟩
          obtain ⟨-, x0, x1, x2, x3, x4, x5, x6, xf⟩ := (BX.out.below hb1).seven
          have hsz1 : wr.heap.size + 1 ≤ w1.heap.size := by have := hb1.size; simpa using this
          have HB1 : Hid (Below wr.heap.size wr w1) := Lib.hid (bthen (below1 wr _) hb1)
          have HR := Lib.hid (fun W hb => sh2_row HS.out.2 (W := W) hb)
          clear hb1 p0 p1 p2 p3 p4 p5 p6 K1 BX H HN HP HSL
          go_wp2_with (at_builtin; refine wp_appA rfl _ _ 160 rfl w.heap.size i0 (.agg #[.int .i64 0, .int .i64 0]) 2 16 Try.underlying160 hi0 hz0 hzs hz2 rfl (by decide) rfl (by intro u hu; simp at hu; rcases hu with rfl | rfl <;> rfl) _ _ _ rfl (HR.out _ HB1.out) (by go_simp) ?c3 ?c4 ?c5 ?_)
          case c3 => unfold maxLen; omega
          case c4 => omega
          case c5 => exact Nat.le_trans HB.out.size HB1.out.size
          intro v' w9 ho9 hg9 hat9 hb9 hs9
          obtain ⟨ad9, cap9, rfl, hown9⟩ := sh2_snoc (s := (r, c)) HS.out.2 HB.out.size HB1.out ho9 hg9 (by simpa using hat9)
          have HO9 := Lib.hid (And.intro hya hown9); have HB9 := Lib.hid ((HB.out.trans (HB1.out.mono HB.out.size)).trans hb9)
          clear ho9 hg9 hat9 hb9 hya hown9 HR HS HB HB1
          go_wp2
          refine ⟨?rel, ?measure⟩
          case rel => exact ⟨k + 1, by go_num, hlt, _, _, _, rfl, HO9, HB9⟩
          case measure => simp [intOf]; omega
      have ⟨a1, a2⟩ := (fitsB_args e1 hk0).1
      have ⟨b1, b2⟩ := (fitsB_args e1 hk0).2.1
      simp only at a1 a2 b1 b2
      obtain ⟨A, rfl⟩ : ∃ A : Nat, a = A := ⟨a.toNat, by omega⟩
      obtain ⟨B, rfl⟩ : ∃ B : Nat, b' = B := ⟨b'.toNat, by omega⟩
      have hAk : A < k := by omega
      have hBk : B < k := by omega
      have hya := HY.out e1
      rw [if_neg hk0] at hya
      have hns := fun W v => HNS.out W v e1 hk0
      have hkr := fitsB_in e1
      simp only at hkr
      have HKR := Lib.hid hkr
      clear hkr HNO HY HNS e1 a1 a2 b1 b2
      have hsa := shGet_some' (S := S) (i := A) (by rw [HSL.out]; exact hAk)
      have hsb := shGet_some' (S := S) (i := B) (by rw [HSL.out]; exact hBk)
      obtain ⟨⟨v1, v2⟩, hv⟩ : ∃ v, v = shGet S A := ⟨_, rfl⟩
      obtain ⟨⟨u1, u2⟩, hu⟩ : ∃ v, v = shGet S B := ⟨_, rfl⟩
      rw [← hv] at hsa hya hns
      rw [← hu] at hsb hya hns
      obtain ⟨g, rfl, hgr, ca, hfz⟩ := HS.out.2.spot hsa (by decide)
      obtain ⟨g', eg, -, cb, -⟩ := HS.out.2.spot hsb (by decide)
      cases eg
      have CA := Lib.hid ca; have CB := Lib.hid cb; have HGR := Lib.hid hgr
      clear ca cb hgr hsa hsb hv hu
      have hk0' : (kk == 0) = false := by simpa using hk0
      go_wp2_with fail
      refine (K1.out _).mono ?_
      rintro e w1 ⟨rfl, hb1⟩
      obtain ⟨-, x0, x1, x2, x3, x4, x5, x6, xf⟩ := (BX.out.below hb1).seven
      have hsz1 : wr.heap.size + 1 ≤ w1.heap.size := by have := hb1.size; simpa using this
      have HB1 : Hid (Below wr.heap.size wr w1) := Lib.hid (bthen (below1 wr _) hb1)
      have ca0 : w1.cell? ⟨g, A * 2, none⟩ = some (.int .i64 v1) := (HB1.out.cell (p := ⟨g, A * 2, none⟩) HGR.out.2.2).trans (CA.out 0 (by decide))
      have ca1 : w1.cell? ⟨g, A * 2 + 1, none⟩ = some (.int .i64 v2) := (HB1.out.cell (p := ⟨g, A * 2 + 1, none⟩) HGR.out.2.2).trans (CA.out 1 (by decide))
      have cb0 : w1.cell? ⟨g, B * 2, none⟩ = some (.int .i64 u1) := (HB1.out.cell (p := ⟨g, B * 2, none⟩) HGR.out.2.2).trans (CB.out 0 (by decide))
      have cb1 : w1.cell? ⟨g, B * 2 + 1, none⟩ = some (.int .i64 u2) := (HB1.out.cell (p := ⟨g, B * 2 + 1, none⟩) HGR.out.2.2).trans (CB.out 1 (by decide))
      have hgl : g < w1.heap.size := Nat.lt_of_lt_of_le HGR.out.2.2 HB1.out.size
      have HR := Lib.hid (fun W hb => sh2_row HS.out.2 (W := W) hb)
      clear CA CB hb1 p0 p1 p2 p3 p4 p5 p6 K1 BX H HN HP HSL
      go_upto_region 11 with fail
      go_cut [7, 8] (fun p7 p8 wx => ∃ g7 g8 : Nat, p7 = .pointer (some ⟨g7, 0, none⟩) ∧ p8 = .pointer (some ⟨g8, 0, none⟩) ∧ Hid (g7 ≠ g8 ∧ w1.heap.size ≤ g7 ∧ w1.heap.size ≤ g8 ∧ BoxN wx g7 [.int .i64 v1, .int .i64 v2] ∧ BoxN wx g8 [.int .i64 u1, .int .i64 u2] ∧ Below w1.heap.size w1 wx))
      case first =>
        go_region_held3 (fun w' => (w'.cell? ⟨wr.heap.size, 1, none⟩ = some (.int .i64 A) ∧ w'.cell? ⟨wr.heap.size, 2, none⟩ = some (.int .i64 B)) ∧ (w'.cell? ⟨g, A * 2, none⟩ = some (.int .i64 v1) ∧ w'.cell? ⟨g, A * 2 + 1, none⟩ = some (.int .i64 v2)) ∧ (w'.cell? ⟨g, B * 2, none⟩ = some (.int .i64 u1) ∧ w'.cell? ⟨g, B * 2 + 1, none⟩ = some (.int .i64 u2))) (go_keep) (first | fail)
        all_goals (try go_wp2_with fail)
        all_goals go_meet
        · exact ⟨_, _, rfl, rfl, Lib.hid ⟨by omega, Nat.le_refl _, Nat.le_succ _, ((BoxN.alloc w1 #[.int .i64 v1, .int .i64 v2] 164).below (below1 _ _)).below (Below.drew (Below.refl _ _)), (BoxN.alloc2 w1 _ #[.int .i64 u1, .int .i64 u2] 164).below (Below.drew (Below.refl _ _)), Below.drew (below2 _ _ _)⟩⟩
        · exact ⟨_, _, rfl, rfl, Lib.hid ⟨by omega, Nat.le_succ _, Nat.le_refl _, (BoxN.alloc2 w1 _ #[.int .i64 v1, .int .i64 v2] 164).below (Below.drew (Below.refl _ _)), ((BoxN.alloc w1 #[.int .i64 u1, .int .i64 u2] 164).below (below1 _ _)).below (Below.drew (Below.refl _ _)), Below.drew (below2 _ _ _)⟩⟩
      case rest =>
        obtain ⟨g7, g8, rfl, rfl, HC⟩ := hcut
        obtain ⟨hne, hg7, hg8, bx7, bx8, hbc⟩ := HC.out
        obtain ⟨l7, y0, y1, yf⟩ := bx7.two
        obtain ⟨l8, z0, z1, zf⟩ := bx8.two
        have hx0 : wc.cell? ⟨wr.heap.size, 0, none⟩ = some (.int .i64 kk) := (hbc.cell (p := ⟨wr.heap.size, 0, none⟩) (by show wr.heap.size < w1.heap.size; omega)).trans x0
        have HBC : Hid (Below wr.heap.size wr wc) := Lib.hid (HB1.out.trans (hbc.mono (by omega)))
        clear bx7 bx8 hbc HB1 x0 x1 x2 x3 x4 x5 x6 xf ca0 ca1 cb0 cb1 HC
        have hwc : wr.heap.size < wc.heap.size := by omega
        go_upto_block 2 with fail
        go_cut [10] (fun f wx => ∃ b1 : Bool, ∃ s1 s2 : Int, f = .bool b1 ∧ Hid ((b1 = true ∧ shapeOf kk (v1, v2) (u1, u2) = some (s1, s2)) ∨ (b1 = false ∧ shapeOf kk (v1, v2) (u1, u2) = none)) ∧ Hid (BoxN wx wc.heap.size [.int .i64 s1, .int .i64 s2] ∧ Below wr.heap.size wr wx))
        case first =>
          clear hya hns HS HR HB
          have hkr := HKR.out
          rcases (by omega : kk = 1 ∨ kk = 2 ∨ kk = 3 ∨ kk = 4 ∨ kk = 5 ∨ kk = 6 ∨ kk = 7 ∨ kk = 8 ∨ kk = 9 ∨ kk = 10) with rfl | rfl | rfl | rfl | rfl | rfl | rfl | rfl | rfl | rfl
          · as_aux_lemma =>
              by_cases hf3 : v1 = u1
              · subst hf3
                by_cases hf2 : v2 = u2
                · subst hf2
                  have t1 : (v1 == v1) = true := beq_self_eq_true _
                  have t2 : (v2 == v2) = true := beq_self_eq_true _
                  go_wp2_with fail
                  go_meet
                  exact ⟨true, _, _, rfl, Lib.hid (.inl ⟨rfl, by simp [shapeOf]⟩), Lib.hid ⟨BoxN.alloc wc #[.int .i64 v1, .int .i64 v2] 164, HBC.out.alloc HBC.out.size _⟩⟩
                · have t1 : (v1 == v1) = true := beq_self_eq_true _
                  have t2 : (v2 == u2) = false := by simpa using hf2
                  go_wp2_with fail
                  go_meet
                  exact ⟨false, _, _, rfl, Lib.hid (.inr ⟨rfl, by simp [shapeOf, hf2]⟩), Lib.hid ⟨BoxN.alloc wc #[.int .i64 v1, .int .i64 v2] 164, HBC.out.alloc HBC.out.size _⟩⟩
              · have t1 : (v1 == u1) = false := by simpa using hf3
                go_wp2_with fail
                go_meet
                exact ⟨false, _, _, rfl, Lib.hid (.inr ⟨rfl, by simp [shapeOf, hf3]⟩), Lib.hid ⟨BoxN.alloc wc #[.int .i64 v1, .int .i64 v2] 164, HBC.out.alloc HBC.out.size _⟩⟩
          · as_aux_lemma =>
              by_cases hf3 : u1 = 1
              · subst hf3
                by_cases hf2 : u2 = v2
                · subst hf2
                  have t2 : (u2 == u2) = true := beq_self_eq_true _
                  go_wp2_with fail
                  go_meet
                  exact ⟨true, _, _, rfl, Lib.hid (.inl ⟨rfl, by simp [shapeOf]⟩), Lib.hid ⟨BoxN.alloc wc #[.int .i64 v1, .int .i64 u2] 164, HBC.out.alloc HBC.out.size _⟩⟩
                · have t2 : (u2 == v2) = false := by simpa using hf2
                  go_wp2_with fail
                  go_meet
                  exact ⟨false, _, _, rfl, Lib.hid (.inr ⟨rfl, by simp [shapeOf, hf2]⟩), Lib.hid ⟨BoxN.alloc wc #[.int .i64 v1, .int .i64 v2] 164, HBC.out.alloc HBC.out.size _⟩⟩
              · have t1 : (u1 == 1) = false := by simpa using hf3
                go_wp2_with fail
                go_meet
                exact ⟨false, _, _, rfl, Lib.hid (.inr ⟨rfl, by simp [shapeOf, hf3]⟩), Lib.hid ⟨BoxN.alloc wc #[.int .i64 v1, .int .i64 v2] 164, HBC.out.alloc HBC.out.size _⟩⟩
          · as_aux_lemma =>
              by_cases hf3 : v1 = u1
              · subst hf3
                by_cases hf2 : v2 = u2
                · subst hf2
                  have t1 : (v1 == v1) = true := beq_self_eq_true _
                  have t2 : (v2 == v2) = true := beq_self_eq_true _
                  go_wp2_with fail
                  go_meet
                  exact ⟨true, _, _, rfl, Lib.hid (.inl ⟨rfl, by simp [shapeOf]⟩), Lib.hid ⟨BoxN.alloc wc #[.int .i64 v1, .int .i64 v2] 164, HBC.out.alloc HBC.out.size _⟩⟩
                · have t1 : (v1 == v1) = true := beq_self_eq_true _
                  have t2 : (v2 == u2) = false := by simpa using hf2
                  go_wp2_with fail
                  go_meet
                  exact ⟨false, _, _, rfl, Lib.hid (.inr ⟨rfl, by simp [shapeOf, hf2]⟩), Lib.hid ⟨BoxN.alloc wc #[.int .i64 v1, .int .i64 v2] 164, HBC.out.alloc HBC.out.size _⟩⟩
              · have t1 : (v1 == u1) = false := by simpa using hf3
                go_wp2_with fail
                go_meet
                exact ⟨false, _, _, rfl, Lib.hid (.inr ⟨rfl, by simp [shapeOf, hf3]⟩), Lib.hid ⟨BoxN.alloc wc #[.int .i64 v1, .int .i64 v2] 164, HBC.out.alloc HBC.out.size _⟩⟩
          · as_aux_lemma =>
              by_cases hf3 : u1 = 1
              · subst hf3
                by_cases hf2 : u2 = v2
                · subst hf2
                  have t2 : (u2 == u2) = true := beq_self_eq_true _
                  go_wp2_with fail
                  go_meet
                  exact ⟨true, _, _, rfl, Lib.hid (.inl ⟨rfl, by simp [shapeOf]⟩), Lib.hid ⟨BoxN.alloc wc #[.int .i64 v1, .int .i64 u2] 164, HBC.out.alloc HBC.out.size _⟩⟩
                · have t2 : (u2 == v2) = false := by simpa using hf2
                  go_wp2_with fail
                  go_meet
                  exact ⟨false, _, _, rfl, Lib.hid (.inr ⟨rfl, by simp [shapeOf, hf2]⟩), Lib.hid ⟨BoxN.alloc wc #[.int .i64 v1, .int .i64 v2] 164, HBC.out.alloc HBC.out.size _⟩⟩
              · have t1 : (u1 == 1) = false := by simpa using hf3
                go_wp2_with fail
                go_meet
                exact ⟨false, _, _, rfl, Lib.hid (.inr ⟨rfl, by simp [shapeOf, hf3]⟩), Lib.hid ⟨BoxN.alloc wc #[.int .i64 v1, .int .i64 v2] 164, HBC.out.alloc HBC.out.size _⟩⟩
          · as_aux_lemma =>
              go_wp2_with fail
              go_meet
              exact ⟨true, _, _, rfl, Lib.hid (.inl ⟨rfl, by simp [shapeOf]⟩), Lib.hid ⟨BoxN.alloc wc #[.int .i64 v1, .int .i64 v2] 164, HBC.out.alloc HBC.out.size _⟩⟩
          · as_aux_lemma =>
              by_cases hf3 : v2 = u1
              · subst hf3
                have t2 : (v2 == v2) = true := beq_self_eq_true _
                go_wp2_with fail
                go_meet
                exact ⟨true, _, _, rfl, Lib.hid (.inl ⟨rfl, by simp [shapeOf]⟩), Lib.hid ⟨BoxN.alloc wc #[.int .i64 v1, .int .i64 u2] 164, HBC.out.alloc HBC.out.size _⟩⟩
              · have t1 : (v2 == u1) = false := by simpa using hf3
                go_wp2_with fail
                go_meet
                exact ⟨false, _, _, rfl, Lib.hid (.inr ⟨rfl, by simp [shapeOf, hf3]⟩), Lib.hid ⟨BoxN.alloc wc #[.int .i64 v1, .int .i64 u2] 164, HBC.out.alloc HBC.out.size _⟩⟩
          · as_aux_lemma =>
              go_wp2_with fail
              go_meet
              exact ⟨true, _, _, rfl, Lib.hid (.inl ⟨rfl, by simp [shapeOf]⟩), Lib.hid ⟨BoxN.alloc wc #[.int .i64 v2, .int .i64 v1] 164, HBC.out.alloc HBC.out.size _⟩⟩
          · as_aux_lemma =>
              go_wp2_with fail
              go_meet
              exact ⟨true, _, _, rfl, Lib.hid (.inl ⟨rfl, by simp [shapeOf]⟩), Lib.hid ⟨BoxN.alloc wc #[.int .i64 v1, .int .i64 v2] 164, HBC.out.alloc HBC.out.size _⟩⟩
          · as_aux_lemma =>
              go_wp2_with fail
              go_meet
              exact ⟨true, _, _, rfl, Lib.hid (.inl ⟨rfl, by simp [shapeOf]⟩), Lib.hid ⟨BoxN.alloc wc #[.int .i64 v1, .int .i64 v2] 164, HBC.out.alloc HBC.out.size _⟩⟩
          · as_aux_lemma =>
              go_wp2_with fail
              go_meet
              exact ⟨true, _, _, rfl, Lib.hid (.inl ⟨rfl, by simp [shapeOf]⟩), Lib.hid ⟨BoxN.alloc wc #[.int .i64 1, .int .i64 1] 164, HBC.out.alloc HBC.out.size _⟩⟩
        case rest =>
          obtain ⟨b1, s1, s2, rfl, HSH, HBX⟩ := hcut
          obtain ⟨bx, hb2⟩ := HBX.out
          obtain ⟨l9, t0, t1, tf⟩ := bx.two
          have HB2 := Lib.hid hb2
          clear bx hb2 HBX y0 y1 yf z0 z1 zf hx0 hne hg7 hg8 l7 l8 hwc HBC
          cases b1
          · have hf : ∀ W v, ShIm (os.map OpD.toOpP) w W v false := fun W v => hns W v (by rcases HSH.out with h | h; exact absurd h.1 (by decide); exact h.2)
            have HF := Lib.hid hf
            clear hns hya hf HSH
            go_wp2
            go_ret2
            exact ⟨_, _, rfl, Lib.hid (HF.out _ _), HB.out.trans (HB2.out.mono HB.out.size)⟩
          · have hsh : shapeOf kk (v1, v2) (u1, u2) = some (s1, s2) := by
              rcases HSH.out with h | h
              · exact h.2
              · exact absurd h.1 (by decide)
            rw [hsh] at hya
            have HYA := Lib.hid hya
            clear hns hya hsh HSH
            go_wp2_with (at_builtin; refine wp_appA rfl _ _ 160 rfl w.heap.size i0 (.agg #[.int .i64 0, .int .i64 0]) 2 16 Try.underlying160 hi0 hz0 hzs hz2 rfl (by decide) rfl (by intro u hu; simp at hu; rcases hu with rfl | rfl <;> rfl) _ _ _ rfl (HR.out _ HB2.out) (by go_simp) ?c3 ?c4 ?c5 ?_)
            case c3 => unfold maxLen; omega
            case c4 => omega
            case c5 => exact Nat.le_trans HB.out.size HB2.out.size
            intro v' w9 ho9 hg9 hat9 hb9 hs9
            obtain ⟨ad9, cap9, rfl, hown9⟩ := sh2_snoc (s := (s1, s2)) HS.out.2 HB.out.size HB2.out ho9 hg9 (by simpa using hat9)
            have HO9 := Lib.hid (And.intro HYA.out hown9); have HB9 := Lib.hid ((HB.out.trans (HB2.out.mono HB.out.size)).trans hb9)
            clear ho9 hg9 hat9 hb9 HYA hown9 HR HS HB HB2
            go_wp2
            go_roundw
            case rel => exact ⟨k + 1, by go_num, hlt, _, _, _, rfl, HO9, HB9⟩
            case measure => simp [intOf]; omega
    · have hkn : k = n := by omega
      subst hkn
      have hf : ShIm (os.map OpD.toOpP) w wr (.slice ad' k cap') true := by
        have hl := shapesN_length (by rw [← HP.out]; exact Nat.le_refl _) HS.out.1
        have he := (shapesP_eq' HP.out hn1 hn2).trans HS.out.1
        refine ⟨by rw [he]; rfl, fun S' hS' => ?_⟩
        rw [he] at hS'; cases hS'
        rw [hl]
        exact ⟨_, _, rfl, HS.out.2⟩
      have HF := Lib.hid hf; clear hf
      go_wp2
      go_ret2
      exact ⟨_, _, rfl, HF, HB.out⟩
end Go.Proofs.Ytmkfcaahdmdpaaa
/- Which operations a tape's last value depends on: the program. No condition. -/
namespace Go.Proofs.Ytmkfcaahdmdpaaa
open Go Go.RowKit
set_option linter.unusedVariables false
set_option linter.unusedSimpArgs false
theorem impl_ValidTape (w : World) (ad : Option Addr) (cap : Nat) (os : List OpD) (h : SeeR opR w ad cap os) :
    Calls Try.prog 88 #[.slice ad os.length cap] w fun e w' => e = .returned (.bool (shapesP (os.map OpD.toOpP)).isSome) ∧ Below w.heap.size w w' := by
  have K := Lib.hid (impl_shapes w ad cap os h)
  clear h
  go_enter Try.func88, Try.ntmps88
  go_wp2_with fail
  refine K.out.mono ?_
  rintro e w1 ⟨v, b, rfl, hs, hb⟩
  have HS := Lib.hid hs.out.1
  clear hs
  go_wp2
  go_ret
  exact ⟨by rw [HS.out]; rfl, hb⟩
end Go.Proofs.Ytmkfcaahdmdpaaa
/- Lists and tensors that are the same. No condition. -/
namespace Go.Proofs.Ytmkfcaahdmdpaaa
open Go Go.RowKit
set_option linter.unusedVariables false
set_option linter.unusedSimpArgs false
theorem eq_take_next {xs ys : List Nat} {k : Nat} (hx : k < xs.length) (hy : k < ys.length) (h : (xs.take k).map (cn .f32) = (ys.take k).map (cn .f32)) (he : cn .f32 (xs.getD k 0) = cn .f32 (ys.getD k 0)) : (xs.take (k + 1)).map (cn .f32) = (ys.take (k + 1)).map (cn .f32) := by
  rw [List.getD_eq_getElem?_getD, List.getD_eq_getElem?_getD, List.getElem?_eq_getElem hx, List.getElem?_eq_getElem hy] at he
  rw [List.take_succ_eq_append_getElem hx, List.take_succ_eq_append_getElem hy, List.map_append, List.map_append, h]
  simpa using he
set_option maxHeartbeats 2000000 in
theorem eq_func (w : World) (a b : Option Addr) (ca cb : Nat) (xs ys : List Nat) (hx : F32s w a ca xs) (hy : F32s w b cb ys) :
    Calls Try.prog 178 #[.slice a xs.length ca, .slice b ys.length cb, .func (.func 31) #[] #[]] w fun e w' => e = .returned (.bool (decide (xs.map (cn .f32) = ys.map (cn .f32)))) ∧ Dr w w' := by
  have mx := Nat.le_trans hx.len hx.cap
  have my := Nat.le_trans hy.len hy.cap
  unfold maxLen at mx my
  by_cases hl : xs.length = ys.length
  · have X := Lib.hid hx; have Y := Lib.hid hy
    obtain ⟨n, hn⟩ : ∃ n, n = xs.length := ⟨_, rfl⟩
    have hn2 : n = ys.length := hn.trans hl
    rw [← hn] at mx ⊢
    rw [← hn2]
    have NX := Lib.hid hn; have NY := Lib.hid hn2
    clear hx hy hl hn hn2 my
    go_enter Try.func178, Try.ntmps178
    go_wp2
    go_loopw [17, 7, 8, 9] (fun i _ _ _ wt => ∃ k : Nat, i = .int .i64 k ∧ k ≤ n ∧ Hid ((xs.take k).map (cn .f32) = (ys.take k).map (cn .f32)) ∧ Dr w wt) (fun i _ _ _ _ => n - (intOf i).toNat)
    case atStart => exact ⟨0, rfl, Nat.zero_le _, Lib.hid rfl, Dr.refl _⟩
    case round =>
      obtain ⟨k, rfl, hk, HE, hd⟩ := hrel
      have HD := Lib.hid hd; clear hd
      by_cases hlt : k < n
      · have kx : k < xs.length := by rw [← NX.out]; exact hlt
        have ky : k < ys.length := by rw [← NY.out]; exact hlt
        have x2 := X.out.below HD.out.below
        have y2 := Y.out.below HD.out.below
        obtain ⟨b1, o1, rfl, _, c1⟩ := x2.spot (k := k) kx
        obtain ⟨b2, o2, rfl, _, c2⟩ := y2.spot (k := k) ky
        have c1 := c1 k kx
        have c2 := c2 k ky
        have l1 := x2.lt _ (mem_getD kx)
        have l2 := y2.lt _ (mem_getD ky)
        have hnext := eq_take_next kx ky HE.out
        have hstop : cn .f32 (xs.getD k 0) ≠ cn .f32 (ys.getD k 0) → decide (xs.map (cn .f32) = ys.map (cn .f32)) = false := by
          intro h1
          rw [decide_eq_false]
          intro h2
          apply h1
          rw [← cn_getD, ← cn_getD, h2]
        obtain ⟨x, hxx⟩ : ∃ x, x = xs.getD k 0 := ⟨_, rfl⟩
        obtain ⟨y, hyy⟩ : ∃ y, y = ys.getD k 0 := ⟨_, rfl⟩
        rw [← hxx] at c1 l1 hnext hstop
        rw [← hyy] at c2 l2 hnext hstop
        have K := Lib.hid (fun W => impl_SameNumber x y l1 l2 W)
        have HN := Lib.hid hnext; have HS := Lib.hid hstop
        clear x2 y2 l1 l2 hnext hstop hxx hyy kx ky
        by_cases he : cn .f32 x = cn .f32 y
        · have k2 := K.out
          rw [decide_eq_true he] at k2
          have K2 := Lib.hid k2; have HX := Lib.hid (HN.out he)
          clear k2 K he
          go_wp2_with fail
          refine (K2.out _).mono ?_
          rintro e w2 ⟨rfl, hd⟩
          have HD2 := Lib.hid (HD.out.trans hd); clear hd c1 c2
          go_wp2
          refine ⟨?rel, ?measure⟩
          case rel => exact ⟨k + 1, by go_num, hlt, HX, HD2.out⟩
          case measure => simp [intOf]; omega
        · have k2 := K.out
          rw [decide_eq_false he] at k2
          have K2 := Lib.hid k2; have HX := Lib.hid (HS.out he)
          clear k2 K he
          go_wp2_with fail
          refine (K2.out _).mono ?_
          rintro e w2 ⟨rfl, hd⟩
          have HD2 := Lib.hid (HD.out.trans hd); clear hd c1 c2
          go_wp2
          go_ret
          exact ⟨by rw [HX.out]; rfl, HD2.out⟩
      · have hkn : k = n := by omega
        subst hkn
        have he : decide (xs.map (cn .f32) = ys.map (cn .f32)) = true := by
          have h1 := HE.out
          rw [List.take_of_length_le (by rw [← NX.out]; exact Nat.le_refl _), List.take_of_length_le (by rw [← NY.out]; exact Nat.le_refl _)] at h1
          exact decide_eq_true h1
        have HX := Lib.hid he; clear he
        go_wp2
        go_ret
        exact ⟨by rw [HX.out]; rfl, HD.out⟩
  · have he : decide (xs.map (cn .f32) = ys.map (cn .f32)) = false := by
      rw [decide_eq_false]
      intro h
      apply hl
      have := congrArg List.length h
      simpa using this
    rw [he]
    obtain ⟨n, hn⟩ : ∃ n, n = xs.length := ⟨_, rfl⟩
    obtain ⟨m, hm⟩ : ∃ m, m = ys.length := ⟨_, rfl⟩
    rw [← hn, ← hm] at hl ⊢
    have h1 : ((n : Int) != (m : Int)) = true := by simp; omega
    have h2 : ((n : Int) == (m : Int)) = false := by simp; omega
    clear hl he hn hm hx hy mx my
    go_enter Try.func178, Try.ntmps178
    go_wp2
    go_ret
    exact ⟨rfl, Dr.refl _⟩
theorem impl_sameLists (w : World) (a b : Option Addr) (ca cb : Nat) (xs ys : List Nat) (hx : F32s w a ca xs) (hy : F32s w b cb ys) :
    Calls Try.prog 105 #[.slice a xs.length ca, .slice b ys.length cb] w fun e w' => e = .returned (.bool (decide (xs.map (cn .f32) = ys.map (cn .f32)))) ∧ Dr w w' := by
  have K := Lib.hid (eq_func w a b ca cb xs ys hx hy)
  clear hx hy
  go_enter Try.func105, Try.ntmps105
  go_wp2_with fail
  refine K.out.mono ?_
  rintro e w1 ⟨rfl, hd⟩
  go_wp2
  go_ret
  exact ⟨rfl, hd⟩
end Go.Proofs.Ytmkfcaahdmdpaaa
/- Tensors that are the same; rows. No condition. -/
namespace Go.Proofs.Ytmkfcaahdmdpaaa
open Go Go.RowKit
set_option linter.unusedVariables false
set_option linter.unusedSimpArgs false
theorem below_dr {w w1 w2 : World} (h : Below w.heap.size w w1) (hd : Dr w1 w2) : Below w.heap.size w w2 := by obtain ⟨q, rfl⟩ := hd; exact below_drewN h q
set_option maxHeartbeats 2000000 in
theorem impl_SameTensors (w : World) (r c : Int) (a b : Option Addr) (ca cb : Nat) (xs ys : List Nat) (hx : F32s w a ca xs) (hy : F32s w b cb ys) (h1 : tenB r c xs.length = true) (h2 : tenB r c ys.length = true) :
    Calls Try.prog 21 #[.agg #[.int .i64 r, .int .i64 c, .slice a xs.length ca], .agg #[.int .i64 r, .int .i64 c, .slice b ys.length cb]] w fun e w' => e = .returned (.bool (decide (xs.map (cn .f32) = ys.map (cn .f32)))) ∧ Below w.heap.size w w' := by
  have mx := Nat.le_trans hx.len hx.cap
  have my := Nat.le_trans hy.len hy.cap
  have K1 := Lib.hid (fun W => impl_ValidTensor r c a xs.length ca mx W)
  have K2 := Lib.hid (fun W => impl_ValidTensor r c b ys.length cb my W)
  rw [h1] at K1
  rw [h2] at K2
  have K3 := Lib.hid (fun W => impl_sameShape r c r c (.slice a xs.length ca) (.slice b ys.length cb) W rfl rfl)
  rw [decide_eq_true rfl, decide_eq_true rfl] at K3
  have K4 := Lib.hid (fun W h1 h2 => impl_sameLists W a b ca cb xs ys h1 h2)
  obtain ⟨E, hE⟩ : ∃ E, E = decide (xs.map (cn .f32) = ys.map (cn .f32)) := ⟨_, rfl⟩
  rw [← hE] at K4 ⊢
  have X := Lib.hid hx; have Y := Lib.hid hy
  clear hE hx hy h1 h2 mx my
  have B1 := Lib.hid ((Box3.alloc w (.int .i64 r) (.int .i64 c) (.slice a xs.length ca) 27).below (below1 _ (.cells #[.int .i64 r, .int .i64 c, .slice b ys.length cb] 27)))
  have B2 := Lib.hid (Box3.alloc2 w (.cells #[.int .i64 r, .int .i64 c, .slice a xs.length ca] 27) (.int .i64 r) (.int .i64 c) (.slice b ys.length cb) 27)
  have B := Lib.hid (below2 w (.cells #[.int .i64 r, .int .i64 c, .slice a xs.length ca] 27) (.cells #[.int .i64 r, .int .i64 c, .slice b ys.length cb] 27))
  go_enter Try.func21, Try.ntmps21
  go_wp2_with fail
  refine (K1.out _).mono ?_
  rintro e w1 ⟨rfl, hb⟩
  have B := Lib.hid (bthen B.out hb); have B1 := Lib.hid (B1.out.below hb); have B2 := Lib.hid (B2.out.below hb); clear hb
  obtain ⟨-, p0, p1, p2, -⟩ := B1.out; obtain ⟨-, q0, q1, q2, -⟩ := B2.out
  go_wp2_with fail
  refine (K2.out _).mono ?_
  rintro e w2 ⟨rfl, hb⟩
  have B := Lib.hid (bthen B.out hb); have B1 := Lib.hid (B1.out.below hb); have B2 := Lib.hid (B2.out.below hb); clear hb p0 p1 p2 q0 q1 q2
  obtain ⟨-, p0, p1, p2, -⟩ := B1.out; obtain ⟨-, q0, q1, q2, -⟩ := B2.out
  go_wp2_with fail
  refine (K3.out _).mono ?_
  rintro e w3 ⟨rfl, hb⟩
  have B := Lib.hid (bthen B.out hb); have B1 := Lib.hid (B1.out.below hb); have B2 := Lib.hid (B2.out.below hb); clear hb p0 p1 p2 q0 q1 q2
  obtain ⟨-, p0, p1, p2, -⟩ := B1.out; obtain ⟨-, q0, q1, q2, -⟩ := B2.out
  go_wp2_with fail
  refine (K4.out _ (X.out.below B.out) (Y.out.below B.out)).mono ?_
  rintro e w4 ⟨rfl, hd⟩
  go_wp2
  go_ret
  exact ⟨rfl, below_dr B.out hd⟩
/-- a row of a tensor -/
theorem impl_row (w : World) (r c : Nat) (ad : Option Addr) (n cap : Nat) (hn : n = r * c) (hc1 : 1 ≤ c) (hc2 : c ≤ 16) (hr2 : r ≤ 16) (hcap : n ≤ cap) (i : Nat) (hi : i < r) (b off : Nat) (had : ad = some ⟨b, off, none⟩) :
    Calls Try.prog 117 #[.agg #[.int .i64 r, .int .i64 c, .slice ad n cap], .int .i64 i] w fun e w' => e = .returned (.slice (some ⟨b, off + i * c, none⟩) c (cap - i * c)) ∧ Below w.heap.size w w' := by
  subst had
  have h1 : i * c + c ≤ n := by
    rw [hn]
    have : (i + 1) * c ≤ r * c := Nat.mul_le_mul_right c (by omega)
    rw [Nat.succ_mul] at this; exact this
  have hnb : n ≤ 256 := by rw [hn]; exact Nat.le_trans (Nat.mul_le_mul hr2 hc2) (by decide)
  obtain ⟨p, hp⟩ : ∃ p, p = i * c := ⟨_, rfl⟩
  have e1 : ((i : Int) * (c : Int)) = (p : Int) := by rw [hp]; rfl
  have e2 : (((i : Int) + 1) * (c : Int)) = ((p + c : Nat) : Int) := by rw [hp, Int.add_mul, Int.one_mul]; rfl
  rw [← hp] at h1 ⊢
  clear hp hn
  go_enter Try.func117, Try.ntmps117
  go_wp2
  go_ret
  exact ⟨by rw [Nat.add_sub_cancel_left]; rfl, below1 _ _⟩
end Go.Proofs.Ytmkfcaahdmdpaaa
/- Rows of a tensor. No condition. -/
namespace Go.Proofs.Ytmkfcaahdmdpaaa
open Go Go.RowKit
set_option linter.unusedVariables false
set_option linter.unusedSimpArgs false
theorem slices_CloneF (w : World) (ad : Option Addr) (cap : Nat) (xs : List Nat) (h : F32s w ad cap xs) (hc : ad = none → cap = 0) (hn : xs.length ≤ 1048576) :
    Calls Try.prog 111 #[.slice ad xs.length cap] w fun e w' => ∃ ad' cap', e = .returned (.slice ad' xs.length cap') ∧ Hid (RepF w' w.heap.size w'.heap.size ad' xs.length cap' xs) ∧ Below w.heap.size w w' := by
  refine (slices_Clone w ad cap xs h hc hn).mono ?_
  rintro e w' ⟨v, rfl, ho, hb⟩
  obtain ⟨ad', cap', rfl, hr⟩ := RepF.of_owns ho h.lt
  exact ⟨ad', cap', rfl, Lib.hid hr, hb⟩
theorem wrap_ok {x : Int} (h1 : -1000000 ≤ x) (h2 : x ≤ 1000000) : IntKind.i64.wrap x = x := by rw [IntKind.wrap_i64]; omega
set_option maxHeartbeats 4000000 in
set_option maxRecDepth 100000 in
theorem impl_SliceRows (w : World) (r c : Nat) (ad : Option Addr) (cap : Nat) (xs : List Nat) (h : F32s w ad cap xs) (hr1 : 1 ≤ r) (hr2 : r ≤ 16) (hc1 : 1 ≤ c) (hc2 : c ≤ 16) (hl : xs.length = r * c) (f k : Nat) (hk : 1 ≤ k) (hfk : f + k ≤ r) :
    Calls Try.prog 24 #[.agg #[.int .i64 r, .int .i64 c, .slice ad xs.length cap], .int .i64 f, .int .i64 k] w fun e w' => ∃ ad' cap', e = .returned (.tuple #[.agg #[.int .i64 k, .int .i64 c, .slice ad' (k * c) cap'], .bool true]) ∧ Hid (RepF w' w.heap.size w'.heap.size ad' (k * c) cap' ((xs.drop (f * c)).take (k * c))) ∧ Below w.heap.size w w' := by
  have mx := Nat.le_trans h.len h.cap
  have hten : tenB r c xs.length = true := tenB_iff.2 ⟨⟨by omega, by omega⟩, ⟨by omega, by omega⟩, by rw [hl]; rfl⟩
  have K1 := Lib.hid (fun W => impl_ValidTensor r c ad xs.length cap mx W)
  rw [hten] at K1
  have K2 := Lib.hid (fun W => within_any f 0 ((r : Int) - 1) W)
  rw [inB_iff.2 ⟨by omega, by omega⟩] at K2
  have K3 := Lib.hid (fun W => within_any k 1 ((r : Int) - f) W)
  rw [inB_iff.2 ⟨by omega, by omega⟩] at K3
  have hle : f * c + k * c ≤ xs.length := by
    rw [hl, ← Nat.add_mul]; exact Nat.mul_le_mul_right c hfk
  have hkc : 1 ≤ k * c := Nat.mul_le_mul hk hc1
  have hrc : r * c ≤ 256 := Nat.mul_le_mul hr2 hc2
  obtain ⟨b, off, rfl, _, _⟩ := h.spot (k := 0) (by omega)
  have H1 := Lib.hid (((h.cut3 (f * c) (by omega)).2).cut3 (k * c) (by simp; omega)).1
  have hcl := h.len
  obtain ⟨n, hn⟩ : ∃ n, n = xs.length := ⟨_, rfl⟩
  obtain ⟨p, hp⟩ : ∃ p, p = f * c := ⟨_, rfl⟩
  obtain ⟨m, hm⟩ : ∃ m, m = k * c := ⟨_, rfl⟩
  have e1 : ((f : Int) * (c : Int)) = (p : Int) := by rw [hp]; rfl
  have e2 : (((f : Int) + (k : Int)) * (c : Int)) = (p : Int) + (m : Int) := by rw [hp, hm, Int.add_mul]; rfl
  have NX := Lib.hid hn
  rw [← hn] at K1 hle hcl ⊢
  rw [← hp, ← hm] at H1 ⊢
  rw [← hp, ← hm] at hle
  rw [← hm] at hkc
  have hn256 : n ≤ 256 := by rw [hn, hl]; exact hrc
  have B1 := Lib.hid ((Box3.alloc w (.int .i64 r) (.int .i64 c) (.slice (some ⟨b, off, none⟩) n cap) 27).below (below1 _ (.cells #[.int .i64 0, .int .i64 0, .slice none 0 0] 27)))
  have B2 := Lib.hid (Box3.alloc2 w (.cells #[.int .i64 r, .int .i64 c, .slice (some ⟨b, off, none⟩) n cap] 27) (.int .i64 0) (.int .i64 0) (.slice none 0 0) 27)
  have B := Lib.hid (below2 w (.cells #[.int .i64 r, .int .i64 c, .slice (some ⟨b, off, none⟩) n cap] 27) (.cells #[.int .i64 0, .int .i64 0, .slice none 0 0] 27))
  have t1 : IntKind.i64.wrap ((f : Int) + (k : Int)) = (f : Int) + (k : Int) := wrap_ok (by omega) (by omega)
  have t2 : IntKind.i64.wrap ((p : Int) + (m : Int)) = (p : Int) + (m : Int) := wrap_ok (by omega) (by omega)
  have t3 : IntKind.i64.wrap (p : Int) = (p : Int) := wrap_ok (by omega) (by omega)
  have t4 : (0 : Int) ≤ (p : Int) + (m : Int) := by omega
  have t5 : (p : Int) + (m : Int) ≤ (cap : Int) := by omega
  have t6 : (p : Int) ≤ max ((p : Int) + (m : Int)) 0 := by omega
  have t7 : ((p : Int) + (m : Int)).toNat = p + m := by omega
  have t8 : ¬ (cap = p) := by omega
  have t9 : p + m - p = m := by omega
  obtain ⟨ys, hys⟩ : ∃ ys, ys = (xs.drop p).take m := ⟨_, rfl⟩
  rw [← hys] at H1 ⊢
  have hyl : ys.length = m := by rw [hys, List.length_take, List.length_drop, ← NX.out]; omega
  clear hten hl hrc hn hp hm mx h hys
  go_enter Try.func24, Try.ntmps24
  go_wp2_with fail
  refine (K1.out _).mono ?_
  rintro e w1 ⟨rfl, hb⟩
  have B := Lib.hid (bthen B.out hb); have B1 := Lib.hid (B1.out.below hb); have B2 := Lib.hid (B2.out.below hb); clear hb
  obtain ⟨-, p0, p1, p2, -⟩ := B1.out; obtain ⟨-, q0, q1, q2, q4⟩ := B2.out
  go_wp2_with fail
  refine (K2.out _).mono ?_
  rintro e w2 ⟨rfl, rfl⟩
  go_wp2_with fail
  refine (K3.out _).mono ?_
  rintro e w2 ⟨rfl, rfl⟩
  have hbd : Below w1.heap.size w1 w1.drew := Below.drew (Below.refl _ _)
  have kc := slices_CloneF w1.drew _ _ ys ((H1.out.below B.out).below hbd) (fun h => nomatch h) (by omega)
  rw [hyl] at kc
  have KC := Lib.hid kc
  have YL := Lib.hid hyl
  have YB := Lib.hid H1.out.lt
  have BX1 := Lib.hid (B1.out.below hbd); have BX2 := Lib.hid (B2.out.below hbd)
  obtain ⟨hs1, -, -, -, -⟩ := B1.out
  obtain ⟨hs2, -, -, -, -⟩ := B2.out
  have hs1 : w.heap.size < w1.drew.heap.size := hs1
  have hs2 : w.heap.size + 1 < w1.drew.heap.size := hs2
  clear kc hyl hbd
  go_wp2
  go_region_held3 (fun w' => w'.cell? ⟨w.heap.size, 1, none⟩ = some (.int .i64 c) ∧ w'.cell? ⟨w.heap.size, 2, none⟩ = some (.slice (some ⟨b, off, none⟩) n cap)) (go_keep)
    (first
      | (go_at_call 111; with_reducible refine KC.out.mono ?_; rintro e w' ⟨ad2, cap2, rfl, RO, hb⟩; obtain ⟨-, u0, u1, u2, -⟩ := BX1.out.below hb; obtain ⟨-, u3, u4, u5, uf⟩ := BX2.out.below hb))
  have hbb := bthen (bthen B.out (Below.drew (Below.refl _ _))) hb
  have hbf : ∀ a b c : Value, Below w.heap.size w (((w'.setCell ⟨w.heap.size + 1, 0, none⟩ a).setCell ⟨w.heap.size + 1, 1, none⟩ b).setCell ⟨w.heap.size + 1, 2, none⟩ c) := fun a b c =>
    Below.setCell (p := ⟨w.heap.size + 1, 2, none⟩) (Below.setCell (p := ⟨w.heap.size + 1, 1, none⟩) (Below.setCell (p := ⟨w.heap.size + 1, 0, none⟩) hbb (by show w.heap.size ≤ w.heap.size + 1; omega) a) (by show w.heap.size ≤ w.heap.size + 1; omega) b) (by show w.heap.size ≤ w.heap.size + 1; omega) c
  have htf : ∀ a b c : Value, Touch (w.heap.size + 1) (w.heap.size + 2) w' (((w'.setCell ⟨w.heap.size + 1, 0, none⟩ a).setCell ⟨w.heap.size + 1, 1, none⟩ b).setCell ⟨w.heap.size + 1, 2, none⟩ c) := fun a b c =>
    ((Touch.setCell (Nat.le_refl _) (by omega)).trans (Touch.setCell (Nat.le_refl _) (by omega))).trans (Touch.setCell (Nat.le_refl _) (by omega))
  have HBF := Lib.hid hbf; have HTF := Lib.hid htf
  clear hbb hbf htf hb
  go_wp2
  try simp only [Exit.inBlock, Exit.then]
  refine bodyPost_ret (v := .tuple #[.agg #[.int .i64 k, .int .i64 c, .slice ad2 m cap2], .bool true]) (by simp [results, Try.results24, go_sem, u3, u4, u5]) rfl ⟨_, _, rfl, Lib.hid ?_, HBF.out _ _ _⟩
  have h1 := RO.out.touch (HTF.out (.int .i64 k) (.int .i64 c) (.slice ad2 m cap2)) (.inr (by omega))
  exact h1.bounds (by omega) (by simp [World.setCell])
end Go.Proofs.Ytmkfcaahdmdpaaa
/- Tapes that are copied by the program. No condition. -/
namespace Go.Proofs.Ytmkfcaahdmdpaaa
open Go Go.RowKit
set_option linter.unusedVariables false
set_option linter.unusedSimpArgs false
/-- operations, each with a mark that tells whether its numbers are the call's own -/
def optR : RecT (OpD × Bool) := ⟨111, 7, fun p => p.1.cells, fun p => if p.2 = true then [floatRow p.1.ad p.1.cap p.1.xs] else [], fun p => p.1.ok, fun _ => rfl⟩
theorem optR_cells (us : List (OpD × Bool)) : us.flatMap optR.cells = (us.map Prod.fst).flatMap opR.cells := by
  induction us with
  | nil => rfl
  | cons a us ih => rw [List.flatMap_cons, ih, List.map_cons, List.flatMap_cons]; rfl
theorem optR_inn (us : List (OpD × Bool)) (h : ∀ p ∈ us, p.2 = true) : us.flatMap optR.inn = (us.map Prod.fst).flatMap opR.inn := by
  induction us with
  | nil => rfl
  | cons a us ih =>
    rw [List.flatMap_cons, ih (fun p hp => h p (List.mem_cons_of_mem _ hp)), List.map_cons, List.flatMap_cons]
    have e : a.2 = true := h a (List.mem_cons_self ..)
    show (if a.2 = true then _ else _) ++ _ = _
    rw [if_pos e]; rfl
theorem optR_none (os : List OpD) : (os.map fun o => (o, false)).flatMap optR.inn = [] := by
  induction os with
  | nil => rfl
  | cons a us ih => rw [List.map_cons, List.flatMap_cons, ih]; rfl
theorem OwnR.ofOpt {w : World} {lo hi n cap : Nat} {ad : Option Addr} {us : List (OpD × Bool)} (h : OwnR optR w lo hi ad n cap us) (ht : ∀ p ∈ us, p.2 = true) : OwnR opR w lo hi ad n cap (us.map Prod.fst) := by
  refine ⟨?_, by rw [List.length_map]; exact h.len, fun o ho => ?_⟩
  · have h0 := h.own
    rw [optR_cells, optR_inn us ht] at h0
    exact h0
  · obtain ⟨p, hp, rfl⟩ := List.mem_map.1 ho
    exact h.ok p hp
/-- no list without a place has room -/
def nilOK (os : List OpD) : Prop := ∀ o ∈ os, o.ad = none → o.cap = 0
theorem OwnR.nilOK {w : World} {lo hi n cap : Nat} {ad : Option Addr} {us : List OpD} (h : OwnR opR w lo hi ad n cap us) : nilOK us := fun o ho =>
  (h.own.repF (List.mem_cons_of_mem _ (List.mem_flatMap.2 ⟨o, ho, List.mem_singleton.2 rfl⟩)) (h.ok o ho).1).nilcap
theorem OwnR.nilcap {α : Type} {R : RecT α} {w : World} {lo hi n cap : Nat} {ad : Option Addr} {us : List α} (h : OwnR R w lo hi ad n cap us) : ad = none → cap = 0 := by
  intro e
  subst e
  rcases h.own.head.own.2 with ⟨h1, _⟩ | ⟨g, cap', cur, h1, _⟩
  · unfold RowD.val at h1
    simp only at h1
    cases h1; rfl
  · unfold RowD.val at h1
    cases h1
theorem opd_cells_one (o : OpD) : ∀ u ∈ o.cells, u.oneCell' = true := by
  intro u hu
  unfold OpD.cells at hu
  simp at hu
  rcases hu with rfl | rfl | rfl | rfl | rfl | rfl | rfl <;> rfl
set_option maxRecDepth 100000 in
theorem slices_CloneO (w : World) (ad : Option Addr) (cap : Nat) (os : List OpD) (h : SeeR opR w ad cap os) (hc : ad = none → cap = 0) (hn : os.length ≤ 1048576) :
    Calls Try.prog 204 #[.slice ad os.length cap] w fun e w' => ∃ ad' cap', e = .returned (.slice ad' os.length cap') ∧ Hid (OwnR optR w' w.heap.size w'.heap.size ad' os.length cap' (os.map fun o => (o, false))) ∧ Below w.heap.size w w' := by
  obtain ⟨i0, hi, hz0, hz1, hz2⟩ := info_parts info_op
  obtain ⟨n, hN⟩ : ∃ n, n = os.length := ⟨_, rfl⟩
  have hr := h.rd
  have h1 : ∀ u ∈ os.flatMap opR.cells, u.oneCell' = true := by
    intro u hu
    obtain ⟨o, _, hu⟩ := List.mem_flatMap.1 hu
    exact opd_cells_one o u hu
  have hl : (os.flatMap opR.cells).length = n * 7 := by rw [flat_len, ← hN]; rfl
  have hfin : ∀ (W : World) (v : Value), w.heap.size ≤ W.heap.size → W.ownsRow w.heap.size 111 7 v n (os.flatMap opR.cells) → ∃ ad' cap', v = .slice ad' n cap' ∧ OwnR optR W w.heap.size W.heap.size ad' n cap' (os.map fun o => (o, false)) := by
    intro W v hs ho
    obtain ⟨ad', cap', rfl, _⟩ := Rd.of_owns ho
    refine ⟨ad', cap', rfl, ?_, by rw [List.length_map, hN], fun p hp => ?_⟩
    · rw [optR_none, optR_cells, List.map_map, show (Prod.fst ∘ fun o : OpD => (o, false)) = id from rfl, List.map_id]
      exact Own.one (Row.mk' ho)
    · obtain ⟨o, ho2, rfl⟩ := List.mem_map.1 hp
      exact h.ok o ho2
  rw [← hN] at hn ⊢
  have HL := Lib.hid hl; have HF := Lib.hid hfin; have H1 := Lib.hid h1; clear hl hfin h1
  cases ad with
  | none =>
    obtain rfl := hc rfl
    have h0 : os = [] := by
      rcases hr with hr | ⟨b, off, hb, _⟩
      · cases os with
        | nil => rfl
        | cons a os => rw [List.flatMap_cons] at hr; cases hr
      · cases hb
    subst h0
    obtain rfl : n = 0 := hN
    have he : ∀ w : World, (binOp .eql 73 (.slice none 0 0) (.slice none 0 0)).run Try.prog w = .ok (.bool true) w := fun _ => rfl
    go_enter Try.func204, Try.ntmps204
    go_wp2
    go_ret
    exact ⟨none, 0, rfl, Lib.hid ⟨Own.one (Row.mk' (World.ownsRow_nil _ _ _ _)), rfl, fun a ha => (nomatch ha)⟩, Below.refl _ _⟩
  | some p =>
    clear h hN
    have he : ∀ w : World, (binOp .eql 73 (.slice (some p) n cap) (.slice none 0 0)).run Try.prog w = .ok (.bool false) w := fun _ => rfl
    have hsee : ∀ (W : World), Below w.heap.size w W → ∀ (j : Nat) (u : Value), (os.flatMap opR.cells)[j]? = some u → W.cell? (p.add j) = some u := by
      intro W hb j u hj
      rcases (hr.below hb (Nat.le_refl _)) with hr | ⟨b, off, hb2, _, hcc⟩
      · rw [hr] at hj; cases hj
      · cases hb2
        rw [Addr.add_lit]; exact (hcc j (List.getElem?_eq_some_iff.1 hj).1).trans hj
    have HS := Lib.hid hsee; clear hsee hr hc
    go_enter Try.func204, Try.ntmps204
    go_wp2_with (at_builtin; refine wpList_append_own _ rfl _ _ 73 rfl w.heap.size 111 i0 (.agg #[.int .i64 0, .int .i64 0, .int .i64 0, .float .f32 0, .int .i64 0, .int .i64 0, .slice none 0 0]) 7 72 Try.underlying73 hi hz0 hz1 hz2 rfl (by decide) _ 0 [] rfl (World.ownsRow_made _ _ _ (Nat.le_refl _) (Nat.zero_le _) rfl) p n cap _ rfl HL.out (HS.out _ (below1 _ _)) H1.out ?c3 ?c4 ?c5 ?_)
    case c3 => unfold maxLen; omega
    case c4 => omega
    case c5 => simp
    intro v' w9 hown1 hg1 _
    have hb1 : Below w.heap.size w w9 := (below1 _ _).grown hg1 (by simp) (fun j hj => by cases hj; exact Nat.le_refl _)
    have hown2 : w9.ownsRow w.heap.size 111 7 v' n (os.flatMap opR.cells) := by simpa using hown1
    obtain ⟨ad', cap', rfl, hown3⟩ := HF.out w9 v' hb1.size hown2
    have HO := Lib.hid hown3; have HB := Lib.hid hb1
    clear hown1 hown2 hown3 hg1 hb1 HF HS H1
    go_wp2
    go_ret
    exact ⟨_, _, rfl, HO, HB.out⟩
set_option maxHeartbeats 2000000 in
theorem impl_copyTensor (w : World) (r c : Int) (ad : Option Addr) (cap : Nat) (xs : List Nat) (h : F32s w ad cap xs) (hc : ad = none → cap = 0) (hn : xs.length ≤ 1048576) :
    Calls Try.prog 152 #[.agg #[.int .i64 r, .int .i64 c, .slice ad xs.length cap]] w fun e w' => ∃ ad' cap', e = .returned (.agg #[.int .i64 r, .int .i64 c, .slice ad' xs.length cap']) ∧ Hid (RepF w' w.heap.size w'.heap.size ad' xs.length cap' xs) ∧ Below w.heap.size w w' := by
  have b2 := below2 w (.cells #[.int .i64 r, .int .i64 c, .slice ad xs.length cap] 27) (.cells #[.int .i64 0, .int .i64 0, .slice none 0 0] 27)
  have K := Lib.hid (slices_CloneF _ ad cap xs (h.below b2) hc hn)
  have XB := Lib.hid ((BoxN.alloc w #[.int .i64 r, .int .i64 c, .slice ad xs.length cap] 27).below (below1 _ (.cells #[.int .i64 0, .int .i64 0, .slice none 0 0] 27)))
  have RB := Lib.hid (BoxN.alloc2 w (.cells #[.int .i64 r, .int .i64 c, .slice ad xs.length cap] 27) #[.int .i64 0, .int .i64 0, .slice none 0 0] 27)
  have B := Lib.hid b2
  obtain ⟨n, hN⟩ : ∃ n, n = xs.length := ⟨_, rfl⟩
  rw [← hN] at K XB RB B ⊢
  clear b2 h hN hn hc
  go_enter Try.func152, Try.ntmps152
  go_wp2_with fail
  refine K.out.mono ?_
  rintro e w' ⟨a', c', rfl, HR, hb⟩
  obtain ⟨-, x0, x1, x2, xf⟩ := (XB.out.below hb).three
  obtain ⟨-, r0, r1, r2, rf⟩ := (RB.out.below hb).three
  have HB := Lib.hid (bthen B.out hb)
  have hz := hb.size
  simp at hz
  clear hb
  go_wp2
  refine bodyPost_ret (v := .agg #[.int .i64 r, .int .i64 c, .slice a' n c']) (by simp [results, Try.results152, go_sem, r0, r1, r2, x0, x1, x2]) rfl ⟨_, _, rfl, Lib.hid ?_, ?_⟩
  · have h1 := setCs_repF (g := w.heap.size) (lo' := w.heap.size + 2) (i := 2) HR.out (by simp; omega) (by simp) (Nat.le_refl _) [.slice a' n c']
    have h2 := setCs_repF (g := w.heap.size + 1) (lo' := w.heap.size) (i := 0) h1 (by omega) (by omega) (Nat.le_refl _) [.int .i64 r, .int .i64 c, .slice a' n c']
    exact h2
  · exact setCs_below (setCs_below HB.out (g := w.heap.size) (by omega) 2 [.slice a' n c']) (g := w.heap.size + 1) (by omega) 0 [.int .i64 r, .int .i64 c, .slice a' n c']
theorem setL_same {vs : List Value} {i : Nat} {cs : List Value} (h : ∀ j, j < cs.length → vs[i + j]? = cs[j]?) : setL vs i cs = vs := by
  induction cs generalizing i with
  | nil => rfl
  | cons c cs ih =>
    have h0 := h 0 (by simp)
    show setL (vs.set i c) (i + 1) cs = vs
    rw [set_same (by simpa using h0)]
    refine ih fun j hj => ?_
    have h1 := h (j + 1) (by simpa using hj)
    rw [show i + 1 + j = i + (j + 1) by omega, h1]; rfl
theorem RecT.tail {α : Type} (R : RecT α) {us : List α} {k : Nat} {p a : α} (hk : us[k]? = some p) (pre post : List Value) (ha : R.cells a = pre ++ post) (hp : ∀ j, j < pre.length → (R.cells p)[j]? = pre[j]?) :
    setL (us.flatMap R.cells) (k * R.size) (R.cells a) = setL (us.flatMap R.cells) (k * R.size + pre.length) post := by
  have hl := congrArg List.length ha
  rw [R.len, List.length_append] at hl
  have hs : setL (us.flatMap R.cells) (k * R.size) pre = us.flatMap R.cells := setL_same fun j hj => by
    rw [flat_at R us hk (by omega), hp j hj]
  rw [ha, setL_append, hs]
theorem opt_spot {w : World} {lo hi n cap : Nat} {ad : Option Addr} {us : List (OpD × Bool)} (h : OwnR optR w lo hi ad n cap us) {k : Nat} {p : OpD × Bool} (hk : us[k]? = some p) : ∃ g, ad = some ⟨g, 0, none⟩ ∧ (lo ≤ g ∧ g < hi ∧ g < w.heap.size) ∧
    (w.cell? ⟨g, k * 7 + 4, none⟩ = some (.int .i64 p.1.r) ∧ w.cell? ⟨g, k * 7 + 4 + 1, none⟩ = some (.int .i64 p.1.c) ∧ w.cell? ⟨g, k * 7 + 4 + 2, none⟩ = some (.slice p.1.ad p.1.xs.length p.1.cap)) ∧ (∀ j, w.frozen? ⟨g, j, none⟩ = false) := by
  obtain ⟨g, e, hr, hc, hf⟩ := h.spot hk (by decide)
  exact ⟨g, e, hr, ⟨hc 4 (by decide), hc 5 (by decide), hc 6 (by decide)⟩, hf⟩
/-- copied up to k -/
structure CopR (os : List OpD) (us : List (OpD × Bool)) (k : Nat) : Prop where
  eq : us.map (fun p => p.1.toOpP) = os.map OpD.toOpP
  rest : ∀ j, k ≤ j → us[j]? = os[j]?.map fun o => (o, false)
  own : ∀ j p, j < k → us[j]? = some p → p.2 = true
theorem CopR.start (os : List OpD) : CopR os (os.map fun o => (o, false)) 0 := ⟨by rw [List.map_map]; rfl, fun j _ => by rw [List.getElem?_map], fun j p hj => by omega⟩
theorem CopR.next {os : List OpD} {us : List (OpD × Bool)} {k : Nat} (h : CopR os us k) {o : OpD} (ho : os[k]? = some o) {o' : OpD} (he : o'.toOpP = o.toOpP) : CopR os (us.set k (o', true)) (k + 1) := by
  have hu : us[k]? = some (o, false) := by rw [h.rest k (Nat.le_refl _), ho]; rfl
  refine ⟨?_, fun j hj => ?_, fun j p hj hp => ?_⟩
  · rw [← h.eq]
    rw [List.map_set]
    refine set_same ?_
    rw [List.getElem?_map, hu]
    show some o.toOpP = some o'.toOpP
    rw [he]
  · rw [List.getElem?_set_ne (by omega), h.rest j (by omega)]
  · by_cases e : j = k
    · subst e
      rw [List.getElem?_set_self (List.getElem?_eq_some_iff.1 hu).1] at hp
      cases hp; rfl
    · rw [List.getElem?_set_ne (by omega)] at hp
      exact h.own j p (by omega) hp
set_option maxHeartbeats 4000000 in
set_option maxRecDepth 100000 in
theorem impl_copyTape (w : World) (ad : Option Addr) (cap : Nat) (os : List OpD) (h : SeeR opR w ad cap os) (hc : ad = none → cap = 0) (hno : nilOK os) (hn : os.length ≤ 1048576) (hi2 : ∀ o ∈ os, o.xs.length ≤ 1048576) :
    Calls Try.prog 151 #[.slice ad os.length cap] w fun e w' => ∃ ad' cap' us, e = .returned (.slice ad' os.length cap') ∧ Hid (OwnR opR w' w.heap.size w'.heap.size ad' os.length cap' us ∧ us.map OpD.toOpP = os.map OpD.toOpP) ∧ Below w.heap.size w w' := by
  have KC := Lib.hid (slices_CloneO w ad cap os h hc hn)
  obtain ⟨n, hN⟩ : ∃ n, n = os.length := ⟨_, rfl⟩
  rw [← hN] at hn KC ⊢
  have HN := Lib.hid hN; have HI2 := Lib.hid hi2; have H := Lib.hid h; have HNO := Lib.hid hno; clear hN hi2 h hno hc
  go_enter Try.func151, Try.ntmps151
  go_wp2_with fail
  refine KC.out.mono ?_
  rintro e w1 ⟨ad', cap', rfl, HR, hb1⟩
  have HB1 := Lib.hid hb1; clear hb1 KC
  go_wp2
  go_loopw [9] (fun i wt => ∃ k : Nat, i = .int .i64 k ∧ k ≤ n ∧ ∃ us : List (OpD × Bool), Hid (OwnR optR wt w.heap.size wt.heap.size ad' n cap' us) ∧ Hid (CopR os us k) ∧ Hid (Below w.heap.size w wt)) (fun i _ => n - (intOf i).toNat)
  case atStart => exact ⟨0, rfl, Nat.zero_le _, _, HR, Lib.hid (CopR.start os), HB1⟩
  case round =>
    clear HB1 HR
    obtain ⟨k, rfl, hk, us, HR, HC, HB⟩ := hrel
    by_cases hlt : k < n
    · obtain ⟨o, ho⟩ := getElem?_lt (show k < os.length by rw [← HN.out]; exact hlt)
      have hu : us[k]? = some (o, false) := by rw [HC.out.rest k (Nat.le_refl _), ho]; rfl
      have hm := List.mem_of_getElem? ho
      obtain ⟨-, -, -, -, -, hf, hok⟩ := op_spot (H.out.below HB.out) ho
      obtain ⟨g, rfl, hgr, ⟨p4, p5, p6⟩, hfz⟩ := opt_spot HR.out hu
      simp only at p4 p5 p6
      have K := Lib.hid (fun W hW => impl_copyTensor W o.r o.c o.ad o.cap o.xs hW (HNO.out o hm) (HI2.out o hm))
      have HF := Lib.hid hf; have HO := Lib.hid ho; have HK := Lib.hid hok; have HU := Lib.hid hu
      obtain ⟨m, hM⟩ : ∃ m, m = o.xs.length := ⟨_, rfl⟩
      rw [← hM] at K p6
      have HM := Lib.hid hM
      clear hM hf ho hok hu hm
      go_wp2_with fail
      refine (K.out _ HF.out).mono ?_
      rintro e w2 ⟨a2, c2, rfl, hr, hb2⟩
      obtain ⟨g', eg, hgr2, ⟨q4, q5, q6⟩, hfz2⟩ := opt_spot (HR.out.below hb2) HU.out
      cases eg
      have hs2 := hb2.size
      have hbs := HB.out.size
      have hr2 := hr.out
      rw [HM.out] at hr2
      have htl := RecT.tail optR HU.out (a := (⟨o.toOpP, a2, c2⟩, true)) [.int .i64 o.k, .int .i64 o.a, .int .i64 o.b, .float .f32 o.num] [.int .i64 o.r, .int .i64 o.c, .slice a2 o.xs.length c2] rfl (fun j hj => by
        rcases (by simp at hj; omega : j = 0 ∨ j = 1 ∨ j = 2 ∨ j = 3) with rfl | rfl | rfl | rfl <;> rfl)
      have hnew := OwnR.setNew (w2 := setCs w2 g (k * 7 + 4) [.int .i64 o.r, .int .i64 o.c, .slice a2 o.xs.length c2]) HR.out hbs hb2 hlt (a := (⟨o.toOpP, a2, c2⟩, true)) HK.out (hr2.ownRow) hs2 (fun M hM => by
        rw [htl]
        exact setCs_own hM (k * 7 + 4) _)
      have hbb := setCs_below (HB.out.trans (hb2.mono hbs)) hgr.1 (k * 7 + 4) [.int .i64 o.r, .int .i64 o.c, .slice a2 o.xs.length c2]
      rw [← HM.out] at hnew hbb
      have HW := Lib.hid hnew; have HBB := Lib.hid hbb; have HCC := Lib.hid (HC.out.next HO.out (o' := ⟨o.toOpP, a2, c2⟩) rfl)
      clear hnew hbb htl hr hr2 hb2 HU K HF HK hgr hgr2 hbs HC HR HB p4 p5 p6 HO HM
      go_wp2
      go_roundw
      case rel => exact ⟨k + 1, by go_num, hlt, _, Lib.hid (HW.out.bounds (Nat.le_refl _) (by simp [World.setCell])), HCC, HBB⟩
      case measure => simp [intOf]; omega
    · have hkn : k = n := by omega
      subst hkn
      have hall : ∀ p ∈ us, p.2 = true := fun p hp => by
        obtain ⟨j, hj, e⟩ := List.getElem_of_mem hp
        exact HC.out.own j p (by rw [← HR.out.len]; exact hj) (by rw [List.getElem?_eq_getElem hj, e])
      have HA := Lib.hid (And.intro (HR.out.ofOpt hall) (show (us.map Prod.fst).map OpD.toOpP = os.map OpD.toOpP by rw [List.map_map]; exact HC.out.eq))
      clear hall
      go_wp2
      go_ret
      exact ⟨_, _, _, rfl, HA, HB.out⟩
end Go.Proofs.Ytmkfcaahdmdpaaa
/- A region whose order is open, whose operations read old memory and make calls that leave the old memory: one walk in the order of the text serves every order. No condition. -/
namespace Go.Proofs.Ytmkfcaahdmdpaaa
open Go Go.RowKit
set_option linter.unusedVariables false
section
variable {P : Program} {ops : Array Oper} {C : World → Prop} {VC : FuncId → Array Value → Value → Prop} {Q : Act → Prop} {o : Oper} {rest : List Oper} {a : Act}
/-- what is asked of one operation in a world of the class: every value that it gives leads on -/
@[go_sem] def UponC (P : Program) (VC : FuncId → Array Value → Value → Prop) (C : World → Prop) (K : Value → Prop) : Result Next → Prop
  | .ok (.value v) w' => C w' ∧ K v
  | .ok .skip w' => C w' ∧ K undef
  | .ok (.enter f args) w' => C w' ∧ (Calls P f args w' fun e w'' => ∃ v, e = .returned v ∧ C w'' ∧ VC f args v) ∧ ∀ v, VC f args v → K v
  | _ => False
theorem cset_step {w0 : World} (h0 : C w0) (h : ∀ K : Act → Prop, (∀ a, WSet P ops C VC Q rest a → K a) → ∀ W : World, C W → if Region.wanted o (yielded ops a.tmps) then UponC P VC C (fun v => K (a.put o.dst v)) ((execOp a.eval o).run P W) else K (a.put o.dst undef)) :
    WSet P ops C VC Q (o :: rest) a := by
  have h := h _ (fun _ h => h)
  refine ⟨fun hw w' hC => ?_, fun v hv => ?_⟩
  · have := h w' hC
    rw [if_pos hw] at this
    revert this
    generalize (execOp a.eval o).run P w' = r
    intro this
    unfold UponC at this
    unfold FineRes
    split at this
    · exact this.1
    · exact this.1
    · exact ⟨this.1, this.2.1⟩
    · cases this
  · rcases hv with ⟨hw, w1, w2, hC, hv⟩ | ⟨hw, rfl⟩
    · have := h w1 hC
      rw [if_pos hw] at this
      unfold UponC at this
      rcases hv with hv | ⟨hv, rfl⟩ | ⟨f, args, hv, hvc⟩
      · rw [hv] at this; exact this.2
      · rw [hv] at this; exact this.2
      · rw [hv] at this; exact this.2.2 v hvc
    · have := h w0 h0
      rwa [if_neg (by rw [hw]; exact Bool.false_ne_true)] at this
theorem cset_nil (hq : Q a) : WSet P ops C VC Q [] a := hq
/-- what two functions give -/
def VC2 (fa : FuncId) (va : Value) (fb : FuncId) (vb : Value) (f : FuncId) (args : Array Value) (u : Value) : Prop := (f = fa → u = va) ∧ (f = fb → u = vb)
theorem VC2.one {fa fb : FuncId} {va vb : Value} {args : Array Value} (h : fa ≠ fb) : VC2 fa va fb vb fa args va := ⟨fun _ => rfl, fun e => absurd e h⟩
theorem VC2.two {fa fb : FuncId} {va vb : Value} {args : Array Value} (h : fb ≠ fa) : VC2 fa va fb vb fb args vb := ⟨fun e => absurd e h, fun _ => rfl⟩
def VC1 (va : Value) (f : FuncId) (args : Array Value) (u : Value) : Prop := u = va
/-- a world in which all old memory is as it was -/
def Low (w W : World) : Prop := Below w.heap.size w W
@[go_sem] theorem low_drawn {w W : World} (h : Low w W) (n : Nat) : Low w (W.drewN n) = True := by
  exact eq_true (below_drewN h n)
theorem low_self (w : World) : Low w w := Below.refl _ _
theorem low_drew1 (w : World) : Low w { w with drawn := w.drawn + 1 } := Below.drew (Below.refl _ _)
/-- **the region, by the walk in the order of the text, in worlds in which the old memory is as it was** -/
theorem wp_region_low {id : Nat} {Q : Exit → Act → World → Prop} {a : Act} {w : World} {l : List Oper} (VC : FuncId → Array Value → Value → Prop) (hm : P.follows .mixedOrders = true) (hB : Region.lexB .any l.toArray = true)
    (h : WSet P l.toArray (Low w) VC (fun a' => ∀ w', Low w w' → Q .normal a' w') l a) : (Code.region id l.toArray true).wp P Q a w :=
  wp_region_set (Low w) VC hm hB (low_drew1 w) h
end
end Go.Proofs.Ytmkfcaahdmdpaaa
