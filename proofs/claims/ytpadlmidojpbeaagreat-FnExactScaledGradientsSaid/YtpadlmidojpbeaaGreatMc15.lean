/- Joined texts 15: Tv3. Each is told at its own head. No condition. -/
import Derived.Deep.CutBlock
import Derived.Test.YtpadlmidojpbeaaGreatMc2
import Derived.Test.YtpadlmidojpbeaaGreatMc6
import Derived.Test.YtpadlmidojpbeaaGreatMc7
import Derived.Test.YtpadlmidojpbeaaGreatMc14
set_option linter.unusedVariables false
set_option linter.unusedSimpArgs false
/- x -/
namespace Go.Proofs.YtpadlmidojpbeaaGreat
open Go Go.RowKit
theorem BoxN.setAll {w : World} {g : Nat} {a b c x y z : Value} (h : BoxN w g [a, b, c]) : BoxN (setCs w g 0 [x, y, z]) g [x, y, z] := ((h.set 0 x).set 1 y).set 2 z
def LaidT (T : TenP) (tl g : Nat) (w0 wr wx : World) : Prop := ∃ ad cap zs, BoxN wx g [.int .i64 T.r, .int .i64 T.c, .slice ad tl cap] ∧ RepF wx w0.heap.size wx.heap.size ad tl cap zs ∧ zs.map (cn .f32) = T.xs ∧ Below wr.heap.size wr wx
theorem LaidT.of {T : TenP} {tl g : Nat} {w0 wr w' : World} {a b c : Value} {va : Option Addr} {vc : Nat} {zs : List Nat} (hr : RepF w' w0.heap.size w'.heap.size va tl vc zs) (hm : zs.map (cn .f32) = T.xs) (hx : BoxN w' g [a, b, c]) (hb : Below wr.heap.size wr w') (hg : wr.heap.size ≤ g) (hg2 : g < w0.heap.size) :
    LaidT T tl g w0 wr (setCs w' g 0 [.int .i64 T.r, .int .i64 T.c, .slice va tl vc]) :=
  ⟨va, vc, zs, hx.setAll, setCs_repF hr hg2 (Nat.le_refl _) (Nat.le_refl _) 0 _, hm, setCs_below hb hg 0 _⟩
set_option maxHeartbeats 64000000 in
set_option maxRecDepth 100000 in
theorem spec_l04Run (w : World) (ad : Option Addr) (cap : Nat) (os : List OpD) (h : SeeR opR w ad cap os) (hno : nilOK os) (S : List Sh) (hS : shapesP (os.map OpD.toOpP) = some S) (hi2 : ∀ o ∈ os, o.xs.length ≤ 1048576) :
    Calls Tryz.prog 84 #[.slice ad os.length cap] w fun e w' => ∃ ad' cap' us, e = .returned (.slice ad' os.length cap') ∧ Hid (OwnR tenR w' w.heap.size w'.heap.size ad' os.length cap' us ∧ us.map (fun t => t.toTenP.can) = valsP (os.map OpD.toOpP)) ∧ Below w.heap.size w w' := by
  obtain ⟨i0, hi0, hz0, hzs, hz2⟩ := info_parts info_ten
  have hp := shapesP_some hS
  rw [List.length_map] at hp
  obtain ⟨n, hN⟩ : ∃ n, n = os.length := ⟨_, rfl⟩
  rw [← hN] at hp ⊢
  have hn1 := hp.1.1; have hn2 := hp.1.2
  have HN := Lib.hid hN; have HI2 := Lib.hid hi2; have H := Lib.hid h; have HNO := Lib.hid hno; have HS := Lib.hid hS
  clear hN hi2 h hno hS hp
  go_enter Tryz.func84, Tryz.ntmps84
  go_wp2
  go_loopw [3, 4] (fun v i wt => ∃ k : Nat, i = .int .i64 k ∧ k ≤ n ∧ ∃ (ad' : Option Addr) (cap' : Nat) (us : List Ten), v = .slice ad' k cap' ∧ Hid (OwnR tenR wt w.heap.size wt.heap.size ad' k cap' us) ∧ Hid (us.map (fun t => t.toTenP.can) = valsN (os.map OpD.toOpP) k) ∧ Hid (Below w.heap.size w wt)) (fun _ i _ => n - (intOf i).toNat)
  case atStart => exact ⟨0, rfl, Nat.zero_le _, _, _, [], rfl, Lib.hid (OwnR.nil1 tenR w), Lib.hid rfl, Lib.hid (below1 _ _)⟩
  case round =>
    obtain ⟨k, rfl, hk, ad', cap', us, rfl, HR, HE, HB⟩ := hrel
    by_cases hlt : k < n
    · obtain ⟨o, ho⟩ := getElem?_lt (show k < os.length by rw [← HN.out]; exact hlt)
      have hop : (os.map OpD.toOpP)[k]? = some o.toOpP := by rw [List.getElem?_map, ho]; rfl
      obtain ⟨vl, vok, vf, vs⟩ := valid_round HS.out hop
      obtain ⟨b, off, rfl, hbl, ⟨p0, p1, p2, p3, p4, p5, p6⟩, hf, hok⟩ := op_spot (H.out.below HB.out) ho
      have hm := List.mem_of_getElem? ho
      have hul : us.length = k := HR.out.len
      have HST : Hid (valsN (os.map OpD.toOpP) (k + 1) = valsN (os.map OpD.toOpP) k ++ [stepV (valsN (os.map OpD.toOpP) k) o.toOpP]) := Lib.hid (valsN_succ hop)
      have hTok : okT (stepV (valsN (os.map OpD.toOpP) k) o.toOpP) := by
        by_cases h0 : o.k = 0
        · have e : stepV (valsN (os.map OpD.toOpP) k) o.toOpP = ⟨o.r, o.c, o.xs.map (cn .f32)⟩ := by unfold stepV; rw [if_pos h0]
          rw [e]
          have ht := tenB_iff.1 (fitsB_input vf h0).2.2
          refine ⟨ht.1.1, ht.1.2, ht.2.1.1, ht.2.1.2, ?_⟩
          show (o.xs.map (cn .f32)).length = o.r.toNat * o.c.toNat
          rw [List.length_map]
          have h4 := ht.2.2
          have h5 : ((o.r.toNat * o.c.toNat : Nat) : Int) = o.r * o.c := by
            have := ht.1.1; have := ht.2.1.1
            rw [Int.natCast_mul, Int.toNat_of_nonneg (by omega), Int.toNat_of_nonneg (by omega)]
          have h6 : (o.xs.length : Int) = o.r * o.c := h4
          omega
        · obtain ⟨s, hs⟩ := vs h0
          have hk10 := fitsB_in vf
          have ha := fitsB_args vf h0
          have mem : ∀ i : Int, 0 ≤ i → i ≤ k - 1 → okT (vGet (valsN (os.map OpD.toOpP) k) i) := fun i h0 h1 => by
            have hi : i.toNat < (valsN (os.map OpD.toOpP) k).length := by omega
            have e1 : vGet (valsN (os.map OpD.toOpP) k) i = (valsN (os.map OpD.toOpP) k)[i.toNat] := by unfold vGet; rw [List.getD_eq_getElem?_getD, List.getElem?_eq_getElem hi]; rfl
            rw [e1]; exact vok _ (List.getElem_mem hi)
          have e : stepV (valsN (os.map OpD.toOpP) k) o.toOpP = valV o.k (vGet (valsN (os.map OpD.toOpP) k) o.a) (vGet (valsN (os.map OpD.toOpP) k) o.b) (cn .f32 o.num) := by unfold stepV; rw [if_neg h0]
          rw [e]
          exact (valV_ok (k := o.k) (by omega) (mem o.a ha.1.1 ha.1.2) (mem o.b ha.2.1.1 ha.2.1.2) hs).2
      obtain ⟨T, hT⟩ : ∃ T, T = stepV (valsN (os.map OpD.toOpP) k) o.toOpP := ⟨_, rfl⟩
      rw [← hT] at HST hTok
      have HTP : Hid (T.xs.length ≤ 256 ∧ 1 ≤ T.xs.length) := Lib.hid ⟨hTok.le, hTok.pos⟩
      obtain ⟨tl, htl⟩ : ∃ tl, tl = T.xs.length := ⟨_, rfl⟩
      rw [← htl] at HTP
      have HTL := Lib.hid htl
      have HRW := Lib.hid (fun W hb => ts_row HR.out (W := W) hb)
      -- the end of a round, wherever the tensor lies in its box
      have KF : Hid (∀ (w0 wx W9 : World) (ad2 : Option Addr) (cap2 : Nat) (zs : List Nat) (v' : Value), wr.heap.size ≤ w0.heap.size → RepF wx w0.heap.size wx.heap.size ad2 tl cap2 zs → zs.map (cn .f32) = T.xs → Below wr.heap.size wr wx → W9.ownsRow w.heap.size 37 3 v' (k + 1) (us.flatMap tenR.cells ++ [.int .i64 T.r, .int .i64 T.c, .slice ad2 tl cap2]) → (∃ o, (wx.alloc o).grownBy W9 (Value.slice ad' k cap').ownBlock) → (v'.ownBlock = (Value.slice ad' k cap').ownBlock ∨ v'.ownBlock = some (wx.heap.size + 1)) → ∃ ad9 cap9 us9, v' = .slice ad9 (k + 1) cap9 ∧ OwnR tenR W9 w.heap.size W9.heap.size ad9 (k + 1) cap9 us9 ∧ us9.map (fun t => t.toTenP.can) = valsN (os.map OpD.toOpP) (k + 1)) := Lib.hid (by
        intro w0 wx W9 ad2 cap2 zs v' h0 hr hzz hb ho hg hat
        obtain ⟨oo, hg⟩ := hg
        have hzl := hr.len
        obtain ⟨ad9, cap9, rfl, hown9⟩ := ts_snoc (s := ⟨⟨T.r, T.c, zs⟩, ad2, cap2⟩) HR.out HB.out.size hb (hi1 := wx.heap.size) (by show RepF wx wr.heap.size wx.heap.size ad2 zs.length cap2 zs; rw [hzl]; exact hr.bounds h0 (Nat.le_refl _)) (Nat.le_refl _) hb.size (by show W9.ownsRow _ _ _ _ _ (_ ++ [Value.int .i64 T.r, .int .i64 T.c, .slice ad2 zs.length cap2]); rw [hzl]; exact ho) hg hat
        refine ⟨ad9, cap9, _, rfl, hown9, ?_⟩
        rw [List.map_append, HE.out, HST.out]
        congr 1
        show [TenP.can ⟨T.r, T.c, zs⟩] = [T]
        unfold TenP.can
        rw [hzz])
      have OB := Lib.hid (show BoxN (wr.alloc (.cells o.cells.toArray 74)) wr.heap.size o.cells from BoxN.alloc wr o.cells.toArray 74)
      by_cases h0 : o.k = 0
      · as_aux_lemma =>
          have e : T = ⟨o.r, o.c, o.xs.map (cn .f32)⟩ := by rw [hT]; unfold stepV; rw [if_pos h0]
          have ht := tenB_iff.1 (fitsB_input vf h0).2.2
          have htlx : tl = o.xs.length := by rw [htl, e]; show (o.xs.map (cn .f32)).length = _; rw [List.length_map]
          obtain ⟨⟨kk, a, b', q, r, c, xs⟩, adx, capx⟩ := o
          replace h0 : kk = 0 := h0
          subst h0
          replace htlx : tl = xs.length := htlx
          unfold OpD.cells at OB
          simp only at p0 p1 p2 p3 p4 p5 p6 OB hf e
          replace ht : (1 ≤ r ∧ r ≤ 16) ∧ (1 ≤ c ∧ c ≤ 16) ∧ (xs.length : Int) = r * c := ht
          obtain ⟨R, rfl⟩ : ∃ R : Nat, r = R := ⟨r.toNat, by omega⟩
          obtain ⟨C, rfl⟩ : ∃ C : Nat, c = C := ⟨c.toNat, by omega⟩
          have hrc : xs.length = R * C := by have := ht.2.2; rw [← Int.natCast_mul] at this; omega
          have hTr : T.r = R := by rw [e]
          have hTc : T.c = C := by rw [e]
          have hTx : T.xs = xs.map (cn .f32) := by rw [e]
          rw [← htlx] at p6 OB
          have XB := Lib.hid (OB.out.below (below1 _ (.cells #[.int .i64 0, .int .i64 0, .slice none 0 0] 37)))
          have TB := Lib.hid (BoxN.alloc2 wr (.cells #[.int .i64 0, .int .i64 a, .int .i64 b', .float .f32 q, .int .i64 R, .int .i64 C, .slice adx tl capx] 74) #[.int .i64 0, .int .i64 0, .slice none 0 0] 37)
          have b2 := below2 wr (.cells #[.int .i64 0, .int .i64 a, .int .i64 b', .float .f32 q, .int .i64 R, .int .i64 C, .slice adx tl capx] 74) (.cells #[.int .i64 0, .int .i64 0, .slice none 0 0] 37)
          have htp := HTP.out
          have hRC : R ≤ 256 ∧ C ≤ 256 ∧ 1 ≤ R ∧ 1 ≤ C := by omega
          have K := Lib.hid (spec_l02Slice ((wr.alloc (.cells #[.int .i64 0, .int .i64 a, .int .i64 b', .float .f32 q, .int .i64 R, .int .i64 C, .slice adx tl capx] 74)).alloc (.cells #[.int .i64 0, .int .i64 0, .slice none 0 0] 37)) wr.heap.size 4 R C adx capx tl xs XB.out.seven.2.2.2.2.2.2.1 XB.out.seven.2.2.2.2.2.2.2.1 (hf.below b2) htlx.symm htp.1 0 R hRC.2.2.1 hRC.2.2.2 (by decide) hRC.2.1 (by rw [Nat.zero_add, ← hrc, htlx]; exact Nat.le_refl _))
          rw [Nat.zero_mul, List.drop_zero, ← hrc, ← htlx, htlx, List.take_length, ← htlx] at K
          have hz00 : ((0 : Nat) : Int) = 0 := rfl
          rw [hz00] at K
          clear hz00
          have B2 := Lib.hid b2
          have HTX := Lib.hid hTx; have HTR := Lib.hid (And.intro hTr hTc)
          have htp1 := htp.1
          clear b2 hf hok hm hul vl vok vf vs e ht htlx hrc hTr hTc hTx htp hRC OB hT htl hTok hop ho
          obtain ⟨-, x0, x1, x2, x3, x4, x5, x6, xf⟩ := XB.out.seven
          go_wp2_with fail
          refine K.out.mono ?_
          rintro e w2 ⟨va, vc, zs, rfl, RO, RM, hb2⟩
          obtain ⟨tbl, y0, y1, y2, yf⟩ := (TB.out.below hb2).three
          have HB2 := Lib.hid (bthen B2.out hb2)
          have TB2 := Lib.hid (TB.out.below hb2)
          have hz2' := hb2.size
          simp at hz2'
          have hla := LaidT.of (T := T) (tl := tl) (g := wr.heap.size + 1) (w0 := (wr.alloc (.cells #[.int .i64 0, .int .i64 a, .int .i64 b', .float .f32 q, .int .i64 R, .int .i64 C, .slice adx tl capx] 74)).alloc (.cells #[.int .i64 0, .int .i64 0, .slice none 0 0] 37)) (wr := wr) RO.out (by rw [RM.out, HTX.out]) TB2.out HB2.out (by omega) (by simp)
          rw [HTR.out.1, HTR.out.2] at hla
          obtain ⟨ad2, cap2, zs2, hbx, hr2, hz2m, hbb⟩ := hla
          have hfrom := hbx.three.2.2.2.1
          have HLA := Lib.hid (And.intro (show RepF (setCs w2 (wr.heap.size + 1) 0 [.int .i64 R, .int .i64 C, .slice va tl vc]) _ _ _ _ _ zs from setCs_repF RO.out (by simp) (Nat.le_refl _) (Nat.le_refl _) 0 _) (And.intro (show zs.map (cn .f32) = T.xs by rw [RM.out, HTX.out]) hbb))
          clear hb2 hbx hr2 hz2m hbb hfrom x0 x1 x2 x3 x4 x5 x6 xf K TB XB B2 p0 p1 p2 p3 p4 p5 p6
          go_wp2_with (at_builtin; refine wp_appA rfl _ _ 109 rfl w.heap.size i0 (.agg #[.int .i64 0, .int .i64 0, .slice none 0 0]) 3 40 Tryz.underlying109 hi0 hz0 hzs hz2 rfl (by decide) rfl (by intro u hu; simp at hu; rcases hu with rfl | rfl | rfl <;> rfl) _ _ _ rfl (HRW.out _ HLA.out.2.2) (by go_simp) ?c3 ?c4 ?c5 ?_)
          case c3 => unfold maxLen; omega
          case c4 => omega
          case c5 => exact Nat.le_trans HB.out.size HLA.out.2.2.size
          intro v' w9 ho9 hg9 hat9 hb9 hs9
          obtain ⟨ad9, cap9, us9, rfl, hown9, hm9⟩ := KF.out _ _ w9 va vc zs v' (by simp; omega) HLA.out.1 HLA.out.2.1 HLA.out.2.2 (by rw [HTR.out.1, HTR.out.2]; exact ho9) ⟨_, hg9⟩ (by rw [setCs_size]; simpa [World.setCell] using hat9)
          have HO9 := Lib.hid hown9; have HB9 := Lib.hid ((HB.out.trans (HLA.out.2.2.mono HB.out.size)).trans hb9); have HE9 := Lib.hid hm9
          clear ho9 hg9 hat9 hb9 hown9 hm9 HR HE HB HB2 HRW HLA KF TB2 RO RM
          go_wp2
          refine ⟨?rel, ?measure⟩
          case rel => exact ⟨k + 1, by go_num, hlt, _, _, _, rfl, HO9, HE9, HB9⟩
          case measure => simp [intOf]; omega
      have hst : T = valV o.k (vGet (valsN (os.map OpD.toOpP) k) o.a) (vGet (valsN (os.map OpD.toOpP) k) o.b) (cn .f32 o.num) := by rw [hT]; unfold stepV; rw [if_neg h0]
      obtain ⟨s, hs⟩ := vs h0
      have hk10 := fitsB_in vf
      have ha := fitsB_args vf h0
      obtain ⟨A, hA⟩ : ∃ A : Nat, o.a = A := ⟨o.a.toNat, by have := ha.1.1; omega⟩
      obtain ⟨B, hB⟩ : ∃ B : Nat, o.b = B := ⟨o.b.toNat, by have := ha.2.1.1; omega⟩
      have hAi : A < k := by have := ha.1.2; rw [show o.toOpP.a = o.a from rfl, hA] at this; omega
      have hBi : B < k := by have := ha.2.1.2; rw [show o.toOpP.b = o.b from rfl, hB] at this; omega
      obtain ⟨tv, htv⟩ := getElem?_lt (show A < us.length by omega)
      obtain ⟨tw, htw⟩ := getElem?_lt (show B < us.length by omega)
      rw [hA, hB, vGet_map HE.out htv, vGet_map HE.out htw] at hs hst
      have okv : okT tv.toTenP.can := vok _ (by rw [← HE.out]; exact List.mem_map_of_mem (List.mem_of_getElem? htv))
      have okw : okT tw.toTenP.can := vok _ (by rw [← HE.out]; exact List.mem_map_of_mem (List.mem_of_getElem? htw))
      obtain ⟨gb, goff, hge, hgl, ⟨s0, s1, s2⟩, hxv⟩ := ten_spot HR.out.see htv
      obtain ⟨gb2, goff2, hge2, _, ⟨t0, t1, t2⟩, hxw⟩ := ten_spot HR.out.see htw
      subst hge
      cases hge2
      obtain ⟨⟨kk, a, b', q, r, c, xs⟩, adx, capx⟩ := o
      replace hA : a = A := hA
      replace hB : b' = B := hB
      subst hA hB
      obtain ⟨⟨rv0, cv0, xv⟩, av, kv⟩ := tv
      obtain ⟨⟨rw0, cw0, xw⟩, aw, kw⟩ := tw
      obtain ⟨rv, cv, e1, e2, hrv, hcv, hlv⟩ := okv.nat
      obtain ⟨rw', cw, e3, e4, hrw, hcw, hlw⟩ := okw.nat
      replace e1 : rv0 = rv := e1
      replace e2 : cv0 = cv := e2
      replace e3 : rw0 = rw' := e3
      replace e4 : cw0 = cw := e4
      subst e1 e2 e3 e4
      replace hlv : (xv.map (cn .f32)).length = rv * cv := hlv
      replace hlw : (xw.map (cn .f32)).length = rw' * cw := hlw
      replace hk10 : 0 ≤ kk ∧ kk ≤ 10 := hk10
      replace h0 : ¬ kk = 0 := h0
      replace hs : shapeOf kk (((rv : Nat) : Int), ((cv : Nat) : Int)) (((rw' : Nat) : Int), ((cw : Nat) : Int)) = some s := hs
      replace hst : T = valV kk ⟨rv, cv, xv.map (cn .f32)⟩ ⟨rw', cw, xw.map (cn .f32)⟩ (cn .f32 q) := hst
      unfold OpD.cells at OB
      simp only at p0 p1 p2 p3 p4 p5 p6 OB s0 s1 s2 t0 t1 t2 hxv hxw
      rw [List.length_map] at hlv hlw
      obtain ⟨n1, hn1'⟩ : ∃ n, n = xv.length := ⟨_, rfl⟩
      obtain ⟨n2, hn2'⟩ : ∃ n, n = xw.length := ⟨_, rfl⟩
      rw [← hn1'] at hlv s2
      rw [← hn2'] at hlw t2
      obtain ⟨nx, hnx⟩ : ∃ n, n = xs.length := ⟨_, rfl⟩
      rw [← hnx] at p6 OB
      have hn256 : n1 ≤ 256 := by rw [hlv]; exact Nat.mul_le_mul hrv.2 hcv.2
      have HXV := Lib.hid hxv; have HXW := Lib.hid hxw; have HN1 := Lib.hid hn1'; have HN2 := Lib.hid hn2'; have HLV := Lib.hid hlv; have HLW := Lib.hid hlw; have HSH := Lib.hid hs; have HTV := Lib.hid hst
      have HRV := Lib.hid hrv; have HCV := Lib.hid hcv; have HRW2 := Lib.hid hrw; have HCW := Lib.hid hcw
      have hk0' : (kk == 0) = false := by simpa using h0
      clear hxv hxw hn1' hn2' hlv hlw hnx hst htv htw okv okw vok vl vf vs hs ha hrv hcv hrw hcw hf hok hm hul hT htl hTok hop ho
      have XB := Lib.hid (((OB.out.below (below1 _ (.cells #[.int .i64 0, .int .i64 0, .slice none 0 0] 37))).below (below1 _ (.cells #[.int .i64 rv, .int .i64 cv, .slice av n1 kv] 37))).below (below1 _ (.cells #[.int .i64 rw', .int .i64 cw, .slice aw n2 kw] 37)))
      have TB := Lib.hid (((BoxN.alloc2 wr (.cells #[.int .i64 kk, .int .i64 A, .int .i64 B, .float .f32 q, .int .i64 r, .int .i64 c, .slice adx nx capx] 74) #[.int .i64 0, .int .i64 0, .slice none 0 0] 37).below (below1 _ (.cells #[.int .i64 rv, .int .i64 cv, .slice av n1 kv] 37))).below (below1 _ (.cells #[.int .i64 rw', .int .i64 cw, .slice aw n2 kw] 37)))
      have VB := Lib.hid ((BoxN.alloc3 wr (.cells #[.int .i64 kk, .int .i64 A, .int .i64 B, .float .f32 q, .int .i64 r, .int .i64 c, .slice adx nx capx] 74) (.cells #[.int .i64 0, .int .i64 0, .slice none 0 0] 37) #[.int .i64 rv, .int .i64 cv, .slice av n1 kv] 37).below (below1 _ (.cells #[.int .i64 rw', .int .i64 cw, .slice aw n2 kw] 37)))
      have b4 : Below wr.heap.size wr ((((wr.alloc (.cells #[.int .i64 kk, .int .i64 A, .int .i64 B, .float .f32 q, .int .i64 r, .int .i64 c, .slice adx nx capx] 74)).alloc (.cells #[.int .i64 0, .int .i64 0, .slice none 0 0] 37)).alloc (.cells #[.int .i64 rv, .int .i64 cv, .slice av n1 kv] 37)).alloc (.cells #[.int .i64 rw', .int .i64 cw, .slice aw n2 kw] 37)) := (below3 wr _ _ _).alloc (by simp; omega) _
      go_upto_region 11 with fail
      obtain ⟨wp, hwp⟩ : ∃ W, W = (((wr.alloc (.cells #[.int .i64 kk, .int .i64 A, .int .i64 B, .float .f32 q, .int .i64 r, .int .i64 c, .slice adx nx capx] 74)).alloc (.cells #[.int .i64 0, .int .i64 0, .slice none 0 0] 37)).alloc (.cells #[.int .i64 rv, .int .i64 cv, .slice av n1 kv] 37)) := ⟨_, rfl⟩
      have bp : Below wr.heap.size wr wp := by rw [hwp]; exact below3 wr _ _ _
      have zp : wp.heap.size = wr.heap.size + 1 + 1 + 1 := by rw [hwp]; simp
      have t0' : wp.cell? ⟨gb, goff + B * 3, none⟩ = some (.int .i64 rw') := (bp.cell (p := ⟨gb, goff + B * 3, none⟩) hgl).trans t0
      have t1' : wp.cell? ⟨gb, goff + B * 3 + 1, none⟩ = some (.int .i64 cw) := (bp.cell (p := ⟨gb, goff + B * 3 + 1, none⟩) hgl).trans t1
      have t2' : wp.cell? ⟨gb, goff + B * 3 + 2, none⟩ = some (.slice aw n2 kw) := (bp.cell (p := ⟨gb, goff + B * 3 + 2, none⟩) hgl).trans t2
      have ob' : wp.cell? ⟨wr.heap.size, 2, none⟩ = some (.int .i64 B) := by
        have h := (OB.out.below (below2 _ (.cells #[.int .i64 0, .int .i64 0, .slice none 0 0] 37) (.cells #[.int .i64 rv, .int .i64 cv, .slice av n1 kv] 37))).seven.2.2.2.1
        rw [hwp]; exact h
      have ob0 : wp.cell? ⟨wr.heap.size, 0, none⟩ = some (.int .i64 kk) := by
        have h := (OB.out.below (below2 _ (.cells #[.int .i64 0, .int .i64 0, .slice none 0 0] 37) (.cells #[.int .i64 rv, .int .i64 cv, .slice av n1 kv] 37))).seven.2.1
        rw [hwp]; exact h
      have hgp : gb < wp.heap.size := by omega
      have hwp1 : wr.heap.size < wp.heap.size := by omega
      rw [← hwp]
      rw [← hwp] at XB TB VB b4
      have ZP := Lib.hid zp
      clear hwp t0 t1 t2 s0 s1 s2 bp zp p0 p1 p2 p3 p4 p5 p6 hgl hbl
      go_upto_block 2 with fail
      obtain ⟨wq, hwq⟩ : ∃ W, W = wp.alloc (.cells #[.int .i64 rw', .int .i64 cw, .slice aw n2 kw] 37) := ⟨_, rfl⟩
      have hzq : wr.heap.size + 4 ≤ wq.heap.size := by rw [hwq]; have := ZP.out; simp; omega
      have WB : Hid (BoxN wq wp.heap.size [.int .i64 rw', .int .i64 cw, .slice aw n2 kw]) := Lib.hid (by rw [hwq]; exact BoxN.alloc wp #[.int .i64 rw', .int .i64 cw, .slice aw n2 kw] 37)
      rw [← hwq]
      rw [← hwq] at XB TB VB b4
      have B4 := Lib.hid b4
      clear hwq b4 OB t0' t1' t2' ob' ob0 hgp hwp1
      go_cut [6] (fun p6 wx => p6 = .pointer (some ⟨wr.heap.size + 1, 0, none⟩) ∧ Hid (LaidT T tl (wr.heap.size + 1) wq wr wx))
      case first =>
        clear HR HE HB HRW KF HST
        obtain ⟨-, x0, x1, x2, x3, x4, x5, x6, xf⟩ := XB.out.seven
        obtain ⟨-, y0, y1, y2, yf⟩ := VB.out.three
        obtain ⟨-, z0, z1, z2, zf⟩ := WB.out.three
        have FV := Lib.hid (HXV.out.below B4.out); have FW := Lib.hid (HXW.out.below B4.out)
        have PV := Lib.hid (And.intro y0 (And.intro y1 y2)); have PW := Lib.hid (And.intro z0 (And.intro z1 z2))
        have KL : Hid (∀ (w' : World) (va : Option Addr) (vc : Nat) (zs : List Nat), RepF w' wq.heap.size w'.heap.size va tl vc zs → zs.map (cn .f32) = T.xs → Below wq.heap.size wq w' → BoxN w' (wr.heap.size + 1) [.int .i64 0, .int .i64 0, .slice none 0 0] ∧ LaidT T tl (wr.heap.size + 1) wq wr (setCs w' (wr.heap.size + 1) 0 [.int .i64 T.r, .int .i64 T.c, .slice va tl vc])) := Lib.hid (fun w' va vc zs hr hm hb => ⟨TB.out.below hb, LaidT.of hr hm (TB.out.below hb) (bthen B4.out hb) (by omega) (by omega)⟩)
        clear TB XB VB WB xf yf zf HXV HXW x1 x2 x4 x5 x6 B4 z0 z1 y0 y1
        have h1k : 1 ≤ kk := by omega
        rcases (by omega : kk = 1 ∨ kk = 2 ∨ kk = 3 ∨ kk = 4 ∨ kk = 5 ∨ kk = 6 ∨ kk = 7 ∨ kk = 8 ∨ kk = 9 ∨ kk = 10) with rfl | rfl | rfl | rfl | rfl | rfl | rfl | rfl | rfl | rfl
        · as_aux_lemma =>
            have hsh : rv = rw' ∧ cv = cw := by have := HSH.out; simp [shapeOf] at this; omega
            obtain ⟨rfl, rfl⟩ := hsh
            have hnn : n1 = n2 := by rw [HLV.out, HLW.out]
            subst hnn
            have hT : T = ⟨rv, cv, tenE .add (xv.map (cn .f32)) (xw.map (cn .f32)) n1⟩ := by rw [HTV.out]; simp [valV, ← HN1.out]
            have HT1 : Hid (tl = n1 ∧ T.xs = tenE .add (xv.map (cn .f32)) (xw.map (cn .f32)) n1 ∧ T.r = rv ∧ T.c = cv) := Lib.hid ⟨by rw [HTL.out, hT]; exact listOf_length _ _, by rw [hT], by rw [hT], by rw [hT]⟩
            clear hT
            go_wp2_with fail
            refine (spec_l02Add _ (wr.heap.size + 1 + 1) 0 wp.heap.size 0 rv cv av aw kv kw n1 xv xw PV.out.1 PV.out.2.1 PV.out.2.2 PW.out.2.2 FV.out FW.out HN1.out.symm HN2.out.symm hn256).mono ?_
            rintro e w' ⟨va, vc, zs, rfl, RO, RM, hb⟩
            have hk := KL.out w' va vc zs (by rw [HT1.out.1]; exact RO.out) (by rw [RM.out, HT1.out.2.1]) hb
            rw [HT1.out.1, HT1.out.2.2.1, HT1.out.2.2.2] at hk
            obtain ⟨tbl, u0, u1, u2, uf⟩ := hk.1.three
            have HK := Lib.hid hk.2
            clear hk hb x0 x3 y2 z2
            go_wp2_with fail
            go_meet
            exact ⟨rfl, Lib.hid (by rw [HT1.out.1]; exact HK.out)⟩
        · as_aux_lemma =>
            have hsh : rw' = 1 ∧ cv = cw := by have := HSH.out; simp [shapeOf] at this; omega
            obtain ⟨rfl, rfl⟩ := hsh
            have hnn : cv = n2 := by rw [HLW.out, Nat.one_mul]
            subst hnn
            have hT : T = ⟨rv, cv, rowE .add (xv.map (cn .f32)) (xw.map (cn .f32)) cv n1⟩ := by rw [HTV.out]; simp [valV, ← HN1.out]
            have HT1 : Hid (tl = n1 ∧ T.xs = rowE .add (xv.map (cn .f32)) (xw.map (cn .f32)) cv n1 ∧ T.r = rv ∧ T.c = cv) := Lib.hid ⟨by rw [HTL.out, hT]; exact listOf_length _ _, by rw [hT], by rw [hT], by rw [hT]⟩
            clear hT
            go_wp2_with fail
            refine (spec_l02AddRow _ (wr.heap.size + 1 + 1) 0 rv cv av aw kv kw n1 xv xw PV.out.1 PV.out.2.1 PV.out.2.2 FV.out FW.out HN1.out.symm HN2.out.symm hn256 HCV.out.1 HCV.out.2).mono ?_
            rintro e w' ⟨va, vc, zs, rfl, RO, RM, hb⟩
            have hk := KL.out w' va vc zs (by rw [HT1.out.1]; exact RO.out) (by rw [RM.out, HT1.out.2.1]) hb
            rw [HT1.out.1, HT1.out.2.2.1, HT1.out.2.2.2] at hk
            obtain ⟨tbl, u0, u1, u2, uf⟩ := hk.1.three
            have HK := Lib.hid hk.2
            clear hk hb x0 x3 y2 z2
            go_wp2_with fail
            go_meet
            exact ⟨rfl, Lib.hid (by rw [HT1.out.1]; exact HK.out)⟩
        · as_aux_lemma =>
            have hsh : rv = rw' ∧ cv = cw := by have := HSH.out; simp [shapeOf] at this; omega
            obtain ⟨rfl, rfl⟩ := hsh
            have hnn : n1 = n2 := by rw [HLV.out, HLW.out]
            subst hnn
            have hT : T = ⟨rv, cv, tenE .mul (xv.map (cn .f32)) (xw.map (cn .f32)) n1⟩ := by rw [HTV.out]; simp [valV, ← HN1.out]
            have HT1 : Hid (tl = n1 ∧ T.xs = tenE .mul (xv.map (cn .f32)) (xw.map (cn .f32)) n1 ∧ T.r = rv ∧ T.c = cv) := Lib.hid ⟨by rw [HTL.out, hT]; exact listOf_length _ _, by rw [hT], by rw [hT], by rw [hT]⟩
            clear hT
            go_wp2_with fail
            refine (spec_l02Mul _ (wr.heap.size + 1 + 1) 0 wp.heap.size 0 rv cv av aw kv kw n1 xv xw PV.out.1 PV.out.2.1 PV.out.2.2 PW.out.2.2 FV.out FW.out HN1.out.symm HN2.out.symm hn256).mono ?_
            rintro e w' ⟨va, vc, zs, rfl, RO, RM, hb⟩
            have hk := KL.out w' va vc zs (by rw [HT1.out.1]; exact RO.out) (by rw [RM.out, HT1.out.2.1]) hb
            rw [HT1.out.1, HT1.out.2.2.1, HT1.out.2.2.2] at hk
            obtain ⟨tbl, u0, u1, u2, uf⟩ := hk.1.three
            have HK := Lib.hid hk.2
            clear hk hb x0 x3 y2 z2
            go_wp2_with fail
            go_meet
            exact ⟨rfl, Lib.hid (by rw [HT1.out.1]; exact HK.out)⟩
        · as_aux_lemma =>
            have hsh : rw' = 1 ∧ cv = cw := by have := HSH.out; simp [shapeOf] at this; omega
            obtain ⟨rfl, rfl⟩ := hsh
            have hnn : cv = n2 := by rw [HLW.out, Nat.one_mul]
            subst hnn
            have hT : T = ⟨rv, cv, rowE .mul (xv.map (cn .f32)) (xw.map (cn .f32)) cv n1⟩ := by rw [HTV.out]; simp [valV, ← HN1.out]
            have HT1 : Hid (tl = n1 ∧ T.xs = rowE .mul (xv.map (cn .f32)) (xw.map (cn .f32)) cv n1 ∧ T.r = rv ∧ T.c = cv) := Lib.hid ⟨by rw [HTL.out, hT]; exact listOf_length _ _, by rw [hT], by rw [hT], by rw [hT]⟩
            clear hT
            go_wp2_with fail
            refine (spec_l02MulRow _ (wr.heap.size + 1 + 1) 0 rv cv av aw kv kw n1 xv xw PV.out.1 PV.out.2.1 PV.out.2.2 FV.out FW.out HN1.out.symm HN2.out.symm hn256 HCV.out.1 HCV.out.2).mono ?_
            rintro e w' ⟨va, vc, zs, rfl, RO, RM, hb⟩
            have hk := KL.out w' va vc zs (by rw [HT1.out.1]; exact RO.out) (by rw [RM.out, HT1.out.2.1]) hb
            rw [HT1.out.1, HT1.out.2.2.1, HT1.out.2.2.2] at hk
            obtain ⟨tbl, u0, u1, u2, uf⟩ := hk.1.three
            have HK := Lib.hid hk.2
            clear hk hb x0 x3 y2 z2
            go_wp2_with fail
            go_meet
            exact ⟨rfl, Lib.hid (by rw [HT1.out.1]; exact HK.out)⟩
        · as_aux_lemma =>
            have hT : T = ⟨rv, cv, scaE (xv.map (cn .f32)) (cn .f32 q) n1⟩ := by rw [HTV.out]; simp [valV, ← HN1.out]
            have HT1 : Hid (tl = n1 ∧ T.xs = scaE (xv.map (cn .f32)) (cn .f32 q) n1 ∧ T.r = rv ∧ T.c = cv) := Lib.hid ⟨by rw [HTL.out, hT]; exact listOf_length _ _, by rw [hT], by rw [hT], by rw [hT]⟩
            clear hT
            go_wp2_with fail
            refine (spec_l02Scale _ (wr.heap.size + 1 + 1) 0 rv cv av kv n1 xv q PV.out.1 PV.out.2.1 PV.out.2.2 FV.out HN1.out.symm hn256).mono ?_
            rintro e w' ⟨va, vc, zs, rfl, RO, RM, hb⟩
            have hk := KL.out w' va vc zs (by rw [HT1.out.1]; exact RO.out) (by rw [RM.out, HT1.out.2.1]) hb
            rw [HT1.out.1, HT1.out.2.2.1, HT1.out.2.2.2] at hk
            obtain ⟨tbl, u0, u1, u2, uf⟩ := hk.1.three
            have HK := Lib.hid hk.2
            clear hk hb x0 x3 y2 z2
            go_wp2_with fail
            go_meet
            exact ⟨rfl, Lib.hid (by rw [HT1.out.1]; exact HK.out)⟩
        · as_aux_lemma =>
            have hsh : cv = rw' := by have := HSH.out; simp [shapeOf] at this; omega
            subst hsh
            have hT : T = ⟨rv, cw, matE (xv.map (cn .f32)) (xw.map (cn .f32)) cv cw (rv * cw)⟩ := by rw [HTV.out]; simp [valV, ← HN1.out]
            have HT1 : Hid (tl = (rv * cw) ∧ T.xs = matE (xv.map (cn .f32)) (xw.map (cn .f32)) cv cw (rv * cw) ∧ T.r = rv ∧ T.c = cw) := Lib.hid ⟨by rw [HTL.out, hT]; exact listOf_length _ _, by rw [hT], by rw [hT], by rw [hT]⟩
            clear hT
            go_wp2_with fail
            refine (spec_l02MatMul _ (wr.heap.size + 1 + 1) 0 wp.heap.size 0 rv cv cw av aw kv kw n1 n2 xv xw PV.out.1 PV.out.2.1 PV.out.2.2 PW.out.2.1 PW.out.2.2 FV.out FW.out HN1.out.symm HN2.out.symm HRV.out.2 HCV.out.2 HCW.out.2 HLV.out HLW.out).mono ?_
            rintro e w' ⟨va, vc, zs, rfl, RO, RM, hb⟩
            have hk := KL.out w' va vc zs (by rw [HT1.out.1]; exact RO.out) (by rw [RM.out, HT1.out.2.1]) hb
            rw [HT1.out.1, HT1.out.2.2.1, HT1.out.2.2.2] at hk
            obtain ⟨tbl, u0, u1, u2, uf⟩ := hk.1.three
            have HK := Lib.hid hk.2
            clear hk hb x0 x3 y2 z2
            go_wp2_with fail
            go_meet
            exact ⟨rfl, Lib.hid (by rw [HT1.out.1]; exact HK.out)⟩
        · as_aux_lemma =>
            have hT : T = ⟨cv, rv, turnE (xv.map (cn .f32)) rv cv n1⟩ := by rw [HTV.out]; simp [valV, ← HN1.out]
            have HT1 : Hid (tl = n1 ∧ T.xs = turnE (xv.map (cn .f32)) rv cv n1 ∧ T.r = cv ∧ T.c = rv) := Lib.hid ⟨by rw [HTL.out, hT]; exact listOf_length _ _, by rw [hT], by rw [hT], by rw [hT]⟩
            clear hT
            go_wp2_with fail
            refine (spec_l02Turn _ (wr.heap.size + 1 + 1) 0 rv cv av kv n1 xv PV.out.1 PV.out.2.1 PV.out.2.2 FV.out HN1.out.symm HRV.out.2 HCV.out.2 HLV.out).mono ?_
            rintro e w' ⟨va, vc, zs, rfl, RO, RM, hb⟩
            have hk := KL.out w' va vc zs (by rw [HT1.out.1]; exact RO.out) (by rw [RM.out, HT1.out.2.1]) hb
            rw [HT1.out.1, HT1.out.2.2.1, HT1.out.2.2.2] at hk
            obtain ⟨tbl, u0, u1, u2, uf⟩ := hk.1.three
            have HK := Lib.hid hk.2
            clear hk hb x0 x3 y2 z2
            go_wp2_with fail
            go_meet
            exact ⟨rfl, Lib.hid (by rw [HT1.out.1]; exact HK.out)⟩
        · as_aux_lemma =>
            have hT : T = ⟨rv, cv, relE (xv.map (cn .f32)) n1⟩ := by rw [HTV.out]; simp [valV, ← HN1.out]
            have HT1 : Hid (tl = n1 ∧ T.xs = relE (xv.map (cn .f32)) n1 ∧ T.r = rv ∧ T.c = cv) := Lib.hid ⟨by rw [HTL.out, hT]; exact listOf_length _ _, by rw [hT], by rw [hT], by rw [hT]⟩
            clear hT
            go_wp2_with fail
            refine (spec_l02Relu _ (wr.heap.size + 1 + 1) 0 rv cv av kv n1 xv PV.out.1 PV.out.2.1 PV.out.2.2 FV.out HN1.out.symm hn256).mono ?_
            rintro e w' ⟨va, vc, zs, rfl, RO, RM, hb⟩
            have hk := KL.out w' va vc zs (by rw [HT1.out.1]; exact RO.out) (by rw [RM.out, HT1.out.2.1]) hb
            rw [HT1.out.1, HT1.out.2.2.1, HT1.out.2.2.2] at hk
            obtain ⟨tbl, u0, u1, u2, uf⟩ := hk.1.three
            have HK := Lib.hid hk.2
            clear hk hb x0 x3 y2 z2
            go_wp2_with fail
            go_meet
            exact ⟨rfl, Lib.hid (by rw [HT1.out.1]; exact HK.out)⟩
        · as_aux_lemma =>
            have hT : T = ⟨rv, cv, tenE .mul (xv.map (cn .f32)) (xv.map (cn .f32)) n1⟩ := by rw [HTV.out]; simp [valV, ← HN1.out]
            have HT1 : Hid (tl = n1 ∧ T.xs = tenE .mul (xv.map (cn .f32)) (xv.map (cn .f32)) n1 ∧ T.r = rv ∧ T.c = cv) := Lib.hid ⟨by rw [HTL.out, hT]; exact listOf_length _ _, by rw [hT], by rw [hT], by rw [hT]⟩
            clear hT
            go_wp2_with fail
            refine (spec_l02Mul _ (wr.heap.size + 1 + 1) 0 (wr.heap.size + 1 + 1) 0 rv cv av av kv kv n1 xv xv PV.out.1 PV.out.2.1 PV.out.2.2 PV.out.2.2 FV.out FV.out HN1.out.symm HN1.out.symm hn256).mono ?_
            rintro e w' ⟨va, vc, zs, rfl, RO, RM, hb⟩
            have hk := KL.out w' va vc zs (by rw [HT1.out.1]; exact RO.out) (by rw [RM.out, HT1.out.2.1]) hb
            rw [HT1.out.1, HT1.out.2.2.1, HT1.out.2.2.2] at hk
            obtain ⟨tbl, u0, u1, u2, uf⟩ := hk.1.three
            have HK := Lib.hid hk.2
            clear hk hb x0 x3 y2 z2
            go_wp2_with fail
            go_meet
            exact ⟨rfl, Lib.hid (by rw [HT1.out.1]; exact HK.out)⟩
        · as_aux_lemma =>
            have hT : T = ⟨1, 1, filE (sumS (xv.map (cn .f32)) n1) 1⟩ := by rw [HTV.out]; simp [valV, ← HN1.out]
            have HT1 : Hid (tl = 1 ∧ T.xs = filE (sumS (xv.map (cn .f32)) n1) 1 ∧ T.r = 1 ∧ T.c = 1) := Lib.hid ⟨by rw [HTL.out, hT]; exact listOf_length _ _, by rw [hT], by rw [hT], by rw [hT]⟩
            clear hT
            have KSU := Lib.hid (spec_l01Sum wq av kv xv FV.out)
            rw [← HN1.out] at KSU
            go_wp2_with fail
            refine KSU.out.mono ?_
            rintro e w2 ⟨su, rfl, HSU, hd⟩
            have HDB := Lib.hid hd.below
            clear hd
            go_wp2_with fail
            refine (spec_l02Filled _ 1 1 su HSU.out.2 (by decide) (by decide)).mono ?_
            rintro e w' ⟨va, vc, zs, rfl, RO, RM, hb⟩
            have hk := KL.out w' va vc zs (by rw [HT1.out.1]; exact RO.out.bounds HDB.out.size (Nat.le_refl _)) (by rw [RM.out, HT1.out.2.1, HSU.out.1]) (bthen HDB.out hb)
            rw [HT1.out.1, HT1.out.2.2.1, HT1.out.2.2.2] at hk
            obtain ⟨tbl, u0, u1, u2, uf⟩ := hk.1.three
            have HK := Lib.hid hk.2
            clear hk hb x0 x3 y2 z2
            go_wp2_with fail
            go_meet
            exact ⟨rfl, Lib.hid (by rw [HT1.out.1]; exact HK.out)⟩
      case rest =>
        obtain ⟨rfl, HL⟩ := hcut
        obtain ⟨va, vc, zs, hbx, hr2, hz2m, hbb⟩ := HL.out
        obtain ⟨tbl, u0, u1, u2, uf⟩ := hbx.three
        have HLA := Lib.hid (And.intro hr2 (And.intro hz2m hbb))
        have htp1 := HTP.out.1
        clear hbx hr2 hz2m hbb HL XB TB VB WB HXV HXW B4
        go_wp2_with (at_builtin; refine wp_appA rfl _ _ 109 rfl w.heap.size i0 (.agg #[.int .i64 0, .int .i64 0, .slice none 0 0]) 3 40 Tryz.underlying109 hi0 hz0 hzs hz2 rfl (by decide) rfl (by intro u hu; simp at hu; rcases hu with rfl | rfl | rfl <;> rfl) _ _ _ rfl (HRW.out _ HLA.out.2.2) (by go_simp) ?c3 ?c4 ?c5 ?_)
        case c3 => unfold maxLen; omega
        case c4 => omega
        case c5 => exact Nat.le_trans HB.out.size HLA.out.2.2.size
        intro v' w9 ho9 hg9 hat9 hb9 hs9
        obtain ⟨ad9, cap9, us9, rfl, hown9, hm9⟩ := KF.out wq wc w9 va vc zs v' (by omega) HLA.out.1 HLA.out.2.1 HLA.out.2.2 ho9 ⟨_, hg9⟩ (by simpa using hat9)
        have HO9 := Lib.hid hown9; have HB9 := Lib.hid ((HB.out.trans (HLA.out.2.2.mono HB.out.size)).trans hb9); have HE9 := Lib.hid hm9
        clear ho9 hg9 hat9 hb9 hown9 hm9 HR HE HB HRW HLA KF
        go_wp2
        go_roundw
        case rel => exact ⟨k + 1, by go_num, hlt, _, _, _, rfl, HO9, HE9, HB9⟩
        case measure => simp [intOf]; omega
    · have hkn : k = n := by omega
      subst hkn
      have HA := Lib.hid (And.intro HR.out (show us.map (fun t => t.toTenP.can) = valsP (os.map OpD.toOpP) by rw [HE.out]; unfold valsP; rw [List.length_map, ← HN.out]))
      go_wp2
      go_ret
      exact ⟨_, _, us, rfl, HA, HB.out⟩
end Go.Proofs.YtpadlmidojpbeaaGreat
