/- Joined texts 16: Grs Le3 Le5 Le4 Le6 Le7 WMgr. Each is told at its own head. No condition. -/
import Derived.Test.YtfdgngnnncmfiaaMc6
import Derived.Test.YtfdgngnnncmfiaaMc9
import Derived.Test.YtfdgngnnncmfiaaMc10
import Derived.Test.YtfdgngnnncmfiaaMc15
/- The gradients of a tape: the reference's function; bounds. No condition. -/
namespace Go.Proofs.Ytfdgngnnncmfiaa
open Go Go.RowKit
set_option linter.unusedVariables false
set_option linter.unusedSimpArgs false
/-- the gradients of a valid tape have the shapes of its values -/
theorem gradP_ok {os : List OpP} {S : List Sh} (hS : shapesP os = some S) : (gradP os).length ≤ 48 ∧ ∀ t ∈ gradP os, t.xs.length ≤ 256 := by
  have hp := shapesP_some hS
  have hv := valsN_ok (Nat.le_refl _) hp.2.1
  have hVl : (valsP os).length = os.length := by have := congrArg List.length hv.1; rw [List.length_map, hp.2.2.1] at this; exact this
  have hok : ∀ m, m ≤ os.length → OkG (valsP os) (usedM os m) (gradM os (valsP os) m) := OkG.at hS
  have h1 := hok os.length (Nat.le_refl _)
  refine ⟨?_, fun t ht => ?_⟩
  · show (gradM os (valsP os) os.length).length ≤ 48
    rw [h1.1, hVl]; exact hp.1.2
  · obtain ⟨j, hj, rfl⟩ := List.mem_iff_getElem.1 ht
    have hj2 : j < (valsP os).length := by rw [← h1.1]; exact hj
    have h2 : okT (vGet (gradP os) (j : Int)) := (h1.2 j hj2).1.1
    rw [vGet_nat hj] at h2
    exact h2.le
end Go.Proofs.Ytfdgngnnncmfiaa
/- The loss of a model and its gradients: the reference's function. No condition. -/
namespace Go.Proofs.Ytfdgngnnncmfiaa
open Go Go.RowKit
set_option linter.unusedVariables false
set_option linter.unusedSimpArgs false
/-- what the two calls of a region give: gradients, and the numbers of some of them -/
def DLoss (fg ff : FuncId) (n : Nat) (C : List OpP) (ws : List Int) (f : FuncId) (args : Array Value) (W : World) (v : Value) (W' : World) : Prop :=
  (f = fg → ∃ a3 c3 gs, v = .slice a3 n c3 ∧ Hid (OwnR tenR W' W.heap.size W'.heap.size a3 n c3 gs ∧ gs.map (fun t => t.toTenP.can) = gradP C) ∧ Below W.heap.size W W') ∧
  (f = ff → ∃ ad m cap xs, v = .slice ad m cap ∧ Hid (RepF W' W.heap.size W'.heap.size ad m cap xs ∧ xs.map (cn .f32) = flatG (gradP C) ws) ∧ Below W.heap.size W W')
set_option maxHeartbeats 8000000 in
set_option maxRecDepth 100000 in
theorem spec_l04Loss (w : World) (R : Option (List OpP × List Int)) (x1 x2 x3 : Value) (num : Nat) (ls : List LayP) (X Y : TenP) (q : Nat) (hR : R = modelP ls X Y q)
    (K : Calls Try.prog 33 #[x1, x2, x3, .float .f32 num] w (ModOut R w)) :
    Calls Try.prog 41 #[x1, x2, x3, .float .f32 num] w fun e w' => ∃ ad n cap z b, e = .returned (.tuple #[.slice ad n cap, .float .f32 z, .bool b]) ∧
      Hid (b = R.isSome ∧ (b = true → ∃ xs, RepF w' w.heap.size w'.heap.size ad n cap xs ∧ z < 4294967296 ∧ learnM R = some (xs.map (cn .f32), cn .f32 z))) ∧ Below w.heap.size w w' := by
  have HK := Lib.hid K; have HR := Lib.hid hR
  clear K hR
  go_enter Try.func41, Try.ntmps41
  go_wp2_with fail
  refine HK.out.mono ?_
  rintro e w1 ⟨ad, n, cap, wa, m, wk, b, rfl, HO, hb⟩
  have HB1 := Lib.hid hb
  clear hb HK
  cases b
  · have HRN := Lib.hid HO.out.1
    clear HO
    go_wp2
    go_ret3
    exact ⟨_, _, _, _, false, rfl, Lib.hid ⟨HRN.out, fun h => (by cases h)⟩, HB1.out.alloc HB1.out.size _⟩
  obtain ⟨C, ws, hRC, hm, hwf, hT⟩ := HO.out.2 rfl
  obtain ⟨us, S, hF⟩ := TapeF.of hT (HR.out.symm.trans hRC) hwf
  have HF := Lib.hid hF
  have HRC := Lib.hid hRC
  clear hT hwf HO HR hRC
  subst hm
  have hn1 := hF.n1; have hn2 := hF.n2
  have K2 := Lib.hid (spec_l04Run w1 ad cap us hF.see hF.nil S hF.sh hF.lens)
  rw [hF.len, hF.v] at K2
  clear hF
  go_wp2_with fail
  refine K2.out.mono ?_
  rintro e w2 ⟨a2, c2, vs, rfl, HV, hb2⟩
  have HB2 := Lib.hid hb2
  obtain ⟨g, tb, tq, tc, z, rfl, hcells, hz⟩ := last_cell (HF.out.below HB2.out) HV.out.1 HV.out.2
  have HC := Lib.hid hcells; have HZ := Lib.hid hz
  clear hb2 K2 hcells hz
  have K3 := Lib.hid (fun W (hb : Below w2.heap.size w2 W) => spec_l04Gradients W ad (some ⟨g, 0, none⟩) cap c2 us vs ((HF.out.see.below HB2.out).below hb) (HV.out.1.below hb).see S HF.out.sh (by rw [HV.out.2, HF.out.v]))
  rw [HF.out.len, HF.out.g] at K3
  have K4 := Lib.hid (fun W (hb : Below w2.heap.size w2 W) a3 c3 gs lo hi (h1 : OwnR tenR W lo hi a3 n c3 gs) (h2 : gs.map (fun t => t.toTenP.can) = gradP C) => spec_l04Flat W a3 wa c3 wk gs ws h1 ((HF.out.ints.below HB2.out).below hb) HF.out.ix hn2 (fun t ht => by
    have h3 := gradP_ok (os := us.map OpD.toOpP) HF.out.sh
    rw [HF.out.g] at h3
    have h4 := h3.2 t.toTenP.can (by rw [← h2]; exact List.mem_map_of_mem ht)
    simpa [TenP.can] using h4) HF.out.m)
  go_wp2_with fail
  have hni : (n : Int) - 1 = ((n - 1 : Nat) : Int) := by omega
  obtain ⟨l, hl⟩ : ∃ l, l = n - 1 := ⟨_, rfl⟩
  rw [← hl] at hni
  replace HC := Lib.hid (show ∀ V, Below w2.heap.size w2 V → V.cell? ⟨g, l * 3 + 2, none⟩ = some (.slice (some ⟨tb, tq, none⟩) 1 tc) ∧ V.cell? ⟨tb, tq, none⟩ = some (.float .f32 z) by rw [hl]; exact HC.out)
  have hln : l < n := by omega
  have hwl : IntKind.i64.wrap (l : Int) = (l : Int) := wrap_fitL (by omega) (by omega)
  clear hl hn1 hn2
  have S0 := Lib.hid (HC.out w2 (Below.refl _ _))
  refine wp_region_mix0 [2, 4] (fun W => W.cell? ⟨g, l * 3 + 2, none⟩ = some (.slice (some ⟨tb, tq, none⟩) 1 tc) ∧ W.cell? ⟨tb, tq, none⟩ = some (.float .f32 z)) (fun _ _ _ => False) (DLoss 60 59 n C ws) (by kernel_rfl) (by kernel_rfl) S0.out (fun W q h => by simpa using h) ?_
  iterate 2 (refine mwalk_plain (by rfl) S0.out (fun K hK W hW => ?_); obtain ⟨e0, e1⟩ := hW; go_simp; refine hK _ ?_; clear hK K e0 e1)
  refine mwalk_spec (by rfl) S0.out (fun K hK q0 => ?_)
  go_simp
  have D0 := Lib.hid (below_drewN (Below.refl w2.heap.size w2) q0)
  refine ⟨(K3.out _ D0.out).mono (fun e w5 h => by
    obtain ⟨a3, c3, gs, he, hh, hb⟩ := h
    exact ⟨_, he, fun _ => ⟨a3, c3, gs, rfl, hh, hb⟩, fun h => absurd h (by decide)⟩), ?_⟩
  rintro v w3 hd
  obtain ⟨a3, c3, gs, rfl, HG, hb3⟩ := hd.1 rfl
  have HB3 := Lib.hid (bthen D0.out hb3)
  have S3 := Lib.hid (HC.out w3 HB3.out)
  refine ⟨S3.out, hK _ _ ?_⟩
  clear hK K hd hb3 D0 K3 S0
  refine mwalk_plain (by rfl) S3.out (fun K hK W hW => ?_); obtain ⟨e0, e1⟩ := hW; go_simp; refine hK _ ?_; clear hK K e0 e1
  refine mwalk_spec (by rfl) S3.out (fun K hK q0 => ?_)
  go_simp
  have D0 := Lib.hid (bthen HB3.out (below_drewN (Below.refl w3.heap.size w3) q0))
  refine ⟨(K4.out _ D0.out a3 c3 gs _ _ (HG.out.1.below (below_drewN (Below.refl w3.heap.size w3) q0)) HG.out.2).mono (fun e w5 h => by
    obtain ⟨a4, c4, he, hh, hb⟩ := h
    exact ⟨_, he, fun h => absurd h (by decide), fun _ => ⟨a4, _, c4, flatT gs ws, rfl, Lib.hid ⟨hh.out, flatT_can HG.out.2 ws⟩, hb⟩⟩), ?_⟩
  rintro v w4 hd
  obtain ⟨a4, n4, c4, xs, rfl, HX, hb4⟩ := hd.2 rfl
  have hz3 := D0.out.size
  have HB4 := Lib.hid (bthen D0.out hb4)
  have S4 := Lib.hid (HC.out w4 HB4.out)
  refine ⟨S4.out, hK _ _ ?_⟩
  clear hK K hd hb4 D0 K4 S3 HG
  iterate 3 (refine mwalk_plain (by rfl) S4.out (fun K hK W hW => ?_); obtain ⟨e0, e1⟩ := hW; go_simp; refine hK _ ?_; clear hK K e0 e1)
  refine mwalk_plain (by rfl) S4.out (fun K hK W hW => ?_); obtain ⟨e0, e1⟩ := hW; go_simp; refine hK _ ?_; clear hK K e0 e1
  iterate 8 (refine mwalk_plain (by rfl) S4.out (fun K hK W hW => ?_); obtain ⟨e0, e1⟩ := hW; go_simp; refine hK _ ?_; clear hK K e0 e1)
  refine mwalk_nil (fun q9 => ?_)
  have HB5 := Lib.hid (below_drewN (bthen HB1.out (bthen HB2.out HB4.out)) q9)
  have hzz : w.heap.size ≤ (w3.drewN 0).heap.size := by
    have h1 := HB1.out.size; have h2 := HB2.out.size; have h3 := HB3.out.size
    simp; omega
  have HX5 := Lib.hid ((HX.out.1.bounds (Nat.le_trans hzz (by simp)) (Nat.le_refl _)).below (below_drewN (Below.refl _ _) q9))
  go_wp2
  go_ret3
  exact ⟨_, _, _, _, true, rfl, Lib.hid ⟨by rw [HRC.out]; rfl, fun _ => ⟨xs, HX5.out, HZ.out.1, by rw [HRC.out, HX.out.2, HZ.out.2]; rfl⟩⟩, HB5.out⟩
end Go.Proofs.Ytfdgngnnncmfiaa
/- The loss of a model and its gradients: the reference's functions on copies of arguments. No condition. -/
namespace Go.Proofs.Ytfdgngnnncmfiaa
open Go Go.RowKit
set_option linter.unusedVariables false
set_option linter.unusedSimpArgs false
set_option maxHeartbeats 8000000 in
set_option maxRecDepth 100000 in
theorem spec_ModelGradients (w : World) (ma : Option Addr) (mk : Nat) (ls : List LayD) (xr xc yr yc : Int) (xa ya : Option Addr) (xk yk : Nat) (xs ys : List Nat) (hls : SeeR layR w ma mk ls) (hx : F32s w xa xk xs) (hy : F32s w ya yk ys) :
    Calls Try.prog 25 #[.agg #[.slice ma ls.length mk], .agg #[.int .i64 xr, .int .i64 xc, .slice xa xs.length xk], .agg #[.int .i64 yr, .int .i64 yc, .slice ya ys.length yk]] w (LPost (modelP (ls.map fun l => l.toLayP.can) ⟨xr, xc, xs.map (cn .f32)⟩ ⟨yr, yc, ys.map (cn .f32)⟩ (shareE ys.length)) w) := by
  have b3 := below3 w (.cells #[.slice ma ls.length mk] 36) (.cells #[.int .i64 xr, .int .i64 xc, .slice xa xs.length xk] 38) (.cells #[.int .i64 yr, .int .i64 yc, .slice ya ys.length yk] 38)
  have BM := Lib.hid ((BoxN.alloc w #[.slice ma ls.length mk] 36).below (below2 _ (.cells #[.int .i64 xr, .int .i64 xc, .slice xa xs.length xk] 38) (.cells #[.int .i64 yr, .int .i64 yc, .slice ya ys.length yk] 38)))
  have BX := Lib.hid ((BoxN.alloc2 w (.cells #[.slice ma ls.length mk] 36) #[.int .i64 xr, .int .i64 xc, .slice xa xs.length xk] 38).below (below1 _ (.cells #[.int .i64 yr, .int .i64 yc, .slice ya ys.length yk] 38)))
  have BY := Lib.hid (BoxN.alloc3 w (.cells #[.slice ma ls.length mk] 36) (.cells #[.int .i64 xr, .int .i64 xc, .slice xa xs.length xk] 38) #[.int .i64 yr, .int .i64 yc, .slice ya ys.length yk] 38)
  have B3 := Lib.hid b3
  have hym : ys.length ≤ maxLen := Nat.le_trans hy.len hy.cap
  have HLS := Lib.hid (hls.below b3); have HX := Lib.hid (hx.below b3); have HY := Lib.hid (hy.below b3)
  obtain ⟨w3, hw3⟩ : ∃ W, W = ((w.alloc (.cells #[.slice ma ls.length mk] 36)).alloc (.cells #[.int .i64 xr, .int .i64 xc, .slice xa xs.length xk] 38)).alloc (.cells #[.int .i64 yr, .int .i64 yc, .slice ya ys.length yk] 38) := ⟨_, rfl⟩
  rw [← hw3] at BM BX BY B3 HLS HX HY
  have HW3 := Lib.hid hw3
  obtain ⟨R, hR⟩ : ∃ R, R = modelP (ls.map fun l => l.toLayP.can) ⟨xr, xc, xs.map (cn .f32)⟩ ⟨yr, yc, ys.map (cn .f32)⟩ (shareE ys.length) := ⟨_, rfl⟩
  rw [← hR]
  have HR := Lib.hid hR
  have KM := Lib.hid (fun W (hb : Below w3.heap.size w3 W) z (hz : z < 4294967296) => spec_l04Model W w.heap.size 0 (w.heap.size + 1) 0 (w.heap.size + 2) 0 ma mk ls xr xc yr yc xa ya xk yk xs ys z hz (BM.out.below hb).one1.2.1 (HLS.out.below hb) (BX.out.below hb).three.2.1 (BX.out.below hb).three.2.2.1 (BX.out.below hb).three.2.2.2.1 (HX.out.below hb) (BY.out.below hb).three.2.1 (BY.out.below hb).three.2.2.1 (BY.out.below hb).three.2.2.2.1 (HY.out.below hb) (by omega))
  have KY := Lib.hid (spec_l02Is w3 (w.heap.size + 2) 0 yr yc ya ys.length yk hym BY.out.three.2.1 BY.out.three.2.2.1 BY.out.three.2.2.2.1)
  clear hls hx hy b3 hw3 hR hym
  cases e3 : tenB yr yc ys.length
  · rw [e3] at KY
    have HRN : Hid (R = none) := Lib.hid (by rw [HR.out]; exact modelP_no (by rw [goodM_eq, e3]; simp))
    clear e3 HR KM
    go_enter Try.func25, Try.ntmps25
    go_upto_region 1 with fail
    rw [← HW3.out]
    go_wp2_with fail
    refine KY.out.mono ?_
    rintro e w4 ⟨rfl, hd⟩
    have HB := Lib.hid (bthen B3.out hd.below)
    clear hd
    go_wp2
    go_ret3
    exact LPost.none HRN.out rfl HB.out
  rw [e3] at KY
  obtain ⟨⟨yr1, yr2⟩, ⟨yc1, yc2⟩, hyl⟩ := tenB_iff.1 e3
  obtain ⟨r, rfl⟩ : ∃ r : Nat, yr = r := ⟨yr.toNat, by omega⟩
  obtain ⟨d, rfl⟩ : ∃ d : Nat, yc = d := ⟨yc.toNat, by omega⟩
  have hyd : ys.length = r * d := by exact_mod_cast hyl
  have KS := Lib.hid (fun W (hb : Below w3.heap.size w3 W) => spec_l04Share W (w.heap.size + 2) 0 r d (by omega) (by omega) (BY.out.below hb).three.2.1 (BY.out.below hb).three.2.2.1)
  rw [← hyd] at KS
  clear hyl hyd yr1 yr2 yc1 yc2 e3
  go_enter Try.func25, Try.ntmps25
  go_upto_region 1 with fail
  rw [← HW3.out]
  go_wp2_with fail
  refine KY.out.mono ?_
  rintro e w4 ⟨rfl, hd⟩
  have HB4 := Lib.hid hd.below
  clear hd KY
  go_wp2_with fail
  refine (KS.out _ HB4.out).mono ?_
  rintro e w5 ⟨z, rfl, hz, hd⟩
  have HB5 := Lib.hid (bthen HB4.out hd.below)
  have HZ := Lib.hid hz.out
  clear hd hz KS HB4
  have KM2 := Lib.hid (KM.out w5 HB5.out z HZ.out.2)
  rw [HZ.out.1, ← HR.out] at KM2
  have KL := Lib.hid (spec_l04Loss w5 R _ _ _ z _ _ _ _ HR.out KM2.out)
  clear KM HR KM2
  go_wp2_with fail
  refine KL.out.mono ?_
  rintro e w6 ⟨ad, n, cap, z1, b, rfl, HO, hb⟩
  have HB6 := Lib.hid (bthen (bthen B3.out HB5.out) hb)
  have HBA := Lib.hid (bthen B3.out HB5.out)
  clear hb KL
  cases b
  · have HRN : Hid (R = none) := Lib.hid (by have := HO.out.1; cases R <;> first | rfl | cases this)
    clear HO
    go_wp2
    go_ret3
    exact LPost.none HRN.out rfl HB6.out
  · go_wp2
    go_ret3
    obtain ⟨xs1, h1, h2, h3⟩ := HO.out.2 (by first | rfl | trivial)
    exact ⟨_, _, _, _, true, xs1, rfl, Lib.hid ⟨⟨⟨HO.out.1, h2⟩, by rw [h3]; rfl⟩, h1.bounds HBA.out.size (Nat.le_refl _)⟩, HB6.out⟩
set_option maxHeartbeats 8000000 in
set_option maxRecDepth 100000 in
theorem spec_ModelLoss (w : World) (ma : Option Addr) (mk : Nat) (ls : List LayD) (xr xc yr yc : Int) (xa ya : Option Addr) (xk yk : Nat) (xs ys : List Nat) (hls : SeeR layR w ma mk ls) (hx : F32s w xa xk xs) (hy : F32s w ya yk ys) :
    Calls Try.prog 22 #[.agg #[.slice ma ls.length mk], .agg #[.int .i64 xr, .int .i64 xc, .slice xa xs.length xk], .agg #[.int .i64 yr, .int .i64 yc, .slice ya ys.length yk]] w (ZPost (modelP (ls.map fun l => l.toLayP.can) ⟨xr, xc, xs.map (cn .f32)⟩ ⟨yr, yc, ys.map (cn .f32)⟩ (shareE ys.length)) w) := by
  have b3 := below3 w (.cells #[.slice ma ls.length mk] 36) (.cells #[.int .i64 xr, .int .i64 xc, .slice xa xs.length xk] 38) (.cells #[.int .i64 yr, .int .i64 yc, .slice ya ys.length yk] 38)
  have BM := Lib.hid ((BoxN.alloc w #[.slice ma ls.length mk] 36).below (below2 _ (.cells #[.int .i64 xr, .int .i64 xc, .slice xa xs.length xk] 38) (.cells #[.int .i64 yr, .int .i64 yc, .slice ya ys.length yk] 38)))
  have BX := Lib.hid ((BoxN.alloc2 w (.cells #[.slice ma ls.length mk] 36) #[.int .i64 xr, .int .i64 xc, .slice xa xs.length xk] 38).below (below1 _ (.cells #[.int .i64 yr, .int .i64 yc, .slice ya ys.length yk] 38)))
  have BY := Lib.hid (BoxN.alloc3 w (.cells #[.slice ma ls.length mk] 36) (.cells #[.int .i64 xr, .int .i64 xc, .slice xa xs.length xk] 38) #[.int .i64 yr, .int .i64 yc, .slice ya ys.length yk] 38)
  have B3 := Lib.hid b3
  have hym : ys.length ≤ maxLen := Nat.le_trans hy.len hy.cap
  have HLS := Lib.hid (hls.below b3); have HX := Lib.hid (hx.below b3); have HY := Lib.hid (hy.below b3)
  obtain ⟨w3, hw3⟩ : ∃ W, W = ((w.alloc (.cells #[.slice ma ls.length mk] 36)).alloc (.cells #[.int .i64 xr, .int .i64 xc, .slice xa xs.length xk] 38)).alloc (.cells #[.int .i64 yr, .int .i64 yc, .slice ya ys.length yk] 38) := ⟨_, rfl⟩
  rw [← hw3] at BM BX BY B3 HLS HX HY
  have HW3 := Lib.hid hw3
  obtain ⟨R, hR⟩ : ∃ R, R = modelP (ls.map fun l => l.toLayP.can) ⟨xr, xc, xs.map (cn .f32)⟩ ⟨yr, yc, ys.map (cn .f32)⟩ (shareE ys.length) := ⟨_, rfl⟩
  rw [← hR]
  have HR := Lib.hid hR
  have KM := Lib.hid (fun W (hb : Below w3.heap.size w3 W) z (hz : z < 4294967296) => spec_l04Model W w.heap.size 0 (w.heap.size + 1) 0 (w.heap.size + 2) 0 ma mk ls xr xc yr yc xa ya xk yk xs ys z hz (BM.out.below hb).one1.2.1 (HLS.out.below hb) (BX.out.below hb).three.2.1 (BX.out.below hb).three.2.2.1 (BX.out.below hb).three.2.2.2.1 (HX.out.below hb) (BY.out.below hb).three.2.1 (BY.out.below hb).three.2.2.1 (BY.out.below hb).three.2.2.2.1 (HY.out.below hb) (by omega))
  have KY := Lib.hid (spec_l02Is w3 (w.heap.size + 2) 0 yr yc ya ys.length yk hym BY.out.three.2.1 BY.out.three.2.2.1 BY.out.three.2.2.2.1)
  clear hls hx hy b3 hw3 hR hym
  cases e3 : tenB yr yc ys.length
  · rw [e3] at KY
    have HRN : Hid (R = none) := Lib.hid (by rw [HR.out]; exact modelP_no (by rw [goodM_eq, e3]; simp))
    clear e3 HR KM
    go_enter Try.func22, Try.ntmps22
    go_upto_region 1 with fail
    rw [← HW3.out]
    go_wp2_with fail
    refine KY.out.mono ?_
    rintro e w4 ⟨rfl, hd⟩
    have HB := Lib.hid (bthen B3.out hd.below)
    clear hd
    go_wp2
    go_ret2
    exact ZPost.none HRN.out rfl HB.out
  rw [e3] at KY
  obtain ⟨⟨yr1, yr2⟩, ⟨yc1, yc2⟩, hyl⟩ := tenB_iff.1 e3
  obtain ⟨r, rfl⟩ : ∃ r : Nat, yr = r := ⟨yr.toNat, by omega⟩
  obtain ⟨d, rfl⟩ : ∃ d : Nat, yc = d := ⟨yc.toNat, by omega⟩
  have hyd : ys.length = r * d := by exact_mod_cast hyl
  have KS := Lib.hid (fun W (hb : Below w3.heap.size w3 W) => spec_l04Share W (w.heap.size + 2) 0 r d (by omega) (by omega) (BY.out.below hb).three.2.1 (BY.out.below hb).three.2.2.1)
  rw [← hyd] at KS
  clear hyl hyd yr1 yr2 yc1 yc2 e3
  go_enter Try.func22, Try.ntmps22
  go_upto_region 1 with fail
  rw [← HW3.out]
  go_wp2_with fail
  refine KY.out.mono ?_
  rintro e w4 ⟨rfl, hd⟩
  have HB4 := Lib.hid hd.below
  clear hd KY
  go_wp2_with fail
  refine (KS.out _ HB4.out).mono ?_
  rintro e w5 ⟨z, rfl, hz, hd⟩
  have HB5 := Lib.hid (bthen HB4.out hd.below)
  have HZ := Lib.hid hz.out
  clear hd hz KS HB4
  have KM2 := Lib.hid (KM.out w5 HB5.out z HZ.out.2)
  rw [HZ.out.1, ← HR.out] at KM2
  have KL := Lib.hid (spec_l04Loss w5 R _ _ _ z _ _ _ _ HR.out KM2.out)
  clear KM HR KM2
  go_wp2_with fail
  refine KL.out.mono ?_
  rintro e w6 ⟨ad, n, cap, z1, b, rfl, HO, hb⟩
  have HB6 := Lib.hid (bthen (bthen B3.out HB5.out) hb)
  have HBA := Lib.hid (bthen B3.out HB5.out)
  clear hb KL
  cases b
  · have HRN : Hid (R = none) := Lib.hid (by have := HO.out.1; cases R <;> first | rfl | cases this)
    clear HO
    go_wp2
    go_ret2
    exact ZPost.none HRN.out rfl HB6.out
  · go_wp2
    go_ret2
    obtain ⟨xs1, h1, h2, h3⟩ := HO.out.2 (by first | rfl | trivial)
    exact ⟨_, true, rfl, Lib.hid ⟨⟨HO.out.1, h2⟩, by rw [h3]; rfl⟩, HB6.out⟩
end Go.Proofs.Ytfdgngnnncmfiaa
/- The loss of a model and its gradients: the program's function. No condition. -/
namespace Go.Proofs.Ytfdgngnnncmfiaa
open Go Go.RowKit
set_option linter.unusedVariables false
set_option linter.unusedSimpArgs false
set_option maxHeartbeats 8000000 in
set_option maxRecDepth 100000 in
theorem impl_learned (w : World) (ad : Option Addr) (n cap : Nat) (wa : Option Addr) (wk : Nat) (ws : List Int) (C : List OpP) (us : List OpD) (S : List Sh) (hF : TapeF w ad n cap wa wk ws C us S) :
    Calls Try.prog 42 #[.slice ad n cap, .slice wa ws.length wk] w fun e w' => ∃ a m c z xs, e = .returned (.tuple #[.slice a m c, .float .f32 z]) ∧
      Hid (RepF w' w.heap.size w'.heap.size a m c xs ∧ z < 4294967296 ∧ xs.map (cn .f32) = flatG (gradP C) ws ∧ cn .f32 z = lossP C) ∧ Below w.heap.size w w' := by
  obtain ⟨i0, hi0, hz0, hz1, hz2⟩ := info_parts info_f32
  have HF := Lib.hid hF
  have hn1 := hF.n1; have hn2 := hF.n2; have hm := hF.m
  have K2 := Lib.hid (impl_runTape w ad cap us hF.see hF.nil S hF.sh hF.lens)
  rw [hF.len, hF.v] at K2
  clear hF
  obtain ⟨m, hM⟩ : ∃ m, m = ws.length := ⟨_, rfl⟩
  rw [← hM] at hm ⊢
  have HM := Lib.hid hM
  clear hM
  go_enter Try.func42, Try.ntmps42
  go_wp2_with fail
  refine K2.out.mono ?_
  rintro e w2 ⟨a2, c2, vs, rfl, HV, hb2⟩
  have HB2 := Lib.hid hb2
  obtain ⟨g, tb, tq, tc, z, rfl, hcells, hz⟩ := last_cell (HF.out.below HB2.out) HV.out.1 HV.out.2
  have HZ := Lib.hid hz
  have hni : (n : Int) - 1 = ((n - 1 : Nat) : Int) := by omega
  obtain ⟨l, hl⟩ : ∃ l, l = n - 1 := ⟨_, rfl⟩
  rw [← hl] at hni
  have HC := Lib.hid (show ∀ V, Below w2.heap.size w2 V → V.cell? ⟨g, l * 3 + 2, none⟩ = some (.slice (some ⟨tb, tq, none⟩) 1 tc) ∧ V.cell? ⟨tb, tq, none⟩ = some (.float .f32 z) by rw [hl]; exact hcells)
  have hln : l < n := by omega
  have HNI := Lib.hid hni
  clear hl hb2 K2 hcells hz hni
  have K3 := Lib.hid (impl_gradients w2 ad (some ⟨g, 0, none⟩) cap c2 us vs (HF.out.see.below HB2.out) HV.out.1.see S HF.out.sh (by rw [HV.out.2, HF.out.v]))
  rw [HF.out.len, HF.out.g] at K3
  go_wp2_with fail
  refine K3.out.mono ?_
  rintro e w3 ⟨a3, c3, gs, rfl, HG, hb3⟩
  have HB3 := Lib.hid hb3
  have HXL := Lib.hid (show ∀ t ∈ gs, t.xs.length ≤ 256 from fun t ht => by
    have h3 := gradP_ok (os := us.map OpD.toOpP) HF.out.sh
    rw [HF.out.g] at h3
    have h4 := h3.2 t.toTenP.can (by rw [← HG.out.2]; exact List.mem_map_of_mem ht)
    simpa [TenP.can] using h4)
  have HIN := Lib.hid ((HF.out.ints.below HB2.out).below hb3)
  clear hb3 K3
  go_wp2
  go_loopw [8, 10, 19] (fun v x i wt => ∃ k nk : Nat, i = .int .i64 k ∧ k ≤ m ∧ nk ≤ 256 * k ∧ Hid (wt.ownsRow w3.heap.size 49 1 v nk ((flatT gs (ws.take k)).map (Value.float .f32)) ∧ nk = (flatT gs (ws.take k)).length) ∧ Hid (Below w3.heap.size w3 wt)) (fun v x i wt => m - (intOf i).toNat)
  case atStart => exact ⟨0, 0, rfl, Nat.zero_le _, by omega, Lib.hid ⟨World.ownsRow_made _ _ _ (Nat.le_refl _) (Nat.zero_le _) rfl, rfl⟩, Lib.hid (below1 _ _)⟩
  case round =>
    obtain ⟨k, nk, rfl, hk, hnk, HO, HB⟩ := hrel
    by_cases hlt : k < m
    · obtain ⟨i, hi⟩ := getElem?_lt (show k < ws.length by rw [← HM.out]; exact hlt)
      have hix := HF.out.ix i (List.mem_of_getElem? hi)
      obtain ⟨j, rfl⟩ : ∃ j : Nat, i = j := ⟨i.toNat, by omega⟩
      have hjn : j < n := by omega
      obtain ⟨t, ht⟩ := getElem?_lt (show j < gs.length by rw [HG.out.1.len]; exact hjn)
      obtain ⟨wb, wo, hwa, hwb, hwc⟩ := ints_at (HIN.out.below HB.out) hi
      obtain ⟨g3, hal, hg, ⟨-, -, hc2⟩, -, hrt⟩ := ten_own (HG.out.1.below HB.out) ht
      have hr := hrt.arg
      have HRD := Lib.hid hr.rd; have HNC := Lib.hid hrt.nilcap
      have hlen := HXL.out t (List.mem_of_getElem? ht)
      have HT := Lib.hid (show flatT gs (ws.take (k + 1)) = flatT gs (ws.take k) ++ t.xs by
        rw [List.take_add_one, hi]
        show flatT gs (ws.take k ++ [(j : Int)]) = _
        rw [flatT_snoc]
        congr 1
        unfold tenAtD
        rw [List.getD_eq_getElem?_getD, show ((j : Nat) : Int).toNat = j by simp, ht]; rfl)
      obtain ⟨q, hq⟩ : ∃ q, q = t.xs.length := ⟨_, rfl⟩
      rw [← hq] at hc2 hlen
      have HQ := Lib.hid hq
      have h1 : ∀ u ∈ t.xs.map (Value.float .f32), u.oneCell' = true := by intro u hu; obtain ⟨x, _, rfl⟩ := List.mem_map.1 hu; rfl
      have H1 := Lib.hid h1
      have HOW := Lib.hid HO.out.1; have HNK := Lib.hid HO.out.2
      have hbs := HB.out.size
      subst hwa hal
      clear hix hg hrt hr hi ht hq h1 HO
      go_wp2_with (at_builtin; refine wp_cat rfl _ _ 25 rfl w3.heap.size i0 (.float .f32 0) 4 Try.underlying25 hi0 hz0 hz1 hz2 rfl _ nk _ rfl HOW.out t.ad q t.cap (t.xs.map (Value.float .f32)) rfl HNC.out (by rw [List.length_map, HQ.out]) HRD.out H1.out ?c3 ?c4 ?c5 ?_)
      case c3 => unfold maxLen; omega
      case c4 => omega
      case c5 => exact hbs
      intro v' w9 hown1 hb1 hbs1
      have HOW2 := Lib.hid hown1; have HB5 := Lib.hid (HB.out.trans hb1)
      clear hown1 hb1 hwc hc2 HRD HNC
      go_wp2
      refine ⟨?rel, ?measure⟩
      case rel => exact ⟨k + 1, nk + q, by go_num, hlt, by omega, Lib.hid ⟨by rw [HT.out, List.map_append]; exact HOW2.out, by rw [HT.out, List.length_append, HNK.out, HQ.out]⟩, HB5⟩
      case measure => simp [intOf]; omega
    · have e : k = m := by omega
      subst e
      have e2 : ws.take k = ws := by rw [HM.out]; exact List.take_length
      rw [e2] at HO
      obtain ⟨ad4, c4, rfl, hr⟩ := RepF.of_owns HO.out.1 (flatT_okF (fun t ht => HG.out.1.ok t ht) ws)
      have HX := Lib.hid (show RepF wr w3.heap.size wr.heap.size ad4 nk c4 (flatT gs ws) ∧ (flatT gs ws).map (cn .f32) = flatG (gradP C) ws from ⟨hr, flatT_can HG.out.2 ws⟩)
      have hni := HNI.out
      have hwl : IntKind.i64.wrap (l : Int) = (l : Int) := wrap_fitL (by omega) (by omega)
      have S4 := Lib.hid (HC.out wr (bthen HB3.out HB.out))
      clear hr e2 HO HIN HXL
      go_wp2
      refine wp_region_mix0 [] (fun W => W.cell? ⟨g, l * 3 + 2, none⟩ = some (.slice (some ⟨tb, tq, none⟩) 1 tc) ∧ W.cell? ⟨tb, tq, none⟩ = some (.float .f32 z)) (fun _ _ _ => False) (fun _ _ _ _ _ => False) (by kernel_rfl) (by kernel_rfl) S4.out (fun W q h => by simpa using h) ?_
      iterate 12 (refine mwalk_plain (by rfl) S4.out (fun K hK W hW => ?_); obtain ⟨e0, e1⟩ := hW; go_simp; refine hK _ ?_; clear hK K e0 e1)
      refine mwalk_nil (fun q9 => ?_)
      have HB5 := Lib.hid (below_drewN (bthen HB2.out (bthen HB3.out HB.out)) q9)
      have hzz : w.heap.size ≤ w3.heap.size := by
        have h1 := HB2.out.size; have h2 := HB3.out.size
        omega
      have HX5 := Lib.hid ((HX.out.1.bounds hzz (Nat.le_refl _)).below (below_drewN (Below.refl _ _) q9))
      go_wp2
      go_ret2
      exact ⟨_, _, _, _, _, rfl, Lib.hid ⟨HX5.out, HZ.out.1, HX.out.2, HZ.out.2⟩, HB5.out⟩
end Go.Proofs.Ytfdgngnnncmfiaa
/- The loss of a model and its gradients: the program's functions on copies of arguments. No condition. -/
namespace Go.Proofs.Ytfdgngnnncmfiaa
open Go Go.RowKit
set_option linter.unusedVariables false
set_option linter.unusedSimpArgs false
set_option maxHeartbeats 4000000 in
set_option maxRecDepth 100000 in
theorem impl_ModelGradients (w : World) (ma : Option Addr) (mk : Nat) (ls : List LayD) (xr xc yr yc : Int) (xa ya : Option Addr) (xk yk : Nat) (xs ys : List Nat) (hls : SeeR layR w ma mk ls) (hx : F32s w xa xk xs) (hy : F32s w ya yk ys) :
    Calls Try.prog 26 #[.agg #[.slice ma ls.length mk], .agg #[.int .i64 xr, .int .i64 xc, .slice xa xs.length xk], .agg #[.int .i64 yr, .int .i64 yc, .slice ya ys.length yk]] w (LPost (modelP (ls.map fun l => l.toLayP.can) ⟨xr, xc, xs.map (cn .f32)⟩ ⟨yr, yc, ys.map (cn .f32)⟩ (shareE ys.length)) w) := by
  have b3 := below3 w (.cells #[.slice ma ls.length mk] 36) (.cells #[.int .i64 xr, .int .i64 xc, .slice xa xs.length xk] 38) (.cells #[.int .i64 yr, .int .i64 yc, .slice ya ys.length yk] 38)
  have K := Lib.hid (impl_modelTape _ ma mk ls xr xc yr yc xa ya xk yk xs ys (hls.below b3) (hx.below b3) (hy.below b3))
  have B3 := Lib.hid b3
  obtain ⟨R, hR⟩ : ∃ R, R = modelP (ls.map fun l => l.toLayP.can) ⟨xr, xc, xs.map (cn .f32)⟩ ⟨yr, yc, ys.map (cn .f32)⟩ (shareE ys.length) := ⟨_, rfl⟩
  rw [← hR] at K ⊢
  have HR := Lib.hid hR
  clear hls hx hy b3 hR
  go_enter Try.func26, Try.ntmps26
  go_wp2_with fail
  refine K.out.mono ?_
  rintro e w6 ⟨ad, n, cap, wa, m, wk, b, rfl, HO, hb⟩
  have HB6 := Lib.hid (bthen B3.out hb)
  clear hb K
  cases b
  · have HRN : Hid (R = none) := Lib.hid (by have := HO.out.1; cases R <;> first | rfl | cases this)
    clear HO HR
    go_wp2
    go_ret3
    exact LPost.none HRN.out rfl HB6.out
  · obtain ⟨C, ws, h1, h2, h3, h4⟩ := HO.out.2.1 rfl
    obtain ⟨us, S, hF⟩ := TapeF.of h4 (HR.out.symm.trans h1) h3
    have K2 := Lib.hid (impl_learned w6 ad n cap wa wk ws C us S hF)
    have HRC := Lib.hid h1
    rw [h2] at K2
    clear hF h4 h3 h1 h2 HR HO
    go_wp2_with fail
    refine K2.out.mono ?_
    rintro e w7 ⟨a2, m2, c2, z, xs1, rfl, HX, hb7⟩
    have HB7 := Lib.hid (bthen HB6.out hb7)
    clear hb7 K2
    go_wp2
    go_ret3
    exact ⟨_, _, _, _, true, xs1, rfl, Lib.hid ⟨⟨⟨by rw [HRC.out]; rfl, HX.out.2.1⟩, by rw [HRC.out, HX.out.2.2.1, HX.out.2.2.2]; rfl⟩, HX.out.1.bounds HB6.out.size (Nat.le_refl _)⟩, HB7.out⟩
set_option maxHeartbeats 4000000 in
set_option maxRecDepth 100000 in
theorem impl_ModelLoss (w : World) (ma : Option Addr) (mk : Nat) (ls : List LayD) (xr xc yr yc : Int) (xa ya : Option Addr) (xk yk : Nat) (xs ys : List Nat) (hls : SeeR layR w ma mk ls) (hx : F32s w xa xk xs) (hy : F32s w ya yk ys) :
    Calls Try.prog 23 #[.agg #[.slice ma ls.length mk], .agg #[.int .i64 xr, .int .i64 xc, .slice xa xs.length xk], .agg #[.int .i64 yr, .int .i64 yc, .slice ya ys.length yk]] w (ZPost (modelP (ls.map fun l => l.toLayP.can) ⟨xr, xc, xs.map (cn .f32)⟩ ⟨yr, yc, ys.map (cn .f32)⟩ (shareE ys.length)) w) := by
  have b3 := below3 w (.cells #[.slice ma ls.length mk] 36) (.cells #[.int .i64 xr, .int .i64 xc, .slice xa xs.length xk] 38) (.cells #[.int .i64 yr, .int .i64 yc, .slice ya ys.length yk] 38)
  have K := Lib.hid (impl_ModelGradients _ ma mk ls xr xc yr yc xa ya xk yk xs ys (hls.below b3) (hx.below b3) (hy.below b3))
  have B3 := Lib.hid b3
  obtain ⟨R, hR⟩ : ∃ R, R = modelP (ls.map fun l => l.toLayP.can) ⟨xr, xc, xs.map (cn .f32)⟩ ⟨yr, yc, ys.map (cn .f32)⟩ (shareE ys.length) := ⟨_, rfl⟩
  rw [← hR] at K ⊢
  clear hls hx hy b3 hR
  go_enter Try.func23, Try.ntmps23
  go_wp2_with fail
  refine K.out.mono ?_
  rintro e w6 ⟨ad, n, cap, z, b, xs1, rfl, HO, hb⟩
  have HB6 := Lib.hid (bthen B3.out hb)
  clear hb K
  go_wp2
  go_ret2
  exact ⟨z, b, rfl, Lib.hid ⟨HO.out.1.1, congrArg Prod.snd HO.out.1.2⟩, HB6.out⟩
end Go.Proofs.Ytfdgngnnncmfiaa
/- What a model learns, as a result: for the walks of laws. No condition. -/
namespace Go.Proofs.Ytfdgngnnncmfiaa
open Go Go.RowKit
set_option linter.unusedVariables false
set_option linter.unusedSimpArgs false
theorem flatG_len {G : List TenP} (hx : ∀ t ∈ G, t.xs.length ≤ 256) (ws : List Int) : (flatG G ws).length ≤ 256 * ws.length := by
  have hd : ∀ i, (vGet G i).xs.length ≤ 256 := by
    intro i
    unfold vGet
    rw [List.getD_eq_getElem?_getD]
    cases e : G[i.toNat]? with
    | none => exact Nat.zero_le _
    | some t => exact hx t (List.mem_of_getElem? e)
  induction ws with
  | nil => exact Nat.zero_le _
  | cons i ws ih =>
    have e : flatG G (i :: ws) = (vGet G i).xs ++ flatG G ws := rfl
    rw [e, List.length_append, List.length_cons]
    have := hd i
    omega
theorem learn_len (ls : List LayP) (X Y : TenP) (num : Nat) : ((learnM (modelP ls X Y num)).getD ([], 0)).1.length ≤ 3072 := by
  cases e : modelP ls X Y num with
  | none => exact Nat.zero_le _
  | some p =>
    obtain ⟨C, ws⟩ := p
    obtain ⟨S, hS, -, -⟩ := modelP_ok e
    have h1 := (modelP_len e).2.2
    have h2 := flatG_len (gradP_ok hS).2 ws
    show (flatG (gradP C) ws).length ≤ 3072
    omega
theorem learn_bound {w : World} {lo hi : Nat} {ad : Option Addr} {n cap : Nat} {xs : List Nat} {L : List LayP} {xr xc yr yc : Int} {xx yy : List Nat} {z : Nat} (h : RepF w lo hi ad n cap xs) (he : (xs.map (cn .f32), cn .f32 z) = (learnM (modelT L xr xc xx yr yc yy)).getD ([], 0)) : n ≤ 3072 := by
  have h1 := congrArg (fun p => p.1.length) he
  simp only [List.length_map] at h1
  rw [← h.len, h1]
  exact learn_len _ _ _ _
theorem F_eq2 (w : World) {lo1 hi1 lo2 hi2 : Nat} {a1 a2 : Option Addr} {n1 n2 c1 c2 : Nat} {xs ys : List Nat} (h1 : RepF w lo1 hi1 a1 n1 c1 xs) (h2 : RepF w lo2 hi2 a2 n2 c2 ys) (he : xs.map (cn .f32) = ys.map (cn .f32)) (hn : n1 ≤ 3072) :
    Calls Try.prog 27 #[.slice a1 n1 c1, .slice a2 n2 c2] w fun e w' => e = .returned (.bool true) ∧ Below w.heap.size w w' := F_eq w h1 h2 he (by omega)
theorem F_mark2 (w : World) {lo hi : Nat} {ad : Option Addr} {n cap : Nat} {xs : List Nat} (k0 : Nat) (h : RepF w lo hi ad n cap xs) (hhi : hi ≤ w.heap.size) (hn : n ≤ 3072) (hk : k0 ≤ 100000000) :
    Calls Try.prog 28 #[.slice ad n cap, .int .i64 k0] w fun e w' => e = .returned (.int .i64 (k0 + n : Nat)) ∧ Hid (RepF w' lo hi ad n cap (markF k0 n)) ∧ Touch lo hi w w' :=
  (F_mark w k0 h (by omega) hk).mono fun e w' ⟨h1, h2, h3⟩ => ⟨h1, Lib.hid h2, h3⟩
theorem F_held2 (w : World) {lo hi : Nat} {ad : Option Addr} {n cap : Nat} (k0 : Nat) (h : RepF w lo hi ad n cap (markF k0 n)) (hn : n ≤ 3072) (hk : k0 ≤ 100000000) :
    Calls Try.prog 29 #[.slice ad n cap, .int .i64 k0] w fun e w' => e = .returned (.int .i64 (k0 + n : Nat)) ∧ w = w' := F_held w k0 h (by omega) hk
theorem spec_ModelGradientsW (w : World) (ma : Option Addr) (mk : Nat) (ls : List LayD) {lo hi n : Nat} (h : OwnR layR w lo hi ma n mk ls) (hi2 : ∀ l ∈ ls, l.ws.length ≤ 1048576 ∧ l.bs.length ≤ 1048576)
    (xr xc : Int) (xa : Option Addr) (xk : Nat) (xs : List Nat) {lo2 hi3 n2 : Nat} (hx : RepF w lo2 hi3 xa n2 xk xs) (hn : xs.length ≤ 1048576) (wr : (Lit.int .i64 xr).wf = true) (wc : (Lit.int .i64 xc).wf = true)
    (yr yc : Int) (ya : Option Addr) (yk : Nat) (ys : List Nat) {lo4 hi5 n4 : Nat} (hy : RepF w lo4 hi5 ya n4 yk ys) (hn2 : ys.length ≤ 1048576) (wr2 : (Lit.int .i64 yr).wf = true) (wc2 : (Lit.int .i64 yc).wf = true) :
    Calls Try.prog 25 #[.agg #[.slice ma ls.length mk], .agg #[.int .i64 xr, .int .i64 xc, .slice xa xs.length xk], .agg #[.int .i64 yr, .int .i64 yc, .slice ya ys.length yk]] w (LPost (modelT (ls.map LayD.toLayP) xr xc xs yr yc ys) w) := by
  rw [← modelT_eq]
  exact spec_ModelGradients w ma mk ls xr xc yr yc xa ya xk yk xs ys h.see hx.arg hy.arg
theorem spec_ModelLossW (w : World) (ma : Option Addr) (mk : Nat) (ls : List LayD) {lo hi n : Nat} (h : OwnR layR w lo hi ma n mk ls) (hi2 : ∀ l ∈ ls, l.ws.length ≤ 1048576 ∧ l.bs.length ≤ 1048576)
    (xr xc : Int) (xa : Option Addr) (xk : Nat) (xs : List Nat) {lo2 hi3 n2 : Nat} (hx : RepF w lo2 hi3 xa n2 xk xs) (hn : xs.length ≤ 1048576) (wr : (Lit.int .i64 xr).wf = true) (wc : (Lit.int .i64 xc).wf = true)
    (yr yc : Int) (ya : Option Addr) (yk : Nat) (ys : List Nat) {lo4 hi5 n4 : Nat} (hy : RepF w lo4 hi5 ya n4 yk ys) (hn2 : ys.length ≤ 1048576) (wr2 : (Lit.int .i64 yr).wf = true) (wc2 : (Lit.int .i64 yc).wf = true) :
    Calls Try.prog 22 #[.agg #[.slice ma ls.length mk], .agg #[.int .i64 xr, .int .i64 xc, .slice xa xs.length xk], .agg #[.int .i64 yr, .int .i64 yc, .slice ya ys.length yk]] w (ZPost (modelT (ls.map LayD.toLayP) xr xc xs yr yc ys) w) := by
  rw [← modelT_eq]
  exact spec_ModelLoss w ma mk ls xr xc yr yc xa ya xk yk xs ys h.see hx.arg hy.arg
theorem impl_ModelGradientsW (w : World) (ma : Option Addr) (mk : Nat) (ls : List LayD) {lo hi n : Nat} (h : OwnR layR w lo hi ma n mk ls) (hi2 : ∀ l ∈ ls, l.ws.length ≤ 1048576 ∧ l.bs.length ≤ 1048576)
    (xr xc : Int) (xa : Option Addr) (xk : Nat) (xs : List Nat) {lo2 hi3 n2 : Nat} (hx : RepF w lo2 hi3 xa n2 xk xs) (hn : xs.length ≤ 1048576) (wr : (Lit.int .i64 xr).wf = true) (wc : (Lit.int .i64 xc).wf = true)
    (yr yc : Int) (ya : Option Addr) (yk : Nat) (ys : List Nat) {lo4 hi5 n4 : Nat} (hy : RepF w lo4 hi5 ya n4 yk ys) (hn2 : ys.length ≤ 1048576) (wr2 : (Lit.int .i64 yr).wf = true) (wc2 : (Lit.int .i64 yc).wf = true) :
    Calls Try.prog 26 #[.agg #[.slice ma ls.length mk], .agg #[.int .i64 xr, .int .i64 xc, .slice xa xs.length xk], .agg #[.int .i64 yr, .int .i64 yc, .slice ya ys.length yk]] w (LPost (modelT (ls.map LayD.toLayP) xr xc xs yr yc ys) w) := by
  rw [← modelT_eq]
  exact impl_ModelGradients w ma mk ls xr xc yr yc xa ya xk yk xs ys h.see hx.arg hy.arg
theorem impl_ModelLossW (w : World) (ma : Option Addr) (mk : Nat) (ls : List LayD) {lo hi n : Nat} (h : OwnR layR w lo hi ma n mk ls) (hi2 : ∀ l ∈ ls, l.ws.length ≤ 1048576 ∧ l.bs.length ≤ 1048576)
    (xr xc : Int) (xa : Option Addr) (xk : Nat) (xs : List Nat) {lo2 hi3 n2 : Nat} (hx : RepF w lo2 hi3 xa n2 xk xs) (hn : xs.length ≤ 1048576) (wr : (Lit.int .i64 xr).wf = true) (wc : (Lit.int .i64 xc).wf = true)
    (yr yc : Int) (ya : Option Addr) (yk : Nat) (ys : List Nat) {lo4 hi5 n4 : Nat} (hy : RepF w lo4 hi5 ya n4 yk ys) (hn2 : ys.length ≤ 1048576) (wr2 : (Lit.int .i64 yr).wf = true) (wc2 : (Lit.int .i64 yc).wf = true) :
    Calls Try.prog 23 #[.agg #[.slice ma ls.length mk], .agg #[.int .i64 xr, .int .i64 xc, .slice xa xs.length xk], .agg #[.int .i64 yr, .int .i64 yc, .slice ya ys.length yk]] w (ZPost (modelT (ls.map LayD.toLayP) xr xc xs yr yc ys) w) := by
  rw [← modelT_eq]
  exact impl_ModelLoss w ma mk ls xr xc yr yc xa ya xk yk xs ys h.see hx.arg hy.arg
end Go.Proofs.Ytfdgngnnncmfiaa
/- The law of ModelGradients, walked. No condition. -/
namespace Go.Proofs.Ytfdgngnnncmfiaa
open Go Go.RowKit
set_option linter.unusedVariables false
set_option linter.unusedSimpArgs false
set_option maxHeartbeats 40000000 in
set_option maxRecDepth 100000 in
theorem fnExactModelGradients_walk (w : World) (a0 : Option Addr) (c0 : Nat) (l0 : List LayD) (A0 : SeeR layR w a0 c0 l0) (r1_ k1_ : Int) (a1 : Option Addr) (c1 : Nat) (l1 : List Nat) (R1 : (Lit.int .i64 r1_).wf = true) (C1 : (Lit.int .i64 k1_).wf = true) (A1 : F32s w a1 c1 l1) (r2_ k2_ : Int) (a2 : Option Addr) (c2 : Nat) (l2 : List Nat) (R2 : (Lit.int .i64 r2_).wf = true) (C2 : (Lit.int .i64 k2_).wf = true) (A2 : F32s w a2 c2 l2) :
    Calls Try.prog 5 #[.agg #[.slice a0 l0.length c0], .agg #[.int .i64 r1_, .int .i64 k1_, .slice a1 l1.length c1], .agg #[.int .i64 r2_, .int .i64 k2_, .slice a2 l2.length c2]] w fun e w' => e = .returned (.bool true) ∧ Below w.heap.size w w' := by
  replace A0 := Lib.hid A0
  replace A1 := Lib.hid A1
  replace A2 := Lib.hid A2
  have B0 := A0
  have B1 := A1
  have B2 := A2
  obtain ⟨L0, hL0⟩ : ∃ L, L = leftBy LayD.n l0 1048576 := ⟨_, rfl⟩
  have KS0 := Lib.hid (fun W (h : SeeR layR W a0 c0 l0) => M_sz W a0 c0 l0 h 1048576 (by decide) (by decide))
  rw [← hL0] at KS0
  have HL0 := Lib.hid hL0; clear hL0
  go_enter Try.func5, Try.ntmps5
  go_wp2_with fail
  obtain ⟨w0, hw0⟩ : ∃ w0, w0 = (((w.alloc (.cells #[.slice a0 l0.length c0] 24)).alloc (.cells #[.int .i64 r1_, .int .i64 k1_, .slice a1 l1.length c1] 27)).alloc (.cells #[.int .i64 r2_, .int .i64 k2_, .slice a2 l2.length c2] 27)) := ⟨_, rfl⟩
  rw [← hw0]
  have hb : Below w.heap.size w w0 := by rw [hw0]; exact below3 w (.cells #[.slice a0 l0.length c0] 24) (.cells #[.int .i64 r1_, .int .i64 k1_, .slice a1 l1.length c1] 27) (.cells #[.int .i64 r2_, .int .i64 k2_, .slice a2 l2.length c2] 27)
  have BX0 : Hid (BoxN w0 w.heap.size [.slice a0 l0.length c0]) := Lib.hid (by rw [hw0]; exact ((BoxN.alloc w #[.slice a0 l0.length c0] 24).below (below1 _ (.cells #[.int .i64 r1_, .int .i64 k1_, .slice a1 l1.length c1] 27))).below (below1 _ (.cells #[.int .i64 r2_, .int .i64 k2_, .slice a2 l2.length c2] 27)))
  have BX1 : Hid (BoxN w0 (w.heap.size + 1) [.int .i64 r1_, .int .i64 k1_, .slice a1 l1.length c1]) := Lib.hid (by rw [hw0]; exact (BoxN.alloc2 w _ #[.int .i64 r1_, .int .i64 k1_, .slice a1 l1.length c1] 27).below (below1 _ (.cells #[.int .i64 r2_, .int .i64 k2_, .slice a2 l2.length c2] 27)))
  have BX2 : Hid (BoxN w0 (w.heap.size + 2) [.int .i64 r2_, .int .i64 k2_, .slice a2 l2.length c2]) := Lib.hid (by rw [hw0]; exact BoxN.alloc3 w _ _ #[.int .i64 r2_, .int .i64 k2_, .slice a2 l2.length c2] 27)
  have z0 : w.heap.size + 3 ≤ w0.heap.size := by rw [hw0]; simp
  clear hw0
  replace A0 := Lib.hid (A0.out.below hb)
  replace A1 := Lib.hid (A1.out.below hb)
  replace A2 := Lib.hid (A2.out.below hb)
  have b0 := Lib.hid hb; clear hb
  obtain ⟨-, BX0_0, -⟩ := BX0.out.one1
  obtain ⟨-, BX1_0, BX1_1, BX1_2, -⟩ := BX1.out.three
  obtain ⟨-, BX2_0, BX2_1, BX2_2, -⟩ := BX2.out.three
  refine (KS0.out _ A0.out).mono ?_
  rintro e w1 ⟨rfl, hb⟩
  clear BX0_0 BX1_0 BX1_1 BX1_2 BX2_0 BX2_1 BX2_2
  replace BX0 := Lib.hid (BX0.out.below hb)
  replace BX1 := Lib.hid (BX1.out.below hb)
  replace BX2 := Lib.hid (BX2.out.below hb)
  replace A0 := Lib.hid (A0.out.below hb)
  replace A1 := Lib.hid (A1.out.below hb)
  replace A2 := Lib.hid (A2.out.below hb)
  have z1 : w0.heap.size ≤ w1.heap.size := hb.size
  have b1 := Lib.hid (bthen b0.out hb); clear b0
  clear hb
  by_cases hp0 : 0 ≤ L0
  rotate_left
  · have hp0 : L0 < 0 := by omega
    go_wp2
    go_ret
    exact ⟨rfl, b1.out⟩
  have hS0 := left_boundsM HL0.out hp0 (by decide)
  have hn0 := hS0.1; have hq0 := hS0.2.1; have HI0 := Lib.hid hS0.2.2.1; have ht0 := hS0.2.2.2; clear hS0
  obtain ⟨L1, hL1⟩ : ∃ L : Int, L = if (l1.length : Int) ≤ L0 then L0 - l1.length else -1 := ⟨_, rfl⟩
  have KS1 := Lib.hid (fun W => T_sz W r1_ k1_ a1 l1.length c1 L0 (Nat.le_trans A1.out.len A1.out.cap) hp0 hq0)
  rw [← hL1] at KS1
  have HL1 := Lib.hid hL1; clear hL1
  obtain ⟨-, BX0_0, -⟩ := BX0.out.one1
  obtain ⟨-, BX1_0, BX1_1, BX1_2, -⟩ := BX1.out.three
  obtain ⟨-, BX2_0, BX2_1, BX2_2, -⟩ := BX2.out.three
  go_wp2_with fail
  refine (KS1.out _).mono ?_
  rintro e w2 ⟨rfl, hb⟩
  clear BX0_0 BX1_0 BX1_1 BX1_2 BX2_0 BX2_1 BX2_2
  replace BX0 := Lib.hid (BX0.out.below hb)
  replace BX1 := Lib.hid (BX1.out.below hb)
  replace BX2 := Lib.hid (BX2.out.below hb)
  replace A0 := Lib.hid (A0.out.below hb)
  replace A1 := Lib.hid (A1.out.below hb)
  replace A2 := Lib.hid (A2.out.below hb)
  have z2 : w1.heap.size ≤ w2.heap.size := hb.size
  have b2 := Lib.hid (bthen b1.out hb); clear b1
  clear hb
  by_cases hp1 : 0 ≤ L1
  rotate_left
  · have hp1 : L1 < 0 := by omega
    go_wp2
    go_ret
    exact ⟨rfl, b2.out⟩
  have hS1 := left_bound1 HL1.out hp1 (by omega)
  have hn1 := hS1.1; have hq1 := hS1.2; clear hS1
  obtain ⟨L2, hL2⟩ : ∃ L : Int, L = if (l2.length : Int) ≤ L1 then L1 - l2.length else -1 := ⟨_, rfl⟩
  have KS2 := Lib.hid (fun W => T_sz W r2_ k2_ a2 l2.length c2 L1 (Nat.le_trans A2.out.len A2.out.cap) hp1 hq1)
  rw [← hL2] at KS2
  have HL2 := Lib.hid hL2; clear hL2
  obtain ⟨-, BX0_0, -⟩ := BX0.out.one1
  obtain ⟨-, BX1_0, BX1_1, BX1_2, -⟩ := BX1.out.three
  obtain ⟨-, BX2_0, BX2_1, BX2_2, -⟩ := BX2.out.three
  go_wp2_with fail
  refine (KS2.out _).mono ?_
  rintro e w3 ⟨rfl, hb⟩
  clear BX0_0 BX1_0 BX1_1 BX1_2 BX2_0 BX2_1 BX2_2
  replace BX0 := Lib.hid (BX0.out.below hb)
  replace BX1 := Lib.hid (BX1.out.below hb)
  replace BX2 := Lib.hid (BX2.out.below hb)
  replace A0 := Lib.hid (A0.out.below hb)
  replace A1 := Lib.hid (A1.out.below hb)
  replace A2 := Lib.hid (A2.out.below hb)
  have z3 : w2.heap.size ≤ w3.heap.size := hb.size
  have b3 := Lib.hid (bthen b2.out hb); clear b2
  clear hb
  by_cases hp2 : 0 ≤ L2
  rotate_left
  · have hp2 : L2 < 0 := by omega
    go_wp2
    go_ret
    exact ⟨rfl, b3.out⟩
  have hS2 := left_bound1 HL2.out hp2 (by omega)
  have hn2 := hS2.1; have hq2 := hS2.2; clear hS2
  obtain ⟨-, BX0_0, -⟩ := BX0.out.one1
  obtain ⟨-, BX1_0, BX1_1, BX1_2, -⟩ := BX1.out.three
  obtain ⟨-, BX2_0, BX2_1, BX2_2, -⟩ := BX2.out.three
  go_wp2_with fail
  go_region_held3 (fun w' => w'.cell? ⟨w.heap.size, 0, none⟩ = some (.slice a0 l0.length c0) ∧ w'.cell? ⟨w.heap.size + 1, 0, none⟩ = some (.int .i64 r1_) ∧ w'.cell? ⟨w.heap.size + 1, 1, none⟩ = some (.int .i64 k1_) ∧ w'.cell? ⟨w.heap.size + 1, 2, none⟩ = some (.slice a1 l1.length c1) ∧ w'.cell? ⟨w.heap.size + 2, 0, none⟩ = some (.int .i64 r2_) ∧ w'.cell? ⟨w.heap.size + 2, 1, none⟩ = some (.int .i64 k2_) ∧ w'.cell? ⟨w.heap.size + 2, 2, none⟩ = some (.slice a2 l2.length c2)) (go_keep)
    (first
      | (((go_at_call 9); (refine (M_toD w3 a0 c0 l0 A0.out hn0 HI0.out).mono ?_); (rintro e w4 ⟨p_t0, q_t0, o_t0, rfl, he_t0, t0, hb⟩); (have E_t0 := Lib.hid he_t0); (have hlen_t0 : o_t0.length = l0.length := by have := congrArg List.length he_t0; simpa using this); (have N_t0 := Lib.hid hlen_t0; clear he_t0 hlen_t0); (clear BX0_0 BX1_0 BX1_1 BX1_2 BX2_0 BX2_1 BX2_2); (replace BX0 := Lib.hid (BX0.out.below hb)); (replace BX1 := Lib.hid (BX1.out.below hb)); (replace BX2 := Lib.hid (BX2.out.below hb)); (replace A0 := Lib.hid (A0.out.below hb)); (replace A1 := Lib.hid (A1.out.below hb)); (replace A2 := Lib.hid (A2.out.below hb)); (have z4 : w3.heap.size ≤ w4.heap.size := hb.size); (have b4 := Lib.hid (bthen b3.out hb); clear b3); (clear hb); (obtain ⟨-, BX0_0, -⟩ := BX0.out.one1); (obtain ⟨-, BX1_0, BX1_1, BX1_2, -⟩ := BX1.out.three); (obtain ⟨-, BX2_0, BX2_1, BX2_2, -⟩ := BX2.out.three)))
      | (((go_at_call 10); (with_reducible refine (T_to _ r1_ k1_ a1 c1 l1 A1.out hn1).mono ?_); (rintro e w5 ⟨p_t1, q_t1, rfl, t1, hb⟩); (clear BX0_0 BX1_0 BX1_1 BX1_2 BX2_0 BX2_1 BX2_2); (replace BX0 := Lib.hid (BX0.out.below hb)); (replace BX1 := Lib.hid (BX1.out.below hb)); (replace BX2 := Lib.hid (BX2.out.below hb)); (replace t0 := Lib.hid (t0.out.below hb)); (replace A0 := Lib.hid (A0.out.below hb)); (replace A1 := Lib.hid (A1.out.below hb)); (replace A2 := Lib.hid (A2.out.below hb)); (have z5 : w4.heap.size ≤ w5.heap.size := hb.size); (have b5 := Lib.hid (bthen b4.out hb); clear b4); (clear hb); (obtain ⟨-, BX0_0, -⟩ := BX0.out.one1); (obtain ⟨-, BX1_0, BX1_1, BX1_2, -⟩ := BX1.out.three); (obtain ⟨-, BX2_0, BX2_1, BX2_2, -⟩ := BX2.out.three)))
      | (((go_at_call 10); (with_reducible refine (T_to _ r2_ k2_ a2 c2 l2 A2.out hn2).mono ?_); (rintro e w6 ⟨p_t2, q_t2, rfl, t2, hb⟩); (clear BX0_0 BX1_0 BX1_1 BX1_2 BX2_0 BX2_1 BX2_2); (replace BX0 := Lib.hid (BX0.out.below hb)); (replace BX1 := Lib.hid (BX1.out.below hb)); (replace BX2 := Lib.hid (BX2.out.below hb)); (replace t0 := Lib.hid (t0.out.below hb)); (replace t1 := Lib.hid (t1.out.below hb)); (replace A0 := Lib.hid (A0.out.below hb)); (replace A1 := Lib.hid (A1.out.below hb)); (replace A2 := Lib.hid (A2.out.below hb)); (have z6 : w5.heap.size ≤ w6.heap.size := hb.size); (have b6 := Lib.hid (bthen b5.out hb); clear b5); (clear hb); (obtain ⟨-, BX0_0, -⟩ := BX0.out.one1); (obtain ⟨-, BX1_0, BX1_1, BX1_2, -⟩ := BX1.out.three); (obtain ⟨-, BX2_0, BX2_1, BX2_2, -⟩ := BX2.out.three)))
      | (((go_at_call 25); (have hK := spec_ModelGradientsW w6 p_t0 q_t0 o_t0 t0.out (lens_ofM E_t0.out HI0.out) r1_ k1_ p_t1 q_t1 l1 t1.out hn1 R1 C1 r2_ k2_ p_t2 q_t2 l2 t2.out hn2 R2 C2); (rw [N_t0.out, E_t0.out] at hK); (have HK := Lib.hid hK; clear hK); (refine HK.out.mono ?_); (rintro e w7 ⟨ad_s0, n_s0, cp_s0, v_s1, v_s2, y_s0, rfl, HO_s, hb⟩); (clear HK); (have Q_s0 := Lib.hid (congrArg Prod.fst HO_s.out.1.2)); (have Q_s1 := Lib.hid (congrArg Prod.snd HO_s.out.1.2)); (have V_s := Lib.hid HO_s.out.1.1.1); (have M_s0 := Lib.hid (show n_s0 ≤ 3072 from learn_bound HO_s.out.2 HO_s.out.1.2)); (have s0 := Lib.hid HO_s.out.2; clear HO_s); (clear BX0_0 BX1_0 BX1_1 BX1_2 BX2_0 BX2_1 BX2_2); (replace BX0 := Lib.hid (BX0.out.below hb)); (replace BX1 := Lib.hid (BX1.out.below hb)); (replace BX2 := Lib.hid (BX2.out.below hb)); (replace t0 := Lib.hid (t0.out.below hb)); (replace t1 := Lib.hid (t1.out.below hb)); (replace t2 := Lib.hid (t2.out.below hb)); (replace A0 := Lib.hid (A0.out.below hb)); (replace A1 := Lib.hid (A1.out.below hb)); (replace A2 := Lib.hid (A2.out.below hb)); (have z7 : w6.heap.size ≤ w7.heap.size := hb.size); (have b7 := Lib.hid (bthen b6.out hb); clear b6); (clear hb); (obtain ⟨-, BX0_0, -⟩ := BX0.out.one1); (obtain ⟨-, BX1_0, BX1_1, BX1_2, -⟩ := BX1.out.three); (obtain ⟨-, BX2_0, BX2_1, BX2_2, -⟩ := BX2.out.three))))
  clear BX0_0 BX1_0 BX1_1 BX1_2 BX2_0 BX2_1 BX2_2
  try go_wp2_with fail
  clear t0
  try clear E_t0 N_t0
  clear t1
  try clear E_t1 N_t1
  clear t2
  try clear E_t2 N_t2
  obtain ⟨-, BX0_0, -⟩ := BX0.out.one1
  obtain ⟨-, BX1_0, BX1_1, BX1_2, -⟩ := BX1.out.three
  obtain ⟨-, BX2_0, BX2_1, BX2_2, -⟩ := BX2.out.three
  go_wp2_with fail
  refine (M_to _ a0 c0 l0 A0.out hn0 HI0.out).mono ?_
  rintro e w8 ⟨p_x0, q_x0, o_x0, rfl, he_x0, x0, hb⟩
  have E_x0 := Lib.hid he_x0
  have hlen_x0 : o_x0.length = l0.length := by have := congrArg List.length he_x0; simpa using this
  have N_x0 := Lib.hid hlen_x0; clear he_x0 hlen_x0
  clear BX0_0 BX1_0 BX1_1 BX1_2 BX2_0 BX2_1 BX2_2
  replace BX0 := Lib.hid (BX0.out.below hb)
  replace BX1 := Lib.hid (BX1.out.below hb)
  replace BX2 := Lib.hid (BX2.out.below hb)
  replace s0 := Lib.hid (s0.out.below hb)
  replace A0 := Lib.hid (A0.out.below hb)
  replace A1 := Lib.hid (A1.out.below hb)
  replace A2 := Lib.hid (A2.out.below hb)
  have z8 : w7.heap.size ≤ w8.heap.size := hb.size
  have b8 := Lib.hid (bthen b7.out hb); clear b7
  clear hb
  obtain ⟨-, BX0_0, -⟩ := BX0.out.one1
  obtain ⟨-, BX1_0, BX1_1, BX1_2, -⟩ := BX1.out.three
  obtain ⟨-, BX2_0, BX2_1, BX2_2, -⟩ := BX2.out.three
  go_upto_region 13 with fail
  obtain ⟨w9, hw0⟩ : ∃ W, W = w8.alloc (.cells #[.slice p_x0 l0.length q_x0] 36) := ⟨_, rfl⟩
  rw [← hw0]
  have hb : Below w8.heap.size w8 w9 := by rw [hw0]; exact below1 w8 (.cells #[.slice p_x0 l0.length q_x0] 36)
  clear BX0_0 BX1_0 BX1_1 BX1_2 BX2_0 BX2_1 BX2_2
  replace BX0 := Lib.hid (BX0.out.below hb)
  replace BX1 := Lib.hid (BX1.out.below hb)
  replace BX2 := Lib.hid (BX2.out.below hb)
  replace s0 := Lib.hid (s0.out.below hb)
  replace x0 := Lib.hid (x0.out.below hb)
  replace A0 := Lib.hid (A0.out.below hb)
  replace A1 := Lib.hid (A1.out.below hb)
  replace A2 := Lib.hid (A2.out.below hb)
  have z9 : w8.heap.size + 1 ≤ w9.heap.size := by rw [hw0]; simp
  have b9 := Lib.hid (bthen b8.out hb); clear b8
  clear hb
  have BXx0 : Hid (BoxN w9 w8.heap.size [.slice p_x0 l0.length q_x0]) := Lib.hid (by rw [hw0]; exact BoxN.alloc w8 #[.slice p_x0 l0.length q_x0] 36)
  clear hw0
  obtain ⟨-, BX0_0, -⟩ := BX0.out.one1
  obtain ⟨-, BX1_0, BX1_1, BX1_2, -⟩ := BX1.out.three
  obtain ⟨-, BX2_0, BX2_1, BX2_2, -⟩ := BX2.out.three
  obtain ⟨-, BXx0_0, -⟩ := BXx0.out.one1
  go_wp2_with fail
  refine (T_to _ r1_ k1_ a1 c1 l1 A1.out hn1).mono ?_
  rintro e w10 ⟨p_x1, q_x1, rfl, x1, hb⟩
  clear BX0_0 BX1_0 BX1_1 BX1_2 BX2_0 BX2_1 BX2_2 BXx0_0
  replace BX0 := Lib.hid (BX0.out.below hb)
  replace BX1 := Lib.hid (BX1.out.below hb)
  replace BX2 := Lib.hid (BX2.out.below hb)
  replace BXx0 := Lib.hid (BXx0.out.below hb)
  replace s0 := Lib.hid (s0.out.below hb)
  replace x0 := Lib.hid (x0.out.below hb)
  replace A0 := Lib.hid (A0.out.below hb)
  replace A1 := Lib.hid (A1.out.below hb)
  replace A2 := Lib.hid (A2.out.below hb)
  have z10 : w9.heap.size ≤ w10.heap.size := hb.size
  have b10 := Lib.hid (bthen b9.out hb); clear b9
  clear hb
  obtain ⟨-, BX0_0, -⟩ := BX0.out.one1
  obtain ⟨-, BX1_0, BX1_1, BX1_2, -⟩ := BX1.out.three
  obtain ⟨-, BX2_0, BX2_1, BX2_2, -⟩ := BX2.out.three
  obtain ⟨-, BXx0_0, -⟩ := BXx0.out.one1
  go_upto_region 14 with fail
  obtain ⟨w11, hw0⟩ : ∃ W, W = w10.alloc (.cells #[.int .i64 r1_, .int .i64 k1_, .slice p_x1 l1.length q_x1] 38) := ⟨_, rfl⟩
  rw [← hw0]
  have hb : Below w10.heap.size w10 w11 := by rw [hw0]; exact below1 w10 (.cells #[.int .i64 r1_, .int .i64 k1_, .slice p_x1 l1.length q_x1] 38)
  clear BX0_0 BX1_0 BX1_1 BX1_2 BX2_0 BX2_1 BX2_2 BXx0_0
  replace BX0 := Lib.hid (BX0.out.below hb)
  replace BX1 := Lib.hid (BX1.out.below hb)
  replace BX2 := Lib.hid (BX2.out.below hb)
  replace BXx0 := Lib.hid (BXx0.out.below hb)
  replace s0 := Lib.hid (s0.out.below hb)
  replace x0 := Lib.hid (x0.out.below hb)
  replace x1 := Lib.hid (x1.out.below hb)
  replace A0 := Lib.hid (A0.out.below hb)
  replace A1 := Lib.hid (A1.out.below hb)
  replace A2 := Lib.hid (A2.out.below hb)
  have z11 : w10.heap.size + 1 ≤ w11.heap.size := by rw [hw0]; simp
  have b11 := Lib.hid (bthen b10.out hb); clear b10
  clear hb
  have BXx1 : Hid (BoxN w11 w10.heap.size [.int .i64 r1_, .int .i64 k1_, .slice p_x1 l1.length q_x1]) := Lib.hid (by rw [hw0]; exact BoxN.alloc w10 #[.int .i64 r1_, .int .i64 k1_, .slice p_x1 l1.length q_x1] 38)
  clear hw0
  obtain ⟨-, BX0_0, -⟩ := BX0.out.one1
  obtain ⟨-, BX1_0, BX1_1, BX1_2, -⟩ := BX1.out.three
  obtain ⟨-, BX2_0, BX2_1, BX2_2, -⟩ := BX2.out.three
  obtain ⟨-, BXx0_0, -⟩ := BXx0.out.one1
  obtain ⟨-, BXx1_0, BXx1_1, BXx1_2, -⟩ := BXx1.out.three
  go_wp2_with fail
  refine (T_to _ r2_ k2_ a2 c2 l2 A2.out hn2).mono ?_
  rintro e w12 ⟨p_x2, q_x2, rfl, x2, hb⟩
  clear BX0_0 BX1_0 BX1_1 BX1_2 BX2_0 BX2_1 BX2_2 BXx0_0 BXx1_0 BXx1_1 BXx1_2
  replace BX0 := Lib.hid (BX0.out.below hb)
  replace BX1 := Lib.hid (BX1.out.below hb)
  replace BX2 := Lib.hid (BX2.out.below hb)
  replace BXx0 := Lib.hid (BXx0.out.below hb)
  replace BXx1 := Lib.hid (BXx1.out.below hb)
  replace s0 := Lib.hid (s0.out.below hb)
  replace x0 := Lib.hid (x0.out.below hb)
  replace x1 := Lib.hid (x1.out.below hb)
  replace A0 := Lib.hid (A0.out.below hb)
  replace A1 := Lib.hid (A1.out.below hb)
  replace A2 := Lib.hid (A2.out.below hb)
  have z12 : w11.heap.size ≤ w12.heap.size := hb.size
  have b12 := Lib.hid (bthen b11.out hb); clear b11
  clear hb
  obtain ⟨-, BX0_0, -⟩ := BX0.out.one1
  obtain ⟨-, BX1_0, BX1_1, BX1_2, -⟩ := BX1.out.three
  obtain ⟨-, BX2_0, BX2_1, BX2_2, -⟩ := BX2.out.three
  obtain ⟨-, BXx0_0, -⟩ := BXx0.out.one1
  obtain ⟨-, BXx1_0, BXx1_1, BXx1_2, -⟩ := BXx1.out.three
  go_upto_region 15 with fail
  obtain ⟨w13, hw0⟩ : ∃ W, W = w12.alloc (.cells #[.int .i64 r2_, .int .i64 k2_, .slice p_x2 l2.length q_x2] 38) := ⟨_, rfl⟩
  rw [← hw0]
  have hb : Below w12.heap.size w12 w13 := by rw [hw0]; exact below1 w12 (.cells #[.int .i64 r2_, .int .i64 k2_, .slice p_x2 l2.length q_x2] 38)
  clear BX0_0 BX1_0 BX1_1 BX1_2 BX2_0 BX2_1 BX2_2 BXx0_0 BXx1_0 BXx1_1 BXx1_2
  replace BX0 := Lib.hid (BX0.out.below hb)
  replace BX1 := Lib.hid (BX1.out.below hb)
  replace BX2 := Lib.hid (BX2.out.below hb)
  replace BXx0 := Lib.hid (BXx0.out.below hb)
  replace BXx1 := Lib.hid (BXx1.out.below hb)
  replace s0 := Lib.hid (s0.out.below hb)
  replace x0 := Lib.hid (x0.out.below hb)
  replace x1 := Lib.hid (x1.out.below hb)
  replace x2 := Lib.hid (x2.out.below hb)
  replace A0 := Lib.hid (A0.out.below hb)
  replace A1 := Lib.hid (A1.out.below hb)
  replace A2 := Lib.hid (A2.out.below hb)
  have z13 : w12.heap.size + 1 ≤ w13.heap.size := by rw [hw0]; simp
  have b13 := Lib.hid (bthen b12.out hb); clear b12
  clear hb
  have BXx2 : Hid (BoxN w13 w12.heap.size [.int .i64 r2_, .int .i64 k2_, .slice p_x2 l2.length q_x2]) := Lib.hid (by rw [hw0]; exact BoxN.alloc w12 #[.int .i64 r2_, .int .i64 k2_, .slice p_x2 l2.length q_x2] 38)
  clear hw0
  obtain ⟨-, BX0_0, -⟩ := BX0.out.one1
  obtain ⟨-, BX1_0, BX1_1, BX1_2, -⟩ := BX1.out.three
  obtain ⟨-, BX2_0, BX2_1, BX2_2, -⟩ := BX2.out.three
  obtain ⟨-, BXx0_0, -⟩ := BXx0.out.one1
  obtain ⟨-, BXx1_0, BXx1_1, BXx1_2, -⟩ := BXx1.out.three
  obtain ⟨-, BXx2_0, BXx2_1, BXx2_2, -⟩ := BXx2.out.three
  go_wp2_with fail
  have hK := impl_ModelGradientsW w13 p_x0 q_x0 o_x0 x0.out (lens_ofM E_x0.out HI0.out) r1_ k1_ p_x1 q_x1 l1 x1.out hn1 R1 C1 r2_ k2_ p_x2 q_x2 l2 x2.out hn2 R2 C2
  rw [N_x0.out, E_x0.out] at hK
  have HK := Lib.hid hK; clear hK
  refine HK.out.mono ?_
  rintro e w14 ⟨ad_g0, n_g0, cp_g0, v_g1, v_g2, y_g0, rfl, HO_g, hb⟩
  clear HK
  have Q_g0 := Lib.hid (congrArg Prod.fst HO_g.out.1.2)
  have Q_g1 := Lib.hid (congrArg Prod.snd HO_g.out.1.2)
  have V_g := Lib.hid HO_g.out.1.1.1
  have M_g0 := Lib.hid (show n_g0 ≤ 3072 from learn_bound HO_g.out.2 HO_g.out.1.2)
  have g0 := Lib.hid HO_g.out.2; clear HO_g
  clear BX0_0 BX1_0 BX1_1 BX1_2 BX2_0 BX2_1 BX2_2 BXx0_0 BXx1_0 BXx1_1 BXx1_2 BXx2_0 BXx2_1 BXx2_2
  replace BX0 := Lib.hid (BX0.out.below hb)
  replace BX1 := Lib.hid (BX1.out.below hb)
  replace BX2 := Lib.hid (BX2.out.below hb)
  replace BXx0 := Lib.hid (BXx0.out.below hb)
  replace BXx1 := Lib.hid (BXx1.out.below hb)
  replace BXx2 := Lib.hid (BXx2.out.below hb)
  replace s0 := Lib.hid (s0.out.below hb)
  replace x0 := Lib.hid (x0.out.below hb)
  replace x1 := Lib.hid (x1.out.below hb)
  replace x2 := Lib.hid (x2.out.below hb)
  replace A0 := Lib.hid (A0.out.below hb)
  replace A1 := Lib.hid (A1.out.below hb)
  replace A2 := Lib.hid (A2.out.below hb)
  have z14 : w13.heap.size ≤ w14.heap.size := hb.size
  have b14 := Lib.hid (bthen b13.out hb); clear b13
  clear hb
  obtain rfl : v_s2 = v_g2 := V_s.out.trans V_g.out.symm
  obtain ⟨-, BX0_0, -⟩ := BX0.out.one1
  obtain ⟨-, BX1_0, BX1_1, BX1_2, -⟩ := BX1.out.three
  obtain ⟨-, BX2_0, BX2_1, BX2_2, -⟩ := BX2.out.three
  obtain ⟨-, BXx0_0, -⟩ := BXx0.out.one1
  obtain ⟨-, BXx1_0, BXx1_1, BXx1_2, -⟩ := BXx1.out.three
  obtain ⟨-, BXx2_0, BXx2_1, BXx2_2, -⟩ := BXx2.out.three
  go_wp2_with fail
  refine (F_eq2 _ g0.out s0.out (by rw [Q_g0.out, Q_s0.out]) M_g0.out).mono ?_
  rintro e w15 ⟨rfl, hb⟩
  clear BX0_0 BX1_0 BX1_1 BX1_2 BX2_0 BX2_1 BX2_2 BXx0_0 BXx1_0 BXx1_1 BXx1_2 BXx2_0 BXx2_1 BXx2_2
  replace BX0 := Lib.hid (BX0.out.below hb)
  replace BX1 := Lib.hid (BX1.out.below hb)
  replace BX2 := Lib.hid (BX2.out.below hb)
  replace BXx0 := Lib.hid (BXx0.out.below hb)
  replace BXx1 := Lib.hid (BXx1.out.below hb)
  replace BXx2 := Lib.hid (BXx2.out.below hb)
  replace s0 := Lib.hid (s0.out.below hb)
  replace x0 := Lib.hid (x0.out.below hb)
  replace x1 := Lib.hid (x1.out.below hb)
  replace x2 := Lib.hid (x2.out.below hb)
  replace g0 := Lib.hid (g0.out.below hb)
  replace A0 := Lib.hid (A0.out.below hb)
  replace A1 := Lib.hid (A1.out.below hb)
  replace A2 := Lib.hid (A2.out.below hb)
  have z15 : w14.heap.size ≤ w15.heap.size := hb.size
  have b15 := Lib.hid (bthen b14.out hb); clear b14
  clear hb
  obtain ⟨-, BX0_0, -⟩ := BX0.out.one1
  obtain ⟨-, BX1_0, BX1_1, BX1_2, -⟩ := BX1.out.three
  obtain ⟨-, BX2_0, BX2_1, BX2_2, -⟩ := BX2.out.three
  obtain ⟨-, BXx0_0, -⟩ := BXx0.out.one1
  obtain ⟨-, BXx1_0, BXx1_1, BXx1_2, -⟩ := BXx1.out.three
  obtain ⟨-, BXx2_0, BXx2_1, BXx2_2, -⟩ := BXx2.out.three
  go_wp2_with fail
  refine (sameFloat_any _ _ (by rw [cn_wide, cn_wide, Q_g1.out, Q_s1.out]) _).mono ?_
  rintro e w16 ⟨rfl, hd⟩
  have hb : Below w15.heap.size w15 w16 := (below_drewN (Below.refl _ _) _).trans hd.below; clear hd
  clear BX0_0 BX1_0 BX1_1 BX1_2 BX2_0 BX2_1 BX2_2 BXx0_0 BXx1_0 BXx1_1 BXx1_2 BXx2_0 BXx2_1 BXx2_2
  replace BX0 := Lib.hid (BX0.out.below hb)
  replace BX1 := Lib.hid (BX1.out.below hb)
  replace BX2 := Lib.hid (BX2.out.below hb)
  replace BXx0 := Lib.hid (BXx0.out.below hb)
  replace BXx1 := Lib.hid (BXx1.out.below hb)
  replace BXx2 := Lib.hid (BXx2.out.below hb)
  replace s0 := Lib.hid (s0.out.below hb)
  replace x0 := Lib.hid (x0.out.below hb)
  replace x1 := Lib.hid (x1.out.below hb)
  replace x2 := Lib.hid (x2.out.below hb)
  replace g0 := Lib.hid (g0.out.below hb)
  replace A0 := Lib.hid (A0.out.below hb)
  replace A1 := Lib.hid (A1.out.below hb)
  replace A2 := Lib.hid (A2.out.below hb)
  have z16 : w15.heap.size ≤ w16.heap.size := hb.size
  have b16 := Lib.hid (bthen b15.out hb); clear b15
  clear hb
  obtain ⟨-, BX0_0, -⟩ := BX0.out.one1
  obtain ⟨-, BX1_0, BX1_1, BX1_2, -⟩ := BX1.out.three
  obtain ⟨-, BX2_0, BX2_1, BX2_2, -⟩ := BX2.out.three
  obtain ⟨-, BXx0_0, -⟩ := BXx0.out.one1
  obtain ⟨-, BXx1_0, BXx1_1, BXx1_2, -⟩ := BXx1.out.three
  obtain ⟨-, BXx2_0, BXx2_1, BXx2_2, -⟩ := BXx2.out.three
  go_wp2_with fail
  go_region_held3 (fun w' => w'.cell? ⟨w.heap.size, 0, none⟩ = some (.slice a0 l0.length c0) ∧ w'.cell? ⟨w.heap.size + 1, 0, none⟩ = some (.int .i64 r1_) ∧ w'.cell? ⟨w.heap.size + 1, 1, none⟩ = some (.int .i64 k1_) ∧ w'.cell? ⟨w.heap.size + 1, 2, none⟩ = some (.slice a1 l1.length c1) ∧ w'.cell? ⟨w.heap.size + 2, 0, none⟩ = some (.int .i64 r2_) ∧ w'.cell? ⟨w.heap.size + 2, 1, none⟩ = some (.int .i64 k2_) ∧ w'.cell? ⟨w.heap.size + 2, 2, none⟩ = some (.slice a2 l2.length c2) ∧ w'.cell? ⟨w8.heap.size, 0, none⟩ = some (.slice p_x0 l0.length q_x0) ∧ w'.cell? ⟨w10.heap.size, 0, none⟩ = some (.int .i64 r1_) ∧ w'.cell? ⟨w10.heap.size, 1, none⟩ = some (.int .i64 k1_) ∧ w'.cell? ⟨w10.heap.size, 2, none⟩ = some (.slice p_x1 l1.length q_x1) ∧ w'.cell? ⟨w12.heap.size, 0, none⟩ = some (.int .i64 r2_) ∧ w'.cell? ⟨w12.heap.size, 1, none⟩ = some (.int .i64 k2_) ∧ w'.cell? ⟨w12.heap.size, 2, none⟩ = some (.slice p_x2 l2.length q_x2)) (go_keep)
    (first
      | (((go_at_call 9); (refine (M_toD w16 a0 c0 l0 A0.out hn0 HI0.out).mono ?_); (rintro e w17 ⟨p_t0, q_t0, o_t0, rfl, he_t0, t0, hb⟩); (have E_t0 := Lib.hid he_t0); (have hlen_t0 : o_t0.length = l0.length := by have := congrArg List.length he_t0; simpa using this); (have N_t0 := Lib.hid hlen_t0; clear he_t0 hlen_t0); (clear BX0_0 BX1_0 BX1_1 BX1_2 BX2_0 BX2_1 BX2_2 BXx0_0 BXx1_0 BXx1_1 BXx1_2 BXx2_0 BXx2_1 BXx2_2); (replace BX0 := Lib.hid (BX0.out.below hb)); (replace BX1 := Lib.hid (BX1.out.below hb)); (replace BX2 := Lib.hid (BX2.out.below hb)); (replace BXx0 := Lib.hid (BXx0.out.below hb)); (replace BXx1 := Lib.hid (BXx1.out.below hb)); (replace BXx2 := Lib.hid (BXx2.out.below hb)); (replace s0 := Lib.hid (s0.out.below hb)); (replace x0 := Lib.hid (x0.out.below hb)); (replace x1 := Lib.hid (x1.out.below hb)); (replace x2 := Lib.hid (x2.out.below hb)); (replace g0 := Lib.hid (g0.out.below hb)); (replace A0 := Lib.hid (A0.out.below hb)); (replace A1 := Lib.hid (A1.out.below hb)); (replace A2 := Lib.hid (A2.out.below hb)); (have z17 : w16.heap.size ≤ w17.heap.size := hb.size); (have b17 := Lib.hid (bthen b16.out hb); clear b16); (clear hb); (obtain ⟨-, BX0_0, -⟩ := BX0.out.one1); (obtain ⟨-, BX1_0, BX1_1, BX1_2, -⟩ := BX1.out.three); (obtain ⟨-, BX2_0, BX2_1, BX2_2, -⟩ := BX2.out.three); (obtain ⟨-, BXx0_0, -⟩ := BXx0.out.one1); (obtain ⟨-, BXx1_0, BXx1_1, BXx1_2, -⟩ := BXx1.out.three); (obtain ⟨-, BXx2_0, BXx2_1, BXx2_2, -⟩ := BXx2.out.three)))
      | (((go_at_call 14); (have hq := M_eq w17 x0.out.see t0.out.see (by rw [can_ofM E_x0.out, can_ofM E_t0.out]) (by rw [N_x0.out]; exact hn0) (lens_ofM E_x0.out HI0.out)); (rw [N_x0.out, N_t0.out] at hq); (refine hq.mono ?_); (rintro e w18 ⟨rfl, hb⟩); (clear BX0_0 BX1_0 BX1_1 BX1_2 BX2_0 BX2_1 BX2_2 BXx0_0 BXx1_0 BXx1_1 BXx1_2 BXx2_0 BXx2_1 BXx2_2); (replace BX0 := Lib.hid (BX0.out.below hb)); (replace BX1 := Lib.hid (BX1.out.below hb)); (replace BX2 := Lib.hid (BX2.out.below hb)); (replace BXx0 := Lib.hid (BXx0.out.below hb)); (replace BXx1 := Lib.hid (BXx1.out.below hb)); (replace BXx2 := Lib.hid (BXx2.out.below hb)); (replace s0 := Lib.hid (s0.out.below hb)); (replace x0 := Lib.hid (x0.out.below hb)); (replace x1 := Lib.hid (x1.out.below hb)); (replace x2 := Lib.hid (x2.out.below hb)); (replace g0 := Lib.hid (g0.out.below hb)); (replace t0 := Lib.hid (t0.out.below hb)); (replace A0 := Lib.hid (A0.out.below hb)); (replace A1 := Lib.hid (A1.out.below hb)); (replace A2 := Lib.hid (A2.out.below hb)); (have z18 : w17.heap.size ≤ w18.heap.size := hb.size); (have b18 := Lib.hid (bthen b17.out hb); clear b17); (clear hb); (clear hq); (obtain ⟨-, BX0_0, -⟩ := BX0.out.one1); (obtain ⟨-, BX1_0, BX1_1, BX1_2, -⟩ := BX1.out.three); (obtain ⟨-, BX2_0, BX2_1, BX2_2, -⟩ := BX2.out.three); (obtain ⟨-, BXx0_0, -⟩ := BXx0.out.one1); (obtain ⟨-, BXx1_0, BXx1_1, BXx1_2, -⟩ := BXx1.out.three); (obtain ⟨-, BXx2_0, BXx2_1, BXx2_2, -⟩ := BXx2.out.three))))
  clear BX0_0 BX1_0 BX1_1 BX1_2 BX2_0 BX2_1 BX2_2 BXx0_0 BXx1_0 BXx1_1 BXx1_2 BXx2_0 BXx2_1 BXx2_2
  try go_wp2_with fail
  clear t0
  try clear E_t0 N_t0
  obtain ⟨-, BX0_0, -⟩ := BX0.out.one1
  obtain ⟨-, BX1_0, BX1_1, BX1_2, -⟩ := BX1.out.three
  obtain ⟨-, BX2_0, BX2_1, BX2_2, -⟩ := BX2.out.three
  obtain ⟨-, BXx0_0, -⟩ := BXx0.out.one1
  obtain ⟨-, BXx1_0, BXx1_1, BXx1_2, -⟩ := BXx1.out.three
  obtain ⟨-, BXx2_0, BXx2_1, BXx2_2, -⟩ := BXx2.out.three
  go_wp2_with fail
  go_region_held3 (fun w' => w'.cell? ⟨w.heap.size, 0, none⟩ = some (.slice a0 l0.length c0) ∧ w'.cell? ⟨w.heap.size + 1, 0, none⟩ = some (.int .i64 r1_) ∧ w'.cell? ⟨w.heap.size + 1, 1, none⟩ = some (.int .i64 k1_) ∧ w'.cell? ⟨w.heap.size + 1, 2, none⟩ = some (.slice a1 l1.length c1) ∧ w'.cell? ⟨w.heap.size + 2, 0, none⟩ = some (.int .i64 r2_) ∧ w'.cell? ⟨w.heap.size + 2, 1, none⟩ = some (.int .i64 k2_) ∧ w'.cell? ⟨w.heap.size + 2, 2, none⟩ = some (.slice a2 l2.length c2) ∧ w'.cell? ⟨w8.heap.size, 0, none⟩ = some (.slice p_x0 l0.length q_x0) ∧ w'.cell? ⟨w10.heap.size, 0, none⟩ = some (.int .i64 r1_) ∧ w'.cell? ⟨w10.heap.size, 1, none⟩ = some (.int .i64 k1_) ∧ w'.cell? ⟨w10.heap.size, 2, none⟩ = some (.slice p_x1 l1.length q_x1) ∧ w'.cell? ⟨w12.heap.size, 0, none⟩ = some (.int .i64 r2_) ∧ w'.cell? ⟨w12.heap.size, 1, none⟩ = some (.int .i64 k2_) ∧ w'.cell? ⟨w12.heap.size, 2, none⟩ = some (.slice p_x2 l2.length q_x2)) (go_keep)
    (first
      | (((go_at_call 10); (with_reducible refine (T_toD w18 r1_ k1_ a1 c1 l1 A1.out hn1).mono ?_); (rintro e w19 ⟨p_t1, q_t1, rfl, t1, hb⟩); (clear BX0_0 BX1_0 BX1_1 BX1_2 BX2_0 BX2_1 BX2_2 BXx0_0 BXx1_0 BXx1_1 BXx1_2 BXx2_0 BXx2_1 BXx2_2); (replace BX0 := Lib.hid (BX0.out.below hb)); (replace BX1 := Lib.hid (BX1.out.below hb)); (replace BX2 := Lib.hid (BX2.out.below hb)); (replace BXx0 := Lib.hid (BXx0.out.below hb)); (replace BXx1 := Lib.hid (BXx1.out.below hb)); (replace BXx2 := Lib.hid (BXx2.out.below hb)); (replace s0 := Lib.hid (s0.out.below hb)); (replace x0 := Lib.hid (x0.out.below hb)); (replace x1 := Lib.hid (x1.out.below hb)); (replace x2 := Lib.hid (x2.out.below hb)); (replace g0 := Lib.hid (g0.out.below hb)); (replace A0 := Lib.hid (A0.out.below hb)); (replace A1 := Lib.hid (A1.out.below hb)); (replace A2 := Lib.hid (A2.out.below hb)); (have z19 : w18.heap.size ≤ w19.heap.size := hb.size); (have b19 := Lib.hid (bthen b18.out hb); clear b18); (clear hb); (obtain ⟨-, BX0_0, -⟩ := BX0.out.one1); (obtain ⟨-, BX1_0, BX1_1, BX1_2, -⟩ := BX1.out.three); (obtain ⟨-, BX2_0, BX2_1, BX2_2, -⟩ := BX2.out.three); (obtain ⟨-, BXx0_0, -⟩ := BXx0.out.one1); (obtain ⟨-, BXx1_0, BXx1_1, BXx1_2, -⟩ := BXx1.out.three); (obtain ⟨-, BXx2_0, BXx2_1, BXx2_2, -⟩ := BXx2.out.three)))
      | (((go_at_call 15); (refine (T_eq _ r1_ k1_ p_x1 p_t1 q_x1 q_t1 l1 l1 x1.out.arg t1.out.arg hn1 rfl).mono ?_); (rintro e w20 ⟨rfl, hb⟩); (clear BX0_0 BX1_0 BX1_1 BX1_2 BX2_0 BX2_1 BX2_2 BXx0_0 BXx1_0 BXx1_1 BXx1_2 BXx2_0 BXx2_1 BXx2_2); (replace BX0 := Lib.hid (BX0.out.below hb)); (replace BX1 := Lib.hid (BX1.out.below hb)); (replace BX2 := Lib.hid (BX2.out.below hb)); (replace BXx0 := Lib.hid (BXx0.out.below hb)); (replace BXx1 := Lib.hid (BXx1.out.below hb)); (replace BXx2 := Lib.hid (BXx2.out.below hb)); (replace s0 := Lib.hid (s0.out.below hb)); (replace x0 := Lib.hid (x0.out.below hb)); (replace x1 := Lib.hid (x1.out.below hb)); (replace x2 := Lib.hid (x2.out.below hb)); (replace g0 := Lib.hid (g0.out.below hb)); (replace t1 := Lib.hid (t1.out.below hb)); (replace A0 := Lib.hid (A0.out.below hb)); (replace A1 := Lib.hid (A1.out.below hb)); (replace A2 := Lib.hid (A2.out.below hb)); (have z20 : w19.heap.size ≤ w20.heap.size := hb.size); (have b20 := Lib.hid (bthen b19.out hb); clear b19); (clear hb); (obtain ⟨-, BX0_0, -⟩ := BX0.out.one1); (obtain ⟨-, BX1_0, BX1_1, BX1_2, -⟩ := BX1.out.three); (obtain ⟨-, BX2_0, BX2_1, BX2_2, -⟩ := BX2.out.three); (obtain ⟨-, BXx0_0, -⟩ := BXx0.out.one1); (obtain ⟨-, BXx1_0, BXx1_1, BXx1_2, -⟩ := BXx1.out.three); (obtain ⟨-, BXx2_0, BXx2_1, BXx2_2, -⟩ := BXx2.out.three))))
  clear BX0_0 BX1_0 BX1_1 BX1_2 BX2_0 BX2_1 BX2_2 BXx0_0 BXx1_0 BXx1_1 BXx1_2 BXx2_0 BXx2_1 BXx2_2
  try go_wp2_with fail
  clear t1
  try clear E_t1 N_t1
  obtain ⟨-, BX0_0, -⟩ := BX0.out.one1
  obtain ⟨-, BX1_0, BX1_1, BX1_2, -⟩ := BX1.out.three
  obtain ⟨-, BX2_0, BX2_1, BX2_2, -⟩ := BX2.out.three
  obtain ⟨-, BXx0_0, -⟩ := BXx0.out.one1
  obtain ⟨-, BXx1_0, BXx1_1, BXx1_2, -⟩ := BXx1.out.three
  obtain ⟨-, BXx2_0, BXx2_1, BXx2_2, -⟩ := BXx2.out.three
  go_wp2_with fail
  go_region_held3 (fun w' => w'.cell? ⟨w.heap.size, 0, none⟩ = some (.slice a0 l0.length c0) ∧ w'.cell? ⟨w.heap.size + 1, 0, none⟩ = some (.int .i64 r1_) ∧ w'.cell? ⟨w.heap.size + 1, 1, none⟩ = some (.int .i64 k1_) ∧ w'.cell? ⟨w.heap.size + 1, 2, none⟩ = some (.slice a1 l1.length c1) ∧ w'.cell? ⟨w.heap.size + 2, 0, none⟩ = some (.int .i64 r2_) ∧ w'.cell? ⟨w.heap.size + 2, 1, none⟩ = some (.int .i64 k2_) ∧ w'.cell? ⟨w.heap.size + 2, 2, none⟩ = some (.slice a2 l2.length c2) ∧ w'.cell? ⟨w8.heap.size, 0, none⟩ = some (.slice p_x0 l0.length q_x0) ∧ w'.cell? ⟨w10.heap.size, 0, none⟩ = some (.int .i64 r1_) ∧ w'.cell? ⟨w10.heap.size, 1, none⟩ = some (.int .i64 k1_) ∧ w'.cell? ⟨w10.heap.size, 2, none⟩ = some (.slice p_x1 l1.length q_x1) ∧ w'.cell? ⟨w12.heap.size, 0, none⟩ = some (.int .i64 r2_) ∧ w'.cell? ⟨w12.heap.size, 1, none⟩ = some (.int .i64 k2_) ∧ w'.cell? ⟨w12.heap.size, 2, none⟩ = some (.slice p_x2 l2.length q_x2)) (go_keep)
    (first
      | (((go_at_call 10); (with_reducible refine (T_toD w20 r2_ k2_ a2 c2 l2 A2.out hn2).mono ?_); (rintro e w21 ⟨p_t2, q_t2, rfl, t2, hb⟩); (clear BX0_0 BX1_0 BX1_1 BX1_2 BX2_0 BX2_1 BX2_2 BXx0_0 BXx1_0 BXx1_1 BXx1_2 BXx2_0 BXx2_1 BXx2_2); (replace BX0 := Lib.hid (BX0.out.below hb)); (replace BX1 := Lib.hid (BX1.out.below hb)); (replace BX2 := Lib.hid (BX2.out.below hb)); (replace BXx0 := Lib.hid (BXx0.out.below hb)); (replace BXx1 := Lib.hid (BXx1.out.below hb)); (replace BXx2 := Lib.hid (BXx2.out.below hb)); (replace s0 := Lib.hid (s0.out.below hb)); (replace x0 := Lib.hid (x0.out.below hb)); (replace x1 := Lib.hid (x1.out.below hb)); (replace x2 := Lib.hid (x2.out.below hb)); (replace g0 := Lib.hid (g0.out.below hb)); (replace A0 := Lib.hid (A0.out.below hb)); (replace A1 := Lib.hid (A1.out.below hb)); (replace A2 := Lib.hid (A2.out.below hb)); (have z21 : w20.heap.size ≤ w21.heap.size := hb.size); (have b21 := Lib.hid (bthen b20.out hb); clear b20); (clear hb); (obtain ⟨-, BX0_0, -⟩ := BX0.out.one1); (obtain ⟨-, BX1_0, BX1_1, BX1_2, -⟩ := BX1.out.three); (obtain ⟨-, BX2_0, BX2_1, BX2_2, -⟩ := BX2.out.three); (obtain ⟨-, BXx0_0, -⟩ := BXx0.out.one1); (obtain ⟨-, BXx1_0, BXx1_1, BXx1_2, -⟩ := BXx1.out.three); (obtain ⟨-, BXx2_0, BXx2_1, BXx2_2, -⟩ := BXx2.out.three)))
      | (((go_at_call 15); (refine (T_eq _ r2_ k2_ p_x2 p_t2 q_x2 q_t2 l2 l2 x2.out.arg t2.out.arg hn2 rfl).mono ?_); (rintro e w22 ⟨rfl, hb⟩); (clear BX0_0 BX1_0 BX1_1 BX1_2 BX2_0 BX2_1 BX2_2 BXx0_0 BXx1_0 BXx1_1 BXx1_2 BXx2_0 BXx2_1 BXx2_2); (replace BX0 := Lib.hid (BX0.out.below hb)); (replace BX1 := Lib.hid (BX1.out.below hb)); (replace BX2 := Lib.hid (BX2.out.below hb)); (replace BXx0 := Lib.hid (BXx0.out.below hb)); (replace BXx1 := Lib.hid (BXx1.out.below hb)); (replace BXx2 := Lib.hid (BXx2.out.below hb)); (replace s0 := Lib.hid (s0.out.below hb)); (replace x0 := Lib.hid (x0.out.below hb)); (replace x1 := Lib.hid (x1.out.below hb)); (replace x2 := Lib.hid (x2.out.below hb)); (replace g0 := Lib.hid (g0.out.below hb)); (replace t2 := Lib.hid (t2.out.below hb)); (replace A0 := Lib.hid (A0.out.below hb)); (replace A1 := Lib.hid (A1.out.below hb)); (replace A2 := Lib.hid (A2.out.below hb)); (have z22 : w21.heap.size ≤ w22.heap.size := hb.size); (have b22 := Lib.hid (bthen b21.out hb); clear b21); (clear hb); (obtain ⟨-, BX0_0, -⟩ := BX0.out.one1); (obtain ⟨-, BX1_0, BX1_1, BX1_2, -⟩ := BX1.out.three); (obtain ⟨-, BX2_0, BX2_1, BX2_2, -⟩ := BX2.out.three); (obtain ⟨-, BXx0_0, -⟩ := BXx0.out.one1); (obtain ⟨-, BXx1_0, BXx1_1, BXx1_2, -⟩ := BXx1.out.three); (obtain ⟨-, BXx2_0, BXx2_1, BXx2_2, -⟩ := BXx2.out.three))))
  clear BX0_0 BX1_0 BX1_1 BX1_2 BX2_0 BX2_1 BX2_2 BXx0_0 BXx1_0 BXx1_1 BXx1_2 BXx2_0 BXx2_1 BXx2_2
  try go_wp2_with fail
  clear t2
  try clear E_t2 N_t2
  obtain ⟨-, BX0_0, -⟩ := BX0.out.one1
  obtain ⟨-, BX1_0, BX1_1, BX1_2, -⟩ := BX1.out.three
  obtain ⟨-, BX2_0, BX2_1, BX2_2, -⟩ := BX2.out.three
  obtain ⟨-, BXx0_0, -⟩ := BXx0.out.one1
  obtain ⟨-, BXx1_0, BXx1_1, BXx1_2, -⟩ := BXx1.out.three
  obtain ⟨-, BXx2_0, BXx2_1, BXx2_2, -⟩ := BXx2.out.three
  go_wp2_with fail
  refine (M_mark _ (1) x0.out (by omega) hn0 (by rw [tot_ofM E_x0.out]; omega) (lens_ofM E_x0.out HI0.out)).mono ?_
  rintro e w23 ⟨rfl, -, ht⟩
  rw [tot_ofM E_x0.out]
  clear x0
  clear BX0_0 BX1_0 BX1_1 BX1_2 BX2_0 BX2_1 BX2_2 BXx0_0 BXx1_0 BXx1_1 BXx1_2 BXx2_0 BXx2_1 BXx2_2
  replace BX0 := Lib.hid (BX0.out.touch ht (by omega))
  replace BX1 := Lib.hid (BX1.out.touch ht (by omega))
  replace BX2 := Lib.hid (BX2.out.touch ht (by omega))
  replace BXx0 := Lib.hid (BXx0.out.touch ht (by omega))
  replace BXx1 := Lib.hid (BXx1.out.touch ht (by omega))
  replace BXx2 := Lib.hid (BXx2.out.touch ht (by omega))
  replace s0 := Lib.hid (s0.out.touch ht (by omega))
  replace x1 := Lib.hid (x1.out.touch ht (by omega))
  replace x2 := Lib.hid (x2.out.touch ht (by omega))
  replace g0 := Lib.hid (g0.out.touch ht (by omega))
  have z23 : w22.heap.size ≤ w23.heap.size := ht.size
  have b23 := Lib.hid (touch_below b22.out ht (by omega)); clear b22 ht
  replace A0 := Lib.hid (B0.out.below b23.out)
  replace A1 := Lib.hid (B1.out.below b23.out)
  replace A2 := Lib.hid (B2.out.below b23.out)
  obtain ⟨-, BX0_0, -⟩ := BX0.out.one1
  obtain ⟨-, BX1_0, BX1_1, BX1_2, -⟩ := BX1.out.three
  obtain ⟨-, BX2_0, BX2_1, BX2_2, -⟩ := BX2.out.three
  obtain ⟨-, BXx0_0, -⟩ := BXx0.out.one1
  obtain ⟨-, BXx1_0, BXx1_1, BXx1_2, -⟩ := BXx1.out.three
  obtain ⟨-, BXx2_0, BXx2_1, BXx2_2, -⟩ := BXx2.out.three
  go_wp2_with fail
  refine (T_mark _ r1_ k1_ (1 + totM l0) x1.out (by omega) hn1 (by omega)).mono ?_
  rintro e w24 ⟨rfl, -, ht⟩
  clear x1
  clear BX0_0 BX1_0 BX1_1 BX1_2 BX2_0 BX2_1 BX2_2 BXx0_0 BXx1_0 BXx1_1 BXx1_2 BXx2_0 BXx2_1 BXx2_2
  replace BX0 := Lib.hid (BX0.out.touch ht (by omega))
  replace BX1 := Lib.hid (BX1.out.touch ht (by omega))
  replace BX2 := Lib.hid (BX2.out.touch ht (by omega))
  replace BXx0 := Lib.hid (BXx0.out.touch ht (by omega))
  replace BXx1 := Lib.hid (BXx1.out.touch ht (by omega))
  replace BXx2 := Lib.hid (BXx2.out.touch ht (by omega))
  replace s0 := Lib.hid (s0.out.touch ht (by omega))
  replace x2 := Lib.hid (x2.out.touch ht (by omega))
  replace g0 := Lib.hid (g0.out.touch ht (by omega))
  have z24 : w23.heap.size ≤ w24.heap.size := ht.size
  have b24 := Lib.hid (touch_below b23.out ht (by omega)); clear b23 ht
  replace A0 := Lib.hid (B0.out.below b24.out)
  replace A1 := Lib.hid (B1.out.below b24.out)
  replace A2 := Lib.hid (B2.out.below b24.out)
  obtain ⟨-, BX0_0, -⟩ := BX0.out.one1
  obtain ⟨-, BX1_0, BX1_1, BX1_2, -⟩ := BX1.out.three
  obtain ⟨-, BX2_0, BX2_1, BX2_2, -⟩ := BX2.out.three
  obtain ⟨-, BXx0_0, -⟩ := BXx0.out.one1
  obtain ⟨-, BXx1_0, BXx1_1, BXx1_2, -⟩ := BXx1.out.three
  obtain ⟨-, BXx2_0, BXx2_1, BXx2_2, -⟩ := BXx2.out.three
  go_wp2_with fail
  refine (T_mark _ r2_ k2_ (1 + totM l0 + l1.length) x2.out (by omega) hn2 (by omega)).mono ?_
  rintro e w25 ⟨rfl, -, ht⟩
  clear x2
  clear BX0_0 BX1_0 BX1_1 BX1_2 BX2_0 BX2_1 BX2_2 BXx0_0 BXx1_0 BXx1_1 BXx1_2 BXx2_0 BXx2_1 BXx2_2
  replace BX0 := Lib.hid (BX0.out.touch ht (by omega))
  replace BX1 := Lib.hid (BX1.out.touch ht (by omega))
  replace BX2 := Lib.hid (BX2.out.touch ht (by omega))
  replace BXx0 := Lib.hid (BXx0.out.touch ht (by omega))
  replace BXx1 := Lib.hid (BXx1.out.touch ht (by omega))
  replace BXx2 := Lib.hid (BXx2.out.touch ht (by omega))
  replace s0 := Lib.hid (s0.out.touch ht (by omega))
  replace g0 := Lib.hid (g0.out.touch ht (by omega))
  have z25 : w24.heap.size ≤ w25.heap.size := ht.size
  have b25 := Lib.hid (touch_below b24.out ht (by omega)); clear b24 ht
  replace A0 := Lib.hid (B0.out.below b25.out)
  replace A1 := Lib.hid (B1.out.below b25.out)
  replace A2 := Lib.hid (B2.out.below b25.out)
  obtain ⟨-, BX0_0, -⟩ := BX0.out.one1
  obtain ⟨-, BX1_0, BX1_1, BX1_2, -⟩ := BX1.out.three
  obtain ⟨-, BX2_0, BX2_1, BX2_2, -⟩ := BX2.out.three
  obtain ⟨-, BXx0_0, -⟩ := BXx0.out.one1
  obtain ⟨-, BXx1_0, BXx1_1, BXx1_2, -⟩ := BXx1.out.three
  obtain ⟨-, BXx2_0, BXx2_1, BXx2_2, -⟩ := BXx2.out.three
  go_wp2_with fail
  refine (F_eq2 _ g0.out s0.out (by rw [Q_g0.out, Q_s0.out]) M_g0.out).mono ?_
  rintro e w26 ⟨rfl, hb⟩
  clear BX0_0 BX1_0 BX1_1 BX1_2 BX2_0 BX2_1 BX2_2 BXx0_0 BXx1_0 BXx1_1 BXx1_2 BXx2_0 BXx2_1 BXx2_2
  replace BX0 := Lib.hid (BX0.out.below hb)
  replace BX1 := Lib.hid (BX1.out.below hb)
  replace BX2 := Lib.hid (BX2.out.below hb)
  replace BXx0 := Lib.hid (BXx0.out.below hb)
  replace BXx1 := Lib.hid (BXx1.out.below hb)
  replace BXx2 := Lib.hid (BXx2.out.below hb)
  replace s0 := Lib.hid (s0.out.below hb)
  replace g0 := Lib.hid (g0.out.below hb)
  replace A0 := Lib.hid (A0.out.below hb)
  replace A1 := Lib.hid (A1.out.below hb)
  replace A2 := Lib.hid (A2.out.below hb)
  have z26 : w25.heap.size ≤ w26.heap.size := hb.size
  have b26 := Lib.hid (bthen b25.out hb); clear b25
  clear hb
  obtain ⟨-, BX0_0, -⟩ := BX0.out.one1
  obtain ⟨-, BX1_0, BX1_1, BX1_2, -⟩ := BX1.out.three
  obtain ⟨-, BX2_0, BX2_1, BX2_2, -⟩ := BX2.out.three
  obtain ⟨-, BXx0_0, -⟩ := BXx0.out.one1
  obtain ⟨-, BXx1_0, BXx1_1, BXx1_2, -⟩ := BXx1.out.three
  obtain ⟨-, BXx2_0, BXx2_1, BXx2_2, -⟩ := BXx2.out.three
  go_wp2_with fail
  refine (sameFloat_any _ _ (by rw [cn_wide, cn_wide, Q_g1.out, Q_s1.out]) _).mono ?_
  rintro e w27 ⟨rfl, hd⟩
  have hb : Below w26.heap.size w26 w27 := (below_drewN (Below.refl _ _) _).trans hd.below; clear hd
  clear BX0_0 BX1_0 BX1_1 BX1_2 BX2_0 BX2_1 BX2_2 BXx0_0 BXx1_0 BXx1_1 BXx1_2 BXx2_0 BXx2_1 BXx2_2
  replace BX0 := Lib.hid (BX0.out.below hb)
  replace BX1 := Lib.hid (BX1.out.below hb)
  replace BX2 := Lib.hid (BX2.out.below hb)
  replace BXx0 := Lib.hid (BXx0.out.below hb)
  replace BXx1 := Lib.hid (BXx1.out.below hb)
  replace BXx2 := Lib.hid (BXx2.out.below hb)
  replace s0 := Lib.hid (s0.out.below hb)
  replace g0 := Lib.hid (g0.out.below hb)
  replace A0 := Lib.hid (A0.out.below hb)
  replace A1 := Lib.hid (A1.out.below hb)
  replace A2 := Lib.hid (A2.out.below hb)
  have z27 : w26.heap.size ≤ w27.heap.size := hb.size
  have b27 := Lib.hid (bthen b26.out hb); clear b26
  clear hb
  obtain ⟨-, BX0_0, -⟩ := BX0.out.one1
  obtain ⟨-, BX1_0, BX1_1, BX1_2, -⟩ := BX1.out.three
  obtain ⟨-, BX2_0, BX2_1, BX2_2, -⟩ := BX2.out.three
  obtain ⟨-, BXx0_0, -⟩ := BXx0.out.one1
  obtain ⟨-, BXx1_0, BXx1_1, BXx1_2, -⟩ := BXx1.out.three
  obtain ⟨-, BXx2_0, BXx2_1, BXx2_2, -⟩ := BXx2.out.three
  go_wp2_with fail
  refine (F_mark2 _ (1) g0.out (by omega) M_g0.out (by have := M_g0.out; omega)).mono ?_
  rintro e w28 ⟨rfl, hr, ht⟩
  clear g0; have g0 := hr; clear hr
  clear BX0_0 BX1_0 BX1_1 BX1_2 BX2_0 BX2_1 BX2_2 BXx0_0 BXx1_0 BXx1_1 BXx1_2 BXx2_0 BXx2_1 BXx2_2
  replace BX0 := Lib.hid (BX0.out.touch ht (by omega))
  replace BX1 := Lib.hid (BX1.out.touch ht (by omega))
  replace BX2 := Lib.hid (BX2.out.touch ht (by omega))
  replace BXx0 := Lib.hid (BXx0.out.touch ht (by omega))
  replace BXx1 := Lib.hid (BXx1.out.touch ht (by omega))
  replace BXx2 := Lib.hid (BXx2.out.touch ht (by omega))
  replace s0 := Lib.hid (s0.out.touch ht (by omega))
  have z28 : w27.heap.size ≤ w28.heap.size := ht.size
  have b28 := Lib.hid (touch_below b27.out ht (by omega)); clear b27 ht
  replace A0 := Lib.hid (B0.out.below b28.out)
  replace A1 := Lib.hid (B1.out.below b28.out)
  replace A2 := Lib.hid (B2.out.below b28.out)
  obtain ⟨-, BX0_0, -⟩ := BX0.out.one1
  obtain ⟨-, BX1_0, BX1_1, BX1_2, -⟩ := BX1.out.three
  obtain ⟨-, BX2_0, BX2_1, BX2_2, -⟩ := BX2.out.three
  obtain ⟨-, BXx0_0, -⟩ := BXx0.out.one1
  obtain ⟨-, BXx1_0, BXx1_1, BXx1_2, -⟩ := BXx1.out.three
  obtain ⟨-, BXx2_0, BXx2_1, BXx2_2, -⟩ := BXx2.out.three
  go_wp2_with fail
  refine (F_held2 _ (1) g0.out M_g0.out (by have := M_g0.out; omega)).mono ?_
  rintro e we ⟨rfl, rfl⟩
  clear BX0_0 BX1_0 BX1_1 BX1_2 BX2_0 BX2_1 BX2_2 BXx0_0 BXx1_0 BXx1_1 BXx1_2 BXx2_0 BXx2_1 BXx2_2
  clear BXx0
  clear BXx1
  clear BXx2
  obtain ⟨-, BX0_0, -⟩ := BX0.out.one1
  obtain ⟨-, BX1_0, BX1_1, BX1_2, -⟩ := BX1.out.three
  obtain ⟨-, BX2_0, BX2_1, BX2_2, -⟩ := BX2.out.three
  go_wp2_with fail
  go_region_held3 (fun w' => w'.cell? ⟨w.heap.size, 0, none⟩ = some (.slice a0 l0.length c0) ∧ w'.cell? ⟨w.heap.size + 1, 0, none⟩ = some (.int .i64 r1_) ∧ w'.cell? ⟨w.heap.size + 1, 1, none⟩ = some (.int .i64 k1_) ∧ w'.cell? ⟨w.heap.size + 1, 2, none⟩ = some (.slice a1 l1.length c1) ∧ w'.cell? ⟨w.heap.size + 2, 0, none⟩ = some (.int .i64 r2_) ∧ w'.cell? ⟨w.heap.size + 2, 1, none⟩ = some (.int .i64 k2_) ∧ w'.cell? ⟨w.heap.size + 2, 2, none⟩ = some (.slice a2 l2.length c2)) (go_keep)
    (first
      | (((go_at_call 9); (refine (M_toD w28 a0 c0 l0 A0.out hn0 HI0.out).mono ?_); (rintro e w29 ⟨p_t0, q_t0, o_t0, rfl, he_t0, t0, hb⟩); (have E_t0 := Lib.hid he_t0); (have hlen_t0 : o_t0.length = l0.length := by have := congrArg List.length he_t0; simpa using this); (have N_t0 := Lib.hid hlen_t0; clear he_t0 hlen_t0); (clear BX0_0 BX1_0 BX1_1 BX1_2 BX2_0 BX2_1 BX2_2); (replace BX0 := Lib.hid (BX0.out.below hb)); (replace BX1 := Lib.hid (BX1.out.below hb)); (replace BX2 := Lib.hid (BX2.out.below hb)); (replace s0 := Lib.hid (s0.out.below hb)); (replace g0 := Lib.hid (g0.out.below hb)); (replace A0 := Lib.hid (A0.out.below hb)); (replace A1 := Lib.hid (A1.out.below hb)); (replace A2 := Lib.hid (A2.out.below hb)); (have z29 : w28.heap.size ≤ w29.heap.size := hb.size); (have b29 := Lib.hid (bthen b28.out hb); clear b28); (clear hb); (obtain ⟨-, BX0_0, -⟩ := BX0.out.one1); (obtain ⟨-, BX1_0, BX1_1, BX1_2, -⟩ := BX1.out.three); (obtain ⟨-, BX2_0, BX2_1, BX2_2, -⟩ := BX2.out.three)))
      | (((go_at_call 10); (with_reducible refine (T_to _ r1_ k1_ a1 c1 l1 A1.out hn1).mono ?_); (rintro e w30 ⟨p_t1, q_t1, rfl, t1, hb⟩); (clear BX0_0 BX1_0 BX1_1 BX1_2 BX2_0 BX2_1 BX2_2); (replace BX0 := Lib.hid (BX0.out.below hb)); (replace BX1 := Lib.hid (BX1.out.below hb)); (replace BX2 := Lib.hid (BX2.out.below hb)); (replace s0 := Lib.hid (s0.out.below hb)); (replace g0 := Lib.hid (g0.out.below hb)); (replace t0 := Lib.hid (t0.out.below hb)); (replace A0 := Lib.hid (A0.out.below hb)); (replace A1 := Lib.hid (A1.out.below hb)); (replace A2 := Lib.hid (A2.out.below hb)); (have z30 : w29.heap.size ≤ w30.heap.size := hb.size); (have b30 := Lib.hid (bthen b29.out hb); clear b29); (clear hb); (obtain ⟨-, BX0_0, -⟩ := BX0.out.one1); (obtain ⟨-, BX1_0, BX1_1, BX1_2, -⟩ := BX1.out.three); (obtain ⟨-, BX2_0, BX2_1, BX2_2, -⟩ := BX2.out.three)))
      | (((go_at_call 10); (with_reducible refine (T_to _ r2_ k2_ a2 c2 l2 A2.out hn2).mono ?_); (rintro e w31 ⟨p_t2, q_t2, rfl, t2, hb⟩); (clear BX0_0 BX1_0 BX1_1 BX1_2 BX2_0 BX2_1 BX2_2); (replace BX0 := Lib.hid (BX0.out.below hb)); (replace BX1 := Lib.hid (BX1.out.below hb)); (replace BX2 := Lib.hid (BX2.out.below hb)); (replace s0 := Lib.hid (s0.out.below hb)); (replace g0 := Lib.hid (g0.out.below hb)); (replace t0 := Lib.hid (t0.out.below hb)); (replace t1 := Lib.hid (t1.out.below hb)); (replace A0 := Lib.hid (A0.out.below hb)); (replace A1 := Lib.hid (A1.out.below hb)); (replace A2 := Lib.hid (A2.out.below hb)); (have z31 : w30.heap.size ≤ w31.heap.size := hb.size); (have b31 := Lib.hid (bthen b30.out hb); clear b30); (clear hb); (obtain ⟨-, BX0_0, -⟩ := BX0.out.one1); (obtain ⟨-, BX1_0, BX1_1, BX1_2, -⟩ := BX1.out.three); (obtain ⟨-, BX2_0, BX2_1, BX2_2, -⟩ := BX2.out.three)))
      | (((go_at_call 26); (have hK := impl_ModelGradientsW w31 p_t0 q_t0 o_t0 t0.out (lens_ofM E_t0.out HI0.out) r1_ k1_ p_t1 q_t1 l1 t1.out hn1 R1 C1 r2_ k2_ p_t2 q_t2 l2 t2.out hn2 R2 C2); (rw [N_t0.out, E_t0.out] at hK); (have HK := Lib.hid hK; clear hK); (refine HK.out.mono ?_); (rintro e w32 ⟨ad_h0, n_h0, cp_h0, v_h1, v_h2, y_h0, rfl, HO_h, hb⟩); (clear HK); (have Q_h0 := Lib.hid (congrArg Prod.fst HO_h.out.1.2)); (have Q_h1 := Lib.hid (congrArg Prod.snd HO_h.out.1.2)); (have V_h := Lib.hid HO_h.out.1.1.1); (have M_h0 := Lib.hid (show n_h0 ≤ 3072 from learn_bound HO_h.out.2 HO_h.out.1.2)); (have h0 := Lib.hid HO_h.out.2; clear HO_h); (clear BX0_0 BX1_0 BX1_1 BX1_2 BX2_0 BX2_1 BX2_2); (replace BX0 := Lib.hid (BX0.out.below hb)); (replace BX1 := Lib.hid (BX1.out.below hb)); (replace BX2 := Lib.hid (BX2.out.below hb)); (replace s0 := Lib.hid (s0.out.below hb)); (replace g0 := Lib.hid (g0.out.below hb)); (replace t0 := Lib.hid (t0.out.below hb)); (replace t1 := Lib.hid (t1.out.below hb)); (replace t2 := Lib.hid (t2.out.below hb)); (replace A0 := Lib.hid (A0.out.below hb)); (replace A1 := Lib.hid (A1.out.below hb)); (replace A2 := Lib.hid (A2.out.below hb)); (have z32 : w31.heap.size ≤ w32.heap.size := hb.size); (have b32 := Lib.hid (bthen b31.out hb); clear b31); (clear hb); (obtain ⟨-, BX0_0, -⟩ := BX0.out.one1); (obtain ⟨-, BX1_0, BX1_1, BX1_2, -⟩ := BX1.out.three); (obtain ⟨-, BX2_0, BX2_1, BX2_2, -⟩ := BX2.out.three))))
  clear BX0_0 BX1_0 BX1_1 BX1_2 BX2_0 BX2_1 BX2_2
  try go_wp2_with fail
  obtain rfl : v_s2 = v_h2 := V_s.out.trans V_h.out.symm
  obtain ⟨-, BX0_0, -⟩ := BX0.out.one1
  obtain ⟨-, BX1_0, BX1_1, BX1_2, -⟩ := BX1.out.three
  obtain ⟨-, BX2_0, BX2_1, BX2_2, -⟩ := BX2.out.three
  go_wp2_with fail
  refine (F_eq2 _ h0.out s0.out (by rw [Q_h0.out, Q_s0.out]) M_h0.out).mono ?_
  rintro e w33 ⟨rfl, hb⟩
  clear BX0_0 BX1_0 BX1_1 BX1_2 BX2_0 BX2_1 BX2_2
  replace BX0 := Lib.hid (BX0.out.below hb)
  replace BX1 := Lib.hid (BX1.out.below hb)
  replace BX2 := Lib.hid (BX2.out.below hb)
  replace s0 := Lib.hid (s0.out.below hb)
  replace g0 := Lib.hid (g0.out.below hb)
  replace t0 := Lib.hid (t0.out.below hb)
  replace t1 := Lib.hid (t1.out.below hb)
  replace t2 := Lib.hid (t2.out.below hb)
  replace h0 := Lib.hid (h0.out.below hb)
  replace A0 := Lib.hid (A0.out.below hb)
  replace A1 := Lib.hid (A1.out.below hb)
  replace A2 := Lib.hid (A2.out.below hb)
  have z33 : w32.heap.size ≤ w33.heap.size := hb.size
  have b33 := Lib.hid (bthen b32.out hb); clear b32
  clear hb
  obtain ⟨-, BX0_0, -⟩ := BX0.out.one1
  obtain ⟨-, BX1_0, BX1_1, BX1_2, -⟩ := BX1.out.three
  obtain ⟨-, BX2_0, BX2_1, BX2_2, -⟩ := BX2.out.three
  go_wp2_with fail
  refine (sameFloat_any _ _ (by rw [cn_wide, cn_wide, Q_h1.out, Q_s1.out]) _).mono ?_
  rintro e w34 ⟨rfl, hd⟩
  have hb : Below w33.heap.size w33 w34 := (below_drewN (Below.refl _ _) _).trans hd.below; clear hd
  clear BX0_0 BX1_0 BX1_1 BX1_2 BX2_0 BX2_1 BX2_2
  replace BX0 := Lib.hid (BX0.out.below hb)
  replace BX1 := Lib.hid (BX1.out.below hb)
  replace BX2 := Lib.hid (BX2.out.below hb)
  replace s0 := Lib.hid (s0.out.below hb)
  replace g0 := Lib.hid (g0.out.below hb)
  replace t0 := Lib.hid (t0.out.below hb)
  replace t1 := Lib.hid (t1.out.below hb)
  replace t2 := Lib.hid (t2.out.below hb)
  replace h0 := Lib.hid (h0.out.below hb)
  replace A0 := Lib.hid (A0.out.below hb)
  replace A1 := Lib.hid (A1.out.below hb)
  replace A2 := Lib.hid (A2.out.below hb)
  have z34 : w33.heap.size ≤ w34.heap.size := hb.size
  have b34 := Lib.hid (bthen b33.out hb); clear b33
  clear hb
  obtain ⟨-, BX0_0, -⟩ := BX0.out.one1
  obtain ⟨-, BX1_0, BX1_1, BX1_2, -⟩ := BX1.out.three
  obtain ⟨-, BX2_0, BX2_1, BX2_2, -⟩ := BX2.out.three
  go_wp2_with fail
  refine (F_held2 _ (1) g0.out M_g0.out (by have := M_g0.out; omega)).mono ?_
  rintro e we ⟨rfl, rfl⟩
  clear BX0_0 BX1_0 BX1_1 BX1_2 BX2_0 BX2_1 BX2_2
  go_wp2
  go_ret
  exact ⟨rfl, b34.out⟩
end Go.Proofs.Ytfdgngnnncmfiaa
