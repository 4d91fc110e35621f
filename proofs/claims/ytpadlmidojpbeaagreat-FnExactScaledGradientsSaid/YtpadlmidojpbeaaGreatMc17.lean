/- Joined texts 17: Grs Le4 Le3 Le5 Le6 Le7 Spr Rm9 Rm2 Rm3 Rma Rmb. Each is told at its own head. No condition. -/
import Derived.Test.YtpadlmidojpbeaaGreatMc1
import Derived.Test.YtpadlmidojpbeaaGreatMc2
import Derived.Test.YtpadlmidojpbeaaGreatMc6
import Derived.Test.YtpadlmidojpbeaaGreatMc7
import Derived.Test.YtpadlmidojpbeaaGreatMc8
import Derived.Test.YtpadlmidojpbeaaGreatMc9
import Derived.Test.YtpadlmidojpbeaaGreatMc10
import Derived.Test.YtpadlmidojpbeaaGreatMc16
set_option linter.unusedVariables false
set_option linter.unusedSimpArgs false
/- x -/
namespace Go.Proofs.YtpadlmidojpbeaaGreat
open Go Go.RowKit
theorem gradP_ok {os : List OpP} {S : List Sh} (hS : shapesP os = some S) : (gradP os).length ≤ 48 ∧ ∀ t ∈ gradP os, t.xs.length ≤ 256 := by
  have hp := shapesP_some hS
  have hv := valsN_ok (Nat.le_refl _) hp.2.1
  have hVl : (valsP os).length = os.length := by have := congrArg List.length hv.1; rw [List.length_map, hp.2.2.1] at this; exact this
  have hok : ∀ m, m ≤ os.length → OkG (valsP os) (usedM os m) (gradM os (valsP os) m) := OkG.at hS
  have h1 := hok os.length (Nat.le_refl _)
  refine ⟨?_, fun t ht => ?_⟩
  · show (gradM os (valsP os) os.length).length ≤ 48
    rw [h1.1, hVl]; exact hp.1.2
  · obtain ⟨j, hj, rfl⟩ := List.mem_iff_getElem.1 ht
    have hj2 : j < (valsP os).length := by rw [← h1.1]; exact hj
    have h2 : okT (vGet (gradP os) (j : Int)) := (h1.2 j hj2).1.1
    rw [vGet_nat hj] at h2
    exact h2.le
end Go.Proofs.YtpadlmidojpbeaaGreat
/- x -/
namespace Go.Proofs.YtpadlmidojpbeaaGreat
open Go Go.RowKit
set_option maxHeartbeats 8000000 in
set_option maxRecDepth 100000 in
theorem impl_learned (w : World) (ad : Option Addr) (n cap : Nat) (wa : Option Addr) (wk : Nat) (ws : List Int) (C : List OpP) (us : List OpD) (S : List Sh) (hF : TapeF w ad n cap wa wk ws C us S) :
    Calls Tryz.prog 37 #[.slice ad n cap, .slice wa ws.length wk] w fun e w' => ∃ a m c z xs, e = .returned (.tuple #[.slice a m c, .float .f32 z]) ∧
      Hid (RepF w' w.heap.size w'.heap.size a m c xs ∧ z < 4294967296 ∧ xs.map (cn .f32) = flatG (gradP C) ws ∧ cn .f32 z = lossP C) ∧ Below w.heap.size w w' := by
  obtain ⟨i0, hi0, hz0, hz1, hz2⟩ := info_parts info_f32
  have HF := Lib.hid hF
  have hn1 := hF.n1; have hn2 := hF.n2; have hm := hF.m
  have K2 := Lib.hid (impl_runTape w ad cap us hF.see hF.nil S hF.sh hF.lens)
  rw [hF.len, hF.v] at K2
  clear hF
  obtain ⟨m, hM⟩ : ∃ m, m = ws.length := ⟨_, rfl⟩
  rw [← hM] at hm ⊢
  have HM := Lib.hid hM
  clear hM
  go_enter Tryz.func37, Tryz.ntmps37
  go_wp2_with fail
  refine K2.out.mono ?_
  rintro e w2 ⟨a2, c2, vs, rfl, HV, hb2⟩
  have HB2 := Lib.hid hb2
  obtain ⟨g, tb, tq, tc, z, rfl, hcells, hz⟩ := last_cell (HF.out.below HB2.out) HV.out.1 HV.out.2
  have HZ := Lib.hid hz
  have hni : (n : Int) - 1 = ((n - 1 : Nat) : Int) := by omega
  obtain ⟨l, hl⟩ : ∃ l, l = n - 1 := ⟨_, rfl⟩
  rw [← hl] at hni
  have HC := Lib.hid (show ∀ V, Below w2.heap.size w2 V → V.cell? ⟨g, l * 3 + 2, none⟩ = some (.slice (some ⟨tb, tq, none⟩) 1 tc) ∧ V.cell? ⟨tb, tq, none⟩ = some (.float .f32 z) by rw [hl]; exact hcells)
  have hln : l < n := by omega
  have HNI := Lib.hid hni
  clear hl hb2 K2 hcells hz hni
  have K3 := Lib.hid (impl_gradients w2 ad (some ⟨g, 0, none⟩) cap c2 us vs (HF.out.see.below HB2.out) HV.out.1.see S HF.out.sh (by rw [HV.out.2, HF.out.v]))
  rw [HF.out.len, HF.out.g] at K3
  go_wp2_with fail
  refine K3.out.mono ?_
  rintro e w3 ⟨a3, c3, gs, rfl, HG, hb3⟩
  have HB3 := Lib.hid hb3
  have HXL := Lib.hid (show ∀ t ∈ gs, t.xs.length ≤ 256 from fun t ht => by
    have h3 := gradP_ok (os := us.map OpD.toOpP) HF.out.sh
    rw [HF.out.g] at h3
    have h4 := h3.2 t.toTenP.can (by rw [← HG.out.2]; exact List.mem_map_of_mem ht)
    simpa [TenP.can] using h4)
  have HIN := Lib.hid ((HF.out.ints.below HB2.out).below hb3)
  clear hb3 K3
  go_wp2
  go_loopw [8, 10, 19] (fun v x i wt => ∃ k nk : Nat, i = .int .i64 k ∧ k ≤ m ∧ nk ≤ 256 * k ∧ Hid (wt.ownsRow w3.heap.size 28 1 v nk ((flatT gs (ws.take k)).map (Value.float .f32)) ∧ nk = (flatT gs (ws.take k)).length) ∧ Hid (Below w3.heap.size w3 wt)) (fun v x i wt => m - (intOf i).toNat)
  case atStart => exact ⟨0, 0, rfl, Nat.zero_le _, by omega, Lib.hid ⟨World.ownsRow_made _ _ _ (Nat.le_refl _) (Nat.zero_le _) rfl, rfl⟩, Lib.hid (below1 _ _)⟩
  case round =>
    obtain ⟨k, nk, rfl, hk, hnk, HO, HB⟩ := hrel
    by_cases hlt : k < m
    · obtain ⟨i, hi⟩ := getElem?_lt (show k < ws.length by rw [← HM.out]; exact hlt)
      have hix := HF.out.ix i (List.mem_of_getElem? hi)
      obtain ⟨j, rfl⟩ : ∃ j : Nat, i = j := ⟨i.toNat, by omega⟩
      have hjn : j < n := by omega
      obtain ⟨t, ht⟩ := getElem?_lt (show j < gs.length by rw [HG.out.1.len]; exact hjn)
      obtain ⟨wb, wo, hwa, hwb, hwc⟩ := ints_at (HIN.out.below HB.out) hi
      obtain ⟨g3, hal, hg, ⟨-, -, hc2⟩, -, hrt⟩ := ten_own (HG.out.1.below HB.out) ht
      have hr := hrt.arg
      have HRD := Lib.hid hr.rd; have HNC := Lib.hid hrt.nilcap
      have hlen := HXL.out t (List.mem_of_getElem? ht)
      have HT := Lib.hid (show flatT gs (ws.take (k + 1)) = flatT gs (ws.take k) ++ t.xs by
        rw [List.take_add_one, hi]
        show flatT gs (ws.take k ++ [(j : Int)]) = _
        rw [flatT_snoc]
        congr 1
        unfold tenAtD
        rw [List.getD_eq_getElem?_getD, show ((j : Nat) : Int).toNat = j by simp, ht]; rfl)
      obtain ⟨q, hq⟩ : ∃ q, q = t.xs.length := ⟨_, rfl⟩
      rw [← hq] at hc2 hlen
      have HQ := Lib.hid hq
      have h1 : ∀ u ∈ t.xs.map (Value.float .f32), u.oneCell' = true := by intro u hu; obtain ⟨x, _, rfl⟩ := List.mem_map.1 hu; rfl
      have H1 := Lib.hid h1
      have HOW := Lib.hid HO.out.1; have HNK := Lib.hid HO.out.2
      have hbs := HB.out.size
      subst hwa hal
      clear hix hg hrt hr hi ht hq h1 HO
      go_wp2_with (at_builtin; refine wp_cat rfl _ _ 25 rfl w3.heap.size i0 (.float .f32 0) 4 Tryz.underlying25 hi0 hz0 hz1 hz2 rfl _ nk _ rfl HOW.out t.ad q t.cap (t.xs.map (Value.float .f32)) rfl HNC.out (by rw [List.length_map, HQ.out]) HRD.out H1.out ?c3 ?c4 ?c5 ?_)
      case c3 => unfold maxLen; omega
      case c4 => omega
      case c5 => exact hbs
      intro v' w9 hown1 hb1 hbs1
      have HOW2 := Lib.hid hown1; have HB5 := Lib.hid (HB.out.trans hb1)
      clear hown1 hb1 hwc hc2 HRD HNC
      go_wp2
      refine ⟨?rel, ?measure⟩
      case rel => exact ⟨k + 1, nk + q, by go_num, hlt, by omega, Lib.hid ⟨by rw [HT.out, List.map_append]; exact HOW2.out, by rw [HT.out, List.length_append, HNK.out, HQ.out]⟩, HB5⟩
      case measure => simp [intOf]; omega
    · have e : k = m := by omega
      subst e
      have e2 : ws.take k = ws := by rw [HM.out]; exact List.take_length
      rw [e2] at HO
      obtain ⟨ad4, c4, rfl, hr⟩ := RepF.of_owns HO.out.1 (flatT_okF (fun t ht => HG.out.1.ok t ht) ws)
      have HX := Lib.hid (show RepF wr w3.heap.size wr.heap.size ad4 nk c4 (flatT gs ws) ∧ (flatT gs ws).map (cn .f32) = flatG (gradP C) ws from ⟨hr, flatT_can HG.out.2 ws⟩)
      have hni := HNI.out
      have hwl : IntKind.i64.wrap (l : Int) = (l : Int) := wrap_fitL (by omega) (by omega)
      have S4 := Lib.hid (HC.out wr (bthen HB3.out HB.out))
      clear hr e2 HO HIN HXL
      go_wp2
      refine wp_region_mix0 [] (fun W => W.cell? ⟨g, l * 3 + 2, none⟩ = some (.slice (some ⟨tb, tq, none⟩) 1 tc) ∧ W.cell? ⟨tb, tq, none⟩ = some (.float .f32 z)) (fun _ _ _ => False) (fun _ _ _ _ _ => False) (by kernel_rfl) (by kernel_rfl) S4.out (fun W q h => by simpa using h) ?_
      iterate 12 (refine mwalk_plain (by rfl) S4.out (fun K hK W hW => ?_); obtain ⟨e0, e1⟩ := hW; go_simp; refine hK _ ?_; clear hK K e0 e1)
      refine mwalk_nil (fun q9 => ?_)
      have HB5 := Lib.hid (below_drewN (bthen HB2.out (bthen HB3.out HB.out)) q9)
      have hzz : w.heap.size ≤ w3.heap.size := by
        have h1 := HB2.out.size; have h2 := HB3.out.size
        omega
      have HX5 := Lib.hid ((HX.out.1.bounds hzz (Nat.le_refl _)).below (below_drewN (Below.refl _ _) q9))
      go_wp2
      go_ret2
      exact ⟨_, _, _, _, _, rfl, Lib.hid ⟨HX5.out, HZ.out.1, HX.out.2, HZ.out.2⟩, HB5.out⟩
end Go.Proofs.YtpadlmidojpbeaaGreat
/- x -/
namespace Go.Proofs.YtpadlmidojpbeaaGreat
open Go Go.RowKit
def DLoss (fg ff : FuncId) (n : Nat) (C : List OpP) (ws : List Int) (f : FuncId) (args : Array Value) (W : World) (v : Value) (W' : World) : Prop :=
  (f = fg → ∃ a3 c3 gs, v = .slice a3 n c3 ∧ Hid (OwnR tenR W' W.heap.size W'.heap.size a3 n c3 gs ∧ gs.map (fun t => t.toTenP.can) = gradP C) ∧ Below W.heap.size W W') ∧
  (f = ff → ∃ ad m cap xs, v = .slice ad m cap ∧ Hid (RepF W' W.heap.size W'.heap.size ad m cap xs ∧ xs.map (cn .f32) = flatG (gradP C) ws) ∧ Below W.heap.size W W')
set_option maxHeartbeats 8000000 in
set_option maxRecDepth 100000 in
theorem spec_l04Loss (w : World) (R : Option (List OpP × List Int)) (x1 x2 x3 : Value) (num : Nat) (ls : List LayP) (X Y : TenP) (q : Nat) (hR : R = modelP ls X Y q)
    (K : Calls Tryz.prog 83 #[x1, x2, x3, .float .f32 num] w (ModOut R w)) :
    Calls Tryz.prog 56 #[x1, x2, x3, .float .f32 num] w fun e w' => ∃ ad n cap z b, e = .returned (.tuple #[.slice ad n cap, .float .f32 z, .bool b]) ∧
      Hid ((b = R.isSome ∧ (b = true → ∃ xs, RepF w' w.heap.size w'.heap.size ad n cap xs ∧ z < 4294967296 ∧ learnM R = some (xs.map (cn .f32), cn .f32 z))) ∧ (b = false → n = 0)) ∧ Below w.heap.size w w' := by
  have HK := Lib.hid K; have HR := Lib.hid hR
  clear K hR
  go_enter Tryz.func56, Tryz.ntmps56
  go_wp2_with fail
  refine HK.out.mono ?_
  rintro e w1 ⟨ad, n, cap, wa, m, wk, b, rfl, HO, hb⟩
  have HB1 := Lib.hid hb
  clear hb HK
  cases b
  · have HRN := Lib.hid HO.out.1
    clear HO
    go_wp2
    go_ret3
    exact ⟨_, _, _, _, false, rfl, Lib.hid ⟨⟨HRN.out, fun h => (by cases h)⟩, fun _ => rfl⟩, HB1.out.alloc HB1.out.size _⟩
  obtain ⟨C, ws, hRC, hm, hwf, hT⟩ := HO.out.2 rfl
  obtain ⟨us, S, hF⟩ := TapeF.of hT (HR.out.symm.trans hRC) hwf
  have HF := Lib.hid hF
  have HRC := Lib.hid hRC
  clear hT hwf HO HR hRC
  subst hm
  have hn1 := hF.n1; have hn2 := hF.n2
  have K2 := Lib.hid (spec_l04Run w1 ad cap us hF.see hF.nil S hF.sh hF.lens)
  rw [hF.len, hF.v] at K2
  clear hF
  go_wp2_with fail
  refine K2.out.mono ?_
  rintro e w2 ⟨a2, c2, vs, rfl, HV, hb2⟩
  have HB2 := Lib.hid hb2
  obtain ⟨g, tb, tq, tc, z, rfl, hcells, hz⟩ := last_cell (HF.out.below HB2.out) HV.out.1 HV.out.2
  have HC := Lib.hid hcells; have HZ := Lib.hid hz
  clear hb2 K2 hcells hz
  have K3 := Lib.hid (fun W (hb : Below w2.heap.size w2 W) => spec_l04Gradients W ad (some ⟨g, 0, none⟩) cap c2 us vs ((HF.out.see.below HB2.out).below hb) (HV.out.1.below hb).see S HF.out.sh (by rw [HV.out.2, HF.out.v]))
  rw [HF.out.len, HF.out.g] at K3
  have K4 := Lib.hid (fun W (hb : Below w2.heap.size w2 W) a3 c3 gs lo hi (h1 : OwnR tenR W lo hi a3 n c3 gs) (h2 : gs.map (fun t => t.toTenP.can) = gradP C) => spec_l04Flat W a3 wa c3 wk gs ws h1 ((HF.out.ints.below HB2.out).below hb) HF.out.ix hn2 (fun t ht => by
    have h3 := gradP_ok (os := us.map OpD.toOpP) HF.out.sh
    rw [HF.out.g] at h3
    have h4 := h3.2 t.toTenP.can (by rw [← h2]; exact List.mem_map_of_mem ht)
    simpa [TenP.can] using h4) HF.out.m)
  go_wp2_with fail
  have hni : (n : Int) - 1 = ((n - 1 : Nat) : Int) := by omega
  obtain ⟨l, hl⟩ : ∃ l, l = n - 1 := ⟨_, rfl⟩
  rw [← hl] at hni
  replace HC := Lib.hid (show ∀ V, Below w2.heap.size w2 V → V.cell? ⟨g, l * 3 + 2, none⟩ = some (.slice (some ⟨tb, tq, none⟩) 1 tc) ∧ V.cell? ⟨tb, tq, none⟩ = some (.float .f32 z) by rw [hl]; exact HC.out)
  have hln : l < n := by omega
  have hwl : IntKind.i64.wrap (l : Int) = (l : Int) := wrap_fitL (by omega) (by omega)
  clear hl hn1 hn2
  have S0 := Lib.hid (HC.out w2 (Below.refl _ _))
  refine wp_region_mix0 [2, 4] (fun W => W.cell? ⟨g, l * 3 + 2, none⟩ = some (.slice (some ⟨tb, tq, none⟩) 1 tc) ∧ W.cell? ⟨tb, tq, none⟩ = some (.float .f32 z)) (fun _ _ _ => False) (DLoss 86 85 n C ws) (by kernel_rfl) (by kernel_rfl) S0.out (fun W q h => by simpa using h) ?_
  iterate 2 (refine mwalk_plain (by rfl) S0.out (fun K hK W hW => ?_); obtain ⟨e0, e1⟩ := hW; go_simp; refine hK _ ?_; clear hK K e0 e1)
  refine mwalk_spec (by rfl) S0.out (fun K hK q0 => ?_)
  go_simp
  have D0 := Lib.hid (below_drewN (Below.refl w2.heap.size w2) q0)
  refine ⟨(K3.out _ D0.out).mono (fun e w5 h => by
    obtain ⟨a3, c3, gs, he, hh, hb⟩ := h
    exact ⟨_, he, fun _ => ⟨a3, c3, gs, rfl, hh, hb⟩, fun h => absurd h (by decide)⟩), ?_⟩
  rintro v w3 hd
  obtain ⟨a3, c3, gs, rfl, HG, hb3⟩ := hd.1 rfl
  have HB3 := Lib.hid (bthen D0.out hb3)
  have S3 := Lib.hid (HC.out w3 HB3.out)
  refine ⟨S3.out, hK _ _ ?_⟩
  clear hK K hd hb3 D0 K3 S0
  refine mwalk_plain (by rfl) S3.out (fun K hK W hW => ?_); obtain ⟨e0, e1⟩ := hW; go_simp; refine hK _ ?_; clear hK K e0 e1
  refine mwalk_spec (by rfl) S3.out (fun K hK q0 => ?_)
  go_simp
  have D0 := Lib.hid (bthen HB3.out (below_drewN (Below.refl w3.heap.size w3) q0))
  refine ⟨(K4.out _ D0.out a3 c3 gs _ _ (HG.out.1.below (below_drewN (Below.refl w3.heap.size w3) q0)) HG.out.2).mono (fun e w5 h => by
    obtain ⟨a4, c4, he, hh, hb⟩ := h
    exact ⟨_, he, fun h => absurd h (by decide), fun _ => ⟨a4, _, c4, flatT gs ws, rfl, Lib.hid ⟨hh.out, flatT_can HG.out.2 ws⟩, hb⟩⟩), ?_⟩
  rintro v w4 hd
  obtain ⟨a4, n4, c4, xs, rfl, HX, hb4⟩ := hd.2 rfl
  have hz3 := D0.out.size
  have HB4 := Lib.hid (bthen D0.out hb4)
  have S4 := Lib.hid (HC.out w4 HB4.out)
  refine ⟨S4.out, hK _ _ ?_⟩
  clear hK K hd hb4 D0 K4 S3 HG
  iterate 3 (refine mwalk_plain (by rfl) S4.out (fun K hK W hW => ?_); obtain ⟨e0, e1⟩ := hW; go_simp; refine hK _ ?_; clear hK K e0 e1)
  refine mwalk_plain (by rfl) S4.out (fun K hK W hW => ?_); obtain ⟨e0, e1⟩ := hW; go_simp; refine hK _ ?_; clear hK K e0 e1
  iterate 8 (refine mwalk_plain (by rfl) S4.out (fun K hK W hW => ?_); obtain ⟨e0, e1⟩ := hW; go_simp; refine hK _ ?_; clear hK K e0 e1)
  refine mwalk_nil (fun q9 => ?_)
  have HB5 := Lib.hid (below_drewN (bthen HB1.out (bthen HB2.out HB4.out)) q9)
  have hzz : w.heap.size ≤ (w3.drewN 0).heap.size := by
    have h1 := HB1.out.size; have h2 := HB2.out.size; have h3 := HB3.out.size
    simp; omega
  have HX5 := Lib.hid ((HX.out.1.bounds (Nat.le_trans hzz (by simp)) (Nat.le_refl _)).below (below_drewN (Below.refl _ _) q9))
  go_wp2
  go_ret3
  exact ⟨_, _, _, _, true, rfl, Lib.hid ⟨⟨by rw [HRC.out]; rfl, fun _ => ⟨xs, HX5.out, HZ.out.1, by rw [HRC.out, HX.out.2, HZ.out.2]; rfl⟩⟩, fun h => (by cases h)⟩, HB5.out⟩
end Go.Proofs.YtpadlmidojpbeaaGreat
/- x -/
namespace Go.Proofs.YtpadlmidojpbeaaGreat
open Go Go.RowKit
end Go.Proofs.YtpadlmidojpbeaaGreat
/- x -/
namespace Go.Proofs.YtpadlmidojpbeaaGreat
open Go Go.RowKit
end Go.Proofs.YtpadlmidojpbeaaGreat
/- x -/
namespace Go.Proofs.YtpadlmidojpbeaaGreat
open Go Go.RowKit
theorem flatG_len {G : List TenP} (hx : ∀ t ∈ G, t.xs.length ≤ 256) (ws : List Int) : (flatG G ws).length ≤ 256 * ws.length := by
  have hd : ∀ i, (vGet G i).xs.length ≤ 256 := by
    intro i
    unfold vGet
    rw [List.getD_eq_getElem?_getD]
    cases e : G[i.toNat]? with
    | none => exact Nat.zero_le _
    | some t => exact hx t (List.mem_of_getElem? e)
  induction ws with
  | nil => exact Nat.zero_le _
  | cons i ws ih =>
    have e : flatG G (i :: ws) = (vGet G i).xs ++ flatG G ws := rfl
    rw [e, List.length_append, List.length_cons]
    have := hd i
    omega
theorem learn_len (ls : List LayP) (X Y : TenP) (num : Nat) : ((learnM (modelP ls X Y num)).getD ([], 0)).1.length ≤ 3072 := by
  cases e : modelP ls X Y num with
  | none => exact Nat.zero_le _
  | some p =>
    obtain ⟨C, ws⟩ := p
    obtain ⟨S, hS, -, -⟩ := modelP_ok e
    have h1 := (modelP_len e).2.2
    have h2 := flatG_len (gradP_ok hS).2 ws
    show (flatG (gradP C) ws).length ≤ 3072
    omega
theorem F_eq2 (w : World) {lo1 hi1 lo2 hi2 : Nat} {a1 a2 : Option Addr} {n1 n2 c1 c2 : Nat} {xs ys : List Nat} (h1 : RepF w lo1 hi1 a1 n1 c1 xs) (h2 : RepF w lo2 hi2 a2 n2 c2 ys) (he : xs.map (cn .f32) = ys.map (cn .f32)) (hn : n1 ≤ 3072) :
    Calls Tryz.prog 12 #[.slice a1 n1 c1, .slice a2 n2 c2] w fun e w' => e = .returned (.bool true) ∧ Below w.heap.size w w' := F_eq w h1 h2 he (by omega)
theorem F_mark2 (w : World) {lo hi : Nat} {ad : Option Addr} {n cap : Nat} {xs : List Nat} (k0 : Nat) (h : RepF w lo hi ad n cap xs) (hhi : hi ≤ w.heap.size) (hn : n ≤ 3072) (hk : k0 ≤ 100000000) :
    Calls Tryz.prog 18 #[.slice ad n cap, .int .i64 k0] w fun e w' => e = .returned (.int .i64 (k0 + n : Nat)) ∧ Hid (RepF w' lo hi ad n cap (markF k0 n)) ∧ Touch lo hi w w' :=
  (F_mark w k0 h (by omega) hk).mono fun e w' ⟨h1, h2, h3⟩ => ⟨h1, Lib.hid h2, h3⟩
theorem F_held2 (w : World) {lo hi : Nat} {ad : Option Addr} {n cap : Nat} (k0 : Nat) (h : RepF w lo hi ad n cap (markF k0 n)) (hn : n ≤ 3072) (hk : k0 ≤ 100000000) :
    Calls Tryz.prog 19 #[.slice ad n cap, .int .i64 k0] w fun e w' => e = .returned (.int .i64 (k0 + n : Nat)) ∧ w = w' := F_held w k0 h (by omega) hk
end Go.Proofs.YtpadlmidojpbeaaGreat
/- x -/
namespace Go.Proofs.YtpadlmidojpbeaaGreat
open Go Go.RowKit Ieee
theorem impl_areFinite_1 (x : Nat) (w : World) : Calls Tryz.prog 72 #[.float .f32 x] w fun e w' => e = .returned (.bool !(finB x)) ∧ Dr w w' := by
  go_enter Tryz.func72, Tryz.ntmps72
  go_wp2_with (go_at_call 73; refine (impl_IsFinite _ _).mono ?_; rintro e w' ⟨rfl, ⟨q, rfl⟩⟩)
  go_ret
  exact ⟨rfl, _, rfl⟩
def IdxPostF (p : Nat → Bool) (xs : List Nat) (w : World) (e : Ending) (w' : World) : Prop := ∃ i : Int, e = .returned (.int .i64 i) ∧ decide (0 ≤ i) = xs.any p ∧ Dr w w'
theorem idx_fin (w : World) (ad : Option Addr) (cap : Nat) (xs : List Nat) (h : F32s w ad cap xs) (hn : xs.length ≤ 1048576) :
    Calls Tryz.prog 98 #[.slice ad xs.length cap, .func (.func 72) #[] #[]] w (IdxPostF (fun n => !(finB n)) xs w) := by
  obtain ⟨n, hN⟩ : ∃ n, n = xs.length := ⟨_, rfl⟩
  rw [← hN] at hn ⊢
  have HN := Lib.hid hN; clear hN
  go_enter Tryz.func98, Tryz.ntmps98
  go_wp2
  go_loopw [8] (fun i wr => ∃ k : Nat, i = .int .i64 k ∧ k ≤ n ∧ (xs.take k).any (fun n => !(finB n)) = false ∧ Dr w wr) (fun i _ => n - (intOf i).toNat)
  case atStart => exact ⟨0, rfl, Nat.zero_le _, rfl, Dr.refl _⟩
  case round =>
    obtain ⟨k, rfl, hk, hno, hdr⟩ := hrel
    have h := h.below hdr.below
    have HO := Lib.hid hno; have HD := Lib.hid hdr; clear hno hdr
    by_cases hlt : k < n
    · have hkx : k < xs.length := by rw [← HN.out]; exact hlt
      obtain ⟨b, off, rfl, _, hc⟩ := h.spot (k := k) hkx
      have hc1 := hc k hkx
      obtain ⟨x, hx⟩ : ∃ x, x = xs.getD k 0 := ⟨_, rfl⟩
      rw [← hx] at hc1
      have HX := Lib.hid hx; clear hx hc h
      cases hb : finB x
      · go_wp2_with (go_at_call 72; refine (impl_areFinite_1 _ _).mono ?_; rintro e w' ⟨rfl, ⟨q, rfl⟩⟩)
        go_ret
        refine ⟨k, rfl, ?_, HD.out.drewN _⟩
        have : (xs.any fun n => !(finB n)) = true := by
          rw [List.any_eq_true]
          exact ⟨xs.getD k 0, by rw [List.getD_eq_getElem?_getD, List.getElem?_eq_getElem hkx]; exact List.getElem_mem hkx, by rw [← HX.out, hb]; rfl⟩
        rw [this]; simp
      · go_wp2_with (go_at_call 72; refine (impl_areFinite_1 _ _).mono ?_; rintro e w' ⟨rfl, ⟨q, rfl⟩⟩)
        go_roundw
        case rel =>
          refine ⟨k + 1, by go_num, hlt, ?_, HD.out.drewN _⟩
          rw [List.take_succ_eq_append_getElem hkx, List.any_append, HO.out]
          have : xs[k] = x := by rw [HX.out, List.getD_eq_getElem?_getD, List.getElem?_eq_getElem hkx]; rfl
          simp [this, hb]
        case measure => simp [intOf]; omega
    · have hkn : k = n := by omega
      subst hkn
      go_wp2
      go_ret
      refine ⟨-1, rfl, ?_, HD.out⟩
      have := HO.out
      rw [HN.out, List.take_length] at this
      rw [this]; rfl
theorem contains_fin (w : World) (ad : Option Addr) (cap : Nat) (xs : List Nat) (h : F32s w ad cap xs) (hn : xs.length ≤ 1048576) :
    Calls Tryz.prog 71 #[.slice ad xs.length cap, .func (.func 72) #[] #[]] w fun e w' => e = .returned (.bool (xs.any (fun n => !(finB n)))) ∧ Dr w w' := by
  have hc := idx_fin w ad cap xs h hn
  have HC := Lib.hid hc; clear hc
  go_enter Tryz.func71, Tryz.ntmps71
  go_wp2_with fail
  refine HC.out.mono ?_
  rintro e w' ⟨i, rfl, hi, q, rfl⟩
  have HI := Lib.hid hi; clear hi
  go_wp2
  go_ret
  exact ⟨by rw [← HI.out]; rfl, _, rfl⟩
theorem impl_areFinite (w : World) (ad : Option Addr) (cap : Nat) (xs : List Nat) (h : F32s w ad cap xs) (hn : xs.length ≤ 1048576) :
    Calls Tryz.prog 38 #[.slice ad xs.length cap] w fun e w' => e = .returned (.bool (xs.all finB)) ∧ Dr w w' := by
  have hc := contains_fin w ad cap xs h hn
  have HC := Lib.hid hc; clear hc
  go_enter Tryz.func38, Tryz.ntmps38
  go_wp2_with fail
  refine HC.out.mono ?_
  rintro e w' ⟨rfl, q, rfl⟩
  go_wp2
  go_ret
  exact ⟨by simp [List.all_eq_not_any_not], _, rfl⟩
end Go.Proofs.YtpadlmidojpbeaaGreat
/- x -/
namespace Go.Proofs.YtpadlmidojpbeaaGreat
open Go Go.RowKit
theorem lens_mod {ls : List LayD} (h : modB (ls.map LayD.toLayP) = true) : ls.length ≤ 6 ∧ ∀ l ∈ ls, l.ws.length ≤ 64 ∧ l.bs.length ≤ 8 := by
  refine ⟨by have := (modB_len h).2; simpa using this, fun l hl => ?_⟩
  obtain ⟨k, hk, rfl⟩ := List.mem_iff_getElem.1 hl
  exact cnt_le (modB_lay h (k := k) (l := (ls[k]).toLayP) (by rw [List.getElem?_map, List.getElem?_eq_getElem hk]; rfl))
theorem modB_of_can (ls : List LayD) : modB ((ls.map fun l => l.toLayP.can).map (mapL bfE)) = modB (ls.map LayD.toLayP) := by
  rw [modB_map, show (ls.map fun l => l.toLayP.can) = (ls.map LayD.toLayP).map LayP.can by rw [List.map_map]; rfl, modB_can]
theorem scaleR_no {ls : List LayD} {X Y : TenP} {m s : Nat} (h : modB (ls.map LayD.toLayP) = false) : scaleR (ls.map fun l => l.toLayP.can) X Y m s = none := by
  unfold scaleR
  split
  · refine modelP_no ?_
    unfold goodM
    rw [modB_of_can, h]; rfl
  · rfl
theorem scaleR_off {L : List LayP} {X Y : TenP} {m s : Nat} (h : isScaleB s = false) : scaleR L X Y m s = none := by unfold scaleR; rw [h]; rfl
theorem scaleR_on {L : List LayP} {X Y : TenP} {m s : Nat} (h : isScaleB s = true) : scaleR L X Y m s = modelP (L.map (mapL bfE)) X Y (fop .mul .f32 (shareE m) (cn .f32 s)) := by unfold scaleR; rw [h]; rfl
set_option maxRecDepth 100000 in
set_option maxHeartbeats 16000000 in
theorem impl_ScaledGradients (w : World) (ma : Option Addr) (mk : Nat) (ls : List LayD) (xr xc yr yc : Int) (xa ya : Option Addr) (xk yk : Nat) (xs ys : List Nat) (s : Nat) (hls : SeeR layR w ma mk ls) (hnil : nilL ls) (hx : F32s w xa xk xs) (hy : F32s w ya yk ys) (hs : s < 4294967296) :
    Calls Tryz.prog 11 #[.agg #[.slice ma ls.length mk], .agg #[.int .i64 xr, .int .i64 xc, .slice xa xs.length xk], .agg #[.int .i64 yr, .int .i64 yc, .slice ya ys.length yk], .float .f32 s] w (SPost (scaleR (ls.map fun l => l.toLayP.can) ⟨xr, xc, xs.map (cn .f32)⟩ ⟨yr, yc, ys.map (cn .f32)⟩ ys.length s) (cn .f32 s) w) := by
  have b3 := below3 w (.cells #[.slice ma ls.length mk] 35) (.cells #[.int .i64 xr, .int .i64 xc, .slice xa xs.length xk] 37) (.cells #[.int .i64 yr, .int .i64 yc, .slice ya ys.length yk] 37)
  have BM := Lib.hid ((BoxN.alloc w #[.slice ma ls.length mk] 35).below (below2 _ (.cells #[.int .i64 xr, .int .i64 xc, .slice xa xs.length xk] 37) (.cells #[.int .i64 yr, .int .i64 yc, .slice ya ys.length yk] 37)))
  have BX := Lib.hid ((BoxN.alloc2 w (.cells #[.slice ma ls.length mk] 35) #[.int .i64 xr, .int .i64 xc, .slice xa xs.length xk] 37).below (below1 _ (.cells #[.int .i64 yr, .int .i64 yc, .slice ya ys.length yk] 37)))
  have BY := Lib.hid (BoxN.alloc3 w (.cells #[.slice ma ls.length mk] 35) (.cells #[.int .i64 xr, .int .i64 xc, .slice xa xs.length xk] 37) #[.int .i64 yr, .int .i64 yc, .slice ya ys.length yk] 37)
  have B3 := Lib.hid b3
  have HLS := Lib.hid (hls.below b3); have HX := Lib.hid (hx.below b3); have HY := Lib.hid (hy.below b3)
  have K1 := Lib.hid (impl_ValidModel _ ma mk ls (hls.below b3))
  obtain ⟨w3, hw3⟩ : ∃ W, W = ((w.alloc (.cells #[.slice ma ls.length mk] 35)).alloc (.cells #[.int .i64 xr, .int .i64 xc, .slice xa xs.length xk] 37)).alloc (.cells #[.int .i64 yr, .int .i64 yc, .slice ya ys.length yk] 37) := ⟨_, rfl⟩
  rw [← hw3] at BM BX BY B3 HLS HX HY K1
  have HW3 := Lib.hid hw3
  obtain ⟨R, hR⟩ : ∃ R, R = scaleR (ls.map fun l => l.toLayP.can) ⟨xr, xc, xs.map (cn .f32)⟩ ⟨yr, yc, ys.map (cn .f32)⟩ ys.length s := ⟨_, rfl⟩
  rw [← hR]
  have HR := Lib.hid hR
  have HNIL := Lib.hid hnil
  clear hls hx hy b3 hw3 hR hnil
  cases eM : modB (ls.map LayD.toLayP)
  · rw [eM] at K1
    have HRN : Hid (R = none) := Lib.hid (by rw [HR.out]; exact scaleR_no eM)
    clear eM HR
    go_enter Tryz.func11, Tryz.ntmps11
    go_upto_region 1 with fail
    rw [← HW3.out]
    obtain ⟨-, p0, -⟩ := BM.out.one1
    go_wp2_with fail
    refine K1.out.mono ?_
    rintro e w4 ⟨rfl, hb⟩
    have HB := Lib.hid (bthen B3.out hb)
    clear hb p0
    go_wp2
    try simp only [Exit.inBlock, Exit.then]
    refine bodyPost_ret (v := .tuple #[.slice none 0 0, .float .f32 0, .bool false, .bool false]) (by simp [results, Tryz.results11, go_sem]) rfl ?_
    exact SPost.none HRN.out rfl HB.out
  rw [eM] at K1
  have hlens := lens_mod eM
  have HLN := Lib.hid hlens
  have KI := Lib.hid (fun W => impl_isScale s W)
  cases eS : isScaleB s
  · rw [eS] at KI
    have HRN : Hid (R = none) := Lib.hid (by rw [HR.out]; exact scaleR_off eS)
    clear eM eS HR hlens
    go_enter Tryz.func11, Tryz.ntmps11
    go_upto_region 1 with fail
    rw [← HW3.out]
    obtain ⟨-, p0, -⟩ := BM.out.one1
    go_wp2_with fail
    refine K1.out.mono ?_
    rintro e w4 ⟨rfl, hb⟩
    have HB := Lib.hid (bthen B3.out hb)
    clear hb p0
    go_wp2_with fail
    refine (KI.out _).mono ?_
    rintro e w5 ⟨rfl, rfl⟩
    go_wp2
    try simp only [Exit.inBlock, Exit.then]
    refine bodyPost_ret (v := .tuple #[.slice none 0 0, .float .f32 0, .bool false, .bool false]) (by simp [results, Tryz.results11, go_sem]) rfl ?_
    exact SPost.none HRN.out rfl HB.out
  rw [eS] at KI
  rw [scaleR_on eS] at HR
  clear eM eS
  have KR := Lib.hid (fun W (hb : Below w3.heap.size w3 W) => impl_rounded W ma mk ls (HLS.out.below hb) HNIL.out hlens.1 hlens.2)
  have KT := Lib.hid (fun W (hb : Below w3.heap.size w3 W) ad m cap (us : List LayD) {lo hi} (h : OwnR layR W lo hi ad m cap us) => impl_modelTape W ad cap us xr xc yr yc xa ya xk yk xs ys h.see (HX.out.below hb) (HY.out.below hb))
  clear hlens
  go_enter Tryz.func11, Tryz.ntmps11
  go_upto_region 1 with fail
  rw [← HW3.out]
  obtain ⟨-, p0, -⟩ := BM.out.one1
  go_wp2_with fail
  refine K1.out.mono ?_
  rintro e w4 ⟨rfl, hb⟩
  have HB4 := Lib.hid hb
  clear hb p0
  go_wp2_with fail
  refine (KI.out _).mono ?_
  rintro e w5 ⟨rfl, rfl⟩
  clear KI K1
  obtain ⟨-, p0, -⟩ := (BM.out.below HB4.out).one1
  obtain ⟨-, x0, x1, x2, -⟩ := (BX.out.below HB4.out).three
  obtain ⟨-, y0, y1, y2, -⟩ := (BY.out.below HB4.out).three
  go_wp2
  go_region_held3 (fun w' => w'.cell? ⟨w.heap.size, 0, none⟩ = some (.slice ma ls.length mk) ∧ w'.cell? ⟨w.heap.size + 1, 0, none⟩ = some (.int .i64 xr) ∧ w'.cell? ⟨w.heap.size + 1, 1, none⟩ = some (.int .i64 xc) ∧ w'.cell? ⟨w.heap.size + 1, 2, none⟩ = some (.slice xa xs.length xk) ∧ w'.cell? ⟨w.heap.size + 1 + 1, 0, none⟩ = some (.int .i64 yr) ∧ w'.cell? ⟨w.heap.size + 1 + 1, 1, none⟩ = some (.int .i64 yc) ∧ w'.cell? ⟨w.heap.size + 1 + 1, 2, none⟩ = some (.slice ya ys.length yk)) (go_keep)
    (first
      | (go_at_call 36; refine (KR.out _ (bthen HB4.out (Below.drew (Below.refl _ _)))).mono ?_; rintro e w6 ⟨ad, m, cap, us, rfl, HU, hb6⟩; have HB6 := Lib.hid (bthen HB4.out (below_dr1 hb6)); clear hb6 p0 x0 x1 x2 y0 y1 y2; obtain ⟨-, p0, -⟩ := (BM.out.below HB6.out).one1; obtain ⟨-, x0, x1, x2, -⟩ := (BX.out.below HB6.out).three; obtain ⟨-, y0, y1, y2, -⟩ := (BY.out.below HB6.out).three)
      | (go_at_call 35; have hKT := KT.out w6 HB6.out ad m cap us HU.out.2; rw [HU.out.2.len] at hKT; have HKT := Lib.hid hKT; clear hKT; refine HKT.out.mono ?_; rintro e w7 ⟨ta, n, tk, wa, q, wk, b, rfl, HO, hb7⟩; have HB7 := Lib.hid (bthen HB6.out hb7); clear hb7 HKT p0 x0 x1 x2 y0 y1 y2; obtain ⟨-, p0, -⟩ := (BM.out.below HB7.out).one1; obtain ⟨-, x0, x1, x2, -⟩ := (BX.out.below HB7.out).three; obtain ⟨-, y0, y1, y2, -⟩ := (BY.out.below HB7.out).three))
  clear p0 x0 x1 x2 y0 y1 y2 KR KT BM BX BY
  cases b
  · have HRN : Hid (R = none) := Lib.hid (by
      have h := HO.out.1
      rw [HU.out.1] at h
      rw [HR.out]
      refine modelP_any (num := shareE ys.length) ?_ _
      revert h
      cases modelP ((ls.map fun l => l.toLayP.can).map (mapL bfE)) ⟨xr, xc, xs.map (cn .f32)⟩ ⟨yr, yc, ys.map (cn .f32)⟩ (shareE ys.length) with
      | none => intro _; rfl
      | some p => intro h; cases h)
    have HB := Lib.hid (bthen B3.out HB7.out)
    clear HO HR HU HLS HX HY HNIL HLN
    go_wp2
    try simp only [Exit.inBlock, Exit.then]
    refine bodyPost_ret (v := .tuple #[.slice none 0 0, .float .f32 0, .bool false, .bool false]) (by simp [results, Tryz.results11, go_sem]) rfl ?_
    exact SPost.none HRN.out rfl HB.out
  obtain ⟨C, ws, h1, h2, h3, h4⟩ := HO.out.2.1 rfl
  rw [HU.out.1] at h1
  obtain ⟨P, a, rfl, hq⟩ := modelP_num h1
  have h5 := h4.base (bthen B3.out HB6.out)
  have HRQ := Lib.hid (HR.out.trans (hq _))
  have HMQ := Lib.hid (hq (fop .mul .f32 (shareE ys.length) (cn .f32 s)))
  have HWF := Lib.hid h3
  have HLW := Lib.hid h2
  have hpl := modelP_len (hq 0)
  have hcn : n = P.length + 1 := by obtain ⟨us', e1, e2, -⟩ := h5; rw [← e1, ← List.length_map (f := fun o : OpD => o.toOpP.can), e2]; simp
  obtain ⟨g, q0, rfl, hg, hn1, hc, hf, hqn, hset⟩ := h5.setNum
  have hn48 : n ≤ 48 := by have := hpl.1; simp at this; omega
  have hm12 : q ≤ 12 := by rw [← h2]; exact hpl.2.2
  have hni : (n : Int) - 1 = ((n - 1 : Nat) : Int) := by omega
  obtain ⟨l, hl⟩ : ∃ l, l = n - 1 := ⟨_, rfl⟩
  rw [← hl] at hni hc hf hset
  have hln : l < n := by omega
  have hwl : IntKind.i64.wrap (l : Int) = (l : Int) := wrap_fitL (by omega) (by omega)
  have HSET := Lib.hid hset; have HQN := Lib.hid hqn
  have HB8 := Lib.hid (bthen B3.out HB7.out)
  have hgl := hg.2
  clear h1 h2 h3 h4 h5 hq hpl hcn hl hset hqn hg HO HU HLS HX HY HNIL HLN HR HB6 HB7 HB4
  go_upto_region 8 with fail
  obtain ⟨y, hy⟩ : ∃ y, y = fbits BinOp.mul FloatKind.f32 q0 s w7 := ⟨_, rfl⟩
  rw [← hy]
  have hyl : y < 4294967296 := by rw [hy]; exact fbits_lt _ .f32 _ _ _
  have hyc : cn .f32 y = fop .mul .f32 (shareE ys.length) (cn .f32 s) := by rw [hy, cn_fbits, HQN.out]
  have hT := (HSET.out y hyl).move (below_drewN (Below.refl _ _) (fdr BinOp.mul FloatKind.f32 q0 s))
  have HT : Hid (TN w ((w7.drewN (fdr BinOp.mul FloatKind.f32 q0 s)).setCell ⟨g, l * 7 + 3, none⟩ (.float .f32 y)) (some ⟨g, 0, none⟩) n tk (P ++ [opW 5 a 0 (cn .f32 y)]) [intRow wa wk ws]) := Lib.hid hT
  rw [hyc] at HT
  clear hy hyl hyc hT HSET HQN hc hf hni hwl hln hn1
  generalize (w7.drewN (fdr BinOp.mul FloatKind.f32 q0 s)).setCell ⟨g, l * 7 + 3, none⟩ (.float .f32 y) = W9 at HT ⊢
  obtain ⟨us2, S, hF⟩ := TapeF.of HT.out HMQ.out HWF.out
  have KL := Lib.hid (impl_learned W9 _ n tk wa wk ws _ us2 S hF)
  rw [HLW.out] at KL
  have HB9 := Lib.hid HT.out.below
  have HRL := Lib.hid (show learnM R = some (flatG (gradP (P ++ [opW 5 a 0 (fop .mul .f32 (shareE ys.length) (cn .f32 s))])) ws, lossP (P ++ [opW 5 a 0 (fop .mul .f32 (shareE ys.length) (cn .f32 s))])) by rw [HRQ.out]; rfl)
  have HRI := Lib.hid (show R.isSome = true by rw [HRQ.out]; rfl)
  have HML := Lib.hid (show (flatG (gradP (P ++ [opW 5 a 0 (fop .mul .f32 (shareE ys.length) (cn .f32 s))])) ws).length ≤ 3072 by
    have h := learn_len ((ls.map fun l => l.toLayP.can).map (mapL bfE)) ⟨xr, xc, xs.map (cn .f32)⟩ ⟨yr, yc, ys.map (cn .f32)⟩ (fop .mul .f32 (shareE ys.length) (cn .f32 s))
    rw [HMQ.out] at h
    exact h)
  clear hF HT HMQ HWF HRQ HB8
  generalize P ++ [opW 5 a 0 (fop .mul .f32 (shareE ys.length) (cn .f32 s))] = C at KL HRL HML
  go_wp2_with fail
  refine KL.out.mono ?_
  rintro e w10 ⟨la, m2, c2, z, zs, rfl, HX, hb10⟩
  have hlen := HX.out.1.len
  have hm2 : m2 ≤ 3072 := by
    have h := congrArg List.length HX.out.2.2.1
    rw [List.length_map, hlen] at h
    rw [h]; exact HML.out
  have KF := Lib.hid (impl_areFinite w10 la c2 zs HX.out.1.arg (by rw [hlen]; omega))
  rw [hlen] at KF
  have HZL := Lib.hid hlen
  have HB10 := Lib.hid (HB9.out.trans (hb10.mono HB9.out.size))
  have HXR := Lib.hid HX.out.1; have HXZ := Lib.hid HX.out.2
  have hsz : w.heap.size ≤ W9.heap.size := HB9.out.size
  clear KL hb10 HX hlen HML HB9 HLW
  go_wp2_with fail
  refine KF.out.mono ?_
  rintro e w11 ⟨rfl, hd⟩
  have HB11 := Lib.hid (bthen HB10.out hd.below)
  have HX11 := Lib.hid (HXR.out.below hd.below)
  have HS11 := Lib.hid (And.intro HB11.out hd.below.size)
  clear hd KF HB10 HXR
  go_wp2
  go_loopw [19, 63] (fun i q wt => ∃ k : Nat, q = .int .i64 k ∧ k ≤ m2 ∧ Hid (∃ us, RepF wt W9.heap.size w10.heap.size la m2 c2 us ∧ InPl (fun g => fop .quo .f32 g (cn .f32 s)) zs k us) ∧ Hid (Below w.heap.size w wt ∧ w10.heap.size ≤ wt.heap.size)) (fun i q wt => m2 - (intOf q).toNat)
  case atStart => exact ⟨0, rfl, Nat.zero_le _, Lib.hid ⟨_, HX11.out, InPl.zero _ _⟩, HS11⟩
  case round =>
    obtain ⟨k, rfl, hk, HY, HB⟩ := hrel
    by_cases hlt : k < m2
    · obtain ⟨us, hr, hip⟩ := HY.out
      obtain ⟨x, hx⟩ := getElem?_lt (show k < zs.length by rw [HZL.out]; exact hlt)
      have HXX := Lib.hid hx
      obtain ⟨g', rfl, hge, hcc, hf, -⟩ := hr.open (by omega)
      have hck := hcc k hlt
      rw [hip.at' hx] at hck
      have hfk := hf k
      have hgl : g' < wr.heap.size := (hr.row.own.lt g' rfl).2
      have HRR := Lib.hid hr; have HIP := Lib.hid hip
      clear hx hcc hr hip hf HY
      go_wp2
      refine ⟨?rel, ?measure⟩
      case rel =>
        have hb1 := below_drewN (Below.refl wr.heap.size wr) (fdr BinOp.quo FloatKind.f32 x s)
        exact ⟨k + 1, by go_num, hlt, Lib.hid ⟨_, (HRR.out.below hb1).setAt k _ (fbits_lt _ .f32 _ _ _) (by omega), HIP.out.set HXX.out (by rw [cn_fbits])⟩, Lib.hid ⟨(bthen HB.out.1 hb1).setCell (p := ⟨g', k, none⟩) (Nat.le_trans hsz hge) _, by simpa [World.setCell] using HB.out.2⟩⟩
      case measure => simp [intOf]; omega
    · have e : k = m2 := by omega
      subst e
      obtain ⟨us, hr, hip⟩ := HY.out
      have HE := Lib.hid (hip.all HZL.out.symm)
      have HRR := Lib.hid hr
      clear hr hip HY
      go_wp2
      try simp only [Exit.inBlock, Exit.then]
      refine bodyPost_ret (v := .tuple #[.slice la k c2, .float .f32 (fbits BinOp.quo FloatKind.f32 z s wr), .bool (zs.all finB), .bool true]) (by simp [results, Tryz.results11, go_sem]) rfl ?_
      have hb1 := below_drewN (Below.refl wr.heap.size wr) (fdr BinOp.quo FloatKind.f32 z s)
      refine ⟨_, _, _, _, _, _, us, rfl, Lib.hid ⟨⟨⟨HRI.out.symm, ?_⟩, ?_, fbits_lt _ .f32 _ _ _⟩, ?_⟩, bthen HB.out.1 hb1⟩
      · rw [scalM_some HRL.out, ← HXZ.out.2.1, all_finB_cn]
      · rw [scalM_some HRL.out, HE.out, HXZ.out.2.1, cn_fbits, HXZ.out.2.2]
      · exact (HRR.out.below hb1).bounds hsz (by simpa using HB.out.2)
end Go.Proofs.YtpadlmidojpbeaaGreat
/- x -/
namespace Go.Proofs.YtpadlmidojpbeaaGreat
open Go Go.RowKit
set_option maxRecDepth 100000 in
set_option maxHeartbeats 4000000 in
theorem spec_l06Rounded (w : World) (ad : Option Addr) (cap : Nat) (xs : List Nat) (h : F32s w ad cap xs) (hn : xs.length ≤ 1048576) :
    Calls Tryz.prog 82 #[.slice ad xs.length cap] w fun e w' => ∃ ad' n' cap' ys, e = .returned (.slice ad' n' cap') ∧ n' = xs.length ∧ Hid (RepF w' w.heap.size w'.heap.size ad' n' cap' ys ∧ ys.map (cn .f32) = (xs.map (cn .f32)).map bfE) ∧ Below w.heap.size w w' := by
  obtain ⟨i0, hi, hz0, hz1, hz2⟩ := info_parts info_f32
  have H := Lib.hid h
  obtain ⟨n, hN⟩ : ∃ n, n = xs.length := ⟨_, rfl⟩
  rw [← hN] at hn ⊢
  have HN := Lib.hid hN
  clear h hN
  go_enter Tryz.func82, Tryz.ntmps82
  go_wp2
  go_loopw [3, 4] (fun v i wr => ∃ k : Nat, i = .int .i64 k ∧ k ≤ n ∧ Hid (∃ ys : List Nat, wr.ownsRow w.heap.size 28 1 v k (ys.map (Value.float .f32)) ∧ ys.length = k ∧ ys.map (cn .f32) = ((xs.take k).map (cn .f32)).map bfE ∧ (∀ y ∈ ys, y < 4294967296)) ∧ Hid (Below w.heap.size w wr) ∧ w.heap.size ≤ wr.heap.size) (fun _ i _ => n - (intOf i).toNat)
  case atStart => exact ⟨0, rfl, Nat.zero_le _, Lib.hid ⟨[], World.ownsRow_made _ _ _ (Nat.le_refl _) (Nat.zero_le _) rfl, rfl, rfl, (fun y hy => nomatch hy)⟩, Lib.hid (below1 _ _), by simp⟩
  case round =>
    obtain ⟨k, rfl, hk, HO, HB, hbs⟩ := hrel
    by_cases hlt : k < n
    · have hk1 : k < xs.length := by rw [← HN.out]; exact hlt
      obtain ⟨ys, hown, hyl, hye, hylt⟩ := HO.out
      obtain ⟨x, hx⟩ := getElem?_lt hk1
      have h1 := H.out.below HB.out
      obtain ⟨b, off, rfl, _, hq⟩ := F32s.spot h1 (k := k) hk1
      have hc := hq k hk1
      have ex : xs.getD k 0 = x := by rw [List.getD_eq_getElem?_getD, hx]; rfl
      rw [ex] at hc
      have hxl := H.out.lt x (List.mem_of_getElem? hx)
      have K := Lib.hid (fun W => spec_l01Bfloat x hxl W)
      have HOW := Lib.hid hown; have HYL := Lib.hid hyl; have HYE := Lib.hid hye; have HYT := Lib.hid hylt
      have HX := Lib.hid hx
      clear hown hyl hye hylt hx h1 hq ex HO
      go_wp2_with fail
      refine (K.out _).mono ?_
      rintro e w5 ⟨r, rfl, hr, hd⟩
      have HR := Lib.hid hr.out
      have HB5 := Lib.hid (HB.out.trans (hd.below.mono hbs))
      have HOW5 := Lib.hid ((Row.mk' HOW.out).below hd.below).own
      have hbs5 : w.heap.size ≤ w5.heap.size := Nat.le_trans hbs hd.below.size
      clear hr hd K HOW HB
      go_wp2_with (at_builtin; refine wp_app rfl _ _ 25 rfl w.heap.size i0 (.float .f32 0) 1 4 Tryz.underlying25 hi hz0 hz1 hz2 rfl (by decide) rfl (one_cell _ rfl) _ _ _ rfl HOW5.out rfl ?c3 ?c4 ?c5 ?_)
      case c3 => unfold maxLen; omega
      case c4 => omega
      case c5 => exact hbs5
      intro v' w9 hown1 hb1 hbs1
      have HOW2 := Lib.hid hown1; have HB2 := Lib.hid (HB5.out.trans hb1)
      clear hown1 hb1
      go_wp2
      refine ⟨?rel, ?measure⟩
      case rel =>
        refine ⟨k + 1, by go_num, hlt, Lib.hid ⟨ys ++ [r], by simpa using HOW2.out, by simp [HYL.out], ?_, ?_⟩, HB2, hbs1⟩
        · rw [List.take_add_one, HX.out, List.map_append, HYE.out, Option.toList_some, List.map_append, List.map_append]
          simp [HR.out.1]
        · intro z hz
          rcases List.mem_append.1 hz with hz | hz
          · exact HYT.out z hz
          · simp at hz; subst hz; exact HR.out.2
      case measure => simp [intOf]; omega
    · have e : k = n := by omega
      subst e
      obtain ⟨ys, hown, hyl, hye, hylt⟩ := HO.out
      obtain ⟨ad', cap', rfl, hr⟩ := RepF.of_owns hown hylt
      rw [HN.out, List.take_length] at hye
      have HX := Lib.hid (And.intro hr hye)
      clear HO hown hyl hye hylt hr
      go_wp2
      go_ret
      exact ⟨ad', _, cap', ys, rfl, rfl, HX, HB.out⟩
end Go.Proofs.YtpadlmidojpbeaaGreat
/- x -/
namespace Go.Proofs.YtpadlmidojpbeaaGreat
open Go Go.RowKit
set_option maxRecDepth 100000 in
set_option maxHeartbeats 8000000 in
theorem spec_l06Bfloat (w : World) (mb mo : Nat) (ma : Option Addr) (mk : Nat) (ls : List LayD) (hmb : mb < w.heap.size) (hm : w.cell? ⟨mb, mo, none⟩ = some (.slice ma ls.length mk)) (hls : SeeR layR w ma mk ls) (hn : ls.length ≤ 100) (hi2 : ∀ l ∈ ls, l.ws.length ≤ 1048576 ∧ l.bs.length ≤ 1048576) :
    Calls Tryz.prog 55 #[.pointer (some ⟨mb, mo, none⟩)] w (LayPost ((ls.map fun l => l.toLayP.can).map (mapL bfE)) w) := by
  obtain ⟨i0, hi0, hz0, hzs, hz2⟩ := info_parts info_lay
  have HLS := Lib.hid hls; have HI2 := Lib.hid hi2
  have HM := Lib.hid (fun W (hb : Below w.heap.size w W) => (hb.cell (p := ⟨mb, mo, none⟩) hmb).trans hm)
  obtain ⟨n, hN⟩ : ∃ n, n = ls.length := ⟨_, rfl⟩
  rw [← hN] at hn HM
  have HN := Lib.hid hN
  clear hls hi2 hm hN hmb
  have HL0 := Lib.hid ((((LN.nil w).alloc #[.slice none 0 0] 35).nil1).alloc #[.slice (some ⟨w.heap.size + 1, 0, none⟩) 0 0] 35)
  go_enter Tryz.func55, Tryz.ntmps55
  go_upto_region 2 with fail
  obtain ⟨ob, hob⟩ : ∃ g, g = w.heap.size + 1 + 1 := ⟨_, rfl⟩
  obtain ⟨W3, hW3⟩ : ∃ W, W = ((w.alloc (.cells #[.slice none 0 0] 35)).alloc (.cells #[] 99)).alloc (.cells #[.slice (some ⟨w.heap.size + 1, 0, none⟩) 0 0] 35) := ⟨_, rfl⟩
  rw [← hob, ← hW3]
  have HL : Hid (LN w W3 (some ⟨w.heap.size + 1, 0, none⟩) 0 0 [] [xRow 35 ob [.slice (some ⟨w.heap.size + 1, 0, none⟩) 0 0], xRow 35 w.heap.size [.slice none 0 0]]) := Lib.hid (by
    have h := HL0.out
    have e1 : (w.alloc (.cells #[.slice none 0 0] 35)).heap.size = w.heap.size + 1 := by simp
    have e2 : ((w.alloc (.cells #[.slice none 0 0] 35)).alloc (.cells #[] 99)).heap.size = w.heap.size + 1 + 1 := by simp
    rw [e1, e2, ← hob, ← hW3] at h
    exact h)
  clear hob hW3 HL0
  go_wp2
  go_loopw [4, 5] (fun i p wt => ∃ k : Nat, i = .int .i64 k ∧ k ≤ n ∧ ∃ ad cap, Hid (LN w wt ad k cap ((ls.take k).map fun l => mapL bfE l.toLayP.can) [xRow 35 ob [.slice ad k cap], xRow 35 w.heap.size [.slice none 0 0]])) (fun i p wt => n - (intOf i).toNat)
  case atStart => exact ⟨0, rfl, Nat.zero_le _, _, 0, HL⟩
  case round =>
    obtain ⟨k, rfl, hk, ad, cap, HL1⟩ := hrel
    have hm := HM.out wr HL1.out.below
    by_cases hlt : k < n
    · obtain ⟨l, hl⟩ := getElem?_lt (show k < ls.length by rw [← HN.out]; exact hlt)
      have HLL := Lib.hid hl
      have hb0 := HL1.out.below
      have hii := HI2.out l (List.mem_of_getElem? hl)
      have hsee := HLS.out.below hb0
      clear hl
      obtain ⟨-, -, -, -, -, ⟨hfw, hfb⟩, hok⟩ := lay_spot HLS.out HLL.out
      obtain ⟨b, off, rfl, hb, ⟨c0, c1, c2, c3, c4⟩, -, -⟩ := lay_spot hsee HLL.out
      have HTK := Lib.hid (show (ls.take (k + 1)).map (fun l => mapL bfE l.toLayP.can) = (ls.take k).map (fun l => mapL bfE l.toLayP.can) ++ [mapL bfE l.toLayP.can] by
        rw [List.take_add_one, HLL.out, List.map_append]; rfl)
      have HFW := Lib.hid (fun W (hb : Below w.heap.size w W) => hfw.below hb); have HFB := Lib.hid (fun W (hb : Below w.heap.size w W) => hfb.below hb); have HOK := Lib.hid hok
      clear HLL hsee hfw hfb hok hb0
      obtain ⟨⟨kk, li, lo, lws, lbs⟩, wa, wk, ba, bk⟩ := l
      simp only at c0 c1 c2 c3 c4 hii HFW HFB
      obtain ⟨m1, hm1⟩ : ∃ m, m = lws.length := ⟨_, rfl⟩
      obtain ⟨m2, hm2⟩ : ∃ m, m = lbs.length := ⟨_, rfl⟩
      rw [← hm1] at c3 hii; rw [← hm2] at c4 hii
      have HM1 := Lib.hid hm1; have HM2 := Lib.hid hm2
      clear hm1 hm2
      have HL2 := Lib.hid (HL1.out.alloc #[.int .i64 kk, .int .i64 li, .int .i64 lo, .slice wa m1 wk, .slice ba m2 bk] 99)
      go_upto_region 6 with fail
      clear c0 c1 c2 c3 c4 HL1 hm hb
      generalize wr.alloc (.cells #[.int .i64 kk, .int .i64 li, .int .i64 lo, .slice wa m1 wk, .slice ba m2 bk] 99) = W4 at HL2 ⊢
      generalize wr.heap.size = lb at HL2 ⊢
      have BX := (HL2.out.box (List.mem_cons_self ..)).five
      obtain ⟨-, d0, d1, d2, d3, d4, -⟩ := BX
      have K := Lib.hid (spec_l06Rounded W4 wa wk lws (HFW.out _ HL2.out.below) (by rw [← HM1.out]; exact hii.1))
      rw [← HM1.out] at K
      go_wp2_with fail
      refine K.out.mono ?_
      rintro e w5 ⟨a5, n5, k5, y5, rfl, rfl, HY5, hb5⟩
      have HL3 := Lib.hid ((HL2.out.addF hb5 HY5.out.1).swap)
      have HE5 := Lib.hid HY5.out.2
      have HO5 := Lib.hid HY5.out.1.lt
      have HN5 := Lib.hid HY5.out.1.len
      clear K hb5 d0 d1 d2 d3 d4 HL2 HFW HY5
      obtain ⟨hl5, d0, d1, d2, d3, d4, hf⟩ := (HL3.out.box (List.mem_cons_self ..)).five
      have hf3 := hf 3
      clear hf
      go_upto_region 7 with fail
      have HL4 := Lib.hid (HL3.out.store 3 (.slice a5 n5 k5))
      clear HL3 d0 d1 d2 d3 d4 hf3 hl5
      generalize w5.setCell ⟨lb, 3, none⟩ (.slice a5 n5 k5) = W6 at HL4 ⊢
      have HL4 : Hid (LN w W6 ad k cap ((ls.take k).map fun l => mapL bfE l.toLayP.can) (xRow 99 lb [.int .i64 kk, .int .i64 li, .int .i64 lo, .slice a5 n5 k5, .slice ba m2 bk] :: floatRow a5 k5 y5 :: [xRow 35 ob [.slice ad k cap], xRow 35 w.heap.size [.slice none 0 0]])) := HL4
      obtain ⟨-, d0, d1, d2, d3, d4, -⟩ := (HL4.out.box (List.mem_cons_self ..)).five
      have K := Lib.hid (spec_l06Rounded W6 ba bk lbs (HFB.out _ HL4.out.below) (by rw [← HM2.out]; exact hii.2))
      rw [← HM2.out] at K
      go_wp2_with fail
      refine K.out.mono ?_
      rintro e w7 ⟨a7, n7, k7, y7, rfl, rfl, HY7, hb7⟩
      have HL5 := Lib.hid ((HL4.out.addF hb7 HY7.out.1).swap)
      have HE7 := Lib.hid HY7.out.2
      have HO7 := Lib.hid HY7.out.1.lt
      have HN7 := Lib.hid HY7.out.1.len
      clear K hb7 d0 d1 d2 d3 d4 HL4 HFB HY7
      obtain ⟨hl7, d0, d1, d2, d3, d4, hf⟩ := (HL5.out.box (List.mem_cons_self ..)).five
      have hf4 := hf 4
      clear hf
      go_upto_region 8 with fail
      have HL6 := Lib.hid (HL5.out.store 4 (.slice a7 n7 k7))
      clear HL5 d0 d1 d2 d3 d4 hf4 hl7
      generalize w7.setCell ⟨lb, 4, none⟩ (.slice a7 n7 k7) = W8 at HL6 ⊢
      have HL6 : Hid (LN w W8 ad k cap ((ls.take k).map fun l => mapL bfE l.toLayP.can) (xRow 99 lb [.int .i64 kk, .int .i64 li, .int .i64 lo, .slice a5 n5 k5, .slice a7 n7 k7] :: floatRow a7 k7 y7 :: floatRow a5 k5 y5 :: [xRow 35 ob [.slice ad k cap], xRow 35 w.heap.size [.slice none 0 0]])) := HL6
      obtain ⟨-, d0, d1, d2, d3, d4, -⟩ := (HL6.out.box (List.mem_cons_self ..)).five
      obtain ⟨ho8, o0, of⟩ := (HL6.out.box (t := 35) (g := ob) (cs := [.slice ad k cap]) (by simp)).one1
      have hlP := (HL6.out.sub (E' := floatRow a7 k7 y7 :: floatRow a5 k5 y5 :: [xRow 35 ob [.slice ad k cap], xRow 35 w.heap.size [.slice none 0 0]]) (List.sublist_cons_self _ _)).swap.push
      obtain ⟨vs, hrow, hpush⟩ := hlP
      have HROW := Lib.hid hrow; have HPU := Lib.hid hpush
      have hbs := HL6.out.below.size
      clear hrow hpush HL6
      go_wp2_with (at_builtin; refine wp_appM rfl _ _ 33 rfl w.heap.size i0 (.agg #[.int .i64 0, .int .i64 0, .int .i64 0, .slice none 0 0, .slice none 0 0]) 5 72 1 Tryz.underlying33 hi0 hz0 hzs hz2 rfl (by decide) rfl (by intro u hu; simp at hu; rcases hu with rfl | rfl | rfl | rfl | rfl <;> rfl) _ _ _ rfl HROW.out (by go_simp) ?c3 ?c4 ?c5 ?_)
      case c3 => unfold maxLen; omega
      case c4 => omega
      case c5 => exact hbs
      intro v' w9 hown9 hg9 hat9
      obtain ⟨ad9, cap9, rfl, HL9⟩ := HPU.out ⟨⟨kk, li, lo, y5, y7⟩, a5, k5, a7, k7⟩ _ v' w9 ⟨⟨HO5.out, HO7.out⟩, HOK.out.2⟩ (by rfl) (by have h := hown9; rw [← HN5.out, ← HN7.out] at h; exact h) hg9 hat9
      have HLA := Lib.hid HL9
      have HEQ := Lib.hid (show LayP.can ⟨kk, li, lo, y5, y7⟩ = mapL bfE (LayP.can ⟨kk, li, lo, lws, lbs⟩) by
        unfold mapL LayP.can
        simp only
        rw [HE5.out, HE7.out])
      clear hown9 hg9 hat9 HPU HL9 HROW d0 d1 d2 d3 d4 o0 of ho8
      obtain ⟨ho9, o0, of⟩ := (HLA.out.box (List.mem_cons_self ..)).one1
      have hof := of 0
      clear of
      go_wp2
      refine ⟨?rel, ?measure⟩
      case rel =>
        refine ⟨k + 1, by go_num, hlt, ad9, cap9, Lib.hid ?_⟩
        rw [HTK.out]
        have h := HLA.out.store 0 (.slice ad9 (k + 1) cap9)
        rw [HEQ.out] at h
        exact h
      case measure => simp [intOf]; omega
    · have e : k = n := by omega
      subst e
      have HT := Lib.hid (show (ls.take k).map (fun l => mapL bfE l.toLayP.can) = (ls.map fun l => l.toLayP.can).map (mapL bfE) by rw [HN.out, List.take_length, List.map_map]; rfl)
      rw [HT.out] at HL1
      obtain ⟨-, o0, -⟩ := (HL1.out.box (List.mem_cons_self ..)).one1
      obtain ⟨hr1, r0, rf⟩ := (HL1.out.box (t := 35) (g := w.heap.size) (cs := [.slice none 0 0]) (by simp)).one1
      have hrf := rf 0
      clear rf
      have HFIN := Lib.hid (HL1.out.swap.store 0 (.slice ad k cap))
      go_wp2
      try simp only [Exit.inBlock, Exit.then]
      refine bodyPost_ret (v := .agg #[.slice ad k cap]) (by simp [results, Tryz.results55, go_sem, r0, hr1]) rfl ?_
      obtain ⟨us, h0, h2, h3, h4⟩ := HFIN.out
      exact ⟨ad, k, cap, us, rfl, Lib.hid ⟨h2, h3.r⟩, h4⟩
end Go.Proofs.YtpadlmidojpbeaaGreat
/- x -/
namespace Go.Proofs.YtpadlmidojpbeaaGreat
open Go Go.RowKit
def ScOut (R : Option (List OpP × List Int)) (s : Nat) (w : World) (e : Ending) (w' : World) : Prop := ∃ ad n cap z f b, e = .returned (.tuple #[.slice ad n cap, .float .f32 z, .bool f, .bool b]) ∧
  Hid (b = R.isSome ∧ (b = true → ∃ xs, RepF w' w.heap.size w'.heap.size ad n cap xs ∧ z < 4294967296 ∧ (xs.map (cn .f32), cn .f32 z) = (scalM R s).1 ∧ f = (scalM R s).2)) ∧ Below w.heap.size w w'
theorem ScOut.none {R : Option (List OpP × List Int)} {s : Nat} {w w' : World} {e : Ending} {ad : Option Addr} {n cap z : Nat} {f : Bool} (h : R = none) (he : e = .returned (.tuple #[.slice ad n cap, .float .f32 z, .bool f, .bool false])) (hb : Below w.heap.size w w') : ScOut R s w e w' := by
  subst h
  exact ⟨_, _, _, _, _, _, he, Lib.hid ⟨rfl, fun h => (by cases h)⟩, hb⟩
theorem modelP_noM {ls : List LayD} {X Y : TenP} {q : Nat} (h : modB (ls.map LayD.toLayP) = false) : modelP ((ls.map fun l => l.toLayP.can).map (mapL bfE)) X Y q = none := by
  refine modelP_no ?_
  unfold goodM
  rw [modB_of_can, h]; rfl
theorem modelP_noY {L : List LayP} {X : TenP} {yr yc : Int} {ys : List Nat} {q : Nat} (h : tenB yr yc ys.length = false) : modelP L X ⟨yr, yc, ys⟩ q = none := by
  refine modelP_no ?_
  unfold goodM
  simp [h]
set_option maxRecDepth 100000 in
set_option maxHeartbeats 16000000 in
theorem spec_l06Scaled (w : World) (mb mo xb xo yb yo : Nat) (ma : Option Addr) (mk : Nat) (ls : List LayD) (xr xc yr yc : Int) (xa ya : Option Addr) (xk yk : Nat) (xs ys : List Nat) (s : Nat) (hs : s < 4294967296)
    (hbm : mb < w.heap.size) (hbx : xb < w.heap.size) (hby : yb < w.heap.size)
    (hm : w.cell? ⟨mb, mo, none⟩ = some (.slice ma ls.length mk)) (hls : SeeR layR w ma mk ls)
    (hx0 : w.cell? ⟨xb, xo, none⟩ = some (.int .i64 xr)) (hx1 : w.cell? ⟨xb, xo + 1, none⟩ = some (.int .i64 xc)) (hx2 : w.cell? ⟨xb, xo + 2, none⟩ = some (.slice xa xs.length xk)) (hx : F32s w xa xk xs)
    (hy0 : w.cell? ⟨yb, yo, none⟩ = some (.int .i64 yr)) (hy1 : w.cell? ⟨yb, yo + 1, none⟩ = some (.int .i64 yc)) (hy2 : w.cell? ⟨yb, yo + 2, none⟩ = some (.slice ya ys.length yk)) (hy : F32s w ya yk ys) (hxy : xb ≠ yb) :
    Calls Tryz.prog 30 #[.pointer (some ⟨mb, mo, none⟩), .pointer (some ⟨xb, xo, none⟩), .pointer (some ⟨yb, yo, none⟩), .float .f32 s] w (ScOut (modelP ((ls.map fun l => l.toLayP.can).map (mapL bfE)) ⟨xr, xc, xs.map (cn .f32)⟩ ⟨yr, yc, ys.map (cn .f32)⟩ (fop .mul .f32 (shareE ys.length) (cn .f32 s))) (cn .f32 s) w) := by
  obtain ⟨R, hR⟩ : ∃ R, R = modelP ((ls.map fun l => l.toLayP.can).map (mapL bfE)) ⟨xr, xc, xs.map (cn .f32)⟩ ⟨yr, yc, ys.map (cn .f32)⟩ (fop .mul .f32 (shareE ys.length) (cn .f32 s)) := ⟨_, rfl⟩
  rw [← hR]
  have HR := Lib.hid hR
  have hym : ys.length ≤ maxLen := Nat.le_trans hy.len hy.cap
  have K1 := Lib.hid (spec_l03Is w mb mo ma mk ls hls hm)
  have K2 := Lib.hid (fun W (hb : Below w.heap.size w W) => spec_l02Is W yb yo yr yc ya ys.length yk hym ((hb.cell (p := ⟨yb, yo, none⟩) hby).trans hy0) ((hb.cell (p := ⟨yb, yo + 1, none⟩) hby).trans hy1) ((hb.cell (p := ⟨yb, yo + 2, none⟩) hby).trans hy2))
  cases eM : modB (ls.map LayD.toLayP)
  · rw [eM] at K1
    have HRN : Hid (R = none) := Lib.hid (by rw [HR.out]; exact modelP_noM eM)
    clear eM HR K2 hm hls hx0 hx1 hx2 hx hy0 hy1 hy2 hy hbm hbx hby hxy hym hR
    go_enter Tryz.func30, Tryz.ntmps30
    go_wp2_with fail
    refine K1.out.mono ?_
    rintro e w1 ⟨rfl, hd⟩
    have HB := Lib.hid hd.below
    clear hd
    go_wp2
    try simp only [Exit.inBlock, Exit.then]
    refine bodyPost_ret (v := .tuple #[.slice (some ⟨w1.heap.size, 0, none⟩) 0 0, .float .f32 0, .bool false, .bool false]) (by simp [results, Tryz.results30, go_sem]) rfl ?_
    exact ScOut.none HRN.out rfl (bthen HB.out (below1 _ _))
  rw [eM] at K1
  have hlens := lens_mod eM
  cases eY : tenB yr yc ys.length
  · rw [eY] at K2
    have HRN : Hid (R = none) := Lib.hid (by rw [HR.out]; exact modelP_noY (by rw [List.length_map]; exact eY))
    clear eM eY HR hlens hm hls hx0 hx1 hx2 hx hy0 hy1 hy2 hy hbm hbx hby hxy hym hR
    go_enter Tryz.func30, Tryz.ntmps30
    go_wp2_with fail
    refine K1.out.mono ?_
    rintro e w1 ⟨rfl, hd⟩
    have HB := Lib.hid hd.below
    clear hd
    go_wp2_with fail
    refine (K2.out _ HB.out).mono ?_
    rintro e w2 ⟨rfl, hd⟩
    have HB2 := Lib.hid (bthen HB.out hd.below)
    clear hd
    go_wp2
    try simp only [Exit.inBlock, Exit.then]
    refine bodyPost_ret (v := .tuple #[.slice (some ⟨w2.heap.size, 0, none⟩) 0 0, .float .f32 0, .bool false, .bool false]) (by simp [results, Tryz.results30, go_sem]) rfl ?_
    exact ScOut.none HRN.out rfl (bthen HB2.out (below1 _ _))
  rw [eY] at K2
  obtain ⟨⟨yr1, yr2⟩, ⟨yc1, yc2⟩, hyl⟩ := tenB_iff.1 eY
  obtain ⟨r, rfl⟩ : ∃ r : Nat, yr = r := ⟨yr.toNat, by omega⟩
  obtain ⟨d, rfl⟩ : ∃ d : Nat, yc = d := ⟨yc.toNat, by omega⟩
  have hyd : ys.length = r * d := by exact_mod_cast hyl
  have KS := Lib.hid (fun W (hb : Below w.heap.size w W) => spec_l04Share W yb yo r d (by omega) (by omega) ((hb.cell (p := ⟨yb, yo, none⟩) hby).trans hy0) ((hb.cell (p := ⟨yb, yo + 1, none⟩) hby).trans hy1))
  rw [← hyd] at KS
  have KB := Lib.hid (fun W (hb : Below w.heap.size w W) => spec_l06Bfloat W mb mo ma mk ls (Nat.lt_of_lt_of_le hbm hb.size) ((hb.cell (p := ⟨mb, mo, none⟩) hbm).trans hm) (hls.below hb) (by have := hlens.1; omega) (fun l hl => by have := hlens.2 l hl; omega))
  have KM := Lib.hid (fun W (hb : Below w.heap.size w W) bb ad cap (us : List LayD) (h0 : W.cell? ⟨bb, 0, none⟩ = some (.slice ad us.length cap)) (h1 : SeeR layR W ad cap us) z (hz : z < 4294967296) =>
    spec_l04Model W bb 0 xb xo yb yo ad cap us xr xc r d xa ya xk yk xs ys z hz h0 h1 ((hb.cell (p := ⟨xb, xo, none⟩) hbx).trans hx0) ((hb.cell (p := ⟨xb, xo + 1, none⟩) hbx).trans hx1) ((hb.cell (p := ⟨xb, xo + 2, none⟩) hbx).trans hx2) (hx.below hb) ((hb.cell (p := ⟨yb, yo, none⟩) hby).trans hy0) ((hb.cell (p := ⟨yb, yo + 1, none⟩) hby).trans hy1) ((hb.cell (p := ⟨yb, yo + 2, none⟩) hby).trans hy2) (hy.below hb) hxy)
  clear eM eY hlens hyl hyd yr1 yr2 yc1 yc2 hm hls hx0 hx1 hx2 hx hy0 hy1 hy2 hy hbm hbx hby hxy hym hR
  go_enter Tryz.func30, Tryz.ntmps30
  go_wp2_with fail
  refine K1.out.mono ?_
  rintro e w1 ⟨rfl, hd⟩
  have HB1 := Lib.hid hd.below
  clear hd K1
  go_wp2_with fail
  refine (K2.out _ HB1.out).mono ?_
  rintro e w2 ⟨rfl, hd⟩
  have HB2 := Lib.hid (bthen HB1.out hd.below)
  clear hd K2 HB1
  go_wp2_with fail
  refine (KB.out _ HB2.out).mono ?_
  rintro e w3 ⟨ad, m, cap, us, rfl, HU, hb⟩
  have HB3 := Lib.hid (bthen HB2.out hb)
  clear hb KB HB2
  go_upto_region 4 with fail
  have BB := Lib.hid (BoxN.alloc w3 #[.slice ad m cap] 35)
  have HB4 := Lib.hid (bthen HB3.out (below1 w3 (.cells #[.slice ad m cap] 35)))
  have HU4 := Lib.hid (HU.out.2.below (below1 w3 (.cells #[.slice ad m cap] 35)))
  have HUC := Lib.hid HU.out.1
  clear HU HB3
  generalize w3.alloc (.cells #[.slice ad m cap] 35) = W4 at BB HB4 HU4 ⊢
  generalize w3.heap.size = bb at BB ⊢
  go_wp2_with fail
  refine (KS.out _ HB4.out).mono ?_
  rintro e w5 ⟨z, rfl, hz, hd⟩
  have HZ := Lib.hid hz.out
  have HD5 := Lib.hid hd.below
  clear hz hd KS
  have HLB := Lib.hid (show ((learnM R).getD ([], 0)).1.length ≤ 3072 by rw [HR.out]; exact learn_len _ _ _ _)
  have hlu := HU4.out.len
  have KL := Lib.hid (fun W (hb : Below W4.heap.size W4 W) y (hy : y < 4294967296) (hyc : cn .f32 y = fop .mul .f32 (shareE ys.length) (cn .f32 s)) => by
    have h := KM.out W (bthen HB4.out hb) bb ad cap us (by rw [hlu]; exact (BB.out.below hb).one1.2.1) (HU4.out.below hb).see y hy
    rw [HUC.out, hyc, ← HR.out] at h
    exact spec_l04Loss W R _ _ _ y _ _ _ _ HR.out h)
  clear KM hlu HU4 HUC
  go_wp2_with fail
  obtain ⟨y, hy⟩ : ∃ y, y = fbits BinOp.mul FloatKind.f32 z s w5 := ⟨_, rfl⟩
  rw [← hy]
  have hyl : y < 4294967296 := by rw [hy]; exact fbits_lt _ .f32 _ _ _
  have hyc : cn .f32 y = fop .mul .f32 (shareE ys.length) (cn .f32 s) := by rw [hy, cn_fbits, HZ.out.1]
  have KL2 := Lib.hid (KL.out (w5.drewN (fdr BinOp.mul FloatKind.f32 z s)) (below_drewN HD5.out _) y hyl hyc)
  have HB6 := Lib.hid (bthen HB4.out (below_drewN HD5.out (fdr BinOp.mul FloatKind.f32 z s)))
  clear KL hy hyl hyc HZ HD5 HB4 BB HR
  generalize w5.drewN (fdr BinOp.mul FloatKind.f32 z s) = w6 at KL2 HB6 ⊢
  refine KL2.out.mono ?_
  rintro e w7 ⟨la, n, c2, z2, b, rfl, HO, hb7⟩
  have HB7 := Lib.hid (bthen HB6.out hb7)
  have hs7 := hb7.size
  have hs6 := HB6.out.size
  clear KL2 hb7
  cases b
  · have HRN : Hid (R = none) := Lib.hid (by have := HO.out.1.1; cases R <;> first | rfl | cases this)
    have hn0 := HO.out.2 rfl
    subst hn0
    clear HO
    go_wp2
    go_loopw [16, 17] (fun f i wt => i = .int .i64 0 ∧ ∃ b, f = .bool b ∧ Hid (Below w.heap.size w wt)) (fun f i wt => 0)
    case atStart => exact ⟨rfl, true, rfl, HB7⟩
    case round =>
      obtain ⟨rfl, f, rfl, HB⟩ := hrel
      go_wp2
      try simp only [Exit.inBlock, Exit.then]
      refine bodyPost_ret (v := .tuple #[.slice la 0 c2, .float .f32 (fbits BinOp.quo FloatKind.f32 z2 s wr), .bool f, .bool false]) (by simp [results, Tryz.results30, go_sem]) rfl ?_
      exact ScOut.none HRN.out rfl (below_drewN HB.out _)
  · obtain ⟨zs, hr, hzl, hL⟩ := HO.out.1.2 rfl
    have HRL := Lib.hid hL; have HZ2 := Lib.hid hzl; have HX7 := Lib.hid hr
    have hlen := hr.len
    have HZL := Lib.hid hlen
    have hn3 : n ≤ 3072 := by
      have h := HLB.out
      rw [hL] at h
      have h2 : (zs.map (cn .f32)).length ≤ 3072 := h
      rw [List.length_map, hlen] at h2
      exact h2
    have HRI := Lib.hid HO.out.1.1
    clear HO hr hzl hL hlen
    go_wp2
    go_loopw [16, 17] (fun f i wt => ∃ k : Nat, i = .int .i64 k ∧ k ≤ n ∧ f = .bool ((zs.take k).all finB) ∧ Hid (∃ us, RepF wt w6.heap.size w7.heap.size la n c2 us ∧ InPl (fun g => fop .quo .f32 g (cn .f32 s)) zs k us) ∧ Hid (Below w.heap.size w wt ∧ w7.heap.size ≤ wt.heap.size)) (fun f i wt => n - (intOf i).toNat)
    case atStart => exact ⟨0, rfl, Nat.zero_le _, rfl, Lib.hid ⟨_, HX7.out, InPl.zero _ _⟩, Lib.hid ⟨HB7.out, Nat.le_refl _⟩⟩
    case round =>
      obtain ⟨k, rfl, hk, rfl, HY, HB⟩ := hrel
      by_cases hlt : k < n
      · obtain ⟨us, hr, hip⟩ := HY.out
        obtain ⟨x, hx⟩ := getElem?_lt (show k < zs.length by rw [HZL.out]; exact hlt)
        have HXX := Lib.hid hx
        have HTK := Lib.hid (show (zs.take (k + 1)).all finB = ((zs.take k).all finB && finB x) by
          rw [List.take_add_one, hx, List.all_append]; simp)
        obtain ⟨g', rfl, hge, hcc, hf, -⟩ := hr.open (by omega)
        have hck := hcc k hlt
        rw [hip.at' hx] at hck
        have hgl : g' < wr.heap.size := (hr.row.own.lt g' rfl).2
        have HRR := Lib.hid hr; have HIP := Lib.hid hip
        clear hx hcc hr hip hf HY
        cases eF : (zs.take k).all finB
        · rw [eF] at HTK
          have hf := (HRR.out.row.own.frozenAt k)
          go_wp2
          refine ⟨?rel, ?measure⟩
          case rel =>
            have hb1 := below_drewN (Below.refl wr.heap.size wr) (fdr BinOp.quo FloatKind.f32 x s)
            exact ⟨k + 1, by go_num, hlt, by rw [HTK.out]; rfl, Lib.hid ⟨_, (HRR.out.below hb1).setAt k _ (fbits_lt _ .f32 _ _ _) (by omega), HIP.out.set HXX.out (by rw [cn_fbits])⟩, Lib.hid ⟨(bthen HB.out.1 hb1).setCell (p := ⟨g', k, none⟩) (Nat.le_trans hs6 hge) _, by simpa [World.setCell] using HB.out.2⟩⟩
          case measure => simp [intOf]; omega
        · rw [eF] at HTK
          have KF := Lib.hid (fun W => spec_l01Finite x W)
          go_wp2_with fail
          refine (KF.out _).mono ?_
          rintro e w8 ⟨rfl, hd⟩
          have HR8 := Lib.hid (HRR.out.below hd.below)
          have HB8 := Lib.hid (And.intro (bthen HB.out.1 hd.below) (Nat.le_trans HB.out.2 hd.below.size))
          clear hd HRR hck KF
          obtain ⟨g2, e2, -, hcc, hf, -⟩ := HR8.out.open (by omega)
          cases e2
          have hck := hcc k hlt
          rw [HIP.out.at' HXX.out] at hck
          have hfk := hf k
          have hgl8 : g' < w8.heap.size := (HR8.out.row.own.lt g' rfl).2
          clear hcc hf
          go_wp2
          refine ⟨?rel, ?measure⟩
          case rel =>
            have hb1 := below_drewN (Below.refl w8.heap.size w8) (fdr BinOp.quo FloatKind.f32 x s)
            exact ⟨k + 1, by go_num, hlt, by rw [HTK.out]; rfl, Lib.hid ⟨_, (HR8.out.below hb1).setAt k _ (fbits_lt _ .f32 _ _ _) (by omega), HIP.out.set HXX.out (by rw [cn_fbits])⟩, Lib.hid ⟨(bthen HB8.out.1 hb1).setCell (p := ⟨g', k, none⟩) (Nat.le_trans hs6 hge) _, by simpa [World.setCell] using HB8.out.2⟩⟩
          case measure => simp [intOf]; omega
      · have e : k = n := by omega
        subst e
        obtain ⟨us, hr, hip⟩ := HY.out
        have HE := Lib.hid (hip.all HZL.out.symm)
        have HT := Lib.hid (show zs.take k = zs by rw [← HZL.out]; exact List.take_length)
        have HRR := Lib.hid hr
        clear hr hip HY
        rw [HT.out]
        go_wp2
        try simp only [Exit.inBlock, Exit.then]
        refine bodyPost_ret (v := .tuple #[.slice la k c2, .float .f32 (fbits BinOp.quo FloatKind.f32 z2 s wr), .bool (zs.all finB), .bool true]) (by simp [results, Tryz.results30, go_sem]) rfl ?_
        have hb1 := below_drewN (Below.refl wr.heap.size wr) (fdr BinOp.quo FloatKind.f32 z2 s)
        refine ⟨_, _, _, _, _, _, rfl, Lib.hid ⟨HRI.out, fun _ => ⟨us, (HRR.out.below hb1).bounds hs6 (by simpa using HB.out.2), fbits_lt _ .f32 _ _ _, ?_, ?_⟩⟩, bthen HB.out.1 hb1⟩
        · rw [scalM_some HRL.out, HE.out, cn_fbits]
        · rw [scalM_some HRL.out, all_finB_cn]
set_option maxRecDepth 100000 in
set_option maxHeartbeats 8000000 in
theorem spec_ScaledGradients (w : World) (ma : Option Addr) (mk : Nat) (ls : List LayD) (xr xc yr yc : Int) (xa ya : Option Addr) (xk yk : Nat) (xs ys : List Nat) (s : Nat) (hls : SeeR layR w ma mk ls) (hx : F32s w xa xk xs) (hy : F32s w ya yk ys) (hs : s < 4294967296) :
    Calls Tryz.prog 8 #[.agg #[.slice ma ls.length mk], .agg #[.int .i64 xr, .int .i64 xc, .slice xa xs.length xk], .agg #[.int .i64 yr, .int .i64 yc, .slice ya ys.length yk], .float .f32 s] w (SPost (scaleR (ls.map fun l => l.toLayP.can) ⟨xr, xc, xs.map (cn .f32)⟩ ⟨yr, yc, ys.map (cn .f32)⟩ ys.length s) (cn .f32 s) w) := by
  have b3 := below3 w (.cells #[.slice ma ls.length mk] 35) (.cells #[.int .i64 xr, .int .i64 xc, .slice xa xs.length xk] 37) (.cells #[.int .i64 yr, .int .i64 yc, .slice ya ys.length yk] 37)
  have BM := Lib.hid ((BoxN.alloc w #[.slice ma ls.length mk] 35).below (below2 _ (.cells #[.int .i64 xr, .int .i64 xc, .slice xa xs.length xk] 37) (.cells #[.int .i64 yr, .int .i64 yc, .slice ya ys.length yk] 37)))
  have BX := Lib.hid ((BoxN.alloc2 w (.cells #[.slice ma ls.length mk] 35) #[.int .i64 xr, .int .i64 xc, .slice xa xs.length xk] 37).below (below1 _ (.cells #[.int .i64 yr, .int .i64 yc, .slice ya ys.length yk] 37)))
  have BY := Lib.hid (BoxN.alloc3 w (.cells #[.slice ma ls.length mk] 35) (.cells #[.int .i64 xr, .int .i64 xc, .slice xa xs.length xk] 37) #[.int .i64 yr, .int .i64 yc, .slice ya ys.length yk] 37)
  have B3 := Lib.hid b3
  have HLS := Lib.hid (hls.below b3); have HX := Lib.hid (hx.below b3); have HY := Lib.hid (hy.below b3)
  obtain ⟨w3, hw3⟩ : ∃ W, W = ((w.alloc (.cells #[.slice ma ls.length mk] 35)).alloc (.cells #[.int .i64 xr, .int .i64 xc, .slice xa xs.length xk] 37)).alloc (.cells #[.int .i64 yr, .int .i64 yc, .slice ya ys.length yk] 37) := ⟨_, rfl⟩
  rw [← hw3] at BM BX BY B3 HLS HX HY
  have HW3 := Lib.hid hw3
  obtain ⟨R, hR⟩ : ∃ R, R = scaleR (ls.map fun l => l.toLayP.can) ⟨xr, xc, xs.map (cn .f32)⟩ ⟨yr, yc, ys.map (cn .f32)⟩ ys.length s := ⟨_, rfl⟩
  rw [← hR]
  have HR := Lib.hid hR
  have KI := Lib.hid (fun W => spec_l06Scale s W)
  have KS := Lib.hid (spec_l06Scaled w3 w.heap.size 0 (w.heap.size + 1) 0 (w.heap.size + 2) 0 ma mk ls xr xc yr yc xa ya xk yk xs ys s hs BM.out.one1.1 BX.out.three.1 BY.out.three.1 BM.out.one1.2.1 HLS.out BX.out.three.2.1 BX.out.three.2.2.1 BX.out.three.2.2.2.1 HX.out BY.out.three.2.1 BY.out.three.2.2.1 BY.out.three.2.2.2.1 HY.out (by omega))
  clear hls hx hy b3 hw3 hR
  cases eS : isScaleB s
  · rw [eS] at KI
    have HRN : Hid (R = none) := Lib.hid (by rw [HR.out]; exact scaleR_off eS)
    clear eS HR KS
    go_enter Tryz.func8, Tryz.ntmps8
    go_upto_region 1 with fail
    rw [← HW3.out]
    go_wp2_with fail
    refine (KI.out _).mono ?_
    rintro e w4 ⟨rfl, rfl⟩
    go_wp2
    try simp only [Exit.inBlock, Exit.then]
    refine bodyPost_ret (v := .tuple #[.slice none 0 0, .float .f32 0, .bool false, .bool false]) (by simp [results, Tryz.results8, go_sem]) rfl ?_
    exact SPost.none HRN.out rfl B3.out
  rw [eS] at KI
  rw [scaleR_on eS] at HR
  rw [← HR.out] at KS
  clear eS HR
  go_enter Tryz.func8, Tryz.ntmps8
  go_upto_region 1 with fail
  rw [← HW3.out]
  go_wp2_with fail
  refine (KI.out _).mono ?_
  rintro e w4 ⟨rfl, rfl⟩
  clear KI
  go_wp2_with fail
  refine KS.out.mono ?_
  rintro e w5 ⟨ad, n, cap, z, f, b, rfl, HO, hb⟩
  have HB := Lib.hid (bthen B3.out hb)
  have hs3 := B3.out.size
  clear hb KS
  cases b
  · have HRN : Hid (R = none) := Lib.hid (by have := HO.out.1; cases R <;> first | rfl | cases this)
    clear HO
    go_wp2
    try simp only [Exit.inBlock, Exit.then]
    refine bodyPost_ret (v := .tuple #[.slice none 0 0, .float .f32 0, .bool false, .bool false]) (by simp [results, Tryz.results8, go_sem]) rfl ?_
    exact SPost.none HRN.out rfl HB.out
  · go_wp2
    try simp only [Exit.inBlock, Exit.then]
    refine bodyPost_ret (v := .tuple #[.slice ad n cap, .float .f32 z, .bool f, .bool true]) (by simp [results, Tryz.results8, go_sem]) rfl ?_
    obtain ⟨xs1, h1, h2, h3, h4⟩ := HO.out.2 (by first | rfl | trivial)
    exact ⟨_, _, _, _, _, _, xs1, rfl, Lib.hid ⟨⟨⟨HO.out.1, h4⟩, h3, h2⟩, h1.bounds hs3 (Nat.le_refl _)⟩, HB.out⟩
end Go.Proofs.YtpadlmidojpbeaaGreat
/- x -/
namespace Go.Proofs.YtpadlmidojpbeaaGreat
open Go Go.RowKit
def scaleT (L : List LayP) (xr xc : Int) (xs : List Nat) (yr yc : Int) (ys : List Nat) (s : Nat) : Option (List OpP × List Int) := scaleR (L.map LayP.can) ⟨xr, xc, xs.map (cn .f32)⟩ ⟨yr, yc, ys.map (cn .f32)⟩ ys.length s
theorem scaleT_eq (ls : List LayD) (xr xc : Int) (xs : List Nat) (yr yc : Int) (ys : List Nat) (s : Nat) : scaleR (ls.map fun l => l.toLayP.can) ⟨xr, xc, xs.map (cn .f32)⟩ ⟨yr, yc, ys.map (cn .f32)⟩ ys.length s = scaleT (ls.map LayD.toLayP) xr xc xs yr yc ys s := by
  unfold scaleT; rw [List.map_map]; rfl
theorem scal_len (L : List LayP) (X Y : TenP) (m s q : Nat) : (scalM (scaleR L X Y m s) q).1.1.length ≤ 3072 := by
  unfold scaleR
  split
  · have h := learn_len (L.map (mapL bfE)) X Y (fop .mul .f32 (shareE m) (cn .f32 s))
    unfold scalM
    cases e : learnM (modelP (L.map (mapL bfE)) X Y (fop .mul .f32 (shareE m) (cn .f32 s))) with
    | none => exact Nat.zero_le _
    | some p =>
      rw [e] at h
      show (p.1.map _).length ≤ 3072
      rw [List.length_map]; exact h
  · exact Nat.zero_le _
theorem scal_bound {w : World} {lo hi : Nat} {ad : Option Addr} {n cap : Nat} {xs : List Nat} {L : List LayP} {xr xc yr yc : Int} {xx yy : List Nat} {z s q : Nat} (h : RepF w lo hi ad n cap xs) (he : (xs.map (cn .f32), cn .f32 z) = (scalM (scaleT L xr xc xx yr yc yy s) q).1) : n ≤ 3072 := by
  have h1 := congrArg (fun p => p.1.length) he
  simp only [List.length_map] at h1
  rw [← h.len, h1]
  exact scal_len _ _ _ _ _ _
theorem spec_ScaledGradientsW (w : World) (ma : Option Addr) (mk : Nat) (ls : List LayD) {lo hi n : Nat} (h : OwnR layR w lo hi ma n mk ls) (hi2 : ∀ l ∈ ls, l.ws.length ≤ 1048576 ∧ l.bs.length ≤ 1048576)
    (xr xc : Int) (xa : Option Addr) (xk : Nat) (xs : List Nat) {lo2 hi3 n2 : Nat} (hx : RepF w lo2 hi3 xa n2 xk xs) (hn : xs.length ≤ 1048576) (wr : (Lit.int .i64 xr).wf = true) (wc : (Lit.int .i64 xc).wf = true)
    (yr yc : Int) (ya : Option Addr) (yk : Nat) (ys : List Nat) {lo4 hi5 n4 : Nat} (hy : RepF w lo4 hi5 ya n4 yk ys) (hn2 : ys.length ≤ 1048576) (wr2 : (Lit.int .i64 yr).wf = true) (wc2 : (Lit.int .i64 yc).wf = true) (s : Nat) (hs : s < 4294967296) :
    Calls Tryz.prog 8 #[.agg #[.slice ma ls.length mk], .agg #[.int .i64 xr, .int .i64 xc, .slice xa xs.length xk], .agg #[.int .i64 yr, .int .i64 yc, .slice ya ys.length yk], .float .f32 s] w (SPost (scaleT (ls.map LayD.toLayP) xr xc xs yr yc ys s) (cn .f32 s) w) := by
  rw [← scaleT_eq]
  exact spec_ScaledGradients w ma mk ls xr xc yr yc xa ya xk yk xs ys s h.see hx.arg hy.arg hs
theorem impl_ScaledGradientsW (w : World) (ma : Option Addr) (mk : Nat) (ls : List LayD) {lo hi n : Nat} (h : OwnR layR w lo hi ma n mk ls) (hi2 : ∀ l ∈ ls, l.ws.length ≤ 1048576 ∧ l.bs.length ≤ 1048576)
    (xr xc : Int) (xa : Option Addr) (xk : Nat) (xs : List Nat) {lo2 hi3 n2 : Nat} (hx : RepF w lo2 hi3 xa n2 xk xs) (hn : xs.length ≤ 1048576) (wr : (Lit.int .i64 xr).wf = true) (wc : (Lit.int .i64 xc).wf = true)
    (yr yc : Int) (ya : Option Addr) (yk : Nat) (ys : List Nat) {lo4 hi5 n4 : Nat} (hy : RepF w lo4 hi5 ya n4 yk ys) (hn2 : ys.length ≤ 1048576) (wr2 : (Lit.int .i64 yr).wf = true) (wc2 : (Lit.int .i64 yc).wf = true) (s : Nat) (hs : s < 4294967296) :
    Calls Tryz.prog 11 #[.agg #[.slice ma ls.length mk], .agg #[.int .i64 xr, .int .i64 xc, .slice xa xs.length xk], .agg #[.int .i64 yr, .int .i64 yc, .slice ya ys.length yk], .float .f32 s] w (SPost (scaleT (ls.map LayD.toLayP) xr xc xs yr yc ys s) (cn .f32 s) w) := by
  rw [← scaleT_eq]
  exact impl_ScaledGradients w ma mk ls xr xc yr yc xa ya xk yk xs ys s h.see h.nilL hx.arg hy.arg hs
end Go.Proofs.YtpadlmidojpbeaaGreat
