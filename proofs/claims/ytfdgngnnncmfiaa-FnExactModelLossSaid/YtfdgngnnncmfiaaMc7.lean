/- Joined texts 7: Le1 Ox0 Mo4 Mo5 Mo6 Rg5 Ts8 Mt4 Mt5. Each is told at its own head. No condition. -/
import Derived.Deep.CutRange
import Derived.Deep.DeepCutAuto
import Derived.Deep.QuietTactic
import Derived.BigQuiet
import Derived.Test.YtfdgngnnncmfiaaMc0
import Derived.Test.YtfdgngnnncmfiaaMc1
import Derived.Test.YtfdgngnnncmfiaaMc2
import Derived.Test.YtfdgngnnncmfiaaMc3
import Derived.Test.YtfdgngnnncmfiaaMc4
import Derived.Test.YtfdgngnnncmfiaaMc5
import Derived.Test.YtfdgngnnncmfiaaMc6
/- The numbers of tensors with some indices, one after another; what a model learns. No condition. -/
namespace Go.Proofs.Ytfdgngnnncmfiaa
open Go Go.RowKit
set_option linter.unusedVariables false
set_option linter.unusedSimpArgs false
def tenAtD (us : List Ten) (i : Int) : Ten := us.getD i.toNat ⟨⟨0, 0, []⟩, none, 0⟩
def flatT (us : List Ten) (ws : List Int) : List Nat := ws.flatMap fun i => (tenAtD us i).xs
theorem flatT_snoc (us : List Ten) (ws : List Int) (i : Int) : flatT us (ws ++ [i]) = flatT us ws ++ (tenAtD us i).xs := by unfold flatT; rw [List.flatMap_append]; simp
theorem flatT_can {us : List Ten} {G : List TenP} (h : us.map (fun t => t.toTenP.can) = G) (ws : List Int) : (flatT us ws).map (cn .f32) = flatG G ws := by
  subst h
  unfold flatT flatG
  rw [List.map_flatMap]
  congr 1
  funext i
  unfold vGet tenAtD
  rw [List.getD_eq_getElem?_getD, List.getD_eq_getElem?_getD, List.getElem?_map]
  cases us[i.toNat]? <;> rfl
theorem flatT_okF {us : List Ten} (hx : ∀ t ∈ us, okF t.xs) (ws : List Int) : okF (flatT us ws) := by
  intro x hm
  obtain ⟨i, _, h⟩ := List.mem_flatMap.1 hm
  unfold tenAtD at h
  rw [List.getD_eq_getElem?_getD] at h
  cases e : us[i.toNat]? with
  | none => rw [e] at h; exact (nomatch h)
  | some t => rw [e] at h; exact hx t (List.mem_of_getElem? e) x h
theorem ints_at {w : World} {ad : Option Addr} {cap : Nat} {xs : List Int} (h : Ints .i64 w ad cap xs) {k : Nat} {i : Int} (hk : xs[k]? = some i) : ∃ b off, ad = some ⟨b, off, none⟩ ∧ b < w.heap.size ∧ w.cell? ⟨b, off + k, none⟩ = some (.int .i64 i) := by
  have hlt := (List.getElem?_eq_some_iff.1 hk).1
  rcases h.rd with h1 | ⟨b, off, e, hb, hc⟩
  · have : xs = [] := by simpa using h1
    subst this; exact absurd hlt (Nat.not_lt_zero _)
  · refine ⟨b, off, e, hb, ?_⟩
    rw [hc k (by simpa using hlt), List.getElem?_map, hk]; rfl
set_option maxHeartbeats 8000000 in
set_option maxRecDepth 100000 in
theorem spec_l04Flat (w : World) (al wa : Option Addr) (cl wk : Nat) (us : List Ten) (ws : List Int) {lo hi n : Nat} (hl : OwnR tenR w lo hi al n cl us) (hw : Ints .i64 w wa wk ws) (hix : ∀ i ∈ ws, 0 ≤ i ∧ i < n) (hn : n ≤ 48) (hx : ∀ t ∈ us, t.xs.length ≤ 256) (hm : ws.length ≤ 12) :
    Calls Try.prog 59 #[.slice al n cl, .slice wa ws.length wk] w fun e w' => ∃ ad cap, e = .returned (.slice ad (flatT us ws).length cap) ∧ Hid (RepF w' w.heap.size w'.heap.size ad (flatT us ws).length cap (flatT us ws)) ∧ Below w.heap.size w w' := by
  obtain ⟨i0, hi0, hz0, hz1, hz2⟩ := info_parts info_f32
  have HL := Lib.hid hl; have HW := Lib.hid hw; have HIX := Lib.hid hix; have HXL := Lib.hid hx
  obtain ⟨m, hM⟩ : ∃ m, m = ws.length := ⟨_, rfl⟩
  rw [← hM] at hm ⊢
  have HM := Lib.hid hM
  clear hl hw hix hx hM
  go_enter Try.func59, Try.ntmps59
  go_wp2
  go_loopw [5, 6] (fun v i wt => ∃ k nk : Nat, i = .int .i64 k ∧ k ≤ m ∧ nk ≤ 256 * k ∧ Hid (wt.ownsRow w.heap.size 49 1 v nk ((flatT us (ws.take k)).map (Value.float .f32)) ∧ nk = (flatT us (ws.take k)).length) ∧ Hid (Below w.heap.size w wt)) (fun v i wt => m - (intOf i).toNat)
  case atStart => exact ⟨0, 0, rfl, Nat.zero_le _, by omega, Lib.hid ⟨World.ownsRow_made _ _ _ (Nat.le_refl _) (Nat.zero_le _) rfl, rfl⟩, Lib.hid (below1 _ _)⟩
  case round =>
    obtain ⟨k, nk, rfl, hk, hnk, HO, HB⟩ := hrel
    by_cases hlt : k < m
    · obtain ⟨i, hi⟩ := getElem?_lt (show k < ws.length by rw [← HM.out]; exact hlt)
      have hix := HIX.out i (List.mem_of_getElem? hi)
      obtain ⟨j, rfl⟩ : ∃ j : Nat, i = j := ⟨i.toNat, by omega⟩
      have hjn : j < n := by omega
      obtain ⟨t, ht⟩ := getElem?_lt (show j < us.length by rw [HL.out.len]; exact hjn)
      obtain ⟨wb, wo, hwa, hwb, hwc⟩ := ints_at (HW.out.below HB.out) hi
      obtain ⟨g, hal, hg, ⟨-, -, hc2⟩, -, hrt⟩ := ten_own (HL.out.below HB.out) ht
      have hr := hrt.arg
      have HRD := Lib.hid hr.rd; have HNC := Lib.hid hrt.nilcap
      have hlen := HXL.out t (List.mem_of_getElem? ht)
      have HT := Lib.hid (show flatT us (ws.take (k + 1)) = flatT us (ws.take k) ++ t.xs by
        rw [List.take_add_one, hi]
        show flatT us (ws.take k ++ [(j : Int)]) = _
        rw [flatT_snoc]
        congr 1
        unfold tenAtD
        rw [List.getD_eq_getElem?_getD, show ((j : Nat) : Int).toNat = j by simp, ht]; rfl)
      obtain ⟨q, hq⟩ : ∃ q, q = t.xs.length := ⟨_, rfl⟩
      rw [← hq] at hc2 hlen
      have HQ := Lib.hid hq
      have h1 : ∀ u ∈ t.xs.map (Value.float .f32), u.oneCell' = true := by intro u hu; obtain ⟨x, _, rfl⟩ := List.mem_map.1 hu; rfl
      have H1 := Lib.hid h1
      have HOW := Lib.hid HO.out.1; have HNK := Lib.hid HO.out.2
      have hbs := HB.out.size
      subst hwa hal
      clear hix hg hrt hr hi ht hq h1 HO
      go_wp2_with (at_builtin; refine wp_cat rfl _ _ 25 rfl w.heap.size i0 (.float .f32 0) 4 Try.underlying25 hi0 hz0 hz1 hz2 rfl _ nk _ rfl HOW.out t.ad q t.cap (t.xs.map (Value.float .f32)) rfl HNC.out (by rw [List.length_map, HQ.out]) HRD.out H1.out ?c3 ?c4 ?c5 ?_)
      case c3 => unfold maxLen; omega
      case c4 => omega
      case c5 => exact hbs
      intro v' w9 hown1 hb1 hbs1
      have HOW2 := Lib.hid hown1; have HB2 := Lib.hid (HB.out.trans hb1)
      clear hown1 hb1 hwc hc2 HRD HNC
      go_wp2
      refine ⟨?rel, ?measure⟩
      case rel => exact ⟨k + 1, nk + q, by go_num, hlt, by omega, Lib.hid ⟨by rw [HT.out, List.map_append]; exact HOW2.out, by rw [HT.out, List.length_append, HNK.out, HQ.out]⟩, HB2⟩
      case measure => simp [intOf]; omega
    · have e : k = m := by omega
      subst e
      have e2 : ws.take k = ws := by rw [HM.out]; exact List.take_length
      rw [e2] at HO
      go_wp2
      go_ret
      obtain ⟨ad, cap, rfl, hr⟩ := RepF.of_owns HO.out.1 (flatT_okF (fun t ht => HL.out.ok t ht) ws)
      have e3 := HO.out.2
      subst e3
      exact ⟨ad, cap, rfl, Lib.hid hr, HB.out⟩
end Go.Proofs.Ytfdgngnnncmfiaa
/- Marking a tape beside a list of indices. No condition. -/
namespace Go.Proofs.Ytfdgngnnncmfiaa
open Go Go.RowKit
set_option linter.unusedVariables false
set_option linter.unusedSimpArgs false
end Go.Proofs.Ytfdgngnnncmfiaa
/- Whether models are valid: the program. No condition. -/
namespace Go.Proofs.Ytfdgngnnncmfiaa
open Go Go.RowKit
set_option linter.unusedVariables false
set_option linter.unusedSimpArgs false
set_option maxHeartbeats 8000000 in
set_option maxRecDepth 100000 in
theorem impl_ValidModel (w : World) (ad : Option Addr) (cap : Nat) (us : List LayD) (h : SeeR layR w ad cap us) :
    Calls Try.prog 49 #[.agg #[.slice ad us.length cap]] w fun e w' => e = .returned (.bool (modB (us.map LayD.toLayP))) ∧ Below w.heap.size w w' := by
  have hm := Nat.le_trans h.le h.cap
  unfold maxLen at hm
  obtain ⟨R, hR⟩ : ∃ R, R = modB (us.map LayD.toLayP) := ⟨_, rfl⟩
  rw [← hR]
  unfold modB at hR
  rw [List.length_map] at hR
  obtain ⟨n, hN⟩ : ∃ n, n = us.length := ⟨_, rfl⟩
  rw [← hN] at hR hm ⊢
  have b1 := below1 w (.cells #[.slice ad n cap] 36)
  have XB := Lib.hid (BoxN.alloc w #[.slice ad n cap] 36)
  have HR := Lib.hid hR; have HN := Lib.hid hN; have H := Lib.hid (h.below b1); have B1 := Lib.hid b1
  clear hR hN h b1
  go_enter Try.func49, Try.ntmps49
  go_upto_region 2 with fail
  generalize w.alloc (.cells #[.slice ad n cap] 36) = v1 at H XB B1 ⊢
  obtain ⟨gb, hgb⟩ : ∃ gb, gb = w.heap.size := ⟨_, rfl⟩
  rw [← hgb] at XB ⊢
  clear hgb
  go_wp2
  go_loopw [8] (fun i wt => ∃ k : Nat, i = .int .i64 k ∧ k ≤ n ∧ Hid (linkM (us.map LayD.toLayP) k = true) ∧ Hid (Below v1.heap.size v1 wt)) (fun i _ => n - (intOf i).toNat)
  case atStart => exact ⟨0, rfl, Nat.zero_le _, Lib.hid rfl, Lib.hid (Below.refl _ _)⟩
  case round =>
    obtain ⟨k, rfl, hk, HL, HB⟩ := hrel
    by_cases hlt : k < n
    · obtain ⟨l, hl⟩ := getElem?_lt (show k < us.length by rw [← HN.out]; exact hlt)
      obtain ⟨b, off, had, hbl, ⟨p0, p1, p2, p3, p4⟩, hf, hok⟩ := lay_spot (H.out.below HB.out) hl
      have hlp : (us.map LayD.toLayP)[k]? = some l.toLayP := by rw [List.getElem?_map, hl]; rfl
      have HLP := Lib.hid hlp
      obtain ⟨⟨lk, li, lo, ws, bs⟩, wa, wk, ba, bk⟩ := l
      simp only at p0 p1 p2 p3 p4 hf
      have hlw : ws.length ≤ maxLen := Nat.le_trans hf.1.len hf.1.cap
      have hlb : bs.length ≤ maxLen := Nat.le_trans hf.2.len hf.2.cap
      have KV := Lib.hid (fun W => impl_ValidLayer lk li lo wa ba ws.length wk bs.length bk hlw hlb W)
      have hLB : layB ⟨lk, li, lo, ws, bs⟩ = layC lk li lo ws.length bs.length := rfl
      have HLB := Lib.hid hLB
      have hprev : ∀ q, k = q + 1 → ∃ p : LayD, (us.map LayD.toLayP)[q]? = some p.toLayP ∧ wr.cell? ⟨b, off + q * 5 + 2, none⟩ = some (.int .i64 p.o) := by
        intro q hq
        obtain ⟨p, hp⟩ := getElem?_lt (show q < us.length by rw [← HN.out]; omega)
        obtain ⟨b', off', had', -, ⟨-, -, d2, -, -⟩, -, -⟩ := lay_spot (H.out.below HB.out) hp
        rw [had] at had'; cases had'
        exact ⟨p, by rw [List.getElem?_map, hp]; rfl, d2⟩
      have HPV := Lib.hid hprev
      subst had
      clear hlp hf hok hlw hlb hLB hprev hl
      obtain ⟨x, hx⟩ : ∃ x, x = ws.length := ⟨_, rfl⟩
      obtain ⟨y, hy⟩ : ∃ y, y = bs.length := ⟨_, rfl⟩
      rw [← hx] at p3 KV HLB
      rw [← hy] at p4 KV HLB
      clear hx hy
      go_upto_region 4 with fail
      have b2 := below1 wr (.cells #[.int .i64 lk, .int .i64 li, .int .i64 lo, .slice wa x wk, .slice ba y bk] 79)
      have LBX := Lib.hid (BoxN.alloc wr #[.int .i64 lk, .int .i64 li, .int .i64 lo, .slice wa x wk, .slice ba y bk] 79)
      replace HB := Lib.hid (bthen HB.out b2)
      have HPV2 : Hid (∀ q, k = q + 1 → ∃ p : LayD, (us.map LayD.toLayP)[q]? = some p.toLayP ∧ (wr.alloc (.cells #[.int .i64 lk, .int .i64 li, .int .i64 lo, .slice wa x wk, .slice ba y bk] 79)).cell? ⟨b, off + q * 5 + 2, none⟩ = some (.int .i64 p.o)) := Lib.hid (fun q hq => by
        obtain ⟨p, h1, h2⟩ := HPV.out q hq
        exact ⟨p, h1, (b2.cell (p := ⟨b, off + q * 5 + 2, none⟩) hbl).trans h2⟩)
      have hbl2 := Nat.lt_of_lt_of_le hbl b2.size
      clear b2 HPV p0 p1 p2 p3 p4
      generalize wr.alloc (.cells #[.int .i64 lk, .int .i64 li, .int .i64 lo, .slice wa x wk, .slice ba y bk] 79) = w2 at LBX HB HPV2 hbl2 ⊢
      generalize wr.heap.size = lb at LBX hbl ⊢
      have CM : Hid (∀ W, Below w2.heap.size w2 W → (W.cell? ⟨lb, 0, none⟩ = some (.int .i64 lk) ∧ W.cell? ⟨lb, 1, none⟩ = some (.int .i64 li) ∧ W.cell? ⟨lb, 2, none⟩ = some (.int .i64 lo) ∧ W.cell? ⟨lb, 3, none⟩ = some (.slice wa x wk) ∧ W.cell? ⟨lb, 4, none⟩ = some (.slice ba y bk)) ∧ W.cell? ⟨gb, 0, none⟩ = some (.slice (some ⟨b, off, none⟩) n cap)) := Lib.hid (fun W hb => by
        obtain ⟨-, q0, q1, q2, q3, q4, -⟩ := (LBX.out.below hb).five
        exact ⟨⟨q0, q1, q2, q3, q4⟩, (((XB.out.below HB.out).below hb).one1).2.1⟩)
      clear LBX XB hbl
      cases e1 : layC lk li lo x y
      · rw [e1] at KV HLB
        have HF := Lib.hid (linkM_lay HL.out HLP.out HLB.out)
        have HRF : Hid (R = false) := Lib.hid (by rw [HR.out, linkM_none HF.out (show k + 1 ≤ n from hlt)]; rfl)
        clear e1
        refine wp_region_low (VC1 (.bool false)) (by kernel_rfl) (by kernel_rfl) ?_
        repeat (refine cset_step (low_self _) (fun K hK W hW => ?_); obtain ⟨⟨d0, d1, d2, d3, d4⟩, d5⟩ := CM.out W hW; first | (go_simp; refine hK _ ?_; clear hK K d0 d1 d2 d3 d4 d5) | (go_simp; refine ⟨(KV.out _).mono ?_, ?_⟩; (rintro e w1 ⟨rfl, hb⟩; exact ⟨_, rfl, bthen hW hb, rfl⟩); (rintro v hv; obtain rfl := hv; refine hK _ ?_; clear hK K d0 d1 d2 d3 d4 d5)))
        refine cset_nil ?_
        intro w3 hw3
        have HB3 := Lib.hid (bthen HB.out hw3); clear hw3
        go_wp2
        go_ret
        exact ⟨by rw [HRF.out]; rfl, bthen B1.out HB3.out⟩
      · rw [e1] at KV HLB
        clear e1
        rcases k with _ | q
        · have HL1 : Hid (linkM (us.map LayD.toLayP) 1 = true) := Lib.hid (by rw [linkM_zero HLP.out]; exact HLB.out)
          refine wp_region_low (VC1 (.bool true)) (by kernel_rfl) (by kernel_rfl) ?_
          repeat (refine cset_step (low_self _) (fun K hK W hW => ?_); obtain ⟨⟨d0, d1, d2, d3, d4⟩, d5⟩ := CM.out W hW; first | (go_simp; refine hK _ ?_; clear hK K d0 d1 d2 d3 d4 d5) | (go_simp; refine ⟨(KV.out _).mono ?_, ?_⟩; (rintro e w1 ⟨rfl, hb⟩; exact ⟨_, rfl, bthen hW hb, rfl⟩); (rintro v hv; obtain rfl := hv; refine hK _ ?_; clear hK K d0 d1 d2 d3 d4 d5)))
          refine cset_nil ?_
          intro w3 hw3
          have HB3 := Lib.hid (bthen HB.out hw3); clear hw3
          go_wp2
          go_roundw
          case rel => exact ⟨1, by go_num, hlt, HL1, HB3⟩
          case measure => simp [intOf]; omega
        · obtain ⟨p, hp, dp⟩ := HPV2.out q rfl
          have CP : Hid (∀ W, Below w2.heap.size w2 W → W.cell? ⟨b, off + q * 5 + 2, none⟩ = some (.int .i64 p.o)) := Lib.hid (fun W hb => (hb.cell (p := ⟨b, off + q * 5 + 2, none⟩) hbl2).trans dp)
          have HLN := Lib.hid (linkM_next HL.out HLP.out hp)
          obtain ⟨po, hpo⟩ : ∃ po, po = p.o := ⟨_, rfl⟩
          rw [← hpo] at CP HLN
          clear hp dp HPV2 hpo
          have hqn : q < n := by omega
          have hwq : IntKind.i64.wrap (q : Int) = (q : Int) := by rw [IntKind.wrap_i64]; omega
          by_cases hd : po = li
          · subst hd
            have HL1 : Hid (linkM (us.map LayD.toLayP) (q + 1 + 1) = true) := Lib.hid (by rw [HLN.out, HLB.out]; simp)
            refine wp_region_low (VC1 (.bool true)) (by kernel_rfl) (by kernel_rfl) ?_
            repeat (refine cset_step (low_self _) (fun K hK W hW => ?_); obtain ⟨⟨d0, d1, d2, d3, d4⟩, d5⟩ := CM.out W hW; have d6 := CP.out W hW; first | (go_simp; refine hK _ ?_; clear hK K d0 d1 d2 d3 d4 d5 d6) | (go_simp; refine ⟨(KV.out _).mono ?_, ?_⟩; (rintro e w1 ⟨rfl, hb⟩; exact ⟨_, rfl, bthen hW hb, rfl⟩); (rintro v hv; obtain rfl := hv; refine hK _ ?_; clear hK K d0 d1 d2 d3 d4 d5 d6)))
            refine cset_nil ?_
            intro w3 hw3
            have HB3 := Lib.hid (bthen HB.out hw3); clear hw3
            go_wp2
            go_roundw
            case rel => exact ⟨q + 1 + 1, by go_num, hlt, HL1, HB3⟩
            case measure => simp [intOf]; omega
          · have HRF : Hid (R = false) := Lib.hid (by rw [HR.out, linkM_none (k := q + 1 + 1) (by rw [HLN.out, HLB.out]; simpa using hd) (show q + 1 + 1 ≤ n from hlt)]; rfl)
            have f1 : (li != po) = true := by simp; omega
            have f2 : (li == po) = false := by simp; omega
            refine wp_region_low (VC1 (.bool true)) (by kernel_rfl) (by kernel_rfl) ?_
            repeat (refine cset_step (low_self _) (fun K hK W hW => ?_); obtain ⟨⟨d0, d1, d2, d3, d4⟩, d5⟩ := CM.out W hW; have d6 := CP.out W hW; first | (go_simp; refine hK _ ?_; clear hK K d0 d1 d2 d3 d4 d5 d6) | (go_simp; refine ⟨(KV.out _).mono ?_, ?_⟩; (rintro e w1 ⟨rfl, hb⟩; exact ⟨_, rfl, bthen hW hb, rfl⟩); (rintro v hv; obtain rfl := hv; refine hK _ ?_; clear hK K d0 d1 d2 d3 d4 d5 d6)))
            refine cset_nil ?_
            intro w3 hw3
            have HB3 := Lib.hid (bthen HB.out hw3); clear hw3
            go_wp2
            go_ret
            exact ⟨by rw [HRF.out]; rfl, bthen B1.out HB3.out⟩
    · have hkn : k = n := by omega
      subst hkn
      have HE : Hid (R = decide (1 ≤ k ∧ k ≤ 6)) := Lib.hid (by rw [HR.out, HL.out, Bool.true_and])
      obtain ⟨-, q0, -⟩ := (XB.out.below HB.out).one1
      by_cases h1 : 1 ≤ k
      · have HE2 : Hid (R = decide ((k : Int) ≤ 6)) := Lib.hid (by rw [HE.out]; exact decide_eq_decide.2 ⟨fun h => by omega, fun h => ⟨h1, by omega⟩⟩)
        go_wp2
        go_ret
        exact ⟨by rw [HE2.out]; rfl, bthen B1.out HB.out⟩
      · have HE2 : Hid (R = false) := Lib.hid (by rw [HE.out]; simp; omega)
        go_wp2
        go_ret
        exact ⟨by rw [HE2.out]; rfl, bthen B1.out HB.out⟩
end Go.Proofs.Ytfdgngnnncmfiaa
/- Whether layers and models are valid: the reference. No condition. -/
namespace Go.Proofs.Ytfdgngnnncmfiaa
open Go Go.RowKit
set_option linter.unusedVariables false
set_option linter.unusedSimpArgs false
theorem drawn_more {w w' : World} {n : Nat} (h : Dr (w.drewN n) w') : Drawn w w' := by
  obtain ⟨m, rfl⟩ := h
  exact ⟨n + m, by simp⟩
theorem dr_cell {w w' : World} {p : Addr} {v : Value} (hd : Dr w w') (h : w.cell? p = some v) : w'.cell? p = some v := by obtain ⟨q, rfl⟩ := hd; simpa using h
theorem Dr.more {w w' : World} (hd : Dr w w') (q : Nat) : Dr w (w'.drewN q) := by obtain ⟨m, rfl⟩ := hd; exact ⟨m + q, by simp⟩
set_option maxHeartbeats 2000000 in
theorem spec_l03Counts (w : World) (g off : Nat) (k i o : Int) (p0 : w.cell? ⟨g, off, none⟩ = some (.int .i64 k)) (p1 : w.cell? ⟨g, off + 1, none⟩ = some (.int .i64 i)) (p2 : w.cell? ⟨g, off + 2, none⟩ = some (.int .i64 o)) (hi : 1 ≤ i ∧ i ≤ 8) (ho : 1 ≤ o ∧ o ≤ 8) :
    Calls Try.prog 86 #[.pointer (some ⟨g, off, none⟩)] w fun e w' => e = .returned (.tuple #[.int .i64 (cntW k i o), .int .i64 (cntB k i o)]) ∧ Dr w w' := by
  obtain ⟨i1, i2⟩ := hi
  obtain ⟨o1, o2⟩ := ho
  obtain ⟨p, hp⟩ : ∃ p, p = o * i := ⟨_, rfl⟩
  have q1 : 0 ≤ p := by rw [hp]; exact Int.mul_nonneg (by omega) (by omega)
  have q2 : p ≤ 64 := by
    rw [hp]
    have h3 : o * i ≤ 8 * i := Int.mul_le_mul_of_nonneg_right o2 (by omega)
    omega
  have hpw2 : IntKind.i64.wrap (i * o) = p := by rw [Int.mul_comm, ← hp, IntKind.wrap_i64]; omega
  by_cases hk0 : k = 0
  · subst hk0
    have eW : cntW 0 i o = p := by rw [hp]; rfl
    have eB : cntB 0 i o = o := rfl
    rw [eW, eB]
    clear hp eW eB
    go_enter Try.func86, Try.ntmps86
    go_wp2
    refine wp_region_drawn (fun _ _ _ => False) (by kernel_rfl) (by kernel_rfl) ?_
    repeat (refine wset_step (fun K hK nq => ?_); go_simp; refine hK _ ?_; clear hK K)
    refine wset_nil ?_
    rintro w' ⟨q, rfl⟩
    go_wp2
    go_ret2
    exact ⟨rfl, _, rfl⟩
  have f3 : (k == 0) = false := by simp; omega
  by_cases hk2 : k = 2
  · subst hk2
    have eW : cntW 2 i o = i := rfl
    have eB : cntB 2 i o = 0 := rfl
    rw [eW, eB]
    clear eW eB hp
    go_enter Try.func86, Try.ntmps86
    go_wp2
    go_ret2
    exact ⟨rfl, 0, rfl⟩
  have f4 : (k == 2) = false := by simp; omega
  by_cases hk5 : k = 5
  · subst hk5
    have eW : cntW 5 i o = i := rfl
    have eB : cntB 5 i o = i := rfl
    rw [eW, eB]
    clear eW eB hp
    go_enter Try.func86, Try.ntmps86
    go_wp2
    refine wp_region_drawn (fun _ _ _ => False) (by kernel_rfl) (by kernel_rfl) ?_
    repeat (refine wset_step (fun K hK nq => ?_); go_simp; refine hK _ ?_; clear hK K)
    refine wset_nil ?_
    rintro w' ⟨q, rfl⟩
    go_wp2
    go_ret2
    exact ⟨rfl, _, rfl⟩
  have f5 : (k == 5) = false := by simp; omega
  have eW : cntW k i o = 0 := by unfold cntW; rw [if_neg hk0, if_neg hk2, if_neg hk5]
  have eB : cntB k i o = 0 := by unfold cntB; rw [if_neg hk0, if_neg hk5]
  rw [eW, eB]
  clear eW eB hp hk0 hk2 hk5
  go_enter Try.func86, Try.ntmps86
  go_wp2
  go_ret2
  exact ⟨rfl, 0, rfl⟩
set_option maxHeartbeats 4000000 in
theorem spec_l03Layer (w : World) (g off : Nat) (k i o : Int) (a b : Option Addr) (n c m d : Nat) (hn : n ≤ maxLen) (hm : m ≤ maxLen) (p0 : w.cell? ⟨g, off, none⟩ = some (.int .i64 k)) (p1 : w.cell? ⟨g, off + 1, none⟩ = some (.int .i64 i)) (p2 : w.cell? ⟨g, off + 2, none⟩ = some (.int .i64 o)) (p3 : w.cell? ⟨g, off + 3, none⟩ = some (.slice a n c)) (p4 : w.cell? ⟨g, off + 4, none⟩ = some (.slice b m d)) :
    Calls Try.prog 64 #[.pointer (some ⟨g, off, none⟩)] w fun e w' => e = .returned (.bool (layC k i o n m)) ∧ Dr w w' := by
  unfold maxLen at hn hm
  have K1 := Lib.hid (fun W => l00In_any k 0 5 W)
  have K2 := Lib.hid (fun W => l00In_any i 1 8 W)
  have K3 := Lib.hid (fun W => l00In_any o 1 8 W)
  unfold layC
  cases h1 : inB k 0 5
  · rw [h1] at K1; clear h1
    go_enter Try.func64, Try.ntmps64
    go_wp2_with fail
    refine (K1.out _).mono ?_
    rintro e w1 ⟨rfl, rfl⟩
    go_wp2
    go_ret
    exact ⟨rfl, 0, rfl⟩
  rw [h1] at K1; have ⟨k1, k2⟩ := inB_iff.1 h1; clear h1
  cases h2 : inB i 1 8
  · rw [h2] at K2; clear h2
    go_enter Try.func64, Try.ntmps64
    go_wp2_with fail
    refine (K1.out _).mono ?_
    rintro e w1 ⟨rfl, rfl⟩
    go_wp2_with fail
    refine (K2.out _).mono ?_
    rintro e w1 ⟨rfl, rfl⟩
    go_wp2
    go_ret
    exact ⟨rfl, 0, rfl⟩
  rw [h2] at K2; have ⟨i1, i2⟩ := inB_iff.1 h2; clear h2
  cases h3 : inB o 1 8
  · rw [h3] at K3; clear h3
    go_enter Try.func64, Try.ntmps64
    go_wp2_with fail
    refine (K1.out _).mono ?_
    rintro e w1 ⟨rfl, rfl⟩
    go_wp2_with fail
    refine (K2.out _).mono ?_
    rintro e w1 ⟨rfl, rfl⟩
    go_wp2_with fail
    refine (K3.out _).mono ?_
    rintro e w1 ⟨rfl, rfl⟩
    go_wp2
    go_ret
    exact ⟨rfl, 0, rfl⟩
  rw [h3] at K3; have ⟨o1, o2⟩ := inB_iff.1 h3; clear h3
  have KC := Lib.hid (spec_l03Counts w g off k i o p0 p1 p2 ⟨i1, i2⟩ ⟨o1, o2⟩)
  obtain ⟨cw, hcw⟩ : ∃ x, x = cntW k i o := ⟨_, rfl⟩
  obtain ⟨cb, hcb⟩ : ∃ x, x = cntB k i o := ⟨_, rfl⟩
  rw [← hcw, ← hcb] at KC ⊢
  clear hcw hcb
  by_cases hk0 : k = 0
  · subst hk0
    rw [decide_eq_true (Or.inl rfl)]
    by_cases hA : (n : Int) = cw
    rotate_left
    · rw [decide_eq_false hA]
      have g1 : ((n : Int) == cw) = false := by simpa using hA
      clear hA
      go_enter Try.func64, Try.ntmps64
      go_wp2_with fail
      refine (K1.out _).mono ?_
      rintro e w1 ⟨rfl, rfl⟩
      go_wp2_with fail
      refine (K2.out _).mono ?_
      rintro e w1 ⟨rfl, rfl⟩
      go_wp2_with fail
      refine (K3.out _).mono ?_
      rintro e w1 ⟨rfl, rfl⟩
      go_wp2_with fail
      refine KC.out.mono ?_
      rintro e w1 ⟨rfl, hd⟩
      have e0 := dr_cell hd p0; have e1 := dr_cell hd p1; have e2 := dr_cell hd p2; have e3 := dr_cell hd p3; have e4 := dr_cell hd p4
      have HD := Lib.hid hd
      clear hd p0 p1 p2 p3 p4
      go_wp2
      refine wp_region_drawn (fun _ _ _ => False) (by kernel_rfl) (by kernel_rfl) ?_
      repeat (refine wset_step (fun K hK nq => ?_); go_simp; refine hK _ ?_; clear hK K)
      refine wset_nil ?_
      rintro w' ⟨q, rfl⟩
      go_wp2
      go_ret
      exact ⟨rfl, HD.out.more q⟩
    · rw [decide_eq_true hA]
      have g1 : ((n : Int) == cw) = true := by simp [hA]
      clear hA
      go_enter Try.func64, Try.ntmps64
      go_wp2_with fail
      refine (K1.out _).mono ?_
      rintro e w1 ⟨rfl, rfl⟩
      go_wp2_with fail
      refine (K2.out _).mono ?_
      rintro e w1 ⟨rfl, rfl⟩
      go_wp2_with fail
      refine (K3.out _).mono ?_
      rintro e w1 ⟨rfl, rfl⟩
      go_wp2_with fail
      refine KC.out.mono ?_
      rintro e w1 ⟨rfl, hd⟩
      have e0 := dr_cell hd p0; have e1 := dr_cell hd p1; have e2 := dr_cell hd p2; have e3 := dr_cell hd p3; have e4 := dr_cell hd p4
      have HD := Lib.hid hd
      clear hd p0 p1 p2 p3 p4
      go_wp2
      refine wp_region_drawn (fun _ _ _ => False) (by kernel_rfl) (by kernel_rfl) ?_
      repeat (refine wset_step (fun K hK nq => ?_); go_simp; refine hK _ ?_; clear hK K)
      refine wset_nil ?_
      rintro w' ⟨q, rfl⟩
      go_wp2
      go_ret
      exact ⟨by congr 2, HD.out.more q⟩
  have f3 : (k == 0) = false := by simp; omega
  by_cases hio : i = o
  · subst hio
    rw [decide_eq_true (Or.inr rfl)]
    clear hk0
    by_cases hA : (n : Int) = cw
    rotate_left
    · rw [decide_eq_false hA]
      have g1 : ((n : Int) == cw) = false := by simpa using hA
      clear hA
      go_enter Try.func64, Try.ntmps64
      go_wp2_with fail
      refine (K1.out _).mono ?_
      rintro e w1 ⟨rfl, rfl⟩
      go_wp2_with fail
      refine (K2.out _).mono ?_
      rintro e w1 ⟨rfl, rfl⟩
      go_wp2_with fail
      refine (K3.out _).mono ?_
      rintro e w1 ⟨rfl, rfl⟩
      go_wp2_with fail
      refine KC.out.mono ?_
      rintro e w1 ⟨rfl, hd⟩
      have e0 := dr_cell hd p0; have e1 := dr_cell hd p1; have e2 := dr_cell hd p2; have e3 := dr_cell hd p3; have e4 := dr_cell hd p4
      have HD := Lib.hid hd
      clear hd p0 p1 p2 p3 p4
      go_wp2
      refine wp_region_drawn (fun _ _ _ => False) (by kernel_rfl) (by kernel_rfl) ?_
      repeat (refine wset_step (fun K hK nq => ?_); go_simp; refine hK _ ?_; clear hK K)
      refine wset_nil ?_
      rintro w' ⟨q, rfl⟩
      go_wp2
      go_ret
      exact ⟨rfl, HD.out.more q⟩
    · rw [decide_eq_true hA]
      have g1 : ((n : Int) == cw) = true := by simp [hA]
      clear hA
      go_enter Try.func64, Try.ntmps64
      go_wp2_with fail
      refine (K1.out _).mono ?_
      rintro e w1 ⟨rfl, rfl⟩
      go_wp2_with fail
      refine (K2.out _).mono ?_
      rintro e w1 ⟨rfl, rfl⟩
      go_wp2_with fail
      refine (K3.out _).mono ?_
      rintro e w1 ⟨rfl, rfl⟩
      go_wp2_with fail
      refine KC.out.mono ?_
      rintro e w1 ⟨rfl, hd⟩
      have e0 := dr_cell hd p0; have e1 := dr_cell hd p1; have e2 := dr_cell hd p2; have e3 := dr_cell hd p3; have e4 := dr_cell hd p4
      have HD := Lib.hid hd
      clear hd p0 p1 p2 p3 p4
      go_wp2
      refine wp_region_drawn (fun _ _ _ => False) (by kernel_rfl) (by kernel_rfl) ?_
      repeat (refine wset_step (fun K hK nq => ?_); go_simp; refine hK _ ?_; clear hK K)
      refine wset_nil ?_
      rintro w' ⟨q, rfl⟩
      go_wp2
      go_ret
      exact ⟨by congr 2, HD.out.more q⟩
  · rw [decide_eq_false (by omega)]
    have f1 : (i == o) = false := by simp; omega
    clear hk0 hio
    go_enter Try.func64, Try.ntmps64
    go_wp2_with fail
    refine (K1.out _).mono ?_
    rintro e w1 ⟨rfl, rfl⟩
    go_wp2_with fail
    refine (K2.out _).mono ?_
    rintro e w1 ⟨rfl, rfl⟩
    go_wp2_with fail
    refine (K3.out _).mono ?_
    rintro e w1 ⟨rfl, rfl⟩
    go_wp2_with fail
    refine KC.out.mono ?_
    rintro e w1 ⟨rfl, hd⟩
    have e0 := dr_cell hd p0; have e1 := dr_cell hd p1; have e2 := dr_cell hd p2; have e3 := dr_cell hd p3; have e4 := dr_cell hd p4
    have HD := Lib.hid hd
    clear hd p0 p1 p2 p3 p4
    go_wp2
    refine wp_region_drawn (fun _ _ _ => False) (by kernel_rfl) (by kernel_rfl) ?_
    repeat (refine wset_step (fun K hK nq => ?_); go_simp; refine hK _ ?_; clear hK K)
    refine wset_nil ?_
    rintro w' ⟨q, rfl⟩
    go_wp2
    go_ret
    exact ⟨rfl, HD.out.more q⟩
end Go.Proofs.Ytfdgngnnncmfiaa
/- Whether models are valid: the reference. No condition. -/
namespace Go.Proofs.Ytfdgngnnncmfiaa
open Go Go.RowKit
set_option linter.unusedVariables false
set_option linter.unusedSimpArgs false
set_option maxHeartbeats 8000000 in
set_option maxRecDepth 100000 in
theorem spec_l03Is (w : World) (g o : Nat) (ad : Option Addr) (cap : Nat) (us : List LayD) (h : SeeR layR w ad cap us) (hg : w.cell? ⟨g, o, none⟩ = some (.slice ad us.length cap)) :
    Calls Try.prog 45 #[.pointer (some ⟨g, o, none⟩)] w fun e w' => e = .returned (.bool (modB (us.map LayD.toLayP))) ∧ Dr w w' := by
  have hm := Nat.le_trans h.le h.cap
  unfold maxLen at hm
  obtain ⟨R, hR⟩ : ∃ R, R = modB (us.map LayD.toLayP) := ⟨_, rfl⟩
  rw [← hR]
  unfold modB at hR
  rw [List.length_map] at hR
  obtain ⟨n, hN⟩ : ∃ n, n = us.length := ⟨_, rfl⟩
  rw [← hN] at hR hm hg
  have HR := Lib.hid hR; have HN := Lib.hid hN; have H := Lib.hid h; have HG := Lib.hid hg
  clear hR hN h
  by_cases hn1 : 1 ≤ n
  rotate_left
  · have HE : Hid (R = false) := Lib.hid (by rw [HR.out, decide_eq_false (by omega), Bool.and_false])
    go_enter Try.func45, Try.ntmps45
    go_wp2
    go_ret
    exact ⟨by rw [HE.out]; rfl, 0, rfl⟩
  by_cases hn6 : n ≤ 6
  rotate_left
  · have HE : Hid (R = false) := Lib.hid (by rw [HR.out, decide_eq_false (by omega), Bool.and_false])
    go_enter Try.func45, Try.ntmps45
    go_wp2
    go_ret
    exact ⟨by rw [HE.out]; rfl, 0, rfl⟩
  have HR2 : Hid (R = linkM (us.map LayD.toLayP) n) := Lib.hid (by rw [HR.out, decide_eq_true ⟨hn1, hn6⟩, Bool.and_true])
  clear HR
  go_enter Try.func45, Try.ntmps45
  go_wp2
  clear hg
  go_loopw [4] (fun i wt => ∃ k : Nat, i = .int .i64 k ∧ k ≤ n ∧ Hid (linkM (us.map LayD.toLayP) k = true) ∧ Hid (Dr w wt)) (fun i _ => n - (intOf i).toNat)
  case atStart => exact ⟨0, rfl, Nat.zero_le _, Lib.hid rfl, Lib.hid ⟨0, rfl⟩⟩
  case round =>
    obtain ⟨k, rfl, hk, HL, HD⟩ := hrel
    have g0 := dr_cell HD.out HG.out
    by_cases hlt : k < n
    · obtain ⟨l, hl⟩ := getElem?_lt (show k < us.length by rw [← HN.out]; exact hlt)
      obtain ⟨b, off, had, hbl, ⟨p0, p1, p2, p3, p4⟩, hf, hok⟩ := lay_spot (H.out.below HD.out.below) hl
      have hlp : (us.map LayD.toLayP)[k]? = some l.toLayP := by rw [List.getElem?_map, hl]; rfl
      have HLP := Lib.hid hlp
      obtain ⟨⟨lk, li, lo, ws, bs⟩, wa, wk, ba, bk⟩ := l
      simp only at p0 p1 p2 p3 p4 hf
      have hlw : ws.length ≤ maxLen := Nat.le_trans hf.1.len hf.1.cap
      have hlb : bs.length ≤ maxLen := Nat.le_trans hf.2.len hf.2.cap
      have KV := Lib.hid (fun q => spec_l03Layer (wr.drewN q) b (off + k * 5) lk li lo wa ba ws.length wk bs.length bk hlw hlb (by simpa using p0) (by simpa using p1) (by simpa using p2) (by simpa using p3) (by simpa using p4))
      have hLB : layB ⟨lk, li, lo, ws, bs⟩ = layC lk li lo ws.length bs.length := rfl
      have HLB := Lib.hid hLB
      have hprev : ∀ q, k = q + 1 → ∃ p : LayD, (us.map LayD.toLayP)[q]? = some p.toLayP ∧ wr.cell? ⟨b, off + q * 5 + 2, none⟩ = some (.int .i64 p.o) := by
        intro q hq
        obtain ⟨p, hp⟩ := getElem?_lt (show q < us.length by rw [← HN.out]; omega)
        obtain ⟨b', off', had', -, ⟨-, -, d2, -, -⟩, -, -⟩ := lay_spot (H.out.below HD.out.below) hp
        rw [had] at had'; cases had'
        exact ⟨p, by rw [List.getElem?_map, hp]; rfl, d2⟩
      have HPV := Lib.hid hprev
      subst had
      clear hlp hf hok hlw hlb hLB hprev hl p0 p2 p3 p4 hbl
      obtain ⟨x, hx⟩ : ∃ x, x = ws.length := ⟨_, rfl⟩
      obtain ⟨y, hy⟩ : ∃ y, y = bs.length := ⟨_, rfl⟩
      rw [← hx] at KV HLB
      rw [← hy] at KV HLB
      clear hx hy
      cases e1 : layC lk li lo x y
      · rw [e1] at KV HLB
        have HF := Lib.hid (linkM_lay HL.out HLP.out HLB.out)
        have HRF : Hid (R = false) := Lib.hid (by rw [HR2.out, linkM_none HF.out (show k + 1 ≤ n from hlt)])
        clear e1 p1 HPV
        go_wp2
        refine wp_region_drawn (fun f args v => v = .bool false) (by kernel_rfl) (by kernel_rfl) ?_
        repeat (refine wset_step (fun K hK nq => ?_); first | (go_simp; refine hK _ ?_; clear hK K) | (go_simp; refine ⟨(KV.out _).mono ?_, ?_⟩; (rintro e w' ⟨rfl, hd⟩; exact ⟨rfl, drawn_more hd⟩); (refine hK _ ?_; clear hK K)))
        refine wset_nil ?_
        rintro w' ⟨q, rfl⟩
        go_wp2
        go_ret
        exact ⟨by rw [HRF.out]; rfl, HD.out.more q⟩
      · rw [e1] at KV HLB
        clear e1
        by_cases hk0 : k = 0
        · subst hk0
          have HL1 : Hid (linkM (us.map LayD.toLayP) 1 = true) := Lib.hid (by rw [linkM_zero HLP.out]; exact HLB.out)
          clear HPV p1
          go_wp2
          refine wp_region_drawn (fun f args v => v = .bool true) (by kernel_rfl) (by kernel_rfl) ?_
          repeat (refine wset_step (fun K hK nq => ?_); first | (go_simp; refine hK _ ?_; clear hK K) | (go_simp; refine ⟨(KV.out _).mono ?_, ?_⟩; (rintro e w' ⟨rfl, hd⟩; exact ⟨rfl, drawn_more hd⟩); (refine hK _ ?_; clear hK K)))
          refine wset_nil ?_
          rintro w' ⟨q, rfl⟩
          have HD2 := Lib.hid (HD.out.more q)
          go_wp2
          go_roundw
          case rel => exact ⟨1, by go_num, hlt, HL1, HD2⟩
          case measure => simp [intOf]; omega
        · obtain ⟨z, hz⟩ : ∃ z, k = z + 1 := ⟨k - 1, by omega⟩
          obtain ⟨p, hp, dp⟩ := HPV.out z hz
          have HZ := Lib.hid hz
          have HLN : Hid (linkM (us.map LayD.toLayP) (k + 1) = (layB ⟨lk, li, lo, ws, bs⟩ && decide (p.toLayP.o = li))) := Lib.hid (by
            have h1 := HL.out; have h2 := HLP.out
            rw [hz] at h1 h2 ⊢
            exact linkM_next h1 h2 hp)
          have hzk : z < k := by omega
          have hk1 : 0 < k := by omega
          have hk2 : decide (0 < k) = true := decide_eq_true hk1
          have hz0 : (0 : Int) ≤ (z : Int) := by omega
          have hzn : (z : Int) < (n : Int) := by omega
          have hwq : IntKind.i64.wrap ((k : Int) - 1) = (z : Int) := by rw [IntKind.wrap_i64]; omega
          clear hz hk0
          obtain ⟨po, hpo⟩ : ∃ po, po = p.o := ⟨_, rfl⟩
          rw [← hpo] at dp HLN
          clear hp HPV hpo
          have hqn : z < n := by omega
          by_cases hd : po = li
          · subst hd
            have HL1 : Hid (linkM (us.map LayD.toLayP) (k + 1) = true) := Lib.hid (by rw [HLN.out, HLB.out]; simp)
            go_wp2
            refine wp_region_drawn (fun f args v => v = .bool true) (by kernel_rfl) (by kernel_rfl) ?_
            repeat (refine wset_step (fun K hK nq => ?_); first | (go_simp; refine hK _ ?_; clear hK K) | (go_simp; refine ⟨(KV.out _).mono ?_, ?_⟩; (rintro e w' ⟨rfl, hd⟩; exact ⟨rfl, drawn_more hd⟩); (refine hK _ ?_; clear hK K)))
            refine wset_nil ?_
            rintro w' ⟨q, rfl⟩
            have HD2 := Lib.hid (HD.out.more q)
            go_wp2
            go_roundw
            case rel => exact ⟨k + 1, by go_num, hlt, HL1, HD2⟩
            case measure => simp [intOf]; omega
          · have HRF : Hid (R = false) := Lib.hid (by rw [HR2.out, linkM_none (k := k + 1) (by rw [HLN.out, HLB.out]; simpa using hd) (show k + 1 ≤ n from hlt)])
            have f1 : (po != li) = true := by simp; omega
            have f2 : (po == li) = false := by simp; omega
            go_wp2
            refine wp_region_drawn (fun f args v => v = .bool true) (by kernel_rfl) (by kernel_rfl) ?_
            repeat (refine wset_step (fun K hK nq => ?_); first | (go_simp; refine hK _ ?_; clear hK K) | (go_simp; refine ⟨(KV.out _).mono ?_, ?_⟩; (rintro e w' ⟨rfl, hd⟩; exact ⟨rfl, drawn_more hd⟩); (refine hK _ ?_; clear hK K)))
            refine wset_nil ?_
            rintro w' ⟨q, rfl⟩
            go_wp2
            go_ret
            exact ⟨by rw [HRF.out]; rfl, HD.out.more q⟩
    · have hkn : k = n := by omega
      subst hkn
      have HE2 : Hid (R = true) := Lib.hid (by rw [HR2.out, HL.out])
      go_wp2
      go_ret
      exact ⟨by rw [HE2.out]; rfl, HD.out⟩
end Go.Proofs.Ytfdgngnnncmfiaa
/- Steps of the walk of a region whose guards are told. No condition. -/
namespace Go.Proofs.Ytfdgngnnncmfiaa
open Go
section
variable {P : Program} {ops : Array Oper} {VC : FuncId → Array Value → Value → Prop} {w : World} {Q : Act → Prop} {o : Oper} {rest : List Oper} {a : Act}
theorem wset_yes (hw : Region.wanted o (yielded ops a.tmps) = true) (h : ∀ K : Act → Prop, (∀ a, WSet P ops (Drawn w) VC Q rest a → K a) → ∀ n : Nat, UponS P VC w (fun v => K (a.put o.dst v)) ((execOp a.eval o).run P (w.drewN n))) :
    WSet P ops (Drawn w) VC Q (o :: rest) a :=
  wset_step fun K hK n => by rw [if_pos hw]; exact h K hK n
theorem wset_skip (hw : Region.wanted o (yielded ops a.tmps) = false) (h : ∀ K : Act → Prop, (∀ a, WSet P ops (Drawn w) VC Q rest a → K a) → K (a.put o.dst undef)) :
    WSet P ops (Drawn w) VC Q (o :: rest) a :=
  wset_step fun K hK n => by rw [if_neg (by rw [hw]; exact Bool.false_ne_true)]; exact h K hK
end
end Go.Proofs.Ytfdgngnnncmfiaa
/- Some rows: the reference. No condition. -/
namespace Go.Proofs.Ytfdgngnnncmfiaa
open Go Go.RowKit
set_option linter.unusedVariables false
set_option linter.unusedSimpArgs false
set_option maxHeartbeats 8000000 in
set_option maxRecDepth 100000 in
theorem spec_l02Slice (w : World) (g1 o1 : Nat) (r : Int) (c : Nat) (a1 : Option Addr) (c1 n : Nat) (xs : List Nat) (p1 : w.cell? ⟨g1, o1 + 1, none⟩ = some (.int .i64 c)) (p2 : w.cell? ⟨g1, o1 + 2, none⟩ = some (.slice a1 n c1))
    (hx : F32s w a1 c1 xs) (hxl : xs.length = n) (hn : n ≤ 256) (f k : Nat) (hk : 1 ≤ k) (hc : 1 ≤ c) (hf : f ≤ 256) (hc2 : c ≤ 256) (hfk : (f + k) * c ≤ n) :
    Calls Try.prog 46 #[.pointer (some ⟨g1, o1, none⟩), .int .i64 f, .int .i64 k] w (TenPost k c (k * c) (((xs.drop (f * c)).take (k * c)).map (cn .f32)) w) := by
  have hg1 := World.block_lt_of_cell? w _ p1
  simp only at hg1
  have hadd : (f + k) * c = f * c + k * c := Nat.add_mul _ _ _
  have hkk : 1 ≤ k * c := Nat.mul_le_mul hk hc
  have hfc : f ≤ f * c := by have := Nat.mul_le_mul_left f hc; omega
  have hkc : k ≤ k * c := by have := Nat.mul_le_mul_left k hc; omega
  obtain ⟨p, hp⟩ : ∃ p, p = f * c := ⟨_, rfl⟩
  obtain ⟨m, hm⟩ : ∃ m, m = k * c := ⟨_, rfl⟩
  obtain ⟨q, hq⟩ : ∃ q, q = p + m := ⟨_, rfl⟩
  have hqe : (f + k) * c = q := by rw [hadd, hq, hp, hm]
  have e1 : (f : Int) * (c : Int) = (p : Int) := by rw [hp]; rfl
  have e2 : ((f + k : Nat) : Int) * (c : Int) = (q : Int) := by rw [← hqe]; rfl
  obtain ⟨u, hu⟩ : ∃ u, u = f + k := ⟨_, rfl⟩
  have e3 : (f : Int) + (k : Int) = (u : Int) := by rw [hu]; rfl
  rw [← hu] at e2 hqe hfk
  rw [hqe] at hfk
  rw [← hp] at hfc ⊢
  rw [← hm] at hkc hkk ⊢
  have t1 : IntKind.i64.wrap (p : Int) = p := wrap_nat (by omega)
  have t2 : IntKind.i64.wrap (q : Int) = q := wrap_nat (by omega)
  have t3 : IntKind.i64.wrap (u : Int) = u := wrap_nat (by omega)
  obtain ⟨b, off, rfl, hbl, _⟩ := hx.spot (k := 0) (by omega)
  have hcap := hx.len
  rw [hxl] at hcap
  have h1 := hx.cut3 q (by rw [hxl]; exact hfk)
  have h2 := (h1.1.cut3 p (by rw [List.length_take, hxl]; omega)).2
  have hyl : ((xs.take q).drop p).length = m := by rw [List.length_drop, List.length_take, hxl]; omega
  have hye : (xs.take q).drop p = (xs.drop p).take m := by rw [List.drop_take]; congr 1; omega
  rw [hye] at h2 hyl
  obtain ⟨ys, hys⟩ : ∃ ys, ys = (xs.drop p).take m := ⟨_, rfl⟩
  rw [← hys] at h2 hyl ⊢
  have K := Lib.hid (fun W (hb : Below w.heap.size w W) => spec_l02OwnF W _ _ ys (h2.below hb) (fun h => nomatch h) (by omega))
  rw [hyl] at K
  have KS : Hid (∀ W, Below w.heap.size w W → W.cell? ⟨g1, o1 + 1, none⟩ = some (.int .i64 c) ∧ W.cell? ⟨g1, o1 + 2, none⟩ = some (.slice (some ⟨b, off, none⟩) n c1)) := Lib.hid (fun W hb => ⟨(hb.cell (p := ⟨g1, o1 + 1, none⟩) hg1).trans p1, (hb.cell (p := ⟨g1, o1 + 2, none⟩) hg1).trans p2⟩)
  have hpq : p ≤ q := by omega
  have hqc : q ≤ c1 := by omega
  have t9 : q - p = m := by omega
  have t8 : ¬ (c1 = p) := by omega
  have HQ := Lib.hid hq
  clear hx h1 h2 hye hys hyl hxl p1 p2 hp hm hadd hqe hu hq
  go_enter Try.func46, Try.ntmps46
  go_upto_region 1 with fail
  have hb1 := below1 w (.cells #[.int .i64 0, .int .i64 0, .slice none 0 0] 38)
  have RB0 := Lib.hid (BoxN.alloc w #[.int .i64 0, .int .i64 0, .slice none 0 0] 38)
  obtain ⟨W1, hW1⟩ : ∃ W, W = w.alloc (.cells #[.int .i64 0, .int .i64 0, .slice none 0 0] 38) := ⟨_, rfl⟩
  have hz1 : W1.heap.size = w.heap.size + 1 := by rw [hW1]; simp
  rw [← hW1] at hb1 RB0 ⊢
  have HS := Lib.hid (KS.out W1 hb1)
  have HB1 := Lib.hid hb1
  clear hb1 hW1
  refine wp_region_mix 26 [24] (fun W => W.cell? ⟨g1, o1 + 1, none⟩ = some (.int .i64 c) ∧ W.cell? ⟨g1, o1 + 2, none⟩ = some (.slice (some ⟨b, off, none⟩) n c1)) (fun _ _ _ => False) (OwnF m ys) (by kernel_rfl) (by kernel_rfl) HS.out (fun W q h => by simpa using h) ?_
  iterate 24 (refine mwalk_plain (by rfl) HS.out (fun K hK W hW => ?_); obtain ⟨d1, d2⟩ := hW; go_simp; refine hK _ ?_; clear hK K d1 d2)
  refine mwalk_spec (by rfl) HS.out (fun K' hK dq => ?_)
  go_simp
  refine ⟨(K.out _ (below_drewN HB1.out dq)).mono ?_, ?_⟩
  · rintro e w1 ⟨a2, c2, rfl, HX, hb⟩
    exact ⟨_, rfl, _, _, rfl, HX.out, hb⟩
  rintro v w2 ⟨a2, c2, rfl, hx2, hb2⟩
  have hb3 := bthen (below_drewN HB1.out dq) hb2
  have HS2 := Lib.hid (KS.out w2 hb3)
  have HX2 := Lib.hid hx2; have HB3 := Lib.hid hb3
  have RB2 := Lib.hid ((RB0.out.below (below_drewN (Below.refl _ _) dq)).below hb2)
  refine ⟨KS.out w2 hb3, hK _ _ ?_⟩
  clear hK K' hb2 hx2 hb3
  refine mwalk_plain (by rfl) HS2.out (fun K hK W hW => ?_)
  go_simp
  refine hK _ ?_
  clear hK K hW
  refine mwalk_nil (fun q3 => ?_)
  have HX3 := Lib.hid (HX2.out.below (below_drewN (Below.refl _ _) q3))
  have HB4 := Lib.hid (below_drewN HB3.out q3)
  have RB3 := Lib.hid (RB2.out.below (below_drewN (Below.refl _ _) q3))
  have hz3 : w2.heap.size ≤ (w2.drewN q3).heap.size := by simp
  have hzq : (W1.drewN dq).heap.size = w.heap.size + 1 := hz1
  generalize w2.drewN q3 = w3 at HX3 HB4 RB3 hz3 ⊢
  obtain ⟨rl, u0, u1, u2, uf⟩ := RB3.out.three
  have hfin := setCs_repF (g := w.heap.size) (lo' := w.heap.size) (i := 0) HX3.out (by rw [hzq]; omega) (by rw [hzq]; omega) hz3 [.int .i64 k, .int .i64 c, .slice a2 m c2]
  have hbf := setCs_below HB4.out (g := w.heap.size) (Nat.le_refl _) 0 [.int .i64 k, .int .i64 c, .slice a2 m c2]
  have HF := Lib.hid hfin; have HBF := Lib.hid hbf
  clear hfin hbf HX2 HB3 RB2 HS HS2 KS K
  go_wp2
  try simp only [Exit.inBlock, Exit.then]
  refine bodyPost_ret (v := .agg #[.int .i64 k, .int .i64 c, .slice a2 m c2]) (by simp [results, Try.results46, go_sem, u0, u1, u2]) rfl ⟨_, _, _, rfl, HF, Lib.hid rfl, HBF.out⟩
end Go.Proofs.Ytfdgngnnncmfiaa
/- The tape of a model: the reference. No condition. -/
namespace Go.Proofs.Ytfdgngnnncmfiaa
open Go Go.RowKit
set_option linter.unusedVariables false
set_option linter.unusedSimpArgs false
/-- what both make of a model: its tape and the indices of its weights -/
def ModOut (R : Option (List OpP × List Int)) (w : World) (e : Ending) (w' : World) : Prop := ∃ ad n cap wa m wk b, e = .returned (.tuple #[.slice ad n cap, .slice wa m wk, .bool b]) ∧
  Hid (b = R.isSome ∧ (b = true → ∃ C ws, R = some (C, ws) ∧ ws.length = m ∧ (∀ x ∈ ws, (Lit.int .i64 x).wf = true) ∧ TN w w' ad n cap C [intRow wa wk ws])) ∧ Below w.heap.size w w'
theorem modelP_no {ls : List LayP} {X Y : TenP} {num : Nat} (h : goodM ls X Y = false) : modelP ls X Y num = none := by unfold modelP; rw [h]; rfl
theorem TN.start (w : World) : TN w ((w.alloc (.cells #[] 68)).alloc (.cells #[] 2)) (some ⟨w.heap.size, 0, none⟩) 0 0 [] [intRow (some ⟨w.heap.size + 1, 0, none⟩) 0 []] := by
  have h1 := (OwnR.nil1 opR w).below (below1 (w.alloc (.cells #[] 68)) (.cells #[] 2))
  have hz : (w.alloc (.cells #[] 68)).heap.size = w.heap.size + 1 := by simp
  have ho := World.ownsRow_made (base := w.heap.size + 1) (e := 2) (size := 1) (w.alloc (.cells #[] 68)) #[] 0 (by rw [hz]; exact Nat.le_refl _) (Nat.zero_le _) rfl
  have hE : Own ((w.alloc (.cells #[] 68)).alloc (.cells #[] 2)) (w.heap.size + 1) ((w.alloc (.cells #[] 68)).alloc (.cells #[] 2)).heap.size [intRow (some ⟨w.heap.size + 1, 0, none⟩) 0 []] := by
    rw [hz] at ho
    exact Own.one (Row.mk' ho)
  rw [show (w.alloc (.cells #[] opR.e)).heap.size = w.heap.size + 1 by simp] at h1
  exact ⟨[], rfl, rfl, ⟨OwnX.beside h1 hE (by omega) (by simp), below2 w _ _⟩⟩
/-- what the calls that look at a model and its tensors give -/
def VM (b1 b2 b3 : Bool) (px py : Value) (f : FuncId) (args : Array Value) (v : Value) : Prop := (f = 45 → v = .bool b1) ∧ (f = 32 → (args = #[px] → v = .bool b2) ∧ (args = #[py] → v = .bool b3))

set_option maxHeartbeats 16000000 in
set_option maxRecDepth 100000 in
theorem spec_l04Model_noA (w : World) (mb mo xb xo yb yo : Nat) (ma : Option Addr) (mk : Nat) (ls : List LayD) (xr xc yr yc : Int) (xa ya : Option Addr) (xk yk : Nat) (xs ys : List Nat) (num : Nat) (hnum : num < 4294967296)
    (hm : w.cell? ⟨mb, mo, none⟩ = some (.slice ma ls.length mk)) (hls : SeeR layR w ma mk ls)
    (hx0 : w.cell? ⟨xb, xo, none⟩ = some (.int .i64 xr)) (hx1 : w.cell? ⟨xb, xo + 1, none⟩ = some (.int .i64 xc)) (hx2 : w.cell? ⟨xb, xo + 2, none⟩ = some (.slice xa xs.length xk)) (hx : F32s w xa xk xs)
    (hy0 : w.cell? ⟨yb, yo, none⟩ = some (.int .i64 yr)) (hy1 : w.cell? ⟨yb, yo + 1, none⟩ = some (.int .i64 yc)) (hy2 : w.cell? ⟨yb, yo + 2, none⟩ = some (.slice ya ys.length yk)) (hy : F32s w ya yk ys) (hxy : xb ≠ yb) (hA : (modB (ls.map LayD.toLayP) && (tenB xr xc xs.length && (tenB yr yc ys.length && decide (xr = yr)))) = false) :
    Calls Try.prog 33 #[.pointer (some ⟨mb, mo, none⟩), .pointer (some ⟨xb, xo, none⟩), .pointer (some ⟨yb, yo, none⟩), .float .f32 num] w (ModOut (modelP (ls.map fun l => l.toLayP.can) ⟨xr, xc, xs.map (cn .f32)⟩ ⟨yr, yc, ys.map (cn .f32)⟩ (cn .f32 num)) w) := by
  obtain ⟨i0, hi0, hz0, hzs, hz2⟩ := info_parts info_op
  obtain ⟨j0, hj0, jz0, jzs, jz2⟩ := info_parts info_i64
  obtain ⟨R, hR⟩ : ∃ R, R = modelP (ls.map fun l => l.toLayP.can) ⟨xr, xc, xs.map (cn .f32)⟩ ⟨yr, yc, ys.map (cn .f32)⟩ (cn .f32 num) := ⟨_, rfl⟩
  rw [← hR]
  have HR := Lib.hid hR
  have hgood : goodM (ls.map fun l => l.toLayP.can) ⟨xr, xc, xs.map (cn .f32)⟩ ⟨yr, yc, ys.map (cn .f32)⟩ = (modB (ls.map LayD.toLayP) && (tenB xr xc xs.length && (tenB yr yc ys.length && (decide (xr = yr) && (decide (xc = (layAt (ls.map LayD.toLayP) 0).i) && decide (yc = (layAt (ls.map LayD.toLayP) (ls.length - 1)).o)))))) := by
    have e : (ls.map fun l => l.toLayP.can) = (ls.map LayD.toLayP).map LayP.can := by rw [List.map_map]; rfl
    unfold goodM
    rw [e, modB_can, (layAt_can _ _).1, (layAt_can _ _).2]
    simp only [List.length_map]
  have HG := Lib.hid hgood
  clear hR hgood
  obtain ⟨n, hN⟩ : ∃ n, n = xs.length := ⟨_, rfl⟩
  obtain ⟨m, hM⟩ : ∃ m, m = ys.length := ⟨_, rfl⟩
  obtain ⟨L, hL⟩ : ∃ L, L = ls.length := ⟨_, rfl⟩
  rw [← hN] at hx2 HG
  rw [← hM] at hy2 HG
  rw [← hL] at hm HG
  have HN := Lib.hid hN; have HM := Lib.hid hM; have HL := Lib.hid hL
  have hnm := Nat.le_trans hx.len hx.cap
  have hmm := Nat.le_trans hy.len hy.cap
  rw [← hN] at hnm
  rw [← hM] at hmm
  have HLS := Lib.hid hls; have HX := Lib.hid hx; have HY := Lib.hid hy
  have CW : Hid (∀ W, Below w.heap.size w W → W.cell? ⟨mb, mo, none⟩ = some (.slice ma L mk) ∧ (W.cell? ⟨xb, xo, none⟩ = some (.int .i64 xr) ∧ W.cell? ⟨xb, xo + 1, none⟩ = some (.int .i64 xc) ∧ W.cell? ⟨xb, xo + 2, none⟩ = some (.slice xa n xk)) ∧ W.cell? ⟨yb, yo, none⟩ = some (.int .i64 yr) ∧ W.cell? ⟨yb, yo + 1, none⟩ = some (.int .i64 yc) ∧ W.cell? ⟨yb, yo + 2, none⟩ = some (.slice ya m yk)) := Lib.hid (fun W hb => by
    have f : ∀ {p : Addr} {v : Value}, w.cell? p = some v → W.cell? p = some v := fun h => (hb.cell (World.block_lt_of_cell? _ _ h)).trans h
    exact ⟨f hm, ⟨f hx0, f hx1, f hx2⟩, f hy0, f hy1, f hy2⟩)
  have KM := Lib.hid (fun W (hb : Below w.heap.size w W) => spec_l03Is W mb mo ma mk ls (HLS.out.below hb) (by rw [← HL.out]; exact (CW.out W hb).1))
  have KX := Lib.hid (fun W (hb : Below w.heap.size w W) => spec_l02Is W xb xo xr xc xa n xk hnm (CW.out W hb).2.1.1 (CW.out W hb).2.1.2.1 (CW.out W hb).2.1.2.2)
  have KY := Lib.hid (fun W (hb : Below w.heap.size w W) => spec_l02Is W yb yo yr yc ya m yk hmm (CW.out W hb).2.2.1 (CW.out W hb).2.2.2.1 (CW.out W hb).2.2.2.2)
  have hpxy : (.pointer (some ⟨xb, xo, none⟩) : Value) ≠ .pointer (some ⟨yb, yo, none⟩) := by intro e; injection e with e; injection e with e; injection e with e; exact hxy e
  have HPXY := Lib.hid hpxy
  clear hm hls hx0 hx1 hx2 hx hy0 hy1 hy2 hy hN hM hL hxy hnm hmm hpxy
  have hts := TN.start w
  have HT := Lib.hid hts
  clear hts
  obtain ⟨v1, hv1⟩ : ∃ W, W = (w.alloc (.cells #[] 68)).alloc (.cells #[] 2) := ⟨_, rfl⟩
  rw [← hv1] at HT
  have HV1 := Lib.hid hv1
  clear hv1
  have VN : Hid (∀ b1 b2 b3, VM b1 b2 b3 (.pointer (some ⟨xb, xo, none⟩)) (.pointer (some ⟨yb, yo, none⟩)) 45 #[.pointer (some ⟨mb, mo, none⟩)] (.bool b1) ∧ VM b1 b2 b3 (.pointer (some ⟨xb, xo, none⟩)) (.pointer (some ⟨yb, yo, none⟩)) 32 #[.pointer (some ⟨xb, xo, none⟩)] (.bool b2) ∧ VM b1 b2 b3 (.pointer (some ⟨xb, xo, none⟩)) (.pointer (some ⟨yb, yo, none⟩)) 32 #[.pointer (some ⟨yb, yo, none⟩)] (.bool b3)) := Lib.hid (fun b1 b2 b3 => ⟨⟨fun _ => rfl, fun e => absurd e (by decide)⟩, ⟨fun e => absurd e (by decide), fun _ => ⟨fun _ => rfl, fun e => by injection e with e; injection e with e; exact absurd e HPXY.out⟩⟩, ⟨fun e => absurd e (by decide), fun _ => ⟨fun e => by injection e with e; injection e with e; exact absurd e.symm HPXY.out, fun _ => rfl⟩⟩⟩)
  rw [← HN.out, ← HM.out] at hA
  cases e1 : modB (ls.map LayD.toLayP)
  · rw [e1] at KM
    have HRN : Hid (R = none) := Lib.hid (by rw [HR.out]; exact modelP_no (by rw [HG.out]; simp [e1]))
    clear e1
    obtain ⟨hc0, ⟨hc1, hc2, hc3⟩, hc4, hc5, hc6⟩ := CW.out v1 HT.out.below
    try clear CL
    try clear HLN
    try clear HQ
    clear HG HR HLS HX HY HN HM HL CW HPXY hi0 hz0 hzs hz2 hj0 jz0 jzs jz2
    go_enter Try.func33, Try.ntmps33
    go_upto_region 3 with fail
    rw [← HV1.out]
    refine wp_region_drawn (VM false false false (.pointer (some ⟨xb, xo, none⟩)) (.pointer (some ⟨yb, yo, none⟩))) (by kernel_rfl) (by kernel_rfl) ?_

    iterate 1 (first | (refine wset_skip (by rfl) (fun K hK => ?_); go_simp; refine hK _ ?_; clear hK K) | (refine wset_yes (by rfl) (fun K hK nq => ?_); go_simp; refine hK _ ?_; clear hK K))
    refine wset_yes (by rfl) (fun K hK nq => ?_)
    go_simp
    refine ⟨(KM.out _ (HT.out.move (below_drewN (Below.refl _ _) nq)).below).mono ?_, ?_⟩
    · rintro e w' ⟨rfl, hd⟩
      exact ⟨_, rfl, drawn_more hd, (VN.out false false false).1⟩
    rintro v hv
    obtain rfl := hv.1 rfl
    refine hK _ ?_
    clear hK K hv
    iterate 3 (first | (refine wset_skip (by rfl) (fun K hK => ?_); go_simp; refine hK _ ?_; clear hK K) | (refine wset_yes (by rfl) (fun K hK nq => ?_); go_simp; refine hK _ ?_; clear hK K))
    iterate 1 (first | (refine wset_skip (by rfl) (fun K hK => ?_); go_simp; refine hK _ ?_; clear hK K) | (refine wset_yes (by rfl) (fun K hK nq => ?_); go_simp; refine hK _ ?_; clear hK K))
    iterate 4 (first | (refine wset_skip (by rfl) (fun K hK => ?_); go_simp; refine hK _ ?_; clear hK K) | (refine wset_yes (by rfl) (fun K hK nq => ?_); go_simp; refine hK _ ?_; clear hK K))
    iterate 1 (first | (refine wset_skip (by rfl) (fun K hK => ?_); go_simp; refine hK _ ?_; clear hK K) | (refine wset_yes (by rfl) (fun K hK nq => ?_); go_simp; refine hK _ ?_; clear hK K))
    iterate 47 (first | (refine wset_skip (by rfl) (fun K hK => ?_); go_simp; refine hK _ ?_; clear hK K) | (refine wset_yes (by rfl) (fun K hK nq => ?_); go_simp; refine hK _ ?_; clear hK K))
    refine wset_nil ?_
    rintro w' ⟨q, rfl⟩
    have HT1 := Lib.hid (HT.out.move (below_drewN (Below.refl _ _) q))
    clear hc0 hc1 hc2 hc3 hc4 hc5 hc6 HT HV1 KM KX KY VN
    generalize v1.drewN q = v2 at HT1 ⊢
    go_wp2
    go_ret3
    exact ⟨_, _, _, _, _, _, false, rfl, Lib.hid ⟨by rw [HRN.out]; rfl, fun h => by cases h⟩, HT1.out.below⟩
  rw [e1] at KM
  cases e2 : tenB xr xc n
  · rw [e2] at KX
    have HRN : Hid (R = none) := Lib.hid (by rw [HR.out]; exact modelP_no (by rw [HG.out]; simp [e2]))
    clear e1 e2
    obtain ⟨hc0, ⟨hc1, hc2, hc3⟩, hc4, hc5, hc6⟩ := CW.out v1 HT.out.below
    try clear CL
    try clear HLN
    try clear HQ
    clear HG HR HLS HX HY HN HM HL CW HPXY hi0 hz0 hzs hz2 hj0 jz0 jzs jz2
    go_enter Try.func33, Try.ntmps33
    go_upto_region 3 with fail
    rw [← HV1.out]
    refine wp_region_drawn (VM true false false (.pointer (some ⟨xb, xo, none⟩)) (.pointer (some ⟨yb, yo, none⟩))) (by kernel_rfl) (by kernel_rfl) ?_

    iterate 1 (first | (refine wset_skip (by rfl) (fun K hK => ?_); go_simp; refine hK _ ?_; clear hK K) | (refine wset_yes (by rfl) (fun K hK nq => ?_); go_simp; refine hK _ ?_; clear hK K))
    refine wset_yes (by rfl) (fun K hK nq => ?_)
    go_simp
    refine ⟨(KM.out _ (HT.out.move (below_drewN (Below.refl _ _) nq)).below).mono ?_, ?_⟩
    · rintro e w' ⟨rfl, hd⟩
      exact ⟨_, rfl, drawn_more hd, (VN.out true false false).1⟩
    rintro v hv
    obtain rfl := hv.1 rfl
    refine hK _ ?_
    clear hK K hv
    iterate 3 (first | (refine wset_skip (by rfl) (fun K hK => ?_); go_simp; refine hK _ ?_; clear hK K) | (refine wset_yes (by rfl) (fun K hK nq => ?_); go_simp; refine hK _ ?_; clear hK K))
    refine wset_yes (by rfl) (fun K hK nq => ?_)
    go_simp
    refine ⟨(KX.out _ (HT.out.move (below_drewN (Below.refl _ _) nq)).below).mono ?_, ?_⟩
    · rintro e w' ⟨rfl, hd⟩
      exact ⟨_, rfl, drawn_more hd, (VN.out true false false).2.1⟩
    rintro v hv
    obtain rfl := (hv.2 rfl).1 rfl
    refine hK _ ?_
    clear hK K hv
    iterate 4 (first | (refine wset_skip (by rfl) (fun K hK => ?_); go_simp; refine hK _ ?_; clear hK K) | (refine wset_yes (by rfl) (fun K hK nq => ?_); go_simp; refine hK _ ?_; clear hK K))
    iterate 1 (first | (refine wset_skip (by rfl) (fun K hK => ?_); go_simp; refine hK _ ?_; clear hK K) | (refine wset_yes (by rfl) (fun K hK nq => ?_); go_simp; refine hK _ ?_; clear hK K))
    iterate 47 (first | (refine wset_skip (by rfl) (fun K hK => ?_); go_simp; refine hK _ ?_; clear hK K) | (refine wset_yes (by rfl) (fun K hK nq => ?_); go_simp; refine hK _ ?_; clear hK K))
    refine wset_nil ?_
    rintro w' ⟨q, rfl⟩
    have HT1 := Lib.hid (HT.out.move (below_drewN (Below.refl _ _) q))
    clear hc0 hc1 hc2 hc3 hc4 hc5 hc6 HT HV1 KM KX KY VN
    generalize v1.drewN q = v2 at HT1 ⊢
    go_wp2
    go_ret3
    exact ⟨_, _, _, _, _, _, false, rfl, Lib.hid ⟨by rw [HRN.out]; rfl, fun h => by cases h⟩, HT1.out.below⟩
  rw [e2] at KX
  cases e3 : tenB yr yc m
  · rw [e3] at KY
    have HRN : Hid (R = none) := Lib.hid (by rw [HR.out]; exact modelP_no (by rw [HG.out]; simp [e3]))
    clear e1 e2 e3
    obtain ⟨hc0, ⟨hc1, hc2, hc3⟩, hc4, hc5, hc6⟩ := CW.out v1 HT.out.below
    try clear CL
    try clear HLN
    try clear HQ
    clear HG HR HLS HX HY HN HM HL CW HPXY hi0 hz0 hzs hz2 hj0 jz0 jzs jz2
    go_enter Try.func33, Try.ntmps33
    go_upto_region 3 with fail
    rw [← HV1.out]
    refine wp_region_drawn (VM true true false (.pointer (some ⟨xb, xo, none⟩)) (.pointer (some ⟨yb, yo, none⟩))) (by kernel_rfl) (by kernel_rfl) ?_

    iterate 1 (first | (refine wset_skip (by rfl) (fun K hK => ?_); go_simp; refine hK _ ?_; clear hK K) | (refine wset_yes (by rfl) (fun K hK nq => ?_); go_simp; refine hK _ ?_; clear hK K))
    refine wset_yes (by rfl) (fun K hK nq => ?_)
    go_simp
    refine ⟨(KM.out _ (HT.out.move (below_drewN (Below.refl _ _) nq)).below).mono ?_, ?_⟩
    · rintro e w' ⟨rfl, hd⟩
      exact ⟨_, rfl, drawn_more hd, (VN.out true true false).1⟩
    rintro v hv
    obtain rfl := hv.1 rfl
    refine hK _ ?_
    clear hK K hv
    iterate 3 (first | (refine wset_skip (by rfl) (fun K hK => ?_); go_simp; refine hK _ ?_; clear hK K) | (refine wset_yes (by rfl) (fun K hK nq => ?_); go_simp; refine hK _ ?_; clear hK K))
    refine wset_yes (by rfl) (fun K hK nq => ?_)
    go_simp
    refine ⟨(KX.out _ (HT.out.move (below_drewN (Below.refl _ _) nq)).below).mono ?_, ?_⟩
    · rintro e w' ⟨rfl, hd⟩
      exact ⟨_, rfl, drawn_more hd, (VN.out true true false).2.1⟩
    rintro v hv
    obtain rfl := (hv.2 rfl).1 rfl
    refine hK _ ?_
    clear hK K hv
    iterate 4 (first | (refine wset_skip (by rfl) (fun K hK => ?_); go_simp; refine hK _ ?_; clear hK K) | (refine wset_yes (by rfl) (fun K hK nq => ?_); go_simp; refine hK _ ?_; clear hK K))
    refine wset_yes (by rfl) (fun K hK nq => ?_)
    go_simp
    refine ⟨(KY.out _ (HT.out.move (below_drewN (Below.refl _ _) nq)).below).mono ?_, ?_⟩
    · rintro e w' ⟨rfl, hd⟩
      exact ⟨_, rfl, drawn_more hd, (VN.out true true false).2.2⟩
    rintro v hv
    obtain rfl := (hv.2 rfl).2 rfl
    refine hK _ ?_
    clear hK K hv
    iterate 47 (first | (refine wset_skip (by rfl) (fun K hK => ?_); go_simp; refine hK _ ?_; clear hK K) | (refine wset_yes (by rfl) (fun K hK nq => ?_); go_simp; refine hK _ ?_; clear hK K))
    refine wset_nil ?_
    rintro w' ⟨q, rfl⟩
    have HT1 := Lib.hid (HT.out.move (below_drewN (Below.refl _ _) q))
    clear hc0 hc1 hc2 hc3 hc4 hc5 hc6 HT HV1 KM KX KY VN
    generalize v1.drewN q = v2 at HT1 ⊢
    go_wp2
    go_ret3
    exact ⟨_, _, _, _, _, _, false, rfl, Lib.hid ⟨by rw [HRN.out]; rfl, fun h => by cases h⟩, HT1.out.below⟩
  rw [e3] at KY
  by_cases e4 : xr = yr
  rotate_left
  · have f1 : (xr != yr) = true := by simpa using e4
    have f2 : (xr == yr) = false := by simpa using e4
    have HRN : Hid (R = none) := Lib.hid (by rw [HR.out]; exact modelP_no (by rw [HG.out]; simp [e4]))
    clear e1 e2 e3 e4
    obtain ⟨hc0, ⟨hc1, hc2, hc3⟩, hc4, hc5, hc6⟩ := CW.out v1 HT.out.below
    try clear CL
    try clear HLN
    try clear HQ
    clear HG HR HLS HX HY HN HM HL CW HPXY hi0 hz0 hzs hz2 hj0 jz0 jzs jz2
    go_enter Try.func33, Try.ntmps33
    go_upto_region 3 with fail
    rw [← HV1.out]
    refine wp_region_drawn (VM true true true (.pointer (some ⟨xb, xo, none⟩)) (.pointer (some ⟨yb, yo, none⟩))) (by kernel_rfl) (by kernel_rfl) ?_

    iterate 1 (first | (refine wset_skip (by rfl) (fun K hK => ?_); go_simp; refine hK _ ?_; clear hK K) | (refine wset_yes (by rfl) (fun K hK nq => ?_); go_simp; refine hK _ ?_; clear hK K))
    refine wset_yes (by rfl) (fun K hK nq => ?_)
    go_simp
    refine ⟨(KM.out _ (HT.out.move (below_drewN (Below.refl _ _) nq)).below).mono ?_, ?_⟩
    · rintro e w' ⟨rfl, hd⟩
      exact ⟨_, rfl, drawn_more hd, (VN.out true true true).1⟩
    rintro v hv
    obtain rfl := hv.1 rfl
    refine hK _ ?_
    clear hK K hv
    iterate 3 (first | (refine wset_skip (by rfl) (fun K hK => ?_); go_simp; refine hK _ ?_; clear hK K) | (refine wset_yes (by rfl) (fun K hK nq => ?_); go_simp; refine hK _ ?_; clear hK K))
    refine wset_yes (by rfl) (fun K hK nq => ?_)
    go_simp
    refine ⟨(KX.out _ (HT.out.move (below_drewN (Below.refl _ _) nq)).below).mono ?_, ?_⟩
    · rintro e w' ⟨rfl, hd⟩
      exact ⟨_, rfl, drawn_more hd, (VN.out true true true).2.1⟩
    rintro v hv
    obtain rfl := (hv.2 rfl).1 rfl
    refine hK _ ?_
    clear hK K hv
    iterate 4 (first | (refine wset_skip (by rfl) (fun K hK => ?_); go_simp; refine hK _ ?_; clear hK K) | (refine wset_yes (by rfl) (fun K hK nq => ?_); go_simp; refine hK _ ?_; clear hK K))
    refine wset_yes (by rfl) (fun K hK nq => ?_)
    go_simp
    refine ⟨(KY.out _ (HT.out.move (below_drewN (Below.refl _ _) nq)).below).mono ?_, ?_⟩
    · rintro e w' ⟨rfl, hd⟩
      exact ⟨_, rfl, drawn_more hd, (VN.out true true true).2.2⟩
    rintro v hv
    obtain rfl := (hv.2 rfl).2 rfl
    refine hK _ ?_
    clear hK K hv
    iterate 47 (first | (refine wset_skip (by rfl) (fun K hK => ?_); go_simp; refine hK _ ?_; clear hK K) | (refine wset_yes (by rfl) (fun K hK nq => ?_); go_simp; refine hK _ ?_; clear hK K))
    refine wset_nil ?_
    rintro w' ⟨q, rfl⟩
    have HT1 := Lib.hid (HT.out.move (below_drewN (Below.refl _ _) q))
    clear hc0 hc1 hc2 hc3 hc4 hc5 hc6 HT HV1 KM KX KY VN
    generalize v1.drewN q = v2 at HT1 ⊢
    go_wp2
    go_ret3
    exact ⟨_, _, _, _, _, _, false, rfl, Lib.hid ⟨by rw [HRN.out]; rfl, fun h => by cases h⟩, HT1.out.below⟩
  rw [e1, e2, e3, decide_eq_true e4] at hA
  cases hA
end Go.Proofs.Ytfdgngnnncmfiaa
/- The tape of a model: the reference, part B. No condition. -/
namespace Go.Proofs.Ytfdgngnnncmfiaa
open Go Go.RowKit
set_option linter.unusedVariables false
set_option linter.unusedSimpArgs false
set_option maxHeartbeats 16000000 in
set_option maxRecDepth 100000 in
theorem spec_l04Model_noB (w : World) (mb mo xb xo yb yo : Nat) (ma : Option Addr) (mk : Nat) (ls : List LayD) (xr xc yr yc : Int) (xa ya : Option Addr) (xk yk : Nat) (xs ys : List Nat) (num : Nat) (hnum : num < 4294967296)
    (hm : w.cell? ⟨mb, mo, none⟩ = some (.slice ma ls.length mk)) (hls : SeeR layR w ma mk ls)
    (hx0 : w.cell? ⟨xb, xo, none⟩ = some (.int .i64 xr)) (hx1 : w.cell? ⟨xb, xo + 1, none⟩ = some (.int .i64 xc)) (hx2 : w.cell? ⟨xb, xo + 2, none⟩ = some (.slice xa xs.length xk)) (hx : F32s w xa xk xs)
    (hy0 : w.cell? ⟨yb, yo, none⟩ = some (.int .i64 yr)) (hy1 : w.cell? ⟨yb, yo + 1, none⟩ = some (.int .i64 yc)) (hy2 : w.cell? ⟨yb, yo + 2, none⟩ = some (.slice ya ys.length yk)) (hy : F32s w ya yk ys) (hxy : xb ≠ yb) (hA : (modB (ls.map LayD.toLayP) && (tenB xr xc xs.length && (tenB yr yc ys.length && decide (xr = yr)))) = true) (hB : (decide (xc = (layAt (ls.map LayD.toLayP) 0).i) && decide (yc = (layAt (ls.map LayD.toLayP) (ls.length - 1)).o)) = false) :
    Calls Try.prog 33 #[.pointer (some ⟨mb, mo, none⟩), .pointer (some ⟨xb, xo, none⟩), .pointer (some ⟨yb, yo, none⟩), .float .f32 num] w (ModOut (modelP (ls.map fun l => l.toLayP.can) ⟨xr, xc, xs.map (cn .f32)⟩ ⟨yr, yc, ys.map (cn .f32)⟩ (cn .f32 num)) w) := by
  obtain ⟨i0, hi0, hz0, hzs, hz2⟩ := info_parts info_op
  obtain ⟨j0, hj0, jz0, jzs, jz2⟩ := info_parts info_i64
  obtain ⟨R, hR⟩ : ∃ R, R = modelP (ls.map fun l => l.toLayP.can) ⟨xr, xc, xs.map (cn .f32)⟩ ⟨yr, yc, ys.map (cn .f32)⟩ (cn .f32 num) := ⟨_, rfl⟩
  rw [← hR]
  have HR := Lib.hid hR
  have hgood : goodM (ls.map fun l => l.toLayP.can) ⟨xr, xc, xs.map (cn .f32)⟩ ⟨yr, yc, ys.map (cn .f32)⟩ = (modB (ls.map LayD.toLayP) && (tenB xr xc xs.length && (tenB yr yc ys.length && (decide (xr = yr) && (decide (xc = (layAt (ls.map LayD.toLayP) 0).i) && decide (yc = (layAt (ls.map LayD.toLayP) (ls.length - 1)).o)))))) := by
    have e : (ls.map fun l => l.toLayP.can) = (ls.map LayD.toLayP).map LayP.can := by rw [List.map_map]; rfl
    unfold goodM
    rw [e, modB_can, (layAt_can _ _).1, (layAt_can _ _).2]
    simp only [List.length_map]
  have HG := Lib.hid hgood
  clear hR hgood
  obtain ⟨n, hN⟩ : ∃ n, n = xs.length := ⟨_, rfl⟩
  obtain ⟨m, hM⟩ : ∃ m, m = ys.length := ⟨_, rfl⟩
  obtain ⟨L, hL⟩ : ∃ L, L = ls.length := ⟨_, rfl⟩
  rw [← hN] at hx2 HG
  rw [← hM] at hy2 HG
  rw [← hL] at hm HG
  have HN := Lib.hid hN; have HM := Lib.hid hM; have HL := Lib.hid hL
  have hnm := Nat.le_trans hx.len hx.cap
  have hmm := Nat.le_trans hy.len hy.cap
  rw [← hN] at hnm
  rw [← hM] at hmm
  have HLS := Lib.hid hls; have HX := Lib.hid hx; have HY := Lib.hid hy
  have CW : Hid (∀ W, Below w.heap.size w W → W.cell? ⟨mb, mo, none⟩ = some (.slice ma L mk) ∧ (W.cell? ⟨xb, xo, none⟩ = some (.int .i64 xr) ∧ W.cell? ⟨xb, xo + 1, none⟩ = some (.int .i64 xc) ∧ W.cell? ⟨xb, xo + 2, none⟩ = some (.slice xa n xk)) ∧ W.cell? ⟨yb, yo, none⟩ = some (.int .i64 yr) ∧ W.cell? ⟨yb, yo + 1, none⟩ = some (.int .i64 yc) ∧ W.cell? ⟨yb, yo + 2, none⟩ = some (.slice ya m yk)) := Lib.hid (fun W hb => by
    have f : ∀ {p : Addr} {v : Value}, w.cell? p = some v → W.cell? p = some v := fun h => (hb.cell (World.block_lt_of_cell? _ _ h)).trans h
    exact ⟨f hm, ⟨f hx0, f hx1, f hx2⟩, f hy0, f hy1, f hy2⟩)
  have KM := Lib.hid (fun W (hb : Below w.heap.size w W) => spec_l03Is W mb mo ma mk ls (HLS.out.below hb) (by rw [← HL.out]; exact (CW.out W hb).1))
  have KX := Lib.hid (fun W (hb : Below w.heap.size w W) => spec_l02Is W xb xo xr xc xa n xk hnm (CW.out W hb).2.1.1 (CW.out W hb).2.1.2.1 (CW.out W hb).2.1.2.2)
  have KY := Lib.hid (fun W (hb : Below w.heap.size w W) => spec_l02Is W yb yo yr yc ya m yk hmm (CW.out W hb).2.2.1 (CW.out W hb).2.2.2.1 (CW.out W hb).2.2.2.2)
  have hpxy : (.pointer (some ⟨xb, xo, none⟩) : Value) ≠ .pointer (some ⟨yb, yo, none⟩) := by intro e; injection e with e; injection e with e; injection e with e; exact hxy e
  have HPXY := Lib.hid hpxy
  clear hm hls hx0 hx1 hx2 hx hy0 hy1 hy2 hy hN hM hL hxy hnm hmm hpxy
  have hts := TN.start w
  have HT := Lib.hid hts
  clear hts
  obtain ⟨v1, hv1⟩ : ∃ W, W = (w.alloc (.cells #[] 68)).alloc (.cells #[] 2) := ⟨_, rfl⟩
  rw [← hv1] at HT
  have HV1 := Lib.hid hv1
  clear hv1
  have VN : Hid (∀ b1 b2 b3, VM b1 b2 b3 (.pointer (some ⟨xb, xo, none⟩)) (.pointer (some ⟨yb, yo, none⟩)) 45 #[.pointer (some ⟨mb, mo, none⟩)] (.bool b1) ∧ VM b1 b2 b3 (.pointer (some ⟨xb, xo, none⟩)) (.pointer (some ⟨yb, yo, none⟩)) 32 #[.pointer (some ⟨xb, xo, none⟩)] (.bool b2) ∧ VM b1 b2 b3 (.pointer (some ⟨xb, xo, none⟩)) (.pointer (some ⟨yb, yo, none⟩)) 32 #[.pointer (some ⟨yb, yo, none⟩)] (.bool b3)) := Lib.hid (fun b1 b2 b3 => ⟨⟨fun _ => rfl, fun e => absurd e (by decide)⟩, ⟨fun e => absurd e (by decide), fun _ => ⟨fun _ => rfl, fun e => by injection e with e; injection e with e; exact absurd e HPXY.out⟩⟩, ⟨fun e => absurd e (by decide), fun _ => ⟨fun e => by injection e with e; injection e with e; exact absurd e.symm HPXY.out, fun _ => rfl⟩⟩⟩)
  rw [← HN.out, ← HM.out] at hA
  rw [← HL.out] at hB
  simp only [Bool.and_eq_true, decide_eq_true_eq] at hA
  obtain ⟨e1, e2, e3, e4⟩ := hA
  rw [e1] at KM
  rw [e2] at KX
  rw [e3] at KY
  subst e4
  have hln := modB_len e1
  rw [List.length_map, ← HL.out] at hln
  obtain ⟨l0, hl0⟩ := getElem?_lt (show 0 < ls.length by rw [← HL.out]; omega)
  obtain ⟨q, hq⟩ : ∃ q, q = L - 1 := ⟨_, rfl⟩
  obtain ⟨lq, hlq⟩ := getElem?_lt (show q < ls.length by rw [← HL.out]; omega)
  have a0 : (layAt (ls.map LayD.toLayP) 0).i = l0.i := by rw [layAt_some (l := l0.toLayP) (by rw [List.getElem?_map, hl0]; rfl)]
  have aq : (layAt (ls.map LayD.toLayP) (L - 1)).o = lq.o := by rw [← hq, layAt_some (l := lq.toLayP) (by rw [List.getElem?_map, hlq]; rfl)]
  rw [a0, aq] at HG hB
  obtain ⟨lb, loff, hma, hlbl, ⟨-, c01, -, -, -⟩, -, -⟩ := lay_spot HLS.out hl0
  obtain ⟨lb2, loff2, hma2, -, ⟨-, -, cq2, -, -⟩, -, -⟩ := lay_spot HLS.out hlq
  rw [hma] at hma2; cases hma2
  subst hma
  obtain ⟨li, hli⟩ : ∃ x, x = l0.i := ⟨_, rfl⟩
  obtain ⟨lo, hlo⟩ : ∃ x, x = lq.o := ⟨_, rfl⟩
  rw [← hli] at c01 HG hB
  rw [← hlo] at cq2 HG hB
  have hq0 : (0 : Int) ≤ (q : Int) := by omega
  have hqL : (q : Int) < (L : Int) := by omega
  have hqn : q < L := by omega
  have hL0 : 0 < L := by omega
  have hwq : IntKind.i64.wrap ((L : Int) - 1) = (q : Int) := by rw [IntKind.wrap_i64]; omega
  have CL : Hid (∀ W, Below w.heap.size w W → W.cell? ⟨lb, loff + 1, none⟩ = some (.int .i64 li) ∧ W.cell? ⟨lb, loff + q * 5 + 2, none⟩ = some (.int .i64 lo)) := Lib.hid (fun W hb => ⟨(hb.cell (p := ⟨lb, loff + 1, none⟩) hlbl).trans (by simpa using c01), (hb.cell (p := ⟨lb, loff + q * 5 + 2, none⟩) hlbl).trans cq2⟩)
  have HLN := Lib.hid hln; have HQ := Lib.hid hq
  clear c01 cq2 a0 aq hl0 hlq hli hlo hlbl hln hq
  obtain ⟨z1, z2⟩ := CL.out v1 HT.out.below
  by_cases e5 : xc = li
  rotate_left
  · have f1 : (xc != li) = true := by simpa using e5
    have f2 : (xc == li) = false := by simpa using e5
    have HRN : Hid (R = none) := Lib.hid (by rw [HR.out]; exact modelP_no (by rw [HG.out]; simp [e5]))
    clear e1 e2 e3 e5
    obtain ⟨hc0, ⟨hc1, hc2, hc3⟩, hc4, hc5, hc6⟩ := CW.out v1 HT.out.below
    try clear CL
    try clear HLN
    try clear HQ
    clear HG HR HLS HX HY HN HM HL CW HPXY hi0 hz0 hzs hz2 hj0 jz0 jzs jz2
    go_enter Try.func33, Try.ntmps33
    go_upto_region 3 with fail
    rw [← HV1.out]
    refine wp_region_drawn (VM true true true (.pointer (some ⟨xb, xo, none⟩)) (.pointer (some ⟨yb, yo, none⟩))) (by kernel_rfl) (by kernel_rfl) ?_

    iterate 1 (first | (refine wset_skip (by rfl) (fun K hK => ?_); go_simp; refine hK _ ?_; clear hK K) | (refine wset_yes (by rfl) (fun K hK nq => ?_); go_simp; refine hK _ ?_; clear hK K))
    refine wset_yes (by rfl) (fun K hK nq => ?_)
    go_simp
    refine ⟨(KM.out _ (HT.out.move (below_drewN (Below.refl _ _) nq)).below).mono ?_, ?_⟩
    · rintro e w' ⟨rfl, hd⟩
      exact ⟨_, rfl, drawn_more hd, (VN.out true true true).1⟩
    rintro v hv
    obtain rfl := hv.1 rfl
    refine hK _ ?_
    clear hK K hv
    iterate 3 (first | (refine wset_skip (by rfl) (fun K hK => ?_); go_simp; refine hK _ ?_; clear hK K) | (refine wset_yes (by rfl) (fun K hK nq => ?_); go_simp; refine hK _ ?_; clear hK K))
    refine wset_yes (by rfl) (fun K hK nq => ?_)
    go_simp
    refine ⟨(KX.out _ (HT.out.move (below_drewN (Below.refl _ _) nq)).below).mono ?_, ?_⟩
    · rintro e w' ⟨rfl, hd⟩
      exact ⟨_, rfl, drawn_more hd, (VN.out true true true).2.1⟩
    rintro v hv
    obtain rfl := (hv.2 rfl).1 rfl
    refine hK _ ?_
    clear hK K hv
    iterate 4 (first | (refine wset_skip (by rfl) (fun K hK => ?_); go_simp; refine hK _ ?_; clear hK K) | (refine wset_yes (by rfl) (fun K hK nq => ?_); go_simp; refine hK _ ?_; clear hK K))
    refine wset_yes (by rfl) (fun K hK nq => ?_)
    go_simp
    refine ⟨(KY.out _ (HT.out.move (below_drewN (Below.refl _ _) nq)).below).mono ?_, ?_⟩
    · rintro e w' ⟨rfl, hd⟩
      exact ⟨_, rfl, drawn_more hd, (VN.out true true true).2.2⟩
    rintro v hv
    obtain rfl := (hv.2 rfl).2 rfl
    refine hK _ ?_
    clear hK K hv
    iterate 47 (first | (refine wset_skip (by rfl) (fun K hK => ?_); go_simp; refine hK _ ?_; clear hK K) | (refine wset_yes (by rfl) (fun K hK nq => ?_); go_simp; refine hK _ ?_; clear hK K))
    refine wset_nil ?_
    rintro w' ⟨q, rfl⟩
    have HT1 := Lib.hid (HT.out.move (below_drewN (Below.refl _ _) q))
    clear hc0 hc1 hc2 hc3 hc4 hc5 hc6 HT HV1 KM KX KY VN
    generalize v1.drewN q = v2 at HT1 ⊢
    go_wp2
    go_ret3
    exact ⟨_, _, _, _, _, _, false, rfl, Lib.hid ⟨by rw [HRN.out]; rfl, fun h => by cases h⟩, HT1.out.below⟩
  subst e5
  rw [decide_eq_true rfl, Bool.true_and] at hB
  by_cases e6 : yc = lo
  rotate_left
  · have f1 : (yc != lo) = true := by simpa using e6
    have f2 : (yc == lo) = false := by simpa using e6
    have HRN : Hid (R = none) := Lib.hid (by rw [HR.out]; exact modelP_no (by rw [HG.out]; simp [e6]))
    clear e1 e2 e3 e6
    obtain ⟨hc0, ⟨hc1, hc2, hc3⟩, hc4, hc5, hc6⟩ := CW.out v1 HT.out.below
    try clear CL
    try clear HLN
    try clear HQ
    clear HG HR HLS HX HY HN HM HL CW HPXY hi0 hz0 hzs hz2 hj0 jz0 jzs jz2
    go_enter Try.func33, Try.ntmps33
    go_upto_region 3 with fail
    rw [← HV1.out]
    refine wp_region_drawn (VM true true true (.pointer (some ⟨xb, xo, none⟩)) (.pointer (some ⟨yb, yo, none⟩))) (by kernel_rfl) (by kernel_rfl) ?_

    iterate 1 (first | (refine wset_skip (by rfl) (fun K hK => ?_); go_simp; refine hK _ ?_; clear hK K) | (refine wset_yes (by rfl) (fun K hK nq => ?_); go_simp; refine hK _ ?_; clear hK K))
    refine wset_yes (by rfl) (fun K hK nq => ?_)
    go_simp
    refine ⟨(KM.out _ (HT.out.move (below_drewN (Below.refl _ _) nq)).below).mono ?_, ?_⟩
    · rintro e w' ⟨rfl, hd⟩
      exact ⟨_, rfl, drawn_more hd, (VN.out true true true).1⟩
    rintro v hv
    obtain rfl := hv.1 rfl
    refine hK _ ?_
    clear hK K hv
    iterate 3 (first | (refine wset_skip (by rfl) (fun K hK => ?_); go_simp; refine hK _ ?_; clear hK K) | (refine wset_yes (by rfl) (fun K hK nq => ?_); go_simp; refine hK _ ?_; clear hK K))
    refine wset_yes (by rfl) (fun K hK nq => ?_)
    go_simp
    refine ⟨(KX.out _ (HT.out.move (below_drewN (Below.refl _ _) nq)).below).mono ?_, ?_⟩
    · rintro e w' ⟨rfl, hd⟩
      exact ⟨_, rfl, drawn_more hd, (VN.out true true true).2.1⟩
    rintro v hv
    obtain rfl := (hv.2 rfl).1 rfl
    refine hK _ ?_
    clear hK K hv
    iterate 4 (first | (refine wset_skip (by rfl) (fun K hK => ?_); go_simp; refine hK _ ?_; clear hK K) | (refine wset_yes (by rfl) (fun K hK nq => ?_); go_simp; refine hK _ ?_; clear hK K))
    refine wset_yes (by rfl) (fun K hK nq => ?_)
    go_simp
    refine ⟨(KY.out _ (HT.out.move (below_drewN (Below.refl _ _) nq)).below).mono ?_, ?_⟩
    · rintro e w' ⟨rfl, hd⟩
      exact ⟨_, rfl, drawn_more hd, (VN.out true true true).2.2⟩
    rintro v hv
    obtain rfl := (hv.2 rfl).2 rfl
    refine hK _ ?_
    clear hK K hv
    iterate 47 (first | (refine wset_skip (by rfl) (fun K hK => ?_); go_simp; refine hK _ ?_; clear hK K) | (refine wset_yes (by rfl) (fun K hK nq => ?_); go_simp; refine hK _ ?_; clear hK K))
    refine wset_nil ?_
    rintro w' ⟨q, rfl⟩
    have HT1 := Lib.hid (HT.out.move (below_drewN (Below.refl _ _) q))
    clear hc0 hc1 hc2 hc3 hc4 hc5 hc6 HT HV1 KM KX KY VN
    generalize v1.drewN q = v2 at HT1 ⊢
    go_wp2
    go_ret3
    exact ⟨_, _, _, _, _, _, false, rfl, Lib.hid ⟨by rw [HRN.out]; rfl, fun h => by cases h⟩, HT1.out.below⟩
  rw [decide_eq_true e6] at hB
  cases hB
end Go.Proofs.Ytfdgngnnncmfiaa
