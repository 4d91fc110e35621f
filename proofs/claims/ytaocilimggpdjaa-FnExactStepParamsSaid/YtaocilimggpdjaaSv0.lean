/- A step of all parameters of the kind 0: the reference's. No condition. -/
import Derived.Test.YtaocilimggpdjaaSvh
namespace Go.Proofs.Ytaocilimggpdjaa
open Go Go.RowKit
set_option linter.unusedVariables false
set_option linter.unusedSimpArgs false
set_option maxRecDepth 100000 in
set_option maxHeartbeats 16000000 in
theorem spec_l05Step0 (w : World) {lo hi : Nat} (g0 : Nat) (k : Int) (hk : k = 0) (r b1 b2 ep : Nat) (hO : OptAt w g0 k r b1 b2 ep) (pa : Option Addr) (pc n : Nat) (ps : List Nat) (hp : F32s w pa pc ps) (hpz : pa = none → pc = 0) (hpn : n = ps.length) (ga : Option Addr) (gc : Nat) (gs : List Nat) (hg : F32s w ga gc gs) (hgn : n = gs.length) (hn : n ≤ 256)
    (sa : Option Addr) (sc : Nat) (vs : List Value) (Xs : List (List Nat)) (h : RepFF w lo hi sa (slotsN k) sc vs Xs) (hX : ∀ j, j < slotsN k → (Xs.getD j []).length = n) (s : Nat) (hs : s ≤ 999) :
    Calls Try.prog 79 #[.pointer (some ⟨g0, 0, none⟩), .slice pa n pc, .slice ga n gc, .slice sa (slotsN k) sc, .int .i64 s] w
      (SpecPost w (slotsN k) n (stO k r b1 b2 ep s ps gs Xs) (stU k b1 b2 gs Xs) (stV b2 gs Xs)) := by
  obtain ⟨j0, hj2, hy0, hy1, hy2⟩ := info_parts info_f32s
  have hSl := slotsN_le k
  have hA := rows_start hX
  have hP := eq_listOf (ps.map (cn .f32))
  rw [List.length_map, ← hpn] at hP
  have hP' : ps.map (cn .f32) = listOf n (fun i => cn .f32 (ps.getD i 0)) := by
    rw [hP]; exact listOf_congr fun i hi => cn_getD ps i
  obtain ⟨A, eA⟩ : ∃ A, A = stA Xs := ⟨_, rfl⟩
  obtain ⟨B, eB⟩ : ∃ B, B = stB Xs := ⟨_, rfl⟩
  obtain ⟨U, eU⟩ : ∃ U, U = stU k b1 b2 gs Xs := ⟨_, rfl⟩
  obtain ⟨V, eV⟩ : ∃ V, V = stV b2 gs Xs := ⟨_, rfl⟩
  obtain ⟨O, eO⟩ : ∃ O, O = stO k r b1 b2 ep s ps gs Xs := ⟨_, rfl⟩
  obtain ⟨P, eP⟩ : ∃ P : Nat → Nat, P = fun i => cn .f32 (ps.getD i 0) := ⟨_, rfl⟩
  have hU : ∀ i, U i = upE k (cn .f32 b1) (cn .f32 b2) (cn .f32 (gs.getD i 0)) (A i) := fun i => by rw [eU, eA]; rfl
  have hV : ∀ i, V i = upF (cn .f32 b2) (cn .f32 (gs.getD i 0)) (B i) := fun i => by rw [eV, eB]; rfl
  have hOu : ∀ i, O i = outE k (cn .f32 r) (cn .f32 ep) (stF b1 s) (stF b2 s) (P i) (cn .f32 (gs.getD i 0)) (U i) (V i) := fun i => by rw [eO, eU, eV, eP]; rfl
  rw [← eO, ← eU, ← eV]
  rw [← eA, ← eB] at hA
  rw [← eP] at hP'
  have kow := fun W hW => spec_l02Own W pa pc ps hW hpz (by omega)
  rw [← hpn] at kow
  obtain ⟨S, eS⟩ : ∃ S, S = slotsN k := ⟨_, rfl⟩
  have HSK := Lib.hid eS
  rw [← eS] at hA h hSl hX ⊢
  have hxn : ∀ j, j < S → (Xs.getD j []).length ≤ 1048576 := fun j hj => by rw [hX j hj]; omega
  have HOU := Lib.hid hOu; have HU := Lib.hid hU; have HV := Lib.hid hV; have HA := Lib.hid hA; have KOW := Lib.hid kow; have H := Lib.hid h; have HXN := Lib.hid hxn
  have HGN := Lib.hid hgn; have HOP := Lib.hid hO; have HPL := Lib.hid hP'; have hplt := Lib.hid hp.lt
  have hwr : IntKind.i64.wrap ((s : Int) + 1) = (s : Int) + 1 := IntWalk.i64_in _ (by omega)
  clear eA eB eU eV eO eP hU hV hOu hA kow h hX eS hpn hgn hP hP' hO hxn
  go_enter Try.func79, Try.ntmps79
  go_wp2_with fail
  refine (KOW.out _ hp).mono ?_
  rintro e w1 ⟨v1, rfl, ho1, hb1⟩
  obtain ⟨a1, c1, rfl, hr1⟩ := RepF.of_owns ho1 hplt.out
  have hs1 := hb1.size
  have HR1 := Lib.hid hr1; have HB1 := Lib.hid hb1
  clear KOW ho1 hr1 hb1 hp
  go_wp2
  go_loopw [13, 14] (fun v i wr => ∃ j : Nat, i = .int .i64 j ∧ j ≤ S ∧ ∃ ad cap us, v = .slice ad j cap ∧ RepFF wr w1.heap.size wr.heap.size ad j cap us (Xs.take j) ∧ Below w1.heap.size w1 wr ∧ w1.heap.size ≤ wr.heap.size) (fun _ i _ => S - (intOf i).toNat)
  case atStart =>
    refine ⟨0, rfl, Nat.zero_le _, _, _, [], rfl, ⟨Row.mk' (World.ownsRow_made _ _ _ (Nat.le_refl _) (Nat.zero_le _) rfl), rfl, (fun i hi => by omega), (fun i j hi => by omega)⟩, below1 _ _, by simp⟩
  case round =>
    obtain ⟨j, rfl, hj, ad, cap, us, rfl, hr, hb, hbs⟩ := hrel
    have HR := Lib.hid hr; have HB := Lib.hid hb; clear hr hb
    by_cases hlt : j < S
    · have hbw := HB1.out.trans (HB.out.mono hs1)
      have hkx : j < Xs.length := by rw [H.out.len]; exact hlt
      obtain ⟨ai, ci, hvk, hfo⟩ := H.out.inn j hlt
      obtain ⟨b, rfl, _, hbl, hgc, _⟩ := H.out.addr (by omega)
      have hgk := hgc j hlt
      rw [hvk] at hgk
      have hcell : wr.cell? ⟨b, j, none⟩ = some (.slice ai (Xs.getD j []).length ci) := (hbw.cell (p := ⟨b, j, none⟩) hbl).trans hgk
      have hf2 := hfo.below hbw
      have hnil := hf2.nilcap
      obtain ⟨X, hX⟩ : ∃ X, X = Xs.getD j [] := ⟨_, rfl⟩
      have hi3 := HXN.out j hlt
      rw [← hX] at hcell hf2 hi3
      have hlt4 := hf2.lt
      have k1 := fun W hW => spec_l02Own W ai ci X hW hnil hi3
      have hfa := hf2.arg
      obtain ⟨m, hm⟩ : ∃ m, m = X.length := ⟨_, rfl⟩
      rw [← hm] at hcell k1
      have hbsz : b < wr.heap.size := Nat.lt_of_lt_of_le hbl hbw.size
      have HX := Lib.hid hX; have K1 := Lib.hid k1; have HFA := Lib.hid hfa; have HL4 := Lib.hid hlt4
      clear hX k1 hm hf2 hi3 hgc hgk hvk hfo hfa hlt4 hnil hbw
      go_wp2_with fail
      refine (K1.out _ HFA.out).mono ?_
      rintro e w2 ⟨v2, rfl, ho2, hb2⟩
      obtain ⟨a2, c2, rfl, hr2⟩ := RepF.of_owns ho2 HL4.out
      have hown := owns_below HR.out.row.own hb2
      have hs2 := hb2.size
      have HR2 := Lib.hid hr2; have HB2 := Lib.hid hb2
      clear ho2 hr2 hb2
      go_wp2_with (at_builtin; refine wp_appG rfl _ _ 26 rfl w1.heap.size j0 (.slice none 0 0) 1 24 Try.underlying26 hj2 hy0 hy1 hy2 rfl (by decide) rfl (one_cell _ rfl) _ _ _ rfl hown rfl ?c3 ?c4 ?c5 ?_)
      case c3 => unfold maxLen; omega
      case c4 => omega
      case c5 => omega
      intro v' w9 hown1 hgr1 hb9 hbs9
      obtain ⟨ad', cap', rfl, hr9⟩ := HR.out.snoc hbs HB2.out HR2.out hown1 hgr1
      have hb9' := (HB.out.trans (HB2.out.mono hbs)).trans hb9
      have HR9 := Lib.hid hr9; have HB9 := Lib.hid hb9'
      clear hown hown1 hgr1 hb9 hr9 hb9'
      go_wp2
      go_roundw
      case rel =>
        refine ⟨j + 1, by go_num, hlt, ad', cap', us ++ [.slice a2 m c2], rfl, ?_, HB9.out, hbs9⟩
        have : Xs.take (j + 1) = Xs.take j ++ [X] := by
          rw [List.take_succ_eq_append_getElem hkx, HX.out, List.getD_eq_getElem?_getD, List.getElem?_eq_getElem hkx]; rfl
        rw [this]
        exact HR9.out
      case measure => simp [intOf]; omega
    · obtain rfl : S = j := by omega
      obtain ⟨wk, hwk⟩ : ∃ x, x = wr := ⟨_, rfl⟩
      subst hwk
      have hr0 := HR.out
      rw [List.take_of_length_le (by rw [H.out.len]; exact Nat.le_refl _)] at hr0
      have HRK := Lib.hid hr0; clear hr0 HR hlt hj
      have HBW := Lib.hid (HB1.out.trans (HB.out.mono hs1))
      have HOW := Lib.hid (HOP.out.below HBW.out HOP.out.lt)
      have o0 := HOW.out.c0; have o1 := HOW.out.c1; have o2 := HOW.out.c2; have o3 := HOW.out.c3; have o4 := HOW.out.c4
      go_wp2_with fail
      refine (spec_l05Power b1 ((s : Int) + 1) _ (by omega) (by omega)).mono ?_
      rintro e w2 ⟨y1, rfl, hy1, q1, rfl⟩
      replace hy1 : cn .f32 y1 = powF (cn .f32 b1) (s + 1) := hy1
      have HY1 := Lib.hid hy1; clear hy1
      go_wp2_with fail
      refine (spec_l05Power b2 ((s : Int) + 1) _ (by omega) (by omega)).mono ?_
      rintro e w2 ⟨y2, rfl, hy2, q2, rfl⟩
      replace hy2 : cn .f32 y2 = powF (cn .f32 b2) (s + 1) := hy2
      have HY2 := Lib.hid hy2; clear hy2
      generalize hf1 : fbits BinOp.sub FloatKind.f32 _ y1 _ = fs
      have hF1 : cn .f32 fs = stF b1 s := by rw [← hf1, cn_fbits, cn_ONE, HY1.out]; rfl
      have HF1 := Lib.hid hF1
      clear hf1 hF1 hwr o0 o1 o2 o3 o4
      go_wp2
      generalize hf2 : fbits BinOp.sub FloatKind.f32 _ y2 _ = sn
      have hF2 : cn .f32 sn = stF b2 s := by rw [← hf2, cn_fbits, cn_ONE, HY2.out]; rfl
      have HF2 := Lib.hid hF2
      clear hF2 hf2 HOW
      go_loopw [55] (fun i wz => ∃ j : Nat, i = .int .i64 j ∧ j ≤ n ∧ ∃ zs Ys, RepF wz w.heap.size w1.heap.size a1 n c1 zs ∧ zs.map (cn .f32) = listOf n (stepf j O P) ∧ RepFF wz w1.heap.size wk.heap.size ad S cap us Ys ∧ RowsAre S n (stepf j U A) (stepf j V B) Ys ∧ Below w.heap.size w wz ∧ wk.heap.size ≤ wz.heap.size) (fun i _ => n - (intOf i).toNat)
      case atStart =>
        refine ⟨0, rfl, Nat.zero_le _, ps, Xs, ((HR1.out.belowHi HB.out (Nat.le_refl _)).below (below_drewN (Below.refl _ _) _)), by rw [stepf_zero]; exact HPL.out, HRK.out.below (below_drewN (Below.refl _ _) _), by rw [stepf_zero, stepf_zero]; exact HA.out, below_drewN HBW.out _, Nat.le_refl _⟩
      case round =>
        obtain ⟨j, rfl, hj, zs, Ys, hz, hzc, hr, hra, hb, hbs2⟩ := hrel
        have HZ := Lib.hid hz; have HZC := Lib.hid hzc; have HRY := Lib.hid hr; have HRA := Lib.hid hra; have HBZ := Lib.hid hb
        clear hz hzc hr hra hb HRK HR1
        by_cases hlt : j < n
        · obtain ⟨bg, ogg, rfl, hbg, hcg⟩ := hg.spot (k := j) (by rw [← HGN.out]; exact hlt)
          have hcg1 : wr.cell? ⟨bg, ogg + j, none⟩ = some (.float .f32 (gs.getD j 0)) := (HBZ.out.cell (p := ⟨bg, ogg + j, none⟩) hbg).trans (hcg j (by rw [← HGN.out]; exact hlt))
          have hU := HU.out j; have hV := HV.out j; have hO := HOU.out j
          obtain ⟨gj, hgx⟩ : ∃ g, g = gs.getD j 0 := ⟨_, rfl⟩
          rw [← hgx] at hcg1 hU hV hO
          obtain ⟨og, rfl, hlo, hcell, hfr, _⟩ := HZ.out.open (by omega)
          have hhi := HZ.out.row.top og rfl
          have hc := hcell j hlt
          have hf := hfr j
          obtain ⟨x, hx⟩ : ∃ x, x = zs.getD j 0 := ⟨_, rfl⟩
          rw [← hx] at hc
          have hxc : cn .f32 x = P j := by rw [hx, cn_at HZC.out hlt, stepf_at]
          rw [← hxc] at hO
          have HOZ := HOP.out.below HBZ.out HOP.out.lt
          have o0 := HOZ.c0; have o1 := HOZ.c1; have o2 := HOZ.c2; have o3 := HOZ.c3; have o4 := HOZ.c4
          have HUj := Lib.hid hU; have HVj := Lib.hid hV; have HOj := Lib.hid hO
          have hlt0 := HOP.out.lt
          have HOZ := Lib.hid HOZ
          clear hU hV hO hgx hx hxc hcg hcell hfr
          subst hk
          have hS0 : S = 0 := HSK.out
          have HS0 := Lib.hid hS0; clear hS0
          go_wp2
          refine wp_region_tail 11 (fun f args u => False) (by kernel_rfl) (by kernel_rfl) ?_
          repeat (refine wset_step (fun K hK nq => ?_); go_simp; refine hK _ ?_; clear hK K)
          refine wset_nil ?_
          rintro w' ⟨q, rfl⟩
          go_wp2
          go_roundw
          case rel =>
            refine ⟨j + 1, by go_num, hlt, zs.set j _, Ys, RepF.setAt (HZ.out.below (below_drewN (Below.refl _ _) _)) j _ (fbits_lt _ .f32 _ _ _) (by omega), set_listOf HZC.out ?_, (HRY.out.below (below_drewN (Below.refl _ _) _)).touch (Touch.setCell hlo hhi) (.inr (Nat.le_refl _)), ⟨HRA.out.all, fun h => by have := HS0.out; omega, fun h => by have := HS0.out; omega⟩, (below_drewN HBZ.out _).setCell hlo _, Nat.le_trans hbs2 (Nat.le_of_eq (by rw [size_set, drewN_size]))⟩
            rw [cn_fbits, cn_fbits, HOj.out]; rfl
          case measure => simp [intOf]; omega
        · obtain rfl : n = j := by omega
          go_wp2
          go_ret2
          have hA9 := HRA.out
          exact ⟨a1, c1, zs, ad, cap, us, Ys, w1.heap.size, rfl, HZ.out, by rw [HZC.out, listOf_done], HRY.out.bounds (Nat.le_refl _) hbs2, ⟨hA9.all, fun h => by rw [hA9.one h, listOf_done], fun h => by rw [hA9.two h, listOf_done]⟩, hs1, by omega, HBZ.out⟩
end Go.Proofs.Ytaocilimggpdjaa
