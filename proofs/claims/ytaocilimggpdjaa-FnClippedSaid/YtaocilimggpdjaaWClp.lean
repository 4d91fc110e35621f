/- The law of clipping, walked. No condition. -/
import Derived.Test.YtaocilimggpdjaaCl3
namespace Go.Proofs.Ytaocilimggpdjaa
open Go Go.RowKit Ieee
set_option linter.unusedVariables false
set_option linter.unusedSimpArgs false
theorem okG_zero : okG 0 := ⟨zero_fin.1, .inl (by rw [zero_fin.2]; decide +kernel), by rw [zero_fin.2]; decide +kernel⟩
theorem pl_list {xs : List Nat} (h : ∀ y ∈ xs, isPl y) : xs.map (cn .f32) = xs ∧ (∀ i, okG (xs.getD i 0)) ∧ (∀ i, i < xs.length → isPl (xs.getD i 0)) := by
  refine ⟨?_, fun i => ?_, fun i hi => ?_⟩
  · conv => rhs; rw [← List.map_id xs]
    exact List.map_congr_left (fun x hx => (h x hx).cn)
  · by_cases hi : i < xs.length
    · rw [List.getD_eq_getElem?_getD, List.getElem?_eq_getElem hi]; exact (h _ (List.getElem_mem hi)).ok
    · rw [List.getD_eq_getElem?_getD, List.getElem?_eq_none (by omega)]; exact okG_zero
  · rw [List.getD_eq_getElem?_getD, List.getElem?_eq_getElem hi]; exact h _ (List.getElem_mem hi)
theorem cn_wordK {k : FloatKind} {x y : Nat} (h : cn k y = x) (hx : isN k x = false) : y = x := by
  have h1 : isN k y = false := by rw [← isN_cn, h]; exact hx
  rwa [cn_not h1] at h
theorem cv_fin {x : Nat} (hx : Fin single x) (w : World) : cvbits .f32 x .f64 w = fcv .f32 x .f64 := cn_wordK (by rw [cn_wide, cn_not (Fin.not (k := .f32) hx)]) (Fin.not (k := .f64) (wide_val hx).1)
theorem clY_length (c : Nat) (X : List Nat) : (clY c X X.length).length = X.length := by
  unfold clY
  split
  · exact listOf_length _ _
  · rfl
set_option maxHeartbeats 16000000 in
set_option maxRecDepth 100000 in
theorem fnClipped_walk (w : World) (a0 : Option Addr) (c0 : Nat) (l0 : List Int) (A0 : Ints .u8 w a0 c0 l0) (a1 : Option Addr) (c1 : Nat) (l1 : List Int) (A1 : Ints .u8 w a1 c1 l1) :
    Calls Try.prog 10 #[.slice a0 l0.length c0, .slice a1 l1.length c1] w fun e w' => e = .returned (.bool true) ∧ Below w.heap.size w w' := by
  by_cases hlong : l0.length ≤ 1048576 ∧ l1.length ≤ 1048576
  rotate_left
  · go_enter Try.func10, Try.ntmps10
    go_wp2_with fail
    refine (b10Long_yes _ _ _ _ _ _ _ hlong).mono ?_
    rintro e w1 ⟨rfl, rfl⟩
    go_wp2
    go_ret
    exact ⟨rfl, Below.refl _ _⟩
  obtain ⟨hl0, hl1⟩ := hlong
  have AA0 := Lib.hid A0; have AA1 := Lib.hid A1
  clear A0 A1
  go_enter Try.func10, Try.ntmps10
  go_wp2_with fail
  refine (b10Long_no _ _ _ _ _ _ _ hl0 hl1).mono ?_
  rintro e w1 ⟨rfl, rfl⟩
  clear hl0 hl1
  go_wp2_with fail
  refine (b10At_any _ _ _ _ AA0.out 0 8 (by decide) (by decide) (by decide) (by decide)).mono ?_
  rintro e w1 ⟨n0, rfl, hn, rfl⟩
  have hn7 : n0 ≤ 7 := by omega
  clear hn
  go_wp2_with fail
  obtain ⟨n, hnn⟩ : ∃ n, n = 1 + n0 := ⟨_, rfl⟩
  have hni : (1 : Int) + (n0 : Int) = (n : Int) := by omega
  have hn8 : n ≤ 8 := by omega
  simp only [hni]
  clear hnn hni hn7
  refine (b10_small _ _ _ _ AA0.out n (by omega)).mono ?_
  rintro e w1 ⟨ad, cap, xs, rfl, hr, hpl, hb⟩
  obtain ⟨p1, p2, p3⟩ := pl_list hpl.out
  have R := Lib.hid hr; have B := Lib.hid hb; have LN := Lib.hid hr.len; have P1 := Lib.hid p1; have P2 := Lib.hid p2; have P3 := Lib.hid p3
  clear hr hb hpl AA0 p1 p2 p3
  go_wp2_with fail
  refine (b10At_any _ _ _ _ (AA1.out.below B.out) 0 64 (by decide) (by decide) (by decide) (by decide)).mono ?_
  rintro e w2 ⟨j, rfl, hj, rfl⟩
  have hj : j < 64 := by omega
  obtain ⟨m1, m2, -, -, -, -⟩ := mW_facts j hj
  have HJ := Lib.hid hj
  clear hj
  obtain ⟨M, hM⟩ : ∃ M, M = mW j := ⟨_, rfl⟩
  rw [← hM] at m1
  have HM := Lib.hid hM
  have HP := Lib.hid m2
  have hz0 := World.drewN_none
  have e1 := fbits_some m1
  have e2 := fdr_some m1
  clear hM m2 m1
  have f1 := impl_ClipGradients w1 ad cap xs R.out.arg M R.out.nilcap
  rw [LN.out, P1.out, if_pos (by omega), if_pos (by omega), decide_eq_true (by omega)] at f1
  have F1 := Lib.hid f1; clear f1
  go_wp2_with fail
  refine F1.out.mono ?_
  rintro e w3 ⟨ad1, n1, cap1, ys, r1, b1, rfl, hr, hy, hn1, hr1, rfl, hb⟩
  have hlen : n1 = n := by
    rw [← hr.len]
    have := congrArg List.length hy
    rw [List.length_map, ← LN.out, clY_length, LN.out] at this; exact this
  subst hlen
  have R1 := Lib.hid hr; have Y1 := Lib.hid hy; have Q1 := Lib.hid hr1; have LN1 := Lib.hid hr.len
  have R := Lib.hid (R.out.below hb)
  have B := Lib.hid (bthen B.out hb)
  clear F1 hr hy hr1 hb hn1
  have f1 := impl_ClipGradients w3 ad1 cap1 ys R1.out.arg M R1.out.nilcap
  rw [LN1.out, Y1.out, if_pos (by omega), if_pos (by omega), decide_eq_true (by omega)] at f1
  have F1 := Lib.hid f1; clear f1
  go_wp2_with fail
  refine F1.out.mono ?_
  rintro e w4 ⟨ad2, n2, cap2, zs, r2, b2, rfl, hr, hy, hn2, hr2, rfl, hb⟩
  have hlen : n2 = n1 := by
    rw [← hr.len]
    have := congrArg List.length hy
    rw [List.length_map] at this
    have l1 : (clY M xs n1).length = n1 := by
      have h1 := clY_length M xs
      rw [LN.out] at h1; exact h1
    have l2 := clY_length M (clY M xs n1)
    rw [l1] at l2
    rw [l2] at this; exact this
  subst hlen
  have Q2 := Lib.hid hr2
  have R := Lib.hid (R.out.below hb); have R1 := Lib.hid (R1.out.below hb)
  have B := Lib.hid (bthen B.out hb)
  clear F1 hr hy hr2 hb hn2 e1 e2
  have f1 := impl_DecayParams w4 ad cap xs R.out.arg 0
  rw [LN.out, P1.out, decide_eq_true (by omega)] at f1
  have F1 := Lib.hid f1; clear f1
  go_wp2_with fail
  refine F1.out.mono ?_
  rintro e w5 ⟨ad3, n3, cap3, us, b3, rfl, hr, hy, hn3, rfl, hb⟩
  have hlx : xs.length ≤ 256 := by rw [LN.out]; omega
  have hus : us.map (cn .f32) = xs.map (decF 0) := by
    rw [hy]; unfold decSpec; rw [if_pos hlx, cn_zero]
  have hlen : n3 = n2 := by
    rw [← hr.len, ← LN.out]
    have := congrArg List.length hus
    rwa [List.length_map, List.length_map] at this
  subst hlen
  have R3 := Lib.hid hr; have U3 := Lib.hid hus; have LN3 := Lib.hid hr.len
  have R := Lib.hid (R.out.below hb); have R1 := Lib.hid (R1.out.below hb)
  have B := Lib.hid (bthen B.out hb)
  clear F1 hr hy hb hn3 hus hlx
  go_wp2_with fail
  refine (b10_plain _ _ _ _ (AA1.out.below B.out)).mono ?_
  rintro e w6 ⟨x, rfl, hx, hb⟩
  have R := Lib.hid (R.out.below hb); have R1 := Lib.hid (R1.out.below hb); have R3 := Lib.hid (R3.out.below hb)
  have B := Lib.hid (bthen B.out hb)
  clear hb
  go_wp2_with fail
  refine (b10At_any _ _ _ _ (AA1.out.below B.out) 1 20 (by decide) (by decide) (by decide) (by decide)).mono ?_
  rintro e w7 ⟨p, rfl, hp, rfl⟩
  have hp19 : p ≤ 19 := by omega
  clear hp
  have XN := Lib.hid hx.out.cn
  have f1 := fun W => impl_PowerOf_yes x p W (by rw [inB_iff]; omega)
  have f2 := fun W => impl_PowerOf_yes x ((p : Int) + 1) W (by rw [inB_iff]; omega)
  rw [hx.out.cn, show (p : Int).toNat = p by omega] at f1
  rw [hx.out.cn, show ((p : Int) + 1).toNat = p + 1 by omega] at f2
  have F1 := Lib.hid f1; have F2 := Lib.hid f2; clear f1 f2
  go_wp2_with fail
  refine (F1.out _).mono ?_
  rintro e w8 ⟨ra, rfl, ha, hd⟩
  have HA := Lib.hid (cn_word ha (hx.out.pow (by omega)))
  have R := Lib.hid (R.out.below hd.below); have R1 := Lib.hid (R1.out.below hd.below); have R3 := Lib.hid (R3.out.below hd.below)
  have B := Lib.hid (bthen B.out hd.below)
  clear hd F1 ha
  go_wp2_with fail
  refine (F2.out _).mono ?_
  rintro e w9 ⟨rb, rfl, hbb, hd⟩
  have nb := hx.out.pow (show p + 1 ≤ 20 by omega)
  have hb2 := cn_word hbb nb
  have ha2 := HA.out
  have R := Lib.hid (R.out.below hd.below); have R1 := Lib.hid (R1.out.below hd.below); have R3 := Lib.hid (R3.out.below hd.below)
  have B := Lib.hid (bthen B.out hd.below)
  clear hd F2 hbb
  have hmul : floatBits .mul .f32 ra x = some rb := by
    have e : fop .mul .f32 ra x = rb := by rw [ha2, hb2]; rfl
    unfold fop at e
    cases h : floatBits .mul .f32 ra x with
    | some r => rw [h] at e; exact congrArg some e
    | none =>
      exfalso
      rw [h] at e
      have h2 : isN .f32 rb = true := by rw [← e]; exact isN_nanOf .f32
      rw [hb2, nb] at h2; cases h2
  have hbl : rb < 4294967296 := by rw [hb2]; exact powF_lt _ _
  have e1 := fbits_some hmul
  have e2 := fdr_some hmul
  have E1 := Lib.hid e1; have E2 := Lib.hid e2
  have CS := Lib.hid (fun W => spec_SameNumber rb rb hbl hbl W)
  rw [show decide (cn .f32 rb = cn .f32 rb) = true from decide_eq_true rfl] at CS
  clear e1 e2 hmul ha2 hb2 nb
  have hM := HM.out
  have hj := HJ.out
  obtain ⟨g1, f1⟩ := long_ge P2.out hn8 Q1.out
  have q2 := Q2.out
  rw [hM] at q2
  obtain ⟨s1, s2⟩ := second_ok P2.out hn8 hj
  have er2 := Fin.cn (k := .f32) s1 q2
  have f2 : Fin single r2 := by rw [er2]; exact s1
  have hcmp := second_cmp P2.out hn8 hj q2
  have fM : Fin single M := by rw [hM]; exact mW_fin hj
  have hmul := HP.out
  rw [← hM] at hmul
  have c1 := cv_fin f2
  have c2 := cv_fin fM
  obtain ⟨D, hD⟩ : ∃ D, D = fcv .f32 r2 .f64 := ⟨_, rfl⟩
  obtain ⟨E, hE⟩ : ∃ E, E = fcv .f32 M .f64 := ⟨_, rfl⟩
  obtain ⟨V, hV⟩ : ∃ V, V = mP j := ⟨_, rfl⟩
  rw [← hD] at c1 hcmp
  rw [← hE] at c2 hmul
  rw [← hV] at hmul hcmp
  have e3 := fbits_some hmul
  have e4 := fdr_some hmul
  have ocmp : (FloatKind.f64.format.order D V == some .gt) = false := by simpa using hcmp
  have ogt := gtC_at (c := M) Q1.out
  have OGT := Lib.hid ogt
  have F1 := Lib.hid f1
  clear hM hj f1 q2 s1 s2 er2 f2 hcmp fM hmul hD hE hV HP HJ ogt
  have e1 := E1.out; have e2 := E2.out
  clear E1 E2 HM
  rcases g1 with g1 | g1
  · go_wp2_with fail
    refine (CS.out _).mono ?_
    rintro e w10 ⟨rfl, hd⟩
    have B := Lib.hid (bthen (below_drewN B.out _) hd.below)
    have R := Lib.hid ((R.out.below (below_drewN (Below.refl _ _) _)).below hd.below)
    have R1 := Lib.hid ((R1.out.below (below_drewN (Below.refl _ _) _)).below hd.below)
    have R3 := Lib.hid ((R3.out.below (below_drewN (Below.refl _ _) _)).below hd.below)
    clear hd CS c1 c2 e1 e2 e3 e4 ocmp g1
    go_wp2
    go_loopw [22] (fun i wr => ∃ k : Nat, i = .int .i64 k ∧ k ≤ n3 ∧ Dr w10 wr) (fun i _ => n3 - (intOf i).toNat)
    case atStart => exact ⟨0, rfl, Nat.zero_le _, Dr.refl _⟩
    case round =>
      obtain ⟨k, rfl, hk, hd⟩ := hrel
      by_cases hlt : k < n3
      · have h3 := R3.out.arg.below hd.below
        have h4 := R.out.arg.below hd.below
        obtain ⟨b1, o1, rfl, _, hc1⟩ := h3.spot (k := k) (by rw [LN3.out]; exact hlt)
        obtain ⟨b2, o2, rfl, _, hc2⟩ := h4.spot (k := k) (by rw [LN.out]; exact hlt)
        have hk1 := hc1 k (by rw [LN3.out]; exact hlt)
        have hk2 := hc2 k (by rw [LN.out]; exact hlt)
        have hpk := P3.out k (by rw [LN.out]; exact hlt)
        have hck : cn .f32 (us.getD k 0) = decF 0 (xs.getD k 0) := by
          rw [← cn_getD, U3.out]
          have hkl : k < xs.length := by rw [LN.out]; exact hlt
          rw [List.getD_eq_getElem?_getD, List.getD_eq_getElem?_getD, List.getElem?_map, List.getElem?_eq_getElem hkl]; rfl
        have hcq : FloatKind.f32.format.order (us.getD k 0) (xs.getD k 0) = some .eq := by
          have h1 := hpk.same
          rw [← hck, order_cnl _ _ hpk.cn] at h1
          exact h1
        obtain ⟨x1, hx1⟩ : ∃ x, x = us.getD k 0 := ⟨_, rfl⟩
        obtain ⟨x2, hx2⟩ : ∃ x, x = xs.getD k 0 := ⟨_, rfl⟩
        rw [← hx1] at hk1 hcq
        rw [← hx2] at hk2 hcq
        have HD := Lib.hid hd
        clear h3 h4 hc1 hc2 hpk hck hx1 hx2 hd
        go_wp2
        refine wp_region_drawn (fun f args u => False) (by kernel_rfl) (by kernel_rfl) ?_
        repeat (refine wset_step (fun K hK nq => ?_); go_simp; refine hK _ ?_; clear hK K)
        refine wset_nil ?_
        rintro w' ⟨q, rfl⟩
        go_wp2
        go_roundw
        case rel => exact ⟨k + 1, by go_num, hlt, HD.out.drewN _⟩
        case measure => simp [intOf]; omega
      · have HD := Lib.hid hd
        clear hd
        cases hg : gtC (clR xs n3) M
        · have hY : clY M xs n3 = xs := by unfold clY; rw [if_neg (by rw [hg]; decide)]
          have o := OGT.out
          rw [hg] at o
          unfold gtC at o
          have SA := Lib.hid (fun W h1 h2 => b10_same W ad1 ad cap1 cap ys xs h1 h2 n3 LN1.out LN.out (by rw [Y1.out, hY, P1.out]))
          clear hg hY
          go_wp2_with fail
          refine (SA.out _ (R1.out.arg.below HD.out.below) (R.out.arg.below HD.out.below)).mono ?_
          rintro e w11 ⟨rfl, hd⟩
          go_wp2
          go_ret
          exact ⟨rfl, bthen (bthen B.out HD.out.below) hd.below⟩
        · have o := OGT.out
          rw [hg] at o
          unfold gtC at o
          clear hg
          go_wp2
          go_ret
          exact ⟨rfl, bthen B.out HD.out.below⟩
  · go_wp2_with fail
    refine (CS.out _).mono ?_
    rintro e w10 ⟨rfl, hd⟩
    have B := Lib.hid (bthen (below_drewN B.out _) hd.below)
    have R := Lib.hid ((R.out.below (below_drewN (Below.refl _ _) _)).below hd.below)
    have R1 := Lib.hid ((R1.out.below (below_drewN (Below.refl _ _) _)).below hd.below)
    have R3 := Lib.hid ((R3.out.below (below_drewN (Below.refl _ _) _)).below hd.below)
    clear hd CS c1 c2 e1 e2 e3 e4 ocmp g1
    go_wp2
    go_loopw [22] (fun i wr => ∃ k : Nat, i = .int .i64 k ∧ k ≤ n3 ∧ Dr w10 wr) (fun i _ => n3 - (intOf i).toNat)
    case atStart => exact ⟨0, rfl, Nat.zero_le _, Dr.refl _⟩
    case round =>
      obtain ⟨k, rfl, hk, hd⟩ := hrel
      by_cases hlt : k < n3
      · have h3 := R3.out.arg.below hd.below
        have h4 := R.out.arg.below hd.below
        obtain ⟨b1, o1, rfl, _, hc1⟩ := h3.spot (k := k) (by rw [LN3.out]; exact hlt)
        obtain ⟨b2, o2, rfl, _, hc2⟩ := h4.spot (k := k) (by rw [LN.out]; exact hlt)
        have hk1 := hc1 k (by rw [LN3.out]; exact hlt)
        have hk2 := hc2 k (by rw [LN.out]; exact hlt)
        have hpk := P3.out k (by rw [LN.out]; exact hlt)
        have hck : cn .f32 (us.getD k 0) = decF 0 (xs.getD k 0) := by
          rw [← cn_getD, U3.out]
          have hkl : k < xs.length := by rw [LN.out]; exact hlt
          rw [List.getD_eq_getElem?_getD, List.getD_eq_getElem?_getD, List.getElem?_map, List.getElem?_eq_getElem hkl]; rfl
        have hcq : FloatKind.f32.format.order (us.getD k 0) (xs.getD k 0) = some .eq := by
          have h1 := hpk.same
          rw [← hck, order_cnl _ _ hpk.cn] at h1
          exact h1
        obtain ⟨x1, hx1⟩ : ∃ x, x = us.getD k 0 := ⟨_, rfl⟩
        obtain ⟨x2, hx2⟩ : ∃ x, x = xs.getD k 0 := ⟨_, rfl⟩
        rw [← hx1] at hk1 hcq
        rw [← hx2] at hk2 hcq
        have HD := Lib.hid hd
        clear h3 h4 hc1 hc2 hpk hck hx1 hx2 hd
        go_wp2
        refine wp_region_drawn (fun f args u => False) (by kernel_rfl) (by kernel_rfl) ?_
        repeat (refine wset_step (fun K hK nq => ?_); go_simp; refine hK _ ?_; clear hK K)
        refine wset_nil ?_
        rintro w' ⟨q, rfl⟩
        go_wp2
        go_roundw
        case rel => exact ⟨k + 1, by go_num, hlt, HD.out.drewN _⟩
        case measure => simp [intOf]; omega
      · have HD := Lib.hid hd
        clear hd
        cases hg : gtC (clR xs n3) M
        · have hY : clY M xs n3 = xs := by unfold clY; rw [if_neg (by rw [hg]; decide)]
          have o := OGT.out
          rw [hg] at o
          unfold gtC at o
          have SA := Lib.hid (fun W h1 h2 => b10_same W ad1 ad cap1 cap ys xs h1 h2 n3 LN1.out LN.out (by rw [Y1.out, hY, P1.out]))
          clear hg hY
          go_wp2_with fail
          refine (SA.out _ (R1.out.arg.below HD.out.below) (R.out.arg.below HD.out.below)).mono ?_
          rintro e w11 ⟨rfl, hd⟩
          go_wp2
          go_ret
          exact ⟨rfl, bthen (bthen B.out HD.out.below) hd.below⟩
        · have o := OGT.out
          rw [hg] at o
          unfold gtC at o
          clear hg
          go_wp2
          go_ret
          exact ⟨rfl, bthen B.out HD.out.below⟩
end Go.Proofs.Ytaocilimggpdjaa
