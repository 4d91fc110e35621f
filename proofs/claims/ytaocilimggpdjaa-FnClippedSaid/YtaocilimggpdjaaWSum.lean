/- The law of sums, walked. No condition. -/
import Derived.Test.YtaocilimggpdjaaSuc
import Derived.Test.YtaocilimggpdjaaSnm
import Derived.Test.YtaocilimggpdjaaDrl
import Derived.Test.YtaocilimggpdjaaTen
import Derived.Test.YtaocilimggpdjaaClp
import Derived.Test.YtaocilimggpdjaaCode
namespace Go.Proofs.Ytaocilimggpdjaa
open Go Go.RowKit Ieee
set_option linter.unusedVariables false
set_option linter.unusedSimpArgs false
theorem wh_list : ∀ (ys : List Nat), (∀ y ∈ ys, isWh 100 y) → ∃ Z, ys = flo Z ∧ hun Z
  | [], _ => ⟨[], rfl, fun i => by simp⟩
  | y :: ys, h => by
    obtain ⟨Z, e, hz⟩ := wh_list ys (fun y hy => h y (List.mem_cons_of_mem _ hy))
    obtain ⟨z, h1, h2, h3⟩ := h y (List.mem_cons_self)
    refine ⟨z :: Z, by rw [e, h3]; rfl, fun i => ?_⟩
    cases i with
    | zero => simp; omega
    | succ i => have := hz i; simpa using this
theorem keepD {a w w' : World} {n : Nat} (h : Below a.heap.size a w) (hd : Dr (w.drewN n) w') : Below a.heap.size a w' := by
  obtain ⟨m, rfl⟩ := hd
  exact below_drewN (below_drewN h _) _
theorem canon_list {xs : List Nat} (h : ∀ x ∈ xs, x < 4294967296) : ∀ i, cn .f32 ((xs.map (cn .f32)).getD i 0) = (xs.map (cn .f32)).getD i 0 ∧ (xs.map (cn .f32)).getD i 0 < 4294967296 := by
  intro i
  rw [cn_getD, cn_cn]
  refine ⟨rfl, ?_⟩
  unfold cn
  split
  · decide
  · by_cases hi : i < xs.length
    · rw [List.getD_eq_getElem?_getD, List.getElem?_eq_getElem hi]; exact h _ (List.getElem_mem hi)
    · rw [List.getD_eq_getElem?_getD, List.getElem?_eq_none (by omega)]; decide
theorem F32s.none_ (w : World) (ad : Option Addr) (c : Nat) (hc : c ≤ maxLen) : F32s w ad c [] := ⟨Nat.zero_le _, hc, .inl rfl, fun x hx => nomatch hx⟩
theorem spec_SameNumber (a b : Nat) (ha : a < 4294967296) (hb : b < 4294967296) (w : World) : Calls Try.prog 35 #[.float .f32 a, .float .f32 b] w fun e w' => e = .returned (.bool (decide (cn .f32 a = cn .f32 b))) ∧ Dr w w' := by
  have k1 : ∀ W, Calls Try.prog 94 #[.float .f32 a, .float .f32 b] W fun e w' => e = .returned (.bool (decide (cn .f32 a = cn .f32 b))) ∧ W = w' := by
    intro W
    have k1 := fun W => spec_l01Bits a ha W
    have k2 := fun W => spec_l01Bits b hb W
    obtain ⟨p, hp⟩ : ∃ p, p = cn .f32 a := ⟨_, rfl⟩
    obtain ⟨q, hq⟩ : ∃ q, q = cn .f32 b := ⟨_, rfl⟩
    rw [← hp] at k1 ⊢
    rw [← hq] at k2 ⊢
    clear hp hq ha hb
    go_enter Try.func94, Try.ntmps94
    go_wp2_with fail
    refine (k1 _).mono ?_
    rintro e w1 ⟨rfl, rfl⟩
    go_wp2_with fail
    refine (k2 _).mono ?_
    rintro e w1 ⟨rfl, rfl⟩
    go_wp2
    go_ret
    refine ⟨?_, rfl⟩
    congr 2
    by_cases h : p = q
    · subst h; simp
    · have h2 : ¬ (p : Int) = q := by omega
      simp [h, h2]
  go_enter Try.func35, Try.ntmps35
  go_wp2_with fail
  refine (k1 _).mono ?_
  rintro e w1 ⟨rfl, rfl⟩
  go_wp2
  go_ret
  exact ⟨rfl, Dr.refl _⟩
set_option maxHeartbeats 16000000 in
set_option maxRecDepth 100000 in
theorem fnSums_walk (w : World) (a0 : Option Addr) (c0 : Nat) (l0 : List Int) (A0 : Ints .u8 w a0 c0 l0) (a1 : Option Addr) (c1 : Nat) (l1 : List Int) (A1 : Ints .u8 w a1 c1 l1) :
    Calls Try.prog 9 #[.slice a0 l0.length c0, .slice a1 l1.length c1] w fun e w' => e = .returned (.bool true) ∧ Below w.heap.size w w' := by
  by_cases hlong : l0.length ≤ 1048576 ∧ l1.length ≤ 1048576
  rotate_left
  · go_enter Try.func9, Try.ntmps9
    go_wp2_with fail
    refine (b10Long_yes _ _ _ _ _ _ _ hlong).mono ?_
    rintro e w1 ⟨rfl, rfl⟩
    go_wp2
    go_ret
    exact ⟨rfl, Below.refl _ _⟩
  obtain ⟨hl0, hl1⟩ := hlong
  obtain ⟨i0, hi, hz0, hz1, hz2⟩ := info_parts info_f32
  have AA0 := Lib.hid A0; have AA1 := Lib.hid A1
  clear A0 A1
  go_enter Try.func9, Try.ntmps9
  go_wp2_with fail
  refine (b10Long_no _ _ _ _ _ _ _ hl0 hl1).mono ?_
  rintro e w1 ⟨rfl, rfl⟩
  clear hl0 hl1
  go_wp2_with fail
  refine (b10At_any _ _ _ _ AA0.out 0 20 (by decide) (by decide) (by decide) (by decide)).mono ?_
  rintro e w1 ⟨n, rfl, hn, rfl⟩
  have hn20 : n ≤ 20 := by omega
  go_wp2_with fail
  refine (b10_numbers _ _ _ _ AA0.out n (by omega)).mono ?_
  rintro e w1 ⟨ad, cap, xs, rfl, hr, hb⟩
  have hs1 := hb.size
  have HR := Lib.hid hr; have HB := Lib.hid hb; have LN := Lib.hid hr.len
  obtain ⟨X, hX⟩ : ∃ X, X = xs.map (cn .f32) := ⟨_, rfl⟩
  have HX := Lib.hid hX
  have CA := Lib.hid (canon_list hr.lt)
  rw [← hX] at CA
  clear hr hb hX AA0
  go_wp2
  go_loopw [7, 8, 9] (fun v sv i wr => ∃ k : Nat, i = .int .i64 k ∧ k ≤ n ∧ ∃ s : Nat, sv = .float .f32 s ∧ Hid (wr.ownsRow w1.heap.size 22 1 v k ((List.replicate k ONE32).map (Value.float .f32)) ∧ cn .f32 s = sumS X k ∧ s < 4294967296) ∧ Hid (Below w1.heap.size w1 wr) ∧ w1.heap.size ≤ wr.heap.size) (fun _ _ i _ => n - (intOf i).toNat)
  case atStart => exact ⟨0, rfl, Nat.zero_le _, 0, rfl, Lib.hid ⟨World.ownsRow_made _ _ _ (Nat.le_refl _) (Nat.zero_le _) rfl, cn_zero, by decide⟩, Lib.hid (below1 _ _), by simp⟩
  case round =>
    obtain ⟨k, rfl, hk, s, rfl, HO, HBW, hbs⟩ := hrel
    by_cases hlt : k < n
    · have HOR := Lib.hid HO.out.1
      go_wp2_with (at_builtin; refine wp_app rfl _ _ 25 rfl w1.heap.size i0 (.float .f32 0) 1 4 Try.underlying25 hi hz0 hz1 hz2 rfl (by decide) rfl (one_cell _ rfl) _ _ _ rfl HOR.out rfl ?c3 ?c4 ?c5 ?_)
      case c3 => unfold maxLen; omega
      case c4 => omega
      case c5 => omega
      intro v' w9 hown1 hb9 hbs9
      have HO9 := Lib.hid hown1; have HB9 := Lib.hid (HBW.out.trans hb9)
      have hr9 := HR.out.arg.below (HBW.out.trans hb9)
      obtain ⟨b, off, rfl, _, hc⟩ := hr9.spot (k := k) (by rw [LN.out]; exact hlt)
      have hck := hc k (by rw [LN.out]; exact hlt)
      obtain ⟨x, hx⟩ : ∃ x, x = xs.getD k 0 := ⟨_, rfl⟩
      rw [← hx] at hck
      have HXX := Lib.hid (show cn .f32 x = X.getD k 0 by rw [hx, HX.out, cn_getD])
      clear hown1 hb9 hx hc hr9 HOR
      go_wp2
      go_roundw
      case rel =>
        refine ⟨k + 1, by go_num, hlt, _, rfl, Lib.hid ⟨?_, ?_, fbits_lt _ .f32 _ _ _⟩, Lib.hid (below_drewN HB9.out _), by simpa using hbs9⟩
        · rw [List.map_replicate, List.replicate_succ']; exact HO9.out
        · rw [cn_fbits, HO.out.2.1, HXX.out]; rfl
      case measure => simp [intOf]; omega
    · have hkn : k = n := by omega
      subst hkn
      obtain ⟨ao, co, rfl, ho⟩ := RepF.of_owns HO.out.1 (fun x hx => by rw [(List.mem_replicate.1 hx).2]; decide)
      have HOO := Lib.hid ho
      have HS := Lib.hid HO.out.2
      have R := Lib.hid (HR.out.below HBW.out)
      have B := Lib.hid (HB.out.trans (HBW.out.mono hs1))
      have dot1 := dot_ones (X := X) CA.out (n := k) (O := (List.replicate k ONE32).map (cn .f32)) (fun i hi => by rw [cn_getD]; simp [hi]; decide +kernel) k (Nat.le_refl _)
      have DO := Lib.hid dot1
      obtain ⟨wa, hwa⟩ : ∃ wa : World, wa = wr := ⟨_, rfl⟩
      rw [← hwa] at HOO R B ⊢
      clear hwa HO HBW HR HB ho dot1 hbs CA
      have hnc : k ≤ cap := by have h := R.out.row.own; have := R.out.arg.len; rw [LN.out] at this; exact this
      have hcm0 := R.out.arg.cap
      have NC := Lib.hid R.out.nilcap
      -- the first sums
      have f1 := impl_SumNumbers wa ad cap xs R.out.arg k LN.out (by omega)
      have F1 := Lib.hid f1; clear f1
      go_wp2_with fail
      refine F1.out.mono ?_
      rintro e w2 ⟨ra, rfl, ha, hd⟩
      have R := Lib.hid (R.out.below hd.below); have HOO := Lib.hid (HOO.out.below hd.below); have B := Lib.hid (bthen B.out hd.below)
      clear hd F1
      have f1 := impl_DotNumbers w2 ad cap xs R.out.arg ao co (List.replicate k ONE32) HOO.out.arg k LN.out (by simp) (by omega)
      rw [← HX.out, DO.out] at f1
      have F1 := Lib.hid f1; clear f1
      go_wp2_with fail
      refine F1.out.mono ?_
      rintro e w3 ⟨rb, rfl, hbb, hd⟩
      have R := Lib.hid (R.out.below hd.below); have B := Lib.hid (bthen B.out hd.below)
      clear hd F1 HOO DO
      obtain ⟨m, hm⟩ : ∃ m, m = (k + 1) / 2 := ⟨_, rfl⟩
      have hmi : ((k : Int) + 1) / 2 = m := by omega
      have hmk : m ≤ k := by omega
      have hmc : m ≤ cap := by omega
      have HM2 := Lib.hid hm
      have hm2 : k ≤ 2 * m ∧ (k ≤ 1 ∨ m < k) ∧ 2 * m ≤ k + 1 := by omega
      clear hm
      have f1 := impl_SumPairs w3 ad cap xs R.out.arg k LN.out (by omega)
      have F1 := Lib.hid f1; clear f1
      go_wp2_with fail
      refine F1.out.mono ?_
      rintro e w4 ⟨rp, rfl, hp, hd⟩
      have R := Lib.hid (R.out.below hd.below); have B := Lib.hid (bthen B.out hd.below)
      clear hd F1
      have HA := Lib.hid (show cn .f32 ra = cn .f32 s ∧ ra < 4294967296 ∧ cn .f32 rb = cn .f32 s ∧ rb < 4294967296 ∧ s < 4294967296 by rw [ha.out.1, hbb.out.1, HS.out.1, ← HX.out]; exact ⟨rfl, ha.out.2, rfl, hbb.out.2, HS.out.2⟩)
      have HP := Lib.hid (show cn .f32 rp = pairE X ∧ rp < 4294967296 by rw [hp.out.1, ← HX.out]; exact ⟨rfl, hp.out.2⟩)
      clear ha hbb hp HS
      unfold maxLen at hcm0
      by_cases hcm : cap = m
      · have hcm2 := hcm.symm
        subst hcm2
        have hk1 : k ≤ 1 := by omega
        have hck : k = m := by omega
        subst hck
        have k1i : ¬ (1 : Int) < k := by omega
        have hL : F32s w4 ad k (xs.take k) := by rw [List.take_of_length_le (by rw [LN.out]; omega)]; exact R.out.arg
        have f1 := impl_SumPairs w4 ad k (xs.take k) hL k (by rw [List.length_take, LN.out]; omega) (by omega)
        have F1 := Lib.hid f1; clear f1
        go_wp2_with fail
        refine F1.out.mono ?_
        rintro e w5 ⟨rl, rfl, hl5, hd⟩
        have R := Lib.hid (R.out.below hd.below); have B := Lib.hid (bthen B.out hd.below)
        clear hd F1 hL
        have hR : F32s w5 ad 0 (xs.drop k) := by rw [List.drop_of_length_le (by rw [LN.out]; omega)]; exact F32s.none_ _ _ _ (by unfold maxLen; omega)
        have f1 := impl_SumPairs w5 ad 0 (xs.drop k) hR 0 (by rw [List.length_drop, LN.out] <;> omega) (by omega)
        have F1 := Lib.hid f1; clear f1
        go_wp2_with fail
        refine F1.out.mono ?_
        rintro e w6 ⟨rr, rfl, hr6, hd⟩
        have B := Lib.hid (bthen B.out hd.below)
        clear hd F1 hR R
        go_wp2_with fail
        refine (spec_SameNumber ra s HA.out.2.1 HA.out.2.2.2.2 _).mono ?_
        rw [show decide (cn .f32 ra = cn .f32 s) = true from decide_eq_true HA.out.1]
        rintro e w7 ⟨rfl, hd⟩
        have B := Lib.hid (by first | exact bthen B.out hd.below | exact keepD B.out hd)
        clear hd
        go_wp2_with fail
        refine (spec_SameNumber rb s HA.out.2.2.2.1 HA.out.2.2.2.2 _).mono ?_
        rw [show decide (cn .f32 rb = cn .f32 s) = true from decide_eq_true HA.out.2.2.1]
        rintro e w8 ⟨rfl, hd⟩
        have B := Lib.hid (by first | exact bthen B.out hd.below | exact keepD B.out hd)
        clear hd HA
        clear HP hl5 hr6
        go_wp2_with fail
        refine (b10_whole _ _ _ _ (AA1.out.below (by first | exact B.out | exact below_drewN B.out _)) k (by omega) 100 (by decide)).mono ?_
        rintro e w11 ⟨aw, cw, ys, rfl, hr, hz, hb⟩
        obtain ⟨Z, hZ, hu⟩ := wh_list ys hz.out
        subst hZ
        have R := Lib.hid hr
        have B := Lib.hid (by first | exact bthen B.out hb | exact bthen (below_drewN B.out _) hb)
        have hzl : (flo Z).length = k := hr.len
        have ZL := Lib.hid hzl; have HU := Lib.hid hu
        clear hr hb hz AA1 hzl hu
        have f1 := impl_SumNumbers w11 aw cw (flo Z) R.out.arg k ZL.out (by omega)
        rw [flo_cn] at f1
        have F1 := Lib.hid f1; clear f1
        go_wp2_with fail
        refine F1.out.mono ?_
        rintro e w12 ⟨rc, rfl, hc, hd⟩
        have AC := Lib.hid ((sumS_at HU.out k (by omega)).cn hc.out.1)
        have R := Lib.hid (R.out.below hd.below); have B := Lib.hid (bthen B.out hd.below)
        clear hd F1 hc
        have f1 := impl_SumPairs w12 aw cw (flo Z) R.out.arg k ZL.out (by omega)
        rw [flo_cn] at f1
        have F1 := Lib.hid f1; clear f1
        go_wp2_with fail
        refine F1.out.mono ?_
        rintro e w13 ⟨rd, rfl, hc, hd⟩
        have AD := Lib.hid ((pairE_at k Z (by have := ZL.out; simpa [flo] using this) (by omega) HU.out).cn hc.out.1)
        have R := Lib.hid (R.out.below hd.below); have B := Lib.hid (bthen B.out hd.below)
        clear hd F1 hc
        have f1 := impl_SumCarried w13 aw cw (flo Z) R.out.arg k ZL.out (by omega)
        rw [flo_cn] at f1
        have F1 := Lib.hid f1; clear f1
        go_wp2_with fail
        refine F1.out.mono ?_
        rintro e w14 ⟨re, rfl, hc, hd⟩
        have AE := Lib.hid ((carS_at HU.out k (by omega)).1.cn hc.out.1)
        have R := Lib.hid (R.out.below hd.below); have B := Lib.hid (bthen B.out hd.below)
        clear hd F1 hc
        have f1 := impl_DotNumbers w14 aw cw (flo Z) R.out.arg aw cw (flo Z) R.out.arg k ZL.out ZL.out (by omega)
        rw [flo_cn] at f1
        have F1 := Lib.hid f1; clear f1
        go_wp2_with fail
        refine F1.out.mono ?_
        rintro e w15 ⟨rf, rfl, hc, hd⟩
        have AF := Lib.hid ((dotS_at HU.out k (by omega)).cn hc.out.1)
        have R := Lib.hid (R.out.below hd.below); have B := Lib.hid (bthen B.out hd.below)
        clear hd F1 hc
        have hqb := qS_bd HU.out k
        have hzb := zS_bd HU.out k
        have hwd := (widS_at HU.out k (by omega)).narrow (by unfold smallI; omega)
        have f1 := impl_DotWide w15 aw cw (flo Z) R.out.arg aw cw (flo Z) R.out.arg k ZL.out ZL.out (by omega) (by rw [flo_cn]; exact hwd.1)
        rw [flo_cn] at f1
        have F1 := Lib.hid f1; clear f1
        go_wp2_with fail
        refine F1.out.mono ?_
        rintro e w16 ⟨rg, rfl, hc, hd⟩
        have AG := Lib.hid (hwd.2.cn hc.out.1)
        have R := Lib.hid (R.out.below hd.below); have B := Lib.hid (bthen B.out hd.below)
        clear hd F1 hc hwd
        have o1 := AC.out.eq (At.int (k := .f32) (z := zS Z k) (by unfold smallI; omega))
        have o2 := AD.out.eq AC.out
        have o3 := AE.out.eq AC.out
        have o4 := AF.out.eq (At.int (k := .f32) (z := qS Z k) (by unfold smallI; omega))
        have o5 := AG.out.eq AF.out
        have O1 := Lib.hid o1; have O2 := Lib.hid o2; have O3 := Lib.hid o3; have O4 := Lib.hid o4; have O5 := Lib.hid o5
        clear o1 o2 o3 o4 o5 hqb hzb AC AD AE AF AG
        go_wp2
        go_loopw [32, 33, 34] (fun u v i wr => ∃ j : Nat, i = .int .i64 j ∧ j ≤ k ∧ u = .int .i64 (zS Z j) ∧ v = .int .i64 (qS Z j) ∧ Dr w16 wr) (fun _ _ i _ => k - (intOf i).toNat)
        case atStart => exact ⟨0, rfl, Nat.zero_le _, rfl, rfl, Dr.refl _⟩
        case round =>
          obtain ⟨j, rfl, hj, rfl, rfl, hd⟩ := hrel
          have hqb := qS_bd HU.out j
          have hzb := zS_bd HU.out j
          have hb3 := HU.out j
          by_cases hlt : j < k
          · have h3 := R.out.arg.below hd.below
            obtain ⟨b, off, rfl, _, hc⟩ := h3.spot (k := j) (by rw [ZL.out]; exact hlt)
            have hck := hc j (by rw [ZL.out]; exact hlt)
            have hzj : (flo Z).getD j 0 = floatOfInt .f32 (Z.getD j 0) := by
              have h4 := ZL.out
              simp only [flo, List.length_map] at h4
              simp [flo, show j < Z.length by omega]
            rw [hzj] at hck
            have hsq := sq_bd hb3
            have hnz : zS Z (j + 1) = zS Z j + Z.getD j 0 := rfl
            have hnq : qS Z (j + 1) = qS Z j + Z.getD j 0 * Z.getD j 0 := rfl
            obtain ⟨z, hz⟩ : ∃ z, z = Z.getD j 0 := ⟨_, rfl⟩
            obtain ⟨p, hp⟩ : ∃ p, p = zS Z j := ⟨_, rfl⟩
            obtain ⟨q, hq⟩ : ∃ q, q = qS Z j := ⟨_, rfl⟩
            rw [← hz] at hck hb3 hsq hnz hnq
            rw [← hp] at hzb hnz ⊢
            rw [← hq] at hqb hnq ⊢
            have hfi := int_back2 hb3
            obtain ⟨x, hx⟩ : ∃ x, x = floatOfInt .f32 z := ⟨_, rfl⟩
            rw [← hx] at hck hfi
            have hcv := fun w => run_convert_float_int (P := Try.prog) w 22 2 .f32 .i64 x z (by rw [Try.underlying22]; rfl) Try.underlying2 hfi
            clear hfi
            have HD := Lib.hid hd; have HNZ := Lib.hid hnz; have HNQ := Lib.hid hnq
            clear hz hp hq hx hc hzj h3 hd hnz hnq
            go_wp2
            go_quiet (fail)
            go_wp2
            go_roundw
            case rel => exact ⟨j + 1, by go_num, hlt, by rw [HNZ.out], by rw [HNQ.out], HD.out.drewN _⟩
            case measure => simp [intOf]; omega
          · have hjk : j = k := by omega
            subst hjk
            have o1 := O1.out; have o2 := O2.out; have o3 := O3.out; have o4 := O4.out; have o5 := O5.out
            obtain ⟨p, hp⟩ : ∃ p, p = zS Z j := ⟨_, rfl⟩
            obtain ⟨q, hq⟩ : ∃ q, q = qS Z j := ⟨_, rfl⟩
            rw [← hp] at hzb o1 ⊢
            rw [← hq] at hqb o4 ⊢
            clear hp hq
            go_wp2
            go_ret
            exact ⟨rfl, B.out.trans (hd.below.mono B.out.size)⟩
      · obtain ⟨g, hg⟩ : ∃ g, ad = some ⟨g, 0, none⟩ := by
          rcases R.out.row.own.2 with ⟨h1, _⟩ | ⟨g, cp, cur, h1, _⟩
          · cases h1; exfalso; omega
          · cases h1; exact ⟨g, rfl⟩
        subst hg
        have hne : ¬ cap = m := hcm
        by_cases hk1 : k ≤ 1
        · have k1i : ¬ (1 : Int) < k := by omega
          have hL : F32s w4 (some ⟨g, 0, none⟩) cap (xs.take m) := (R.out.arg.cut m (by rw [LN.out]; omega)).1
          have f1 := impl_SumPairs w4 (some ⟨g, 0, none⟩) cap (xs.take m) hL m (by rw [List.length_take, LN.out]; omega) (by omega)
          have F1 := Lib.hid f1; clear f1
          go_wp2_with fail
          refine F1.out.mono ?_
          rintro e w5 ⟨rl, rfl, hl5, hd⟩
          have R := Lib.hid (R.out.below hd.below); have B := Lib.hid (bthen B.out hd.below)
          clear hd F1 hL
          have hR : F32s w5 (some ⟨g, m, none⟩) (cap - m) (xs.drop m) := by have h := (R.out.arg.cut m (by rw [LN.out]; omega)).2; rwa [Nat.zero_add] at h
          have f1 := impl_SumPairs w5 (some ⟨g, m, none⟩) (cap - m) (xs.drop m) hR (k - m) (by rw [List.length_drop, LN.out] <;> omega) (by omega)
          have F1 := Lib.hid f1; clear f1
          go_wp2_with fail
          refine F1.out.mono ?_
          rintro e w6 ⟨rr, rfl, hr6, hd⟩
          have B := Lib.hid (bthen B.out hd.below)
          clear hd F1 hR R
          go_wp2_with fail
          refine (spec_SameNumber ra s HA.out.2.1 HA.out.2.2.2.2 _).mono ?_
          rw [show decide (cn .f32 ra = cn .f32 s) = true from decide_eq_true HA.out.1]
          rintro e w7 ⟨rfl, hd⟩
          have B := Lib.hid (by first | exact bthen B.out hd.below | exact keepD B.out hd)
          clear hd
          go_wp2_with fail
          refine (spec_SameNumber rb s HA.out.2.2.2.1 HA.out.2.2.2.2 _).mono ?_
          rw [show decide (cn .f32 rb = cn .f32 s) = true from decide_eq_true HA.out.2.2.1]
          rintro e w8 ⟨rfl, hd⟩
          have B := Lib.hid (by first | exact bthen B.out hd.below | exact keepD B.out hd)
          clear hd HA
          clear HP hl5 hr6
          go_wp2_with fail
          refine (b10_whole _ _ _ _ (AA1.out.below (by first | exact B.out | exact below_drewN B.out _)) k (by omega) 100 (by decide)).mono ?_
          rintro e w11 ⟨aw, cw, ys, rfl, hr, hz, hb⟩
          obtain ⟨Z, hZ, hu⟩ := wh_list ys hz.out
          subst hZ
          have R := Lib.hid hr
          have B := Lib.hid (by first | exact bthen B.out hb | exact bthen (below_drewN B.out _) hb)
          have hzl : (flo Z).length = k := hr.len
          have ZL := Lib.hid hzl; have HU := Lib.hid hu
          clear hr hb hz AA1 hzl hu
          have f1 := impl_SumNumbers w11 aw cw (flo Z) R.out.arg k ZL.out (by omega)
          rw [flo_cn] at f1
          have F1 := Lib.hid f1; clear f1
          go_wp2_with fail
          refine F1.out.mono ?_
          rintro e w12 ⟨rc, rfl, hc, hd⟩
          have AC := Lib.hid ((sumS_at HU.out k (by omega)).cn hc.out.1)
          have R := Lib.hid (R.out.below hd.below); have B := Lib.hid (bthen B.out hd.below)
          clear hd F1 hc
          have f1 := impl_SumPairs w12 aw cw (flo Z) R.out.arg k ZL.out (by omega)
          rw [flo_cn] at f1
          have F1 := Lib.hid f1; clear f1
          go_wp2_with fail
          refine F1.out.mono ?_
          rintro e w13 ⟨rd, rfl, hc, hd⟩
          have AD := Lib.hid ((pairE_at k Z (by have := ZL.out; simpa [flo] using this) (by omega) HU.out).cn hc.out.1)
          have R := Lib.hid (R.out.below hd.below); have B := Lib.hid (bthen B.out hd.below)
          clear hd F1 hc
          have f1 := impl_SumCarried w13 aw cw (flo Z) R.out.arg k ZL.out (by omega)
          rw [flo_cn] at f1
          have F1 := Lib.hid f1; clear f1
          go_wp2_with fail
          refine F1.out.mono ?_
          rintro e w14 ⟨re, rfl, hc, hd⟩
          have AE := Lib.hid ((carS_at HU.out k (by omega)).1.cn hc.out.1)
          have R := Lib.hid (R.out.below hd.below); have B := Lib.hid (bthen B.out hd.below)
          clear hd F1 hc
          have f1 := impl_DotNumbers w14 aw cw (flo Z) R.out.arg aw cw (flo Z) R.out.arg k ZL.out ZL.out (by omega)
          rw [flo_cn] at f1
          have F1 := Lib.hid f1; clear f1
          go_wp2_with fail
          refine F1.out.mono ?_
          rintro e w15 ⟨rf, rfl, hc, hd⟩
          have AF := Lib.hid ((dotS_at HU.out k (by omega)).cn hc.out.1)
          have R := Lib.hid (R.out.below hd.below); have B := Lib.hid (bthen B.out hd.below)
          clear hd F1 hc
          have hqb := qS_bd HU.out k
          have hzb := zS_bd HU.out k
          have hwd := (widS_at HU.out k (by omega)).narrow (by unfold smallI; omega)
          have f1 := impl_DotWide w15 aw cw (flo Z) R.out.arg aw cw (flo Z) R.out.arg k ZL.out ZL.out (by omega) (by rw [flo_cn]; exact hwd.1)
          rw [flo_cn] at f1
          have F1 := Lib.hid f1; clear f1
          go_wp2_with fail
          refine F1.out.mono ?_
          rintro e w16 ⟨rg, rfl, hc, hd⟩
          have AG := Lib.hid (hwd.2.cn hc.out.1)
          have R := Lib.hid (R.out.below hd.below); have B := Lib.hid (bthen B.out hd.below)
          clear hd F1 hc hwd
          have o1 := AC.out.eq (At.int (k := .f32) (z := zS Z k) (by unfold smallI; omega))
          have o2 := AD.out.eq AC.out
          have o3 := AE.out.eq AC.out
          have o4 := AF.out.eq (At.int (k := .f32) (z := qS Z k) (by unfold smallI; omega))
          have o5 := AG.out.eq AF.out
          have O1 := Lib.hid o1; have O2 := Lib.hid o2; have O3 := Lib.hid o3; have O4 := Lib.hid o4; have O5 := Lib.hid o5
          clear o1 o2 o3 o4 o5 hqb hzb AC AD AE AF AG
          go_wp2
          go_loopw [32, 33, 34] (fun u v i wr => ∃ j : Nat, i = .int .i64 j ∧ j ≤ k ∧ u = .int .i64 (zS Z j) ∧ v = .int .i64 (qS Z j) ∧ Dr w16 wr) (fun _ _ i _ => k - (intOf i).toNat)
          case atStart => exact ⟨0, rfl, Nat.zero_le _, rfl, rfl, Dr.refl _⟩
          case round =>
            obtain ⟨j, rfl, hj, rfl, rfl, hd⟩ := hrel
            have hqb := qS_bd HU.out j
            have hzb := zS_bd HU.out j
            have hb3 := HU.out j
            by_cases hlt : j < k
            · have h3 := R.out.arg.below hd.below
              obtain ⟨b, off, rfl, _, hc⟩ := h3.spot (k := j) (by rw [ZL.out]; exact hlt)
              have hck := hc j (by rw [ZL.out]; exact hlt)
              have hzj : (flo Z).getD j 0 = floatOfInt .f32 (Z.getD j 0) := by
                have h4 := ZL.out
                simp only [flo, List.length_map] at h4
                simp [flo, show j < Z.length by omega]
              rw [hzj] at hck
              have hsq := sq_bd hb3
              have hnz : zS Z (j + 1) = zS Z j + Z.getD j 0 := rfl
              have hnq : qS Z (j + 1) = qS Z j + Z.getD j 0 * Z.getD j 0 := rfl
              obtain ⟨z, hz⟩ : ∃ z, z = Z.getD j 0 := ⟨_, rfl⟩
              obtain ⟨p, hp⟩ : ∃ p, p = zS Z j := ⟨_, rfl⟩
              obtain ⟨q, hq⟩ : ∃ q, q = qS Z j := ⟨_, rfl⟩
              rw [← hz] at hck hb3 hsq hnz hnq
              rw [← hp] at hzb hnz ⊢
              rw [← hq] at hqb hnq ⊢
              have hfi := int_back2 hb3
              obtain ⟨x, hx⟩ : ∃ x, x = floatOfInt .f32 z := ⟨_, rfl⟩
              rw [← hx] at hck hfi
              have hcv := fun w => run_convert_float_int (P := Try.prog) w 22 2 .f32 .i64 x z (by rw [Try.underlying22]; rfl) Try.underlying2 hfi
              clear hfi
              have HD := Lib.hid hd; have HNZ := Lib.hid hnz; have HNQ := Lib.hid hnq
              clear hz hp hq hx hc hzj h3 hd hnz hnq
              go_wp2
              go_quiet (fail)
              go_wp2
              go_roundw
              case rel => exact ⟨j + 1, by go_num, hlt, by rw [HNZ.out], by rw [HNQ.out], HD.out.drewN _⟩
              case measure => simp [intOf]; omega
            · have hjk : j = k := by omega
              subst hjk
              have o1 := O1.out; have o2 := O2.out; have o3 := O3.out; have o4 := O4.out; have o5 := O5.out
              obtain ⟨p, hp⟩ : ∃ p, p = zS Z j := ⟨_, rfl⟩
              obtain ⟨q, hq⟩ : ∃ q, q = qS Z j := ⟨_, rfl⟩
              rw [← hp] at hzb o1 ⊢
              rw [← hq] at hqb o4 ⊢
              clear hp hq
              go_wp2
              go_ret
              exact ⟨rfl, B.out.trans (hd.below.mono B.out.size)⟩
        · have k1i : (1 : Int) < k := by omega
          have hL : F32s w4 (some ⟨g, 0, none⟩) cap (xs.take m) := (R.out.arg.cut m (by rw [LN.out]; omega)).1
          have f1 := impl_SumPairs w4 (some ⟨g, 0, none⟩) cap (xs.take m) hL m (by rw [List.length_take, LN.out]; omega) (by omega)
          have F1 := Lib.hid f1; clear f1
          go_wp2_with fail
          refine F1.out.mono ?_
          rintro e w5 ⟨rl, rfl, hl5, hd⟩
          have R := Lib.hid (R.out.below hd.below); have B := Lib.hid (bthen B.out hd.below)
          clear hd F1 hL
          have hR : F32s w5 (some ⟨g, m, none⟩) (cap - m) (xs.drop m) := by have h := (R.out.arg.cut m (by rw [LN.out]; omega)).2; rwa [Nat.zero_add] at h
          have f1 := impl_SumPairs w5 (some ⟨g, m, none⟩) (cap - m) (xs.drop m) hR (k - m) (by rw [List.length_drop, LN.out] <;> omega) (by omega)
          have F1 := Lib.hid f1; clear f1
          go_wp2_with fail
          refine F1.out.mono ?_
          rintro e w6 ⟨rr, rfl, hr6, hd⟩
          have B := Lib.hid (bthen B.out hd.below)
          clear hd F1 hR R
          have HPQ := Lib.hid (show pairE X = fop .add .f32 (cn .f32 rl) (cn .f32 rr) by rw [hl5.out.1, hr6.out.1, pairE_many (by rw [HX.out, List.length_map, LN.out]; omega), HX.out, List.length_map, LN.out, ← List.map_take, ← List.map_drop, HM2.out])
          clear hl5 hr6
          go_wp2_with fail
          refine (spec_SameNumber ra s HA.out.2.1 HA.out.2.2.2.2 _).mono ?_
          rw [show decide (cn .f32 ra = cn .f32 s) = true from decide_eq_true HA.out.1]
          rintro e w7 ⟨rfl, hd⟩
          have B := Lib.hid (by first | exact bthen B.out hd.below | exact keepD B.out hd)
          clear hd
          go_wp2_with fail
          refine (spec_SameNumber rb s HA.out.2.2.2.1 HA.out.2.2.2.2 _).mono ?_
          rw [show decide (cn .f32 rb = cn .f32 s) = true from decide_eq_true HA.out.2.2.1]
          rintro e w8 ⟨rfl, hd⟩
          have B := Lib.hid (by first | exact bthen B.out hd.below | exact keepD B.out hd)
          clear hd HA
          go_wp2_with fail
          generalize hq : fbits BinOp.add FloatKind.f32 rl rr _ = qv
          have hqv : cn .f32 rp = cn .f32 qv ∧ qv < 4294967296 := by rw [← hq, cn_fbits, HP.out.1, HPQ.out]; exact ⟨rfl, fbits_lt _ .f32 _ _ _⟩
          clear hq
          refine (spec_SameNumber rp qv HP.out.2 hqv.2 _).mono ?_
          rw [show decide (cn .f32 rp = cn .f32 qv) = true from decide_eq_true hqv.1]
          rintro e w9 ⟨rfl, hd⟩
          have B := Lib.hid (by first | exact bthen B.out hd.below | exact keepD B.out hd)
          clear hd hqv HP HPQ
          go_wp2_with fail
          refine (b10_whole _ _ _ _ (AA1.out.below (by first | exact B.out | exact below_drewN B.out _)) k (by omega) 100 (by decide)).mono ?_
          rintro e w11 ⟨aw, cw, ys, rfl, hr, hz, hb⟩
          obtain ⟨Z, hZ, hu⟩ := wh_list ys hz.out
          subst hZ
          have R := Lib.hid hr
          have B := Lib.hid (by first | exact bthen B.out hb | exact bthen (below_drewN B.out _) hb)
          have hzl : (flo Z).length = k := hr.len
          have ZL := Lib.hid hzl; have HU := Lib.hid hu
          clear hr hb hz AA1 hzl hu
          have f1 := impl_SumNumbers w11 aw cw (flo Z) R.out.arg k ZL.out (by omega)
          rw [flo_cn] at f1
          have F1 := Lib.hid f1; clear f1
          go_wp2_with fail
          refine F1.out.mono ?_
          rintro e w12 ⟨rc, rfl, hc, hd⟩
          have AC := Lib.hid ((sumS_at HU.out k (by omega)).cn hc.out.1)
          have R := Lib.hid (R.out.below hd.below); have B := Lib.hid (bthen B.out hd.below)
          clear hd F1 hc
          have f1 := impl_SumPairs w12 aw cw (flo Z) R.out.arg k ZL.out (by omega)
          rw [flo_cn] at f1
          have F1 := Lib.hid f1; clear f1
          go_wp2_with fail
          refine F1.out.mono ?_
          rintro e w13 ⟨rd, rfl, hc, hd⟩
          have AD := Lib.hid ((pairE_at k Z (by have := ZL.out; simpa [flo] using this) (by omega) HU.out).cn hc.out.1)
          have R := Lib.hid (R.out.below hd.below); have B := Lib.hid (bthen B.out hd.below)
          clear hd F1 hc
          have f1 := impl_SumCarried w13 aw cw (flo Z) R.out.arg k ZL.out (by omega)
          rw [flo_cn] at f1
          have F1 := Lib.hid f1; clear f1
          go_wp2_with fail
          refine F1.out.mono ?_
          rintro e w14 ⟨re, rfl, hc, hd⟩
          have AE := Lib.hid ((carS_at HU.out k (by omega)).1.cn hc.out.1)
          have R := Lib.hid (R.out.below hd.below); have B := Lib.hid (bthen B.out hd.below)
          clear hd F1 hc
          have f1 := impl_DotNumbers w14 aw cw (flo Z) R.out.arg aw cw (flo Z) R.out.arg k ZL.out ZL.out (by omega)
          rw [flo_cn] at f1
          have F1 := Lib.hid f1; clear f1
          go_wp2_with fail
          refine F1.out.mono ?_
          rintro e w15 ⟨rf, rfl, hc, hd⟩
          have AF := Lib.hid ((dotS_at HU.out k (by omega)).cn hc.out.1)
          have R := Lib.hid (R.out.below hd.below); have B := Lib.hid (bthen B.out hd.below)
          clear hd F1 hc
          have hqb := qS_bd HU.out k
          have hzb := zS_bd HU.out k
          have hwd := (widS_at HU.out k (by omega)).narrow (by unfold smallI; omega)
          have f1 := impl_DotWide w15 aw cw (flo Z) R.out.arg aw cw (flo Z) R.out.arg k ZL.out ZL.out (by omega) (by rw [flo_cn]; exact hwd.1)
          rw [flo_cn] at f1
          have F1 := Lib.hid f1; clear f1
          go_wp2_with fail
          refine F1.out.mono ?_
          rintro e w16 ⟨rg, rfl, hc, hd⟩
          have AG := Lib.hid (hwd.2.cn hc.out.1)
          have R := Lib.hid (R.out.below hd.below); have B := Lib.hid (bthen B.out hd.below)
          clear hd F1 hc hwd
          have o1 := AC.out.eq (At.int (k := .f32) (z := zS Z k) (by unfold smallI; omega))
          have o2 := AD.out.eq AC.out
          have o3 := AE.out.eq AC.out
          have o4 := AF.out.eq (At.int (k := .f32) (z := qS Z k) (by unfold smallI; omega))
          have o5 := AG.out.eq AF.out
          have O1 := Lib.hid o1; have O2 := Lib.hid o2; have O3 := Lib.hid o3; have O4 := Lib.hid o4; have O5 := Lib.hid o5
          clear o1 o2 o3 o4 o5 hqb hzb AC AD AE AF AG
          go_wp2
          go_loopw [32, 33, 34] (fun u v i wr => ∃ j : Nat, i = .int .i64 j ∧ j ≤ k ∧ u = .int .i64 (zS Z j) ∧ v = .int .i64 (qS Z j) ∧ Dr w16 wr) (fun _ _ i _ => k - (intOf i).toNat)
          case atStart => exact ⟨0, rfl, Nat.zero_le _, rfl, rfl, Dr.refl _⟩
          case round =>
            obtain ⟨j, rfl, hj, rfl, rfl, hd⟩ := hrel
            have hqb := qS_bd HU.out j
            have hzb := zS_bd HU.out j
            have hb3 := HU.out j
            by_cases hlt : j < k
            · have h3 := R.out.arg.below hd.below
              obtain ⟨b, off, rfl, _, hc⟩ := h3.spot (k := j) (by rw [ZL.out]; exact hlt)
              have hck := hc j (by rw [ZL.out]; exact hlt)
              have hzj : (flo Z).getD j 0 = floatOfInt .f32 (Z.getD j 0) := by
                have h4 := ZL.out
                simp only [flo, List.length_map] at h4
                simp [flo, show j < Z.length by omega]
              rw [hzj] at hck
              have hsq := sq_bd hb3
              have hnz : zS Z (j + 1) = zS Z j + Z.getD j 0 := rfl
              have hnq : qS Z (j + 1) = qS Z j + Z.getD j 0 * Z.getD j 0 := rfl
              obtain ⟨z, hz⟩ : ∃ z, z = Z.getD j 0 := ⟨_, rfl⟩
              obtain ⟨p, hp⟩ : ∃ p, p = zS Z j := ⟨_, rfl⟩
              obtain ⟨q, hq⟩ : ∃ q, q = qS Z j := ⟨_, rfl⟩
              rw [← hz] at hck hb3 hsq hnz hnq
              rw [← hp] at hzb hnz ⊢
              rw [← hq] at hqb hnq ⊢
              have hfi := int_back2 hb3
              obtain ⟨x, hx⟩ : ∃ x, x = floatOfInt .f32 z := ⟨_, rfl⟩
              rw [← hx] at hck hfi
              have hcv := fun w => run_convert_float_int (P := Try.prog) w 22 2 .f32 .i64 x z (by rw [Try.underlying22]; rfl) Try.underlying2 hfi
              clear hfi
              have HD := Lib.hid hd; have HNZ := Lib.hid hnz; have HNQ := Lib.hid hnq
              clear hz hp hq hx hc hzj h3 hd hnz hnq
              go_wp2
              go_quiet (fail)
              go_wp2
              go_roundw
              case rel => exact ⟨j + 1, by go_num, hlt, by rw [HNZ.out], by rw [HNQ.out], HD.out.drewN _⟩
              case measure => simp [intOf]; omega
            · have hjk : j = k := by omega
              subst hjk
              have o1 := O1.out; have o2 := O2.out; have o3 := O3.out; have o4 := O4.out; have o5 := O5.out
              obtain ⟨p, hp⟩ : ∃ p, p = zS Z j := ⟨_, rfl⟩
              obtain ⟨q, hq⟩ : ∃ q, q = qS Z j := ⟨_, rfl⟩
              rw [← hp] at hzb o1 ⊢
              rw [← hq] at hqb o4 ⊢
              clear hp hq
              go_wp2
              go_ret
              exact ⟨rfl, B.out.trans (hd.below.mono B.out.size)⟩
end Go.Proofs.Ytaocilimggpdjaa
