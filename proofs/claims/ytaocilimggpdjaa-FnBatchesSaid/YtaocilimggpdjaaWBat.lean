/- The law of batches, walked. No condition. -/
import Derived.Test.YtaocilimggpdjaaBat
import Derived.Test.YtaocilimggpdjaaTen
import Derived.Test.YtaocilimggpdjaaDrl
namespace Go.Proofs.Ytaocilimggpdjaa
open Go Go.RowKit
set_option linter.unusedVariables false
set_option linter.unusedSimpArgs false
theorem seenL_all (c b : Nat) (s : Int) (hc : 1 ≤ c) : seenL c b (shAll c s) = seenL c (b + 1) [] := by
  apply List.ext_getElem?
  intro i
  by_cases hi : i < c
  · simp [seenL, List.getElem?_map, List.getElem?_range, hi, shAll_count c s hc i]
  · rw [List.getElem?_eq_none (by rw [seenL_length]; omega), List.getElem?_eq_none (by rw [seenL_length]; omega)]
theorem seenL_two {c i : Nat} (h : i < c) : (seenL c 2 []).getD i 0 = 2 := by rw [seenL_getD h]; simp
theorem seenL_bd {c b v : Nat} {l : List Int} (h : v < c) : ∃ x : Nat, (seenL c b l).getD v 0 = x ∧ x ≤ b + l.length := ⟨_, seenL_getD h, by have := List.count_le_length (a := (v : Int)) (l := l); omega⟩
theorem made_seen (c : Nat) : (madeCells #[Value.int .i64 0] c).toList = (seenL c 0 []).map (Value.int .i64) := by
  rw [toList_madeCells_one, seenL_zero, List.map_replicate]
theorem bat_arith {c batch K r : Nat} (hb : 1 ≤ batch) (hc : 1 ≤ c) (hK : ((c : Int) + batch - 1) / batch = K) : (r < K → r * batch < c) ∧ (r + 1 < K → r * batch + batch ≤ c) ∧ c ≤ K * batch ∧ 1 ≤ K ∧ K ≤ c := by
  have h1 : (c : Int) + batch - 1 = ((c + batch - 1 : Nat) : Int) := by omega
  rw [h1, ← Int.natCast_ediv] at hK
  have hK2 : (c + batch - 1) / batch = K := by exact_mod_cast hK
  have e := Nat.div_add_mod (c + batch - 1) batch
  have m := Nat.mod_lt (c + batch - 1) (show batch > 0 by omega)
  rw [hK2] at e
  have hKc : c ≤ K * batch := by rw [Nat.mul_comm]; omega
  refine ⟨fun h => ?_, fun h => ?_, hKc, ?_, ?_⟩
  · have : r * batch + batch ≤ K * batch := by rw [← Nat.succ_mul]; exact Nat.mul_le_mul_right _ h
    rw [Nat.mul_comm K] at this; omega
  · have : (r + 1) * batch + batch ≤ K * batch := by rw [← Nat.succ_mul]; exact Nat.mul_le_mul_right _ h
    rw [Nat.mul_comm K, Nat.succ_mul] at this; omega
  · rcases Nat.eq_zero_or_pos K with h | h
    · subst h; omega
    · exact h
  · rcases Nat.lt_or_ge c K with h | h
    · have : (c + 1) * batch ≤ K * batch := Nat.mul_le_mul_right _ h
      have h2 : c * 1 ≤ c * batch := Nat.mul_le_mul_left _ hb
      rw [Nat.mul_comm K, Nat.succ_mul] at this; omega
    · exact h
set_option maxHeartbeats 8000000 in
set_option maxRecDepth 100000 in
theorem fnBatches_walk (w : World) (a0 : Option Addr) (c0 : Nat) (l0 : List Int) (A0 : Ints .u8 w a0 c0 l0) (a1 : Option Addr) (c1 : Nat) (l1 : List Int) (A1 : Ints .u8 w a1 c1 l1) :
    Calls Try.prog 13 #[.slice a0 l0.length c0, .slice a1 l1.length c1] w fun e w' => e = .returned (.bool true) ∧ Below w.heap.size w w' := by
  by_cases hlong : l0.length ≤ 1048576 ∧ l1.length ≤ 1048576
  rotate_left
  · go_enter Try.func13, Try.ntmps13
    go_wp2_with fail
    refine (b10Long_yes _ _ _ _ _ _ _ hlong).mono ?_
    rintro e w1 ⟨rfl, rfl⟩
    go_wp2
    go_ret
    exact ⟨rfl, Below.refl _ _⟩
  obtain ⟨hl0, hl1⟩ := hlong
  obtain ⟨i0, hi, hz0, hz1, hz2⟩ := info_parts info_i64
  have AA0 := Lib.hid A0; have AA1 := Lib.hid A1
  clear A0 A1
  go_enter Try.func13, Try.ntmps13
  go_wp2_with fail
  refine (b10Long_no _ _ _ _ _ _ _ hl0 hl1).mono ?_
  rintro e w1 ⟨rfl, rfl⟩
  clear hl0 hl1
  go_wp2_with fail
  refine (b10At_any _ _ _ _ AA0.out 0 16 (by decide) (by decide) (by decide) (by decide)).mono ?_
  rintro e w1 ⟨r0, rfl, hr0, rfl⟩
  go_wp2_with fail
  refine (b10At_any _ _ _ _ AA0.out 1 8 (by decide) (by decide) (by decide) (by decide)).mono ?_
  rintro e w1 ⟨r1, rfl, hr1, rfl⟩
  go_wp2_with fail
  refine (b10At_any _ _ _ _ AA1.out 0 256 (by decide) (by decide) (by decide) (by decide)).mono ?_
  rintro e w1 ⟨r2, rfl, hr2, rfl⟩
  go_wp2_with fail
  refine (b10At_any _ _ _ _ AA1.out 1 256 (by decide) (by decide) (by decide) (by decide)).mono ?_
  rintro e w1 ⟨r3, rfl, hr3, rfl⟩
  go_wp2_with fail
  refine (b10At_any _ _ _ _ AA1.out 2 20 (by decide) (by decide) (by decide) (by decide)).mono ?_
  rintro e w1 ⟨ep, rfl, hep, rfl⟩
  obtain ⟨c, hcE⟩ : ∃ c : Nat, 1 + (r0 : Int) = c := ⟨1 + r0, by omega⟩
  obtain ⟨batch, hbE⟩ : ∃ b : Nat, 1 + (r1 : Int) = b := ⟨1 + r1, by omega⟩
  obtain ⟨sd, hsE⟩ : ∃ s : Nat, 65536 * (r2 : Int) + r3 = s := ⟨65536 * r2 + r3, by omega⟩
  have hc1 : 1 ≤ c := by omega
  have hc2 : c ≤ 16 := by omega
  have hb1 : 1 ≤ batch := by omega
  have hb2 : batch ≤ 8 := by omega
  have hs0 : (0 : Int) ≤ sd := by omega
  have hs1 : (sd : Int) ≤ 2147483647 := by omega
  have ks := fun W => impl_ShuffleRows W c hc1 hc2 sd hs0 hs1
  have kn := fun W => impl_NextSeed sd W
  rw [if_pos (inB_iff.2 ⟨hs0, hs1⟩)] at kn
  have hq := shSeed_bd hs0 hs1 (c - 1)
  have hx := nextS_bd (sd : Int)
  have hqx : c = 2 → shSeed (sd : Int) (c - 1) = nextS sd := by rintro rfl; rfl
  have hcnt := seenL_all c 0 sd hc1
  have hat := fun i (hi : i < c) => shAll_at (s := (sd : Int)) hc1 hi
  have hln := shAll_length c sd
  obtain ⟨q, hqe⟩ : ∃ q, q = shSeed (sd : Int) (c - 1) := ⟨_, rfl⟩
  obtain ⟨x, hxe⟩ : ∃ x, x = nextS (sd : Int) := ⟨_, rfl⟩
  obtain ⟨R1, hR1⟩ : ∃ R, R = shAll c sd := ⟨_, rfl⟩
  rw [← hqe] at ks hq hqx
  rw [← hxe] at kn hx hqx
  rw [← hR1] at ks hcnt hat hln
  have KS := Lib.hid ks; have KN := Lib.hid kn; have CN := Lib.hid hcnt; have AT := Lib.hid hat; have LN := Lib.hid hln
  clear ks kn hqe hxe hR1 hcnt hat hln AA0 AA1
  go_wp2_with fail
  refine (KS.out _).mono ?_
  rintro e w1 ⟨ad, cap, rfl, hr, hbw⟩
  have HR := Lib.hid hr; have HB := Lib.hid hbw; clear hr hbw KS
  go_wp2_with fail
  refine (KN.out _).mono ?_
  rintro e w2 ⟨rfl, rfl⟩
  clear KN
  have hqx2 : ((c : Int) == 2) = true → q = x := fun h => hqx (by have : (c : Int) = 2 := by simpa using h
                                                                  omega)
  obtain ⟨b2, hb2e⟩ : ∃ b, ((c : Int) == 2) = b := ⟨_, rfl⟩
  rw [hb2e] at hqx2
  clear hqx
  cases b2
  case true =>
    obtain rfl := hqx2 rfl
    clear hqx2
    go_wp2_with (at_make; refine wpList_make_full _ rfl _ _ 61 rfl w1.heap.size 2 i0 (.int .i64 0) 1 Try.underlying61 hi hz0 hz1 .i64 .i64 _ _ c rfl rfl rfl rfl ?c1 ?c2 ?c3 ?_)
    case c1 => rw [hz2]; omega
    case c2 => unfold maxLen; omega
    case c3 => exact Nat.le_refl _
    intro w4 hown hg
    clear hcE hbE hsE hb2e hr0 hr1 hr2 hr3
    rw [made_seen] at hown
    have hb4 : Below w1.heap.size w1 w4 := (Below.refl _ _).grown hg (Nat.le_refl _) (fun k e => by cases e)
    have HR := Lib.hid (HR.out.below hb4)
    have HB4 := Lib.hid hb4; have HOW := Lib.hid hown
    clear hb4 hown hg
    obtain ⟨ws, hws⟩ : ∃ ws, ws = w1.heap.size := ⟨_, rfl⟩
    have hwl : w.heap.size ≤ ws := by have := HB.out.size; omega
    rw [← hws] at HR HB4 HOW ⊢
    have HWS := Lib.hid hws; clear hws
    go_wp2
    go_loopw [15] (fun i wr => ∃ k : Nat, i = .int .i64 k ∧ k ≤ c ∧ Hid (wr.ownsRow ws 2 1 (.slice (some ⟨ws, 0, none⟩) c c) c ((seenL c 0 (R1.take k)).map (Value.int .i64)) ∧ RepI wr w.heap.size ws ad c cap R1) ∧ Hid (Below ws w1 wr)) (fun i _ => c - (intOf i).toNat)
    case atStart => exact ⟨0, rfl, Nat.zero_le _, Lib.hid ⟨by simpa using HOW.out, HR.out⟩, HB4⟩
    case round =>
      clear HOW HR HB4
      obtain ⟨k, rfl, hk, HOP, HBW⟩ := hrel
      by_cases hlt : k < c
      · obtain ⟨b, off, rfl, _, hcs⟩ := HOP.out.2.arg.spot (k := .i64) (i := k) (by rw [LN.out]; exact hlt)
        have hcell := hcs k (by rw [LN.out]; exact hlt)
        have ha := AT.out k hlt
        obtain ⟨vN, hvN⟩ : ∃ vN : Nat, R1.getD k 0 = vN := ⟨_, (Int.toNat_of_nonneg ha.1).symm⟩
        rw [hvN] at ha hcell
        have hvc : vN < c := by omega
        have hv0 : (0 : Int) ≤ vN := by omega
        have hv1 : (vN : Int) < c := by omega
        obtain ⟨y, hy, hyb⟩ := seenL_bd (b := 0) (l := R1.take k) hvc
        have hyb2 : y ≤ 100 := by have : (R1.take k).length ≤ 16 := by { rw [List.length_take]; omega }
                                  omega
        have hd : wr.cell? ⟨ws, vN, none⟩ = some (.int .i64 y) := by rw [HOP.out.1.cellAt vN (by omega), map_getD_at (by rw [seenL_length]; exact hvc), hy]
        have hfz := HOP.out.1.frozenAt vN
        have hst := HOP.out.1.stored vN (.int .i64 (y + 1))
        have hnx : ((seenL c 0 (R1.take k)).map (Value.int .i64)).set vN (.int .i64 ((y : Int) + 1)) = (seenL c 0 (R1.take (k + 1))).map (Value.int .i64) := by
          rw [← hy, ← List.map_set, seenL_next hvc, take_next (by rw [LN.out]; exact hlt), hvN]
        rw [hnx] at hst
        have hbne : b ≠ ws := by
          intro e
          subst e
          have h1 := HOP.out.2.row.top b (by rfl)
          omega
        have hrp : RepI (wr.setCell ⟨ws, vN, none⟩ (.int .i64 (y + 1))) w.heap.size ws (some ⟨b, off, none⟩) c cap R1 :=
          HOP.out.2.touch (lo2 := ws) (hi2 := ws + 1) touch_cell (.inl (by omega))
        have HS := Lib.hid (And.intro hst.1 hrp)
        have HBB := Lib.hid (HBW.out.setCell (Nat.le_refl ws) (p := ⟨ws, vN, none⟩) (.int .i64 ((y : Int) + 1)))
        clear hst hnx hrp hy hvN hcs HOP HBW ha
        go_wp2
        go_roundw
        case rel => exact ⟨k + 1, by go_num, hlt, HS, HBB⟩
        case measure => simp [intOf]; omega
      · have hkc : k = c := by omega
        subst hkc
        obtain ⟨K, hKE⟩ : ∃ K : Nat, ((k : Int) + batch - 1) / batch = K := ⟨(((k : Int) + batch - 1) / batch).toNat, (Int.toNat_of_nonneg (Int.ediv_nonneg (by omega) (by omega))).symm⟩
        have hKb := bat_arith (r := 0) hb1 hc1 hKE
        have hKs := fun r => bat_arith (r := r) hb1 hc1 hKE
        have hseen : wr.ownsRow ws 2 1 (.slice (some ⟨ws, 0, none⟩) k k) k ((seenL k 1 []).map (Value.int .i64)) := by
          have h := HOP.out.1
          rw [List.take_of_length_le (by rw [LN.out]; exact Nat.le_refl _), CN.out] at h
          exact h
        have HOW := Lib.hid hseen
        have hlnx := shAll_length k (nextS (((sd : Int) + 7919 * ep) % 2147483648))
        have hcn2 := seenL_all k 1 (nextS (((sd : Int) + 7919 * ep) % 2147483648)) hc1
        have hat2 := fun i (hi : i < k) => shAll_at (s := nextS (((sd : Int) + 7919 * ep) % 2147483648)) hc1 hi
        have hba := fun (W : World) (r F t : Nat) hr hF hFc ht hst => impl_BatchOf W k hc1 hc2 batch hb1 (by omega) sd hs0 hs1 ep r K hKE hKb.2.2.2.1 hr F t hF hFc ht hst
        obtain ⟨R2, hR2⟩ : ∃ R, R = shAll k (nextS (((sd : Int) + 7919 * ep) % 2147483648)) := ⟨_, rfl⟩
        rw [← hR2] at hlnx hcn2 hat2
        have BA := Lib.hid (fun (W : World) (r F t : Nat) hr hF hFc ht hst => by have := hba W r F t hr hF hFc ht hst; rw [← hR2] at this; exact this)
        have AT2 := Lib.hid hat2; have CN2 := Lib.hid hcn2; have KS := Lib.hid hKs
        have hKc := hKb.2.2.2.2
        clear hseen hcn2 hat2 hba hR2 hKb hKs HOP AT CN LN
        obtain ⟨c, hcc⟩ : ∃ c, c = k := ⟨_, rfl⟩
        subst hcc
        obtain ⟨wb, hwb⟩ : ∃ wb : World, wb = wr := ⟨_, rfl⟩
        subst hwb
        go_wp2
        rw [hKE]
        go_loopw [17] (fun i wr => ∃ r : Nat, i = .int .i64 r ∧ r ≤ K ∧ Hid (wr.ownsRow ws 2 1 (.slice (some ⟨ws, 0, none⟩) c c) c ((seenL c 1 (R2.take (r * batch))).map (Value.int .i64))) ∧ Hid (Below ws w1 wr)) (fun i _ => K - (intOf i).toNat)
        case atStart => exact ⟨0, rfl, Nat.zero_le _, Lib.hid (by simpa using HOW.out), HBW⟩
        case round =>
          clear HOW HBW
          obtain ⟨r, rfl, hr, HOW, HBW⟩ := hrel
          by_cases hlt : r < K
          · obtain ⟨F, hF⟩ : ∃ F, F = r * batch := ⟨_, rfl⟩
            obtain ⟨t, ht⟩ : ∃ t, t = min (F + batch) c := ⟨_, rfl⟩
            have kk := KS.out r
            have hFc : F < c := by rw [hF]; exact kk.1 hlt
            have hFn : r + 1 < K → F + batch ≤ c := by rw [hF]; exact kk.2.1
            have hst2 : ep * K + r ≤ 1000 := by
              have h1 : ep * K ≤ 19 * 16 := Nat.mul_le_mul (by omega) (by omega)
              omega
            have hbt := BA.out wr r F t hlt hF hFc ht hst2
            have hmt : 1 ≤ t - F ∧ t - F ≤ batch ∧ F + (t - F) ≤ c := by omega
            have hmn : r + 1 < K → t - F = batch := by omega
            have hnx2 : R2.take (F + (t - F)) = R2.take ((r + 1) * batch) := by
              rw [Nat.succ_mul, ← hF]
              by_cases hcase : F + batch ≤ c
              · congr 1; omega
              · rw [List.take_of_length_le (by omega), List.take_of_length_le (by omega)]
            obtain ⟨m, hm⟩ : ∃ m, m = t - F := ⟨_, rfl⟩
            rw [← hm] at hbt hmt hmn hnx2
            rw [← hF] at HOW
            have hsI : ((ep * K + r : Nat) : Int) = (ep : Int) * K + r := by simp
            rw [hsI] at hbt
            have HBT := Lib.hid hbt; have HN2 := Lib.hid hnx2
            obtain ⟨hm1, hm2, hm3⟩ := hmt
            have hm0 : ((m : Int) == 0) = false := by simp; omega
            have hm5 : ¬ batch < m := by omega
            have hm6 : decide (batch < m) = false := by simp; omega
            have hmul : (0 : Int) ≤ (ep : Int) * K ∧ (ep : Int) * K ≤ 304 := by
              have h1 : ep * K ≤ 19 * 16 := Nat.mul_le_mul (by omega) (by omega)
              have h2 : ((ep * K : Nat) : Int) = (ep : Int) * K := by simp
              omega
            clear hbt hnx2 hm ht hF kk hsI hFn
            go_wp2_with fail
            refine HBT.out.mono ?_
            rintro e wz ⟨adp, capp, rfl, hp, hbz⟩
            have HP := Lib.hid hp
            have hwsz : ws < wr.heap.size := (HOW.out.lt ws rfl).2
            have HOW := Lib.hid (owns_below HOW.out hbz)
            have HBW := Lib.hid (HBW.out.trans (hbz.mono (by omega)))
            clear hp hbz HBT
            obtain ⟨wv, hwv⟩ : ∃ wv : World, wv = wr := ⟨_, rfl⟩
            rw [← hwv] at HP hwsz
            clear hwv
            obtain ⟨bn, hbn⟩ : ∃ bn, decide ((r : Int) + 1 < K) = bn := ⟨_, rfl⟩
            cases bn
            case true =>
              obtain rfl := hmn (by have := of_decide_eq_true hbn; omega)
              go_wp2
              clear hmul hst2 hbn hKE hm0
              go_loopw [20] (fun i wr => ∃ j : Nat, i = .int .i64 j ∧ j ≤ m ∧ Hid (wr.ownsRow ws 2 1 (.slice (some ⟨ws, 0, none⟩) c c) c ((seenL c 1 (R2.take (F + j))).map (Value.int .i64)) ∧ RepI wr wv.heap.size wz.heap.size adp m capp ((R2.drop F).take m)) ∧ Hid (Below ws w1 wr)) (fun i _ => m - (intOf i).toNat)
              case atStart => exact ⟨0, rfl, Nat.zero_le _, Lib.hid ⟨HOW.out, HP.out⟩, HBW⟩
              case round =>
                clear HOW HP HBW
                obtain ⟨j, rfl, hj, HOP, HBW⟩ := hrel
                by_cases hlt2 : j < m
                · have hlen2 : ((R2.drop F).take m).length = m := HOP.out.2.len
                  obtain ⟨b, off, rfl, _, hcs⟩ := HOP.out.2.arg.spot (k := .i64) (i := j) (by omega)
                  have hcell := hcs j (by omega)
                  have hval : ((R2.drop F).take m).getD j 0 = R2.getD (F + j) 0 := by
                    rw [List.getD_eq_getElem?_getD, List.getD_eq_getElem?_getD, List.getElem?_take, if_pos hlt2, List.getElem?_drop]
                  rw [hval] at hcell
                  have ha := AT2.out (F + j) (by omega)
                  obtain ⟨vN, hvN⟩ : ∃ vN : Nat, R2.getD (F + j) 0 = vN := ⟨_, (Int.toNat_of_nonneg ha.1).symm⟩
                  rw [hvN] at ha hcell
                  have hvc : vN < c := by omega
                  have hv0 : (0 : Int) ≤ vN := by omega
                  have hv1 : (vN : Int) < c := by omega
                  obtain ⟨y, hy, hyb⟩ := seenL_bd (b := 1) (l := R2.take (F + j)) hvc
                  have hyb2 : y ≤ 100 := by have : (R2.take (F + j)).length ≤ 16 := by { rw [List.length_take]; omega }
                                            omega
                  have hd : wr.cell? ⟨ws, vN, none⟩ = some (.int .i64 y) := by rw [HOP.out.1.cellAt vN (by omega), map_getD_at (by rw [seenL_length]; exact hvc), hy]
                  have hfz := HOP.out.1.frozenAt vN
                  have hst := HOP.out.1.stored vN (.int .i64 (y + 1))
                  have hnx : ((seenL c 1 (R2.take (F + j))).map (Value.int .i64)).set vN (.int .i64 ((y : Int) + 1)) = (seenL c 1 (R2.take (F + (j + 1)))).map (Value.int .i64) := by
                    rw [← hy, ← List.map_set, seenL_next hvc, ← Nat.add_assoc, take_next (by omega), hvN]
                  rw [hnx] at hst
                  have hbne : b ≠ ws := by
                    intro e
                    subst e
                    have h1 := HOP.out.2.row.own.lt b (by rfl)
                    omega
                  have hrp : RepI (wr.setCell ⟨ws, vN, none⟩ (.int .i64 (y + 1))) wv.heap.size wz.heap.size (some ⟨b, off, none⟩) m capp ((R2.drop F).take m) :=
                    HOP.out.2.touch (lo2 := ws) (hi2 := ws + 1) touch_cell (.inr (by omega))
                  have HS := Lib.hid (And.intro hst.1 hrp)
                  have HBB := Lib.hid (HBW.out.setCell (Nat.le_refl ws) (p := ⟨ws, vN, none⟩) (.int .i64 ((y : Int) + 1)))
                  clear hst hnx hrp hy hvN hval hcs HOP HBW hlen2 ha hyb hFc hlt hr hb1 hc1 hs0 hs1 hq hx hKc hlnx hm1 hm3
                  go_wp2
                  go_roundw
                  case rel => exact ⟨j + 1, by go_num, hlt2, HS, HBB⟩
                  case measure => simp [intOf]; omega
                · have hjm : j = m := by omega
                  subst hjm
                  go_wp2
                  go_roundw
                  case rel => exact ⟨r + 1, by go_num, hlt, Lib.hid (by have h := HOP.out.1; rw [HN2.out] at h; exact h), HBW⟩
                  case measure => simp [intOf]; omega
            case false =>
              clear hmn
              go_wp2
              clear hmul hst2 hbn hKE hm0
              go_loopw [20] (fun i wr => ∃ j : Nat, i = .int .i64 j ∧ j ≤ m ∧ Hid (wr.ownsRow ws 2 1 (.slice (some ⟨ws, 0, none⟩) c c) c ((seenL c 1 (R2.take (F + j))).map (Value.int .i64)) ∧ RepI wr wv.heap.size wz.heap.size adp m capp ((R2.drop F).take m)) ∧ Hid (Below ws w1 wr)) (fun i _ => m - (intOf i).toNat)
              case atStart => exact ⟨0, rfl, Nat.zero_le _, Lib.hid ⟨HOW.out, HP.out⟩, HBW⟩
              case round =>
                clear HOW HP HBW
                obtain ⟨j, rfl, hj, HOP, HBW⟩ := hrel
                by_cases hlt2 : j < m
                · have hlen2 : ((R2.drop F).take m).length = m := HOP.out.2.len
                  obtain ⟨b, off, rfl, _, hcs⟩ := HOP.out.2.arg.spot (k := .i64) (i := j) (by omega)
                  have hcell := hcs j (by omega)
                  have hval : ((R2.drop F).take m).getD j 0 = R2.getD (F + j) 0 := by
                    rw [List.getD_eq_getElem?_getD, List.getD_eq_getElem?_getD, List.getElem?_take, if_pos hlt2, List.getElem?_drop]
                  rw [hval] at hcell
                  have ha := AT2.out (F + j) (by omega)
                  obtain ⟨vN, hvN⟩ : ∃ vN : Nat, R2.getD (F + j) 0 = vN := ⟨_, (Int.toNat_of_nonneg ha.1).symm⟩
                  rw [hvN] at ha hcell
                  have hvc : vN < c := by omega
                  have hv0 : (0 : Int) ≤ vN := by omega
                  have hv1 : (vN : Int) < c := by omega
                  obtain ⟨y, hy, hyb⟩ := seenL_bd (b := 1) (l := R2.take (F + j)) hvc
                  have hyb2 : y ≤ 100 := by have : (R2.take (F + j)).length ≤ 16 := by { rw [List.length_take]; omega }
                                            omega
                  have hd : wr.cell? ⟨ws, vN, none⟩ = some (.int .i64 y) := by rw [HOP.out.1.cellAt vN (by omega), map_getD_at (by rw [seenL_length]; exact hvc), hy]
                  have hfz := HOP.out.1.frozenAt vN
                  have hst := HOP.out.1.stored vN (.int .i64 (y + 1))
                  have hnx : ((seenL c 1 (R2.take (F + j))).map (Value.int .i64)).set vN (.int .i64 ((y : Int) + 1)) = (seenL c 1 (R2.take (F + (j + 1)))).map (Value.int .i64) := by
                    rw [← hy, ← List.map_set, seenL_next hvc, ← Nat.add_assoc, take_next (by omega), hvN]
                  rw [hnx] at hst
                  have hbne : b ≠ ws := by
                    intro e
                    subst e
                    have h1 := HOP.out.2.row.own.lt b (by rfl)
                    omega
                  have hrp : RepI (wr.setCell ⟨ws, vN, none⟩ (.int .i64 (y + 1))) wv.heap.size wz.heap.size (some ⟨b, off, none⟩) m capp ((R2.drop F).take m) :=
                    HOP.out.2.touch (lo2 := ws) (hi2 := ws + 1) touch_cell (.inr (by omega))
                  have HS := Lib.hid (And.intro hst.1 hrp)
                  have HBB := Lib.hid (HBW.out.setCell (Nat.le_refl ws) (p := ⟨ws, vN, none⟩) (.int .i64 ((y : Int) + 1)))
                  clear hst hnx hrp hy hvN hval hcs HOP HBW hlen2 ha hyb hFc hlt hr hb1 hc1 hs0 hs1 hq hx hKc hlnx hm1 hm3
                  go_wp2
                  go_roundw
                  case rel => exact ⟨j + 1, by go_num, hlt2, HS, HBB⟩
                  case measure => simp [intOf]; omega
                · have hjm : j = m := by omega
                  subst hjm
                  go_wp2
                  go_roundw
                  case rel => exact ⟨r + 1, by go_num, hlt, Lib.hid (by have h := HOP.out.1; rw [HN2.out] at h; exact h), HBW⟩
                  case measure => simp [intOf]; omega
          · have hrK : r = K := by omega
            subst hrK
            have hfin : wr.ownsRow ws 2 1 (.slice (some ⟨ws, 0, none⟩) c c) c ((seenL c 2 []).map (Value.int .i64)) := by
              have h := HOW.out
              rw [List.take_of_length_le (by have := (KS.out 0).2.2.1; omega), CN2.out] at h
              exact h
            have HOF := Lib.hid hfin
            clear hfin HOW BA AT2 CN2 KS
            obtain ⟨wy, hwy⟩ : ∃ wy : World, wy = wr := ⟨_, rfl⟩
            subst hwy
            go_wp2
            go_loopw [21] (fun i wr => ∃ k : Nat, i = .int .i64 k ∧ k ≤ c ∧ wr = wy) (fun i _ => c - (intOf i).toNat)
            case atStart => exact ⟨0, rfl, Nat.zero_le _, rfl⟩
            case round =>
              obtain ⟨k, rfl, hk, rfl⟩ := hrel
              by_cases hlt : k < c
              · have hd : wr.cell? ⟨ws, k, none⟩ = some (.int .i64 2) := by rw [HOF.out.cellAt k (by omega), map_getD_at (by rw [seenL_length]; exact hlt), seenL_two hlt]
                go_wp2
                go_roundw
                case rel => exact ⟨k + 1, by go_num, hlt, trivial⟩
                case measure => simp [intOf]; omega
              · have hkc : k = c := by omega
                subst hkc
                go_wp2
                go_ret
                exact ⟨rfl, HB.out.trans (HBW.out.mono hwl)⟩
  case false =>
    clear hqx2
    go_wp2_with (at_make; refine wpList_make_full _ rfl _ _ 61 rfl w1.heap.size 2 i0 (.int .i64 0) 1 Try.underlying61 hi hz0 hz1 .i64 .i64 _ _ c rfl rfl rfl rfl ?c1 ?c2 ?c3 ?_)
    case c1 => rw [hz2]; omega
    case c2 => unfold maxLen; omega
    case c3 => exact Nat.le_refl _
    intro w4 hown hg
    clear hcE hbE hsE hb2e hr0 hr1 hr2 hr3
    rw [made_seen] at hown
    have hb4 : Below w1.heap.size w1 w4 := (Below.refl _ _).grown hg (Nat.le_refl _) (fun k e => by cases e)
    have HR := Lib.hid (HR.out.below hb4)
    have HB4 := Lib.hid hb4; have HOW := Lib.hid hown
    clear hb4 hown hg
    obtain ⟨ws, hws⟩ : ∃ ws, ws = w1.heap.size := ⟨_, rfl⟩
    have hwl : w.heap.size ≤ ws := by have := HB.out.size; omega
    rw [← hws] at HR HB4 HOW ⊢
    have HWS := Lib.hid hws; clear hws
    go_wp2
    go_loopw [15] (fun i wr => ∃ k : Nat, i = .int .i64 k ∧ k ≤ c ∧ Hid (wr.ownsRow ws 2 1 (.slice (some ⟨ws, 0, none⟩) c c) c ((seenL c 0 (R1.take k)).map (Value.int .i64)) ∧ RepI wr w.heap.size ws ad c cap R1) ∧ Hid (Below ws w1 wr)) (fun i _ => c - (intOf i).toNat)
    case atStart => exact ⟨0, rfl, Nat.zero_le _, Lib.hid ⟨by simpa using HOW.out, HR.out⟩, HB4⟩
    case round =>
      clear HOW HR HB4
      obtain ⟨k, rfl, hk, HOP, HBW⟩ := hrel
      by_cases hlt : k < c
      · obtain ⟨b, off, rfl, _, hcs⟩ := HOP.out.2.arg.spot (k := .i64) (i := k) (by rw [LN.out]; exact hlt)
        have hcell := hcs k (by rw [LN.out]; exact hlt)
        have ha := AT.out k hlt
        obtain ⟨vN, hvN⟩ : ∃ vN : Nat, R1.getD k 0 = vN := ⟨_, (Int.toNat_of_nonneg ha.1).symm⟩
        rw [hvN] at ha hcell
        have hvc : vN < c := by omega
        have hv0 : (0 : Int) ≤ vN := by omega
        have hv1 : (vN : Int) < c := by omega
        obtain ⟨y, hy, hyb⟩ := seenL_bd (b := 0) (l := R1.take k) hvc
        have hyb2 : y ≤ 100 := by have : (R1.take k).length ≤ 16 := by { rw [List.length_take]; omega }
                                  omega
        have hd : wr.cell? ⟨ws, vN, none⟩ = some (.int .i64 y) := by rw [HOP.out.1.cellAt vN (by omega), map_getD_at (by rw [seenL_length]; exact hvc), hy]
        have hfz := HOP.out.1.frozenAt vN
        have hst := HOP.out.1.stored vN (.int .i64 (y + 1))
        have hnx : ((seenL c 0 (R1.take k)).map (Value.int .i64)).set vN (.int .i64 ((y : Int) + 1)) = (seenL c 0 (R1.take (k + 1))).map (Value.int .i64) := by
          rw [← hy, ← List.map_set, seenL_next hvc, take_next (by rw [LN.out]; exact hlt), hvN]
        rw [hnx] at hst
        have hbne : b ≠ ws := by
          intro e
          subst e
          have h1 := HOP.out.2.row.top b (by rfl)
          omega
        have hrp : RepI (wr.setCell ⟨ws, vN, none⟩ (.int .i64 (y + 1))) w.heap.size ws (some ⟨b, off, none⟩) c cap R1 :=
          HOP.out.2.touch (lo2 := ws) (hi2 := ws + 1) touch_cell (.inl (by omega))
        have HS := Lib.hid (And.intro hst.1 hrp)
        have HBB := Lib.hid (HBW.out.setCell (Nat.le_refl ws) (p := ⟨ws, vN, none⟩) (.int .i64 ((y : Int) + 1)))
        clear hst hnx hrp hy hvN hcs HOP HBW ha
        go_wp2
        go_roundw
        case rel => exact ⟨k + 1, by go_num, hlt, HS, HBB⟩
        case measure => simp [intOf]; omega
      · have hkc : k = c := by omega
        subst hkc
        obtain ⟨K, hKE⟩ : ∃ K : Nat, ((k : Int) + batch - 1) / batch = K := ⟨(((k : Int) + batch - 1) / batch).toNat, (Int.toNat_of_nonneg (Int.ediv_nonneg (by omega) (by omega))).symm⟩
        have hKb := bat_arith (r := 0) hb1 hc1 hKE
        have hKs := fun r => bat_arith (r := r) hb1 hc1 hKE
        have hseen : wr.ownsRow ws 2 1 (.slice (some ⟨ws, 0, none⟩) k k) k ((seenL k 1 []).map (Value.int .i64)) := by
          have h := HOP.out.1
          rw [List.take_of_length_le (by rw [LN.out]; exact Nat.le_refl _), CN.out] at h
          exact h
        have HOW := Lib.hid hseen
        have hlnx := shAll_length k (nextS (((sd : Int) + 7919 * ep) % 2147483648))
        have hcn2 := seenL_all k 1 (nextS (((sd : Int) + 7919 * ep) % 2147483648)) hc1
        have hat2 := fun i (hi : i < k) => shAll_at (s := nextS (((sd : Int) + 7919 * ep) % 2147483648)) hc1 hi
        have hba := fun (W : World) (r F t : Nat) hr hF hFc ht hst => impl_BatchOf W k hc1 hc2 batch hb1 (by omega) sd hs0 hs1 ep r K hKE hKb.2.2.2.1 hr F t hF hFc ht hst
        obtain ⟨R2, hR2⟩ : ∃ R, R = shAll k (nextS (((sd : Int) + 7919 * ep) % 2147483648)) := ⟨_, rfl⟩
        rw [← hR2] at hlnx hcn2 hat2
        have BA := Lib.hid (fun (W : World) (r F t : Nat) hr hF hFc ht hst => by have := hba W r F t hr hF hFc ht hst; rw [← hR2] at this; exact this)
        have AT2 := Lib.hid hat2; have CN2 := Lib.hid hcn2; have KS := Lib.hid hKs
        have hKc := hKb.2.2.2.2
        clear hseen hcn2 hat2 hba hR2 hKb hKs HOP AT CN LN
        obtain ⟨c, hcc⟩ : ∃ c, c = k := ⟨_, rfl⟩
        subst hcc
        obtain ⟨wb, hwb⟩ : ∃ wb : World, wb = wr := ⟨_, rfl⟩
        subst hwb
        go_wp2
        rw [hKE]
        go_loopw [17] (fun i wr => ∃ r : Nat, i = .int .i64 r ∧ r ≤ K ∧ Hid (wr.ownsRow ws 2 1 (.slice (some ⟨ws, 0, none⟩) c c) c ((seenL c 1 (R2.take (r * batch))).map (Value.int .i64))) ∧ Hid (Below ws w1 wr)) (fun i _ => K - (intOf i).toNat)
        case atStart => exact ⟨0, rfl, Nat.zero_le _, Lib.hid (by simpa using HOW.out), HBW⟩
        case round =>
          clear HOW HBW
          obtain ⟨r, rfl, hr, HOW, HBW⟩ := hrel
          by_cases hlt : r < K
          · obtain ⟨F, hF⟩ : ∃ F, F = r * batch := ⟨_, rfl⟩
            obtain ⟨t, ht⟩ : ∃ t, t = min (F + batch) c := ⟨_, rfl⟩
            have kk := KS.out r
            have hFc : F < c := by rw [hF]; exact kk.1 hlt
            have hFn : r + 1 < K → F + batch ≤ c := by rw [hF]; exact kk.2.1
            have hst2 : ep * K + r ≤ 1000 := by
              have h1 : ep * K ≤ 19 * 16 := Nat.mul_le_mul (by omega) (by omega)
              omega
            have hbt := BA.out wr r F t hlt hF hFc ht hst2
            have hmt : 1 ≤ t - F ∧ t - F ≤ batch ∧ F + (t - F) ≤ c := by omega
            have hmn : r + 1 < K → t - F = batch := by omega
            have hnx2 : R2.take (F + (t - F)) = R2.take ((r + 1) * batch) := by
              rw [Nat.succ_mul, ← hF]
              by_cases hcase : F + batch ≤ c
              · congr 1; omega
              · rw [List.take_of_length_le (by omega), List.take_of_length_le (by omega)]
            obtain ⟨m, hm⟩ : ∃ m, m = t - F := ⟨_, rfl⟩
            rw [← hm] at hbt hmt hmn hnx2
            rw [← hF] at HOW
            have hsI : ((ep * K + r : Nat) : Int) = (ep : Int) * K + r := by simp
            rw [hsI] at hbt
            have HBT := Lib.hid hbt; have HN2 := Lib.hid hnx2
            obtain ⟨hm1, hm2, hm3⟩ := hmt
            have hm0 : ((m : Int) == 0) = false := by simp; omega
            have hm5 : ¬ batch < m := by omega
            have hm6 : decide (batch < m) = false := by simp; omega
            have hmul : (0 : Int) ≤ (ep : Int) * K ∧ (ep : Int) * K ≤ 304 := by
              have h1 : ep * K ≤ 19 * 16 := Nat.mul_le_mul (by omega) (by omega)
              have h2 : ((ep * K : Nat) : Int) = (ep : Int) * K := by simp
              omega
            clear hbt hnx2 hm ht hF kk hsI hFn
            go_wp2_with fail
            refine HBT.out.mono ?_
            rintro e wz ⟨adp, capp, rfl, hp, hbz⟩
            have HP := Lib.hid hp
            have hwsz : ws < wr.heap.size := (HOW.out.lt ws rfl).2
            have HOW := Lib.hid (owns_below HOW.out hbz)
            have HBW := Lib.hid (HBW.out.trans (hbz.mono (by omega)))
            clear hp hbz HBT
            obtain ⟨wv, hwv⟩ : ∃ wv : World, wv = wr := ⟨_, rfl⟩
            rw [← hwv] at HP hwsz
            clear hwv
            obtain ⟨bn, hbn⟩ : ∃ bn, decide ((r : Int) + 1 < K) = bn := ⟨_, rfl⟩
            cases bn
            case true =>
              obtain rfl := hmn (by have := of_decide_eq_true hbn; omega)
              go_wp2
              clear hmul hst2 hbn hKE hm0
              go_loopw [20] (fun i wr => ∃ j : Nat, i = .int .i64 j ∧ j ≤ m ∧ Hid (wr.ownsRow ws 2 1 (.slice (some ⟨ws, 0, none⟩) c c) c ((seenL c 1 (R2.take (F + j))).map (Value.int .i64)) ∧ RepI wr wv.heap.size wz.heap.size adp m capp ((R2.drop F).take m)) ∧ Hid (Below ws w1 wr)) (fun i _ => m - (intOf i).toNat)
              case atStart => exact ⟨0, rfl, Nat.zero_le _, Lib.hid ⟨HOW.out, HP.out⟩, HBW⟩
              case round =>
                clear HOW HP HBW
                obtain ⟨j, rfl, hj, HOP, HBW⟩ := hrel
                by_cases hlt2 : j < m
                · have hlen2 : ((R2.drop F).take m).length = m := HOP.out.2.len
                  obtain ⟨b, off, rfl, _, hcs⟩ := HOP.out.2.arg.spot (k := .i64) (i := j) (by omega)
                  have hcell := hcs j (by omega)
                  have hval : ((R2.drop F).take m).getD j 0 = R2.getD (F + j) 0 := by
                    rw [List.getD_eq_getElem?_getD, List.getD_eq_getElem?_getD, List.getElem?_take, if_pos hlt2, List.getElem?_drop]
                  rw [hval] at hcell
                  have ha := AT2.out (F + j) (by omega)
                  obtain ⟨vN, hvN⟩ : ∃ vN : Nat, R2.getD (F + j) 0 = vN := ⟨_, (Int.toNat_of_nonneg ha.1).symm⟩
                  rw [hvN] at ha hcell
                  have hvc : vN < c := by omega
                  have hv0 : (0 : Int) ≤ vN := by omega
                  have hv1 : (vN : Int) < c := by omega
                  obtain ⟨y, hy, hyb⟩ := seenL_bd (b := 1) (l := R2.take (F + j)) hvc
                  have hyb2 : y ≤ 100 := by have : (R2.take (F + j)).length ≤ 16 := by { rw [List.length_take]; omega }
                                            omega
                  have hd : wr.cell? ⟨ws, vN, none⟩ = some (.int .i64 y) := by rw [HOP.out.1.cellAt vN (by omega), map_getD_at (by rw [seenL_length]; exact hvc), hy]
                  have hfz := HOP.out.1.frozenAt vN
                  have hst := HOP.out.1.stored vN (.int .i64 (y + 1))
                  have hnx : ((seenL c 1 (R2.take (F + j))).map (Value.int .i64)).set vN (.int .i64 ((y : Int) + 1)) = (seenL c 1 (R2.take (F + (j + 1)))).map (Value.int .i64) := by
                    rw [← hy, ← List.map_set, seenL_next hvc, ← Nat.add_assoc, take_next (by omega), hvN]
                  rw [hnx] at hst
                  have hbne : b ≠ ws := by
                    intro e
                    subst e
                    have h1 := HOP.out.2.row.own.lt b (by rfl)
                    omega
                  have hrp : RepI (wr.setCell ⟨ws, vN, none⟩ (.int .i64 (y + 1))) wv.heap.size wz.heap.size (some ⟨b, off, none⟩) m capp ((R2.drop F).take m) :=
                    HOP.out.2.touch (lo2 := ws) (hi2 := ws + 1) touch_cell (.inr (by omega))
                  have HS := Lib.hid (And.intro hst.1 hrp)
                  have HBB := Lib.hid (HBW.out.setCell (Nat.le_refl ws) (p := ⟨ws, vN, none⟩) (.int .i64 ((y : Int) + 1)))
                  clear hst hnx hrp hy hvN hval hcs HOP HBW hlen2 ha hyb hFc hlt hr hb1 hc1 hs0 hs1 hq hx hKc hlnx hm1 hm3
                  go_wp2
                  go_roundw
                  case rel => exact ⟨j + 1, by go_num, hlt2, HS, HBB⟩
                  case measure => simp [intOf]; omega
                · have hjm : j = m := by omega
                  subst hjm
                  go_wp2
                  go_roundw
                  case rel => exact ⟨r + 1, by go_num, hlt, Lib.hid (by have h := HOP.out.1; rw [HN2.out] at h; exact h), HBW⟩
                  case measure => simp [intOf]; omega
            case false =>
              clear hmn
              go_wp2
              clear hmul hst2 hbn hKE hm0
              go_loopw [20] (fun i wr => ∃ j : Nat, i = .int .i64 j ∧ j ≤ m ∧ Hid (wr.ownsRow ws 2 1 (.slice (some ⟨ws, 0, none⟩) c c) c ((seenL c 1 (R2.take (F + j))).map (Value.int .i64)) ∧ RepI wr wv.heap.size wz.heap.size adp m capp ((R2.drop F).take m)) ∧ Hid (Below ws w1 wr)) (fun i _ => m - (intOf i).toNat)
              case atStart => exact ⟨0, rfl, Nat.zero_le _, Lib.hid ⟨HOW.out, HP.out⟩, HBW⟩
              case round =>
                clear HOW HP HBW
                obtain ⟨j, rfl, hj, HOP, HBW⟩ := hrel
                by_cases hlt2 : j < m
                · have hlen2 : ((R2.drop F).take m).length = m := HOP.out.2.len
                  obtain ⟨b, off, rfl, _, hcs⟩ := HOP.out.2.arg.spot (k := .i64) (i := j) (by omega)
                  have hcell := hcs j (by omega)
                  have hval : ((R2.drop F).take m).getD j 0 = R2.getD (F + j) 0 := by
                    rw [List.getD_eq_getElem?_getD, List.getD_eq_getElem?_getD, List.getElem?_take, if_pos hlt2, List.getElem?_drop]
                  rw [hval] at hcell
                  have ha := AT2.out (F + j) (by omega)
                  obtain ⟨vN, hvN⟩ : ∃ vN : Nat, R2.getD (F + j) 0 = vN := ⟨_, (Int.toNat_of_nonneg ha.1).symm⟩
                  rw [hvN] at ha hcell
                  have hvc : vN < c := by omega
                  have hv0 : (0 : Int) ≤ vN := by omega
                  have hv1 : (vN : Int) < c := by omega
                  obtain ⟨y, hy, hyb⟩ := seenL_bd (b := 1) (l := R2.take (F + j)) hvc
                  have hyb2 : y ≤ 100 := by have : (R2.take (F + j)).length ≤ 16 := by { rw [List.length_take]; omega }
                                            omega
                  have hd : wr.cell? ⟨ws, vN, none⟩ = some (.int .i64 y) := by rw [HOP.out.1.cellAt vN (by omega), map_getD_at (by rw [seenL_length]; exact hvc), hy]
                  have hfz := HOP.out.1.frozenAt vN
                  have hst := HOP.out.1.stored vN (.int .i64 (y + 1))
                  have hnx : ((seenL c 1 (R2.take (F + j))).map (Value.int .i64)).set vN (.int .i64 ((y : Int) + 1)) = (seenL c 1 (R2.take (F + (j + 1)))).map (Value.int .i64) := by
                    rw [← hy, ← List.map_set, seenL_next hvc, ← Nat.add_assoc, take_next (by omega), hvN]
                  rw [hnx] at hst
                  have hbne : b ≠ ws := by
                    intro e
                    subst e
                    have h1 := HOP.out.2.row.own.lt b (by rfl)
                    omega
                  have hrp : RepI (wr.setCell ⟨ws, vN, none⟩ (.int .i64 (y + 1))) wv.heap.size wz.heap.size (some ⟨b, off, none⟩) m capp ((R2.drop F).take m) :=
                    HOP.out.2.touch (lo2 := ws) (hi2 := ws + 1) touch_cell (.inr (by omega))
                  have HS := Lib.hid (And.intro hst.1 hrp)
                  have HBB := Lib.hid (HBW.out.setCell (Nat.le_refl ws) (p := ⟨ws, vN, none⟩) (.int .i64 ((y : Int) + 1)))
                  clear hst hnx hrp hy hvN hval hcs HOP HBW hlen2 ha hyb hFc hlt hr hb1 hc1 hs0 hs1 hq hx hKc hlnx hm1 hm3
                  go_wp2
                  go_roundw
                  case rel => exact ⟨j + 1, by go_num, hlt2, HS, HBB⟩
                  case measure => simp [intOf]; omega
                · have hjm : j = m := by omega
                  subst hjm
                  go_wp2
                  go_roundw
                  case rel => exact ⟨r + 1, by go_num, hlt, Lib.hid (by have h := HOP.out.1; rw [HN2.out] at h; exact h), HBW⟩
                  case measure => simp [intOf]; omega
          · have hrK : r = K := by omega
            subst hrK
            have hfin : wr.ownsRow ws 2 1 (.slice (some ⟨ws, 0, none⟩) c c) c ((seenL c 2 []).map (Value.int .i64)) := by
              have h := HOW.out
              rw [List.take_of_length_le (by have := (KS.out 0).2.2.1; omega), CN2.out] at h
              exact h
            have HOF := Lib.hid hfin
            clear hfin HOW BA AT2 CN2 KS
            obtain ⟨wy, hwy⟩ : ∃ wy : World, wy = wr := ⟨_, rfl⟩
            subst hwy
            go_wp2
            go_loopw [21] (fun i wr => ∃ k : Nat, i = .int .i64 k ∧ k ≤ c ∧ wr = wy) (fun i _ => c - (intOf i).toNat)
            case atStart => exact ⟨0, rfl, Nat.zero_le _, rfl⟩
            case round =>
              obtain ⟨k, rfl, hk, rfl⟩ := hrel
              by_cases hlt : k < c
              · have hd : wr.cell? ⟨ws, k, none⟩ = some (.int .i64 2) := by rw [HOF.out.cellAt k (by omega), map_getD_at (by rw [seenL_length]; exact hlt), seenL_two hlt]
                go_wp2
                go_roundw
                case rel => exact ⟨k + 1, by go_num, hlt, trivial⟩
                case measure => simp [intOf]; omega
              · have hkc : k = c := by omega
                subst hkc
                go_wp2
                go_ret
                exact ⟨rfl, HB.out.trans (HBW.out.mono hwl)⟩
end Go.Proofs.Ytaocilimggpdjaa
