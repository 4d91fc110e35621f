/- Joined texts 5: WEi. Each is told at its own head. No condition. -/
import Derived.Test.YtnhikdjljjemlaaMc4
/- The law of codes in 8 bits, walked. No condition. -/
namespace Go.Proofs.Ytnhikdjljjemlaa
open Go Go.RowKit Ieee
set_option linter.unusedVariables false
set_option linter.unusedSimpArgs false
set_option exponentiation.threshold 2000
theorem cv_finE {x : Nat} (hx : Fin single x) (w : World) : cvbits .f32 x .f64 w = fcv .f32 x .f64 := by
  have h := cn_wide x w
  rw [cn_not (Fin.not (k := .f32) hx)] at h
  exact Fin.cn (k := .f64) (wide_val hx).1 h
theorem dr_cell {w w' : World} (h : Dr w w') (a : Addr) : w'.cell? a = w.cell? a := by obtain ⟨n, rfl⟩ := h; rfl
theorem bthenE {w a b : World} (h1 : Below w.heap.size w a) (h2 : Below a.heap.size a b) : Below w.heap.size w b := h1.trans (h2.mono h1.size)
set_option maxHeartbeats 16000000 in
set_option maxRecDepth 100000 in
theorem fnEightBits_walk (w : World) (a0 : Option Addr) (c0 : Nat) (l0 : List Int) (A0 : Ints .u8 w a0 c0 l0) (a1 : Option Addr) (c1 : Nat) (l1 : List Int) (A1 : Ints .u8 w a1 c1 l1) :
    Calls Try.prog 6 #[.slice a0 l0.length c0, .slice a1 l1.length c1] w fun e w' => e = .returned (.bool true) ∧ Below w.heap.size w w' := by
  by_cases hlong : l0.length ≤ 48 ∧ l1.length ≤ 48
  rotate_left
  · go_enter Try.func6, Try.ntmps6
    go_wp2_with fail
    refine (r8Long_yes _ _ _ _ _ _ _ hlong).mono ?_
    rintro e w1 ⟨rfl, rfl⟩
    go_wp2
    go_ret
    exact ⟨rfl, Below.refl _ _⟩
  obtain ⟨hl0, hl1⟩ := hlong
  obtain ⟨i0, hi, hz0, hz1, hz2⟩ := info_parts info_i64
  have AA0 := Lib.hid A0; have AA1 := Lib.hid A1
  clear A0 A1
  go_enter Try.func6, Try.ntmps6
  go_wp2_with fail
  refine (r8Long_no _ _ _ _ _ _ _ hl0 hl1).mono ?_
  rintro e w1 ⟨rfl, rfl⟩
  clear hl0 hl1
  go_wp2_with fail
  refine (r8_finite _ _ _ _ AA0.out 12 (by decide)).mono ?_
  rintro e w1 ⟨ad0, n, cap0, xs, rfl, hn, hr, hfw, hb⟩
  obtain ⟨g1, g2, g3, g4, g5⟩ := eb_law [] hfw.out (by rw [hr.len]; exact hn)
  have RX := Lib.hid hr; have LNX := Lib.hid hr.len; have BB := Lib.hid hb; have FW := Lib.hid hfw.out; have GF := Lib.hid g2
  clear hr hfw hb AA0 g1
  have f1 := impl_SpreadOf_yes w1 ad0 cap0 xs RX.out.arg GF.out
  rw [LNX.out] at f1
  have F1 := Lib.hid f1; clear f1
  obtain ⟨s, hs⟩ : ∃ s, s = sprE xs := ⟨_, rfl⟩
  rw [← hs] at g3 g4 g5 F1
  have SF : ∀ r, cn .f32 r = s → r = s := fun r h => Fin.cn (k := .f32) (fin_finB g5 g3) h
  have HSF := Lib.hid SF; have G3 := Lib.hid g3; have G4 := Lib.hid g4; have G5 := Lib.hid g5; have HS := Lib.hid hs
  clear SF g3 g4 g5 hs g2
  go_wp2_with fail
  refine F1.out.mono ?_
  rintro e w2 ⟨r, rfl, hr, hd⟩
  have hrs := HSF.out _ hr
  subst hrs
  replace RX := Lib.hid (RX.out.below hd.below)
  replace BB := Lib.hid (bthenE BB.out hd.below)
  clear F1 hr hd
  have hcd : cdOk xs r = true := by unfold cdOk; rw [GF.out, G4.out]; rfl
  have f1 := impl_CodesOf w2 ad0 cap0 xs RX.out.arg r G5.out
  rw [hcd, if_pos rfl, LNX.out] at f1
  have F1 := Lib.hid f1; have HCD := Lib.hid hcd; clear f1 hcd
  go_wp2_with fail
  refine F1.out.mono ?_
  rintro e w3 ⟨adC, nC, capC, ys, b, rfl, hr, hy, -, rfl, hb⟩
  have hlen : n = nC := by rw [← hr.len, hy, lsI_length]
  subst hlen
  have RC := Lib.hid hr; have YC := Lib.hid hy; have LNC := Lib.hid hr.len
  replace RX := Lib.hid (RX.out.below hb)
  replace BB := Lib.hid (bthenE BB.out hb)
  clear F1 hr hy hb
  have hsz := BB.out.size
  go_wp2
  go_loopw [10, 11] (fun va i wr => ∃ k : Nat, i = .int .i64 k ∧ k ≤ n ∧ ∃ ch : List Int, Hid (wr.ownsRow w3.heap.size 2 1 va k (ch.map (Value.int .i64)) ∧ ch.length = k ∧ ∀ x ∈ ch, 0 ≤ x ∧ x ≤ 255) ∧ Hid (Below w3.heap.size w3 wr)) (fun _ i _ => n - (intOf i).toNat)
  case atStart => exact ⟨0, rfl, Nat.zero_le _, [], Lib.hid ⟨World.ownsRow_made _ _ _ (Nat.le_refl _) (Nat.zero_le _) rfl, rfl, fun x hx => nomatch hx⟩, Lib.hid (below1 _ _)⟩
  case round =>
    obtain ⟨k, rfl, hk, ch, HF, HB⟩ := hrel
    by_cases hlt : k < n
    · have hbs := HB.out.size
      have B1 := AA1.out.below (bthenE BB.out HB.out)
      go_wp2_with fail
      refine (r8At_any _ _ _ _ B1 k 256 (by omega) (by omega) (by decide) (by decide)).mono ?_
      rintro e w4 ⟨x, rfl, hx, rfl⟩
      clear B1
      go_wp2_with (at_builtin; refine wp_app rfl _ _ 54 rfl w3.heap.size i0 (.int .i64 0) 1 8 Try.underlying54 hi hz0 hz1 hz2 rfl (by decide) rfl (one_cell _ rfl) _ _ _ rfl HF.out.1 rfl ?c3 ?c4 ?c5 ?_)
      case c3 => unfold maxLen; omega
      case c4 => omega
      case c5 => omega
      intro v' w9 hown1 hb9 hbs1
      have HB9 := Lib.hid (HB.out.trans (hb9.mono (by omega)))
      clear hb9
      go_wp2
      go_roundw
      case rel =>
        refine ⟨k + 1, by go_num, hlt, ch ++ [(x : Int)], Lib.hid ⟨by simpa using hown1, by rw [List.length_append, HF.out.2.1]; rfl, ?_⟩, HB9⟩
        intro z hz
        rcases List.mem_append.1 hz with hz | hz
        · exact HF.out.2.2 z hz
        · simp at hz; omega
      case measure => simp [intOf]; omega
    · have hkn : k = n := by omega
      subst hkn
      obtain ⟨HF1, HF2, HF3⟩ := HF.out
      have hwf : ∀ x ∈ ch, (Lit.int .i64 x).wf = true := fun x hx => by
        have := HF3 x hx
        simp [Lit.wf, IntKind.min, IntKind.max, IntKind.signed, IntKind.bits]; omega
      obtain ⟨adH, capH, rfl, RH0⟩ := RepI.of_owns HF1 hwf
      have RH := Lib.hid RH0; have LNH := Lib.hid HF2
      have hby : byOk xs r ch = true := by
        unfold byOk
        rw [HCD.out, decide_eq_true (HF2.trans LNX.out.symm)]
        have : chOk ch = true := by
          unfold chOk
          rw [Bool.not_eq_true', List.any_eq_false]
          intro x hx
          rw [inB_iff.2 (HF3 x hx)]; decide
        rw [this]; rfl
      obtain ⟨g1, -, -, -, -⟩ := eb_law ch FW.out (by rw [LNX.out]; exact hn)
      rw [← HS.out, LNX.out] at g1
      have GL := Lib.hid g1
      have hg0 : Spread xs xs.length r ∨ True := .inr trivial
      replace RX := Lib.hid (RX.out.below HB.out)
      replace RC := Lib.hid (RC.out.below HB.out)
      replace BB := Lib.hid (bthenE BB.out HB.out)
      have f1 := impl_CodesBy wr ad0 cap0 xs RX.out.arg r adH capH ch RH.out.arg G5.out (by rw [HF2]; omega)
      rw [hby, if_pos rfl, LNX.out, HF2] at f1
      have F1 := Lib.hid f1
      clear f1 hby g1 hg0 hwf HF1 HF2 HF3 HF RH0 AA1 FW GF HCD HS HB hi hz0 hz1 hz2
      go_wp2_with fail
      refine F1.out.mono ?_
      rintro e w4 ⟨adD, nD, capD, us, b, rfl, hr, hy, -, rfl, hb⟩
      have hlen : k = nD := by rw [← hr.len, hy, lsI_length]
      subst hlen
      have RD := Lib.hid hr; have YD := Lib.hid hy; have LND := Lib.hid hr.len
      replace RX := Lib.hid (RX.out.below hb)
      replace RC := Lib.hid (RC.out.below hb)
      replace BB := Lib.hid (bthenE BB.out hb)
      clear F1 hr hy hb RH LNH
      have hnc : numOk ys r = true := by
        unfold numOk
        rw [YC.out, G4.out, codes_good (by omega) GL.out.code.bd]; rfl
      have hnd : numOk us r = true := by
        unfold numOk
        rw [YD.out, G4.out, codes_good (by omega) GL.out.code.bdD]; rfl
      have hcr : cn .f32 r = r := cn_not (Fin.not (k := .f32) GL.out.sfin)
      have f1 := impl_NumbersOf w4 adC capC ys RC.out.arg r G5.out
      rw [hnc, if_pos rfl, LNC.out, hcr] at f1
      have F1 := Lib.hid f1; clear f1 hnc
      have HND := Lib.hid hnd; have HCR := Lib.hid hcr; clear hnd hcr
      go_wp2_with fail
      refine F1.out.mono ?_
      rintro e w5 ⟨adE, nE, capE, es, b, rfl, hr, hy, -, rfl, hb⟩
      have hlen : k = nE := by rw [← hr.len]; exact (len_of hy).symm
      subst hlen
      have RE := Lib.hid hr; have YE := Lib.hid hy; have LNE := Lib.hid hr.len
      replace RX := Lib.hid (RX.out.below hb)
      replace RC := Lib.hid (RC.out.below hb)
      replace RD := Lib.hid (RD.out.below hb)
      replace BB := Lib.hid (bthenE BB.out hb)
      clear F1 hr hy hb
      have f1 := impl_NumbersOf w5 adD capD us RD.out.arg r G5.out
      rw [HND.out, if_pos rfl, LND.out, HCR.out] at f1
      have F1 := Lib.hid f1; clear f1 HND HCR
      go_wp2_with fail
      refine F1.out.mono ?_
      rintro e w6 ⟨adO, nO, capO, os, b, rfl, hr, hy, -, rfl, hb⟩
      have hlen : k = nO := by rw [← hr.len]; exact (len_of hy).symm
      subst hlen
      have RO := Lib.hid hr; have YO := Lib.hid hy; have LNO := Lib.hid hr.len
      replace RX := Lib.hid (RX.out.below hb)
      replace RC := Lib.hid (RC.out.below hb)
      replace RD := Lib.hid (RD.out.below hb)
      replace RE := Lib.hid (RE.out.below hb)
      replace BB := Lib.hid (bthenE BB.out hb)
      clear F1 hr hy hb
      go_wp2_with fail
      refine (impl_IsFinite _ _).mono ?_
      rintro e w7 ⟨rfl, hd⟩
      rw [G3.out]
      replace RX := Lib.hid (RX.out.below hd.below)
      replace RC := Lib.hid (RC.out.below hd.below)
      replace RD := Lib.hid (RD.out.below hd.below)
      replace RE := Lib.hid (RE.out.below hd.below)
      replace RO := Lib.hid (RO.out.below hd.below)
      replace BB := Lib.hid (bthenE BB.out hd.below)
      clear hd hsz
      go_wp2
      go_loopw [18, 19] (fun v i wr => ∃ q : Nat, i = .int .i64 q ∧ q ≤ 100 ∧ v = .float .f64 (lowW q) ∧ Dr w7 wr) (fun _ i _ => 100 - (intOf i).toNat)
      case atStart => exact ⟨0, rfl, by omega, by rw [show lowW 0 = 4607182418800017408 from by decide], Dr.refl _⟩
      case round =>
        obtain ⟨q, rfl, hq, rfl, hd⟩ := hrel
        by_cases hlt2 : q < 100
        · have e1 := fbits_some (low_step q hlt2)
          have e2 := fdr_some (low_step q hlt2)
          have hz0 := World.drewN_none
          obtain ⟨x1, hx1⟩ : ∃ x, x = lowW q := ⟨_, rfl⟩
          obtain ⟨x2, hx2⟩ : ∃ x, x = lowW (q + 1) := ⟨_, rfl⟩
          rw [← hx1, ← hx2] at e1
          rw [← hx1] at e2 ⊢
          have HX2 := Lib.hid hx2; have HD := Lib.hid hd
          clear hx1 hx2 hd
          go_wp2
          go_roundw
          case rel => exact ⟨q + 1, by go_num, hlt2, by rw [HX2.out], HD.out⟩
          case measure => simp [intOf]; omega
        · have hq2 : q = 100 := by omega
          subst hq2
          replace RX := Lib.hid (RX.out.below hd.below)
          replace RC := Lib.hid (RC.out.below hd.below)
          replace RD := Lib.hid (RD.out.below hd.below)
          replace RE := Lib.hid (RE.out.below hd.below)
          replace RO := Lib.hid (RO.out.below hd.below)
          replace BB := Lib.hid (bthenE BB.out hd.below)
          have hcv := cv_finE GL.out.sfin
          have hz0 := World.drewN_none
          obtain ⟨E, hE⟩ : ∃ E, E = fcv .f32 r .f64 := ⟨_, rfl⟩
          obtain ⟨L, hL⟩ : ∃ L, L = lowW 100 := ⟨_, rfl⟩
          rw [← hE] at hcv
          rw [← hL]
          have HE := Lib.hid hE; have HL := Lib.hid hL
          clear hE hL hd hq hlt2 G3 G4 G5 HSF
          go_wp2
          go_loopw [21, 22, 23, 24] (fun i i2 va vb wt => ∃ j : Nat, i = .int .i64 j ∧ j ≤ k ∧ Dr wr wt) (fun i _ _ _ _ => k - (intOf i).toNat)
          case atStart => exact ⟨0, rfl, Nat.zero_le _, (Dr.refl _).drewN _⟩
          case round =>
            obtain ⟨j, rfl, hj, hd⟩ := hrel
            by_cases hlt3 : j < k
            · have bl := hd.below
              obtain ⟨p1, q1, rfl, _, hc1⟩ := (RX.out.arg.below bl).spot (k := j) (by rw [LNX.out]; exact hlt3)
              obtain ⟨p2, q2, rfl, _, hc2⟩ := (RC.out.arg.below bl).spot (i := j) (by rw [LNC.out]; exact hlt3)
              obtain ⟨p3, q3, rfl, _, hc3⟩ := (RD.out.arg.below bl).spot (i := j) (by rw [LND.out]; exact hlt3)
              have hcb := GL.out.code.bd j hlt3
              have hdb := GL.out.code.bdD j hlt3
              have hnr := GL.out.code.near j hlt3
              have k2 := hc2 j (by rw [LNC.out]; exact hlt3)
              have k3 := hc3 j (by rw [LND.out]; exact hlt3)
              rw [YC.out, lsI_getD _ hlt3] at k2
              rw [YD.out, lsI_getD _ hlt3] at k3
              obtain ⟨cj, hcj⟩ : ∃ c, c = codeE WOf xs r j := ⟨_, rfl⟩
              obtain ⟨dj, hdj⟩ : ∃ c, c = codeE (WBy ch) xs r j := ⟨_, rfl⟩
              rw [← hcj] at hcb hnr k2
              rw [← hdj] at hdb hnr k3
              have HCJ := Lib.hid hcj; have HDJ := Lib.hid hdj; have HD := Lib.hid hd
              have hc1 := Lib.hid hc1; have hc2 := Lib.hid hc2
              clear hc3 hcj hdj bl hd
              have hcb1 := hcb.1; have hcb2 := hcb.2; have hdb1 := hdb.1; have hdb2 := hdb.2; have hn1 := hnr.1; have hn2 := hnr.2
              have d1 : decide (cj < -127) = false := decide_eq_false (by omega)
              have d2 : decide (127 < cj) = false := decide_eq_false (by omega)
              have d3 : decide (1 < dj - cj) = false := decide_eq_false (by omega)
              have d4 : decide (1 < cj - dj) = false := decide_eq_false (by omega)
              clear hcb hdb hnr
              go_wp2
              go_quiet (fail)
              go_wp2
              go_loopw [22] (fun i2 wt2 => ∃ m : Nat, i2 = .int .i64 m ∧ m ≤ j ∧ Dr wr wt2) (fun i _ => j - (intOf i).toNat)
              case atStart => exact ⟨0, rfl, Nat.zero_le _, (Dr.refl _).drewN _⟩
              case round =>
                obtain ⟨m, rfl, hm, hd⟩ := hrel
                have HD2 := Lib.hid (HD.out.trans hd)
                by_cases hlt4 : m < j
                · have hmk : m < k := by omega
                  have k4 := hc1.out m (by rw [LNX.out]; exact hmk)
                  have k5 := hc1.out j (by rw [LNX.out]; exact hlt3)
                  have k6 := hc2.out m (by rw [LNC.out]; exact hmk)
                  have k7 := hc2.out j (by rw [LNC.out]; exact hlt3)
                  rw [YC.out, lsI_getD _ hmk] at k6
                  rw [YC.out, lsI_getD _ hlt3, ← HCJ.out] at k7
                  obtain ⟨o, ho, o1, o2⟩ := GL.out.pair hlt3 hmk
                  rw [← HCJ.out] at o1 o2
                  obtain ⟨cm, hcm⟩ : ∃ c, c = codeE WOf xs r m := ⟨_, rfl⟩
                  obtain ⟨xm, hxm⟩ : ∃ c, c = xs.getD m 0 := ⟨_, rfl⟩
                  obtain ⟨xj, hxj⟩ : ∃ c, c = xs.getD j 0 := ⟨_, rfl⟩
                  rw [← hcm] at k6 o1 o2
                  rw [← hxm] at k4 ho
                  rw [← hxj] at k5 ho
                  rw [← dr_cell hd] at k4 k5 k6 k7
                  have HD3 := Lib.hid hd
                  clear hcm hxm hxj hd hc1 hc2 d1 d2 d3 d4 hn1 hn2 hcb1 hcb2 hdb1 hdb2 k2 k3
                  cases o
                  · have o3 := o1 rfl
                    have d1 : decide (cj < cm) = false := decide_eq_false (by omega)
                    clear o1 o2 o3
                    go_wp2
                    go_quiet (fail)
                    go_wp2
                    go_roundw
                    case rel => exact ⟨m + 1, by go_num, hlt4, HD3.out.drewN _⟩
                    case measure => simp [intOf]; omega
                  · have o3 := o2 rfl
                    clear o1 o2
                    subst o3
                    go_wp2
                    go_quiet (fail)
                    go_wp2
                    go_roundw
                    case rel => exact ⟨m + 1, by go_num, hlt4, HD3.out.drewN _⟩
                    case measure => simp [intOf]; omega
                  · clear o1 o2
                    go_wp2
                    go_quiet (fail)
                    go_wp2
                    go_roundw
                    case rel => exact ⟨m + 1, by go_num, hlt4, HD3.out.drewN _⟩
                    case measure => simp [intOf]; omega
                · clear hc1 hc2 d1 d2 d3 d4 hn1 hn2 hcb1 hcb2 hdb1 hdb2 k2 k3 hd
                  have hcvE : ∀ w, cvbits .f32 r .f64 w = E := hcv
                  by_cases c1 : FloatKind.f64.format.order E L = some .lt
                  · have c1' : (FloatKind.f64.format.order E L == some .lt) = true := by rw [c1]; rfl
                    clear hcv hcvE
                    go_wp2
                    go_roundw
                    case rel => exact ⟨j + 1, by go_num, hlt3, HD2.out⟩
                    case measure => simp [intOf]; omega
                  have c1' : (FloatKind.f64.format.order E L == some .lt) = false := by
                    rw [beq_eq_false_iff_ne]; exact c1
                  have e1 := fbits_some low_end
                  have e2 := fdr_some low_end
                  rw [← HL.out] at e1 e2
                  obtain ⟨tp, htp⟩ : ∃ x, x = topW := ⟨_, rfl⟩
                  rw [← htp] at e1
                  by_cases c2 : FloatKind.f64.format.order E tp = some .gt
                  · have c2' : (FloatKind.f64.format.order E tp == some .gt) = true := by rw [c2]; rfl
                    clear hcv hcvE c1 htp
                    go_wp2
                    go_roundw
                    case rel => exact ⟨j + 1, by go_num, hlt3, HD2.out⟩
                    case measure => simp [intOf]; omega
                  have c2' : (FloatKind.f64.format.order E tp == some .gt) = false := by
                    rw [beq_eq_false_iff_ne]; exact c2
                  rw [HE.out, HL.out] at c1
                  rw [HE.out, htp] at c2
                  obtain ⟨l, u⟩ := in_range GL.out.sfin c1 c2
                  obtain ⟨o1, o2⟩ := GL.out.offs l u hlt3
                  have l1 := lim_is (C := 17) GL.out.sfin l u W17d (by decide) (by decide)
                  have l2 := lim_is (C := 33) GL.out.sfin l u W33d (by decide) (by decide)
                  have bl := HD2.out.below
                  obtain ⟨p4, q4, hp4, _, k4⟩ := (RX.out.arg.below bl).spot (k := j) (by rw [LNX.out]; exact hlt3)
                  obtain ⟨p5, q5, rfl, _, k5⟩ := (RE.out.arg.below bl).spot (k := j) (by rw [LNE.out]; exact hlt3)
                  obtain ⟨p6, q6, rfl, _, k6⟩ := (RO.out.arg.below bl).spot (k := j) (by rw [LNO.out]; exact hlt3)
                  cases hp4
                  have k4 := k4 j (by rw [LNX.out]; exact hlt3)
                  have k5 := k5 j (by rw [LNE.out]; exact hlt3)
                  have k6 := k6 j (by rw [LNO.out]; exact hlt3)
                  have v5 : es.getD j 0 = fop .mul .f32 (floatOfInt .f32 (codeE WOf xs r j)) r := by
                    refine Fin.cn (k := .f32) o1.fb ?_
                    rw [← cn_getD, YE.out, listOf_getD _ hlt3]
                    unfold numG
                    rw [YC.out, lsI_getD _ hlt3]
                  have v6 : os.getD j 0 = fop .mul .f32 (floatOfInt .f32 (codeE (WBy ch) xs r j)) r := by
                    refine Fin.cn (k := .f32) o2.fb ?_
                    rw [← cn_getD, YO.out, listOf_getD _ hlt3]
                    unfold numG
                    rw [YD.out, lsI_getD _ hlt3]
                  rw [← v5] at o1
                  rw [← v6] at o2
                  obtain ⟨x4, hx4⟩ : ∃ x, x = xs.getD j 0 := ⟨_, rfl⟩
                  obtain ⟨x5, hx5⟩ : ∃ x, x = es.getD j 0 := ⟨_, rfl⟩
                  obtain ⟨x6, hx6⟩ : ∃ x, x = os.getD j 0 := ⟨_, rfl⟩
                  rw [← hx4] at o1 o2 k4
                  rw [← hx5] at o1 k5
                  rw [← hx6] at o2 k6
                  have z4 := cv_finE o1.fx
                  have z5 := cv_finE o1.fb
                  have z6 := cv_finE o2.fb
                  have z7 := fbits_some o1.eq
                  have z8 := fdr_some o1.eq
                  have z9 := fbits_some o2.eq
                  have z10 := fdr_some o2.eq
                  have z11 := o1.up; have z12 := o1.down; have z13 := o2.up; have z14 := o2.down
                  have m1 := fbits_some l1.m; have m2 := fdr_some l1.m; have m3 := fbits_some l1.q; have m4 := fdr_some l1.q
                  have m5 := fbits_some l2.m; have m6 := fdr_some l2.m; have m7 := fbits_some l2.q; have m8 := fdr_some l2.q
                  rw [← HE.out] at m1 m2 m3 m4 m5 m6 m7 m8
                  obtain ⟨y4, hy4⟩ : ∃ x, x = fcv .f32 x4 .f64 := ⟨_, rfl⟩
                  obtain ⟨y5, hy5⟩ : ∃ x, x = fcv .f32 x5 .f64 := ⟨_, rfl⟩
                  obtain ⟨y6, hy6⟩ : ∃ x, x = fcv .f32 x6 .f64 := ⟨_, rfl⟩
                  rw [← hy4] at z4 z7 z8 z9 z10 z11 z12 z13 z14
                  rw [← hy5] at z5 z7 z8 z11 z12
                  rw [← hy6] at z6 z9 z10 z13 z14
                  obtain ⟨da, hda⟩ : ∃ x, x = fop .sub .f64 y5 y4 := ⟨_, rfl⟩
                  obtain ⟨db, hdb⟩ : ∃ x, x = fop .sub .f64 y6 y4 := ⟨_, rfl⟩
                  rw [← hda] at z7 z11 z12
                  rw [← hdb] at z9 z13 z14
                  obtain ⟨M1, hM1⟩ : ∃ x, x = fop .mul .f64 E 4625478292286210048 := ⟨_, rfl⟩
                  obtain ⟨M2, hM2⟩ : ∃ x, x = fop .mul .f64 E 4629841154425225216 := ⟨_, rfl⟩
                  obtain ⟨L1, hL1⟩ : ∃ x, x = limW r 4625478292286210048 := ⟨_, rfl⟩
                  obtain ⟨L2, hL2⟩ : ∃ x, x = limW r 4629841154425225216 := ⟨_, rfl⟩
                  rw [← hM1] at m1 m3 m4
                  rw [← hM2] at m5 m7 m8
                  rw [← hL1] at m3 z11 z12
                  rw [← hL2] at m7 z13 z14
                  clear hM1 hM2 hL1 hL2 hda hdb hy4 hy5 hy6 hx4 hx5 hx6 v5 v6 o1 o2 l1 l2 l u c1 c2 htp bl
                  go_wp2
                  refine wp_region_drawn (fun f args u => False) (by kernel_rfl) (by kernel_rfl) ?_
                  repeat (refine wset_step (fun K hK nq => ?_); go_simp; refine hK _ ?_; clear hK K)
                  refine wset_nil ?_
                  rintro w' ⟨q, rfl⟩
                  have hk5' : (wr.drewN q).cell? { block := p6, off := q6 + j } = some (.float .f32 x6) := k6
                  have hk4' : (wr.drewN q).cell? { block := p1, off := q1 + j } = some (.float .f32 x4) := k4
                  have HD4 := Lib.hid (HD2.out.drewN q)
                  clear k4 k5 k6
                  generalize hW2 : wr.drewN q = W2 at hk5' hk4' HD4 ⊢
                  clear hW2
                  go_wp2
                  refine wp_region_drawn (fun f args u => False) (by kernel_rfl) (by kernel_rfl) ?_
                  repeat (refine wset_step (fun K hK nq => ?_); go_simp; refine hK _ ?_; clear hK K)
                  refine wset_nil ?_
                  rintro w' ⟨q', rfl⟩
                  clear z4 z5 z6 z7 z8 z9 z10 hk5' hk4'
                  go_wp2
                  refine ⟨?_, ?measure⟩
                  repeat apply Exists.intro
                  refine ⟨?rel, rfl⟩
                  case rel => exact ⟨j + 1, by go_num, hlt3, HD4.out.drewN _⟩
                  case measure => simp [intOf]; omega
            · go_wp2
              go_ret
              exact ⟨rfl, bthenE BB.out hd.below⟩
end Go.Proofs.Ytnhikdjljjemlaa
