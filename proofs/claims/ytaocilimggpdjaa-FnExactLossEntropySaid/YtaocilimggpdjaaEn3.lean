/- What the reference's LossEntropy returns. No condition. -/
import Derived.Test.YtaocilimggpdjaaEn2
namespace Go.Proofs.Ytaocilimggpdjaa
open Go Go.RowKit Ieee
set_option linter.unusedVariables false
set_option linter.unusedSimpArgs false
set_option maxRecDepth 100000 in
set_option maxHeartbeats 4000000 in
theorem spec_LossEntropy_yes (w : World) (ad : Option Addr) (cap : Nat) (xs : List Nat) (h : F32s w ad cap xs) (n : Nat) (hN : n = xs.length) (h1 : 1 ≤ n) (h8 : n ≤ 8) (l : Nat) (hl : l < n) :
    Calls Try.prog 26 #[.slice ad n cap, .int .i64 l] w fun e w' => ∃ r ad' cap' ys, e = .returned (.tuple #[.float .f32 r, .slice ad' n cap', .bool true]) ∧
      Hid (cn .f32 r = tE (xs.map (cn .f32)) (gBest xs n) n l ∧ RepF w' w.heap.size w'.heap.size ad' n cap' ys ∧ ys.map (cn .f32) = listOf n (lE (xs.map (cn .f32)) (gBest xs n) n l) ∧ Below w.heap.size w w') := by
  obtain ⟨i0, hi, hz0, hz1, hz2⟩ := info_parts info_f32
  have hlt' := h.lt
  have k2 := fun W => l00In_any l 0 ((n : Int) - 1) W
  rw [inB_iff.2 ⟨by omega, by omega⟩] at k2
  have kg := fun W hW => spec_l05Greatest W ad cap xs hW (by omega) (by omega)
  rw [← hN] at kg
  have hbn : gBest xs n < n := by have := gBest_le xs n; omega
  have hfa := fun i (hi : i < n) => ent_facts hlt' hN.symm i hi
  have hsum := ent_sum hlt' hN.symm h1 h8
  have hd : ∀ i (w : World), cn .f32 (fbits .sub .f32 (xs.getD i 0) (xs.getD (gBest xs n) 0) w) = dE (xs.map (cn .f32)) (gBest xs n) i := by
    intro i w; rw [cn_fbits]; unfold dE; rw [cn_getD, cn_getD]
  obtain ⟨b, hb⟩ : ∃ b, b = gBest xs n := ⟨_, rfl⟩
  rw [← hb] at kg hbn hfa hsum hd ⊢
  obtain ⟨X, hX⟩ : ∃ X, X = xs.map (cn .f32) := ⟨_, rfl⟩
  rw [← hX] at hfa hsum hd ⊢
  obtain ⟨m, hm⟩ : ∃ m, m = xs.getD b 0 := ⟨_, rfl⟩
  rw [← hm] at hd
  obtain ⟨S, hS⟩ : ∃ S, S = sE X b n := ⟨_, rfl⟩
  rw [← hS] at hsum
  have K2 := Lib.hid k2; have HS := Lib.hid hS; have HSUM := Lib.hid hsum; have HD := Lib.hid hd; have HN := Lib.hid hN; have H := Lib.hid h
  have HM := Lib.hid hm; have HFA := Lib.hid hfa; have KG := Lib.hid kg
  have i1 : (1 : Int) ≤ n := by omega
  have i8 : (n : Int) ≤ 8 := by omega
  clear k2 hS hsum hd hm hX hb hN hlt' h kg hfa
  go_enter Try.func26, Try.ntmps26
  go_wp2_with fail
  refine (K2.out _).mono ?_
  rintro e w1 ⟨rfl, rfl⟩
  go_wp2_with fail
  refine (KG.out _ H.out).mono ?_
  rintro e w1 ⟨rfl, hdr⟩
  have hb1 := hdr.below
  have HB1 := Lib.hid hb1
  have HA := Lib.hid (H.out.below hb1)
  have hs1 := hb1.size
  clear hdr hb1
  obtain ⟨bl0, off0, e0, hbl0, _⟩ := H.out.spot (k := b) (by rw [← HN.out]; exact hbn)
  obtain ⟨bl, off, rfl, hbl, hc⟩ := HA.out.spot (k := b) (by rw [← HN.out]; exact hbn)
  have hbw : bl < w.heap.size := by cases e0; exact hbl0
  have hcb := hc b (by rw [← HN.out]; exact hbn)
  rw [← HM.out] at hcb
  have HC := Lib.hid hc; clear hc e0 hbl0
  go_wp2
  clear hcb
  go_loopw [8, 9] (fun v i wr => ∃ k : Nat, i = .int .i64 k ∧ k ≤ n ∧ ∃ ys : List Nat, Hid (wr.ownsRow w1.heap.size 22 1 v k (ys.map (Value.float .f32)) ∧ ys.map (cn .f32) = listOf k (eE X b) ∧ ∀ y ∈ ys, y < 4294967296) ∧ Hid (Below w1.heap.size w1 wr) ∧ w1.heap.size ≤ wr.heap.size) (fun _ i _ => n - (intOf i).toNat)
  case atStart => exact ⟨0, rfl, Nat.zero_le _, [], Lib.hid ⟨World.ownsRow_made _ _ _ (Nat.le_refl _) (Nat.zero_le _) rfl, rfl, fun y hy => nomatch hy⟩, Lib.hid (below1 _ _), by simp⟩
  case round =>
    obtain ⟨k, rfl, hk, ys, HO, HB, hbs⟩ := hrel
    by_cases hlt : k < n
    · have hck : wr.cell? ⟨bl, off + k, none⟩ = some (.float .f32 (xs.getD k 0)) := (HB.out.cell (p := ⟨bl, off + k, none⟩) hbl).trans (HC.out k (by rw [← HN.out]; exact hlt))
      have hD := fun w => HD.out k w
      obtain ⟨x, hx⟩ : ∃ x, x = xs.getD k 0 := ⟨_, rfl⟩
      rw [← hx] at hck
      rw [← hx] at hD
      have HDk := Lib.hid hD; clear hx hD
      have HOR := Lib.hid HO.out.1
      go_wp2_with fail
      generalize hz : fbits BinOp.sub FloatKind.f32 x m _ = z
      have hzc : cn .f32 z = dE X b k := by rw [← hz]; exact HDk.out _
      have hzl : z < 4294967296 := by rw [← hz]; exact fbits_lt _ .f32 _ _ _
      have hok : okExp z := okExp_of_cn (by rw [hzc]; exact (HFA.out k hlt).1)
      have HZ := Lib.hid hzc
      clear hz hzc
      refine (spec_l01Exp z hzl hok _).mono ?_
      rintro e w3 ⟨r, rfl, hr, hd3⟩
      have hb3 : Below wr.heap.size wr w3 := by
        obtain ⟨q, rfl⟩ := hd3
        exact below_drewN (below_drewN (Below.refl _ _) _) _
      have hown3 := owns_below HOR.out hb3
      have HOW := Lib.hid hown3; have HB3 := Lib.hid (HB.out.trans (hb3.mono hbs)); have hs3 := hb3.size
      clear hown3 hb3 hd3 hok HOR
      go_wp2_with (at_builtin; refine wp_app rfl _ _ 25 rfl w1.heap.size i0 (.float .f32 0) 1 4 Try.underlying25 hi hz0 hz1 hz2 rfl (by decide) rfl (one_cell _ rfl) _ _ _ rfl HOW.out rfl ?c3 ?c4 ?c5 ?_)
      case c3 => unfold maxLen; omega
      case c4 => omega
      case c5 => omega
      intro v' w9 hown1 hb9 hbs9
      have HO9 := Lib.hid hown1; have HB9 := Lib.hid (HB3.out.trans hb9)
      clear hown1 hb9
      go_wp2
      go_roundw
      case rel =>
        refine ⟨k + 1, by go_num, hlt, ys ++ [r], Lib.hid ⟨by rw [List.map_append]; exact HO9.out, ?_, ?_⟩, HB9, hbs9⟩
        · rw [List.map_append, HO.out.2.1, listOf_succ]
          congr 1
          show [cn .f32 r] = [eE X b k]
          rw [hr.out.1, HZ.out]; rfl
        · intro y hy
          rcases List.mem_append.1 hy with hy | hy
          · exact HO.out.2.2 y hy
          · simp at hy; rw [hy]; exact hr.out.2
      case measure => simp [intOf]; omega
    · have hkn : k = n := by omega
      subst hkn
      obtain ⟨a1, q1, rfl, hr⟩ := RepF.of_owns HO.out.1 HO.out.2.2
      have hr := hr.bounds hs1 (Nat.le_refl _)
      obtain ⟨wa, hwa⟩ : ∃ wa : World, wa = wr := ⟨_, rfl⟩
      subst hwa
      have HR := Lib.hid hr; have HBA := Lib.hid (HB1.out.trans (HB.out.mono hs1))
      have HY := Lib.hid HO.out.2.1
      have ks := fun W (hW : RepF W w.heap.size wa.heap.size a1 k q1 ys) => spec_l01Sum W a1 q1 ys hW.arg
      rw [hr.len, HY.out] at ks
      have KS := Lib.hid ks
      clear ks hr HO HB
      go_wp2_with fail
      refine (KS.out _ HR.out).mono ?_
      rintro e w2 ⟨s, rfl, hs, hd2⟩
      have hsc : cn .f32 s = S := by rw [hs.out.1, HS.out]; rfl
      have HSC := Lib.hid hsc
      have HR := Lib.hid (HR.out.below hd2.below); have HBA := Lib.hid (bthen HBA.out hd2.below)
      have hs2 := hd2.below.size
      clear hsc hs hd2 KS
      have hlog := logIn_of HSC.out HSUM.out
      have hA := H.out.below (HBA.out.mono (Nat.le_refl _))
      obtain ⟨b4, o4, e4, hb4, hca⟩ := hA.spot (k := l) (by rw [← HN.out]; exact hl)
      cases e4
      have hya := hca l (by rw [← HN.out]; exact hl)
      have hdd := fun w => HD.out l w
      obtain ⟨x2, hx2⟩ : ∃ x, x = xs.getD l 0 := ⟨_, rfl⟩
      rw [← hx2] at hya hdd
      have HDD := Lib.hid hdd
      have hl0 : (0 : Int) ≤ l := by omega
      have hl1 : (l : Int) < k := by omega
      clear hx2 hdd hca hA HD H
      go_wp2
      refine wp_region_drawn (fun f args u => VE (logG S) u) (by kernel_rfl) (by kernel_rfl) ?_
      refine wset_step (fun K hK nq => ?_)
      go_simp
      refine hK _ ?_
      clear hK K
      refine wset_step (fun K hK nq => ?_)
      go_simp
      refine ⟨(spec_l01Log_any s hlog _).mono ?_, ?_⟩
      · rintro e w' ⟨r, rfl, hr, q, rfl⟩
        exact ⟨_, rfl, ⟨_, World.drewN_drewN _ _ _⟩, r, rfl, by rw [hr.out.1, HSC.out]⟩
      rintro u ⟨r, rfl, hr⟩
      have HRL := Lib.hid hr
      refine hK _ ?_
      clear hK K hr
      repeat (refine wset_step (fun K hK nq => ?_); go_simp; refine hK _ ?_; clear hK K)
      generalize ht : fbits BinOp.sub FloatKind.f32 r (fbits BinOp.sub FloatKind.f32 x2 m _) _ = t
      have htc : cn .f32 t = tE X b k l := by rw [← ht, cn_fbits, HDD.out, HRL.out, HS.out]; rfl
      have HT := Lib.hid htc
      clear ht htc
      refine wset_nil ?_
      rintro w3 ⟨q, rfl⟩
      have HR := Lib.hid (HR.out.below (below_drewN (Below.refl _ _) q)); have HBA := Lib.hid (below_drewN HBA.out q)
      have hs3 : wa.heap.size ≤ (w2.drewN q).heap.size := by simpa using hs2
      clear hya hs2
      generalize w2.drewN q = w3 at HR HBA hs3 ⊢
      go_wp2
      go_loopw [64] (fun i wr => ∃ j : Nat, i = .int .i64 j ∧ j ≤ k ∧ ∃ zs : List Nat, RepF wr w.heap.size wa.heap.size a1 k q1 zs ∧ Hid (zs.map (cn .f32) = listOf k (stepf j (rE X b k) (eE X b))) ∧ Hid (Below w.heap.size w wr) ∧ wa.heap.size ≤ wr.heap.size) (fun i _ => k - (intOf i).toNat)
      case atStart => exact ⟨0, rfl, Nat.zero_le _, ys, HR.out, Lib.hid (by rw [stepf_zero]; exact HY.out), HBA, by omega⟩
      case round =>
        clear HR HBA
        obtain ⟨j, rfl, hj, zs, hz, HZ, HB, hbs⟩ := hrel
        by_cases hlt : j < k
        · obtain ⟨g, rfl, hlo, hcell, hfr, _⟩ := hz.open (by omega)
          have hc := hcell j hlt
          have hf := hfr j
          obtain ⟨x1, hx1⟩ : ∃ x, x = zs.getD j 0 := ⟨_, rfl⟩
          rw [← hx1] at hc
          have HX1 := Lib.hid hx1
          clear hcell hfr hx1
          go_wp2
          go_roundw
          case rel =>
            refine ⟨j + 1, by go_num, hlt, zs.set j _, RepF.setAt (hz.below (below_drewN (Below.refl _ _) _)) j _ (fbits_lt _ .f32 _ _ _) (by omega), Lib.hid (set_listOf HZ.out ?_), Lib.hid ((below_drewN HB.out _).setCell hlo _), by simpa [World.setCell] using hbs⟩
            rw [cn_fbits, HSC.out, HX1.out, cn_at HZ.out hlt, stepf_at, HS.out]; rfl
          case measure => simp [intOf]; omega
        · have hjn : j = k := by omega
          subst hjn
          obtain ⟨g, rfl, hlo, hcell, hfr, _⟩ := hz.open (by omega)
          have hc := hcell l hl
          have hf := hfr l
          have hZ2 := HZ.out
          rw [listOf_done] at hZ2
          have HZ2 := Lib.hid hZ2
          obtain ⟨x1, hx1⟩ : ∃ x, x = zs.getD l 0 := ⟨_, rfl⟩
          rw [← hx1] at hc
          have HX1 := Lib.hid hx1
          clear hx1 hcell hfr hZ2
          go_wp2
          go_ret3
          refine ⟨t, _, _, zs.set l _, rfl, Lib.hid ⟨HT.out, (RepF.setAt (hz.below (below_drewN (Below.refl _ _) _)) l _ (fbits_lt _ .f32 _ _ _) (by omega)).bounds (Nat.le_refl _) (by simpa [World.setCell] using hbs), set_last HZ2.out hl ?_, (below_drewN HB.out _).setCell hlo _⟩⟩
          rw [cn_fbits, HX1.out, cn_at HZ2.out hl]; rfl
end Go.Proofs.Ytaocilimggpdjaa
