/- What the program's LossEntropy returns. No condition. -/
import Derived.Test.YtaocilimggpdjaaEnt
namespace Go.Proofs.Ytaocilimggpdjaa
open Go Go.RowKit Ieee
set_option linter.unusedVariables false
set_option linter.unusedSimpArgs false
def VE (c : Nat) (v : Value) : Prop := ∃ r, v = .float .f32 r ∧ cn .f32 r = c
theorem set_last {n l : Nat} {f : Nat → Nat} {zs : List Nat} {y : Nat} (h : zs.map (cn .f32) = listOf n f) (hl : l < n) (hy : cn .f32 y = fop .sub .f32 (f l) 1065353216) : (zs.set l y).map (cn .f32) = listOf n (fun i => if i = l then fop .sub .f32 (f i) 1065353216 else f i) := by
  apply List.ext_getElem
  · have h2 := congrArg List.length h
    simp only [List.length_map, listOf_length] at h2
    simp [listOf_length, h2]
  · intro i h1 h2
    have hi : i < n := by rw [listOf_length] at h2; exact h2
    have h3 := congrArg List.length h
    simp only [List.length_map, listOf_length] at h3
    simp only [List.map_set, listOf, List.getElem_map, List.getElem_range, List.getElem_set]
    by_cases e : l = i
    · subst e; simp [hy]
    · have e2 : ¬ i = l := fun h => e h.symm
      simp only [e, e2, if_false]
      have h4 := cn_at h hi
      have h5 : zs.getD i 0 = zs[i]'(by omega) := by simp [show i < zs.length by omega]
      rw [h5] at h4
      exact h4
theorem impl_isSize (n : Int) (w : World) : Calls Try.prog 87 #[.int .i64 n] w fun e w' => e = .returned (.bool (inB n 1 8)) ∧ w = w' := by
  have k1 := fun W => within_any n 1 8 W
  go_enter Try.func87, Try.ntmps87
  go_wp2_with fail
  refine (k1 _).mono ?_
  rintro e w1 ⟨rfl, rfl⟩
  go_wp2
  go_ret
  exact ⟨rfl, rfl⟩
set_option maxRecDepth 100000 in
set_option maxHeartbeats 4000000 in
theorem impl_LossEntropy_yes (w : World) (ad : Option Addr) (cap : Nat) (xs : List Nat) (h : F32s w ad cap xs) (n : Nat) (hN : n = xs.length) (h1 : 1 ≤ n) (h8 : n ≤ 8) (l : Nat) (hl : l < n) :
    Calls Try.prog 27 #[.slice ad n cap, .int .i64 l] w fun e w' => ∃ r ad' cap' ys, e = .returned (.tuple #[.float .f32 r, .slice ad' n cap', .bool true]) ∧
      Hid (cn .f32 r = tE (xs.map (cn .f32)) (gBest xs n) n l ∧ RepF w' w.heap.size w'.heap.size ad' n cap' ys ∧ ys.map (cn .f32) = listOf n (lE (xs.map (cn .f32)) (gBest xs n) n l) ∧ Below w.heap.size w w') := by
  have hlt' := h.lt
  have k1 := fun W => impl_isSize n W
  have k2 := fun W => within_any l 0 ((n : Int) - 1) W
  rw [inB_iff.2 ⟨by omega, by omega⟩] at k1 k2
  have k3 := fun W hW => impl_exps W ad cap xs hW n hN h1 h8
  have hsum := ent_sum hlt' hN.symm h1 h8
  have hd : ∀ (w : World), cn .f32 (fbits .sub .f32 (xs.getD l 0) (xs.getD (gBest xs n) 0) w) = dE (xs.map (cn .f32)) (gBest xs n) l := by
    intro w; rw [cn_fbits]; unfold dE; rw [cn_getD, cn_getD]
  obtain ⟨b, hb⟩ : ∃ b, b = gBest xs n := ⟨_, rfl⟩
  rw [← hb] at k3 hsum hd ⊢
  obtain ⟨X, hX⟩ : ∃ X, X = xs.map (cn .f32) := ⟨_, rfl⟩
  rw [← hX] at k3 hsum hd ⊢
  obtain ⟨m, hm⟩ : ∃ m, m = xs.getD b 0 := ⟨_, rfl⟩
  rw [← hm] at k3 hd
  obtain ⟨S, hS⟩ : ∃ S, S = sE X b n := ⟨_, rfl⟩
  rw [← hS] at hsum
  have K1 := Lib.hid k1; have K2 := Lib.hid k2; have K3 := Lib.hid k3; have HS := Lib.hid hS; have HSUM := Lib.hid hsum; have HD := Lib.hid hd; have HN := Lib.hid hN; have H := Lib.hid h
  clear k1 k2 k3 hS hsum hd hm hX hb hN hlt' h
  go_enter Try.func27, Try.ntmps27
  go_wp2_with fail
  refine (K1.out _).mono ?_
  rintro e w1 ⟨rfl, rfl⟩
  go_wp2_with fail
  refine (K2.out _).mono ?_
  rintro e w1 ⟨rfl, rfl⟩
  go_wp2_with fail
  refine (K3.out _ H.out).mono ?_
  rintro e w1 ⟨a1, q1, ys, rfl, hr, hy, hb1⟩
  have hs1 := hb1.size
  have HR := Lib.hid hr; have HB := Lib.hid hb1
  have ks := fun W (hW : RepF W w.heap.size w1.heap.size a1 n q1 ys) => impl_sumOf W a1 q1 ys hW.arg
  rw [hr.len, hy.out] at ks
  have KS := Lib.hid ks
  clear hr hb1 ks K1 K2 K3
  go_wp2_with fail
  refine (KS.out _ HR.out).mono ?_
  rintro e w2 ⟨s, rfl, hs, hd2⟩
  have hsc : cn .f32 s = S := by rw [hs.out.1, HS.out]; rfl
  have HSC := Lib.hid hsc
  have HR := Lib.hid (HR.out.below hd2.below); have HB := Lib.hid (bthen HB.out hd2.below)
  have hs2 := hd2.below.size
  clear hsc hs hd2 KS
  go_wp2
  go_loopw [32] (fun i wr => ∃ k : Nat, i = .int .i64 k ∧ k ≤ n ∧ ∃ zs : List Nat, RepF wr w.heap.size w1.heap.size a1 n q1 zs ∧ Hid (zs.map (cn .f32) = listOf n (stepf k (rE X b n) (eE X b))) ∧ Hid (Below w.heap.size w wr) ∧ w1.heap.size ≤ wr.heap.size) (fun i _ => n - (intOf i).toNat)
  case atStart => exact ⟨0, rfl, Nat.zero_le _, ys, HR.out, Lib.hid (by rw [stepf_zero]; exact hy.out), HB, by omega⟩
  case round =>
    clear HR HB
    obtain ⟨k, rfl, hk, zs, hz, HZ, HB, hbs⟩ := hrel
    by_cases hlt : k < n
    · obtain ⟨g, rfl, hlo, hcell, hfr, _⟩ := hz.open (by omega)
      have hc := hcell k hlt
      have hf := hfr k
      obtain ⟨x1, hx1⟩ : ∃ x, x = zs.getD k 0 := ⟨_, rfl⟩
      rw [← hx1] at hc
      have HX1 := Lib.hid hx1
      clear hcell hfr hx1
      go_wp2
      go_roundw
      case rel =>
        refine ⟨k + 1, by go_num, hlt, zs.set k _, RepF.setAt (hz.below (below_drewN (Below.refl _ _) _)) k _ (fbits_lt _ .f32 _ _ _) (by omega), Lib.hid (set_listOf HZ.out ?_), Lib.hid ((below_drewN HB.out _).setCell hlo _), by simpa [World.setCell] using hbs⟩
        rw [cn_fbits, HSC.out, HX1.out, cn_at HZ.out hlt, stepf_at, HS.out]; rfl
      case measure => simp [intOf]; omega
    · have hkn : k = n := by omega
      subst hkn
      obtain ⟨g, rfl, hlo, hcell, hfr, _⟩ := hz.open (by omega)
      have hc := hcell l hl
      have hf := hfr l
      have hZ2 := HZ.out
      rw [listOf_done] at hZ2
      have HZ2 := Lib.hid hZ2
      have hA := H.out.below (HB.out.mono (Nat.le_refl _))
      obtain ⟨bl, off, rfl, hbl, hca⟩ := hA.spot (k := l) (by rw [← HN.out]; exact hl)
      have hya := hca l (by rw [← HN.out]; exact hl)
      have hdd := fun w => HD.out w
      obtain ⟨x1, hx1⟩ : ∃ x, x = zs.getD l 0 := ⟨_, rfl⟩
      obtain ⟨x2, hx2⟩ : ∃ x, x = xs.getD l 0 := ⟨_, rfl⟩
      rw [← hx1] at hc
      rw [← hx2] at hya hdd
      have hgb : bl < g := by
        obtain ⟨b3, o3, e3, hb3, _⟩ := H.out.spot (k := l) (by rw [← HN.out]; exact hl)
        cases e3; omega
      have hgne : ¬ g = bl := by omega
      have HX1 := Lib.hid hx1; have HDD := Lib.hid hdd
      have hl0 : (0 : Int) ≤ l := by omega
      have hl1 : (l : Int) < k := by omega
      have hgne2 : ¬ bl = g := by omega
      clear hx1 hx2 hdd hca hA hcell hfr hZ2 HD H
      go_wp2
      generalize hv : fbits BinOp.sub FloatKind.f32 x1 1065353216 _ = v
      have hvc : cn .f32 v = fop .sub .f32 (cn .f32 x1) 1065353216 := by rw [← hv, cn_fbits]; rfl
      have hvl : v < 4294967296 := by rw [← hv]; exact fbits_lt _ .f32 _ _ _
      clear hv
      have hlog := logIn_of HSC.out HSUM.out
      have hrep := RepF.setAt (hz.below (below_drewN (Below.refl _ _) (fdr BinOp.sub FloatKind.f32 x1 1065353216))) l v hvl (by omega)
      have hbw := (below_drewN HB.out (fdr BinOp.sub FloatKind.f32 x1 1065353216)).setCell hlo (p := ⟨g, l, none⟩) (.float .f32 v)
      have hya2 : ((wr.drewN (fdr BinOp.sub FloatKind.f32 x1 1065353216)).setCell ⟨g, l, none⟩ (.float .f32 v)).cell? ⟨bl, off + l, none⟩ = some (.float .f32 x2) := by
        rw [World.cell?_setCell_other _ _ _ _ (by intro e; have h3 := congrArg Addr.block e; simp at h3; omega)]; exact hya
      have hval : (zs.set l v).map (cn .f32) = listOf k (lE X b k l) := by
        have h := set_last HZ2.out hl (y := v) (by rw [hvc, HX1.out, cn_at HZ2.out hl])
        exact h
      have hsz : w1.heap.size ≤ ((wr.drewN (fdr BinOp.sub FloatKind.f32 x1 1065353216)).setCell ⟨g, l, none⟩ (.float .f32 v)).heap.size := by simpa [World.setCell] using hbs
      generalize ((wr.drewN (fdr BinOp.sub FloatKind.f32 x1 1065353216)).setCell ⟨g, l, none⟩ (.float .f32 v)) = W at hrep hbw hya2 hsz ⊢
      have HREP := Lib.hid hrep; have HBW := Lib.hid hbw; have HVAL := Lib.hid hval
      clear hrep hbw hval hvc hya hc hf hz
      refine wp_region_drawn (fun f args u => VE (logG S) u) (by kernel_rfl) (by kernel_rfl) ?_
      refine wset_step (fun K hK nq => ?_)
      go_simp
      refine hK _ ?_
      clear hK K
      refine wset_step (fun K hK nq => ?_)
      go_simp
      refine ⟨(impl_LogNumber_any s hlog _).mono ?_, ?_⟩
      · rintro e w' ⟨r, rfl, hr, q, rfl⟩
        exact ⟨_, rfl, ⟨_, World.drewN_drewN _ _ _⟩, r, rfl, by rw [hr.out.1, HSC.out]⟩
      rintro u ⟨r, rfl, hr⟩
      have HR := Lib.hid hr
      refine hK _ ?_
      clear hK K hr
      repeat (refine wset_step (fun K hK nq => ?_); go_simp; refine hK _ ?_; clear hK K)
      generalize ht : fbits BinOp.sub FloatKind.f32 r (fbits BinOp.sub FloatKind.f32 x2 m _) _ = t
      have htc : cn .f32 t = tE X b k l := by rw [← ht, cn_fbits, HDD.out, HR.out, HS.out]; rfl
      have HT := Lib.hid htc
      clear ht htc
      refine wset_nil ?_
      rintro w' ⟨q, rfl⟩
      go_wp2
      go_ret3
      exact ⟨t, _, _, zs.set l v, rfl, Lib.hid ⟨HT.out, (HREP.out.below (below_drewN (Below.refl _ _) _)).bounds (Nat.le_refl _) (by simpa using hsz), HVAL.out, below_drewN HBW.out _⟩⟩
end Go.Proofs.Ytaocilimggpdjaa
