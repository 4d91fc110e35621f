/- Joined texts 6: En2 En3 En4 Lou Lov Low Lox WClp Loy Loz WLos. Each is told at its own head. No condition. -/
import Derived.Deep.QuietTactic
import Derived.BigQuiet
import Derived.Test.YtnhikdjljjemlaaMc5
/- What the program's LossEntropy returns. No condition. -/
namespace Go.Proofs.Ytnhikdjljjemlaa
open Go Go.RowKit Ieee
set_option linter.unusedVariables false
set_option linter.unusedSimpArgs false
def VE (c : Nat) (v : Value) : Prop := ∃ r, v = .float .f32 r ∧ cn .f32 r = c
theorem set_last {n l : Nat} {f : Nat → Nat} {zs : List Nat} {y : Nat} (h : zs.map (cn .f32) = listOf n f) (hl : l < n) (hy : cn .f32 y = fop .sub .f32 (f l) 1065353216) : (zs.set l y).map (cn .f32) = listOf n (fun i => if i = l then fop .sub .f32 (f i) 1065353216 else f i) := by
  apply List.ext_getElem
  · have h2 := congrArg List.length h
    simp only [List.length_map, listOf_length] at h2
    simp [listOf_length, h2]
  · intro i h1 h2
    have hi : i < n := by rw [listOf_length] at h2; exact h2
    have h3 := congrArg List.length h
    simp only [List.length_map, listOf_length] at h3
    simp only [List.map_set, listOf, List.getElem_map, List.getElem_range, List.getElem_set]
    by_cases e : l = i
    · subst e; simp [hy]
    · have e2 : ¬ i = l := fun h => e h.symm
      simp only [e, e2, if_false]
      have h4 := cn_at h hi
      have h5 : zs.getD i 0 = zs[i]'(by omega) := by simp [show i < zs.length by omega]
      rw [h5] at h4
      exact h4
theorem impl_isSize (n : Int) (w : World) : Calls Try.prog 62 #[.int .i64 n] w fun e w' => e = .returned (.bool (inB n 1 8)) ∧ w = w' := by
  have k1 := fun W => within_any n 1 8 W
  go_enter Try.func62, Try.ntmps62
  go_wp2_with fail
  refine (k1 _).mono ?_
  rintro e w1 ⟨rfl, rfl⟩
  go_wp2
  go_ret
  exact ⟨rfl, rfl⟩
set_option maxRecDepth 100000 in
set_option maxHeartbeats 4000000 in
theorem impl_LossEntropy_yes (w : World) (ad : Option Addr) (cap : Nat) (xs : List Nat) (h : F32s w ad cap xs) (n : Nat) (hN : n = xs.length) (h1 : 1 ≤ n) (h8 : n ≤ 8) (l : Nat) (hl : l < n) :
    Calls Try.prog 28 #[.slice ad n cap, .int .i64 l] w fun e w' => ∃ r ad' cap' ys, e = .returned (.tuple #[.float .f32 r, .slice ad' n cap', .bool true]) ∧
      Hid (cn .f32 r = tE (xs.map (cn .f32)) (gBest xs n) n l ∧ RepF w' w.heap.size w'.heap.size ad' n cap' ys ∧ ys.map (cn .f32) = listOf n (lE (xs.map (cn .f32)) (gBest xs n) n l) ∧ Below w.heap.size w w') := by
  have hlt' := h.lt
  have k1 := fun W => impl_isSize n W
  have k2 := fun W => within_any l 0 ((n : Int) - 1) W
  rw [inB_iff.2 ⟨by omega, by omega⟩] at k1 k2
  have k3 := fun W hW => impl_exps W ad cap xs hW n hN h1 h8
  have hsum := ent_sum hlt' hN.symm h1 h8
  have hd : ∀ (w : World), cn .f32 (fbits .sub .f32 (xs.getD l 0) (xs.getD (gBest xs n) 0) w) = dE (xs.map (cn .f32)) (gBest xs n) l := by
    intro w; rw [cn_fbits]; unfold dE; rw [cn_getD, cn_getD]
  obtain ⟨b, hb⟩ : ∃ b, b = gBest xs n := ⟨_, rfl⟩
  rw [← hb] at k3 hsum hd ⊢
  obtain ⟨X, hX⟩ : ∃ X, X = xs.map (cn .f32) := ⟨_, rfl⟩
  rw [← hX] at k3 hsum hd ⊢
  obtain ⟨m, hm⟩ : ∃ m, m = xs.getD b 0 := ⟨_, rfl⟩
  rw [← hm] at k3 hd
  obtain ⟨S, hS⟩ : ∃ S, S = sE X b n := ⟨_, rfl⟩
  rw [← hS] at hsum
  have K1 := Lib.hid k1; have K2 := Lib.hid k2; have K3 := Lib.hid k3; have HS := Lib.hid hS; have HSUM := Lib.hid hsum; have HD := Lib.hid hd; have HN := Lib.hid hN; have H := Lib.hid h
  clear k1 k2 k3 hS hsum hd hm hX hb hN hlt' h
  go_enter Try.func28, Try.ntmps28
  go_wp2_with fail
  refine (K1.out _).mono ?_
  rintro e w1 ⟨rfl, rfl⟩
  go_wp2_with fail
  refine (K2.out _).mono ?_
  rintro e w1 ⟨rfl, rfl⟩
  go_wp2_with fail
  refine (K3.out _ H.out).mono ?_
  rintro e w1 ⟨a1, q1, ys, rfl, hr, hy, hb1⟩
  have hs1 := hb1.size
  have HR := Lib.hid hr; have HB := Lib.hid hb1
  have ks := fun W (hW : RepF W w.heap.size w1.heap.size a1 n q1 ys) => impl_sumOf W a1 q1 ys hW.arg
  rw [hr.len, hy.out] at ks
  have KS := Lib.hid ks
  clear hr hb1 ks K1 K2 K3
  go_wp2_with fail
  refine (KS.out _ HR.out).mono ?_
  rintro e w2 ⟨s, rfl, hs, hd2⟩
  have hsc : cn .f32 s = S := by rw [hs.out.1, HS.out]; rfl
  have HSC := Lib.hid hsc
  have HR := Lib.hid (HR.out.below hd2.below); have HB := Lib.hid (bthen HB.out hd2.below)
  have hs2 := hd2.below.size
  clear hsc hs hd2 KS
  go_wp2
  go_loopw [32] (fun i wr => ∃ k : Nat, i = .int .i64 k ∧ k ≤ n ∧ ∃ zs : List Nat, RepF wr w.heap.size w1.heap.size a1 n q1 zs ∧ Hid (zs.map (cn .f32) = listOf n (stepf k (rE X b n) (eE X b))) ∧ Hid (Below w.heap.size w wr) ∧ w1.heap.size ≤ wr.heap.size) (fun i _ => n - (intOf i).toNat)
  case atStart => exact ⟨0, rfl, Nat.zero_le _, ys, HR.out, Lib.hid (by rw [stepf_zero]; exact hy.out), HB, by omega⟩
  case round =>
    clear HR HB
    obtain ⟨k, rfl, hk, zs, hz, HZ, HB, hbs⟩ := hrel
    by_cases hlt : k < n
    · obtain ⟨g, rfl, hlo, hcell, hfr, _⟩ := hz.open (by omega)
      have hc := hcell k hlt
      have hf := hfr k
      obtain ⟨x1, hx1⟩ : ∃ x, x = zs.getD k 0 := ⟨_, rfl⟩
      rw [← hx1] at hc
      have HX1 := Lib.hid hx1
      clear hcell hfr hx1
      go_wp2
      go_roundw
      case rel =>
        refine ⟨k + 1, by go_num, hlt, zs.set k _, RepF.setAt (hz.below (below_drewN (Below.refl _ _) _)) k _ (fbits_lt _ .f32 _ _ _) (by omega), Lib.hid (set_listOf HZ.out ?_), Lib.hid ((below_drewN HB.out _).setCell hlo _), by simpa [World.setCell] using hbs⟩
        rw [cn_fbits, HSC.out, HX1.out, cn_at HZ.out hlt, stepf_at, HS.out]; rfl
      case measure => simp [intOf]; omega
    · have hkn : k = n := by omega
      subst hkn
      obtain ⟨g, rfl, hlo, hcell, hfr, _⟩ := hz.open (by omega)
      have hc := hcell l hl
      have hf := hfr l
      have hZ2 := HZ.out
      rw [listOf_done] at hZ2
      have HZ2 := Lib.hid hZ2
      have hA := H.out.below (HB.out.mono (Nat.le_refl _))
      obtain ⟨bl, off, rfl, hbl, hca⟩ := hA.spot (k := l) (by rw [← HN.out]; exact hl)
      have hya := hca l (by rw [← HN.out]; exact hl)
      have hdd := fun w => HD.out w
      obtain ⟨x1, hx1⟩ : ∃ x, x = zs.getD l 0 := ⟨_, rfl⟩
      obtain ⟨x2, hx2⟩ : ∃ x, x = xs.getD l 0 := ⟨_, rfl⟩
      rw [← hx1] at hc
      rw [← hx2] at hya hdd
      have hgb : bl < g := by
        obtain ⟨b3, o3, e3, hb3, _⟩ := H.out.spot (k := l) (by rw [← HN.out]; exact hl)
        cases e3; omega
      have hgne : ¬ g = bl := by omega
      have HX1 := Lib.hid hx1; have HDD := Lib.hid hdd
      have hl0 : (0 : Int) ≤ l := by omega
      have hl1 : (l : Int) < k := by omega
      have hgne2 : ¬ bl = g := by omega
      clear hx1 hx2 hdd hca hA hcell hfr hZ2 HD H
      go_wp2
      generalize hv : fbits BinOp.sub FloatKind.f32 x1 1065353216 _ = v
      have hvc : cn .f32 v = fop .sub .f32 (cn .f32 x1) 1065353216 := by rw [← hv, cn_fbits]; rfl
      have hvl : v < 4294967296 := by rw [← hv]; exact fbits_lt _ .f32 _ _ _
      clear hv
      have hlog := logIn_of HSC.out HSUM.out
      have hrep := RepF.setAt (hz.below (below_drewN (Below.refl _ _) (fdr BinOp.sub FloatKind.f32 x1 1065353216))) l v hvl (by omega)
      have hbw := (below_drewN HB.out (fdr BinOp.sub FloatKind.f32 x1 1065353216)).setCell hlo (p := ⟨g, l, none⟩) (.float .f32 v)
      have hya2 : ((wr.drewN (fdr BinOp.sub FloatKind.f32 x1 1065353216)).setCell ⟨g, l, none⟩ (.float .f32 v)).cell? ⟨bl, off + l, none⟩ = some (.float .f32 x2) := by
        rw [World.cell?_setCell_other _ _ _ _ (by intro e; have h3 := congrArg Addr.block e; simp at h3; omega)]; exact hya
      have hval : (zs.set l v).map (cn .f32) = listOf k (lE X b k l) := by
        have h := set_last HZ2.out hl (y := v) (by rw [hvc, HX1.out, cn_at HZ2.out hl])
        exact h
      have hsz : w1.heap.size ≤ ((wr.drewN (fdr BinOp.sub FloatKind.f32 x1 1065353216)).setCell ⟨g, l, none⟩ (.float .f32 v)).heap.size := by simpa [World.setCell] using hbs
      generalize ((wr.drewN (fdr BinOp.sub FloatKind.f32 x1 1065353216)).setCell ⟨g, l, none⟩ (.float .f32 v)) = W at hrep hbw hya2 hsz ⊢
      have HREP := Lib.hid hrep; have HBW := Lib.hid hbw; have HVAL := Lib.hid hval
      clear hrep hbw hval hvc hya hc hf hz
      refine wp_region_drawn (fun f args u => VE (logG S) u) (by kernel_rfl) (by kernel_rfl) ?_
      refine wset_step (fun K hK nq => ?_)
      go_simp
      refine hK _ ?_
      clear hK K
      refine wset_step (fun K hK nq => ?_)
      go_simp
      refine ⟨(impl_LogNumber_any s hlog _).mono ?_, ?_⟩
      · rintro e w' ⟨r, rfl, hr, q, rfl⟩
        exact ⟨_, rfl, ⟨_, World.drewN_drewN _ _ _⟩, r, rfl, by rw [hr.out.1, HSC.out]⟩
      rintro u ⟨r, rfl, hr⟩
      have HR := Lib.hid hr
      refine hK _ ?_
      clear hK K hr
      repeat (refine wset_step (fun K hK nq => ?_); go_simp; refine hK _ ?_; clear hK K)
      generalize ht : fbits BinOp.sub FloatKind.f32 r (fbits BinOp.sub FloatKind.f32 x2 m _) _ = t
      have htc : cn .f32 t = tE X b k l := by rw [← ht, cn_fbits, HDD.out, HR.out, HS.out]; rfl
      have HT := Lib.hid htc
      clear ht htc
      refine wset_nil ?_
      rintro w' ⟨q, rfl⟩
      go_wp2
      go_ret3
      exact ⟨t, _, _, zs.set l v, rfl, Lib.hid ⟨HT.out, (HREP.out.below (below_drewN (Below.refl _ _) _)).bounds (Nat.le_refl _) (by simpa using hsz), HVAL.out, below_drewN HBW.out _⟩⟩
end Go.Proofs.Ytnhikdjljjemlaa
/- What the reference's LossEntropy returns. No condition. -/
namespace Go.Proofs.Ytnhikdjljjemlaa
open Go Go.RowKit Ieee
set_option linter.unusedVariables false
set_option linter.unusedSimpArgs false
end Go.Proofs.Ytnhikdjljjemlaa
/- What LossEntropy of both sides returns. No condition. -/
namespace Go.Proofs.Ytnhikdjljjemlaa
open Go Go.RowKit Ieee
set_option linter.unusedVariables false
set_option linter.unusedSimpArgs false
def entL (xs : List Nat) (l : Int) : Nat := if entOk xs.length l = true then tE (xs.map (cn .f32)) (gBest xs xs.length) xs.length l.toNat else 0
def entG (xs : List Nat) (l : Int) : List Nat := if entOk xs.length l = true then listOf xs.length (lE (xs.map (cn .f32)) (gBest xs xs.length) xs.length l.toNat) else []
def EntPost (w : World) (xs : List Nat) (l : Int) (e : Ending) (w' : World) : Prop :=
  ∃ (r : Nat) (ad' : Option Addr) (n cap' : Nat) (ys : List Nat) (b : Bool), e = .returned (.tuple #[.float .f32 r, .slice ad' n cap', .bool b]) ∧ cn .f32 r = entL xs l ∧ RepF w' w.heap.size w'.heap.size ad' n cap' ys ∧ ys.map (cn .f32) = entG xs l ∧ n ≤ 1048576 ∧ b = entOk xs.length l ∧ Below w.heap.size w w'
theorem EntPost.no {w w' : World} {xs : List Nat} {l : Int} {e : Ending} (hok : entOk xs.length l = false) (he : e = .returned (.tuple #[.float .f32 0, .slice none 0 0, .bool false])) (hw : w = w') : EntPost w xs l e w' := by
  subst hw
  refine ⟨0, none, 0, 0, [], false, he, ?_, RepF.nil _ _ _, ?_, by omega, hok.symm, Below.refl _ _⟩
  · unfold entL; rw [if_neg (by rw [hok]; decide)]; decide +kernel
  · unfold entG; rw [if_neg (by rw [hok]; decide)]; rfl
theorem EntPost.yes {w w' : World} {xs : List Nat} {l : Int} {e : Ending} {r : Nat} {ad' : Option Addr} {cap' : Nat} {ys : List Nat} {m : Nat} (hm : l = m) (hok : entOk xs.length l = true) (he : e = .returned (.tuple #[.float .f32 r, .slice ad' xs.length cap', .bool true]))
    (h : Hid (cn .f32 r = tE (xs.map (cn .f32)) (gBest xs xs.length) xs.length m ∧ RepF w' w.heap.size w'.heap.size ad' xs.length cap' ys ∧ ys.map (cn .f32) = listOf xs.length (lE (xs.map (cn .f32)) (gBest xs xs.length) xs.length m) ∧ Below w.heap.size w w')) (hn : xs.length ≤ 8) : EntPost w xs l e w' := by
  obtain ⟨h1, h2, h3, h4⟩ := h.out
  subst hm
  refine ⟨r, ad', _, cap', ys, true, he, ?_, h2, ?_, by omega, hok.symm, h4⟩
  · unfold entL; rw [if_pos hok, Int.toNat_natCast]; exact h1
  · unfold entG; rw [if_pos hok, Int.toNat_natCast]; exact h3
theorem entOk_iff {n : Nat} {l : Int} : entOk n l = true ↔ (1 ≤ n ∧ n ≤ 8) ∧ 0 ≤ l ∧ l < n := by
  unfold entOk
  rw [Bool.and_eq_true, inB_iff, inB_iff]
  omega
set_option maxRecDepth 100000 in
theorem impl_LossEntropy (w : World) (ad : Option Addr) (cap : Nat) (xs : List Nat) (h : F32s w ad cap xs) (l : Int) :
    Calls Try.prog 28 #[.slice ad xs.length cap, .int .i64 l] w (EntPost w xs l) := by
  have m1 := Nat.le_trans h.len h.cap
  unfold maxLen at m1
  cases hok : entOk xs.length l
  · have k1 := fun W => impl_isSize xs.length W
    have k2 := fun W => within_any l 0 ((xs.length : Int) - 1) W
    have fin := fun e w' => @EntPost.no w w' xs l e hok
    obtain ⟨n, hn⟩ : ∃ n, n = xs.length := ⟨_, rfl⟩
    rw [← hn] at k1 k2 hok m1 ⊢
    have FIN := Lib.hid fin
    unfold entOk at hok
    clear h hn fin
    cases e1 : inB n 1 8
    · rw [e1] at k1
      have K1 := Lib.hid k1; clear k1 k2 hok
      go_enter Try.func28, Try.ntmps28
      go_wp2_with fail
      refine (K1.out _).mono ?_
      rintro e w1 ⟨rfl, rfl⟩
      go_wp2
      go_ret3
      exact FIN.out _ _ rfl rfl
    · rw [e1] at k1 hok
      have e2 : inB l 0 ((n : Int) - 1) = false := by simpa using hok
      rw [e2] at k2
      have hi := inB_iff.1 e1
      have K1 := Lib.hid k1; have K2 := Lib.hid k2; clear k1 k2 hok e1 e2
      go_enter Try.func28, Try.ntmps28
      go_wp2_with fail
      refine (K1.out _).mono ?_
      rintro e w1 ⟨rfl, rfl⟩
      go_wp2_with fail
      refine (K2.out _).mono ?_
      rintro e w1 ⟨rfl, rfl⟩
      go_wp2
      go_ret3
      exact FIN.out _ _ rfl rfl
  · obtain ⟨⟨h1, h8⟩, h0, hl⟩ := entOk_iff.1 hok
    obtain ⟨m, rfl⟩ := Int.eq_ofNat_of_zero_le h0
    exact (impl_LossEntropy_yes w ad cap xs h xs.length rfl h1 h8 m (by omega)).mono fun e w' ⟨r, a', c', ys, he, hh⟩ => EntPost.yes rfl hok he hh h8
end Go.Proofs.Ytnhikdjljjemlaa
/- Plain laws: errors and bounds of rounded numbers; the logarithm of what is at least 1 is not negative. No condition. -/
namespace Go.Proofs.Ytnhikdjljjemlaa
open Go Go.RowKit Ieee
set_option linter.unusedVariables false
set_option linter.unusedSimpArgs false
/-- how far from 'q' what is rounded lies -/
theorem near_err {f : Format} {q : Rat} {w : Nat} (h : Near f q w) (hf : Fin f w) (hI : f.infRung < f.signWeight) :
    2 * (f.binade : Rat) * (val f w - q) ≤ rabs q + f.binade * (2 : Rat) ^ f.leastPlace ∧ 2 * (f.binade : Rat) * (q - val f w) ≤ rabs q + f.binade * (2 : Rat) ^ f.leastPlace := by
  obtain ⟨s, r, rfl, hm, hn, hp⟩ := h
  have hr : r < f.infRung := by
    obtain ⟨t, r0, e, h0⟩ := hf
    obtain ⟨-, e3⟩ := word_inj (Nat.lt_of_le_of_lt hm.le hI) (Nat.lt_trans h0 hI) e
    rw [e3]; exact h0
  have hpw := pw_pos (-f.leastPlace)
  have hpl := pw_pos f.leastPlace
  have hV : 0 ≤ rabs q * (2 : Rat) ^ (-f.leastPlace) := Rat.mul_nonneg (rabs_nonneg q) (Rat.le_of_lt hpw)
  obtain ⟨e1, e2⟩ := hm.err hr hV
  have hu : rabs q * (2 : Rat) ^ (-f.leastPlace) * (2 : Rat) ^ f.leastPlace = rabs q := units' f _
  have f1 := Rat.mul_le_mul_of_nonneg_right e1 (Rat.le_of_lt hpl)
  have f2 := Rat.mul_le_mul_of_nonneg_right e2 (Rat.le_of_lt hpl)
  obtain ⟨A, hA⟩ : ∃ A, A = (nval f r : Rat) * (2 : Rat) ^ f.leastPlace := ⟨_, rfl⟩
  obtain ⟨V, hVe⟩ : ∃ V, V = rabs q * (2 : Rat) ^ (-f.leastPlace) := ⟨_, rfl⟩
  rw [← hVe] at f1 f2 hu
  obtain ⟨P, hP⟩ : ∃ P, P = (2 : Rat) ^ f.leastPlace := ⟨_, rfl⟩
  obtain ⟨B, hB⟩ : ∃ B, B = (f.binade : Rat) := ⟨_, rfl⟩
  obtain ⟨M, hM⟩ : ∃ M, M = (nval f r : Rat) := ⟨_, rfl⟩
  rw [val_word f s hr]
  rw [← hP, ← hM] at hA
  rw [← hP] at f1 f2 hu hpl
  rw [← hB, ← hM] at f1 f2
  rw [← hP, ← hB, ← hM, ← hA]
  have g1 : 2 * B * (A - rabs q) ≤ rabs q + B * P := by rw [hA, ← hu]; grind
  have g2 : 2 * B * (rabs q - A) ≤ rabs q + B * P := by rw [hA, ← hu]; grind
  have hA0 : 0 ≤ A := by rw [hA, hM]; exact Rat.mul_nonneg Rat.natCast_nonneg (Rat.le_of_lt hpl)
  have hB0 : 0 ≤ B := by rw [hB]; exact Rat.natCast_nonneg
  clear f1 f2 hu hA hVe e1 e2 hV hm hpw
  rcases rat_tri q 0 with h | h | h
  · have hs := hn h
    subst hs
    have ha : rabs q = -q := rabs_neg (Rat.le_of_lt h)
    rw [ha] at g1 g2 ⊢
    unfold sg
    simp only [if_true]
    constructor <;> grind
  · subst h
    have ha : rabs 0 = 0 := by decide +kernel
    rw [ha] at g1 g2 ⊢
    have hz : 0 ≤ 2 * B * A := Rat.mul_nonneg (Rat.mul_nonneg (by decide) hB0) hA0
    unfold sg
    split <;> constructor <;> grind
  · have hs := hp h
    subst hs
    have ha : rabs q = q := rabs_pos (Rat.le_of_lt h)
    rw [ha] at g1 g2 ⊢
    unfold sg
    simp only [Bool.false_eq_true, if_false]
    constructor <;> grind
theorem err32 {q c : Rat} {w : Nat} (h : Near single q w) (hf : Fin single w) (h1 : -c ≤ q) (h2 : q ≤ c) : val single w - q ≤ c / 16777216 + cMin ∧ q - val single w ≤ c / 16777216 + cMin := by
  obtain ⟨e1, e2⟩ := near_err h hf (inf_lt .f32)
  have hb : (single.binade : Rat) = 8388608 := by decide +kernel
  have hl : (8388608 : Rat) * (2 : Rat) ^ single.leastPlace ≤ cMin := by decide +kernel
  rw [hb] at e1 e2
  have ha := rabs_le h1 h2
  have hc : (0 : Rat) ≤ cMin := by decide +kernel
  rw [Rat.div_def]
  have h3 : (16777216 : Rat)⁻¹ * 16777216 = 1 := by decide +kernel
  constructor <;> grind
theorem err64 {q c : Rat} {w : Nat} (h : Near double q w) (hf : Fin double w) (h1 : -c ≤ q) (h2 : q ≤ c) : val double w - q ≤ c / 9007199254740992 + cMin ∧ q - val double w ≤ c / 9007199254740992 + cMin := by
  obtain ⟨e1, e2⟩ := near_err h hf (inf_lt .f64)
  have hb : (double.binade : Rat) = 4503599627370496 := by decide +kernel
  have hl : (4503599627370496 : Rat) * (2 : Rat) ^ double.leastPlace ≤ cMin := by decide +kernel
  rw [hb] at e1 e2
  have ha := rabs_le h1 h2
  have hc : (0 : Rat) ≤ cMin := by decide +kernel
  rw [Rat.div_def]
  have h3 : (9007199254740992 : Rat)⁻¹ * 9007199254740992 = 1 := by decide +kernel
  constructor <;> grind
/-- a number between two numbers -/
structure Bq (k : FloatKind) (a b : Rat) (w : Nat) : Prop where
  fin : Fin k.format w
  lo : a ≤ val k.format w
  hi : val k.format w ≤ b
def Ex (k : FloatKind) (a : Rat) : Prop := ∃ w, Fin k.format w ∧ val k.format w = a
theorem near_self {f : Format} {w : Nat} (h : Fin f w) : Near f (val f w) w := by
  obtain ⟨s, r, rfl, hr⟩ := h
  have hz : (0 : Rat) ≤ (nval f r : Rat) * (2 : Rat) ^ f.leastPlace := Rat.mul_nonneg Rat.natCast_nonneg (Rat.le_of_lt (pw_pos _))
  refine ⟨s, r, rfl, by rw [abs_val f s hr]; exact Mid.exact (Nat.le_of_lt hr), ?_, ?_⟩
  · intro h; rw [val_word f s hr] at h
    cases s
    · unfold sg at h; simp at h; exact absurd hz (Rat.not_le.mpr h)
    · rfl
  · intro h; rw [val_word f s hr] at h
    cases s
    · rfl
    · unfold sg at h; simp at h; grind
theorem near_bq {k : FloatKind} {a b q : Rat} {w : Nat} (ha : Ex k a) (hb : Ex k b) (h1 : a ≤ q) (h2 : q ≤ b) (l : -1000 ≤ a) (u : b ≤ 1000) (h : Near k.format q w) : Bq k a b w := by
  have hw := (near_btw (k := k) (a := -1000) (b := 1000) (by unfold smallI; decide) (by unfold smallI; decide) (Rat.le_trans l h1) (Rat.le_trans h2 u) h).fin
  obtain ⟨wa, fa, va⟩ := ha
  obtain ⟨wb, fb, vb⟩ := hb
  refine ⟨hw, ?_, ?_⟩
  · have := (near_self fa).mono h fa hw (inf_lt k) (by rw [va]; exact h1)
    rwa [va] at this
  · have := h.mono (near_self fb) hw fb (inf_lt k) (by rw [vb]; exact h2)
    rwa [vb] at this
theorem ex64 {a : Rat} (w : Nat) (h : w % 9223372036854775808 < 9218868437227405312 ∧ w < 18446744073709551616) (hv : val double w = a) : Ex .f64 a := by
  refine ⟨w, ?_, hv⟩
  have hw : double.signWeight = 9223372036854775808 := by decide +kernel
  obtain ⟨s, r, rfl, hr⟩ := word_of double (x := w) (by rw [hw]; omega)
  refine ⟨s, r, rfl, ?_⟩
  show r < double.infRung
  rw [d_ir]
  rw [hw] at hr
  have e : double.word s r % 9223372036854775808 = r := by
    unfold Format.word
    rw [hw]
    cases s <;> simp <;> omega
  omega
theorem e_q : Ex .f64 (-1 / 4) ∧ Ex .f64 (1 / 2) ∧ Ex .f64 (7 / 4) ∧ Ex .f64 (5 / 2) ∧ Ex .f64 (-3 / 16) ∧ Ex .f64 (5 / 16) ∧ Ex .f64 (25 / 256) ∧ Ex .f64 (9 / 8) ∧ Ex .f64 0 ∧ Ex .f64 (-27 / 128) ∧ Ex .f64 (-27 / 64) ∧ Ex .f64 1000 ∧ Ex .f64 1 ∧ Ex .f64 (225 / 2048) :=
  ⟨ex64 13821547256400052224 (by decide) (by decide +kernel), ex64 4602678819172646912 (by decide) (by decide +kernel), ex64 4610560118520545280 (by decide) (by decide +kernel), ex64 4612811918334230528 (by decide) (by decide +kernel),
   ex64 13819295456586366976 (by decide) (by decide +kernel), ex64 4599301119452119040 (by decide) (by decide +kernel), ex64 4591701295080931328 (by decide) (by decide +kernel), ex64 4607745368753438720 (by decide) (by decide +kernel), ex64 0 (by decide) (by decide +kernel),
   ex64 13820139881516498944 (by decide) (by decide +kernel), ex64 13824643481143869440 (by decide) (by decide +kernel), ex64 4652007308841189376 (by decide) (by decide +kernel), ex64 O64 (by decide) (by decide +kernel), ex64 4592580904383152128 (by decide) (by decide +kernel)⟩
end Go.Proofs.Ytnhikdjljjemlaa
/- Plain laws: the logarithm of what is at least 1 is not negative. No condition. -/
namespace Go.Proofs.Ytnhikdjljjemlaa
open Go Go.RowKit Ieee
set_option linter.unusedVariables false
set_option linter.unusedSimpArgs false
theorem near_lo {k : FloatKind} {a q : Rat} {w : Nat} (ha : Ex k a) (h1 : a ≤ q) (h : Near k.format q w) (hw : Fin k.format w) : a ≤ val k.format w := by
  obtain ⟨wa, fa, va⟩ := ha
  have := (near_self fa).mono h fa hw (inf_lt k) (by rw [va]; exact h1)
  rwa [va] at this
theorem near_hi {k : FloatKind} {b q : Rat} {w : Nat} (hb : Ex k b) (h1 : q ≤ b) (h : Near k.format q w) (hw : Fin k.format w) : val k.format w ≤ b := by
  obtain ⟨wb, fb, vb⟩ := hb
  have := h.mono (near_self fb) hw fb (inf_lt k) (by rw [vb]; exact h1)
  rwa [vb] at this
theorem fin64_of {w : Nat} (h : w % 9223372036854775808 < 9218868437227405312 ∧ w < 18446744073709551616) : Fin double w := by
  have hw : double.signWeight = 9223372036854775808 := by decide +kernel
  obtain ⟨s, r, rfl, hr⟩ := word_of double (x := w) (by rw [hw]; omega)
  refine ⟨s, r, rfl, ?_⟩
  rw [d_ir]
  rw [hw] at hr
  have e : double.word s r % 9223372036854775808 = r := by
    unfold Format.word
    rw [hw]
    cases s <;> simp <;> omega
  omega
theorem O64v : Fin double O64 ∧ val double O64 = 1 := ⟨fin64_of (by decide), by decide +kernel⟩
theorem kq_facts : ∀ j, j < 13 → (fop .quo .f64 O64 (kL j) % 9223372036854775808 < 9218868437227405312 ∧ fop .quo .f64 O64 (kL j) < 18446744073709551616) ∧ 0 ≤ val double (fop .quo .f64 O64 (kL j)) ∧ val double (fop .quo .f64 O64 (kL j)) ≤ 1 := by decide +kernel
theorem logQ_bq {u : Nat} (hu : Bq .f64 0 (25 / 256) u) : ∀ j : Nat, j ≤ 13 → Bq .f64 0 (9 / 8) (logQ u j)
  | 0, _ => ⟨(show Fin double 0 from fin64_of (by decide)), (show 0 ≤ val double 0 by decide +kernel), (show val double 0 ≤ 9 / 8 by decide +kernel)⟩
  | j + 1, h => by
    have ih := logQ_bq hu j (by omega)
    obtain ⟨-, -, -, -, -, -, -, e8, e9, -, -, -, -, e14⟩ := e_q
    obtain ⟨a1, a2, a3⟩ := kq_facts j (by omega)
    have m1 : 0 ≤ val FloatKind.f64.format u * val FloatKind.f64.format (logQ u j) := Rat.mul_nonneg hu.lo ih.lo
    have m2 := mul_mono hu.hi ih.hi hu.lo ih.lo
    have b : Bq .f64 0 (225 / 2048) _ := near_bq (k := .f64) e9 e14 m1 (Rat.le_trans m2 (by decide +kernel)) (by decide +kernel) (by decide +kernel) (fop_mul hu.fin ih.fin)
    have fa := fop_add (k := .f64) (fin64_of a1) b.fin
    have l := b.lo
    have u := b.hi
    have a2' : 0 ≤ val FloatKind.f64.format (fop .quo .f64 O64 (kL j)) := a2
    have a3' : val FloatKind.f64.format (fop .quo .f64 O64 (kL j)) ≤ 1 := a3
    exact near_bq (k := .f64) e9 e8 (by grind) (by grind) (by decide +kernel) (by decide +kernel) fa
theorem quo_lo {n d z : Rat} (hz : z * d = n) (hd : 7 / 4 ≤ d) (h1 : -1 / 4 ≤ n) (h2 : n ≤ 1 / 2) : -3 / 16 ≤ z ∧ z ≤ 5 / 16 ∧ (0 ≤ n → 0 ≤ z) := by
  have d0 : (0 : Rat) < d := Std.lt_of_lt_of_le (by decide +kernel) hd
  refine ⟨?_, ?_, ?_⟩
  · rcases rat_tri z (-3 / 16) with h | h | h
    · exfalso
      have := Rat.mul_lt_mul_of_pos_right h d0
      grind
    · rw [h]; exact Rat.le_refl
    · exact Rat.le_of_lt h
  · rcases rat_tri z (5 / 16) with h | h | h
    · exact Rat.le_of_lt h
    · rw [h]; exact Rat.le_refl
    · exfalso
      have := Rat.mul_lt_mul_of_pos_right h d0
      grind
  · intro hn
    rcases rat_tri z 0 with h | h | h
    · exfalso
      have := Rat.mul_lt_mul_of_pos_right h d0
      grind
    · rw [h]; exact Rat.le_refl
    · exact Rat.le_of_lt h
theorem L2_facts : Fin double 4604418534313441775 ∧ 1 / 2 ≤ val double 4604418534313441775 := ⟨fin64_of (by decide), by decide +kernel⟩
theorem logT_ge {y : Nat} {e : Int} (hy : Bq .f64 (3 / 4) (3 / 2) y) (he : e = 0 ∧ 1 ≤ val double y ∨ 1 ≤ e ∧ e ≤ 200) : 0 ≤ val double (logT y e) := by
  obtain ⟨e1, e2, e3, e4, e5, e6, e7, e8, e9, e10, e11, -, -, -⟩ := e_q
  have o1 : Fin FloatKind.f64.format O64 := O64v.1
  have o2 : val FloatKind.f64.format O64 = 1 := O64v.2
  have yl := hy.lo
  have yh := hy.hi
  have n := near_bq (k := .f64) e1 e2 (by rw [o2]; grind) (by rw [o2]; grind) (by decide +kernel) (by decide +kernel) (fop_sub hy.fin o1)
  have d := near_bq (k := .f64) e3 e4 (by rw [o2]; grind) (by rw [o2]; grind) (by decide +kernel) (by decide +kernel) (fop_add hy.fin o1)
  have dl := d.lo
  have d0 : val FloatKind.f64.format (fop .add .f64 y O64) ≠ 0 := by grind
  have hz : val FloatKind.f64.format (fop .sub .f64 y O64) / val FloatKind.f64.format (fop .add .f64 y O64) * val FloatKind.f64.format (fop .add .f64 y O64) = val FloatKind.f64.format (fop .sub .f64 y O64) := Rat.div_mul_cancel d0
  obtain ⟨z1, z2, z3⟩ := quo_lo hz dl n.lo n.hi
  have s := near_bq (k := .f64) e5 e6 z1 z2 (by decide +kernel) (by decide +kernel) (fop_quo n.fin d.fin d0)
  have hs0 : 1 ≤ val double y → 0 ≤ val FloatKind.f64.format (fop .quo .f64 (fop .sub .f64 y O64) (fop .add .f64 y O64)) := by
    intro h
    have h' : 1 ≤ val FloatKind.f64.format y := h
    have n0 := near_lo (k := .f64) e9 (by rw [o2]; grind) (fop_sub hy.fin o1) n.fin
    exact near_lo (k := .f64) e9 (z3 n0) (fop_quo n.fin d.fin d0) s.fin
  unfold logT
  obtain ⟨S, hS⟩ : ∃ S, S = fop .quo .f64 (fop .sub .f64 y O64) (fop .add .f64 y O64) := ⟨_, rfl⟩
  rw [← hS] at s hs0
  show 0 ≤ val double (fop .add .f64 (fop .mul .f64 T64 (fop .mul .f64 (fop .quo .f64 (fop .sub .f64 y O64) (fop .add .f64 y O64)) (logQ (fop .mul .f64 (fop .quo .f64 (fop .sub .f64 y O64) (fop .add .f64 y O64)) (fop .quo .f64 (fop .sub .f64 y O64) (fop .add .f64 y O64))) 13))) (fop .mul .f64 (floatOfInt .f64 e) 4604418534313441775))
  rw [← hS]
  clear hz z1 z2 z3 n d dl d0 hS
  have sl := s.lo
  have sh := s.hi
  have u1 : val FloatKind.f64.format S * val FloatKind.f64.format S ≤ 25 / 256 := by
    have := Rat.mul_nonneg (show (0 : Rat) ≤ 5 / 16 - val FloatKind.f64.format S by grind) (show (0 : Rat) ≤ 5 / 16 + val FloatKind.f64.format S by grind)
    grind
  have u0 : 0 ≤ val FloatKind.f64.format S * val FloatKind.f64.format S := by
    rcases rat_tri (val FloatKind.f64.format S) 0 with h | h | h
    · have := Rat.mul_nonneg (show (0 : Rat) ≤ -val FloatKind.f64.format S by grind) (show (0 : Rat) ≤ -val FloatKind.f64.format S by grind)
      grind
    · rw [h]; decide +kernel
    · exact Rat.mul_nonneg (Rat.le_of_lt h) (Rat.le_of_lt h)
  have u := near_bq (k := .f64) e9 e7 u0 u1 (by decide +kernel) (by decide +kernel) (fop_mul s.fin s.fin)
  have q := logQ_bq u 13 (Nat.le_refl _)
  obtain ⟨Q, hQ⟩ : ∃ Q, Q = logQ (fop .mul .f64 S S) 13 := ⟨_, rfl⟩
  rw [← hQ] at q ⊢
  clear u u0 u1 hQ
  have ql := q.lo
  have qh := q.hi
  have a1 : -27 / 128 ≤ val FloatKind.f64.format S * val FloatKind.f64.format Q := by
    have := Rat.mul_nonneg (show (0 : Rat) ≤ val FloatKind.f64.format S + 3 / 16 by grind) ql
    grind
  have a2 : val FloatKind.f64.format S * val FloatKind.f64.format Q ≤ 1 := by
    have := Rat.mul_nonneg (show (0 : Rat) ≤ 5 / 16 - val FloatKind.f64.format S by grind) ql
    grind
  have a3 : 1 ≤ val double y → 0 ≤ val FloatKind.f64.format S * val FloatKind.f64.format Q := fun h => Rat.mul_nonneg (hs0 h) ql
  have na := fop_mul (k := .f64) s.fin q.fin
  have b := near_bq (k := .f64) e10 e4 a1 (by grind) (by decide +kernel) (by decide +kernel) na
  have b3 : 1 ≤ val double y → 0 ≤ val FloatKind.f64.format (fop .mul .f64 S Q) := fun h => near_lo (k := .f64) e9 (a3 h) na b.fin
  obtain ⟨A, hA⟩ : ∃ A, A = fop .mul .f64 S Q := ⟨_, rfl⟩
  rw [← hA] at b b3 ⊢
  clear a1 a2 a3 na hA
  have bl := b.lo
  have bh := b.hi
  have t1 : Fin FloatKind.f64.format T64 := two64.1
  have t2 : val FloatKind.f64.format T64 = 2 := two64.2
  have nc := fop_mul (k := .f64) t1 b.fin
  rw [t2] at nc
  have c : Btw .f64 (-5) 5 (fop .mul .f64 T64 A) := near_btw (k := .f64) (by unfold smallI; decide) (by unfold smallI; decide) (by show (-5 : Rat) ≤ _; grind) (by show _ ≤ (5 : Rat); grind) nc
  have c1 := near_lo (k := .f64) e11 (by grind) nc c.fin
  have c3 : 1 ≤ val double y → 0 ≤ val FloatKind.f64.format (fop .mul .f64 T64 A) := fun h => near_lo (k := .f64) e9 (by have := b3 h; grind) nc c.fin
  have he2 : 0 ≤ e ∧ e ≤ 200 := by omega
  have hI : Btw .f64 0 200 (floatOfInt .f64 e) := (Btw.int (by unfold smallI; omega)).mono he2.1 he2.2
  have hL := log2_btw
  have f : Btw .f64 (-200) 200 _ := Btw.mul (hI.mono (show (-200 : Int) ≤ 0 by decide) (Int.le_refl _)) hL (by decide) (by decide) (smallI_of (by decide) (by decide))
  have nf := fop_mul (k := .f64) hI.fin hL.fin
  have g : Btw .f64 (-205) 205 _ := Btw.add c f (smallI_of (by decide) (by decide)) (smallI_of (by decide) (by decide))
  have ng := fop_add (k := .f64) c.fin f.fin
  refine near_lo (k := .f64) e9 ?_ ng g.fin
  have vI : val FloatKind.f64.format (floatOfInt .f64 e) = (e : Rat) := (int_exactK .f64 (by unfold smallI; omega)).2
  have vL : 1 / 2 ≤ val FloatKind.f64.format 4604418534313441775 := L2_facts.2
  rcases he with ⟨h0, hy1⟩ | ⟨h1, h2⟩
  · have := c3 hy1
    have hf0 := near_lo (k := .f64) e9 (by rw [vI, h0]; show (0 : Rat) ≤ 0 * _; rw [Rat.zero_mul]; exact Rat.le_refl) nf f.fin
    grind
  · have hr : (1 : Rat) ≤ (e : Rat) := by exact_mod_cast h1
    have hm := mul_mono hr vL (by decide +kernel) (by decide +kernel)
    have hf0 := near_lo (k := .f64) e2 (by rw [vI]; refine Rat.le_trans ?_ hm; decide +kernel) nf f.fin
    grind
theorem W_facts : val double W75 = 3 / 4 ∧ val double W15 = 3 / 2 ∧ val double 4620693217682128896 = 8 := by decide +kernel
theorem val_le_word {x y : Nat} (h : x ≤ y) (hy : y < double.infRung) : val double x ≤ val double y := by
  rw [val_pos_word hy, val_pos_word (by omega)]
  exact Rat.mul_le_mul_of_nonneg_right (nat_rat_le (nval_le h)) (Rat.le_of_lt (pw_pos _))
theorem word_le_val {x y : Nat} (hx : x < double.infRung) (h : val double x ≤ val double y) (hy : y < double.infRung) : x ≤ y := by
  rcases Nat.lt_or_ge y x with h1 | h1
  · exfalso
    rw [val_pos_word hy, val_pos_word hx] at h
    have h2 := nat_rat_lt (nval_lt (f := double) h1)
    exact absurd h (Rat.not_le.mpr (Rat.mul_lt_mul_of_pos_right h2 (pw_pos _)))
  · exact h1
theorem pos_word {y : Nat} (h : Fin double y) (h1 : 0 < val double y) : y < double.infRung := by
  obtain ⟨s, r, rfl, hr⟩ := h
  cases s
  · show r < _; exact hr
  · exfalso
    rw [val_word double true hr] at h1
    unfold sg at h1
    simp only [if_true] at h1
    have := Rat.mul_nonneg (Rat.natCast_nonneg (a := nval double r)) (Rat.le_of_lt (pw_pos double.leastPlace))
    grind
/-- the logarithm of a number from 1 to 8 -/
theorem logW_ge {y : Nat} (hf : Fin double y) (h1 : 1 ≤ val double y) (h2 : val double y ≤ 8) : 874 * B64 ≤ y ∧ y < 1152 * B64 ∧ 0 ≤ val double (logW y) := by
  have hB : B64 = 4503599627370496 := rfl
  have hW : W15 = 4609434218613702656 := rfl
  have hV : W75 = 4604930618986332160 := rfl
  have hO : O64 = 4607182418800017408 := rfl
  obtain ⟨v1, v2, v3⟩ := W_facts
  have hr := pos_word hf (Std.lt_of_lt_of_le (by decide +kernel) h1)
  have hI : double.infRung = 9218868437227405312 := d_ir
  have b1 : O64 ≤ y := word_le_val (by omega) (by rw [O64v.2]; exact h1) hr
  have b2 : y ≤ 4620693217682128896 := word_le_val hr (by rw [v3]; exact h2) (by omega)
  have key : ∀ z : Nat, W75 ≤ z → z < W15 → Bq .f64 (3 / 4) (3 / 2) z := by
    intro z k1 k2
    refine ⟨fin_pos (by omega), ?_, ?_⟩
    · have := val_le_word k1 (by omega)
      rw [v1] at this; exact this
    · have := val_le_word (Nat.le_of_lt k2) (by omega)
      rw [v2] at this; exact this
  refine ⟨by omega, by omega, ?_⟩
  unfold logW
  by_cases hlt : y < W15
  · have e1 : logK1 y = 0 := by unfold logK1; rw [if_pos hlt]
    have e2 : logK2 y = 0 := by unfold logK2; rw [if_neg (by omega)]
    rw [e1, Nat.zero_mul, Nat.sub_zero, e2, Nat.zero_mul, Nat.add_zero]
    exact logT_ge (key y (by omega) hlt) (.inl ⟨rfl, h1⟩)
  · have e1 : logK1 y = (y - W15) / B64 + 1 := by unfold logK1; rw [if_neg hlt]
    obtain ⟨m, hm⟩ : ∃ m, m = (y - W15) / B64 := ⟨_, rfl⟩
    rw [e1, ← hm]
    have d1 := Nat.div_add_mod (y - W15) B64
    have d2 := Nat.mod_lt (y - W15) (show 0 < B64 by decide)
    rw [← hm] at d1
    rw [hB] at d1 d2 ⊢
    rw [hW] at d1 hlt
    have z1 : W75 ≤ y - (m + 1) * 4503599627370496 := by omega
    have z2 : y - (m + 1) * 4503599627370496 < W15 := by omega
    obtain ⟨z, hz⟩ : ∃ z, z = y - (m + 1) * 4503599627370496 := ⟨_, rfl⟩
    rw [← hz] at z1 z2 ⊢
    have e2 : logK2 z = 0 := by unfold logK2; rw [if_neg (by omega)]
    rw [e2, Nat.zero_mul, Nat.add_zero]
    refine logT_ge (key z z1 z2) (.inr ⟨by omega, ?_⟩)
    omega
theorem log_ge {s : Nat} (h : Btw .f32 1 8 s) : Btw .f32 0 226 (logG s) := by
  have hn : isN .f32 s = false := Fin.not (k := .f32) h.fin
  have hw := wide_val h.fin
  have l1 : (1 : Rat) ≤ val single s := h.lo
  have l2 : val single s ≤ (8 : Rat) := h.hi
  obtain ⟨b1, b2, b3⟩ := logW_ge hw.1 (by rw [hw.2]; exact l1) (by rw [hw.2]; exact l2)
  have hb := logW_btw b1 b2
  have hn2 := (hb.narrow (smallI_of (by decide) (by decide)) (smallI_of (by decide) (by decide))).2
  have e : logG s = fcv .f64 (logW (fcv .f32 s .f64)) .f32 := by unfold logG; rw [hn, if_neg (by decide)]
  rw [e]
  refine ⟨hn2.fin, ?_, hn2.hi⟩
  exact near_lo (k := .f32) ⟨0, zero_fin.1, zero_fin.2⟩ b3 (narrow_near hb.fin) hn2.fin
end Go.Proofs.Ytnhikdjljjemlaa
/- Plain laws: what the loss of a label and its gradients are like for plain numbers. No condition. -/
namespace Go.Proofs.Ytnhikdjljjemlaa
open Go Go.RowKit Ieee
set_option linter.unusedVariables false
set_option linter.unusedSimpArgs false
theorem exp_pl {d : Nat} (h : Btw .f32 (-20) 0 d) : Btw .f32 0 1 (expF d) := by
  have hv := order_val (k := .f32) h.fin fin_cm200
  have hm200 : val single cm200 = -200 := by unfold val; decide +kernel
  have l : (-20 : Rat) ≤ val single d := h.lo
  have u : val single d ≤ (0 : Rat) := h.hi
  have hlt : FloatKind.f32.format.order d cm200 ≠ some .lt := by
    intro e
    have h3 : val single d < val single cm200 := hv.1.1 e
    rw [hm200] at h3; grind
  have hw := wide_val h.fin
  have hb : Btw .f64 (-200) 0 (fcv .f32 d .f64) := by
    refine ⟨hw.1, ?_, ?_⟩
    · show (-200 : Rat) ≤ val double _
      rw [hw.2]; grind
    · show val double _ ≤ (0 : Rat)
      rw [hw.2]; exact u
  have hn2 := (exp_btw hb).narrow (smallI_of (by decide) (by decide)) (smallI_of (by decide) (by decide))
  unfold expF; rw [if_neg hlt]; exact hn2.2
theorem gt_val {a b : Nat} (ha : Fin single a) (hb : Fin single b) : gtF a b = true ↔ val single b < val single a := by
  have hv := order_val (k := .f32) ha hb
  unfold gtF
  rw [beq_iff_eq]
  exact hv.2.1
/-- the first of the greatest numbers -/
theorem best_val {xs : List Nat} : ∀ k : Nat, (∀ i, i < k + 1 → Fin single (xs.getD i 0)) → (∀ i, i < k + 1 → val single (xs.getD i 0) ≤ val single (xs.getD (gBest xs (k + 1)) 0)) ∧ (∀ i, i < gBest xs (k + 1) → val single (xs.getD i 0) < val single (xs.getD (gBest xs (k + 1)) 0))
  | 0, hf => by
    rw [gBest_one]
    refine ⟨fun i hi => ?_, fun i hi => absurd hi (by omega)⟩
    have : i = 0 := by omega
    subst this; exact Rat.le_refl
  | k + 1, hf => by
    obtain ⟨h1, h2⟩ := best_val k fun i hi => hf i (by omega)
    have hb := gBest_le xs (k + 1)
    have hg := gt_val (hf (k + 1) (by omega)) (hf (gBest xs (k + 1)) (by omega))
    have e : gBest xs (k + 1 + 1) = if gtF (xs.getD (k + 1) 0) (xs.getD (gBest xs (k + 1)) 0) = true then k + 1 else gBest xs (k + 1) := rfl
    rw [e]
    split
    · rename_i h
      have h3 := hg.1 h
      refine ⟨fun i hi => ?_, fun i hi => ?_⟩
      · by_cases hk : i = k + 1
        · subst hk; exact Rat.le_refl
        · have := h1 i (by omega); grind
      · have := h1 i hi; grind
    · rename_i h
      refine ⟨fun i hi => ?_, h2⟩
      by_cases hk : i = k + 1
      · subst hk
        rcases rat_tri (val single (xs.getD (k + 1) 0)) (val single (xs.getD (gBest xs (k + 1)) 0)) with h3 | h3 | h3
        · exact Rat.le_of_lt h3
        · rw [h3]; exact Rat.le_refl
        · exact absurd (hg.2 h3) h
      · exact h1 i (by omega)
def sumR (L : List Nat) : Nat → Rat
  | 0 => 0
  | k + 1 => sumR L k + val single (L.getD k 0)
theorem ex32z : Ex .f32 0 := ⟨0, zero_fin.1, zero_fin.2⟩
theorem sum_err {L : List Nat} (h : ∀ i, i < 8 → Btw .f32 0 1 (L.getD i 0)) : ∀ k : Nat, k ≤ 8 → Btw .f32 0 k (sumS L k) ∧ val single (sumS L k) - sumR L k ≤ (k : Rat) * (1 / 2000000) ∧ sumR L k - val single (sumS L k) ≤ (k : Rat) * (1 / 2000000) ∧ (∀ i, i < k → val single (L.getD i 0) ≤ val single (sumS L k))
  | 0, _ => by
    refine ⟨zero_btw, ?_, ?_, fun i hi => absurd hi (by omega)⟩
    · show val single 0 - 0 ≤ _; rw [zero_fin.2]; decide +kernel
    · show 0 - val single 0 ≤ _; rw [zero_fin.2]; decide +kernel
  | k + 1, hk => by
    obtain ⟨ih, i1, i2, i3⟩ := sum_err h k (by omega)
    have hb := sum_btw0 (L := L) (c := 1) (by decide) (by decide) h (k + 1) hk
    rw [Int.one_mul] at hb
    have hx := h k (by omega)
    have hn : Near single (val single (sumS L k) + val single (L.getD k 0)) (sumS L (k + 1)) := fop_add (k := .f32) ih.fin hx.fin
    have l1 : (0 : Rat) ≤ val single (sumS L k) := ih.lo
    have u1 : val single (sumS L k) ≤ ((k : Int) : Rat) := ih.hi
    have l2 : (0 : Rat) ≤ val single (L.getD k 0) := hx.lo
    have u2 : val single (L.getD k 0) ≤ (1 : Rat) := hx.hi
    have hk7 : ((k : Int) : Rat) ≤ ((7 : Int) : Rat) := Rat.intCast_le_intCast.2 (by omega)
    have hk7' : ((7 : Int) : Rat) = 7 := rfl
    rw [hk7'] at hk7
    obtain ⟨r1, r2⟩ := err32 (c := 8) hn hb.fin (by grind) (by grind)
    have hc : (8 : Rat) / 16777216 + cMin ≤ 1 / 2000000 := by decide +kernel
    have hs : sumR L (k + 1) = sumR L k + val single (L.getD k 0) := rfl
    have hcast : ((k + 1 : Nat) : Rat) = (k : Rat) + 1 := by rw [Rat.natCast_add]; rfl
    rw [hs, hcast]
    have m1 : val single (sumS L k) ≤ val single (sumS L (k + 1)) := near_lo (k := .f32) ⟨_, ih.fin, rfl⟩ (by grind) hn hb.fin
    have m2 : val single (L.getD k 0) ≤ val single (sumS L (k + 1)) := near_lo (k := .f32) ⟨_, hx.fin, rfl⟩ (by grind) hn hb.fin
    refine ⟨hb, by grind, by grind, fun i hi => ?_⟩
    by_cases hik : i = k
    · subst hik; exact m2
    · exact Rat.le_trans (i3 i (by omega)) m1
/-- the shares -/
def shR (L : List Nat) (s : Rat) : Nat → Rat
  | 0 => 0
  | k + 1 => shR L s k + val single (L.getD k 0) / s
theorem shR_mul {L : List Nat} {s : Rat} (hs : s ≠ 0) : ∀ k, shR L s k * s = sumR L k
  | 0 => Rat.zero_mul s
  | k + 1 => by
    have := shR_mul (L := L) hs k
    have h2 : val single (L.getD k 0) / s * s = val single (L.getD k 0) := Rat.div_mul_cancel hs
    show (shR L s k + val single (L.getD k 0) / s) * s = sumR L k + val single (L.getD k 0)
    rw [Rat.add_mul, this, h2]
theorem near_one {Z s D C : Rat} (h : (Z - 1) * s = D) (hs : 1 ≤ s) (hC : 0 ≤ C) (h1 : D ≤ C) (h2 : -C ≤ D) : Z - 1 ≤ C ∧ -C ≤ Z - 1 := by
  constructor
  · rcases rat_tri (Z - 1) 0 with h3 | h3 | h3
    · grind
    · grind
    · have := Rat.mul_le_mul_of_nonneg_left hs (Rat.le_of_lt h3); grind
  · rcases rat_tri (Z - 1) 0 with h3 | h3 | h3
    · have := Rat.mul_le_mul_of_nonneg_left hs (show (0 : Rat) ≤ -(Z - 1) by grind); grind
    · grind
    · grind
theorem share_btw {v s : Rat} (h0 : 0 ≤ v) (h1 : v ≤ s) (hs : 1 ≤ s) : 0 ≤ v / s ∧ v / s ≤ 1 := by
  have s0 : (0 : Rat) < s := by grind
  have hz : v / s * s = v := Rat.div_mul_cancel (by grind)
  obtain ⟨z, hzz⟩ : ∃ z, z = v / s := ⟨_, rfl⟩
  rw [← hzz] at hz ⊢
  constructor
  · rcases rat_tri z 0 with h | h | h
    · have := Rat.mul_lt_mul_of_pos_right h s0; grind
    · rw [h]; exact Rat.le_refl
    · exact Rat.le_of_lt h
  · rcases rat_tri z 1 with h | h | h
    · exact Rat.le_of_lt h
    · rw [h]; exact Rat.le_refl
    · have := Rat.mul_lt_mul_of_pos_right h s0; grind
/-- the gradients' sum in 64 bits -/
def gW (g : Nat → Nat) : Nat → Nat
  | 0 => 0
  | k + 1 => fop .add .f64 (gW g k) (fcv .f32 (g k) .f64)
def gR (g : Nat → Nat) : Nat → Rat
  | 0 => 0
  | k + 1 => gR g k + val single (g k)
theorem gW_err {g : Nat → Nat} {n : Nat} (h : ∀ i, i < n → Btw .f32 (-1) 1 (g i)) (h8 : n ≤ 8) : ∀ k : Nat, k ≤ n → Btw .f64 (-(k : Int)) k (gW g k) ∧ val double (gW g k) - gR g k ≤ (k : Rat) * (2 * cMin) ∧ gR g k - val double (gW g k) ≤ (k : Rat) * (2 * cMin)
  | 0, _ => by
    have hz : val double 0 = 0 := by decide +kernel
    refine ⟨⟨(show Fin double 0 from fin64_of (by decide)), ?_, ?_⟩, ?_, ?_⟩
    · show (_ : Rat) ≤ val double 0; rw [hz]; decide +kernel
    · show val double 0 ≤ _; rw [hz]; decide +kernel
    · show val double 0 - 0 ≤ _; rw [hz]; decide +kernel
    · show 0 - val double 0 ≤ _; rw [hz]; decide +kernel
  | k + 1, hk => by
    obtain ⟨ih, i1, i2⟩ := gW_err h h8 k (by omega)
    have hx := h k (by omega)
    have hw := wide_val hx.fin
    have hxb : Btw .f64 (-1) 1 (fcv .f32 (g k) .f64) := ⟨hw.1, by show _ ≤ val double _; rw [hw.2]; exact hx.lo, by show val double _ ≤ _; rw [hw.2]; exact hx.hi⟩
    have hb := (Btw.add ih hxb (smallI_of (by omega) (by omega)) (smallI_of (by omega) (by omega))).mono (a' := -((k + 1 : Nat) : Int)) (b' := ((k + 1 : Nat) : Int)) (by omega) (by omega)
    have hn : Near double (val double (gW g k) + val double (fcv .f32 (g k) .f64)) (gW g (k + 1)) := fop_add (k := .f64) ih.fin hxb.fin
    rw [hw.2] at hn
    have l1 : ((-(k : Int) : Int) : Rat) ≤ val double (gW g k) := ih.lo
    have u1 : val double (gW g k) ≤ ((k : Int) : Rat) := ih.hi
    have l2 : (-1 : Rat) ≤ val single (g k) := hx.lo
    have u2 : val single (g k) ≤ (1 : Rat) := hx.hi
    have hk7 : ((k : Int) : Rat) ≤ ((7 : Int) : Rat) := Rat.intCast_le_intCast.2 (by omega)
    have hk7' : ((7 : Int) : Rat) = 7 := rfl
    rw [Rat.intCast_neg] at l1
    rw [hk7'] at hk7
    obtain ⟨r1, r2⟩ := err64 (c := 8) hn hb.fin (by grind) (by grind)
    have hc : (8 : Rat) / 9007199254740992 + cMin ≤ 2 * cMin := by decide +kernel
    have hs : gR g (k + 1) = gR g k + val single (g k) := rfl
    have hcast : ((k + 1 : Nat) : Rat) = (k : Rat) + 1 := by rw [Rat.natCast_add]; rfl
    rw [hs, hcast]
    exact ⟨hb, by grind, by grind⟩
structure EntLaw (xs : List Nat) (n l : Nat) : Prop where
  most : ∀ i, i < n → val single (xs.getD i 0) ≤ val single (xs.getD (gBest xs n) 0)
  first : ∀ i, i < gBest xs n → val single (xs.getD i 0) < val single (xs.getD (gBest xs n) 0)
  loss : Btw .f32 0 246 (tE (xs.map (cn .f32)) (gBest xs n) n l)
  other : ∀ i, i < n → i ≠ l → Btw .f32 0 1 (lE (xs.map (cn .f32)) (gBest xs n) n l i)
  own : Btw .f32 (-1) 0 (lE (xs.map (cn .f32)) (gBest xs n) n l l)
  sum : ∀ k, k ≤ n → Btw .f64 (-(k : Int)) k (gW (lE (xs.map (cn .f32)) (gBest xs n) n l) k)
  near : val double (gW (lE (xs.map (cn .f32)) (gBest xs n) n l) n) ≤ 1 / 110000 ∧ -(1 / 110000) ≤ val double (gW (lE (xs.map (cn .f32)) (gBest xs n) n l) n)
theorem ent_law {xs : List Nat} {n l : Nat} (hp : ∀ i, i < n → isPl (xs.getD i 0)) (h1 : 1 ≤ n) (h8 : n ≤ 8) (hl : l < n) : EntLaw xs n l := by
  obtain ⟨n', rfl⟩ : ∃ n', n = n' + 1 := ⟨n - 1, by omega⟩
  obtain ⟨bm, bf⟩ := best_val n' fun i hi => (hp i hi).ok.1
  have hb := gBest_le xs (n' + 1)
  obtain ⟨b, hbe⟩ : ∃ b, b = gBest xs (n' + 1) := ⟨_, rfl⟩
  have hX : ∀ i, i < n' + 1 → (xs.map (cn .f32)).getD i 0 = xs.getD i 0 := fun i hi => by rw [cn_getD]; exact (hp i hi).cn
  obtain ⟨X, hXe⟩ : ∃ X, X = xs.map (cn .f32) := ⟨_, rfl⟩
  have hd : ∀ i, i < n' + 1 → Btw .f32 (-20) 0 (dE X b i) := by
    intro i hi
    have h2 := pl_sub_fin (hp i hi) (hp b (by omega))
    have hn := fop_sub (k := .f32) (hp i hi).ok.1 (hp b (by omega)).ok.1
    unfold dE
    rw [hXe, hX i hi, hX b (by omega)]
    refine ⟨h2.fin, h2.lo, ?_⟩
    have hm := bm i hi
    rw [← hbe] at hm
    have hm' : val FloatKind.f32.format (xs.getD i 0) ≤ val FloatKind.f32.format (xs.getD b 0) := hm
    exact near_hi (k := .f32) ex32z (by grind) hn h2.fin
  have hE : ∀ i, i < n' + 1 → Btw .f32 0 1 (eE X b i) := fun i hi => exp_pl (hd i hi)
  have hEb : eE X b b = 1065353216 := by
    unfold eE dE
    rw [hXe, hX b (by omega)]
    obtain ⟨r, e1, n1⟩ := sub_near (k := .f32) (hp b (by omega)).ok.1 (hp b (by omega)).ok.1
    have hz : fop .sub .f32 (xs.getD b 0) (xs.getD b 0) = 0 := by
      have hf : finB (xs.getD b 0) = true := by
        cases hq : finB (xs.getD b 0)
        · exfalso
          have := (hE b (by omega)).fin
          have e : fop .sub .f32 (xs.getD b 0) (xs.getD b 0) = nanOf .f32 := by unfold fop; rw [sub_self_not hq]; rfl
          unfold eE dE at this
          rw [hXe, hX b (by omega), e] at this
          have h3 : isN .f32 (expF (nanOf .f32)) = true := by decide +kernel
          rw [Fin.not (k := .f32) this] at h3; cases h3
        · rfl
      exact fop_some (sub_self_fin hf)
    rw [hz]; decide +kernel
  obtain ⟨L, hL⟩ : ∃ L, L = listOf (n' + 1) (eE X b) := ⟨_, rfl⟩
  have hLi : ∀ i, Btw .f32 0 1 (L.getD i 0) := by
    intro i
    rw [hL, listOf_getD2]
    split
    · rename_i hi; exact hE i hi
    · exact zero_btw.mono (by decide) (by decide)
  obtain ⟨sb, s1, s2, s3⟩ := sum_err (L := L) (fun i _ => hLi i) (n' + 1) h8
  have hLe : ∀ i, i < n' + 1 → L.getD i 0 = eE X b i := fun i hi => by rw [hL]; exact listOf_getD _ hi
  have sge : (1 : Rat) ≤ val single (sumS L (n' + 1)) := by
    have := s3 b (by omega)
    rw [hLe b (by omega), hEb] at this
    have h1v : val single 1065353216 = 1 := by decide +kernel
    rw [h1v] at this; exact this
  have hs : sE X b (n' + 1) = sumS L (n' + 1) := by unfold sE; rw [hL]
  obtain ⟨s, hse⟩ : ∃ s, s = sumS L (n' + 1) := ⟨_, rfl⟩
  rw [← hse] at sb s1 s2 s3 sge hs
  have sb8 : Btw .f32 1 8 s := ⟨sb.fin, sge, Rat.le_trans sb.hi (Rat.intCast_le_intCast.2 (by omega))⟩
  have hlog := log_ge sb8
  have hs0 : val single s ≠ 0 := by grind
  have hz : ∀ i, i < n' + 1 → 0 ≤ val single (eE X b i) / val single s ∧ val single (eE X b i) / val single s ≤ 1 := by
    intro i hi
    have h2 := s3 i hi
    rw [hLe i hi] at h2
    have h3 : (0 : Rat) ≤ val single (eE X b i) := (hE i hi).lo
    exact share_btw h3 h2 sge
  have hr : ∀ i, i < n' + 1 → Btw .f32 0 1 (rE X b (n' + 1) i) ∧ val single (rE X b (n' + 1) i) - val single (eE X b i) / val single s ≤ 1 / 16777216 + cMin ∧ val single (eE X b i) / val single s - val single (rE X b (n' + 1) i) ≤ 1 / 16777216 + cMin := by
    intro i hi
    obtain ⟨z1, z2⟩ := hz i hi
    have hn : Near single (val single (eE X b i) / val single s) (rE X b (n' + 1) i) := by
      unfold rE; rw [hs]
      exact fop_quo (k := .f32) (hE i hi).fin sb.fin hs0
    have hbt : Btw .f32 0 1 (rE X b (n' + 1) i) := near_btw (k := .f32) (by unfold smallI; decide) (by unfold smallI; decide) z1 z2 hn
    exact ⟨hbt, err32 (c := 1) hn hbt.fin (by grind) z2⟩
  have ho : ∀ i, i < n' + 1 → i ≠ l → lE X b (n' + 1) l i = rE X b (n' + 1) i := fun i hi hne => by unfold lE; rw [if_neg hne]
  have hw : lE X b (n' + 1) l l = fop .sub .f32 (rE X b (n' + 1) l) 1065353216 := by unfold lE; rw [if_pos rfl]
  have hone : Fin single 1065353216 ∧ val single 1065353216 = 1 := ⟨⟨false, 1065353216, by decide +kernel, by decide +kernel⟩, by decide +kernel⟩
  obtain ⟨hrl, hr1, hr2⟩ := hr l hl
  have hnw := fop_sub (k := .f32) hrl.fin hone.1
  have v1 : val FloatKind.f32.format 1065353216 = 1 := hone.2
  rw [v1, ← hw] at hnw
  have rl0 : (0 : Rat) ≤ val FloatKind.f32.format (rE X b (n' + 1) l) := hrl.lo
  have rl1 : val FloatKind.f32.format (rE X b (n' + 1) l) ≤ (1 : Rat) := hrl.hi
  have hown : Btw .f32 (-1) 0 (lE X b (n' + 1) l l) := near_btw (k := .f32) (by unfold smallI; decide) (by unfold smallI; decide) (by show (-1 : Rat) ≤ _; grind) (by show _ ≤ (0 : Rat); grind) hnw
  have hownE := err32 (c := 1) hnw hown.fin (by grind) (by grind)
  have hoth : ∀ i, i < n' + 1 → i ≠ l → Btw .f32 0 1 (lE X b (n' + 1) l i) := fun i hi hne => by rw [ho i hi hne]; exact (hr i hi).1
  have hall : ∀ i, i < n' + 1 → Btw .f32 (-1) 1 (lE X b (n' + 1) l i) := by
    intro i hi
    by_cases hne : i = l
    · subst hne; exact hown.mono (by decide) (by decide)
    · exact (hoth i hi hne).mono (by decide) (by decide)
  obtain ⟨c2, hc2⟩ : ∃ c2 : Rat, c2 = 1 / 16777216 + cMin := ⟨_, rfl⟩
  have c2p : 0 ≤ c2 := by rw [hc2]; decide +kernel
  rw [← hc2] at hownE
  have hG : ∀ k : Nat, k ≤ n' + 1 → gR (lE X b (n' + 1) l) k - (shR L (val single s) k - (if l < k then 1 else 0)) ≤ (k : Rat) * (2 * c2) ∧ (shR L (val single s) k - (if l < k then 1 else 0)) - gR (lE X b (n' + 1) l) k ≤ (k : Rat) * (2 * c2) := by
    intro k
    induction k with
    | zero =>
      intro _
      have hz : (0 : Rat) - (0 - 0) ≤ 0 ∧ (0 : Rat) - 0 - 0 ≤ 0 := by decide +kernel
      rw [if_neg (Nat.not_lt_zero l)]
      have h0 : ((0 : Nat) : Rat) * (2 * c2) = 0 := Rat.zero_mul _
      rw [h0]
      exact hz
    | succ k ih =>
      intro hk
      obtain ⟨i1, i2⟩ := ih (by omega)
      obtain ⟨q1, q2, q3⟩ := hr k (by omega)
      rw [← hc2] at q2 q3
      have e1 : gR (lE X b (n' + 1) l) (k + 1) = gR (lE X b (n' + 1) l) k + val single (lE X b (n' + 1) l k) := rfl
      have e2 : shR L (val single s) (k + 1) = shR L (val single s) k + val single (L.getD k 0) / val single s := rfl
      have hcast : ((k + 1 : Nat) : Rat) = (k : Rat) + 1 := by rw [Rat.natCast_add]; rfl
      rw [e1, e2, hcast, hLe k (by omega)]
      by_cases hkl : k = l
      · subst hkl
        rw [if_pos (Nat.lt_succ_self k)]
        rw [if_neg (Nat.lt_irrefl k)] at i1 i2
        obtain ⟨o1, o2⟩ := hownE
        have o1' : val single (lE X b (n' + 1) k k) - (val single (rE X b (n' + 1) k) - 1) ≤ c2 := o1
        have o2' : (val single (rE X b (n' + 1) k) - 1) - val single (lE X b (n' + 1) k k) ≤ c2 := o2
        constructor <;> grind
      · have e3 : (if l < k + 1 then (1 : Rat) else 0) = if l < k then 1 else 0 := by
          by_cases hlt : l < k
          · rw [if_pos hlt, if_pos (by omega)]
          · rw [if_neg hlt, if_neg (by omega)]
        rw [e3, ho k (by omega) hkl]
        constructor <;> grind
  obtain ⟨g1, g2⟩ := hG (n' + 1) (Nat.le_refl _)
  rw [if_pos hl] at g1 g2
  have hgw := gW_err hall h8
  obtain ⟨-, w1, w2⟩ := hgw (n' + 1) (Nat.le_refl _)
  have hsh := shR_mul (L := L) hs0 (n' + 1)
  obtain ⟨K, hK⟩ : ∃ K : Rat, K = ((n' + 1 : Nat) : Rat) := ⟨_, rfl⟩
  have K8 : K ≤ 8 := by rw [hK]; exact nat_rat_le h8
  have K0 : 0 ≤ K := by rw [hK]; exact Rat.natCast_nonneg
  rw [← hK] at g1 g2 w1 w2 s1 s2
  obtain ⟨z1, z2⟩ := near_one (Z := shR L (val single s) (n' + 1)) (s := val single s) (D := sumR L (n' + 1) - val single s) (C := 8 * (1 / 2000000)) (by rw [← hsh]; grind) sge (by decide +kernel) (by grind) (by grind)
  have cm : (0 : Rat) ≤ cMin := by decide +kernel
  have hfin : 8 * (1 / 2000000) + 8 * (2 * c2) + 8 * (2 * cMin) ≤ (1 / 110000 : Rat) := by rw [hc2]; decide +kernel
  have p1 : K * (2 * c2) ≤ 8 * (2 * c2) := Rat.mul_le_mul_of_nonneg_right K8 (by grind)
  have p2 : K * (2 * cMin) ≤ 8 * (2 * cMin) := Rat.mul_le_mul_of_nonneg_right K8 (by grind)
  have hdl := hd l hl
  have hloss : Btw .f32 0 246 (tE X b (n' + 1) l) := by
    unfold tE; rw [hs]
    have := Btw.sub hlog hdl (by unfold smallI; decide) (by unfold smallI; decide)
    exact this.mono (by decide) (by decide)
  refine ⟨bm, bf, ?_, ?_, ?_, ?_, ?_⟩
  · rw [← hXe, ← hbe]; exact hloss
  · rw [← hXe, ← hbe]; exact hoth
  · rw [← hXe, ← hbe]; exact hown
  · rw [← hXe, ← hbe]; exact fun k hk => (hgw k hk).1
  · rw [← hXe, ← hbe]
    constructor <;> grind
end Go.Proofs.Ytnhikdjljjemlaa
/- Plain laws: the three losses of plain numbers are not negative, and the same both ways round. No condition. -/
namespace Go.Proofs.Ytnhikdjljjemlaa
open Go Go.RowKit Ieee
set_option linter.unusedVariables false
set_option linter.unusedSimpArgs false
theorem abs_btw {d : Nat} (h : Btw .f32 (-20) 20 d) : Btw .f32 0 20 (absW d) := by
  obtain ⟨s, r, e, hr⟩ := h.fin
  have hr : r < single.infRung := hr
  have hs : r < single.signWeight := Nat.lt_trans hr (inf_lt .f32)
  have n : isN .f32 d = false := Fin.not (k := .f32) h.fin
  have ed : d = single.word s r := e
  have ea : absW d = single.word false r := by
    unfold absW
    rw [n, if_neg (by decide), ed, word_mod32 s hs]
    rfl
  have v1 := val_word single false hr
  have v2 := val_word single s hr
  have hp : (0 : Rat) ≤ (nval single r : Rat) * (2 : Rat) ^ single.leastPlace := Rat.mul_nonneg Rat.natCast_nonneg (Rat.le_of_lt (pw_pos _))
  have l : (-20 : Rat) ≤ val single d := h.lo
  have u : val single d ≤ (20 : Rat) := h.hi
  rw [ed, v2] at l u
  rw [ea]
  refine ⟨⟨false, r, rfl, hr⟩, ?_, ?_⟩
  · show (0 : Rat) ≤ val single _
    rw [v1]; unfold sg; simp only [Bool.false_eq_true, if_false, Rat.one_mul]; exact hp
  · show val single _ ≤ (20 : Rat)
    rw [v1]
    unfold sg at l u ⊢
    simp only [Bool.false_eq_true, if_false, Rat.one_mul] at l u ⊢
    cases s
    · simp only [Bool.false_eq_true, if_false, Rat.one_mul] at l u; exact u
    · simp only [if_true] at l u; grind
theorem bend_facts : ∀ j : Nat, j < 16 → bendW j % 2147483648 < 2139095040 ∧ bendW j < 4294967296 ∧ 1 / 4 ≤ val single (bendW j) ∧ val single (bendW j) ≤ 4 ∧ cn .f32 (bendW j) = bendW j ∧
    fop .quo .f32 (bendW j) 1073741824 % 2147483648 < 2139095040 ∧ fop .quo .f32 (bendW j) 1073741824 < 4294967296 ∧ 0 ≤ val single (fop .quo .f32 (bendW j) 1073741824) ∧ val single (fop .quo .f32 (bendW j) 1073741824) ≤ val single (bendW j) := by decide +kernel
theorem huA_btw {j : Nat} (hj : j < 16) {D : Nat → Nat} {i : Nat} (h : Btw .f32 (-20) 20 (D i)) : Btw .f32 0 400 (huA (bendW j) D i) := by
  obtain ⟨b1, b2, b3, b4, b5, b6, b7, b8, b9⟩ := bend_facts j hj
  have hq := dif_sq_btw h
  unfold huA
  split
  · have := quo_btw0 (n := 2) hq (by decide) (by decide) (by decide) (by decide)
    have e : floatOfInt .f32 ((2 : Nat) : Int) = 1073741824 := by decide +kernel
    rw [e] at this; exact this
  · rename_i hle
    have ha := abs_btw h
    have fb := fin_of b2 b1
    have fh := fin_of b7 b6
    have hv := order_val (k := .f32) ha.fin fb
    have hgt : val single (bendW j) ≤ val single (absW (D i)) := by
      rcases rat_tri (val single (absW (D i))) (val single (bendW j)) with k | k | k
      · exfalso; apply hle; unfold leF; rw [hv.1.2 k]; decide
      · rw [k]; exact Rat.le_refl
      · exact Rat.le_of_lt k
    rw [b5]
    have l : (0 : Rat) ≤ val single (absW (D i)) := ha.lo
    have u : val single (absW (D i)) ≤ (20 : Rat) := ha.hi
    have d : Btw .f32 0 20 (fop .sub .f32 (absW (D i)) (fop .quo .f32 (bendW j) 1073741824)) := near_btw (k := .f32) (by unfold smallI; decide) (by unfold smallI; decide) (by show (0 : Rat) ≤ val single _ - val single _; grind) (by show val single _ - val single _ ≤ (20 : Rat); grind) (fop_sub ha.fin fh)
    have dl : (0 : Rat) ≤ val single (fop .sub .f32 (absW (D i)) (fop .quo .f32 (bendW j) 1073741824)) := d.lo
    have du : val single (fop .sub .f32 (absW (D i)) (fop .quo .f32 (bendW j) 1073741824)) ≤ (20 : Rat) := d.hi
    have m0 := Rat.mul_nonneg (show (0 : Rat) ≤ val single (bendW j) by grind) dl
    have m1 := mul_mono b4 du (by grind) dl
    exact near_btw (k := .f32) (by unfold smallI; decide) (by unfold smallI; decide) (by show (0 : Rat) ≤ _; exact m0) (by show _ ≤ (400 : Rat); refine Rat.le_trans m1 ?_; decide +kernel) (fop_mul fb d.fin)
theorem dot_btw0 {D : Nat → Nat} {n : Nat} (h : ∀ i, i < n → Btw .f32 (-20) 20 (D i)) (h8 : n ≤ 8) : ∀ k : Nat, k ≤ n → Btw .f32 0 (400 * k) (dotS (listOf n D) (listOf n D) k)
  | 0, _ => by show Btw .f32 0 (400 * 0) 0; rw [Int.mul_zero]; exact zero_btw
  | k + 1, hk => by
    have ih := dot_btw0 h h8 k (by omega)
    have hq := dif_sq_btw (h k (by omega))
    have hb := ih.add hq (by unfold smallI; decide) (by unfold smallI; omega)
    have e : (400 : Int) * ((k + 1 : Nat) : Int) = 400 * k + 400 := by push_cast; rw [Int.mul_add, Int.mul_one]
    rw [e]
    show Btw .f32 0 _ (fop .add .f32 (dotS (listOf n D) (listOf n D) k) (fop .mul .f32 ((listOf n D).getD k 0) ((listOf n D).getD k 0)))
    rw [listOf_getD D (by omega)]
    exact hb
theorem dot_swap {D D' : Nat → Nat} {n : Nat} (h : ∀ i, i < n → fop .mul .f32 (D i) (D i) = fop .mul .f32 (D' i) (D' i)) : ∀ k : Nat, k ≤ n → dotS (listOf n D) (listOf n D) k = dotS (listOf n D') (listOf n D') k
  | 0, _ => rfl
  | k + 1, hk => by
    show fop .add .f32 (dotS (listOf n D) (listOf n D) k) (fop .mul .f32 ((listOf n D).getD k 0) ((listOf n D).getD k 0)) = fop .add .f32 (dotS (listOf n D') (listOf n D') k) (fop .mul .f32 ((listOf n D').getD k 0) ((listOf n D').getD k 0))
    rw [dot_swap h k (by omega), listOf_getD D (by omega), listOf_getD D' (by omega), h k (by omega)]
structure LossLaw (X Y : List Nat) (n j : Nat) : Prop where
  sqE : sqL (subE X Y) n = sqL (subE Y X) n
  sqB : Btw .f32 0 3200 (sqL (subE X Y) n)
  abE : abL (subE X Y) n = abL (subE Y X) n
  abB : Btw .f32 0 3200 (abL (subE X Y) n)
  huE : huL (bendW j) (subE X Y) n = huL (bendW j) (subE Y X) n
  huB : Btw .f32 0 3200 (huL (bendW j) (subE X Y) n)
theorem loss_law {X Y : List Nat} {n j : Nat} (hx : ∀ i, i < n → isPl (X.getD i 0)) (hy : ∀ i, i < n → isPl (Y.getD i 0)) (h1 : 1 ≤ n) (h8 : n ≤ 8) (hj : j < 16) : LossLaw X Y n j := by
  have hd : ∀ i, i < n → Btw .f32 (-20) 20 (subE X Y i) := fun i hi => pl_sub_fin (hx i hi) (hy i hi)
  have hp : ∀ i, i < n → fop .mul .f32 (subE X Y i) (subE X Y i) = fop .mul .f32 (subE Y X i) (subE Y X i) ∧ absW (subE X Y i) = absW (subE Y X i) := fun i hi => by
    obtain ⟨a, b, -⟩ := sub_pair (hx i hi).ok.1 (hy i hi).ok.1 (hd i hi).fin
    exact ⟨a, b⟩
  have ha : ∀ i, i < n → abA (subE X Y) i = abA (subE Y X) i := fun i hi => (hp i hi).2
  have hh : ∀ i, i < n → huA (bendW j) (subE X Y) i = huA (bendW j) (subE Y X) i := fun i hi => by unfold huA; rw [(hp i hi).1, (hp i hi).2]
  have hn3 : (400 : Int) * n ≤ 3200 := by omega
  have hL : ∀ (f : Nat → Nat), (∀ i, i < n → Btw .f32 0 400 (f i)) → ∀ i, i < 8 → Btw .f32 0 400 ((listOf n f).getD i 0) := by
    intro f hf i _
    by_cases hi : i < n
    · rw [listOf_getD f hi]; exact hf i hi
    · rw [List.getD_eq_getElem?_getD, List.getElem?_eq_none (by rw [listOf_length]; omega)]; exact zero_btw.mono (by decide) (by decide)
  refine ⟨?_, ?_, ?_, ?_, ?_, ?_⟩
  · unfold sqL; rw [dot_swap (fun i hi => (hp i hi).1) n (Nat.le_refl _)]
  · unfold sqL
    exact quo_btw0 ((dot_btw0 hd h8 n (Nat.le_refl _)).mono (Int.le_refl _) hn3) (by decide) (by decide) h1 h8
  · unfold abL; rw [listOf_congr ha]
  · unfold abL
    exact quo_btw0 ((sum_btw0 (c := 400) (by decide) (by decide) (hL _ fun i hi => (abs_btw (hd i hi)).mono (by decide) (by decide)) n h8).mono (Int.le_refl _) hn3) (by decide) (by decide) h1 h8
  · unfold huL; rw [listOf_congr hh]
  · unfold huL
    exact quo_btw0 ((sum_btw0 (c := 400) (by decide) (by decide) (hL _ fun i hi => huA_btw hj (hd i hi)) n h8).mono (Int.le_refl _) hn3) (by decide) (by decide) h1 h8
end Go.Proofs.Ytnhikdjljjemlaa
/- The law of clipping, walked. No condition. -/
namespace Go.Proofs.Ytnhikdjljjemlaa
open Go Go.RowKit Ieee
set_option linter.unusedVariables false
set_option linter.unusedSimpArgs false
theorem okG_zero : okG 0 := ⟨zero_fin.1, .inl (by rw [zero_fin.2]; decide +kernel), by rw [zero_fin.2]; decide +kernel⟩
theorem pl_list {xs : List Nat} (h : ∀ y ∈ xs, isPl y) : xs.map (cn .f32) = xs ∧ (∀ i, okG (xs.getD i 0)) ∧ (∀ i, i < xs.length → isPl (xs.getD i 0)) := by
  refine ⟨?_, fun i => ?_, fun i hi => ?_⟩
  · conv => rhs; rw [← List.map_id xs]
    exact List.map_congr_left (fun x hx => (h x hx).cn)
  · by_cases hi : i < xs.length
    · rw [List.getD_eq_getElem?_getD, List.getElem?_eq_getElem hi]; exact (h _ (List.getElem_mem hi)).ok
    · rw [List.getD_eq_getElem?_getD, List.getElem?_eq_none (by omega)]; exact okG_zero
  · rw [List.getD_eq_getElem?_getD, List.getElem?_eq_getElem hi]; exact h _ (List.getElem_mem hi)
theorem cn_wordK {k : FloatKind} {x y : Nat} (h : cn k y = x) (hx : isN k x = false) : y = x := by
  have h1 : isN k y = false := by rw [← isN_cn, h]; exact hx
  rwa [cn_not h1] at h
theorem cv_fin {x : Nat} (hx : Fin single x) (w : World) : cvbits .f32 x .f64 w = fcv .f32 x .f64 := cn_wordK (by rw [cn_wide, cn_not (Fin.not (k := .f32) hx)]) (Fin.not (k := .f64) (wide_val hx).1)
theorem clY_length (c : Nat) (X : List Nat) : (clY c X X.length).length = X.length := by
  unfold clY
  split
  · exact listOf_length _ _
  · rfl
end Go.Proofs.Ytnhikdjljjemlaa
/- Plain laws of the losses, in the form of the walk. No condition. -/
namespace Go.Proofs.Ytnhikdjljjemlaa
open Go Go.RowKit Ieee
set_option linter.unusedVariables false
set_option linter.unusedSimpArgs false
theorem bend_some : ∀ j : Nat, j < 16 → floatBits .quo .f32 (floatOfInt .f32 ((1 : Int) + (j : Int))) 1082130432 = some (bendW j) := by decide +kernel
theorem ge_of {b : Int} {w : Nat} (h : Btw .f32 0 b w) : (FloatKind.f32.format.order w 0 == some .gt || FloatKind.f32.format.order w 0 == some .eq) = true := by
  rcases btw_ge h with e | e <;> rw [e] <;> decide
theorem same_of {a b : Int} {w : Nat} (h : Btw .f32 a b w) : FloatKind.f32.format.order w w = some .eq := order_self2 (Fin.not (k := .f32) h.fin)
theorem le_of {a : Int} {w : Nat} (h : Btw .f32 a 0 w) : (FloatKind.f32.format.order w 0 == some .gt) = false := by
  have hv := order_val (k := .f32) h.fin zero_fin.1
  have u : val single w ≤ (0 : Rat) := h.hi
  cases e : (FloatKind.f32.format.order w 0 == some .gt)
  · rfl
  · exfalso
    have h2 : val single 0 < val single w := hv.2.1.1 (by simpa using e)
    rw [zero_fin.2] at h2; grind
theorem both_nn {n : Nat} (h1 : 1 ≤ n) (h8 : n ≤ 8) : both n n = true := by
  unfold both
  rw [decide_eq_true h1, decide_eq_true (show n ≤ 256 by omega), decide_eq_true (rfl : n = n)]; rfl
/-- e > -0.00001 -/
theorem loss_gt {e : Nat} (h : Btw .f32 0 246 e) : FloatKind.f64.format.order (fcv .f32 e .f64) 13755392620465711345 = some .gt := by
  have hw := wide_val h.fin
  have hv := order_val (k := .f64) hw.1 (show Fin FloatKind.f64.format 13755392620465711345 from fin64_of (by decide))
  refine hv.2.1.2 ?_
  show val double 13755392620465711345 < val double _
  rw [hw.2]
  have l : (0 : Rat) ≤ val single e := h.lo
  have c : val double 13755392620465711345 < 0 := by decide +kernel
  grind
/-- the gap to 0 -/
def gap0 (s : Nat) : Nat := if FloatKind.f64.format.order s 0 = some .lt then fop .sub .f64 0 s else fop .sub .f64 s 0
theorem gap_small {s : Nat} {b : Int} (h : Btw .f64 (-8) 8 s) (h1 : val double s ≤ 1 / 110000) (h2 : -(1 / 110000) ≤ val double s) :
    ∃ g, (FloatKind.f64.format.order s 0 = some .lt → floatBits .sub .f64 0 s = some g) ∧ (FloatKind.f64.format.order s 0 ≠ some .lt → floatBits .sub .f64 s 0 = some g) ∧ FloatKind.f64.format.order g 4532020583610935537 = some .lt := by
  have hz : Fin double 0 ∧ val double 0 = 0 := ⟨fin64_of (by decide), by decide +kernel⟩
  have hc : Fin double 4532020583610935537 ∧ (1 / 110000 + 1 / 110000 / 9007199254740992 + cMin) < val double 4532020583610935537 := ⟨fin64_of (by decide), by decide +kernel⟩
  have key : ∀ q r, Near double q r → -(1 / 110000) ≤ q → q ≤ 1 / 110000 → FloatKind.f64.format.order r 4532020583610935537 = some .lt := by
    intro q r hn l u
    have hf : Btw .f64 (-1) 1 r := near_btw (k := .f64) (by unfold smallI; decide) (by unfold smallI; decide) (by show (-1 : Rat) ≤ q; grind) (by show q ≤ (1 : Rat); grind) hn
    have he := (err64 (c := 1 / 110000) hn hf.fin l u).1
    refine (order_val (k := .f64) hf.fin hc.1).1.2 ?_
    show val double r < val double _
    have := hc.2
    grind
  by_cases ho : FloatKind.f64.format.order s 0 = some .lt
  · obtain ⟨r, e, n⟩ := sub_near (k := .f64) hz.1 h.fin
    have n' : Near double (val double 0 - val double s) r := n
    rw [hz.2] at n'
    exact ⟨r, fun _ => e, fun hh => absurd ho hh, key _ _ n' (by grind) (by grind)⟩
  · obtain ⟨r, e, n⟩ := sub_near (k := .f64) h.fin hz.1
    have n' : Near double (val double s - val double 0) r := n
    rw [hz.2] at n'
    exact ⟨r, fun hh => absurd hh ho, fun _ => e, key _ _ n' (by grind) (by grind)⟩
/-- what the law looks at in a round -/
structure RoundFacts (o : Ordering) (b l k : Nat) (x t m d1 d2 d3 e : Nat) : Prop where
  xt : FloatKind.f32.format.order x t = some o
  s1 : FloatKind.f32.format.order d1 0 = some o
  s2 : FloatKind.f32.format.order d2 0 = some o
  s3 : FloatKind.f32.format.order d3 0 = some o
  most : (FloatKind.f32.format.order x m == some .gt) = false
  first : k < b → (FloatKind.f32.format.order x m == some .eq) = false
  other : k ≠ l → (FloatKind.f32.format.order e 0 == some .gt || FloatKind.f32.format.order e 0 == some .eq) = true
  own : k = l → (FloatKind.f32.format.order e 0 == some .gt) = false
  fin : Fin single e
theorem add_some {x y : Nat} (hx : Fin double x) (hy : Fin double y) : floatBits .add .f64 x y = some (fop .add .f64 x y) := by
  obtain ⟨r, e, -⟩ := add_near (k := .f64) hx hy
  rw [fop_some e]; exact e
end Go.Proofs.Ytnhikdjljjemlaa
/- The gap of a number to 0, walked. No condition. -/
namespace Go.Proofs.Ytnhikdjljjemlaa
open Go Go.RowKit Ieee
set_option linter.unusedVariables false
set_option linter.unusedSimpArgs false
theorem b10_gap0 (s g : Nat) (h1 : FloatKind.f64.format.order s 0 = some .lt → floatBits .sub .f64 0 s = some g) (h2 : FloatKind.f64.format.order s 0 ≠ some .lt → floatBits .sub .f64 s 0 = some g) (w : World) :
    Calls Try.prog 23 #[.float .f64 s, .float .f64 0] w fun e w' => e = .returned (.float .f64 g) ∧ Dr w w' := by
  have hz0 := World.drewN_none
  by_cases h : FloatKind.f64.format.order s 0 = some .lt
  · have e1 := fbits_some (h1 h)
    have e2 := fdr_some (h1 h)
    clear h1 h2
    go_enter Try.func23, Try.ntmps23
    go_wp2
    go_ret
    exact ⟨rfl, Dr.refl _⟩
  · have e1 := fbits_some (h2 h)
    have e2 := fdr_some (h2 h)
    have h3 : (FloatKind.f64.format.order s 0 == some .lt) = false := by simpa using h
    clear h1 h2 h
    go_enter Try.func23, Try.ntmps23
    go_wp2
    go_ret
    exact ⟨rfl, Dr.refl _⟩
theorem ogt {x y : Nat} {o : Ordering} (h : FloatKind.f32.format.order x y = some o) : (FloatKind.f32.format.order x y == some .gt) = (o == .gt) := by rw [h]; cases o <;> rfl
theorem olt {x y : Nat} {o : Ordering} (h : FloatKind.f32.format.order x y = some o) : (FloatKind.f32.format.order x y == some .lt) = (o == .lt) := by rw [h]; cases o <;> rfl
theorem gap_fin {G : Nat → Nat} {n : Nat} (h8 : n ≤ 8) (h : ∀ k, k ≤ n → Btw .f64 (-(k : Int)) k (gW G k)) (h1 : val double (gW G n) ≤ 1 / 110000 ∧ -(1 / 110000) ≤ val double (gW G n)) :
    ∃ s g, s = gW G n ∧ (FloatKind.f64.format.order s 0 = some .lt → floatBits .sub .f64 0 s = some g) ∧ (FloatKind.f64.format.order s 0 ≠ some .lt → floatBits .sub .f64 s 0 = some g) ∧ FloatKind.f64.format.order g 4532020583610935537 = some .lt := by
  obtain ⟨g, a, b, c⟩ := gap_small (b := 0) ((h n (Nat.le_refl _)).mono (a' := -8) (b' := 8) (by omega) (by omega)) h1.1 h1.2
  exact ⟨_, g, rfl, a, b, c⟩
end Go.Proofs.Ytnhikdjljjemlaa
/- The law of losses, walked. No condition. -/
namespace Go.Proofs.Ytnhikdjljjemlaa
open Go Go.RowKit Ieee
set_option linter.unusedVariables false
set_option linter.unusedSimpArgs false
set_option maxHeartbeats 16000000 in
set_option maxRecDepth 100000 in
theorem fnLosses_walk (w : World) (a0 : Option Addr) (c0 : Nat) (l0 : List Int) (A0 : Ints .u8 w a0 c0 l0) (a1 : Option Addr) (c1 : Nat) (l1 : List Int) (A1 : Ints .u8 w a1 c1 l1) :
    Calls Try.prog 5 #[.slice a0 l0.length c0, .slice a1 l1.length c1] w fun e w' => e = .returned (.bool true) ∧ Below w.heap.size w w' := by
  by_cases hlong : l0.length ≤ 1048576 ∧ l1.length ≤ 1048576
  rotate_left
  · go_enter Try.func5, Try.ntmps5
    go_wp2_with fail
    refine (b10Long_yes _ _ _ _ _ _ _ hlong).mono ?_
    rintro e w1 ⟨rfl, rfl⟩
    go_wp2
    go_ret
    exact ⟨rfl, Below.refl _ _⟩
  obtain ⟨hl0, hl1⟩ := hlong
  have AA0 := Lib.hid A0; have AA1 := Lib.hid A1
  clear A0 A1
  go_enter Try.func5, Try.ntmps5
  go_wp2_with fail
  refine (b10Long_no _ _ _ _ _ _ _ hl0 hl1).mono ?_
  rintro e w1 ⟨rfl, rfl⟩
  clear hl0 hl1
  go_wp2_with fail
  refine (b10At_any _ _ _ _ AA0.out 0 8 (by decide) (by decide) (by decide) (by decide)).mono ?_
  rintro e w1 ⟨n0, rfl, hn, rfl⟩
  have hn7 : n0 ≤ 7 := by omega
  clear hn
  go_wp2_with fail
  obtain ⟨n, hnn⟩ : ∃ n, n = 1 + n0 := ⟨_, rfl⟩
  have hni : (1 : Int) + (n0 : Int) = (n : Int) := by omega
  have hn8 : n ≤ 8 := by omega
  have hn1 : 1 ≤ n := by omega
  simp only [hni]
  clear hnn hni hn7
  refine (b10_small _ _ _ _ AA0.out n (by omega)).mono ?_
  rintro e w1 ⟨ad0, cap0, xs, rfl, hr, hpl, hb⟩
  obtain ⟨p1, -, p3⟩ := pl_list hpl.out
  have RX := Lib.hid hr; have BB := Lib.hid hb; have LNX := Lib.hid hr.len; have PX := Lib.hid p1; have IX := Lib.hid p3
  clear hr hb hpl AA0 p1 p3
  go_wp2_with fail
  refine (b10_small _ _ _ _ (AA1.out.below BB.out) n (by omega)).mono ?_
  rintro e w2 ⟨ad1, cap1, zs, rfl, hr, hpl, hb⟩
  obtain ⟨p1, -, p3⟩ := pl_list hpl.out
  have RZ := Lib.hid hr; have LNZ := Lib.hid hr.len; have PZ := Lib.hid p1; have IZ := Lib.hid p3
  replace RX := Lib.hid (RX.out.below hb)
  replace BB := Lib.hid (bthen BB.out hb)
  clear hr hb hpl p1 p3
  go_wp2_with fail
  refine (b10At_any _ _ _ _ (AA1.out.below BB.out) 0 16 (by decide) (by decide) (by decide) (by decide)).mono ?_
  rintro e w3 ⟨j, rfl, hj, rfl⟩
  have hj : j < 16 := by omega
  have hbs := bend_some j hj
  have hll := loss_law (X := xs) (Y := zs) (n := n) (j := j) (fun i hi => IX.out i (by rw [LNX.out]; exact hi)) (fun i hi => IZ.out i (by rw [LNZ.out]; exact hi)) hn1 hn8 hj
  have hgs : ∀ k, k < n → ∃ o, FloatKind.f32.format.order (xs.getD k 0) (zs.getD k 0) = some o ∧ FloatKind.f32.format.order (sqG (subE xs zs) n k) 0 = some o ∧ FloatKind.f32.format.order (abG (subE xs zs) n k) 0 = some o ∧ FloatKind.f32.format.order (huG (bendW j) (subE xs zs) n k) 0 = some o :=
    fun k hk => grads_sg (IX.out k (by rw [LNX.out]; exact hk)) (IZ.out k (by rw [LNZ.out]; exact hk)) hn1 hn8 hj
  have hz0 := World.drewN_none
  have e1 := fbits_some hbs
  have e2 := fdr_some hbs
  have HBB := Lib.hid (both_nn hn1 hn8)
  obtain ⟨q, hq⟩ : ∃ q, q = bendW j := ⟨_, rfl⟩
  rw [← hq] at e1 hgs
  have HL := Lib.hid hll; have HG := Lib.hid hgs
  clear hbs hll hgs hj
  obtain ⟨SA, hSA⟩ : ∃ A, A = sqL (subE xs zs) n := ⟨_, rfl⟩
  obtain ⟨SB, hSB⟩ : ∃ A, A = abL (subE xs zs) n := ⟨_, rfl⟩
  obtain ⟨SC, hSC⟩ : ∃ A, A = huL (bendW j) (subE xs zs) n := ⟨_, rfl⟩
  have saf : ∀ (r : Nat), cn .f32 r = sqL (subE xs zs) n → r = SA := fun r h => (Fin.cn (k := .f32) HL.out.sqB.fin h).trans hSA.symm
  have sbf : ∀ (r : Nat), cn .f32 r = abL (subE xs zs) n → r = SB := fun r h => (Fin.cn (k := .f32) HL.out.abB.fin h).trans hSB.symm
  have scf : ∀ (r : Nat), cn .f32 r = huL q (subE xs zs) n → r = SC := fun r h => (Fin.cn (k := .f32) HL.out.huB.fin (by rw [← hq]; exact h)).trans hSC.symm
  have sdf : ∀ (r : Nat), cn .f32 r = sqL (subE zs xs) n → r = SA := fun r h => saf r (h.trans HL.out.sqE.symm)
  have sef : ∀ (r : Nat), cn .f32 r = abL (subE zs xs) n → r = SB := fun r h => sbf r (h.trans HL.out.abE.symm)
  have sff : ∀ (r : Nat), cn .f32 r = huL q (subE zs xs) n → r = SC := fun r h => scf r (h.trans (by rw [hq]; exact HL.out.huE.symm))
  have SAf := Lib.hid saf; have SBf := Lib.hid sbf; have SCf := Lib.hid scf; have SDf := Lib.hid sdf; have SEf := Lib.hid sef; have SFf := Lib.hid sff
  have GA := Lib.hid (ge_of (hSA ▸ HL.out.sqB)); have GB := Lib.hid (ge_of (hSB ▸ HL.out.abB)); have GC := Lib.hid (ge_of (hSC ▸ HL.out.huB))
  have QA := Lib.hid (same_of (hSA ▸ HL.out.sqB)); have QB := Lib.hid (same_of (hSB ▸ HL.out.abB)); have QC := Lib.hid (same_of (hSC ▸ HL.out.huB))
  clear saf sbf scf sdf sef sff hq hSA hSB hSC HL
  have f1 := impl_LossSquares w2 ad0 cap0 xs RX.out.arg ad1 cap1 zs RZ.out.arg
  rw [LNX.out, LNZ.out, PX.out, PZ.out, if_pos HBB.out, if_pos HBB.out, HBB.out] at f1
  have F1 := Lib.hid f1; clear f1
  go_wp2_with fail
  refine F1.out.mono ?_
  rintro e w4 ⟨r1, d1, m1, c1, y1, b1, rfl, hr, ho, hy, hm, rfl, hb⟩
  have HR1 := Lib.hid (SAf.out _ hr)
  have hlen : n = m1 := by rw [← ho.len]; exact (len_of hy).symm
  subst hlen
  replace RX := Lib.hid (RX.out.below hb)
  replace RZ := Lib.hid (RZ.out.below hb)
  have RO1 := Lib.hid ho; have YO1 := Lib.hid hy; have LM1 := Lib.hid ho.len
  replace BB := Lib.hid (bthen BB.out hb)
  clear F1 hr ho hy hm hb
  have f1 := impl_LossAbsolute w4 ad0 cap0 xs RX.out.arg ad1 cap1 zs RZ.out.arg
  rw [LNX.out, LNZ.out, PX.out, PZ.out, if_pos HBB.out, if_pos HBB.out, HBB.out] at f1
  have F1 := Lib.hid f1; clear f1
  go_wp2_with fail
  refine F1.out.mono ?_
  rintro e w5 ⟨r2, d2, m2, c2, y2, b2, rfl, hr, ho, hy, hm, rfl, hb⟩
  have HR2 := Lib.hid (SBf.out _ hr)
  have hlen : n = m2 := by rw [← ho.len]; exact (len_of hy).symm
  subst hlen
  replace RX := Lib.hid (RX.out.below hb)
  replace RZ := Lib.hid (RZ.out.below hb)
  replace RO1 := Lib.hid (RO1.out.below hb)
  have RO2 := Lib.hid ho; have YO2 := Lib.hid hy; have LM2 := Lib.hid ho.len
  replace BB := Lib.hid (bthen BB.out hb)
  clear F1 hr ho hy hm hb
  have f1 := impl_LossHuber w5 ad0 cap0 xs RX.out.arg ad1 cap1 zs RZ.out.arg q
  rw [LNX.out, LNZ.out, PX.out, PZ.out, if_pos HBB.out, if_pos HBB.out, HBB.out] at f1
  have F1 := Lib.hid f1; clear f1
  go_wp2_with fail
  refine F1.out.mono ?_
  rintro e w6 ⟨r3, d3, m3, c3, y3, b3, rfl, hr, ho, hy, hm, rfl, hb⟩
  have HR3 := Lib.hid (SCf.out _ hr)
  have hlen : n = m3 := by rw [← ho.len]; exact (len_of hy).symm
  subst hlen
  replace RX := Lib.hid (RX.out.below hb)
  replace RZ := Lib.hid (RZ.out.below hb)
  replace RO1 := Lib.hid (RO1.out.below hb)
  replace RO2 := Lib.hid (RO2.out.below hb)
  have RO3 := Lib.hid ho; have YO3 := Lib.hid hy; have LM3 := Lib.hid ho.len
  replace BB := Lib.hid (bthen BB.out hb)
  clear F1 hr ho hy hm hb
  have f1 := impl_LossSquares w6 ad1 cap1 zs RZ.out.arg ad0 cap0 xs RX.out.arg
  rw [LNX.out, LNZ.out, PX.out, PZ.out, if_pos HBB.out, if_pos HBB.out, HBB.out] at f1
  have F1 := Lib.hid f1; clear f1
  go_wp2_with fail
  refine F1.out.mono ?_
  rintro e w7 ⟨r4, d4, m4, c4, y4, b4, rfl, hr, ho, hy, hm, rfl, hb⟩
  have HR4 := Lib.hid (SDf.out _ hr)
  replace RX := Lib.hid (RX.out.below hb)
  replace RZ := Lib.hid (RZ.out.below hb)
  replace RO1 := Lib.hid (RO1.out.below hb)
  replace RO2 := Lib.hid (RO2.out.below hb)
  replace RO3 := Lib.hid (RO3.out.below hb)
  replace BB := Lib.hid (bthen BB.out hb)
  clear F1 hr ho hy hm hb
  have f1 := impl_LossAbsolute w7 ad1 cap1 zs RZ.out.arg ad0 cap0 xs RX.out.arg
  rw [LNX.out, LNZ.out, PX.out, PZ.out, if_pos HBB.out, if_pos HBB.out, HBB.out] at f1
  have F1 := Lib.hid f1; clear f1
  go_wp2_with fail
  refine F1.out.mono ?_
  rintro e w8 ⟨r5, d5, m5, c5, y5, b5, rfl, hr, ho, hy, hm, rfl, hb⟩
  have HR5 := Lib.hid (SEf.out _ hr)
  replace RX := Lib.hid (RX.out.below hb)
  replace RZ := Lib.hid (RZ.out.below hb)
  replace RO1 := Lib.hid (RO1.out.below hb)
  replace RO2 := Lib.hid (RO2.out.below hb)
  replace RO3 := Lib.hid (RO3.out.below hb)
  replace BB := Lib.hid (bthen BB.out hb)
  clear F1 hr ho hy hm hb
  have f1 := impl_LossHuber w8 ad1 cap1 zs RZ.out.arg ad0 cap0 xs RX.out.arg q
  rw [LNX.out, LNZ.out, PX.out, PZ.out, if_pos HBB.out, if_pos HBB.out, HBB.out] at f1
  have F1 := Lib.hid f1; clear f1
  go_wp2_with fail
  refine F1.out.mono ?_
  rintro e w9 ⟨r6, d6, m6, c6, y6, b6, rfl, hr, ho, hy, hm, rfl, hb⟩
  have HR6 := Lib.hid (SFf.out _ hr)
  replace RX := Lib.hid (RX.out.below hb)
  replace RZ := Lib.hid (RZ.out.below hb)
  replace RO1 := Lib.hid (RO1.out.below hb)
  replace RO2 := Lib.hid (RO2.out.below hb)
  replace RO3 := Lib.hid (RO3.out.below hb)
  replace BB := Lib.hid (bthen BB.out hb)
  clear F1 hr ho hy hm hb
  go_wp2_with fail
  refine (b10At_any _ _ _ _ (AA1.out.below BB.out) 1 (n : Int) (by decide) (by decide) (by omega) (by omega)).mono ?_
  rintro e w10 ⟨l, rfl, hl, rfl⟩
  have hl : l < n := by omega
  have he := ent_law (xs := xs) (l := l) (fun i hi => IX.out i (by rw [LNX.out]; exact hi)) hn1 hn8 hl
  have f1 := impl_LossEntropy w9 ad0 cap0 xs RX.out.arg l
  have hok : entOk xs.length l = true := entOk_iff.2 (by rw [LNX.out]; omega)
  unfold EntPost entL entG at f1
  rw [if_pos hok, if_pos hok, hok, LNX.out, Int.toNat_natCast, PX.out] at f1
  have HE := Lib.hid he
  have F1 := Lib.hid f1
  clear f1 hok he AA1
  go_wp2_with fail
  refine F1.out.mono ?_
  rintro e w11 ⟨r7, d7, m7, c7, y7, b7, rfl, hr, ho, hy, hm, rfl, hb⟩
  have hlen : n = m7 := by rw [← ho.len]; exact (len_of hy).symm
  subst hlen
  have HR7 := Lib.hid hr; have RO7 := Lib.hid ho; have YO7 := Lib.hid hy; have LM7 := Lib.hid ho.len
  replace RX := Lib.hid (RX.out.below hb); replace RZ := Lib.hid (RZ.out.below hb); replace RO1 := Lib.hid (RO1.out.below hb); replace RO2 := Lib.hid (RO2.out.below hb); replace RO3 := Lib.hid (RO3.out.below hb)
  replace BB := Lib.hid (bthen BB.out hb)
  clear F1 hr ho hy hm hb
  have f1 := impl_GreatestOf w11 ad0 cap0 xs RX.out.arg
  rw [LNX.out, if_pos (by omega), decide_eq_true (by omega)] at f1
  have hbl := gBest_le xs n
  obtain ⟨b, hbe⟩ : ∃ b, b = gBest xs n := ⟨_, rfl⟩
  rw [← hbe] at f1 hbl
  have hbn : b < n := by omega
  have F1 := Lib.hid f1
  clear f1 hbl
  go_wp2_with fail
  refine F1.out.mono ?_
  rintro e w12 ⟨v, vb, rfl, rfl, rfl, hb⟩
  replace RX := Lib.hid (RX.out.below hb); replace RZ := Lib.hid (RZ.out.below hb); replace RO1 := Lib.hid (RO1.out.below hb); replace RO2 := Lib.hid (RO2.out.below hb); replace RO3 := Lib.hid (RO3.out.below hb); replace RO7 := Lib.hid (RO7.out.below hb)
  replace BB := Lib.hid (bthen BB.out hb)
  clear F1 hb
  -- what the rounds look at
  have hef : ∀ k, k < n → y7.getD k 0 = lE xs b n l k ∧ (k ≠ l → Btw .f32 0 1 (lE xs b n l k)) ∧ (k = l → Btw .f32 (-1) 0 (lE xs b n l k)) := by
    intro k hk
    have hc := cn_at YO7.out hk
    have HX := HE.out
    have ho := HX.other k hk
    have hw := HX.own
    rw [PX.out, ← hbe] at ho hw
    rw [← hbe] at hc
    refine ⟨?_, ho, fun e => by subst e; exact hw⟩
    by_cases hkl : k = l
    · subst hkl; exact Fin.cn (k := .f32) hw.fin hc
    · exact Fin.cn (k := .f32) (ho hkl).fin hc
  have RF : ∀ k, k < n → ∃ o, RoundFacts o b l k (xs.getD k 0) (zs.getD k 0) (xs.getD b 0) (y1.getD k 0) (y2.getD k 0) (y3.getD k 0) (y7.getD k 0) := by
    intro k hk
    obtain ⟨o, g1, g2, g3, g4⟩ := HG.out k hk
    obtain ⟨q1, q2, q3⟩ := hef k hk
    have hx := (IX.out k (by rw [LNX.out]; exact hk)).ok.1
    have hm := (IX.out b (by rw [LNX.out]; exact hbn)).ok.1
    have hv := order_val (k := .f32) hx hm
    have hmo := HE.out.most k hk
    have hfi := HE.out.first k
    rw [← hbe] at hmo hfi
    refine ⟨o, g1, ?_, ?_, ?_, ?_, ?_, ?_, ?_, ?_⟩
    · rw [← order_at (cn_at YO1.out hk)]; exact g2
    · rw [← order_at (cn_at YO2.out hk)]; exact g3
    · rw [← order_at (cn_at YO3.out hk)]; exact g4
    · cases e : (FloatKind.f32.format.order (xs.getD k 0) (xs.getD b 0) == some .gt)
      · rfl
      · exfalso
        have h2 : val single (xs.getD b 0) < val single (xs.getD k 0) := hv.2.1.1 (by simpa using e)
        grind
    · intro hkb
      have h1 := hfi hkb
      rw [hv.1.2 h1]; decide
    · intro hkl
      rw [q1]; exact ge_of (q2 hkl)
    · intro hkl
      rw [q1]; exact le_of (q3 hkl)
    · rw [q1]
      by_cases hkl : k = l
      · exact (q3 hkl).fin
      · exact (q2 hkl).fin
  have GW : ∀ k, k < n → y7.getD k 0 = lE xs b n l k := fun k hk => (hef k hk).1
  have SM := HE.out.sum
  have NR := HE.out.near
  have hT := HE.out.loss
  rw [PX.out, ← hbe] at SM NR hT
  have h7 := HR7.out
  rw [← hbe] at h7
  have h7 : r7 = tE xs b n l := Fin.cn (k := .f32) hT.fin h7
  have hgt7 := loss_gt hT
  have hc7 := cv_fin hT.fin
  rw [← h7] at hgt7 hc7
  obtain ⟨E7, hE7⟩ : ∃ E, E = fcv .f32 r7 .f64 := ⟨_, rfl⟩
  rw [← hE7] at hgt7 hc7
  obtain ⟨G, hG⟩ : ∃ G, G = lE xs b n l := ⟨_, rfl⟩
  rw [← hG] at SM NR GW
  have HRF := Lib.hid RF; have HGW := Lib.hid GW; have HSM := Lib.hid SM; have HNR := Lib.hid NR
  clear RF GW SM NR hT h7 hE7 hG hef HR7 YO1 YO2 YO3 YO7 HG HE hbe IX IZ PX PZ
  have h1 := HR4.out; subst h1
  have h1 := HR1.out; subst h1
  have h1 := HR5.out; subst h1
  have h1 := HR2.out; subst h1
  have h1 := HR6.out; subst h1
  have h1 := HR3.out; subst h1
  have ga := GA.out; have gb := GB.out; have gc := GC.out; have qa := QA.out; have qb := QB.out; have qc := QC.out
  clear HR1 HR2 HR3 HR4 HR5 HR6 GA GB GC QA QB QC SAf SBf SCf SDf SEf SFf e1 e2
  go_wp2
  clear ga gb gc qa qb qc hgt7 hc7

  go_loopw [33, 34, 35, 36] (fun s i u d wr => ∃ k : Nat, i = .int .i64 k ∧ k ≤ n ∧ s = .float .f64 (gW G k) ∧ Dr w12 wr) (fun _ i _ _ _ => n - (intOf i).toNat)
  case atStart => exact ⟨0, rfl, Nat.zero_le _, rfl, (Dr.refl _).drewN _⟩
  case round =>
    obtain ⟨k, rfl, hk, rfl, hd⟩ := hrel
    by_cases hlt : k < n
    · obtain ⟨o, rf⟩ := HRF.out k hlt
      have hfe := rf.fin
      rw [HGW.out k hlt] at hfe
      have hgk := HGW.out k hlt
      have ha := fbits_some (add_some (HSM.out k hk).fin (wide_val hfe).1)
      have hb := fdr_some (add_some (HSM.out k hk).fin (wide_val hfe).1)
      have hcv := cv_fin hfe
      obtain ⟨S0, hS0⟩ : ∃ S, S = gW G k := ⟨_, rfl⟩
      obtain ⟨S1, hS1⟩ : ∃ S, S = gW G (k + 1) := ⟨_, rfl⟩
      have hS1' : S1 = fop .add .f64 S0 (fcv .f32 (G k) .f64) := by rw [hS1, hS0]; rfl
      rw [← hS0] at ha hb
      rw [← hS1'] at ha
      rw [← hS0]
      obtain ⟨Ek, hEk⟩ : ∃ E, E = fcv .f32 (G k) .f64 := ⟨_, rfl⟩
      rw [← hEk] at ha hb hcv
      obtain ⟨ek, hek⟩ : ∃ e, e = y7.getD k 0 := ⟨_, rfl⟩
      have hek2 : G k = ek := by rw [hek, hgk]
      rw [hek2] at hcv
      have t1 := ogt rf.xt
      have t2 := olt rf.xt
      have t3 := ogt rf.s1
      have t4 := olt rf.s1
      have t5 := ogt rf.s2
      have t6 := olt rf.s2
      have t7 := ogt rf.s3
      have t8 := olt rf.s3
      have tm := rf.most
      have tf := rf.first
      have to' := rf.other
      have tw := rf.own
      obtain ⟨ug, hug⟩ : ∃ u, u = (o == .gt) := ⟨_, rfl⟩
      obtain ⟨ul, hul⟩ : ∃ u, u = (o == .lt) := ⟨_, rfl⟩
      rw [← hug] at t1 t3 t5 t7
      rw [← hul] at t2 t4 t6 t8
      have bl := hd.below
      obtain ⟨p1, q1, rfl, _, hc1⟩ := (RX.out.arg.below bl).spot (k := k) (by rw [LNX.out]; exact hlt)
      obtain ⟨p2, q2, rfl, _, hc2⟩ := (RZ.out.arg.below bl).spot (k := k) (by rw [LNZ.out]; exact hlt)
      obtain ⟨p3, q3, rfl, _, hc3⟩ := (RO1.out.arg.below bl).spot (k := k) (by rw [LM1.out]; exact hlt)
      obtain ⟨p4, q4, rfl, _, hc4⟩ := (RO2.out.arg.below bl).spot (k := k) (by rw [LM2.out]; exact hlt)
      obtain ⟨p5, q5, rfl, _, hc5⟩ := (RO3.out.arg.below bl).spot (k := k) (by rw [LM3.out]; exact hlt)
      obtain ⟨p6, q6, rfl, _, hc6⟩ := (RO7.out.arg.below bl).spot (k := k) (by rw [LM7.out]; exact hlt)
      have k0 := hc1 b (by rw [LNX.out]; exact hbn)
      have k1 := hc1 k (by rw [LNX.out]; exact hlt)
      have k2 := hc2 k (by rw [LNZ.out]; exact hlt)
      have k3 := hc3 k (by rw [LM1.out]; exact hlt)
      have k4 := hc4 k (by rw [LM2.out]; exact hlt)
      have k5 := hc5 k (by rw [LM3.out]; exact hlt)
      have k6 := hc6 k (by rw [LM7.out]; exact hlt)
      rw [← hek] at k6 to' tw
      obtain ⟨x0, hx0⟩ : ∃ x, x = xs.getD b 0 := ⟨_, rfl⟩
      obtain ⟨x1, hx1⟩ : ∃ x, x = xs.getD k 0 := ⟨_, rfl⟩
      obtain ⟨x2, hx2⟩ : ∃ x, x = zs.getD k 0 := ⟨_, rfl⟩
      obtain ⟨x3, hx3⟩ : ∃ x, x = y1.getD k 0 := ⟨_, rfl⟩
      obtain ⟨x4, hx4⟩ : ∃ x, x = y2.getD k 0 := ⟨_, rfl⟩
      obtain ⟨x5, hx5⟩ : ∃ x, x = y3.getD k 0 := ⟨_, rfl⟩
      rw [← hx0] at k0 tm tf
      rw [← hx1] at k1 t1 t2 tm tf
      rw [← hx2] at k2 t1 t2
      rw [← hx3] at k3 t3 t4
      rw [← hx4] at k4 t5 t6
      rw [← hx5] at k5 t7 t8
      have HD := Lib.hid hd
      have HS := Lib.hid hS1
      clear hx0 hx1 hx2 hx3 hx4 hx5 hc1 hc2 hc3 hc4 hc5 hc6 bl hd rf hgk hfe hS0 hS1 hS1' hEk hek hek2 hug hul
      clear LNX LNZ LM1 LM2 LM3 LM7 RX RZ RO1 RO2 RO3 RO7 HRF HGW HSM HNR BB
      have HT := Lib.hid (And.intro tf (And.intro to' tw))
      clear tf to' tw
      go_wp2
      go_quiet (fail)
      go_wp2
      go_quiet (fail)
      go_wp2
      clear t1 t2 t3 t4 t5 t6 t7 t8
      clear k2 k3 k4 k5
      obtain ⟨tf, to', tw⟩ := HT.out
      clear HT
      by_cases hkb : k < b
      · have tf' := tf hkb
        by_cases hkl : k = l
        · subst hkl
          have tw' := tw rfl
          clear tf to' tw
          go_wp2
          go_quiet (fail)
          go_wp2
          go_roundw
          case rel => exact ⟨k + 1, by go_num, hlt, by rw [HS.out], HD.out.drewN _⟩
          case measure => simp [intOf]; omega
        · have to1 := to' hkl
          clear tf to' tw
          have hkn : ((k : Int) != (l : Int)) = true := bne_iff_ne.2 (fun h => hkl (Int.ofNat_inj.1 h))
          have hkb2 : ((k : Int) == (l : Int)) = false := beq_eq_false_iff_ne.2 (fun h => hkl (Int.ofNat_inj.1 h))
          clear hkl
          go_wp2
          go_quiet (fail)
          go_wp2
          go_roundw
          case rel => exact ⟨k + 1, by go_num, hlt, by rw [HS.out], HD.out.drewN _⟩
          case measure => simp [intOf]; omega
      · by_cases hkl : k = l
        · subst hkl
          have tw' := tw rfl
          clear tf to' tw
          go_wp2
          go_quiet (fail)
          go_wp2
          go_roundw
          case rel => exact ⟨k + 1, by go_num, hlt, by rw [HS.out], HD.out.drewN _⟩
          case measure => simp [intOf]; omega
        · have to1 := to' hkl
          clear tf to' tw
          have hkn : ((k : Int) != (l : Int)) = true := bne_iff_ne.2 (fun h => hkl (Int.ofNat_inj.1 h))
          have hkb2 : ((k : Int) == (l : Int)) = false := beq_eq_false_iff_ne.2 (fun h => hkl (Int.ofNat_inj.1 h))
          clear hkl
          go_wp2
          go_quiet (fail)
          go_wp2
          go_roundw
          case rel => exact ⟨k + 1, by go_num, hlt, by rw [HS.out], HD.out.drewN _⟩
          case measure => simp [intOf]; omega
    · have hkn : k = n := by omega
      subst hkn
      obtain ⟨S0, g, hS0, g1, g2, g3⟩ := gap_fin hn8 HSM.out HNR.out
      rw [← hS0]
      have G3 := Lib.hid g3
      have C := Lib.hid (fun W => b10_gap0 S0 g g1 g2 W)
      clear g1 g2 g3 hS0 HRF HGW HSM HNR
      go_wp2_with fail
      refine (C.out _).mono ?_
      rintro e w13 ⟨rfl, hd2⟩
      have g3 := G3.out
      go_wp2
      go_ret
      exact ⟨rfl, (bthen BB.out hd.below).trans (hd2.below.mono (bthen BB.out hd.below).size)⟩
end Go.Proofs.Ytnhikdjljjemlaa
