/- What gathered roundings are. No condition. -/
import Derived.Test.YtnnefcakfaifmaaBf
import Derived.Test.YtnnefcakfaifmaaLab
import Derived.Deep.RegionWith
namespace Go.Proofs.Ytnnefcakfaifmaa
open Go Go.RowKit
set_option linter.unusedVariables false
set_option linter.unusedSimpArgs false
def gR (X : List Nat) : Nat → Nat → Nat
  | 0, _ => 0
  | j + 1, i => fop .sub .f32 (fop .add .f32 (X.getD i 0) (gR X j i)) (bfE (fop .add .f32 (X.getD i 0) (gR X j i)))
def gS (X : List Nat) : Nat → Nat → Nat
  | 0, _ => 0
  | j + 1, i => fop .add .f32 (gS X j i) (bfE (fop .add .f32 (X.getD i 0) (gR X j i)))
theorem zeros_listOf (n : Nat) : (List.replicate n 0).map (cn .f32) = listOf n (fun _ => 0) := by
  apply List.ext_getElem
  · simp [listOf]
  · intro i h1 h2
    simp [listOf, cn_zero]
theorem zeros_own {w : World} {base n : Nat} {e : TypeId} {v : Value} (h : w.ownsRow base e 1 v n (madeCells #[Value.float .f32 0] n).toList) : w.ownsRow base e 1 v n ((List.replicate n 0).map (Value.float .f32)) := by
  rw [toList_madeCells_one] at h
  rwa [List.map_replicate]
theorem zeros_lt (n : Nat) : ∀ x ∈ List.replicate n 0, x < 4294967296 := by
  intro x hx
  rw [(List.mem_replicate.1 hx).2]; decide
theorem zeros_rep {w : World} {n : Nat} {g : Nat} (h : w.ownsRow g 24 1 (.slice (some ⟨g, 0, none⟩) n n) n (madeCells #[Value.float .f32 0] n).toList) : RepF w g w.heap.size (some ⟨g, 0, none⟩) n n (List.replicate n 0) := by
  obtain ⟨a1, c1, e1, hS⟩ := RepF.of_owns (zeros_own h) (zeros_lt n)
  cases e1
  exact hS
set_option maxRecDepth 100000 in
set_option maxHeartbeats 8000000 in
theorem impl_GatherRounding_yes (w : World) (ad : Option Addr) (cap : Nat) (xs : List Nat) (h : F32s w ad cap xs) (rounds : Int) (hn : xs.length ≤ 256) (hR : inB rounds 0 20 = true) :
    Calls Try.prog 43 #[.slice ad xs.length cap, .int .i64 rounds] w fun e w' => ∃ (a1 : Option Addr) (n1 c1 : Nat) (ss : List Nat) (a2 : Option Addr) (n2 c2 : Nat) (rs : List Nat) (lo1 hi1 lo2 hi2 : Nat), e = .returned (.tuple #[.slice a1 n1 c1, .slice a2 n2 c2, .bool true]) ∧
      RepF w' lo1 hi1 a1 n1 c1 ss ∧ ss.map (cn .f32) = listOf xs.length (gS (xs.map (cn .f32)) rounds.toNat) ∧ n1 ≤ 1048576 ∧
      RepF w' lo2 hi2 a2 n2 c2 rs ∧ rs.map (cn .f32) = listOf xs.length (gR (xs.map (cn .f32)) rounds.toNat) ∧ n2 ≤ 1048576 ∧
      Hid (w.heap.size ≤ lo1 ∧ hi1 ≤ w'.heap.size ∧ w.heap.size ≤ lo2 ∧ hi2 ≤ w'.heap.size ∧ (hi1 ≤ lo2 ∨ hi2 ≤ lo1)) ∧ Below w.heap.size w w' := by
  obtain ⟨i0, hi, hz0, hz1, hz2⟩ := info_parts info_f32
  obtain ⟨hr0, hr1⟩ := inB_iff.1 hR
  obtain ⟨R, rfl⟩ := Int.eq_ofNat_of_zero_le hr0
  rw [Int.toNat_natCast]
  obtain ⟨X, hX⟩ : ∃ X, X = xs.map (cn .f32) := ⟨_, rfl⟩
  rw [← hX]
  obtain ⟨n, hN⟩ : ∃ n, n = xs.length := ⟨_, rfl⟩
  rw [← hN] at hn ⊢
  have HN := Lib.hid hN; have HX := Lib.hid hX; clear hN hX
  have hfew : decide (n ≤ 256) = true := decide_eq_true hn
  have hmk := fun W : World => run_make_full (P := Try.prog) W W.heap.size 51 24 i0 (.float .f32 0) 1 Try.underlying51 hi hz0 hz1 .i64 .i64 n (by rw [hz2]; omega) (by unfold maxLen; omega) (Nat.le_refl _)
  obtain ⟨mf, hmf⟩ := Classical.skolem.1 hmk
  have hm1 := fun W => (hmf W).1
  obtain ⟨_, hown1, hg1⟩ := hmf w.drew
  have hb1 : Below w.heap.size w (mf w.drew) := Below.grown (Below.drew (Below.refl _ _)) hg1 (Nat.le_refl _) (fun k e => by cases e)
  obtain ⟨w1, hw1e⟩ : ∃ x, x = mf w.drew := ⟨_, rfl⟩
  rw [← hw1e] at hown1 hg1 hb1
  obtain ⟨_, hown2, hg2⟩ := hmf w1
  have hb2 : Below w1.heap.size w1 (mf w1) := Below.grown (Below.refl _ _) hg2 (Nat.le_refl _) (fun k e => by cases e)
  obtain ⟨w2, hw2e⟩ : ∃ x, x = mf w1 := ⟨_, rfl⟩
  rw [← hw2e] at hown2 hg2 hb2
  have hs1 := hb1.size
  have hs2 := hb2.size
  rw [Nat.mul_one] at hown1 hown2
  have hA := (zeros_rep (show w1.ownsRow w.heap.size 24 1 (.slice (some ⟨w.heap.size, 0, none⟩) n n) n (madeCells #[Value.float .f32 0] n).toList from hown1)).below hb2
  have hB := zeros_rep (show w2.ownsRow w1.heap.size 24 1 (.slice (some ⟨w1.heap.size, 0, none⟩) n n) n (madeCells #[Value.float .f32 0] n).toList from hown2)
  have hb := bthen hb1 hb2
  have h0 := h
  have h := h.below hb
  have hA1 := hA.lt_hi
  have hB1 := hB.lt_hi
  have hne1 : ¬ (w1.heap.size = w.heap.size) := by omega
  have hne2 : ¬ (w.heap.size = w1.heap.size) := by omega
  have HE1 := Lib.hid hw1e; have HE2 := Lib.hid hw2e
  clear hmk hmf hown1 hg1 hown2 hg2 hw1e hw2e
  have J0 := Lib.hid h0; have JA := Lib.hid hA; have JB := Lib.hid hB; have Jb := Lib.hid hb; have Jh := Lib.hid h
  clear hA hB hb h0 h
  have h := Jh.out
  go_enter Try.func43, Try.ntmps43
  go_wp2_with fail
  refine (within_any _ _ _ _).mono ?_
  rintro e w3 ⟨rfl, rfl⟩
  go_wp2
  go_region
  · rw [← HE1.out, ← HE2.out]
    clear hm1
    have h0 := J0.out; have hS := JA.out; have hT := JB.out; have hb := Jb.out; have h := Jh.out
    have hlt1 := hA1
    have hlt2 := hB1
    have hD : w1.heap.size ≤ w1.heap.size ∨ w2.heap.size ≤ w.heap.size := .inl (Nat.le_refl _)
    have hw1 : w.heap.size ≤ w.heap.size := Nat.le_refl _
    have hw2 := hs1
    have hh1 := hs2
    have hh2 : w2.heap.size ≤ w2.heap.size := Nat.le_refl _
    go_wp2
    go_loopw [28] (fun i wr => ∃ j : Nat, i = .int .i64 j ∧ j ≤ R ∧ ∃ ss rs : List Nat, RepF wr w.heap.size w1.heap.size (some ⟨w.heap.size, 0, none⟩) n n ss ∧ ss.map (cn .f32) = listOf n (gS X j) ∧ RepF wr w1.heap.size w2.heap.size (some ⟨w1.heap.size, 0, none⟩) n n rs ∧ rs.map (cn .f32) = listOf n (gR X j) ∧ Below w.heap.size w wr ∧ w2.heap.size ≤ wr.heap.size) (fun i _ => R - (intOf i).toNat)
    case atStart => exact ⟨0, rfl, Nat.zero_le _, _, _, hS, zeros_listOf n, hT, zeros_listOf n, hb, Nat.le_refl _⟩
    case round =>
      clear hS hT hb
      obtain ⟨j, rfl, hj, ss, rs, hS, hSd, hT, hTd, hb, hbs⟩ := hrel
      have HSd := Lib.hid hSd; have HTd := Lib.hid hTd; clear hSd hTd
      by_cases hjR : j < R
      · obtain ⟨wo, hwo⟩ : ∃ wo : World, wo = wr := ⟨_, rfl⟩
        subst hwo
        go_wp2
        go_loopw [32] (fun i wr => ∃ k : Nat, i = .int .i64 k ∧ k ≤ n ∧ ∃ ss rs : List Nat, RepF wr w.heap.size w1.heap.size (some ⟨w.heap.size, 0, none⟩) n n ss ∧ ss.map (cn .f32) = listOf n (stepf k (gS X (j + 1)) (gS X j)) ∧ RepF wr w1.heap.size w2.heap.size (some ⟨w1.heap.size, 0, none⟩) n n rs ∧ rs.map (cn .f32) = listOf n (stepf k (gR X (j + 1)) (gR X j)) ∧ Below w.heap.size w wr ∧ w2.heap.size ≤ wr.heap.size) (fun i _ => n - (intOf i).toNat)
        case atStart => exact ⟨0, rfl, Nat.zero_le _, ss, rs, hS, by rw [stepf_zero]; exact HSd.out, hT, by rw [stepf_zero]; exact HTd.out, hb, hbs⟩
        case round =>
          clear hS hT HSd HTd hb hbs
          obtain ⟨k, rfl, hk, ss, rs, hS, hSd, hT, hTd, hb, hbs⟩ := hrel
          have HSd := Lib.hid hSd; have HTd := Lib.hid hTd; clear hSd hTd
          by_cases hlt : k < n
          · have hkx : k < xs.length := by rw [← HN.out]; exact hlt
            have h1 := h0.below hb
            obtain ⟨b, off, rfl, _, hq⟩ := F32s.spot h1 (k := k) hkx
            have hcx := hq k hkx
            obtain ⟨x, px⟩ : ∃ x, x = xs.getD k 0 := ⟨_, rfl⟩
            rw [← px] at hcx
            have PX := Lib.hid px; clear px hq h1
            obtain ⟨g1', e1, _, hcS, hfS, -⟩ := hS.open (by omega)
            obtain rfl : w.heap.size = g1' := by simpa using e1
            obtain ⟨g2', e2, _, hcT, hfT, -⟩ := hT.open (by omega)
            obtain rfl : w1.heap.size = g2' := by simpa using e2
            have hc1 := hcS k hlt
            have hc2 := hcT k hlt
            have hf1 := hfS k
            have hf2 := hfT k
            obtain ⟨s1, ps⟩ : ∃ x, x = ss.getD k 0 := ⟨_, rfl⟩
            obtain ⟨r1, pr⟩ : ∃ x, x = rs.getD k 0 := ⟨_, rfl⟩
            rw [← ps] at hc1
            rw [← pr] at hc2
            have PS := Lib.hid ps; have PR := Lib.hid pr
            clear ps pr hcS hcT hfS hfT e1 e2
            go_wp2_with fail
            generalize hy : fbits BinOp.add FloatKind.f32 x r1 _ = y
            have hyc : cn .f32 y = fop .add .f32 (X.getD k 0) (gR X j k) := by rw [← hy, cn_fbits, PX.out, ← cn_getD, ← HX.out, PR.out, cn_at HTd.out hlt, stepf_at]
            have hyl : y < 4294967296 := by rw [← hy]; exact fbits_lt _ .f32 _ _ _
            have HY := Lib.hid hyc; clear hyc hy
            refine (impl_BfloatOf y hyl _).mono ?_
            rintro e w3 ⟨bb, rfl, hbb, q2, rfl⟩
            go_wp2
            go_roundw
            case rel =>
              refine ⟨k + 1, by go_num, hlt, _, _, RepF.setAt (((hS.below (below_drewN (Below.refl _ _) _)).touch (Touch.setCell (lo := w1.heap.size) (hi := w2.heap.size) (Nat.le_refl _) hlt2) hD).below (below_drewN (Below.refl _ _) _)) k _ (fbits_lt _ .f32 _ _ _) (by omega), set_listOf HSd.out ?_, ((RepF.setAt (hT.below (below_drewN (Below.refl _ _) _)) k _ (fbits_lt _ .f32 _ _ _) (by omega)).below (below_drewN (Below.refl _ _) _)).touch (Touch.setCell (lo := w.heap.size) (hi := w1.heap.size) (Nat.le_refl _) hlt1) hD.symm, set_listOf HTd.out ?_, (below_drewN ((below_drewN hb _).setCell hw2 _) _).setCell hw1 _, by simpa [World.setCell] using hbs⟩
              · rw [cn_fbits, PS.out, cn_at HSd.out hlt, stepf_at, hbb.out.1, HY.out]; rfl
              · rw [cn_fbits, hbb.out.1, HY.out]; rfl
            case measure => simp [intOf]; omega
          · have hkn : k = n := by omega
            subst hkn
            go_wp2
            go_roundw
            case rel => exact ⟨j + 1, by go_num, hjR, ss, rs, hS, by rw [HSd.out, listOf_done], hT, by rw [HTd.out, listOf_done], hb, hbs⟩
            case measure => simp [intOf]; omega
      · have hjn : j = R := by omega
        subst hjn
        go_wp2
        go_ret3
        exact ⟨_, _, _, ss, _, _, _, rs, w.heap.size, w1.heap.size, w1.heap.size, w2.heap.size, rfl, hS, HSd.out, by omega, hT, HTd.out, by omega, Lib.hid ⟨hw1, Nat.le_trans hh1 hbs, hw2, Nat.le_trans hh2 hbs, hD⟩, hb⟩
  · rw [← HE1.out, ← HE2.out]
    clear hm1
    have h0 := J0.out; have hS := JB.out; have hT := JA.out; have hb := Jb.out; have h := Jh.out
    have hlt1 := hB1
    have hlt2 := hA1
    have hD : w2.heap.size ≤ w.heap.size ∨ w1.heap.size ≤ w1.heap.size := .inr (Nat.le_refl _)
    have hw2 : w.heap.size ≤ w.heap.size := Nat.le_refl _
    have hw1 := hs1
    have hh2 := hs2
    have hh1 : w2.heap.size ≤ w2.heap.size := Nat.le_refl _
    go_wp2
    go_loopw [28] (fun i wr => ∃ j : Nat, i = .int .i64 j ∧ j ≤ R ∧ ∃ ss rs : List Nat, RepF wr w1.heap.size w2.heap.size (some ⟨w1.heap.size, 0, none⟩) n n ss ∧ ss.map (cn .f32) = listOf n (gS X j) ∧ RepF wr w.heap.size w1.heap.size (some ⟨w.heap.size, 0, none⟩) n n rs ∧ rs.map (cn .f32) = listOf n (gR X j) ∧ Below w.heap.size w wr ∧ w2.heap.size ≤ wr.heap.size) (fun i _ => R - (intOf i).toNat)
    case atStart => exact ⟨0, rfl, Nat.zero_le _, _, _, hS, zeros_listOf n, hT, zeros_listOf n, hb, Nat.le_refl _⟩
    case round =>
      clear hS hT hb
      obtain ⟨j, rfl, hj, ss, rs, hS, hSd, hT, hTd, hb, hbs⟩ := hrel
      have HSd := Lib.hid hSd; have HTd := Lib.hid hTd; clear hSd hTd
      by_cases hjR : j < R
      · obtain ⟨wo, hwo⟩ : ∃ wo : World, wo = wr := ⟨_, rfl⟩
        subst hwo
        go_wp2
        go_loopw [32] (fun i wr => ∃ k : Nat, i = .int .i64 k ∧ k ≤ n ∧ ∃ ss rs : List Nat, RepF wr w1.heap.size w2.heap.size (some ⟨w1.heap.size, 0, none⟩) n n ss ∧ ss.map (cn .f32) = listOf n (stepf k (gS X (j + 1)) (gS X j)) ∧ RepF wr w.heap.size w1.heap.size (some ⟨w.heap.size, 0, none⟩) n n rs ∧ rs.map (cn .f32) = listOf n (stepf k (gR X (j + 1)) (gR X j)) ∧ Below w.heap.size w wr ∧ w2.heap.size ≤ wr.heap.size) (fun i _ => n - (intOf i).toNat)
        case atStart => exact ⟨0, rfl, Nat.zero_le _, ss, rs, hS, by rw [stepf_zero]; exact HSd.out, hT, by rw [stepf_zero]; exact HTd.out, hb, hbs⟩
        case round =>
          clear hS hT HSd HTd hb hbs
          obtain ⟨k, rfl, hk, ss, rs, hS, hSd, hT, hTd, hb, hbs⟩ := hrel
          have HSd := Lib.hid hSd; have HTd := Lib.hid hTd; clear hSd hTd
          by_cases hlt : k < n
          · have hkx : k < xs.length := by rw [← HN.out]; exact hlt
            have h1 := h0.below hb
            obtain ⟨b, off, rfl, _, hq⟩ := F32s.spot h1 (k := k) hkx
            have hcx := hq k hkx
            obtain ⟨x, px⟩ : ∃ x, x = xs.getD k 0 := ⟨_, rfl⟩
            rw [← px] at hcx
            have PX := Lib.hid px; clear px hq h1
            obtain ⟨g1', e1, _, hcS, hfS, -⟩ := hS.open (by omega)
            obtain rfl : w1.heap.size = g1' := by simpa using e1
            obtain ⟨g2', e2, _, hcT, hfT, -⟩ := hT.open (by omega)
            obtain rfl : w.heap.size = g2' := by simpa using e2
            have hc1 := hcS k hlt
            have hc2 := hcT k hlt
            have hf1 := hfS k
            have hf2 := hfT k
            obtain ⟨s1, ps⟩ : ∃ x, x = ss.getD k 0 := ⟨_, rfl⟩
            obtain ⟨r1, pr⟩ : ∃ x, x = rs.getD k 0 := ⟨_, rfl⟩
            rw [← ps] at hc1
            rw [← pr] at hc2
            have PS := Lib.hid ps; have PR := Lib.hid pr
            clear ps pr hcS hcT hfS hfT e1 e2
            go_wp2_with fail
            generalize hy : fbits BinOp.add FloatKind.f32 x r1 _ = y
            have hyc : cn .f32 y = fop .add .f32 (X.getD k 0) (gR X j k) := by rw [← hy, cn_fbits, PX.out, ← cn_getD, ← HX.out, PR.out, cn_at HTd.out hlt, stepf_at]
            have hyl : y < 4294967296 := by rw [← hy]; exact fbits_lt _ .f32 _ _ _
            have HY := Lib.hid hyc; clear hyc hy
            refine (impl_BfloatOf y hyl _).mono ?_
            rintro e w3 ⟨bb, rfl, hbb, q2, rfl⟩
            go_wp2
            go_roundw
            case rel =>
              refine ⟨k + 1, by go_num, hlt, _, _, RepF.setAt (((hS.below (below_drewN (Below.refl _ _) _)).touch (Touch.setCell (lo := w.heap.size) (hi := w1.heap.size) (Nat.le_refl _) hlt2) hD).below (below_drewN (Below.refl _ _) _)) k _ (fbits_lt _ .f32 _ _ _) (by omega), set_listOf HSd.out ?_, ((RepF.setAt (hT.below (below_drewN (Below.refl _ _) _)) k _ (fbits_lt _ .f32 _ _ _) (by omega)).below (below_drewN (Below.refl _ _) _)).touch (Touch.setCell (lo := w1.heap.size) (hi := w2.heap.size) (Nat.le_refl _) hlt1) hD.symm, set_listOf HTd.out ?_, (below_drewN ((below_drewN hb _).setCell hw2 _) _).setCell hw1 _, by simpa [World.setCell] using hbs⟩
              · rw [cn_fbits, PS.out, cn_at HSd.out hlt, stepf_at, hbb.out.1, HY.out]; rfl
              · rw [cn_fbits, hbb.out.1, HY.out]; rfl
            case measure => simp [intOf]; omega
          · have hkn : k = n := by omega
            subst hkn
            go_wp2
            go_roundw
            case rel => exact ⟨j + 1, by go_num, hjR, ss, rs, hS, by rw [HSd.out, listOf_done], hT, by rw [HTd.out, listOf_done], hb, hbs⟩
            case measure => simp [intOf]; omega
      · have hjn : j = R := by omega
        subst hjn
        go_wp2
        go_ret3
        exact ⟨_, _, _, ss, _, _, _, rs, w1.heap.size, w2.heap.size, w.heap.size, w1.heap.size, rfl, hS, HSd.out, by omega, hT, HTd.out, by omega, Lib.hid ⟨hw1, Nat.le_trans hh1 hbs, hw2, Nat.le_trans hh2 hbs, hD⟩, hb⟩
def gatOk (n : Nat) (r : Int) : Bool := decide (n ≤ 256) && inB r 0 20
theorem impl_GatherRounding_no (w : World) (ad : Option Addr) (cap n : Nat) (rounds : Int) (hm : n ≤ maxLen) (hok : gatOk n rounds = false) :
    Calls Try.prog 43 #[.slice ad n cap, .int .i64 rounds] w fun e w' => e = .returned (.tuple #[.slice none 0 0, .slice none 0 0, .bool false]) ∧ w = w' := by
  unfold maxLen at hm
  unfold gatOk at hok
  by_cases hn : n ≤ 256
  · have hf : decide (n ≤ 256) = true := decide_eq_true hn
    have hi : inB rounds 0 20 = false := by simpa [hn] using hok
    clear hok
    go_enter Try.func43, Try.ntmps43
    go_wp2_with fail
    refine (within_any _ _ _ _).mono ?_
    rintro e w2 ⟨rfl, rfl⟩
    go_wp2
    go_ret3
    exact ⟨rfl, rfl⟩
  · have hf : decide (n ≤ 256) = false := decide_eq_false hn
    clear hok
    go_enter Try.func43, Try.ntmps43
    go_wp2
    go_ret3
    exact ⟨rfl, rfl⟩
theorem impl_GatherRounding (w : World) (ad : Option Addr) (cap : Nat) (xs : List Nat) (h : F32s w ad cap xs) (rounds : Int) :
    Calls Try.prog 43 #[.slice ad xs.length cap, .int .i64 rounds] w fun e w' => ∃ (a1 : Option Addr) (n1 c1 : Nat) (ss : List Nat) (lo1 hi1 : Nat) (a2 : Option Addr) (n2 c2 : Nat) (rs : List Nat) (lo2 hi2 : Nat) (b : Bool), e = .returned (.tuple #[.slice a1 n1 c1, .slice a2 n2 c2, .bool b]) ∧
      RepF w' lo1 hi1 a1 n1 c1 ss ∧ ss.map (cn .f32) = (if gatOk xs.length rounds = true then listOf xs.length (gS (xs.map (cn .f32)) rounds.toNat) else []) ∧ n1 ≤ 1048576 ∧ Hid (w.heap.size ≤ lo1 ∧ hi1 ≤ w'.heap.size) ∧
      RepF w' lo2 hi2 a2 n2 c2 rs ∧ rs.map (cn .f32) = (if gatOk xs.length rounds = true then listOf xs.length (gR (xs.map (cn .f32)) rounds.toNat) else []) ∧ n2 ≤ 1048576 ∧ Hid (w.heap.size ≤ lo2 ∧ hi2 ≤ w'.heap.size) ∧ b = gatOk xs.length rounds ∧ Hid (hi1 ≤ lo2 ∨ hi2 ≤ lo1) ∧ Below w.heap.size w w' := by
  cases hok : gatOk xs.length rounds
  · refine (impl_GatherRounding_no w ad cap xs.length rounds (Nat.le_trans h.len h.cap) hok).mono fun e w' ⟨he, hw⟩ => ?_
    subst hw
    exact ⟨none, 0, 0, [], w.heap.size, w.heap.size, none, 0, 0, [], w.heap.size, w.heap.size, false, he, RepF.nil _ _ _, rfl, by omega, Lib.hid ⟨Nat.le_refl _, Nat.le_refl _⟩, RepF.nil _ _ _, rfl, by omega, Lib.hid ⟨Nat.le_refl _, Nat.le_refl _⟩, rfl, Lib.hid (.inl (Nat.le_refl _)), Below.refl _ _⟩
  · simp only [gatOk, Bool.and_eq_true, decide_eq_true_eq] at hok
    refine (impl_GatherRounding_yes w ad cap xs h rounds hok.1 hok.2).mono fun e w' ⟨a1, n1, c1, ss, a2, n2, c2, rs, lo1, hi1, lo2, hi2, he, h1, h2, h3, h4, h5, h6, h7, h8⟩ => ?_
    exact ⟨a1, n1, c1, ss, lo1, hi1, a2, n2, c2, rs, lo2, hi2, true, he, h1, by rw [if_pos rfl]; exact h2, h3, Lib.hid ⟨h7.out.1, h7.out.2.1⟩, h4, by rw [if_pos rfl]; exact h5, h6, Lib.hid ⟨h7.out.2.2.1, h7.out.2.2.2.1⟩, rfl, Lib.hid h7.out.2.2.2.2, h8⟩
end Go.Proofs.Ytnnefcakfaifmaa
