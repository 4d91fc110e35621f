/- What sums and dots of lists are. No condition. -/
import Derived.Test.YtaocilimggpdjaaSup
import Derived.Deep.QuietTactic
import Derived.BigQuiet
namespace Go.Proofs.Ytaocilimggpdjaa
open Go Go.RowKit Ieee
set_option linter.unusedVariables false
set_option linter.unusedSimpArgs false
def VS (c : Nat) (v : Value) : Prop := ∃ r, v = .float .f32 r ∧ cn .f32 r = c
theorem F32s.cut {w : World} {g off cap : Nat} {xs : List Nat} (h : F32s w (some ⟨g, off, none⟩) cap xs) (m : Nat) (hm : m ≤ xs.length) : F32s w (some ⟨g, off, none⟩) cap (xs.take m) ∧ F32s w (some ⟨g, off + m, none⟩) (cap - m) (xs.drop m) := by
  have h1 := h.len; have h2 := h.cap
  refine ⟨⟨by simp; omega, h2, ?_, fun x hx => h.lt x (List.mem_of_mem_take hx)⟩, ⟨by simp; omega, by omega, ?_, fun x hx => h.lt x (List.mem_of_mem_drop hx)⟩⟩
  · rcases h.rd with h3 | ⟨b, o, e, hb, hc⟩
    · left; rw [List.map_take, h3]; simp
    · right
      refine ⟨b, o, e, hb, fun j hj => ?_⟩
      simp only [List.length_map, List.length_take] at hj
      rw [hc j (by simp; omega), List.map_take, List.getElem?_take, if_pos (by omega)]
  · rcases h.rd with h3 | ⟨b, o, e, hb, hc⟩
    · left; rw [List.map_drop, h3]; simp
    · right
      cases e
      refine ⟨g, off + m, rfl, hb, fun j hj => ?_⟩
      simp only [List.length_map, List.length_drop] at hj
      rw [Nat.add_assoc, hc (m + j) (by simp; omega), List.map_drop, List.getElem?_drop]
set_option maxRecDepth 100000 in
set_option maxHeartbeats 2000000 in
theorem impl_sumPairs : ∀ (n : Nat), n ≤ 256 → ∀ (w : World) (ad : Option Addr) (cap : Nat) (xs : List Nat), F32s w ad cap xs → xs.length = n →
    Calls Try.prog 118 #[.slice ad n cap] w fun e w' => ∃ r, e = .returned (.float .f32 r) ∧ Hid (cn .f32 r = pairE (xs.map (cn .f32)) ∧ r < 4294967296) ∧ Dr w w' := by
  intro n
  induction n using Nat.strongRecOn with
  | ind n ih =>
    intro hn w ad cap xs h hl
    by_cases h0 : n = 0
    · subst h0
      have hx : xs = [] := List.eq_nil_of_length_eq_zero hl
      subst hx
      rw [show pairE ([].map (cn .f32)) = 0 by rw [pairE_few (by simp)]; rfl]
      clear ih h hl
      go_enter Try.func118, Try.ntmps118
      go_wp2
      go_ret
      exact ⟨0, rfl, Lib.hid ⟨cn_zero, by decide⟩, Dr.refl _⟩
    by_cases h1 : n = 1
    · subst h1
      obtain ⟨b, off, rfl, _, hc⟩ := h.spot (k := 0) (by omega)
      have hc0 := hc 0 (by omega)
      rw [Nat.add_zero] at hc0
      have hlt := h.lt (xs.getD 0 0) (by rw [List.getD_eq_getElem?_getD, List.getElem?_eq_getElem (by omega)]; exact List.getElem_mem _)
      have hp : pairE (xs.map (cn .f32)) = cn .f32 (xs.getD 0 0) := by rw [pairE_few (by simp; omega), cn_getD]
      rw [hp]
      obtain ⟨x, hx⟩ : ∃ x, x = xs.getD 0 0 := ⟨_, rfl⟩
      rw [← hx] at hc0 hlt ⊢
      clear ih h hl hc hx hp
      go_enter Try.func118, Try.ntmps118
      go_wp2
      go_ret
      exact ⟨x, rfl, Lib.hid ⟨rfl, hlt⟩, Dr.refl _⟩
    have m1 := Nat.le_trans h.len h.cap
    have hcap := h.len
    obtain ⟨b, off, rfl, _, _⟩ := h.spot (k := 0) (by omega)
    obtain ⟨m, hm⟩ : ∃ m, m = (n + 1) / 2 := ⟨_, rfl⟩
    have hmi : ((n : Int) + 1) / 2 = m := by omega
    have hm1 : 1 ≤ m := by omega
    have hm2 : m < n := by omega
    obtain ⟨hL, hR⟩ := h.cut m (by omega)
    have kl := fun W (hW : F32s W (some ⟨b, off, none⟩) cap (xs.take m)) => ih m hm2 (by omega) W _ _ _ hW (by simp; omega)
    have kr := fun W (hW : F32s W (some ⟨b, off + m, none⟩) (cap - m) (xs.drop m)) => ih (n - m) (by omega) (by omega) W _ _ _ hW (by simp; omega)
    have hp : pairE (xs.map (cn .f32)) = fop .add .f32 (pairE ((xs.take m).map (cn .f32))) (pairE ((xs.drop m).map (cn .f32))) := by
      rw [pairE_many (by simp; omega), List.length_map, hl, ← hm, List.map_take, List.map_drop]
    rw [hp]
    obtain ⟨p1, hp1⟩ : ∃ p, p = pairE ((xs.take m).map (cn .f32)) := ⟨_, rfl⟩
    obtain ⟨p2, hp2⟩ : ∃ p, p = pairE ((xs.drop m).map (cn .f32)) := ⟨_, rfl⟩
    rw [← hp1] at kl; rw [← hp2] at kr; rw [← hp1, ← hp2]
    have KL := Lib.hid kl; have KR := Lib.hid kr; have HL := Lib.hid hL; have HR := Lib.hid hR
    have hcm : m ≤ cap := by omega
    have hmn : m ≤ n := by omega
    have hne : ¬ cap = m := by omega
    have hnc : n ≤ cap := by omega
    have n0 : ((n : Int) == 0) = false := by simp; omega
    have n1 : ((n : Int) == 1) = false := by simp; omega
    unfold maxLen at m1
    clear ih h hl hL hR kl kr hp hp1 hp2 hm
    go_enter Try.func118, Try.ntmps118
    go_wp2
    refine wp_region_drawn (fun f args u => (args = #[.slice (some ⟨b, off, none⟩) m cap] → VS p1 u) ∧ (args = #[.slice (some ⟨b, off + m, none⟩) (n - m) (cap - m)] → VS p2 u)) (by kernel_rfl) (by kernel_rfl) ?_
    iterate 3 (refine wset_step (fun K hK nq => ?_); go_simp; refine hK _ ?_; clear hK K)
    refine wset_step (fun K hK nq => ?_)
    go_simp
    refine ⟨(KL.out _ (HL.out.below (below_drewN (Below.refl _ _) _))).mono ?_, ?_⟩
    · rintro e w' ⟨r, rfl, hr, q, rfl⟩
      exact ⟨_, rfl, ⟨_, World.drewN_drewN _ _ _⟩, r, rfl, hr.out.1⟩
    rintro u ⟨r1, rfl, hr1⟩
    have HR1 := Lib.hid hr1
    refine hK _ ?_
    clear hK K hr1
    iterate 3 (refine wset_step (fun K hK nq => ?_); go_simp; refine hK _ ?_; clear hK K)
    refine wset_step (fun K hK nq => ?_)
    go_simp
    refine ⟨(KR.out _ (HR.out.below (below_drewN (Below.refl _ _) _))).mono ?_, ?_⟩
    · rintro e w' ⟨r, rfl, hr, q, rfl⟩
      exact ⟨_, rfl, ⟨_, World.drewN_drewN _ _ _⟩, r, rfl, hr.out.1⟩
    rintro u ⟨r2, rfl, hr2⟩
    have HR2 := Lib.hid hr2
    refine hK _ ?_
    clear hK K hr2
    repeat (refine wset_step (fun K hK nq => ?_); go_simp; refine hK _ ?_; clear hK K)
    generalize ht : fbits BinOp.add FloatKind.f32 r1 r2 _ = t
    have htc : cn .f32 t = fop .add .f32 p1 p2 ∧ t < 4294967296 := by
      rw [← ht]; exact ⟨by rw [cn_fbits, HR1.out, HR2.out], fbits_lt _ .f32 _ _ _⟩
    have HT := Lib.hid htc
    clear ht htc
    refine wset_nil ?_
    rintro w' ⟨q, rfl⟩
    go_wp2
    go_ret
    exact ⟨t, rfl, HT, ⟨q, rfl⟩⟩
theorem impl_SumPairs (w : World) (ad : Option Addr) (cap : Nat) (xs : List Nat) (h : F32s w ad cap xs) (n : Nat) (hl : xs.length = n) (hn : n ≤ 256) :
    Calls Try.prog 56 #[.slice ad n cap] w fun e w' => ∃ r, e = .returned (.tuple #[.float .f32 r, .bool true]) ∧ Hid (cn .f32 r = pairE (xs.map (cn .f32)) ∧ r < 4294967296) ∧ Dr w w' := by
  have k := impl_sumPairs n hn w ad cap xs h hl
  have K1 := Lib.hid k
  clear k h
  have hn2 : (n : Int) ≤ 256 := by omega
  go_enter Try.func56, Try.ntmps56
  go_wp2_with fail
  refine K1.out.mono ?_
  rintro e w1 ⟨r, rfl, hr, hd⟩
  have HD := Lib.hid hd
  clear hd
  go_wp2
  go_ret2
  exact ⟨r, rfl, hr, HD.out⟩
theorem impl_SumNumbers (w : World) (ad : Option Addr) (cap : Nat) (xs : List Nat) (h : F32s w ad cap xs) (n : Nat) (hl : xs.length = n) (hn : n ≤ 256) :
    Calls Try.prog 54 #[.slice ad n cap] w fun e w' => ∃ r, e = .returned (.tuple #[.float .f32 r, .bool true]) ∧ Hid (cn .f32 r = sumS (xs.map (cn .f32)) n ∧ r < 4294967296) ∧ Dr w w' := by
  have k := impl_sumOf w ad cap xs h
  rw [hl] at k
  have K1 := Lib.hid k
  clear k h
  have hn2 : (n : Int) ≤ 256 := by omega
  go_enter Try.func54, Try.ntmps54
  go_wp2_with fail
  refine K1.out.mono ?_
  rintro e w1 ⟨r, rfl, hr, hd⟩
  have HD := Lib.hid hd
  clear hd
  go_wp2
  go_ret2
  exact ⟨r, rfl, hr, HD.out⟩
theorem impl_DotNumbers (w : World) (a1 : Option Addr) (c1 : Nat) (xs : List Nat) (h1 : F32s w a1 c1 xs) (a2 : Option Addr) (c2 : Nat) (ys : List Nat) (h2 : F32s w a2 c2 ys) (n : Nat) (hl1 : xs.length = n) (hl2 : ys.length = n) (hn : n ≤ 256) :
    Calls Try.prog 55 #[.slice a1 n c1, .slice a2 n c2] w fun e w' => ∃ r, e = .returned (.tuple #[.float .f32 r, .bool true]) ∧ Hid (cn .f32 r = dotS (xs.map (cn .f32)) (ys.map (cn .f32)) n ∧ r < 4294967296) ∧ Dr w w' := by
  have k := impl_dot w a1 c1 xs h1 a2 c2 ys h2 (hl1.trans hl2.symm)
  rw [hl1, hl2] at k
  have K1 := Lib.hid k
  clear k h1 h2
  have hn2 : (n : Int) ≤ 256 := by omega
  go_enter Try.func55, Try.ntmps55
  go_wp2_with fail
  refine K1.out.mono ?_
  rintro e w1 ⟨r, rfl, hr, hd⟩
  have HD := Lib.hid hd
  clear hd
  go_wp2
  go_ret2
  exact ⟨r, rfl, hr, HD.out⟩
set_option maxRecDepth 100000 in
theorem impl_SumCarried (w : World) (ad : Option Addr) (cap : Nat) (xs : List Nat) (h : F32s w ad cap xs) (n : Nat) (hl : xs.length = n) (hn : n ≤ 256) :
    Calls Try.prog 58 #[.slice ad n cap] w fun e w' => ∃ r, e = .returned (.tuple #[.float .f32 r, .bool true]) ∧ Hid (cn .f32 r = (carS (xs.map (cn .f32)) n).1 ∧ r < 4294967296) ∧ Dr w w' := by
  obtain ⟨X, hX⟩ : ∃ X, X = xs.map (cn .f32) := ⟨_, rfl⟩
  rw [← hX]
  have HX := Lib.hid hX; have HL := Lib.hid hl; have H := Lib.hid h
  clear hX hl h
  have hn2 : (n : Int) ≤ 256 := by omega
  go_enter Try.func58, Try.ntmps58
  go_wp2
  go_loopw [4, 5, 15] (fun sv cv i wr => ∃ k : Nat, i = .int .i64 k ∧ k ≤ n ∧ ∃ s c : Nat, sv = .float .f32 s ∧ cv = .float .f32 c ∧ Hid (cn .f32 s = (carS X k).1 ∧ s < 4294967296 ∧ cn .f32 c = (carS X k).2) ∧ Dr w wr) (fun _ _ i _ => n - (intOf i).toNat)
  case atStart => exact ⟨0, rfl, Nat.zero_le _, 0, 0, rfl, rfl, Lib.hid ⟨cn_zero, by decide, cn_zero⟩, Dr.refl _⟩
  case round =>
    obtain ⟨k, rfl, hk, s, c, rfl, rfl, HS, hd⟩ := hrel
    have HD := Lib.hid hd
    have h1 := H.out.below hd.below
    clear hd
    by_cases hlt : k < n
    · obtain ⟨b, off, rfl, _, hc⟩ := h1.spot (k := k) (by rw [HL.out]; exact hlt)
      have hck := hc k (by rw [HL.out]; exact hlt)
      obtain ⟨x, hx⟩ : ∃ x, x = xs.getD k 0 := ⟨_, rfl⟩
      rw [← hx] at hck
      have HXX := Lib.hid (show cn .f32 x = X.getD k 0 by rw [hx, HX.out, cn_getD])
      clear hx hc h1
      go_wp2
      go_roundw
      case rel =>
        refine ⟨k + 1, by go_num, hlt, _, _, rfl, rfl, Lib.hid ⟨?_, fbits_lt _ .f32 _ _ _, ?_⟩, HD.out.drewN _⟩
        · rw [cn_fbits, cn_fbits, HS.out.1, HS.out.2.2, HXX.out]; rfl
        · simp only [cn_fbits]
          rw [HS.out.1, HS.out.2.2, HXX.out]; rfl
      case measure => simp [intOf]; omega
    · have hkn : k = n := by omega
      subst hkn
      go_wp2
      go_ret2
      exact ⟨s, rfl, Lib.hid ⟨HS.out.1, HS.out.2.1⟩, HD.out⟩
set_option maxRecDepth 100000 in
theorem impl_DotWide (w : World) (a1 : Option Addr) (c1 : Nat) (xs : List Nat) (h1 : F32s w a1 c1 xs) (a2 : Option Addr) (c2 : Nat) (ys : List Nat) (h2 : F32s w a2 c2 ys) (n : Nat) (hl1 : xs.length = n) (hl2 : ys.length = n) (hn : n ≤ 256) (hw : cvWide .f64 (widS (xs.map (cn .f32)) (ys.map (cn .f32)) n) .f32 = false) :
    Calls Try.prog 59 #[.slice a1 n c1, .slice a2 n c2] w fun e w' => ∃ r, e = .returned (.tuple #[.float .f32 r, .bool true]) ∧ Hid (cn .f32 r = fcv .f64 (widS (xs.map (cn .f32)) (ys.map (cn .f32)) n) .f32 ∧ r < 4294967296) ∧ Dr w w' := by
  obtain ⟨X, hX⟩ : ∃ X, X = xs.map (cn .f32) := ⟨_, rfl⟩
  obtain ⟨Y, hY⟩ : ∃ X, X = ys.map (cn .f32) := ⟨_, rfl⟩
  rw [← hX, ← hY] at hw ⊢
  have fin : ∀ s w, cn .f64 s = widS X Y n → cn .f32 (cvbits .f64 s .f32 w) = fcv .f64 (widS X Y n) .f32 ∧ cvbits .f64 s .f32 w < 4294967296 := by
    intro s w h
    have h2 := hw
    rw [← h, cvWide_cn] at h2
    exact ⟨by rw [cn_cvbits w h2, h], cv_lt32 w h2⟩
  have HX := Lib.hid hX; have HY := Lib.hid hY; have HL1 := Lib.hid hl1; have HL2 := Lib.hid hl2; have H1 := Lib.hid h1; have H2 := Lib.hid h2; have FI := Lib.hid fin
  clear hX hY hl1 hl2 h1 h2 fin hw
  have hn2 : (n : Int) ≤ 256 := by omega
  go_enter Try.func59, Try.ntmps59
  go_wp2
  go_loopw [6, 20] (fun sv i wr => ∃ k : Nat, i = .int .i64 k ∧ k ≤ n ∧ ∃ s : Nat, sv = .float .f64 s ∧ Hid (cn .f64 s = widS X Y k) ∧ Dr w wr) (fun _ i _ => n - (intOf i).toNat)
  case atStart => exact ⟨0, rfl, Nat.zero_le _, 0, rfl, Lib.hid (show cn .f64 0 = 0 by decide +kernel), Dr.refl _⟩
  case round =>
    obtain ⟨k, rfl, hk, s, rfl, HS, hd⟩ := hrel
    have HD := Lib.hid hd
    have h1 := H1.out.below hd.below
    have h2 := H2.out.below hd.below
    clear hd
    by_cases hlt : k < n
    · obtain ⟨b, off, rfl, _, hc⟩ := h1.spot (k := k) (by rw [HL1.out]; exact hlt)
      obtain ⟨b', off', rfl, _, hc'⟩ := h2.spot (k := k) (by rw [HL2.out]; exact hlt)
      have hck := hc k (by rw [HL1.out]; exact hlt)
      have hck' := hc' k (by rw [HL2.out]; exact hlt)
      obtain ⟨x, hx⟩ : ∃ x, x = xs.getD k 0 := ⟨_, rfl⟩
      obtain ⟨y, hy⟩ : ∃ x, x = ys.getD k 0 := ⟨_, rfl⟩
      rw [← hx] at hck
      rw [← hy] at hck'
      have HXX := Lib.hid (show cn .f32 x = X.getD k 0 by rw [hx, HX.out, cn_getD])
      have HYY := Lib.hid (show cn .f32 y = Y.getD k 0 by rw [hy, HY.out, cn_getD])
      clear hx hy hc hc' h1 h2
      go_wp2
      refine wp_region_drawn (fun f args u => False) (by kernel_rfl) (by kernel_rfl) ?_
      repeat (refine wset_step (fun K hK nq => ?_); go_simp; refine hK _ ?_; clear hK K)
      generalize ht : fbits BinOp.add FloatKind.f64 s (fbits BinOp.mul FloatKind.f64 (cvbits FloatKind.f32 x FloatKind.f64 _) (cvbits FloatKind.f32 y FloatKind.f64 _) _) _ = t
      have htc : cn .f64 t = widS X Y (k + 1) := by
        rw [← ht, cn_fbits, cn_fbits, cn_wide, cn_wide, HS.out, HXX.out, HYY.out]; rfl
      have HT := Lib.hid htc
      clear ht htc
      refine wset_nil ?_
      rintro w' ⟨q, rfl⟩
      go_wp2
      go_roundw
      case rel => exact ⟨k + 1, by go_num, hlt, _, rfl, HT, HD.out.drewN _⟩
      case measure => simp [intOf]; omega
    · have hkn : k = n := by omega
      subst hkn
      go_wp2
      go_ret2
      exact ⟨_, rfl, Lib.hid (FI.out _ _ HS.out), HD.out.drewN _⟩
end Go.Proofs.Ytaocilimggpdjaa
