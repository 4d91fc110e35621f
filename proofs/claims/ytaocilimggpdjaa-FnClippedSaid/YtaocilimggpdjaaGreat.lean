/- What the index of the greatest number, and of the best step, are. No condition. -/
import Derived.Test.YtaocilimggpdjaaSli
namespace Go.Proofs.Ytaocilimggpdjaa
open Go Go.RowKit
set_option linter.unusedVariables false
def gtF (a b : Nat) : Bool := FloatKind.f32.format.order a b == some .gt
def ltF (a b : Nat) : Bool := FloatKind.f32.format.order a b == some .lt
theorem gtF_self (a : Nat) : gtF a a = false := by unfold gtF; rw [order_self]; split <;> rfl
/-- the first of the first k numbers that none behind it is greater than, on the way -/
def gBest (xs : List Nat) : Nat → Nat
  | 0 => 0
  | k + 1 => if gtF (xs.getD k 0) (xs.getD (gBest xs k) 0) = true then k else gBest xs k
theorem gBest_one (xs : List Nat) : gBest xs 1 = 0 := by simp [gBest]
theorem gBest_le (xs : List Nat) : ∀ k, gBest xs k ≤ k - 1
  | 0 => Nat.le_refl _
  | k + 1 => by
    have := gBest_le xs k
    unfold gBest
    split <;> omega
def bStep (xs : List Nat) : Nat → Int
  | 0 => -1
  | k + 1 => if isN .f32 (xs.getD k 0) = false ∧ (bStep xs k < 0 ∨ ltF (xs.getD k 0) (xs.getD (bStep xs k).toNat 0) = true) then k else bStep xs k
theorem bStep_bd (xs : List Nat) : ∀ k : Nat, -1 ≤ bStep xs k ∧ bStep xs k < k
  | 0 => by simp [bStep]
  | k + 1 => by
    have := bStep_bd xs k
    unfold bStep
    split <;> omega
theorem impl_greatestOf (w : World) (ad : Option Addr) (cap : Nat) (xs : List Nat) (h : F32s w ad cap xs) (hn : xs.length ≤ 1048576) (hp : 1 ≤ xs.length) :
    Calls Try.prog 123 #[.slice ad xs.length cap] w fun e w' => e = .returned (.int .i64 (gBest xs xs.length)) ∧ w = w' := by
  obtain ⟨n, hN⟩ : ∃ n, n = xs.length := ⟨_, rfl⟩
  rw [← hN] at hn hp ⊢
  have HN := Lib.hid hN; clear hN
  go_enter Try.func123, Try.ntmps123
  go_wp2
  go_loop [3, 8] (fun q i => ∃ k g : Nat, i = .int .i64 k ∧ k ≤ n ∧ q = .int .i64 g ∧ g = gBest xs k) (fun _ i => n - (intOf i).toNat)
  case atStart => exact ⟨0, 0, rfl, Nat.zero_le _, rfl, rfl⟩
  case round =>
    obtain ⟨k, g, rfl, hk, rfl, hg⟩ := hrel
    have hgl : g ≤ k - 1 := by rw [hg]; exact gBest_le xs k
    have HG := Lib.hid hg; clear hg
    by_cases hlt : k < n
    · have hkx : k < xs.length := by rw [← HN.out]; exact hlt
      obtain ⟨b, off, rfl, _, hc⟩ := h.spot (k := k) hkx
      have hc1 := hc k hkx
      have hc2 := hc g (by omega)
      have hgn : g < n := by omega
      obtain ⟨x, hx⟩ : ∃ x, x = xs.getD k 0 := ⟨_, rfl⟩
      obtain ⟨y, hy⟩ : ∃ y, y = xs.getD g 0 := ⟨_, rfl⟩
      rw [← hx] at hc1
      rw [← hy] at hc2
      have HX := Lib.hid hx; have HY := Lib.hid hy; clear hx hy hc
      cases ho : (FloatKind.f32.format.order x y == some .gt)
      · have HO := Lib.hid ho
        go_wp2
        go_round
        case rel => exact ⟨k + 1, g, by go_num, hlt, rfl, by unfold gBest; rw [if_neg (by rw [← HG.out, ← HX.out, ← HY.out, gtF, HO.out]; simp)]; exact HG.out⟩
        case measure => simp [intOf]; omega
      · have HO := Lib.hid ho
        go_wp2
        go_round
        case rel => exact ⟨k + 1, k, by go_num, hlt, rfl, by unfold gBest; rw [if_pos (by rw [← HG.out, ← HX.out, ← HY.out, gtF, HO.out])]⟩
        case measure => simp [intOf]; omega
    · have hkn : k = n := by omega
      subst hkn
      go_wp2
      go_ret
      exact ⟨by rw [HG.out]; rfl, rfl⟩
theorem impl_GreatestOf_ (w : World) (ad : Option Addr) (cap : Nat) (xs : List Nat) (h : F32s w ad cap xs) (v : Int) (b : Bool) (hv : Hid (v = (if 1 ≤ xs.length ∧ xs.length ≤ 256 then (gBest xs xs.length : Int) else 0))) (hb : Hid (b = decide (1 ≤ xs.length ∧ xs.length ≤ 256))) :
    Calls Try.prog 67 #[.slice ad xs.length cap] w fun e w' => e = .returned (.tuple #[.int .i64 v, .bool b]) ∧ Below w.heap.size w w' := by
  have hm := Nat.le_trans h.len h.cap
  unfold maxLen at hm
  by_cases h1 : 1 ≤ xs.length
  · by_cases h2 : xs.length ≤ 256
    · have c := fun W hW => impl_greatestOf W ad cap xs hW (by omega) h1
      have C := Lib.hid c; clear c
      go_enter Try.func67, Try.ntmps67
      go_wp2_with fail
      refine (C.out _ h).mono ?_
      rintro e w1 ⟨rfl, rfl⟩
      go_wp2
      go_ret2
      exact ⟨by rw [hv.out, hb.out, if_pos ⟨h1, h2⟩, decide_eq_true (show 1 ≤ xs.length ∧ xs.length ≤ 256 from ⟨h1, h2⟩)]; rfl, Below.refl _ _⟩
    · go_enter Try.func67, Try.ntmps67
      go_wp2
      go_ret2
      exact ⟨by rw [hv.out, hb.out, if_neg (by omega), decide_eq_false (show ¬ (1 ≤ xs.length ∧ xs.length ≤ 256) by omega)]; rfl, Below.refl _ _⟩
  · have h0 : xs.length = 0 := by omega
    go_enter Try.func67, Try.ntmps67
    go_wp2
    go_ret2
    exact ⟨by rw [hv.out, hb.out, if_neg (by omega), decide_eq_false (show ¬ (1 ≤ xs.length ∧ xs.length ≤ 256) by omega)]; rfl, Below.refl _ _⟩
theorem impl_GreatestOf (w : World) (ad : Option Addr) (cap : Nat) (xs : List Nat) (h : F32s w ad cap xs) :
    Calls Try.prog 67 #[.slice ad xs.length cap] w fun e w' => ∃ (v : Int) (b : Bool), e = .returned (.tuple #[.int .i64 v, .bool b]) ∧ v = (if 1 ≤ xs.length ∧ xs.length ≤ 256 then (gBest xs xs.length : Int) else 0) ∧ b = decide (1 ≤ xs.length ∧ xs.length ≤ 256) ∧ Below w.heap.size w w' :=
  (impl_GreatestOf_ w ad cap xs h _ _ rfl rfl).mono fun e w' ⟨he, hb⟩ => ⟨_, _, he, rfl, rfl, hb⟩
theorem spec_l05Greatest (w : World) (ad : Option Addr) (cap : Nat) (xs : List Nat) (h : F32s w ad cap xs) (hn : xs.length ≤ 1048576) (hp : 1 ≤ xs.length) :
    Calls Try.prog 83 #[.slice ad xs.length cap] w fun e w' => e = .returned (.int .i64 (gBest xs xs.length)) ∧ Dr w w' := by
  obtain ⟨n, hN⟩ : ∃ n, n = xs.length := ⟨_, rfl⟩
  rw [← hN] at hn hp ⊢
  have HN := Lib.hid hN; clear hN
  go_enter Try.func83, Try.ntmps83
  go_wp2
  go_loopw [3, 4] (fun q i wr => ∃ k g : Nat, i = .int .i64 k ∧ 1 ≤ k ∧ k ≤ n ∧ q = .int .i64 g ∧ g = gBest xs k ∧ Dr w wr) (fun _ i _ => n - (intOf i).toNat)
  case atStart => exact ⟨1, 0, rfl, Nat.le_refl _, hp, rfl, (gBest_one xs).symm, Dr.refl _⟩
  case round =>
    obtain ⟨k, g, rfl, hk1, hk, rfl, hg, hdr⟩ := hrel
    have hgl : g ≤ k - 1 := by rw [hg]; exact gBest_le xs k
    have HG := Lib.hid hg; clear hg
    have h := h.below hdr.below
    by_cases hlt : k < n
    · have hkx : k < xs.length := by rw [← HN.out]; exact hlt
      obtain ⟨b, off, rfl, _, hc⟩ := h.spot (k := k) hkx
      have hc1 := hc k hkx
      have hc2 := hc g (by omega)
      have hgn : g < n := by omega
      obtain ⟨x, hx⟩ : ∃ x, x = xs.getD k 0 := ⟨_, rfl⟩
      obtain ⟨y, hy⟩ : ∃ y, y = xs.getD g 0 := ⟨_, rfl⟩
      rw [← hx] at hc1
      rw [← hy] at hc2
      have HX := Lib.hid hx; have HY := Lib.hid hy; have HD := Lib.hid hdr; clear hx hy hc hdr h
      cases ho : (FloatKind.f32.format.order x y == some .gt)
      · have HO := Lib.hid ho
        go_wp2
        refine wp_region_drawn (fun f args v => False) (by kernel_rfl) (by kernel_rfl) ?_
        repeat (refine wset_step (fun K hK nq => ?_); go_simp; refine hK _ ?_; clear hK K)
        refine wset_nil ?_
        rintro w' ⟨q, rfl⟩
        go_wp2
        go_roundw
        case rel => exact ⟨k + 1, g, by go_num, by omega, hlt, rfl, by unfold gBest; rw [if_neg (by rw [← HG.out, ← HX.out, ← HY.out, gtF, HO.out]; simp)]; exact HG.out, by obtain ⟨q', hq⟩ := HD.out; exact ⟨_, by rw [hq, World.drewN_drewN]⟩⟩
        case measure => simp [intOf]; omega
      · have HO := Lib.hid ho
        go_wp2
        refine wp_region_drawn (fun f args v => False) (by kernel_rfl) (by kernel_rfl) ?_
        repeat (refine wset_step (fun K hK nq => ?_); go_simp; refine hK _ ?_; clear hK K)
        refine wset_nil ?_
        rintro w' ⟨q, rfl⟩
        go_wp2
        go_roundw
        case rel => exact ⟨k + 1, k, by go_num, by omega, hlt, rfl, by unfold gBest; rw [if_pos (by rw [← HG.out, ← HX.out, ← HY.out, gtF, HO.out])], by obtain ⟨q', hq⟩ := HD.out; exact ⟨_, by rw [hq, World.drewN_drewN]⟩⟩
        case measure => simp [intOf]; omega
    · have hkn : k = n := by omega
      subst hkn
      go_wp2
      go_ret
      exact ⟨by rw [HG.out]; rfl, hdr⟩
end Go.Proofs.Ytaocilimggpdjaa
