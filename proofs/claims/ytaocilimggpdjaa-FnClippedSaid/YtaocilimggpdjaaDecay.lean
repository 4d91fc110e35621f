/- What parameters that become less are. No condition. -/
import Derived.Test.YtaocilimggpdjaaSli
namespace Go.Proofs.Ytaocilimggpdjaa
open Go Go.RowKit
set_option linter.unusedVariables false
def decF (r x : Nat) : Nat := fop .sub .f32 x (fop .mul .f32 r x)
theorem getD_getElem {α : Type} {xs : List α} {k : Nat} {d : α} (h : k < xs.length) : xs.getD k d = xs[k] := by simp [h]
theorem map_take_next {α β : Type} {xs : List α} {ys : List β} {f : α → β} {k : Nat} {y : β} {d : α} (h : ys = (xs.take k).map f) (hk : k < xs.length) (hy : y = f (xs.getD k d)) : ys ++ [y] = (xs.take (k + 1)).map f := by
  rw [List.take_succ_eq_append_getElem hk, List.map_append, ← h, hy, getD_getElem hk]; rfl
theorem impl_DecayParams_no (ad : Option Addr) (cap n : Nat) (r : Nat) (w : World) (hn : 256 < n) (hm : n ≤ maxLen) :
    Calls Try.prog 62 #[.slice ad n cap, .float .f32 r] w fun e w' => e = .returned (.tuple #[.slice none 0 0, .bool false]) ∧ w = w' := by
  unfold maxLen at hm
  go_enter Try.func62, Try.ntmps62
  go_wp2
  go_ret2
  exact ⟨rfl, rfl⟩
set_option maxRecDepth 100000 in
set_option maxHeartbeats 1000000 in
theorem impl_DecayParams_yes (ad : Option Addr) (cap : Nat) (xs : List Nat) (r : Nat) (w : World) (h : F32s w ad cap xs) (hn : xs.length ≤ 256) :
    Calls Try.prog 62 #[.slice ad xs.length cap, .float .f32 r] w fun e w' => ∃ (v : Value) (ys : List Nat), e = .returned (.tuple #[v, .bool true]) ∧
      w'.ownsRow w.heap.size 22 1 v xs.length (ys.map (Value.float .f32)) ∧ ys.map (cn .f32) = (xs.map (cn .f32)).map (decF (cn .f32 r)) ∧ (∀ y ∈ ys, y < 4294967296) ∧ Below w.heap.size w w' := by
  obtain ⟨i0, hi, hz0, hz1, hz2⟩ := info_parts info_f32
  obtain ⟨n, hN⟩ : ∃ n, n = xs.length := ⟨_, rfl⟩
  rw [← hN] at hn ⊢
  have HN := Lib.hid hN; clear hN
  go_enter Try.func62, Try.ntmps62
  go_wp2
  go_loopw [6, 15] (fun v i wr => ∃ k : Nat, i = .int .i64 k ∧ k ≤ n ∧ ∃ ys : List Nat, wr.ownsRow w.heap.size 22 1 v k (ys.map (Value.float .f32)) ∧ ys.length = k ∧ ys.map (cn .f32) = (xs.take k).map (fun x => decF (cn .f32 r) (cn .f32 x)) ∧ (∀ y ∈ ys, y < 4294967296) ∧ Below w.heap.size w wr ∧ w.heap.size ≤ wr.heap.size) (fun _ i _ => n - (intOf i).toNat)
  case atStart => exact ⟨0, rfl, Nat.zero_le _, [], World.ownsRow_made _ _ _ (Nat.le_refl _) (Nat.zero_le _) rfl, rfl, rfl, (fun y hy => nomatch hy), below1 _ _, by simp⟩
  case round =>
    obtain ⟨k, rfl, hk, ys, hown, hyl, hye, hylt, hb, hbs⟩ := hrel
    have HL := Lib.hid hyl; have HE := Lib.hid hye; have HLT := Lib.hid hylt; clear hyl hye hylt
    by_cases hlt : k < n
    · have hkx : k < xs.length := by rw [← HN.out]; exact hlt
      obtain ⟨b, off, rfl, hbl, hc⟩ := h.spot (k := k) hkx
      have hcell : wr.cell? ⟨b, off + k, none⟩ = some (.float .f32 (xs.getD k 0)) := (hb.cell (p := ⟨b, off + k, none⟩) hbl).trans (hc k hkx)
      obtain ⟨x, hx⟩ : ∃ x, x = xs.getD k 0 := ⟨_, rfl⟩
      rw [← hx] at hcell
      have HX := Lib.hid hx; clear hx hc
      go_wp2_with (at_builtin; refine wp_app rfl _ _ 25 rfl w.heap.size i0 (.float .f32 0) 1 4 Try.underlying25 hi hz0 hz1 hz2 rfl (by decide) rfl (one_cell _ rfl) _ _ _ rfl hown rfl ?c3 ?c4 ?c5 ?_)
      case c3 => unfold maxLen; omega
      case c4 => omega
      case c5 => exact hbs
      intro v' w1 hown1 hb1 hbs1
      have hb1 := (below_drewN hb _).trans hb1
      clear hown hb hbs
      generalize hy : fbits BinOp.sub FloatKind.f32 x _ _ = y at hown1
      have hyc : cn .f32 y = decF (cn .f32 r) (cn .f32 x) := by rw [← hy, cn_fbits, cn_fbits]; rfl
      have hyl : y < 4294967296 := by rw [← hy]; exact fbits_lt _ .f32 _ _ _
      have HY := Lib.hid hyc; clear hyc hy
      go_wp2
      go_roundw
      case rel =>
        refine ⟨k + 1, by go_num, hlt, ys ++ [y], by simpa using hown1, by simp [HL.out], ?_, ?_, hb1, hbs1⟩
        · rw [List.map_append, List.map_cons, List.map_nil]
          exact map_take_next (d := 0) HE.out hkx (by rw [HY.out, HX.out])
        · intro z hz
          rcases List.mem_append.1 hz with hz | hz
          · exact HLT.out z hz
          · simp at hz; rw [hz]; exact hyl
      case measure => simp [intOf]; omega
    · have hkn : k = n := by omega
      subst hkn
      go_wp2
      go_ret2
      refine ⟨_, ys, rfl, hown, ?_, HLT.out, hb⟩
      rw [HE.out, HN.out, List.take_length, List.map_map]; rfl
def decSpec (r : Nat) (xs : List Nat) : List Nat := if xs.length ≤ 256 then xs.map (decF r) else []
theorem impl_DecayParams (w : World) (ad : Option Addr) (cap : Nat) (xs : List Nat) (h : F32s w ad cap xs) (r : Nat) :
    Calls Try.prog 62 #[.slice ad xs.length cap, .float .f32 r] w fun e w' => ∃ (ad' : Option Addr) (n cap' : Nat) (ys : List Nat) (b : Bool), e = .returned (.tuple #[.slice ad' n cap', .bool b]) ∧
      RepF w' w.heap.size w'.heap.size ad' n cap' ys ∧ ys.map (cn .f32) = decSpec (cn .f32 r) (xs.map (cn .f32)) ∧ n ≤ 1048576 ∧ b = decide (xs.length ≤ 256) ∧ Below w.heap.size w w' := by
  by_cases hn : xs.length ≤ 256
  · refine (impl_DecayParams_yes ad cap xs r w h hn).mono fun e w' ⟨v, ys, he, ho, hy, hl, hb⟩ => ?_
    obtain ⟨ad', cap', rfl, hr⟩ := RepF.of_owns ho hl
    exact ⟨ad', _, cap', ys, true, he, hr, by rw [hy]; simp [decSpec, hn], by omega, by simp [hn], hb⟩
  · refine (impl_DecayParams_no ad cap xs.length r w (by omega) (Nat.le_trans h.len h.cap)).mono fun e w' ⟨he, hw⟩ => ?_
    subst hw
    exact ⟨none, 0, 0, [], false, he, RepF.nil _ _ _, by simp [decSpec, hn], by omega, by simp [hn], Below.refl _ _⟩
end Go.Proofs.Ytaocilimggpdjaa
