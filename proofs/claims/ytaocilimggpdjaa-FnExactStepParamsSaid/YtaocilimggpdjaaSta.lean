/- What tests of slots and copies of them do. No condition. -/
import Derived.Test.YtaocilimggpdjaaFH
import Derived.Test.YtaocilimggpdjaaWEmp
import Derived.Test.YtaocilimggpdjaaClp
namespace Go.Proofs.Ytaocilimggpdjaa
open Go Go.RowKit
set_option linter.unusedVariables false
set_option linter.unusedSimpArgs false
/-- is a list of rows the slots of an optimiser -/
def otherLen (n : Nat) (X : List Nat) : Bool := !decide (X.length = n)
def fitB (k : Int) (Xs : List (List Nat)) (n : Nat) : Bool := decide (Xs.length = slotsN k) && !Xs.any (otherLen n)
theorem fit_iff {k : Int} {Xs : List (List Nat)} {n : Nat} : fitB k Xs n = true ↔ Xs.length = slotsN k ∧ ∀ i, i < Xs.length → (Xs.getD i []).length = n := by
  unfold fitB otherLen
  rw [Bool.and_eq_true, decide_eq_true_eq]
  refine and_congr_right fun _ => ?_
  rw [Bool.not_eq_true', List.any_eq_false]
  constructor
  · intro h i hi
    have := h (Xs[i]) (List.getElem_mem hi)
    rw [List.getD_eq_getElem?_getD, List.getElem?_eq_getElem hi]
    simpa using this
  · intro h X hX
    obtain ⟨i, hi, rfl⟩ := List.getElem_of_mem hX
    have := h i hi
    rw [List.getD_eq_getElem?_getD, List.getElem?_eq_getElem hi] at this
    simpa using this
def IdxAnyF (p : List Nat → Bool) (Xs : List (List Nat)) (w : World) (e : Ending) (w' : World) : Prop := ∃ i : Int, e = .returned (.int .i64 i) ∧ decide (0 ≤ i) = Xs.any p ∧ w = w'
theorem idx_anyF (w : World) (ad : Option Addr) (cap : Nat) (vs : List Value) (Xs : List (List Nat)) (h : SeeFF w ad cap vs Xs) (hn : Xs.length ≤ 1048576) (G : Nat) (caps : Array Value) (p : List Nat → Bool) (hG : ∀ (args : Array Value) (W : World), (callFunc G args).run Try.prog W = .ok (.enter G args) W)
    (hcl : ∀ (ai : Option Addr) (ci : Nat) (X : List Nat), Calls Try.prog G (#[.slice ai X.length ci] ++ caps) w fun e w' => e = .returned (.bool (p X)) ∧ w = w') :
    Calls Try.prog 160 #[.slice ad Xs.length cap, .func (.func G) #[] caps] w (IdxAnyF p Xs w) := by
  obtain ⟨n, hN⟩ : ∃ n, n = Xs.length := ⟨_, rfl⟩
  rw [← hN] at hn ⊢
  have HN := Lib.hid hN; have HCL := Lib.hid hcl; clear hN hcl
  go_enter Try.func160, Try.ntmps160
  go_wp2
  go_loop [8] (fun i => ∃ k : Nat, i = .int .i64 k ∧ k ≤ n ∧ (Xs.take k).any p = false) (fun i => n - (intOf i).toNat)
  case atStart => exact ⟨0, rfl, Nat.zero_le _, rfl⟩
  case round =>
    obtain ⟨k, rfl, hk, hno⟩ := hrel
    have HO := Lib.hid hno; clear hno
    by_cases hlt : k < n
    · have hkx : k < Xs.length := by rw [← HN.out]; exact hlt
      obtain ⟨b, off, ai, ci, rfl, _, hc, hf⟩ := h.spot hkx
      obtain ⟨x, hx⟩ : ∃ x, x = Xs.getD k [] := ⟨_, rfl⟩
      rw [← hx] at hc
      have k1 := HCL.out ai ci x
      obtain ⟨m, hm⟩ : ∃ m, m = x.length := ⟨_, rfl⟩
      rw [← hm] at hc k1
      have HX := Lib.hid hx; have K1 := Lib.hid k1; clear hx k1 hf hm
      cases hb : p x
      · have HB := Lib.hid hb
        go_wp2_with fail
        refine K1.out.mono ?_
        rintro e w' ⟨rfl, rfl⟩
        go_wp2
        go_round
        case rel =>
          refine ⟨k + 1, by go_num, hlt, ?_⟩
          rw [List.take_succ_eq_append_getElem hkx, List.any_append, HO.out]
          have : Xs[k] = x := by rw [HX.out, List.getD_eq_getElem?_getD, List.getElem?_eq_getElem hkx]; rfl
          simp [this, hb]
        case measure => simp [intOf]; omega
      · have HB := Lib.hid hb
        go_wp2_with fail
        refine K1.out.mono ?_
        rintro e w' ⟨rfl, rfl⟩
        go_wp2
        go_ret
        refine ⟨k, rfl, ?_, rfl⟩
        have : (Xs.any p) = true := by
          rw [List.any_eq_true]
          exact ⟨Xs.getD k [], by rw [List.getD_eq_getElem?_getD, List.getElem?_eq_getElem hkx]; exact List.getElem_mem hkx, by rw [← HX.out, hb]⟩
        rw [this]; simp
    · have hkn : k = n := by omega
      subst hkn
      go_wp2
      go_ret
      refine ⟨-1, rfl, ?_, rfl⟩
      have := HO.out
      rw [HN.out, List.take_length] at this
      rw [this]; rfl
theorem contains_anyF (w : World) (ad : Option Addr) (cap : Nat) (vs : List Value) (Xs : List (List Nat)) (h : SeeFF w ad cap vs Xs) (hn : Xs.length ≤ 1048576) (G : Nat) (caps : Array Value) (p : List Nat → Bool) (hG : ∀ (args : Array Value) (W : World), (callFunc G args).run Try.prog W = .ok (.enter G args) W)
    (hcl : ∀ (ai : Option Addr) (ci : Nat) (X : List Nat), Calls Try.prog G (#[.slice ai X.length ci] ++ caps) w fun e w' => e = .returned (.bool (p X)) ∧ w = w') :
    Calls Try.prog 137 #[.slice ad Xs.length cap, .func (.func G) #[] caps] w fun e w' => e = .returned (.bool (Xs.any p)) ∧ w = w' := by
  have hc := idx_anyF w ad cap vs Xs h hn G caps p hG hcl
  have HC := Lib.hid hc; clear hc hcl hG
  go_enter Try.func137, Try.ntmps137
  go_wp2_with fail
  refine HC.out.mono ?_
  rintro e w' ⟨i, rfl, hi, rfl⟩
  have HI := Lib.hid hi; clear hi
  go_wp2
  go_ret
  exact ⟨by rw [← HI.out]; rfl, rfl⟩
theorem areSlots_fn (w : World) (g : Nat) (n : Nat) (h : w.cell? ⟨g, 0, none⟩ = some (.int .i64 n)) (hn : n ≤ maxLen) (ai : Option Addr) (ci : Nat) (X : List Nat) : Calls Try.prog 138 (#[.slice ai X.length ci] ++ #[.pointer (some ⟨g, 0, none⟩)]) w fun e w' => e = .returned (.bool (otherLen n X)) ∧ w = w' := by
  obtain ⟨m, hm⟩ : ∃ m, m = X.length := ⟨_, rfl⟩
  unfold otherLen
  rw [← hm]
  clear hm
  by_cases e : m = n
  · subst e
    rw [decide_eq_true rfl]
    go_enter Try.func138, Try.ntmps138
    go_wp2
    go_ret
    exact ⟨by simp, rfl⟩
  · have h1 : decide (m = n) = false := decide_eq_false e
    have h2 : ((m : Int) == (n : Int)) = false := by simpa using (by omega : ¬ (m : Int) = n)
    have h3 : (!((m : Int) == (n : Int))) = true := by rw [h2]; rfl
    rw [h1]
    clear e h1
    go_enter Try.func138, Try.ntmps138
    go_wp2
    go_ret
    exact ⟨congrArg (fun b => Ending.returned (Value.bool b)) h3, rfl⟩
theorem areSlots_run : ∀ (args : Array Value) (W : World), (callFunc 138 args).run Try.prog W = .ok (.enter 138 args) W := fun args W => by kernel_rfl
theorem impl_areSlots (w : World) (k : Int) (r b1 b2 ep : Nat) (ad : Option Addr) (cap : Nat) (vs : List Value) (Xs : List (List Nat)) (h : SeeFF w ad cap vs Xs) (hx : Xs.length ≤ 1048576) (n : Nat) (hn : n ≤ 1048576) :
    Calls Try.prog 80 #[.agg #[.int .i64 k, .float .f32 r, .float .f32 b1, .float .f32 b2, .float .f32 ep], .slice ad Xs.length cap, .int .i64 n] w fun e w' => e = .returned (.bool (fitB k Xs n)) ∧ Below w.heap.size w w' := by
  have k3 := fun W => impl_slots k r b1 b2 ep W
  have k4 := fun W g (hg : W.cell? ⟨g, 0, none⟩ = some (.int .i64 n)) (hW : SeeFF W ad cap vs Xs) => contains_anyF W ad cap vs Xs hW hx 138 #[.pointer (some ⟨g, 0, none⟩)] (otherLen n) areSlots_run (fun ai ci X => areSlots_fn W g n hg (by unfold maxLen; omega) ai ci X)
  have hsl := slotsN_le k
  unfold fitB
  obtain ⟨S, hS⟩ : ∃ S, S = slotsN k := ⟨_, rfl⟩
  rw [← hS] at k3 hsl ⊢
  obtain ⟨R, hR⟩ : ∃ R, R = Xs.any (otherLen n) := ⟨_, rfl⟩
  rw [← hR] at k4 ⊢
  obtain ⟨x, hX⟩ : ∃ x, x = Xs.length := ⟨_, rfl⟩
  rw [← hX] at k4 hx ⊢
  have H := Lib.hid h; have K3 := Lib.hid k3; have K4 := Lib.hid k4
  clear h k3 k4 hS hR hX
  by_cases e : x = S
  · subst e
    rw [decide_eq_true rfl]
    go_enter Try.func80, Try.ntmps80
    go_wp2_with fail
    refine (K3.out _).mono ?_
    rintro e w1 ⟨rfl, hb1⟩
    have hb2 := ((below1 w _).trans ((below1 (w.alloc _) _).mono (by simp))).trans (hb1.mono (by simp; omega))
    obtain ⟨q1, q2, q3⟩ := bkeep (w.heap.size + 1) hb1 (by simp)
    have hc : w1.cell? ⟨w.heap.size + 1, 0, none⟩ = some (.int .i64 n) := by
      rw [q1 0]
      exact World.cell?_alloc_at _ _ _ _ (by simp)
    have HC := Lib.hid hc; have HB := Lib.hid hb2
    clear hc hb2 q1 q2 q3 hb1
    go_wp2_with fail
    refine (K4.out _ _ HC.out (H.out.below HB.out)).mono ?_
    rintro e w2 ⟨rfl, rfl⟩
    go_wp2
    go_ret
    exact ⟨by simp, HB.out⟩
  · have h2 : ((x : Int) == (S : Int)) = false := by simpa using (by omega : ¬ (x : Int) = S)
    rw [decide_eq_false e]
    clear e
    go_enter Try.func80, Try.ntmps80
    go_wp2_with fail
    refine (K3.out _).mono ?_
    rintro e w1 ⟨rfl, hb1⟩
    have hb2 := ((below1 w _).trans ((below1 (w.alloc _) _).mono (by simp))).trans (hb1.mono (by simp; omega))
    have HB := Lib.hid hb2
    clear hb2 hb1
    go_wp2
    go_ret
    exact ⟨by simp, HB.out⟩
set_option maxHeartbeats 1000000 in
theorem spec_l05Fit (w : World) (g : Nat) (k : Int) (hg : w.cell? ⟨g, 0, none⟩ = some (.int .i64 k)) (ad : Option Addr) (cap : Nat) (vs : List Value) (Xs : List (List Nat)) (h : SeeFF w ad cap vs Xs) (hx : Xs.length ≤ 1048576) (n : Nat) (hn : n ≤ 1048576) :
    Calls Try.prog 77 #[.pointer (some ⟨g, 0, none⟩), .slice ad Xs.length cap, .int .i64 n] w fun e w' => e = .returned (.bool (fitB k Xs n)) ∧ w = w' := by
  have k3 := spec_l05Slots w g k hg
  have hsl := slotsN_le k
  have hfit := @fit_iff k Xs n
  obtain ⟨R, hR⟩ : ∃ R, R = fitB k Xs n := ⟨_, rfl⟩
  obtain ⟨S, hS⟩ : ∃ S, S = slotsN k := ⟨_, rfl⟩
  rw [← hS] at k3 hsl hfit
  rw [← hR] at hfit ⊢
  have hm : Xs.length ≤ maxLen := by have := h.le; have := h.cap; have := h.len; omega
  obtain ⟨x, hX⟩ : ∃ x, x = Xs.length := ⟨_, rfl⟩
  rw [← hX] at hx hm ⊢
  have HF := Lib.hid hfit; have HX := Lib.hid hX; have K3 := Lib.hid k3
  clear hR hS hfit hX k3 hm hg
  go_enter Try.func77, Try.ntmps77
  go_wp2
  go_loop [7] (fun i => ∃ j : Nat, i = .int .i64 j ∧ j ≤ x ∧ ∀ i, i < j → (Xs.getD i []).length = n) (fun i => x - (intOf i).toNat)
  case atStart => exact ⟨0, rfl, Nat.zero_le _, fun i hi => by omega⟩
  case round =>
    obtain ⟨j, rfl, hj, hall⟩ := hrel
    have HA := Lib.hid hall; clear hall
    by_cases hlt : j < x
    · have hkx : j < Xs.length := by rw [← HX.out]; exact hlt
      obtain ⟨b, off, ai, ci, rfl, _, hc, hf⟩ := h.spot hkx
      have hml : (Xs.getD j []).length ≤ maxLen := Nat.le_trans hf.len hf.cap
      obtain ⟨m, hm⟩ : ∃ m, m = (Xs.getD j []).length := ⟨_, rfl⟩
      rw [← hm] at hc hml
      have HM := Lib.hid hm
      clear hm hf
      by_cases e : m = n
      · subst e
        go_wp2
        go_round
        case rel =>
          refine ⟨j + 1, by go_num, hlt, fun i hi => ?_⟩
          by_cases hij : i = j
          · rw [hij]; exact HM.out.symm
          · exact HA.out i (by omega)
        case measure => simp [intOf]; omega
      · have h2 : ((m : Int) == (n : Int)) = false := by simpa using (by omega : ¬ (m : Int) = n)
        have HE := Lib.hid e
        clear e
        go_wp2
        go_ret
        refine ⟨?_, rfl⟩
        have : R = false := by
          cases hR : R
          · rfl
          · exact absurd (HM.out.trans ((HF.out.1 hR).2 j hkx)) HE.out
        rw [this]; rfl
    · have hkn : j = x := by omega
      subst hkn
      go_wp2_with fail
      refine K3.out.mono ?_
      rintro e w1 ⟨rfl, rfl⟩
      have hRv : R = decide (j = S) := by
        by_cases e : j = S
        · rw [decide_eq_true e]
          exact HF.out.2 ⟨by rw [← HX.out, e], fun i hi => HA.out i (by rw [HX.out]; exact hi)⟩
        · rw [decide_eq_false e]
          cases hR : R
          · rfl
          · exact absurd (HX.out.trans (HF.out.1 hR).1) e
      have HR := Lib.hid hRv; clear hRv
      go_wp2
      go_ret
      refine ⟨?_, rfl⟩
      rw [HR.out]
      congr 2
      by_cases e : j = S
      · simp [e]
      · have e2 : ¬ (j : Int) = S := by omega
        simp [e, e2]
set_option maxHeartbeats 2000000 in
theorem impl_copyLists (w : World) {lo hi : Nat} (ad : Option Addr) (n cap : Nat) (vs : List Value) (Xs : List (List Nat)) (h : RepFF w lo hi ad n cap vs Xs) (hn : n ≤ 1048576) (hi2 : ∀ i, i < n → (Xs.getD i []).length ≤ 1048576) :
    Calls Try.prog 139 #[.slice ad n cap] w fun e w' => ∃ ad' cap' us, e = .returned (.slice ad' n cap') ∧ RepFF w' w.heap.size w'.heap.size ad' n cap' us Xs ∧ Below w.heap.size w w' := by
  obtain ⟨j0, hj2, hy0, hy1, hy2⟩ := info_parts info_f32s
  have H := Lib.hid h; have HI2 := Lib.hid hi2; clear h hi2
  go_enter Try.func139, Try.ntmps139
  go_wp2_with (at_make; refine wpList_make_full _ rfl _ _ 26 rfl w.heap.size 25 j0 (.slice none 0 0) 1 Try.underlying26 hj2 hy0 hy1 .i64 .i64 _ _ n rfl rfl rfl rfl ?c1 ?c2 ?c3 ?_)
  case c1 => rw [hy2]; omega
  case c2 => unfold maxLen; omega
  case c3 => exact Nat.le_refl _
  intro w1 hown hg
  have hb1 : Below w.heap.size w w1 := (Below.refl _ _).grown hg (Nat.le_refl _) (fun k e => by cases e)
  have hR := RepFF.made hown
  have HR := Lib.hid hR
  clear hg hown hR
  go_wp2
  go_loopw [10] (fun i wr => ∃ k : Nat, i = .int .i64 k ∧ k ≤ n ∧ ∃ us Ys, RepFF wr w.heap.size wr.heap.size (some ⟨w.heap.size, 0, none⟩) n n us Ys ∧ Ys.take k = Xs.take k ∧ Below w.heap.size w wr) (fun i _ => n - (intOf i).toNat)
  case atStart => exact ⟨0, rfl, Nat.zero_le _, _, _, HR.out, rfl, hb1⟩
  case round =>
    clear hb1 HR
    obtain ⟨k, rfl, hk, us, Ys, hr, htk, hb⟩ := hrel
    have HR := Lib.hid hr; have HT := Lib.hid htk; clear hr htk
    by_cases hlt : k < n
    · have hkx : k < Xs.length := by rw [H.out.len]; exact hlt
      obtain ⟨ai, ci, hvk, hfo⟩ := H.out.inn k hlt
      obtain ⟨b, rfl, _, hbl, hgc, _⟩ := H.out.addr (by omega)
      have hgk := hgc k hlt
      rw [hvk] at hgk
      have hcell : wr.cell? ⟨b, k, none⟩ = some (.slice ai (Xs.getD k []).length ci) := (hb.cell (p := ⟨b, k, none⟩) hbl).trans hgk
      have hf2 := hfo.below hb
      have hnil := hf2.nilcap
      obtain ⟨X, hX⟩ : ∃ X, X = Xs.getD k [] := ⟨_, rfl⟩
      have hi3 := HI2.out k hlt
      rw [← hX] at hcell hf2 hi3
      have hlt4 := hf2.lt
      have k1 := fun W hW => slices_Clone W ai ci X hW hnil hi3
      have hfa := hf2.arg
      obtain ⟨m, hm⟩ : ∃ m, m = X.length := ⟨_, rfl⟩
      rw [← hm] at hcell k1
      have hbsz : b < wr.heap.size := Nat.lt_of_lt_of_le hbl hb.size
      have HX := Lib.hid hX; have K1 := Lib.hid k1; have HFA := Lib.hid hfa; have HB := Lib.hid hb; have HL4 := Lib.hid hlt4
      clear hX k1 hm hf2 hi3 hb hgc hgk hvk hfo hfa hlt4 hnil
      go_wp2_with fail
      refine (K1.out _ HFA.out).mono ?_
      rintro e w2 ⟨v2, rfl, ho2, hb2⟩
      obtain ⟨a2, c2, rfl, hr2⟩ := RepF.of_owns ho2 HL4.out
      have hR1 := HR.out.below hb2
      obtain ⟨g, eg, hlo, hgs, hgc, hgf⟩ := hR1.addr (by omega)
      cases eg
      have hc2 := hgc k hlt
      have hf2 := hgf k
      have hset := RepFF.setRow HR.out hb2 hlt hr2
      have hbb : Below w.heap.size w (w2.setCell ⟨w.heap.size, k, none⟩ (.slice a2 m c2)) := (HB.out.trans (hb2.mono HB.out.size)).setCell (Nat.le_refl _) _
      have HS := Lib.hid hset; have HBB := Lib.hid hbb
      clear hset hbb hR1 hgc hgf hb2 hr2 ho2
      go_wp2
      go_roundw
      case rel =>
        refine ⟨k + 1, by go_num, hlt, _, _, HS.out.bounds (Nat.le_refl _) (by simp [World.setCell]), take_set_next HT.out (by rw [HR.out.len]; exact hlt) ?_, HBB.out⟩
        rw [HX.out, List.getD_eq_getElem?_getD, List.getElem?_eq_getElem hkx]; rfl
      case measure => simp [intOf]; omega
    · have hkn : k = n := by omega
      subst hkn
      go_wp2
      go_ret
      refine ⟨_, _, us, rfl, ?_, hb⟩
      have e1 := HT.out
      rw [List.take_of_length_le (by rw [HR.out.len]; exact Nat.le_refl _), List.take_of_length_le (by rw [H.out.len]; exact Nat.le_refl _)] at e1
      rw [← e1]
      exact HR.out
end Go.Proofs.Ytaocilimggpdjaa
