/- What batches are. No condition. -/
import Derived.Test.YtaocilimggpdjaaShw
import Derived.Test.YtaocilimggpdjaaClp
namespace Go.Proofs.Ytaocilimggpdjaa
open Go Go.RowKit
set_option linter.unusedVariables false
set_option linter.unusedSimpArgs false
set_option maxRecDepth 100000 in
theorem slices_CloneI (w : World) (ad : Option Addr) (cap : Nat) (xs : List Int) (h : Ints .i64 w ad cap xs) (hc : ad = none → cap = 0) (hn : xs.length ≤ 1048576) :
    Calls Try.prog 132 #[.slice ad xs.length cap] w fun e w' => ∃ ad' cap', e = .returned (.slice ad' xs.length cap') ∧ RepI w' w.heap.size w'.heap.size ad' xs.length cap' xs ∧ Below w.heap.size w w' := by
  obtain ⟨i0, hi, hz0, hz1, hz2⟩ := info_parts info_i64
  obtain ⟨n, hN⟩ : ∃ n, n = xs.length := ⟨_, rfl⟩
  have hr := h.rd
  have hwf := h.wf
  have h1 : ∀ u ∈ xs.map (Value.int .i64), u.oneCell' = true := by intro u hu; obtain ⟨x, _, rfl⟩ := List.mem_map.1 hu; rfl
  have hl : (xs.map (Value.int .i64)).length = n := by rw [List.length_map, hN]
  have fin : ∀ (W : World) (v : Value), W.ownsRow w.heap.size 2 1 v n (xs.map (Value.int .i64)) → ∃ ad' cap', v = .slice ad' n cap' ∧ RepI W w.heap.size W.heap.size ad' n cap' xs := fun W v ho => RepI.of_owns ho hwf
  rw [← hN] at hn ⊢
  have HL := Lib.hid hl; have FIN := Lib.hid fin; clear hN hl h fin hwf
  cases ad with
  | none =>
    obtain rfl := hc rfl
    have h0 : xs = [] := by
      rcases hr with hr | ⟨b, off, hb, _⟩
      · simpa using hr
      · cases hb
    subst h0
    obtain rfl : n = 0 := HL.out.symm
    have he : ∀ w : World, (binOp .eql 61 (.slice none 0 0) (.slice none 0 0)).run Try.prog w = .ok (.bool true) w := fun _ => rfl
    go_enter Try.func132, Try.ntmps132
    go_wp2
    go_ret
    exact ⟨none, 0, rfl, RepI.nil _ _ _, Below.refl _ _⟩
  | some p =>
    have he : ∀ w : World, (binOp .eql 61 (.slice (some p) n cap) (.slice none 0 0)).run Try.prog w = .ok (.bool false) w := fun _ => rfl
    go_enter Try.func132, Try.ntmps132
    go_wp2_with (at_builtin; refine wp_cat rfl _ _ 61 rfl w.heap.size i0 (.int .i64 0) 8 Try.underlying61 hi hz0 hz1 hz2 rfl _ 0 [] rfl (World.ownsRow_made _ _ _ (Nat.le_refl _) (Nat.zero_le _) rfl) (some p) n cap _ rfl (fun h => nomatch h) HL.out (hr.below (below1 _ _) (Nat.le_refl _)) h1 ?c3 ?c4 ?c5 ?_)
    case c3 => unfold maxLen; omega
    case c4 => omega
    case c5 => simp
    intro v' w9 hown1 hb1 hbs1
    have hq : w9.ownsRow w.heap.size 2 1 v' n (xs.map (Value.int .i64)) := by simpa using hown1
    obtain ⟨ad', cap', rfl, hrep⟩ := FIN.out _ _ hq
    have HR := Lib.hid hrep; have HB := Lib.hid ((below1 _ _).trans hb1)
    clear hown1 hq hrep hb1
    go_wp2
    go_ret
    exact ⟨_, _, rfl, HR.out, HB.out⟩
theorem impl_isTensorSide (n : Int) (w : World) : Calls Try.prog 128 #[.int .i64 n] w fun e w' => e = .returned (.bool (inB n 1 16)) ∧ w = w' := by
  have k1 := fun W => within_any n 1 16 W
  go_enter Try.func128, Try.ntmps128
  go_wp2_with fail
  refine (k1 _).mono ?_
  rintro e w1 ⟨rfl, rfl⟩
  go_wp2
  go_ret
  exact ⟨rfl, rfl⟩
theorem impl_isSeed (n : Int) (w : World) : Calls Try.prog 129 #[.int .i64 n] w fun e w' => e = .returned (.bool (inB n 0 2147483647)) ∧ w = w' := by
  have k1 := fun W => within_any n 0 2147483647 W
  go_enter Try.func129, Try.ntmps129
  go_wp2_with fail
  refine (k1 _).mono ?_
  rintro e w1 ⟨rfl, rfl⟩
  go_wp2
  go_ret
  exact ⟨rfl, rfl⟩
theorem impl_ShuffleRows (w : World) (c : Nat) (hc : 1 ≤ c) (hc2 : c ≤ 16) (s : Int) (h0 : 0 ≤ s) (h1 : s ≤ 2147483647) :
    Calls Try.prog 71 #[.int .i64 c, .int .i64 s] w fun e w' => ∃ ad cap, e = .returned (.tuple #[.slice ad c cap, .int .i64 (shSeed s (c - 1)), .bool true]) ∧ RepI w' w.heap.size w'.heap.size ad c cap (shAll c s) ∧ Below w.heap.size w w' := by
  have k1 := fun W => impl_isTensorSide c W
  have k2 := fun W => impl_isSeed s W
  have k3 := fun W => impl_shuffled W c hc hc2 s h0 h1
  rw [inB_iff.2 ⟨by omega, by omega⟩] at k1 k2
  go_enter Try.func71, Try.ntmps71
  go_wp2_with fail
  refine (k1 _).mono ?_
  rintro e w1 ⟨rfl, rfl⟩
  go_wp2_with fail
  refine (k2 _).mono ?_
  rintro e w1 ⟨rfl, rfl⟩
  go_wp2_with fail
  refine (k3 _).mono ?_
  rintro e w1 ⟨ad, cap, rfl, hr, hb⟩
  have HR := Lib.hid hr; have HB := Lib.hid hb; clear hr hb
  go_wp2
  go_ret3
  exact ⟨ad, cap, rfl, HR.out, HB.out⟩
theorem Ints.sub {w : World} {g off cap : Nat} {xs : List Int} (h : Ints .i64 w (some ⟨g, off, none⟩) cap xs) (f t : Nat) (h1 : f ≤ t) (h2 : t ≤ xs.length) : Ints .i64 w (some ⟨g, off + f, none⟩) (cap - f) ((xs.drop f).take (t - f)) := by
  have hl : ((xs.drop f).take (t - f)).length = t - f := by simp; omega
  have := h.len; have := h.cap
  refine ⟨by omega, by omega, ?_, fun x hx => h.wf x (List.mem_of_mem_drop (List.mem_of_mem_take hx))⟩
  by_cases hz : f = t
  · subst hz; left; simp
  · right
    rcases h.rd with h3 | ⟨b, o, e, hb, hc⟩
    · have : xs.length = 0 := by simpa using congrArg List.length h3
      omega
    · cases e
      refine ⟨g, off + f, rfl, hb, fun j hj => ?_⟩
      rw [List.length_map, hl] at hj
      rw [Nat.add_assoc, hc (f + j) (by rw [List.length_map]; omega), List.getElem?_map, List.getElem?_map, List.getElem?_take, if_pos hj, List.getElem?_drop]
set_option maxRecDepth 100000 in
theorem impl_BatchOf (w : World) (c : Nat) (hc : 1 ≤ c) (hc2 : c ≤ 16) (batch : Nat) (hb1 : 1 ≤ batch) (hb2 : batch ≤ 16) (s : Int) (h0 : 0 ≤ s) (h1 : s ≤ 2147483647) (e r K : Nat) (hK : ((c : Int) + batch - 1) / batch = K) (hK1 : 1 ≤ K) (hr : r < K) (F t : Nat) (hF : F = r * batch) (hFc : F < c) (ht : t = min (F + batch) c) (hst : e * K + r ≤ 1000) :
    Calls Try.prog 73 #[.int .i64 c, .int .i64 batch, .int .i64 s, .int .i64 ((e * K + r : Nat) : Int)] w fun e' w' => ∃ ad cap, e' = .returned (.tuple #[.slice ad (t - F : Nat) cap, .bool true]) ∧ RepI w' w.heap.size w'.heap.size ad (t - F) cap (((shAll c (nextS ((s + 7919 * e) % 2147483648))).drop F).take (t - F)) ∧ Below w.heap.size w w' := by
  have k1 := fun W => impl_isTensorSide c W
  have k2 := fun W => impl_isTensorSide batch W
  have k3 := fun W => impl_isSeed s W
  have k4 := fun W => within_any ((e * K + r : Nat) : Int) 0 1000 W
  rw [inB_iff.2 ⟨by omega, by omega⟩] at k1 k2 k3 k4
  obtain ⟨S0, hS0⟩ : ∃ S0, S0 = (s + 7919 * e) % 2147483648 := ⟨_, rfl⟩
  have hb0 : 0 ≤ S0 ∧ S0 ≤ 2147483647 := by rw [hS0]; omega
  have k5 := fun W => impl_nextSeed S0 W hb0.1 hb0.2
  have hn := nextS_bd S0
  have k6 := fun W => impl_shuffled W c hc hc2 (nextS S0) hn.1 hn.2
  rw [← hS0]
  obtain ⟨S1, hS1⟩ : ∃ S1, S1 = nextS S0 := ⟨_, rfl⟩
  rw [← hS1] at k5 k6 ⊢
  obtain ⟨st, hste⟩ : ∃ st : Nat, st = e * K + r := ⟨_, rfl⟩
  have hE : (st : Int) / K = e := by
    rw [hste, ← Int.natCast_ediv, Nat.mul_comm, Nat.mul_add_div (by omega), Nat.div_eq_of_lt hr]; simp
  have hR : (st : Int) % K = r := by
    rw [hste, ← Int.natCast_emod, Nat.mul_comm, Nat.mul_add_mod, Nat.mod_eq_of_lt hr]
  rw [← hste] at k4 hst ⊢
  have hFi : (r : Int) * batch = F := by rw [hF]; simp
  have he : e ≤ 1000 := by
    have : e * 1 ≤ e * K := Nat.mul_le_mul_left _ hK1
    omega
  have hmod : (s + 7919 * (e : Int)) % 2147483648 = S0 := hS0.symm
  have hmin : min ((F : Int) + batch) c = t := by rw [ht]; omega
  have htc : t ≤ c := by omega
  have hFt : F ≤ t := by omega
  clear hS0 hS1 hste hF ht
  go_enter Try.func73, Try.ntmps73
  go_wp2_with fail
  refine (k1 _).mono ?_
  rintro e w1 ⟨rfl, rfl⟩
  go_wp2_with fail
  refine (k2 _).mono ?_
  rintro e w1 ⟨rfl, rfl⟩
  go_wp2_with fail
  refine (k3 _).mono ?_
  rintro e w1 ⟨rfl, rfl⟩
  go_wp2_with fail
  refine (k4 _).mono ?_
  rintro e w1 ⟨rfl, rfl⟩
  clear k1 k2 k3 k4
  go_wp2_with fail
  refine (k5 _).mono ?_
  rintro e w1 ⟨rfl, rfl⟩
  go_wp2_with fail
  refine (k6 _).mono ?_
  rintro e w1 ⟨ad, cap, rfl, hr, hb⟩
  clear k5 k6
  obtain ⟨g, rfl, hcap, hcapm⟩ : ∃ g, ad = some ⟨g, 0, none⟩ ∧ c ≤ cap ∧ cap ≤ maxLen := by
    rcases hr.row.own.2 with ⟨h2, h3⟩ | ⟨g, cp, cur, hv, _, _, hq1, hq2, _⟩
    · cases h2; omega
    · cases hv; exact ⟨g, rfl, hq1, hq2⟩
  have hI : Ints .i64 w1 (some ⟨g, 0 + F, none⟩) (cap - F) (((shAll c S1).drop F).take (t - F)) := hr.arg.sub F t hFt (by rw [shAll_length]; exact htc)
  have hlen : (((shAll c S1).drop F).take (t - F)).length = t - F := by simp [shAll_length]; omega
  have hC0 := slices_CloneI w1 _ _ _ hI (fun h => nomatch h) (by rw [hlen]; omega)
  rw [hlen, Nat.zero_add] at hC0
  have hC : ∀ n : Nat, n = t - F → Calls Try.prog 132 #[.slice (some ⟨g, F, none⟩) n (cap - F)] w1 fun e w' => ∃ ad' cap', e = .returned (.slice ad' n cap') ∧ RepI w' w1.heap.size w'.heap.size ad' n cap' (((shAll c S1).drop F).take (t - F)) ∧ Below w1.heap.size w1 w' := by
    rintro n rfl; exact hC0
  have hne : ¬ cap = F := by omega
  have hne2 : cap - F ≠ 0 := by omega
  have HC := Lib.hid hC; have HB := Lib.hid hb; clear hr hb hC hC0 hI hlen
  unfold maxLen at hcapm
  by_cases hm : F + batch ≤ c
  · obtain rfl : t = F + batch := by omega
    have hm2 : (F : Int) + batch ≤ c := by omega
    clear hmin
    go_wp2_with fail
    refine (HC.out _ (by omega)).mono ?_
    rintro e w2 ⟨a2, cap2, rfl, hr, hb⟩
    have HR := Lib.hid hr; have HB2 := Lib.hid (bthen HB.out hb); have hz := HB.out.size
    clear hr hb
    go_wp2
    go_ret2
    exact ⟨_, _, by simp only [Nat.add_sub_cancel_left]; rfl, by rw [Nat.add_sub_cancel_left]; have h := HR.out; rw [Nat.add_sub_cancel_left] at h; exact h.bounds hz (Nat.le_refl _), HB2.out⟩
  · obtain rfl : t = c := by omega
    have hm2 : ¬ (F : Int) + batch ≤ t := by omega
    clear hmin
    go_wp2_with fail
    refine (HC.out _ rfl).mono ?_
    rintro e w2 ⟨a2, cap2, rfl, hr, hb⟩
    have HR := Lib.hid hr; have HB2 := Lib.hid (bthen HB.out hb); have hz := HB.out.size
    clear hr hb
    go_wp2
    go_ret2
    exact ⟨_, _, by rfl, HR.out.bounds hz (Nat.le_refl _), HB2.out⟩
end Go.Proofs.Ytaocilimggpdjaa
