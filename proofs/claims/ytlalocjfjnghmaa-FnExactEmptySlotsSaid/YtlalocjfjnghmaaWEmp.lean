/- The law of empty slots, walked. No condition. -/
import Derived.Test.YtlalocjfjnghmaaEmp
namespace Go.Proofs.Ytlalocjfjnghmaa
open Go Go.RowKit
set_option linter.unusedVariables false
set_option linter.unusedSimpArgs false
theorem via {P : Program} {f : FuncId} {args : Array Value} {w : World} {A B : Ending → World → Prop} (h : Calls P f args w A) (k : ∀ e w', A e w' → B e w') : Calls P f args w B := h.mono k
theorem spec_l05Is (w : World) (g : Nat) (k : Int) (h : w.cell? ⟨g, 0, none⟩ = some (.int .i64 k)) : Calls Try.prog 55 #[.pointer (some ⟨g, 0, none⟩)] w fun e w' => e = .returned (.bool (inB k 0 4)) ∧ w = w' := by
  go_enter Try.func55, Try.ntmps55
  go_wp2_with fail
  refine (l00In_any _ _ _ _).mono ?_
  rintro e w1 ⟨rfl, rfl⟩
  go_wp2
  go_ret
  exact ⟨rfl, rfl⟩
/-- what empty slots are -/
def EmpPost (w : World) (k cnt : Int) (e : Ending) (w' : World) : Prop := ∃ ad n cap vs Xs, e = .returned (.tuple #[.slice ad n cap, .bool (emptyOk k cnt)]) ∧ RepFF w' w.heap.size w'.heap.size ad n cap vs Xs ∧ Xs = (if emptyOk k cnt = true then zeroRows (slotsN k) cnt.toNat else []) ∧ Below w.heap.size w w'
theorem impl_EmptySlots (k cnt : Int) (r b1 b2 ep : Nat) (w : World) : Calls Try.prog 13 #[.agg #[.int .i64 k, .float .f32 r, .float .f32 b1, .float .f32 b2, .float .f32 ep], .int .i64 cnt] w (EmpPost w k cnt) := by
  cases hok : emptyOk k cnt
  · refine via (A := fun e w' => e = .returned (.tuple #[.slice none 0 0, .bool false]) ∧ Below w.heap.size w w') ?_ fun e w' ⟨he, hb⟩ => ⟨none, 0, 0, [], [], by rw [hok]; exact he, RepFF.nil _ _ _, by rw [hok]; rfl, hb⟩
    unfold emptyOk at hok
    have k1 := fun W => impl_ValidOptimizer k r b1 b2 ep W
    have k2 := fun W => within_any cnt 0 256 W
    have K1 := Lib.hid k1; have K2 := Lib.hid k2; clear k1 k2
    cases h1 : inB k 0 4
    · rw [h1] at K1
      clear hok h1
      go_enter Try.func13, Try.ntmps13
      go_wp2_with fail
      refine (K1.out _).mono ?_
      rintro e w1 ⟨rfl, hb1⟩
      go_wp2
      go_ret2
      exact ⟨rfl, bthen (below1 _ _) hb1⟩
    · have h2 : inB cnt 0 256 = false := by simpa [h1] using hok
      rw [h1] at K1
      rw [h2] at K2
      clear hok h1 h2
      go_enter Try.func13, Try.ntmps13
      go_wp2_with fail
      refine (K1.out _).mono ?_
      rintro e w1 ⟨rfl, hb1⟩
      go_wp2_with fail
      refine (K2.out _).mono ?_
      rintro e w2 ⟨rfl, rfl⟩
      go_wp2
      go_ret2
      exact ⟨rfl, bthen (below1 _ _) hb1⟩
  · refine (impl_EmptySlots_yes k cnt r b1 b2 ep hok w).mono fun e w' ⟨v, vs, he, hz, hb⟩ => ?_
    obtain ⟨ad, cap, rfl, hr⟩ := hz.out.rep
    exact ⟨ad, _, cap, vs, _, by rw [hok]; exact he, hr, by rw [hok]; rfl, hb⟩
theorem spec_EmptySlots (k cnt : Int) (r b1 b2 ep : Nat) (w : World) : Calls Try.prog 11 #[.agg #[.int .i64 k, .float .f32 r, .float .f32 b1, .float .f32 b2, .float .f32 ep], .int .i64 cnt] w (EmpPost w k cnt) := by
  have k1 := fun W h => spec_l05Is W w.heap.size k h
  have k2 := fun W => l00In_any cnt 0 256 W
  have K1 := Lib.hid k1; have K2 := Lib.hid k2; clear k1 k2
  cases h1 : inB k 0 4
  · have hok : emptyOk k cnt = false := by unfold emptyOk; rw [h1]; rfl
    refine via (A := fun e w' => e = .returned (.tuple #[.slice none 0 0, .bool false]) ∧ Below w.heap.size w w') ?_ fun e w' ⟨he, hb⟩ => ⟨none, 0, 0, [], [], by rw [hok]; exact he, RepFF.nil _ _ _, by rw [hok]; rfl, hb⟩
    rw [h1] at K1
    clear hok h1
    go_enter Try.func11, Try.ntmps11
    go_wp2_with fail
    refine (K1.out _ (by go_simp)).mono ?_
    rintro e w1 ⟨rfl, rfl⟩
    go_wp2
    go_ret2
    exact ⟨rfl, below1 _ _⟩
  cases h2 : inB cnt 0 256
  · have hok : emptyOk k cnt = false := by unfold emptyOk; rw [h2, h1]; rfl
    refine via (A := fun e w' => e = .returned (.tuple #[.slice none 0 0, .bool false]) ∧ Below w.heap.size w w') ?_ fun e w' ⟨he, hb⟩ => ⟨none, 0, 0, [], [], by rw [hok]; exact he, RepFF.nil _ _ _, by rw [hok]; rfl, hb⟩
    rw [h1] at K1
    rw [h2] at K2
    clear hok h1 h2
    go_enter Try.func11, Try.ntmps11
    go_wp2_with fail
    refine (K1.out _ (by go_simp)).mono ?_
    rintro e w1 ⟨rfl, rfl⟩
    go_wp2_with fail
    refine (K2.out _).mono ?_
    rintro e w2 ⟨rfl, rfl⟩
    go_wp2
    go_ret2
    exact ⟨rfl, below1 _ _⟩
  have hok : emptyOk k cnt = true := by unfold emptyOk; rw [h2, h1]; rfl
  have ⟨g0, g1⟩ := inB_iff.1 h2
  obtain ⟨n, rfl⟩ := Int.eq_ofNat_of_zero_le g0
  have k3 := fun W hg hc => spec_l05Empty W w.heap.size hg k hc n (by omega)
  have K3 := Lib.hid k3
  refine via (A := fun e w' => ∃ v vs, e = .returned (.tuple #[v, .bool true]) ∧ Hid (Zrows w' w.heap.size v (slotsN k) n vs) ∧ Below w.heap.size w w') ?_ fun e w' ⟨v, vs, he, hz, hb⟩ => by
    obtain ⟨ad, cap, rfl, hr⟩ := hz.out.rep
    exact ⟨ad, _, cap, vs, _, by rw [hok]; exact he, hr, by rw [hok]; rfl, hb⟩
  rw [h1] at K1
  rw [h2] at K2
  clear h1 h2 k3 hok
  go_enter Try.func11, Try.ntmps11
  go_wp2_with fail
  refine (K1.out _ (by go_simp)).mono ?_
  rintro e w1 ⟨rfl, rfl⟩
  go_wp2_with fail
  refine (K2.out _).mono ?_
  rintro e w2 ⟨rfl, rfl⟩
  go_wp2_with fail
  refine (K3.out _ (by simp) (by go_simp)).mono ?_
  rintro e w3 ⟨v, vs, rfl, hz, hb⟩
  go_wp2
  go_ret2
  refine ⟨_, vs, rfl, ?_, bthen (below1 _ _) hb⟩
  have := hz.out
  refine Lib.hid ⟨((Row.mk' this.row).bounds (by simp) (Nat.le_refl _)).own, fun i hi => ?_, this.sep⟩
  obtain ⟨g, e1, e2⟩ := this.inn i hi
  exact ⟨g, e1, e2.bounds (by simp) (Nat.le_refl _)⟩
theorem zeroRows_len (s n : Nat) : ∀ i, i < s → ((zeroRows s n).getD i []).length = n := by
  intro i hi
  unfold zeroRows
  rw [List.getD_eq_getElem?_getD, List.getElem?_replicate, if_pos hi]; simp
theorem cum_zero (s n : Nat) : cum (zeroRows s n) s = s * n := by
  unfold cum zeroRows
  rw [List.take_of_length_le (by simp)]
  simp
set_option maxHeartbeats 8000000 in
set_option maxRecDepth 100000 in
theorem fnExactEmptySlots_walk (w : World) (k : Int) (r b1 b2 ep : Nat) (h0 : (Lit.int .i64 k).wf = true) (h1 : r < 4294967296) (h2 : b1 < 4294967296) (h3 : b2 < 4294967296) (h4 : ep < 4294967296) (cnt : Int) (h5 : (Lit.int .i64 cnt).wf = true) :
    Calls Try.prog 3 #[.agg #[.int .i64 k, .float .f32 r, .float .f32 b1, .float .f32 b2, .float .f32 ep], .int .i64 cnt] w fun e w' => e = .returned (.bool true) ∧ Below w.heap.size w w' := by
  clear h0 h1 h2 h3 h4 h5
  obtain ⟨X, hX⟩ : ∃ X, X = (if emptyOk k cnt = true then zeroRows (slotsN k) cnt.toNat else []) := ⟨_, rfl⟩
  have hXl : X.length ≤ 2 ∧ (∀ i, i < X.length → (X.getD i []).length ≤ 1048576) ∧ cum X X.length ≤ 1000 := by
    rw [hX]
    have hs := slotsN_le k
    cases hok : emptyOk k cnt
    · rw [if_neg (by decide)]; exact ⟨by simp, fun i hi => by simp at hi, by decide⟩
    · rw [if_pos rfl]
      simp only [emptyOk, Bool.and_eq_true] at hok
      have ⟨g0, g1⟩ := inB_iff.1 hok.2
      have hl : (zeroRows (slotsN k) cnt.toNat).length = slotsN k := by simp [zeroRows]
      rw [hl]
      refine ⟨hs, fun i hi => by rw [zeroRows_len _ _ i hi]; omega, ?_⟩
      rw [cum_zero]
      have : slotsN k * cnt.toNat ≤ 2 * 256 := Nat.mul_le_mul hs (by omega)
      omega
  obtain ⟨hX1, hX2, hX3⟩ := hXl
  have HX := Lib.hid hX
  have HX2 := Lib.hid hX2; clear hX hX2
  obtain ⟨ok, hOK⟩ : ∃ ok, ok = emptyOk k cnt := ⟨_, rfl⟩
  have HOK := Lib.hid hOK; clear hOK
  go_enter Try.func3, Try.ntmps3
  go_wp2_with fail
  refine (laws_toOptimizer _ _ _ _ _ _).mono ?_
  rintro e w1 ⟨rfl, hb1⟩
  obtain ⟨hc1, hf1, hl1⟩ := bkeep w.heap.size hb1 (by first | assumption | simp)
  go_wp2_with fail
  refine (spec_EmptySlots _ _ _ _ _ _ _).mono ?_
  rintro e w2 ⟨ad2, n2, cap2, vs2, Xs2, rfl, hr2, he2, hb2⟩
  rw [← HX.out] at he2
  rw [← HOK.out]
  rw [he2] at hr2; clear he2
  obtain ⟨hc2, hf2, hl2⟩ := bkeep w.heap.size hb2 (by first | assumption | simp)
  have HB := Lib.hid (bthen (bthen (below1 _ _) hb1) hb2)
  have HR2 := Lib.hid hr2; clear hb1 hb2 hr2
  go_wp2_with fail
  refine (laws_toOptimizer _ _ _ _ _ _).mono ?_
  rintro e w3 ⟨rfl, hb3⟩
  obtain ⟨hc3, hf3, hl3⟩ := bkeep w.heap.size hb3 (by first | assumption | simp)
  have HR2 := Lib.hid (HR2.out.below hb3)
  have z3 := hb3.size
  have HB := Lib.hid (bthen HB.out hb3); clear hb3
  go_wp2_with fail
  refine (impl_EmptySlots _ _ _ _ _ _ _).mono ?_
  rintro e w4 ⟨ad4, n4, cap4, vs4, Xs4, rfl, hr4, he4, hb4⟩
  rw [← HX.out] at he4
  rw [← HOK.out]
  rw [he4] at hr4; clear he4
  obtain ⟨hc4, hf4, hl4⟩ := bkeep w.heap.size hb4 (by first | assumption | simp)
  have HR2 := Lib.hid (HR2.out.below hb4)
  have z4 := hb4.size
  have HB := Lib.hid (bthen HB.out hb4)
  have HR4 := Lib.hid hr4; clear hb4 hr4
  obtain rfl : n2 = n4 := by rw [← HR2.out.len, HR4.out.len]
  have hn : X.length = n2 := HR4.out.len
  rw [hn] at hX1 hX3
  have HX2 : Hid (∀ i, i < n2 → (X.getD i []).length ≤ 1048576) := Lib.hid (fun i hi => HX2.out i (by omega))
  have HN := Lib.hid hn; clear hn
  go_wp2_with fail
  refine (FF_eq _ HR4.out HR2.out rfl (by omega) HX2.out).mono ?_
  rintro e w5 ⟨rfl, hb5⟩
  obtain ⟨hc5, hf5, hl5⟩ := bkeep w.heap.size hb5 (by first | assumption | simp)
  have HR2 := Lib.hid (HR2.out.below hb5)
  have HR4 := Lib.hid (HR4.out.below hb5)
  have z5 := hb5.size
  have HB := Lib.hid (bthen HB.out hb5); clear hb5
  go_wp2_with fail
  refine (FF_mark _ 1 HR4.out (by omega) (by omega) HX2.out).mono ?_
  rintro e w6 ⟨rfl, hm6, ht6⟩
  obtain ⟨Ys, hr6, hm6⟩ := hm6.out
  have HM := Lib.hid hm6
  have HR2 := Lib.hid (HR2.out.touch ht6 (.inl (by omega)))
  have HR6 := Lib.hid hr6
  have z6 := ht6.size
  have hc6 : ∀ o, w6.cell? ⟨w.heap.size, o, none⟩ = w5.cell? ⟨w.heap.size, o, none⟩ := fun o => World.cell?_of_block (w := w5) (ht6.block _ (by omega) (.inl (by omega)))
  have HB := Lib.hid (touch_below HB.out ht6 (by omega)); clear ht6 hr6 hm6
  go_wp2_with fail
  refine (FF_held _ 1 HR6.out HM.out HN.out (by omega) (by omega) HX2.out).mono ?_
  rintro e we ⟨rfl, rfl⟩
  go_wp2_with fail
  refine (laws_toOptimizer _ _ _ _ _ _).mono ?_
  rintro e w7 ⟨rfl, hb7⟩
  obtain ⟨hc7, hf7, hl7⟩ := bkeep w.heap.size hb7 (by omega)
  have HR2 := Lib.hid (HR2.out.below hb7)
  have HR6 := Lib.hid (HR6.out.below hb7)
  have z7 := hb7.size
  have HB := Lib.hid (bthen HB.out hb7); clear hb7
  go_wp2_with fail
  refine (impl_EmptySlots _ _ _ _ _ _ _).mono ?_
  rintro e w8 ⟨ad8, n8, cap8, vs8, Xs8, rfl, hr8, he8, hb8⟩
  rw [← HX.out] at he8
  rw [← HOK.out]
  rw [he8] at hr8; clear he8
  obtain rfl : n2 = n8 := by rw [← HR2.out.len, hr8.len]
  have HR2 := Lib.hid (HR2.out.below hb8)
  have HR6 := Lib.hid (HR6.out.below hb8)
  have HR8 := Lib.hid hr8
  have z8 := hb8.size
  have HB := Lib.hid (bthen HB.out hb8); clear hb8 hr8
  go_wp2_with fail
  refine (FF_eq _ HR8.out HR2.out rfl (by omega) HX2.out).mono ?_
  rintro e w9 ⟨rfl, hb9⟩
  have HR6 := Lib.hid (HR6.out.below hb9)
  have HB := Lib.hid (bthen HB.out hb9); clear hb9
  go_wp2_with fail
  refine (FF_held _ 1 HR6.out HM.out HN.out (by omega) (by omega) HX2.out).mono ?_
  rintro e we ⟨rfl, rfl⟩
  go_wp2
  go_ret
  exact ⟨rfl, HB.out⟩
end Go.Proofs.Ytlalocjfjnghmaa
