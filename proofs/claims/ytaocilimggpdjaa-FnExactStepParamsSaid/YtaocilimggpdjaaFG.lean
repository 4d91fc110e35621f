/- What comparing, marking slices of slices of numbers does: the walks. No condition. -/
import Derived.Test.YtaocilimggpdjaaFF
namespace Go.Proofs.Ytaocilimggpdjaa
open Go Go.RowKit
set_option linter.unusedVariables false
set_option linter.unusedSimpArgs false
/-- how many numbers the first rows have -/
def cum (Xs : List (List Nat)) (k : Nat) : Nat := ((Xs.take k).map List.length).sum
theorem cum_succ (Xs : List (List Nat)) {k : Nat} (h : k < Xs.length) : cum Xs (k + 1) = cum Xs k + (Xs.getD k []).length := by
  unfold cum
  rw [List.take_succ_eq_append_getElem h, List.map_append, List.sum_append, List.getD_eq_getElem?_getD, List.getElem?_eq_getElem h]
  simp
theorem cum_le (Xs : List (List Nat)) {k n : Nat} (h : k ≤ n) : cum Xs k ≤ cum Xs n := by
  unfold cum
  have : Xs.take n = Xs.take k ++ (Xs.take n).drop k := by
    have := (List.take_append_drop k (Xs.take n)).symm
    rwa [List.take_take, Nat.min_eq_left h] at this
  rw [this, List.map_append, List.sum_append]; omega
theorem getD_set {α : Type} (l : List α) (k i : Nat) (x d : α) (hk : k < l.length) : (l.set k x).getD i d = if i = k then x else l.getD i d := by
  rw [List.getD_eq_getElem?_getD, List.getElem?_set]
  by_cases h : i = k
  · subst h; rw [if_pos rfl, if_pos rfl, if_pos hk]; rfl
  · rw [if_neg (by omega), if_neg h, List.getD_eq_getElem?_getD]
/-- the marks of a slice of slices -/
def Marked (k0 n : Nat) (Xs Ys : List (List Nat)) : Prop := ∀ i, i < n → Ys.getD i [] = markF (k0 + cum Xs i) (Xs.getD i []).length
theorem RepFF.setIn {w w' : World} {lo hi : Nat} {ad : Option Addr} {n cap : Nat} {vs : List Value} {Xs : List (List Nat)} (h : RepFF w lo hi ad n cap vs Xs) {k : Nat} (hk : k < n) {ai : Option Addr} {ci : Nat} {ys : List Nat}
    (hv : vs.getD k (.slice none 0 0) = .slice ai (Xs.getD k []).length ci) (hl : ys.length = (Xs.getD k []).length) (hy : ∀ y ∈ ys, y < 4294967296) (ho : w'.ownsRow lo 22 1 (.slice ai (Xs.getD k []).length ci) (Xs.getD k []).length (ys.map (Value.float .f32))) (hg : w.grownBy w' (Value.slice ai (Xs.getD k []).length ci).ownBlock) :
    RepFF w' lo hi ad n cap vs (Xs.set k ys) := by
  have hkx : k < Xs.length := by rw [h.len]; exact hk
  have hkin := h.inn k hk
  obtain ⟨a0, c0, e0, hf0⟩ := hkin
  rw [hv] at e0
  cases e0
  refine ⟨?_, by simpa using h.len, fun i hi => ?_, h.sep⟩
  · refine ⟨h.row.own.kept hg ?_, h.row.top⟩
    cases e : (Value.slice ad n cap).ownBlock with
    | none => exact .inl rfl
    | some g => exact .inr (fun e2 => row_kinds h.row hf0.row (by decide) g e e2.symm)
  · rw [getD_set _ _ _ _ _ hkx]
    by_cases hik : i = k
    · subst hik
      rw [if_pos rfl]
      refine ⟨ai, ci, by rw [hl]; exact hv, ⟨⟨?_, ?_⟩, rfl, hy⟩⟩
      · rw [hl]; exact ho
      · rw [hl]; exact hf0.row.top
    · rw [if_neg hik]
      obtain ⟨a1, c1, e1, hf1⟩ := h.inn i hi
      refine ⟨a1, c1, e1, hf1.grown hg ?_⟩
      intro g hg1 hg2
      exact h.sep i k hi hk hik g (by rw [e1]; exact hg1) (by rw [hv]; exact hg2)
set_option maxHeartbeats 2000000 in
theorem FF_mark (w : World) {lo hi : Nat} {ad : Option Addr} {n cap : Nat} {vs : List Value} {Xs : List (List Nat)} (k0 : Nat) (h : RepFF w lo hi ad n cap vs Xs) (hn : n ≤ 1048576) (hk : k0 + cum Xs n ≤ 100000000) (hi2 : ∀ i, i < n → (Xs.getD i []).length ≤ 1048576) :
    Calls Try.prog 23 #[.slice ad n cap, .int .i64 k0] w fun e w' => e = .returned (.int .i64 (k0 + cum Xs n : Nat)) ∧ Hid (∃ Ys, RepFF w' lo hi ad n cap vs Ys ∧ Marked k0 n Xs Ys) ∧ Touch lo hi w w' := by
  have H0 := Lib.hid h; clear h
  have HI2 := Lib.hid hi2; clear hi2
  go_enter Try.func23, Try.ntmps23
  go_wp2
  go_loopw [1, 5] (fun q i wr => ∃ k : Nat, i = .int .i64 k ∧ q = .int .i64 (k0 + cum Xs k : Nat) ∧ k ≤ n ∧ ∃ Ys : List (List Nat), RepFF wr lo hi ad n cap vs Ys ∧ (∀ i, (Ys.getD i []).length = (Xs.getD i []).length) ∧ (∀ i, i < k → Ys.getD i [] = markF (k0 + cum Xs i) (Xs.getD i []).length) ∧ Touch lo hi w wr) (fun _ i _ => n - (intOf i).toNat)
  case atStart => exact ⟨0, rfl, rfl, Nat.zero_le _, Xs, H0.out, fun i => rfl, (fun i hi => by omega), Touch.refl _ _ _⟩
  case round =>
    obtain ⟨k, rfl, rfl, hkn, Ys, hr, hlen, hmk, ht⟩ := hrel
    have HR := Lib.hid hr; have HL := Lib.hid hlen; have HM := Lib.hid hmk; have HT := Lib.hid ht; clear hr hlen hmk ht
    by_cases hlt : k < n
    · obtain ⟨b, off, ai, ci, rfl, hb, hc, hf⟩ := HR.out.see.spot (k := k) (by rw [HR.out.len]; exact hlt)
      obtain ⟨a1, c1, e1, hfo⟩ := HR.out.inn k hlt
      have hvk : vs.getD k (.slice none 0 0) = .slice ai (Ys.getD k []).length ci := by
        have h1 := HR.out.see.spot (k := k) (by rw [HR.out.len]; exact hlt)
        obtain ⟨b', off', ai', ci', e', hb', hc', hf'⟩ := h1
        cases e'
        rw [hc] at hc'
        have hrd := HR.out.see.rd
        obtain ⟨b2, off2, e2, _, hc2⟩ := hrd.spot (i := k) (by rw [HR.out.vlen]; exact hlt)
        cases e2
        have h3 := hc2 k (by rw [HR.out.vlen]; exact hlt)
        rw [hc, List.getElem?_eq_getElem (by rw [HR.out.vlen]; exact hlt)] at h3
        rw [List.getD_eq_getElem?_getD, List.getElem?_eq_getElem (by rw [HR.out.vlen]; exact hlt)]
        simpa using h3.symm
      have he1 := e1
      rw [hvk] at he1
      cases he1
      have hcs := cum_succ Xs (k := k) (by have := HR.out.len; have := HL.out; have h0 := H0.out.len; omega)
      have hcl := cum_le Xs (show k + 1 ≤ n by omega)
      have hm := HL.out k
      have hmb := HI2.out k hlt
      obtain ⟨m, hm0⟩ : ∃ m, m = (Ys.getD k []).length := ⟨_, rfl⟩
      have hmark := fun W ho => laws_markFloat32S lo ai ci m ((Ys.getD k []).map (Value.float .f32)) (k0 + cum Xs k) W (by omega) (by omega) ho
      have HMK := Lib.hid hmark; clear hmark
      have hown := hfo.row.own
      rw [← hm0] at hc hown
      have hm1 : m = (Xs.getD k []).length := by rw [hm0, hm]
      rw [← hm1] at hcs
      have HM0 := Lib.hid hm0; have HM1 := Lib.hid hm1; have HV := Lib.hid hvk; have HO := Lib.hid hown; have HCS := Lib.hid hcs
      clear hm0 hm1 hvk hown hcs hf hfo e1 hm hmb hcl
      go_wp2_with fail
      refine (HMK.out _ HO.out).mono ?_
      rintro e w1 ⟨rfl, hown1, hg1⟩
      have hnew := RepFF.setIn HR.out hlt HV.out (ys := markF (k0 + cum Xs k) m) (by rw [markF_length, HM0.out]) (markF_lt _ _) (by rw [← HM0.out]; exact hown1) (by rw [← HM0.out]; exact hg1)
      have htch : Touch lo hi w w1 := HT.out.trans (by
        obtain ⟨a1, c1, e1, hfo⟩ := HR.out.inn k hlt
        rw [HV.out] at e1; cases e1
        exact Touch.of_grown hfo.row (by rw [← HM0.out]; exact hg1))
      have HN := Lib.hid hnew; have HT1 := Lib.hid htch
      clear hnew htch hown1 hg1
      go_wp2
      go_roundw
      case rel =>
        refine ⟨k + 1, by go_num, by rw [HCS.out]; congr 1; omega, hlt, _, HN.out, ?_, ?_, HT1.out⟩
        · intro i
          rw [getD_set _ _ _ _ _ (by rw [HR.out.len]; exact hlt)]
          by_cases hik : i = k
          · subst hik; rw [if_pos rfl, markF_length, HM1.out]
          · rw [if_neg hik]; exact HL.out i
        · intro i hi'
          rw [getD_set _ _ _ _ _ (by rw [HR.out.len]; exact hlt)]
          by_cases hik : i = k
          · subst hik; rw [if_pos rfl, HM1.out]
          · rw [if_neg hik]; exact HM.out i (by omega)
      case measure => simp [intOf]; omega
    · have hkn2 : k = n := by omega
      subst hkn2
      go_wp2
      go_ret
      exact ⟨rfl, Lib.hid ⟨Ys, HR.out, HM.out⟩, HT.out⟩
set_option maxHeartbeats 2000000 in
theorem FF_held (w : World) {lo hi : Nat} {ad : Option Addr} {n cap : Nat} {vs : List Value} {Xs Ys : List (List Nat)} (k0 : Nat) (h : RepFF w lo hi ad n cap vs Ys) (hm : Marked k0 n Xs Ys) (hx : Xs.length = n) (hn : n ≤ 1048576) (hk : k0 + cum Xs n ≤ 100000000) (hi2 : ∀ i, i < n → (Xs.getD i []).length ≤ 1048576) :
    Calls Try.prog 25 #[.slice ad n cap, .int .i64 k0] w fun e w' => e = .returned (.int .i64 (k0 + cum Xs n : Nat)) ∧ w = w' := by
  have H0 := Lib.hid h; have HM := Lib.hid hm; have HI2 := Lib.hid hi2; have HX := Lib.hid hx; clear h hm hi2 hx
  go_enter Try.func25, Try.ntmps25
  go_wp2
  go_loop [1, 5] (fun q i => ∃ k : Nat, i = .int .i64 k ∧ q = .int .i64 (k0 + cum Xs k : Nat) ∧ k ≤ n) (fun _ i => n - (intOf i).toNat)
  case atStart => exact ⟨0, rfl, rfl, Nat.zero_le _⟩
  case round =>
    obtain ⟨k, rfl, rfl, hkn⟩ := hrel
    by_cases hlt : k < n
    · obtain ⟨b, off, ai, ci, rfl, hb, hc, hf⟩ := H0.out.see.spot (k := k) (by rw [H0.out.len]; exact hlt)
      have hcs := cum_succ Xs (k := k) (by rw [HX.out]; exact hlt)
      have hcl := cum_le Xs (show k + 1 ≤ n by omega)
      have hmb := HI2.out k hlt
      have hmk := HM.out k hlt
      rw [hmk, markF_length] at hc
      rw [hmk] at hf
      obtain ⟨m, hm0⟩ : ∃ m, m = (Xs.getD k []).length := ⟨_, rfl⟩
      rw [← hm0] at hc hf hcs hmb
      have hheld := fun W hW => laws_heldFloat32S ai ci m (markF (k0 + cum Xs k) m) (k0 + cum Xs k) W (by omega) (by omega) hW rfl
      have HH := Lib.hid hheld; have HF := Lib.hid hf; have HCS := Lib.hid hcs; clear hheld hf hcs hmk hm0 hmb hcl
      go_wp2_with fail
      refine (HH.out _ HF.out).mono ?_
      rintro e w1 ⟨rfl, rfl⟩
      have hnn : 0 ≤ ((k0 + cum Xs k + m : Nat) : Int) := by omega
      go_wp2
      go_round
      case rel => exact ⟨k + 1, by go_num, by rw [HCS.out]; congr 1; omega, hlt⟩
      case measure => simp [intOf]; omega
    · have hkn2 : k = n := by omega
      subst hkn2
      go_wp2
      go_ret
      exact ⟨rfl, rfl⟩
set_option maxHeartbeats 2000000 in
theorem FF_eqS (w : World) {a1 a2 : Option Addr} {c1 c2 : Nat} {vs1 vs2 : List Value} {Xs Ys : List (List Nat)} (h1 : SeeFF w a1 c1 vs1 Xs) (h2 : SeeFF w a2 c2 vs2 Ys) (he : Xs.map (List.map (cn .f32)) = Ys.map (List.map (cn .f32))) (hn : Xs.length ≤ 1048576) (hi : ∀ i, i < Xs.length → (Xs.getD i []).length ≤ 1048576) :
    Calls Try.prog 21 #[.slice a1 Xs.length c1, .slice a2 Ys.length c2] w fun e w' => e = .returned (.bool true) ∧ Dr w w' := by
  have hl : Xs.length = Ys.length := by have := congrArg List.length he; simpa using this
  rw [← hl]
  obtain ⟨n, hN⟩ : ∃ n, n = Xs.length := ⟨_, rfl⟩
  have HL := Lib.hid hl; clear hl
  rw [← hN] at hn hi ⊢
  have HN := Lib.hid hN; have HE := Lib.hid he; have HI := Lib.hid hi; clear hN he hi
  go_enter Try.func21, Try.ntmps21
  go_wp2
  go_loopw [5] (fun i wr => ∃ k : Nat, i = .int .i64 k ∧ k ≤ n ∧ Dr w wr) (fun i _ => n - (intOf i).toNat)
  case atStart => exact ⟨0, rfl, Nat.zero_le _, Dr.refl _⟩
  case round =>
    obtain ⟨k, rfl, hk, hdr⟩ := hrel
    have h1 := h1.below hdr.below
    have h2 := h2.below hdr.below
    by_cases hlt : k < n
    · have hkx : k < Xs.length := by rw [← HN.out]; exact hlt
      have hky : k < Ys.length := by rw [← HL.out]; exact hkx
      obtain ⟨b, off, ai, ci, rfl, _, hc, hf⟩ := h1.spot hkx
      obtain ⟨b', off', ai', ci', rfl, _, hc', hf'⟩ := h2.spot hky
      have e1 : (Xs.getD k []).map (cn .f32) = (Ys.getD k []).map (cn .f32) := by
        have e1 := congrArg (fun l => l[k]?) HE.out
        simp only [List.getElem?_map, List.getElem?_eq_getElem hkx, List.getElem?_eq_getElem hky, Option.map_some, Option.some.injEq] at e1
        rw [List.getD_eq_getElem?_getD, List.getD_eq_getElem?_getD, List.getElem?_eq_getElem hkx, List.getElem?_eq_getElem hky]
        exact e1
      have hb := HI.out k hlt
      obtain ⟨X, hX⟩ : ∃ X, X = Xs.getD k [] := ⟨_, rfl⟩
      obtain ⟨Y, hY⟩ : ∃ Y, Y = Ys.getD k [] := ⟨_, rfl⟩
      rw [← hX] at hc hf e1 hb
      rw [← hY] at hc' hf' e1
      have heq := fun W (hD : Dr wr W) => laws_eqFloat32S ai ai' ci ci' X Y W (hf.below hD.below) (hf'.below hD.below) hb e1
      have HQ := Lib.hid heq
      have HD := Lib.hid hdr
      obtain ⟨x, hx⟩ : ∃ x, x = X.length := ⟨_, rfl⟩
      obtain ⟨y, hy⟩ : ∃ y, y = Y.length := ⟨_, rfl⟩
      rw [← hx] at hc HQ
      rw [← hy] at hc' HQ
      clear hdr h1 h2 hf hf' e1 heq hX hY hx hy hb
      go_wp2
      refine wp_region_drawn (fun f args v => v = .bool true) (by kernel_rfl) (by kernel_rfl) ?_
      repeat (refine wset_step (fun K hK nq => ?_); go_simp; refine hK _ ?_; clear hK K)
      refine wset_step (fun K hK nq => ?_)
      go_simp
      refine ⟨(HQ.out _ ⟨_, rfl⟩).mono ?_, ?_⟩
      · rintro e w' ⟨rfl, q, rfl⟩
        exact ⟨rfl, _, World.drewN_drewN _ _ _⟩
      refine hK _ ?_
      clear hK K
      repeat (refine wset_step (fun K hK nq => ?_); go_simp; refine hK _ ?_; clear hK K)
      refine wset_nil ?_
      rintro w' ⟨q, rfl⟩
      go_wp2
      go_roundw
      case rel => exact ⟨k + 1, by go_num, hlt, by obtain ⟨q', hq⟩ := HD.out; exact ⟨_, by rw [hq, World.drewN_drewN]⟩⟩
      case measure => simp [intOf]; omega
    · go_wp2
      go_ret
      exact ⟨rfl, hdr⟩
theorem FF_eq (w : World) {lo1 hi1 lo2 hi2 : Nat} {a1 a2 : Option Addr} {n1 n2 c1 c2 : Nat} {vs1 vs2 : List Value} {Xs Ys : List (List Nat)} (h1 : RepFF w lo1 hi1 a1 n1 c1 vs1 Xs) (h2 : RepFF w lo2 hi2 a2 n2 c2 vs2 Ys) (he : Xs.map (List.map (cn .f32)) = Ys.map (List.map (cn .f32))) (hn : n1 ≤ 1048576) (hi : ∀ i, i < n1 → (Xs.getD i []).length ≤ 1048576) :
    Calls Try.prog 21 #[.slice a1 n1 c1, .slice a2 n2 c2] w fun e w' => e = .returned (.bool true) ∧ Below w.heap.size w w' := by
  have e1 := h1.len; have e2 := h2.len
  subst e1 e2
  exact (FF_eqS w h1.see h2.see he hn hi).mono fun e w' ⟨h, hd⟩ => ⟨h, hd.below⟩
end Go.Proofs.Ytaocilimggpdjaa
