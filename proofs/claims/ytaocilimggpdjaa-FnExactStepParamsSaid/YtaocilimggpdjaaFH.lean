/- What copying, measuring slices of slices of numbers does; rows set and appended. No condition. -/
import Derived.Test.YtaocilimggpdjaaEmp
namespace Go.Proofs.Ytaocilimggpdjaa
open Go Go.RowKit
set_option linter.unusedVariables false
set_option linter.unusedSimpArgs false
/-- a slice of slices among the arguments -/
def ArgFF (w : World) (ad : Option Addr) (cap : Nat) (Xs : List (List Nat)) : Prop := ∃ vs, SeeFF w ad cap vs Xs
theorem ArgFF.below {w w' : World} {ad : Option Addr} {cap : Nat} {Xs : List (List Nat)} (h : ArgFF w ad cap Xs) (hb : Below w.heap.size w w') : ArgFF w' ad cap Xs := by
  obtain ⟨vs, h⟩ := h
  exact ⟨vs, h.below hb⟩
section
variable {H : Type} {enc : TypeId × Value → H} {w : World} {base : Nat} {spare : Nat → Bool} {held : Bool}
theorem dec_f32ss {n : Nat} {cs : List Value} {y : DataW H × List MemPlace} (h : DataW.trod enc Try.prog w base spare held n 26 cs = some y) : ∃ ad cap Xs, cs = [.slice ad (List.length Xs) cap] ∧ ArgFF w ad cap Xs := by
  obtain ⟨a, l, c, rfl⟩ := Joins.slice_form Try.underlying26 h
  obtain ⟨ad, cap, bs, h1, h2, h3, h4, h5⟩ := open_rows (v := .slice a l c) (fun b : Option Addr × Nat × List Nat => [Value.slice b.1 b.2.2.length b.2.1]) (fun b => F32s w b.1 b.2.1 b.2.2) Try.underlying26 (fun n cs y hy => by
    obtain ⟨a1, c1, xs, e, hf⟩ := dec_f32s Try.underlying25 Try.underlying22 hy
    exact ⟨(a1, c1, xs), e, hf⟩) ⟨n, by simpa [Value.cells] using h⟩ ⟨a, l, c, rfl⟩
  rw [← List.map_eq_flatMap] at h4
  refine ⟨ad, cap, bs.map (·.2.2), by rw [h1, List.length_map], bs.map (fun b => Value.slice b.1 b.2.2.length b.2.1), ⟨by simp, by simpa using h2, h3, h4, fun i hi => ?_⟩⟩
  rw [List.length_map] at hi
  refine ⟨(bs[i]).1, (bs[i]).2.1, ?_, ?_⟩
  · simp [List.getD_eq_getElem?_getD, List.getElem?_map, List.getElem?_eq_getElem hi]
  · have := h5 (bs[i]) (List.getElem_mem hi)
    simpa [List.getD_eq_getElem?_getD, List.getElem?_map, List.getElem?_eq_getElem hi] using this
end
theorem RepFF.addr {w : World} {lo hi : Nat} {ad : Option Addr} {n cap : Nat} {vs : List Value} {Xs : List (List Nat)} (h : RepFF w lo hi ad n cap vs Xs) (hp : 0 < n) :
    ∃ g, ad = some ⟨g, 0, none⟩ ∧ lo ≤ g ∧ g < w.heap.size ∧ (∀ k, k < n → w.cell? ⟨g, k, none⟩ = some (vs.getD k (.slice none 0 0))) ∧ (∀ k, w.frozen? ⟨g, k, none⟩ = false) := by
  have hv := h.vlen
  obtain ⟨g, cap', hform⟩ := Joins.ownsRow_form h.row.own hp
  have had : ad = some ⟨g, 0, none⟩ := by cases hform; rfl
  clear hform
  subst had
  refine ⟨g, rfl, (h.row.own.lt g rfl).1, (h.row.own.lt g rfl).2, fun k hk => ?_, fun k => h.row.own.frozenAt k⟩
  rw [h.row.own.cellAt k (by omega), List.getD_eq_getElem?_getD, List.getElem?_eq_getElem (by omega)]; rfl
/-- a row is set, which is new -/
theorem RepFF.setRow {w w1 : World} {lo g n cap : Nat} {vs : List Value} {Xs : List (List Nat)} (h : RepFF w lo w.heap.size (some ⟨g, 0, none⟩) n cap vs Xs) (hb : Below w.heap.size w w1) {k : Nat} (hk : k < n) {ai : Option Addr} {m ci : Nat} {xs : List Nat} (hr : RepF w1 w.heap.size w1.heap.size ai m ci xs) :
    RepFF (w1.setCell ⟨g, k, none⟩ (.slice ai m ci)) lo w1.heap.size (some ⟨g, 0, none⟩) n cap (vs.set k (.slice ai m ci)) (Xs.set k xs) := by
  have hv := h.vlen
  have hxl := h.len
  have hlo : lo ≤ w.heap.size := by have := (h.row.own.lt g rfl); omega
  have hs := hb.size
  have h1 := h.below hb
  have hst := h1.row.own.stored k (.slice ai m ci)
  have hin : ∀ i, i < n → ∀ b, (vs.getD i (.slice none 0 0)).ownBlock = some b → b < w.heap.size := by
    intro i hi b e
    obtain ⟨a1, c1, e1, hf⟩ := h.inn i hi
    rw [e1] at e
    exact hf.row.top b e
  have hnew : ∀ b, (Value.slice ai m ci).ownBlock = some b → w.heap.size ≤ b := fun b e => (hr.row.own.lt b e).1
  refine ⟨⟨hst.1, fun j hj => ?_⟩, by simpa using h.len, fun i hi => ?_, fun i j hi hj hij b e1 e2 => ?_⟩
  · exact Nat.lt_of_lt_of_le (h.row.top j hj) hs
  · rw [getD_set _ _ _ _ _ (by omega), getD_set _ _ _ _ _ (by omega)]
    by_cases hik : i = k
    · rw [if_pos hik, if_pos hik]
      refine ⟨ai, ci, by rw [hr.len], ?_⟩
      rw [hr.len]
      exact (hr.grown hst.2 (fun b e e2 => by have e3 : g = b := by simpa using e2
                                              have := hnew b e
                                              have := (h.row.own.lt g rfl).2
                                              omega)).bounds hlo (Nat.le_refl _)
    · rw [if_neg hik, if_neg hik]
      obtain ⟨a1, c1, e1, hf⟩ := h1.inn i hi
      exact ⟨a1, c1, e1, (hf.grown hst.2 (fun b e e2 => row_kinds h1.row hf.row (by decide) b (by rw [← e2]; rfl) e)).bounds (Nat.le_refl _) hs⟩
  · rw [getD_set _ _ _ _ _ (by omega)] at e1 e2
    by_cases hik : i = k
    · rw [if_pos hik] at e1
      rw [if_neg (by omega)] at e2
      have := hnew b e1
      have := hin j hj b e2
      omega
    · rw [if_neg hik] at e1
      by_cases hjk : j = k
      · rw [if_pos hjk] at e2
        have := hnew b e2
        have := hin i hi b e1
        omega
      · rw [if_neg hjk] at e2
        exact h.sep i j hi hj hij b e1 e2
/-- one more row -/
theorem RepFF.snoc {w w1 w2 : World} {lo k cap : Nat} {ad : Option Addr} {v' : Value} {vs : List Value} {Xs : List (List Nat)} (h : RepFF w lo w.heap.size ad k cap vs Xs) (hlo : lo ≤ w.heap.size) (hb : Below w.heap.size w w1) {ai : Option Addr} {m ci : Nat} {xs : List Nat} (hr : RepF w1 w.heap.size w1.heap.size ai m ci xs)
    (ho : w2.ownsRow lo 25 1 v' (k + 1) (vs ++ [.slice ai m ci])) (hgr : (w1.alloc (.cells #[.slice ai m ci] 25)).grownBy w2 (Value.slice ad k cap).ownBlock) :
    ∃ ad' cap', v' = .slice ad' (k + 1) cap' ∧ RepFF w2 lo w2.heap.size ad' (k + 1) cap' (vs ++ [.slice ai m ci]) (Xs ++ [xs]) := by
  have hv := h.vlen
  have hxl := h.len
  have hs := hb.size
  have hs2 : w1.heap.size ≤ w2.heap.size := by have := hgr.size; simp at this; omega
  have h1 := (h.below hb).below (below1 w1 (.cells #[.slice ai m ci] 25))
  have hr1 := hr.below (below1 w1 (.cells #[.slice ai m ci] 25))
  have hin : ∀ i, i < k → ∀ b, (vs.getD i (.slice none 0 0)).ownBlock = some b → b < w.heap.size := by
    intro i hi b e
    obtain ⟨a1, c1, e1, hf⟩ := h.inn i hi
    rw [e1] at e
    exact hf.row.top b e
  have hnew : ∀ b, (Value.slice ai m ci).ownBlock = some b → w.heap.size ≤ b := fun b e => (hr.row.own.lt b e).1
  have key : ∀ q, q < k + 1 → (vs ++ [Value.slice ai m ci]).getD q (.slice none 0 0) = if q = k then .slice ai m ci else vs.getD q (.slice none 0 0) := by
    intro q hq
    by_cases hqk : q = k
    · rw [if_pos hqk, hqk, List.getD_eq_getElem?_getD, List.getElem?_append_right (by omega), hv]; simp
    · rw [if_neg hqk, List.getD_eq_getElem?_getD, List.getElem?_append_left (by omega), ← List.getD_eq_getElem?_getD]
  have keyx : ∀ q, q < k + 1 → (Xs ++ [xs]).getD q [] = if q = k then xs else Xs.getD q [] := by
    intro q hq
    by_cases hqk : q = k
    · rw [if_pos hqk, hqk, List.getD_eq_getElem?_getD, List.getElem?_append_right (by omega), hxl]; simp
    · rw [if_neg hqk, List.getD_eq_getElem?_getD, List.getElem?_append_left (by omega), ← List.getD_eq_getElem?_getD]
  obtain ⟨ad', cap', rfl, _⟩ := Rd.of_owns ho
  refine ⟨ad', cap', rfl, Row.mk' ho, by simp [hxl], fun i hi => ?_, fun i j hi hj hij b e1 e2 => ?_⟩
  · rw [key i hi, keyx i hi]
    by_cases hik : i = k
    · rw [if_pos hik, if_pos hik]
      refine ⟨ai, ci, by rw [hr.len], ?_⟩
      rw [hr.len]
      refine (hr1.grown hgr (fun b e e2 => ?_)).bounds hlo hs2
      have := hnew b e
      have := (h.row.own.lt b e2).2
      omega
    · rw [if_neg hik, if_neg hik]
      obtain ⟨a1, c1, e1, hf⟩ := h1.inn i (by omega)
      exact ⟨a1, c1, e1, (hf.grown hgr (fun b e e2 => row_kinds h1.row hf.row (by decide) b e2 e)).bounds (Nat.le_refl _) (by omega)⟩
  · rw [key i hi] at e1
    rw [key j hj] at e2
    by_cases hik : i = k
    · rw [if_pos hik] at e1
      rw [if_neg (by omega)] at e2
      have := hnew b e1
      have := hin j (by omega) b e2
      omega
    · rw [if_neg hik] at e1
      by_cases hjk : j = k
      · rw [if_pos hjk] at e2
        have := hnew b e2
        have := hin i (by omega) b e1
        omega
      · rw [if_neg hjk] at e2
        exact h.sep i j (by omega) (by omega) hij b e1 e2
/-- rows that are made -/
theorem RepFF.made {w w1 : World} {n : Nat} (h : w1.ownsRow w.heap.size 25 1 (.slice (some ⟨w.heap.size, 0, none⟩) n n) n (madeCells #[Value.slice none 0 0] n).toList) : RepFF w1 w.heap.size w1.heap.size (some ⟨w.heap.size, 0, none⟩) n n (List.replicate n (.slice none 0 0)) (List.replicate n []) := by
  rw [toList_madeCells_one] at h
  have e1 : ∀ i, i < n → (List.replicate n (Value.slice none 0 0)).getD i (.slice none 0 0) = .slice none 0 0 := by intro i hi; rw [List.getD_eq_getElem?_getD, List.getElem?_replicate, if_pos hi]; rfl
  have e2 : ∀ i, i < n → (List.replicate n ([] : List Nat)).getD i [] = [] := by intro i hi; rw [List.getD_eq_getElem?_getD, List.getElem?_replicate, if_pos hi]; rfl
  refine ⟨Row.mk' h, by simp, fun i hi => ?_, fun i j hi hj _ b e => ?_⟩
  · rw [e1 i hi, e2 i hi]
    exact ⟨none, 0, rfl, RepF.nil _ _ _⟩
  · rw [e1 i hi] at e; cases e
theorem sz_f32s (w : World) (ad : Option Addr) (n cap : Nat) (L : Int) (hn : n ≤ maxLen) (h0 : 0 ≤ L) (h1 : L ≤ 1048576) : Calls Try.prog 74 #[.slice ad n cap, .int .i64 L] w fun e w' => e = .returned (.int .i64 (if (n : Int) ≤ L then L - n else -1)) ∧ w = w' := by
  unfold maxLen at hn
  by_cases h : (n : Int) ≤ L
  · rw [if_pos h]
    go_enter Try.func74, Try.ntmps74
    go_wp2
    go_ret
    exact ⟨rfl, rfl⟩
  · rw [if_neg h]
    go_enter Try.func74, Try.ntmps74
    go_wp2
    go_ret
    exact ⟨rfl, rfl⟩
/-- what is left when rows are counted -/
def leftSS (Xs : List (List Nat)) (n : Nat) (L : Int) : Int := if (Xs.length + cum Xs n : Nat) ≤ L then L - (Xs.length + cum Xs n : Nat) else -1
set_option maxHeartbeats 1000000 in
theorem sz_f32ss (w : World) (ad : Option Addr) (cap : Nat) (Xs : List (List Nat)) (h : ArgFF w ad cap Xs) (L : Int) (h0 : 0 ≤ L) (h1 : L ≤ 1048576) : Calls Try.prog 14 #[.slice ad Xs.length cap, .int .i64 L] w fun e w' => e = .returned (.int .i64 (leftSS Xs Xs.length L)) ∧ w = w' := by
  obtain ⟨vs, h⟩ := h
  have hm : Xs.length ≤ maxLen := by have := h.le; have := h.cap; have := h.len; omega
  unfold maxLen at hm
  obtain ⟨n, hN⟩ : ∃ n, n = Xs.length := ⟨_, rfl⟩
  rw [← hN] at hm ⊢
  obtain ⟨R, hR⟩ : ∃ R, R = leftSS Xs n L := ⟨_, rfl⟩
  rw [← hR]
  have HN := Lib.hid hN; have HR := Lib.hid hR; clear hN hR
  by_cases hn : (n : Int) ≤ L
  · go_enter Try.func14, Try.ntmps14
    go_wp2
    go_loop [1, 5] (fun l i => ∃ k : Nat, ∃ r : Int, i = .int .i64 k ∧ l = .int .i64 r ∧ k ≤ n ∧ 0 ≤ r ∧ r ≤ 1048576 ∧ Hid (r + (n + cum Xs k : Nat) = L)) (fun _ i => n - (intOf i).toNat)
    case atStart => exact ⟨0, L - n, rfl, rfl, Nat.zero_le _, by omega, by omega, Lib.hid (by unfold cum; simp)⟩
    case round =>
      obtain ⟨k, r, rfl, rfl, hk, hr0, hr1, hr⟩ := hrel
      by_cases hlt : k < n
      · have hkx : k < Xs.length := by rw [← HN.out]; exact hlt
        obtain ⟨b, off, ai, ci, rfl, _, hc, hf⟩ := h.spot hkx
        have hcs := cum_succ Xs hkx
        have hcl := cum_le Xs (show k + 1 ≤ n by omega)
        have hml : (Xs.getD k []).length ≤ maxLen := Nat.le_trans hf.len hf.cap
        obtain ⟨m, hm0⟩ : ∃ m, m = (Xs.getD k []).length := ⟨_, rfl⟩
        rw [← hm0] at hc hcs hml
        have HCS := Lib.hid hcs; have HCL := Lib.hid hcl
        clear hf hm0 hcs hcl
        have k1 := fun W => sz_f32s W ai m ci r hml hr0 hr1
        by_cases hmr : (m : Int) ≤ r
        · rw [if_pos hmr] at k1
          have K1 := Lib.hid k1; clear k1
          go_wp2_with fail
          refine (K1.out _).mono ?_
          rintro e w1 ⟨rfl, rfl⟩
          go_wp2
          go_round
          case rel => exact ⟨k + 1, r - m, by go_num, rfl, hlt, by omega, by omega, Lib.hid (by have := hr.out; have := HCS.out; omega)⟩
          case measure => simp [intOf]; omega
        · rw [if_neg hmr] at k1
          have K1 := Lib.hid k1; clear k1
          have hE : leftSS Xs n L = -1 := by
            unfold leftSS
            rw [if_neg]
            have := hr.out; have := HCS.out; have := HCL.out
            rw [← HN.out]
            omega
          have HE := Lib.hid (HR.out.trans hE); clear hE
          go_wp2_with fail
          refine (K1.out _).mono ?_
          rintro e w1 ⟨rfl, rfl⟩
          go_wp2
          go_ret
          exact ⟨by rw [HE.out]; rfl, rfl⟩
      · have hkn : k = n := by omega
        subst hkn
        have hE : leftSS Xs k L = r := by
          unfold leftSS
          have := hr.out
          rw [← HN.out, if_pos (by omega)]
          omega
        have HE := Lib.hid (HR.out.trans hE); clear hE
        go_wp2
        go_ret
        exact ⟨by rw [HE.out]; rfl, rfl⟩
  · have hE : leftSS Xs n L = -1 := by unfold leftSS; rw [← HN.out, if_neg (by omega)]
    rw [HR.out, hE]
    go_enter Try.func14, Try.ntmps14
    go_wp2
    go_ret
    exact ⟨rfl, rfl⟩
set_option maxHeartbeats 2000000 in
theorem FF_to (w : World) (ad : Option Addr) (cap : Nat) (Xs : List (List Nat)) (h : ArgFF w ad cap Xs) (hn : Xs.length ≤ 1048576) (hi2 : ∀ i, i < Xs.length → (Xs.getD i []).length ≤ 1048576) :
    Calls Try.prog 18 #[.slice ad Xs.length cap] w fun e w' => ∃ ad' cap' vs, e = .returned (.slice ad' Xs.length cap') ∧ RepFF w' w.heap.size w'.heap.size ad' Xs.length cap' vs Xs ∧ Below w.heap.size w w' := by
  obtain ⟨vs, h⟩ := h
  obtain ⟨j0, hj2, hy0, hy1, hy2⟩ := info_parts info_f32s
  obtain ⟨n, hN⟩ : ∃ n, n = Xs.length := ⟨_, rfl⟩
  rw [← hN] at hn ⊢
  have HN := Lib.hid hN; have HI2 := Lib.hid hi2; clear hN hi2
  go_enter Try.func18, Try.ntmps18
  go_wp2_with (at_make; refine wpList_make_full _ rfl _ _ 26 rfl w.heap.size 25 j0 (.slice none 0 0) 1 Try.underlying26 hj2 hy0 hy1 .i64 .i64 _ _ n rfl rfl rfl rfl ?c1 ?c2 ?c3 ?_)
  case c1 => rw [hy2]; omega
  case c2 => unfold maxLen; omega
  case c3 => exact Nat.le_refl _
  intro w1 hown hg
  have hb1 : Below w.heap.size w w1 := (Below.refl _ _).grown hg (Nat.le_refl _) (fun k e => by cases e)
  have hR := RepFF.made hown
  have HR := Lib.hid hR
  clear hg hown hR
  go_wp2
  go_loopw [4] (fun i wr => ∃ k : Nat, i = .int .i64 k ∧ k ≤ n ∧ ∃ us Ys, RepFF wr w.heap.size wr.heap.size (some ⟨w.heap.size, 0, none⟩) n n us Ys ∧ Ys.take k = Xs.take k ∧ Below w.heap.size w wr) (fun i _ => n - (intOf i).toNat)
  case atStart => exact ⟨0, rfl, Nat.zero_le _, _, _, HR.out, rfl, hb1⟩
  case round =>
    clear hb1 HR
    obtain ⟨k, rfl, hk, us, Ys, hr, htk, hb⟩ := hrel
    have HR := Lib.hid hr; have HT := Lib.hid htk; clear hr htk
    by_cases hlt : k < n
    · have hkx : k < Xs.length := by rw [← HN.out]; exact hlt
      obtain ⟨b, off, ai, ci, rfl, hbl, hc, hf⟩ := h.spot hkx
      have hcell : wr.cell? ⟨b, off + k, none⟩ = some (.slice ai (Xs.getD k []).length ci) := (hb.cell (p := ⟨b, off + k, none⟩) hbl).trans hc
      have hf2 := hf.below hb
      obtain ⟨X, hX⟩ : ∃ X, X = Xs.getD k [] := ⟨_, rfl⟩
      have hi3 := HI2.out k hkx
      rw [← hX] at hcell hf2 hi3
      have k1 := fun W hW => F_to W ai ci X hW hi3
      obtain ⟨m, hm⟩ : ∃ m, m = X.length := ⟨_, rfl⟩
      rw [← hm] at hcell k1
      have hbsz : b < wr.heap.size := Nat.lt_of_lt_of_le hbl hb.size
      have HX := Lib.hid hX; have K1 := Lib.hid k1; have HF := Lib.hid hf2; have HB := Lib.hid hb
      clear hX k1 hm hf hf2 hi3 hc hb
      go_wp2_with fail
      refine (K1.out _ HF.out).mono ?_
      rintro e w2 ⟨a2, c2, rfl, hr2, hb2⟩
      have hR1 := HR.out.below hb2
      obtain ⟨g, eg, hlo, hgs, hgc, hgf⟩ := hR1.addr (by omega)
      cases eg
      have hc2 := hgc k hlt
      have hf2 := hgf k
      have hset := RepFF.setRow HR.out hb2 hlt hr2
      have hbb : Below w.heap.size w (w2.setCell ⟨w.heap.size, k, none⟩ (.slice a2 m c2)) := (HB.out.trans (hb2.mono HB.out.size)).setCell (Nat.le_refl _) _
      have HS := Lib.hid hset; have HBB := Lib.hid hbb
      clear hset hbb hR1 hgc hgf hb2 hr2
      go_wp2
      go_roundw
      case rel =>
        refine ⟨k + 1, by go_num, hlt, _, _, HS.out.bounds (Nat.le_refl _) (by simp [World.setCell]), take_set_next HT.out (by rw [HR.out.len]; exact hlt) ?_, HBB.out⟩
        rw [HX.out, List.getD_eq_getElem?_getD, List.getElem?_eq_getElem hkx]; rfl
      case measure => simp [intOf]; omega
    · have hkn : k = n := by omega
      subst hkn
      go_wp2
      go_ret
      refine ⟨_, _, us, rfl, ?_, hb⟩
      have e1 := HT.out
      rw [List.take_of_length_le (by rw [HR.out.len]; exact Nat.le_refl _), List.take_of_length_le (by rw [← HN.out]; exact Nat.le_refl _)] at e1
      rw [← e1]
      exact HR.out
end Go.Proofs.Ytaocilimggpdjaa
