/- What empty slots are. No condition. -/
import Derived.Test.YtaocilimggpdjaaFG
import Derived.Test.YtaocilimggpdjaaGat
namespace Go.Proofs.Ytaocilimggpdjaa
open Go Go.RowKit
set_option linter.unusedVariables false
set_option linter.unusedSimpArgs false
/-- an element is appended to a row of the call's own; what is written is told -/
theorem wp_appG {P : Program} {ops : Array Oper} {rest : List Oper} {o : Oper} {a : Act} {Q : Exit → Act → World → Prop} {e : TypeId} {W : World} {cs : Array Value} (hgd : o.guard = none) (s x : Operand) (t : TypeId)
    (ho : o.op = .call { callee := .builtin .append, args := #[s, x], argTypes := #[t, t] })
    (base : Nat) (i : TypeInfo) (z : Value) (size bytes : Nat) (ht : P.underlying t = some (.slice e)) (hi : P.info? e = some i) (hz : i.zero = some z)
    (hsize : i.size = size) (hby : i.bytes = bytes) (hzs : z.cells.size = size) (hsz : 0 < size)
    (hcs : cs.size = size) (h1 : ∀ u ∈ cs.toList, u.oneCell' = true)
    (v : Value) (n : Nat) (xs : List Value) (hs : a.eval s = v) (hown : W.ownsRow base e size v n xs) (hx : a.eval x = .slice (some ⟨W.heap.size, 0, none⟩) 1 1)
    (h63 : n + 1 ≤ maxLen) (hbytes : (n + 1) * bytes ≤ 140737488355328) (hbase : base ≤ W.heap.size)
    (h : ∀ v' w', w'.ownsRow base e size v' (n + 1) (xs ++ cs.toList) → (W.alloc (.cells cs e)).grownBy w' v.ownBlock → Below base W w' → base ≤ w'.heap.size → wpList P ops Q rest (a.put o.dst v') w') : wpList P ops Q (o :: rest) a (W.alloc (.cells cs e)) := by
  refine wpList_append_own (W.alloc (.cells cs e)) hgd s x t ho base e i z size bytes ht hi hz hsize hby hzs hsz v n xs hs (hown.alloc _) ⟨W.heap.size, 0, none⟩ 1 1 cs.toList hx (by simpa using hcs) ?_ h1 h63 hbytes (by simp; omega) ?_
  · intro j u hj
    rw [Addr.add_lit, World.cell?_alloc_at _ _ _ _ rfl]
    simpa using hj
  · intro v' w' h2 hg _
    have hb : Below base W w' := ((Below.refl _ _).alloc hbase _).grown hg (by simp; omega) (fun j hj => (hown.lt j hj).1)
    refine h v' w' h2 hg hb ?_
    have := hg.size
    simp at this
    omega
def slotsN (k : Int) : Nat := if k = 0 then 0 else if k = 4 then 2 else 1
theorem slotsN_le (k : Int) : slotsN k ≤ 2 := by unfold slotsN; split <;> (try split) <;> omega
def emptyOk (k cnt : Int) : Bool := inB k 0 4 && inB cnt 0 256
def zeroRows (s n : Nat) : List (List Nat) := List.replicate s (List.replicate n 0)
theorem impl_slots (k : Int) (r b1 b2 ep : Nat) (w : World) : Calls Try.prog 93 #[.agg #[.int .i64 k, .float .f32 r, .float .f32 b1, .float .f32 b2, .float .f32 ep]] w fun e w' => e = .returned (.int .i64 (slotsN k : Nat)) ∧ Below w.heap.size w w' := by
  by_cases h0 : k = 0
  · subst h0
    go_enter Try.func93, Try.ntmps93
    go_wp2
    go_ret
    exact ⟨rfl, below1 _ _⟩
  · by_cases h4 : k = 4
    · subst h4
      go_enter Try.func93, Try.ntmps93
      go_wp2
      go_ret
      exact ⟨rfl, below1 _ _⟩
    · have e : slotsN k = 1 := by unfold slotsN; rw [if_neg h0, if_neg h4]
      have n0 : (k == 0) = false := by simpa using h0
      have n4 : (k == 4) = false := by simpa using h4
      rw [e]
      clear h0 h4 e
      go_enter Try.func93, Try.ntmps93
      go_wp2
      go_ret
      exact ⟨rfl, below1 _ _⟩
theorem spec_l05Slots (w : World) (g : Nat) (k : Int) (h : w.cell? ⟨g, 0, none⟩ = some (.int .i64 k)) : Calls Try.prog 133 #[.pointer (some ⟨g, 0, none⟩)] w fun e w' => e = .returned (.int .i64 (slotsN k : Nat)) ∧ w = w' := by
  by_cases h0 : k = 0
  · subst h0
    go_enter Try.func133, Try.ntmps133
    go_wp2
    go_ret
    exact ⟨rfl, rfl⟩
  · by_cases h4 : k = 4
    · subst h4
      go_enter Try.func133, Try.ntmps133
      go_wp2
      go_ret
      exact ⟨rfl, rfl⟩
    · have e : slotsN k = 1 := by unfold slotsN; rw [if_neg h0, if_neg h4]
      have n0 : (k == 0) = false := by simpa using h0
      have n4 : (k == 4) = false := by simpa using h4
      rw [e]
      clear h0 h4 e
      go_enter Try.func133, Try.ntmps133
      go_wp2
      go_ret
      exact ⟨rfl, rfl⟩
/-- rows of zeros that a loop makes -/
structure Zrows (w : World) (base : Nat) (v : Value) (k n : Nat) (vs : List Value) : Prop where
  row : w.ownsRow base 25 1 v k vs
  inn : ∀ i, i < k → ∃ g, vs.getD i (.slice none 0 0) = .slice (some ⟨g, 0, none⟩) n n ∧ RepF w base w.heap.size (some ⟨g, 0, none⟩) n n (List.replicate n 0)
  sep : ∀ i j, i < k → j < k → i ≠ j → ∀ g, (vs.getD i (.slice none 0 0)).ownBlock = some g → (vs.getD j (.slice none 0 0)).ownBlock ≠ some g
theorem Zrows.rep {w : World} {base : Nat} {v : Value} {k n : Nat} {vs : List Value} (h : Zrows w base v k n vs) : ∃ ad cap, v = .slice ad k cap ∧ RepFF w base w.heap.size ad k cap vs (zeroRows k n) := by
  obtain ⟨ad, cap, rfl, _⟩ := Rd.of_owns h.row
  have hz : ∀ i, i < k → (zeroRows k n).getD i [] = List.replicate n 0 := by
    intro i hi
    unfold zeroRows
    rw [List.getD_eq_getElem?_getD, List.getElem?_replicate, if_pos hi]; rfl
  refine ⟨ad, cap, rfl, Row.mk' h.row, by simp [zeroRows], fun i hi => ?_, h.sep⟩
  obtain ⟨g, e1, e2⟩ := h.inn i hi
  rw [hz i hi]
  exact ⟨some ⟨g, 0, none⟩, n, by rw [e1]; simp, by simpa using e2⟩
/-- one more row -/
theorem Zrows.snoc {w w1 w2 : World} {base : Nat} {v v' : Value} {k n : Nat} {vs : List Value} (h : Zrows w base v k n vs) (hl : vs.length = k) (hbase : base ≤ w.heap.size)
    (hm : w1.ownsRow w.heap.size 22 1 (.slice (some ⟨w.heap.size, 0, none⟩) n n) n (madeCells #[Value.float .f32 0] n).toList) (hg : w.grownBy w1 none)
    (ho : w2.ownsRow base 25 1 v' (k + 1) (vs ++ [.slice (some ⟨w.heap.size, 0, none⟩) n n])) (hgr : (w1.alloc (.cells #[.slice (some ⟨w.heap.size, 0, none⟩) n n] 25)).grownBy w2 v.ownBlock) : Zrows w2 base v' (k + 1) n (vs ++ [.slice (some ⟨w.heap.size, 0, none⟩) n n]) := by
  have hb1 : Below w.heap.size w w1 := (Below.refl _ _).grown hg (Nat.le_refl _) (fun k e => by cases e)
  have hsz1 : w.heap.size < w1.heap.size := by
    rcases hm.2 with ⟨h1, _⟩ | ⟨g, cap, cur, hv, _, hh, _⟩
    · cases h1
    · cases hv
      exact (Array.getElem?_eq_some_iff.1 hh).1
  have hsz2 : w1.heap.size + 1 ≤ w2.heap.size := by have := hgr.size; simpa using this
  have hvb : ∀ g, v.ownBlock = some g → g < w.heap.size := fun g e => (h.row.lt g e).2
  have hin : ∀ i, i < k → ∀ g, (vs.getD i (.slice none 0 0)).ownBlock = some g → g < w.heap.size := by
    intro i hi g e
    obtain ⟨g', e1, e2⟩ := h.inn i hi
    rw [e1] at e
    have hE : g' = g := by simpa [Value.ownBlock] using e
    subst hE
    exact e2.row.top _ rfl
  refine ⟨ho, fun i hi => ?_, fun i j hi hj hij g e1 e2 => ?_⟩
  · by_cases hik : i = k
    · subst hik
      refine ⟨w.heap.size, by rw [List.getD_eq_getElem?_getD, ← hl, List.getElem?_append_right (Nat.le_refl _)]; simp, ?_⟩
      have r1 := zeros_rep hm
      have r2 := r1.below (below1 w1 (.cells #[.slice (some ⟨w.heap.size, 0, none⟩) n n] 25))
      have r3 := r2.grown hgr (by
        intro g e e2
        have hE : w.heap.size = g := by simpa [Value.ownBlock] using e
        have := hvb _ e2
        omega)
      exact r3.bounds hbase (by omega)
    · obtain ⟨g, e1, e2⟩ := h.inn i (by omega)
      refine ⟨g, by rw [List.getD_eq_getElem?_getD, List.getElem?_append_left (by omega), ← List.getD_eq_getElem?_getD]; exact e1, ?_⟩
      have r2 := (e2.below hb1).below (below1 w1 (.cells #[.slice (some ⟨w.heap.size, 0, none⟩) n n] 25))
      have r3 := r2.grown hgr (by
        intro g' e e2'
        exact row_kinds (Row.mk' h.row) e2.row (by decide) g' e2' e)
      exact r3.bounds (Nat.le_refl _) (by have := hb1.size; omega)
  · have key : ∀ q, q < k + 1 → (vs ++ [Value.slice (some ⟨w.heap.size, 0, none⟩) n n]).getD q (.slice none 0 0) = if q = k then .slice (some ⟨w.heap.size, 0, none⟩) n n else vs.getD q (.slice none 0 0) := by
      intro q hq
      by_cases hqk : q = k
      · rw [if_pos hqk, hqk, List.getD_eq_getElem?_getD, ← hl, List.getElem?_append_right (Nat.le_refl _)]; simp
      · rw [if_neg hqk, List.getD_eq_getElem?_getD, List.getElem?_append_left (by omega), ← List.getD_eq_getElem?_getD]
    rw [key i hi] at e1
    rw [key j hj] at e2
    by_cases hik : i = k
    · rw [if_pos hik] at e1
      rw [if_neg (by omega)] at e2
      have hE : w.heap.size = g := by simpa [Value.ownBlock] using e1
      have := hin j (by omega) _ e2
      omega
    · rw [if_neg hik] at e1
      by_cases hjk : j = k
      · rw [if_pos hjk] at e2
        have hE : w.heap.size = g := by simpa [Value.ownBlock] using e2
        have := hin i (by omega) _ e1
        omega
      · rw [if_neg hjk] at e2
        exact h.sep i j (by omega) (by omega) hij g e1 e2
set_option maxHeartbeats 2000000 in
theorem impl_EmptySlots_yes (k cnt : Int) (r b1 b2 ep : Nat) (hok : emptyOk k cnt = true) (w : World) : Calls Try.prog 33 #[.agg #[.int .i64 k, .float .f32 r, .float .f32 b1, .float .f32 b2, .float .f32 ep], .int .i64 cnt] w fun e w' => ∃ v vs, e = .returned (.tuple #[v, .bool true]) ∧ Hid (Zrows w' w.heap.size v (slotsN k) cnt.toNat vs) ∧ Below w.heap.size w w' := by
  simp only [emptyOk, Bool.and_eq_true] at hok
  obtain ⟨h1, h2⟩ := hok
  have ⟨g0, g1⟩ := inB_iff.1 h2
  obtain ⟨n, rfl⟩ := Int.eq_ofNat_of_zero_le g0
  have k1 := fun W => impl_ValidOptimizer k r b1 b2 ep W
  rw [h1] at k1
  have k2 := fun W => within_any n 0 256 W
  rw [h2] at k2
  have k3 := fun W => impl_slots k r b1 b2 ep W
  have hs := slotsN_le k
  rw [Int.toNat_natCast]
  obtain ⟨S, hS⟩ : ∃ S, S = slotsN k := ⟨_, rfl⟩
  rw [← hS] at k3 hs ⊢
  obtain ⟨i0, hi, hz0, hz1, hz2⟩ := info_parts info_f32
  obtain ⟨j0, hj2, hy0, hy1, hy2⟩ := info_parts info_f32s
  have K1 := Lib.hid k1; have K2 := Lib.hid k2; have K3 := Lib.hid k3
  clear h1 h2 k1 k2 k3 hS g0
  go_enter Try.func33, Try.ntmps33
  go_wp2_with fail
  refine (K1.out _).mono ?_
  rintro e w1 ⟨rfl, hb1⟩
  obtain ⟨q1, q2, q3⟩ := bkeep w.heap.size hb1 (by simp)
  go_wp2_with fail
  refine (K2.out _).mono ?_
  rintro e w2 ⟨rfl, rfl⟩
  go_wp2_with fail
  refine (K3.out _).mono ?_
  rintro e w3 ⟨rfl, hb3⟩
  have hown0 : w3.ownsRow w.heap.size 25 1 (.slice (some ⟨w1.heap.size, 0, none⟩) 0 0) 0 [] := owns_below (World.ownsRow_made _ _ _ (by omega) (Nat.zero_le _) rfl) hb3
  have hb3 := bthen ((bthen (below1 _ _) hb1).alloc (by omega) _) hb3
  have hsz3 : w.heap.size ≤ w3.heap.size := hb3.size
  go_wp2
  go_loopw [6, 18] (fun v i wr => ∃ j : Nat, i = .int .i64 j ∧ j ≤ S ∧ ∃ vs : List Value, vs.length = j ∧ Zrows wr w.heap.size v j n vs ∧ Below w.heap.size w wr ∧ w.heap.size ≤ wr.heap.size) (fun _ i _ => S - (intOf i).toNat)
  case atStart => exact ⟨0, rfl, Nat.zero_le _, [], rfl, ⟨hown0, (fun i hi => by omega), (fun i j hi => by omega)⟩, hb3, hsz3⟩
  case round =>
    obtain ⟨j, rfl, hj, vs, hvl, hZ, hb, hbs⟩ := hrel
    have HZ := Lib.hid hZ; have HVL := Lib.hid hvl; have HB := Lib.hid hb; clear hZ hvl hb
    by_cases hlt : j < S
    · go_wp2_with (at_make; refine wpList_make_full _ rfl _ _ 25 rfl wr.heap.size 22 i0 (.float .f32 0) 1 Try.underlying25 hi hz0 hz1 .i64 .i64 _ _ n rfl rfl rfl rfl ?c1 ?c2 ?c3 ?_)
      case c1 => rw [hz2]; omega
      case c2 => unfold maxLen; omega
      case c3 => exact Nat.le_refl _
      intro w4 hown4 hg4
      have hb4 : Below wr.heap.size wr w4 := (Below.refl _ _).grown hg4 (Nat.le_refl _) (fun k e => by cases e)
      have hs4 := hb4.size
      have HO := Lib.hid (owns_below HZ.out.row hb4)
      have HOW := Lib.hid hown4; have HG4 := Lib.hid hg4; have HB4 := Lib.hid hb4
      clear hown4 hg4 hb4
      go_wp2_with (at_builtin; refine wp_appG rfl _ _ 26 rfl w.heap.size j0 (.slice none 0 0) 1 24 Try.underlying26 hj2 hy0 hy1 hy2 rfl (by decide) rfl (one_cell _ rfl) _ _ _ rfl HO.out rfl ?c3 ?c4 ?c5 ?_)
      case c3 => unfold maxLen; omega
      case c4 => omega
      case c5 => omega
      intro v' w9 hown1 hgr1 hb1 hbs1
      have hz' := HZ.out.snoc HVL.out hbs HOW.out HG4.out hown1 hgr1
      have hb9 := (HB.out.trans (HB4.out.mono hbs)).trans hb1
      have HZ9 := Lib.hid hz'; have HB9 := Lib.hid hb9
      clear hown1 hgr1 hb1 hz' hb9
      go_wp2
      go_roundw
      case rel => exact ⟨j + 1, by go_num, hlt, _, by simp [HVL.out], HZ9.out, HB9.out, hbs1⟩
      case measure => simp [intOf]; omega
    · have hkn : j = S := by omega
      subst hkn
      go_wp2
      go_ret2
      exact ⟨_, vs, rfl, HZ, HB.out⟩
end Go.Proofs.Ytaocilimggpdjaa
