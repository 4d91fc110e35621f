/- What the program's LossEntropy returns. No condition. -/
import Derived.Test.YtaocilimggpdjaaEnb
import Derived.Test.YtaocilimggpdjaaLsq
namespace Go.Proofs.Ytaocilimggpdjaa
open Go Go.RowKit Ieee
set_option linter.unusedVariables false
set_option linter.unusedSimpArgs false
/-- a number less the greatest one, the exponential function of it, their sum, the shares, the gradients, the loss -/
def dE (X : List Nat) (b i : Nat) : Nat := fop .sub .f32 (X.getD i 0) (X.getD b 0)
def eE (X : List Nat) (b i : Nat) : Nat := expF (dE X b i)
def sE (X : List Nat) (b n : Nat) : Nat := sumS (listOf n (eE X b)) n
def rE (X : List Nat) (b n i : Nat) : Nat := fop .quo .f32 (eE X b i) (sE X b n)
def lE (X : List Nat) (b n l i : Nat) : Nat := if i = l then fop .sub .f32 (rE X b n i) 1065353216 else rE X b n i
def tE (X : List Nat) (b n l : Nat) : Nat := fop .sub .f32 (logG (sE X b n)) (dE X b l)
def entOk (n : Nat) (l : Int) : Bool := inB n 1 8 && inB l 0 ((n : Int) - 1)
theorem fop_lt {op : BinOp} (x y : Nat) : fop op .f32 x y < 4294967296 := by
  rw [← fop_cn, ← cn_fbits op .f32 x y (default : World)]
  unfold cn
  split
  · decide
  · exact fbits_lt op .f32 x y _
theorem ent_facts {xs : List Nat} (hx : ∀ x ∈ xs, x < 4294967296) {n : Nat} (hn : xs.length = n) (i : Nat) (hi : i < n) :
    okExp (dE (xs.map (cn .f32)) (gBest xs n) i) ∧ (isN .f32 (eE (xs.map (cn .f32)) (gBest xs n) i) = true ∨ Btw .f32 0 1 (eE (xs.map (cn .f32)) (gBest xs n) i)) := by
  have hm := gBest_max hx n (by omega) i hi
  unfold gtF at hm
  have ho : FloatKind.f32.format.order ((xs.map (cn .f32)).getD i 0) ((xs.map (cn .f32)).getD (gBest xs n) 0) ≠ some .gt := by
    rw [cn_getD, cn_getD, order_cn]
    intro e; rw [e] at hm; exact absurd hm (by decide)
  have h := exp_le (fop_lt _ _) (sub_le ho)
  rw [cn_fop] at h
  exact h
theorem ent_best {xs : List Nat} (hx : ∀ x ∈ xs, x < 4294967296) (b : Nat) : isN .f32 (eE (xs.map (cn .f32)) b b) = true ∨ eE (xs.map (cn .f32)) b b = 1065353216 := by
  unfold eE dE
  obtain ⟨m, hm⟩ : ∃ m, m = (xs.map (cn .f32)).getD b 0 := ⟨_, rfl⟩
  rw [← hm]
  cases hf : finB m
  · left
    have e : fop .sub .f32 m m = nanOf .f32 := by unfold fop; rw [sub_self_not hf]; rfl
    rw [e]; decide +kernel
  · right
    rw [fop_some (sub_self_fin hf)]; decide +kernel
theorem listOf_getD2 {n k : Nat} (f : Nat → Nat) : (listOf n f).getD k 0 = if k < n then f k else 0 := by
  by_cases h : k < n
  · rw [if_pos h, listOf_getD f h]
  · rw [if_neg h, List.getD_eq_getElem?_getD, List.getElem?_eq_none (by rw [listOf_length]; omega)]; rfl
theorem ent_sum {xs : List Nat} (hx : ∀ x ∈ xs, x < 4294967296) {n : Nat} (hn : xs.length = n) (h1 : 1 ≤ n) (h8 : n ≤ 8) :
    isN .f32 (sE (xs.map (cn .f32)) (gBest xs n) n) = true ∨ Btw .f32 1 n (sE (xs.map (cn .f32)) (gBest xs n) n) := by
  have hb : gBest xs n < n := by have := gBest_le xs n; omega
  have h := sum_btw (E := listOf n (eE (xs.map (cn .f32)) (gBest xs n))) (b := gBest xs n) (fun i => by
    rw [listOf_getD2]
    split
    · rename_i hi; exact (ent_facts hx hn i hi).2
    · right
      refine ⟨zero_fin.1, ?_, ?_⟩
      · show ((0 : Int) : Rat) ≤ val single 0
        rw [zero_fin.2]; decide +kernel
      · show val single 0 ≤ ((1 : Int) : Rat)
        rw [zero_fin.2]; decide +kernel) (by rw [listOf_getD2, if_pos hb]; exact ent_best hx _) n (by omega)
  rw [if_pos hb] at h
  exact h
set_option maxRecDepth 100000 in
set_option maxHeartbeats 2000000 in
theorem impl_exps (w : World) (ad : Option Addr) (cap : Nat) (xs : List Nat) (h : F32s w ad cap xs) (n : Nat) (hN : n = xs.length) (h1 : 1 ≤ n) (h8 : n ≤ 8) :
    Calls Try.prog 88 #[.slice ad n cap] w fun e w' => ∃ ad' cap' ys, e = .returned (.tuple #[.float .f32 (xs.getD (gBest xs n) 0), .slice ad' n cap']) ∧
      RepF w' w.heap.size w'.heap.size ad' n cap' ys ∧ Hid (ys.map (cn .f32) = listOf n (eE (xs.map (cn .f32)) (gBest xs n))) ∧ Below w.heap.size w w' := by
  obtain ⟨i0, hi, hz0, hz1, hz2⟩ := info_parts info_f32
  have hlt' := h.lt
  have kg := fun W hW => impl_greatestOf W ad cap xs hW (by omega) (by omega)
  rw [← hN] at kg
  have hbn : gBest xs n < n := by have := gBest_le xs n; omega
  have hfa := fun i (hi : i < n) => ent_facts hlt' hN.symm i hi
  have hd : ∀ i (w : World), cn .f32 (fbits .sub .f32 (xs.getD i 0) (xs.getD (gBest xs n) 0) w) = dE (xs.map (cn .f32)) (gBest xs n) i := by
    intro i w; rw [cn_fbits]; unfold dE; rw [cn_getD, cn_getD]
  obtain ⟨b, hb⟩ : ∃ b, b = gBest xs n := ⟨_, rfl⟩
  rw [← hb] at kg hbn hfa hd ⊢
  obtain ⟨X, hX⟩ : ∃ X, X = xs.map (cn .f32) := ⟨_, rfl⟩
  rw [← hX] at hfa hd ⊢
  obtain ⟨m, hm⟩ : ∃ m, m = xs.getD b 0 := ⟨_, rfl⟩
  rw [← hm] at hd ⊢
  have HM := Lib.hid hm; have HD := Lib.hid hd; have HFA := Lib.hid hfa; have KG := Lib.hid kg; have HN := Lib.hid hN
  clear hm hd hfa kg hX hb hN hlt'
  go_enter Try.func88, Try.ntmps88
  go_wp2_with fail
  refine (KG.out _ h).mono ?_
  rintro e w1 ⟨rfl, rfl⟩
  have HB1 := Lib.hid (Below.refl w.heap.size w)
  obtain ⟨bl, off, rfl, hbl, hc⟩ := h.spot (k := b) (by rw [← HN.out]; exact hbn)
  have hcb := hc b (by rw [← HN.out]; exact hbn)
  rw [← HM.out] at hcb
  have HC := Lib.hid hc; clear hc
  have hs1 := HB1.out.size
  go_wp2
  clear hcb
  go_loopw [5, 16] (fun v i wr => ∃ k : Nat, i = .int .i64 k ∧ k ≤ n ∧ ∃ ys : List Nat, Hid (wr.ownsRow w.heap.size 22 1 v k (ys.map (Value.float .f32)) ∧ ys.map (cn .f32) = listOf k (eE X b) ∧ ∀ y ∈ ys, y < 4294967296) ∧ Hid (Below w.heap.size w wr) ∧ w.heap.size ≤ wr.heap.size) (fun _ i _ => n - (intOf i).toNat)
  case atStart => exact ⟨0, rfl, Nat.zero_le _, [], Lib.hid ⟨World.ownsRow_made _ _ _ (Nat.le_refl _) (Nat.zero_le _) rfl, rfl, fun y hy => nomatch hy⟩, Lib.hid (below1 _ _), by simp⟩
  case round =>
    obtain ⟨k, rfl, hk, ys, HO, HB, hbs⟩ := hrel
    by_cases hlt : k < n
    · have hck : wr.cell? ⟨bl, off + k, none⟩ = some (.float .f32 (xs.getD k 0)) := (HB.out.cell (p := ⟨bl, off + k, none⟩) hbl).trans (HC.out k (by rw [← HN.out]; exact hlt))
      have hD := fun w => HD.out k w
      obtain ⟨x, hx⟩ : ∃ x, x = xs.getD k 0 := ⟨_, rfl⟩
      rw [← hx] at hck
      rw [← hx] at hD
      have HDk := Lib.hid hD; clear hx hD
      have HOR := Lib.hid HO.out.1
      go_wp2_with fail
      generalize hz : fbits BinOp.sub FloatKind.f32 x m _ = z
      have hzc : cn .f32 z = dE X b k := by rw [← hz]; exact HDk.out _
      have hzl : z < 4294967296 := by rw [← hz]; exact fbits_lt _ .f32 _ _ _
      have hok : okExp z := okExp_of_cn (by rw [hzc]; exact (HFA.out k hlt).1)
      have HZ := Lib.hid hzc
      clear hz hzc
      refine (impl_ExpNumber z hzl hok _).mono ?_
      rintro e w3 ⟨r, rfl, hr, hd3⟩
      have hb3 : Below wr.heap.size wr w3 := by
        obtain ⟨q, rfl⟩ := hd3
        exact below_drewN (below_drewN (Below.refl _ _) _) _
      have hown3 := owns_below HOR.out hb3
      have HOW := Lib.hid hown3; have HB3 := Lib.hid (HB.out.trans (hb3.mono hbs)); have hs3 := hb3.size
      clear hown3 hb3 hd3 hok HOR
      go_wp2_with (at_builtin; refine wp_app rfl _ _ 25 rfl w.heap.size i0 (.float .f32 0) 1 4 Try.underlying25 hi hz0 hz1 hz2 rfl (by decide) rfl (one_cell _ rfl) _ _ _ rfl HOW.out rfl ?c3 ?c4 ?c5 ?_)
      case c3 => unfold maxLen; omega
      case c4 => omega
      case c5 => omega
      intro v' w9 hown1 hb9 hbs9
      have HO9 := Lib.hid hown1; have HB9 := Lib.hid (HB3.out.trans hb9)
      clear hown1 hb9
      go_wp2
      go_roundw
      case rel =>
        refine ⟨k + 1, by go_num, hlt, ys ++ [r], Lib.hid ⟨by rw [List.map_append]; exact HO9.out, ?_, ?_⟩, HB9, hbs9⟩
        · rw [List.map_append, HO.out.2.1, listOf_succ]
          congr 1
          show [cn .f32 r] = [eE X b k]
          rw [hr.out.1, HZ.out]; rfl
        · intro y hy
          rcases List.mem_append.1 hy with hy | hy
          · exact HO.out.2.2 y hy
          · simp at hy; rw [hy]; exact hr.out.2
      case measure => simp [intOf]; omega
    · have hkn : k = n := by omega
      subst hkn
      obtain ⟨ad', cap', rfl, hr⟩ := RepF.of_owns HO.out.1 HO.out.2.2
      have HR := Lib.hid (hr.bounds hs1 (Nat.le_refl _))
      clear hr
      go_wp2
      go_ret2
      exact ⟨ad', cap', ys, rfl, HR.out, Lib.hid HO.out.2.1, HB1.out.trans (HB.out.mono hs1)⟩
end Go.Proofs.Ytaocilimggpdjaa
