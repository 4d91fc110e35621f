/- What shuffled rows and batches are. No condition. -/
import Derived.Test.YtaocilimggpdjaaShf
import Derived.RegionTactic
import Derived.BigRegion
namespace Go.Proofs.Ytaocilimggpdjaa
open Go Go.RowKit
set_option linter.unusedVariables false
set_option linter.unusedSimpArgs false
theorem cell_setCell_some {w : World} {p q : Addr} {x v : Value} (h : w.cell? q = some v) : ∃ v', (w.setCell p x).cell? q = some v' := by
  by_cases e : p = q
  · subst e; exact ⟨x, World.cell?_setCell_same w p x h⟩
  · exact ⟨v, (World.cell?_setCell_other w p q x e).trans h⟩
theorem map_getD_at {xs : List Int} {k : Nat} (h : k < xs.length) : (xs.map (Value.int .i64))[k]? = some (.int .i64 (xs.getD k 0)) := by
  rw [List.getElem?_map, List.getElem?_eq_getElem h, List.getD_eq_getElem?_getD, List.getElem?_eq_getElem h]; rfl
theorem swapL_map (l : List Int) (i j : Nat) : (swapL l i j).map (Value.int .i64) = (((l.map (Value.int .i64)).set i (.int .i64 (l.getD j 0))).set j (.int .i64 (l.getD i 0))) := by
  unfold swapL
  rw [List.map_set, List.map_set]
theorem wf_small {n : Int} (h1 : -1000000000 ≤ n) (h2 : n ≤ 1000000000) : (Lit.int .i64 n).wf = true := by
  simp [Lit.wf, IntKind.min, IntKind.max, IntKind.signed, IntKind.bits]; omega
set_option maxRecDepth 100000 in
set_option maxHeartbeats 2000000 in
theorem impl_shuffled (w : World) (c : Nat) (hc : 1 ≤ c) (hc2 : c ≤ 16) (s : Int) (h0 : 0 ≤ s) (h1 : s ≤ 2147483647) :
    Calls Try.prog 130 #[.int .i64 c, .int .i64 s] w fun e w' => ∃ ad cap, e = .returned (.tuple #[.slice ad c cap, .int .i64 (shSeed s (c - 1))]) ∧ RepI w' w.heap.size w'.heap.size ad c cap (shAll c s) ∧ Below w.heap.size w w' := by
  obtain ⟨i0, hi, hz0, hz1, hz2⟩ := info_parts info_i64
  go_enter Try.func130, Try.ntmps130
  go_wp2
  go_loopw [6, 12] (fun v i wr => ∃ k : Nat, i = .int .i64 k ∧ k ≤ c ∧ wr.ownsRow w.heap.size 2 1 v k ((idL k).map (Value.int .i64)) ∧ Below w.heap.size w wr ∧ w.heap.size ≤ wr.heap.size) (fun _ i _ => c - (intOf i).toNat)
  case atStart => exact ⟨0, rfl, Nat.zero_le _, World.ownsRow_made _ _ _ (Nat.le_refl _) (Nat.zero_le _) rfl, below1 _ _, by simp⟩
  case round =>
    obtain ⟨k, rfl, hk, hown, hb, hbs⟩ := hrel
    have HO := Lib.hid hown; have HB := Lib.hid hb; clear hown hb
    by_cases hlt : k < c
    · go_wp2_with (at_builtin; refine wp_app rfl _ _ 61 rfl w.heap.size i0 (.int .i64 0) 1 8 Try.underlying61 hi hz0 hz1 hz2 rfl (by decide) rfl (one_cell _ rfl) _ _ _ rfl HO.out rfl ?c3 ?c4 ?c5 ?_)
      case c3 => unfold maxLen; omega
      case c4 => omega
      case c5 => omega
      intro v' w9 hown1 hb1 hbs1
      have hb9 := HB.out.trans hb1
      have HB9 := Lib.hid hb9; clear hb1 hb9
      go_wp2
      go_roundw
      case rel => exact ⟨k + 1, by go_num, hlt, by rw [idL_succ, List.map_append]; exact hown1, HB9.out, hbs1⟩
      case measure => simp [intOf]; omega
    · have hkn : k = c := by omega
      subst hkn
      obtain ⟨g, cap, rfl, hcap, hcapm⟩ : ∃ g cap, _ = Value.slice (some ⟨g, 0, none⟩) k cap ∧ k ≤ cap ∧ cap ≤ maxLen := by
        rcases HO.out.2 with ⟨h2, h3⟩ | ⟨g, cap, cur, hv, _, _, hq1, hq2, _⟩
        · omega
        · exact ⟨g, cap, hv, hq1, hq2⟩
      obtain ⟨wz, hwz⟩ : ∃ wz : World, wz = wr := ⟨_, rfl⟩
      subst hwz
      go_wp2
      go_loopw [8, 1] (fun i sv wr => ∃ t : Nat, i = .int .i64 ((k : Int) - 1 - t) ∧ t ≤ k - 1 ∧ sv = .int .i64 (shSeed s t) ∧ wr.ownsRow w.heap.size 2 1 (.slice (some ⟨g, 0, none⟩) k cap) k ((shL k s t).map (Value.int .i64)) ∧ Below w.heap.size w wr ∧ w.heap.size ≤ wr.heap.size) (fun i _ _ => (intOf i).toNat)
      case atStart => exact ⟨0, by simp, Nat.zero_le _, rfl, HO.out, HB.out, hbs⟩
      case round =>
        clear HO HB hbs
        obtain ⟨t, rfl, ht, rfl, hown, hb, hbs⟩ := hrel
        have hsb := shSeed_bd h0 h1 t
        have hsb2 := shSeed_bd h0 h1 (t + 1)
        by_cases hlt : t < k - 1
        · have hcall := fun W => impl_nextSeed (shSeed s t) W hsb.1 hsb.2
          rw [show nextS (shSeed s t) = shSeed s (t + 1) from rfl] at hcall
          obtain ⟨q, hq⟩ : ∃ q, q = shSeed s (t + 1) := ⟨_, rfl⟩
          rw [← hq] at hcall hsb2
          obtain ⟨p, hp⟩ : ∃ p, p = shSeed s t := ⟨_, rfl⟩
          rw [← hp] at hcall hsb ⊢
          have HP := Lib.hid hp; clear hp
          have hj := shJ_lt s k t
          obtain ⟨j, hje⟩ : ∃ j, j = shJ s k t := ⟨_, rfl⟩
          have hjq : (j : Int) = q / 65536 % (((k : Int) - 1 - t) + 1) := by
            rw [hje, hq]; unfold shJ
            rw [show (((k - 1 - t : Nat) : Int)) = (k : Int) - 1 - t by omega, Int.toNat_of_nonneg (Int.emod_nonneg _ (by omega))]
          rw [← hje] at hj
          obtain ⟨i, hie⟩ : ∃ i : Nat, i = k - 1 - t := ⟨_, rfl⟩
          have hii : (k : Int) - 1 - t = i := by omega
          rw [hii] at hjq ⊢
          have hi1 : 1 ≤ i := by omega
          have hjk : j < k := by omega
          have hik : i < k := by omega
          have hcj : wr.cell? ⟨g, j, none⟩ = some (.int .i64 ((shL k s t).getD j 0)) := by rw [hown.cellAt j (by omega), map_getD_at (by rw [shL_length]; exact hjk)]
          have hci : wr.cell? ⟨g, i, none⟩ = some (.int .i64 ((shL k s t).getD i 0)) := by rw [hown.cellAt i (by omega), map_getD_at (by rw [shL_length]; exact hik)]
          have hfi := hown.frozenAt i
          have hfj := hown.frozenAt j
          obtain ⟨x, hx⟩ : ∃ x, x = (shL k s t).getD i 0 := ⟨_, rfl⟩
          obtain ⟨y, hy⟩ : ∃ y, y = (shL k s t).getD j 0 := ⟨_, rfl⟩
          have hst := (hown.stored i (.int .i64 y)).1
          have hg1 := (hown.stored i (.int .i64 y)).2
          have hst2 := (hst.stored j (.int .i64 x)).1
          have hg2 := (hst.stored j (.int .i64 x)).2
          rw [← hx] at hci; rw [← hy] at hcj
          have hswap : ((shL k s t).map (Value.int .i64)).set i (.int .i64 y) = ((shL k s t).map (Value.int .i64)).set i (.int .i64 y) := rfl
          have hfin : ((((shL k s t).map (Value.int .i64)).set i (.int .i64 y)).set j (.int .i64 x)) = (shL k s (t + 1)).map (Value.int .i64) := by
            rw [hx, hy, ← swapL_map, hie, hje]; rfl
          rw [hfin] at hst2
          have hb2 : Below w.heap.size w ((wr.setCell ⟨g, i, none⟩ (.int .i64 y)).setCell ⟨g, j, none⟩ (.int .i64 x)) := (hb.setCell (hown.lt g rfl).1 _).setCell (hown.lt g rfl).1 _
          have hbs2 : w.heap.size ≤ ((wr.setCell ⟨g, i, none⟩ (.int .i64 y)).setCell ⟨g, j, none⟩ (.int .i64 x)).heap.size := by have := hg1.size; have := hg2.size; omega
          have HS2 := Lib.hid hst2; have HB2 := Lib.hid hb2; have HBS := Lib.hid hbs2
          obtain ⟨v', hv'⟩ := cell_setCell_some (w := wr) (p := ⟨g, i, none⟩) (x := .int .i64 y) (q := ⟨g, j, none⟩) hcj
          have hv2 : (wr.setCell ⟨g, i, none⟩ (.int .i64 y)).drew.cell? ⟨g, j, none⟩ = some v' := hv'
          have hf2 : (wr.setCell ⟨g, i, none⟩ (.int .i64 y)).frozen? ⟨g, j, none⟩ = false := by rw [World.frozen?_setCell]; exact hfj
          have HOW := Lib.hid hown
          clear hown hb hswap hfin hst hst2 hg1 hg2 hb2 hbs2 hx hy hbs
          have hje2 := Lib.hid hje; have hie2 := Lib.hid hie; have hq2 := Lib.hid hq
          clear hje hie hq
          go_wp2_with fail
          refine (hcall _).mono ?_
          rintro e w1 ⟨rfl, rfl⟩
          go_wp2
          rw [← hjq]
          clear hjq
          have hj0 : (0 : Int) ≤ j := by omega
          have hj1 : (j : Int) < k := by omega
          have hi0 : (0 : Int) ≤ i := by omega
          have hi2 : (i : Int) < k := by omega
          go_region
          go_wp2
          go_roundw
          case rel => exact ⟨t + 1, by go_num, by omega, by rw [hq2.out], HS2.out, below_drewN HB2.out 1, HBS.out⟩
          case measure => simp [intOf]; omega
        · have htk : t = k - 1 := by omega
          have hi0 : (k : Int) - 1 - t = 0 := by omega
          rw [hi0]
          subst htk
          have HO := Lib.hid hown; have HB := Lib.hid hb; clear hown hb
          go_wp2
          go_ret2
          refine ⟨some ⟨g, 0, none⟩, cap, rfl, ?_, HB.out⟩
          exact ⟨Row.mk' HO.out, shAll_length _ _, fun x hx => by
            obtain ⟨h1, h2⟩ := idL_mem ((shL_perm k s hc (k - 1)).mem_iff.1 hx)
            exact wf_small (by omega) (by omega)⟩
end Go.Proofs.Ytaocilimggpdjaa
