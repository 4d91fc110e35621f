/- Joined texts 5: Tm1 Ts7 Tm2 Tm3 Mt1 Mt2. Each is told at its own head. No condition. -/
import Derived.Shelf.Bits.Mul64
import Derived.Laws.CopyOwn
import Derived.Test.YtpadlmidojpbeaaGreatMc1
import Derived.Test.YtpadlmidojpbeaaGreatMc2
import Derived.Test.YtpadlmidojpbeaaGreatMc3
import Derived.Test.YtpadlmidojpbeaaGreatMc4
set_option linter.unusedVariables false
set_option linter.unusedSimpArgs false
/- x -/
namespace Go.Proofs.YtpadlmidojpbeaaGreat
open Go Go.RowKit
structure BldE (w0 : World) (wt : World) (rb ob : Nat) (r c : Int) (va : Option Addr) (k vc : Nat) (ys : List Nat) (E : List RowD) : Prop where
  own : Own wt w0.heap.size wt.heap.size (tRow va k vc ys :: bRow ob [.int .i64 r, .int .i64 c, .slice va k vc] :: bRow rb [.int .i64 0, .int .i64 0, .slice none 0 0] :: E)
  len : ys.length = k
  ok : okF ys
  below : Below w0.heap.size w0 wt
section
variable {w0 wt : World} {rb ob : Nat} {r c : Int} {va : Option Addr} {k vc : Nat} {ys : List Nat} {E : List RowD}
theorem BldE.move (h : BldE w0 wt rb ob r c va k vc ys E) {W : World} (hb : Below wt.heap.size wt W) : BldE w0 W rb ob r c va k vc ys E :=
  ⟨(h.own.below hb).bounds (Nat.le_refl _) hb.size, h.len, h.ok, h.below.trans (hb.mono h.below.size)⟩
theorem Own.box {w : World} {lo hi g : Nat} {cs : List Value} {L : List RowD} (h : Own w lo hi L) (hm : bRow g cs ∈ L) : BoxN w g cs := by
  obtain ⟨_, hl, hc, hf⟩ := h.cell hm
  exact ⟨hl.2.2, hc, hf⟩
theorem BldE.out (h : BldE w0 wt rb ob r c va k vc ys E) : BoxN wt ob [.int .i64 r, .int .i64 c, .slice va k vc] := h.own.box (List.mem_cons_of_mem _ (List.mem_cons_self ..))
theorem BldE.res (h : BldE w0 wt rb ob r c va k vc ys E) : BoxN wt rb [.int .i64 0, .int .i64 0, .slice none 0 0] := h.own.box (List.mem_cons_of_mem _ (List.mem_cons_of_mem _ (List.mem_cons_self ..)))
theorem BldE.row (h : BldE w0 wt rb ob r c va k vc ys E) : wt.ownsRow w0.heap.size 28 1 (.slice va k vc) k (ys.map (Value.float .f32)) := h.own.head.own
theorem mem3 {α : Type} {a b c x : α} {E : List α} (h : x ∈ E) : x ∈ a :: b :: c :: E := List.mem_cons_of_mem _ (List.mem_cons_of_mem _ (List.mem_cons_of_mem _ h))
theorem BldE.push (h : BldE w0 wt rb ob r c va k vc ys E) {W w9 : World} {x : Nat} {v' : Value} {o : Obj} (hx : x < 4294967296) (hb : Below wt.heap.size wt W) (ho : w9.ownsRow w0.heap.size 28 1 v' (k + 1) (ys.map (Value.float .f32) ++ [.float .f32 x]))
    (hg : (W.alloc o).grownBy w9 (Value.slice va k vc).ownBlock) (hat : v'.ownBlock = (Value.slice va k vc).ownBlock ∨ v'.ownBlock = some (W.heap.size + 1)) :
    ∃ va' vc', v' = .slice va' (k + 1) vc' ∧ Own w9 w0.heap.size w9.heap.size (tRow va' (k + 1) vc' (ys ++ [x]) :: bRow ob [.int .i64 r, .int .i64 c, .slice va k vc] :: bRow rb [.int .i64 0, .int .i64 0, .slice none 0 0] :: E) ∧ Below w0.heap.size w0 w9 ∧ BldE w0 (w9.setCell ⟨ob, 2, none⟩ (.slice va' (k + 1) vc')) rb ob r c va' (k + 1) vc' (ys ++ [x]) E := by
  obtain ⟨va', vc', rfl, _⟩ := Rd.of_owns ho
  have h1 := (h.own.below hb).below (below1 W o)
  have hs := hg.size
  have hbs := hb.size
  simp at hs
  have hB := h.below.size
  have hbel : Below w0.heap.size w0 w9 := by
    refine Below.grown ((h.below.trans (hb.mono hB)).alloc (by omega) o) hg (by simp; omega) (fun j e => (h.row.lt j e).1)
  have h2 := h1.grown (w' := w9) (hi' := w9.heap.size) (y := tRow va' (k + 1) vc' (ys ++ [x])) hg (by
    refine Row.mk' ?_
    show w9.ownsRow w0.heap.size 28 1 (.slice va' (k + 1) vc') (k + 1) ((ys ++ [x]).map (Value.float .f32))
    rw [List.map_append]; exact ho) (fun g e => by
      rcases hat with e1 | e1
      · exact .inl (e1.symm.trans e)
      · right
        have e2 : some g = some (W.heap.size + 1) := e.symm.trans e1
        cases e2
        omega) (by omega)
  have hob := (h.own.cell (List.mem_cons_of_mem _ (List.mem_cons_self ..))).2.1.1
  have h3 := (h2.perm (List.Perm.swap _ _ _)).store 2 (.slice va' (k + 1) vc')
  have h4 := h3.perm (M := tRow va' (k + 1) vc' (ys ++ [x]) :: bRow ob [.int .i64 r, .int .i64 c, .slice va' (k + 1) vc'] :: bRow rb [.int .i64 0, .int .i64 0, .slice none 0 0] :: E) (List.Perm.swap _ _ _)
  refine ⟨va', vc', rfl, h2, hbel, h4.bounds (Nat.le_refl _) (by simp [World.setCell]), by simp [h.len], fun y hy => ?_, hbel.setCell (p := ⟨ob, 2, none⟩) hob _⟩
  rcases List.mem_append.1 hy with hy | hy
  · exact h.ok y hy
  · simp at hy; subst hy; exact hx
theorem BldE.fin (h : BldE w0 wt rb ob r c va k vc ys E) : RepF (setCs wt rb 0 [.int .i64 r, .int .i64 c, .slice va k vc]) w0.heap.size (setCs wt rb 0 [.int .i64 r, .int .i64 c, .slice va k vc]).heap.size va k vc ys ∧ Below w0.heap.size w0 (setCs wt rb 0 [.int .i64 r, .int .i64 c, .slice va k vc]) := by
  have hl := h.len
  subst hl
  have p1 : (tRow va ys.length vc ys :: bRow ob [.int .i64 r, .int .i64 c, .slice va ys.length vc] :: bRow rb [.int .i64 0, .int .i64 0, .slice none 0 0] :: E).Perm (bRow rb [.int .i64 0, .int .i64 0, .slice none 0 0] :: tRow va ys.length vc ys :: bRow ob [.int .i64 r, .int .i64 c, .slice va ys.length vc] :: E) :=
    (List.Perm.cons _ (List.Perm.swap _ _ _)).trans (List.Perm.swap _ _ _)
  have h1 := setCs_own (h.own.perm p1) 0 [.int .i64 r, .int .i64 c, .slice va ys.length vc]
  have hrb := (h.own.cell (List.mem_cons_of_mem _ (List.mem_cons_of_mem _ (List.mem_cons_self ..)))).2.1.1
  refine ⟨(h1.repF (List.mem_cons_of_mem _ (List.mem_cons_self ..)) h.ok).bounds (Nat.le_refl _) (by rw [setCs_size]; exact Nat.le_refl _), setCs_below h.below hrb 0 _⟩
end
def RowOfD (v0 : Value) (f : FuncId) (args : Array Value) (w1 : World) (v : Value) (w2 : World) : Prop := v = v0 ∧ Below w1.heap.size w1 w2
theorem Own.voidRow {w : World} {lo hi : Nat} {L : List RowD} (h : Own w lo hi L) : Own w lo hi (tRow none 0 0 [] :: L) :=
  Own.cons (x := tRow none 0 0 []) ⟨⟨by simp [tRow], .inl ⟨rfl, rfl⟩⟩, fun g e => (nomatch e)⟩ h (fun y hy g e => (nomatch e))
set_option maxHeartbeats 16000000 in
set_option maxRecDepth 100000 in
theorem impl_transposed (w : World) (r c : Nat) (a1 : Option Addr) (c1 n : Nat) (xs : List Nat) (hx : F32s w a1 c1 xs) (hxl : xs.length = n) (hr1 : 1 ≤ r) (hr : r ≤ 16) (hc1 : 1 ≤ c) (hc : c ≤ 16) (hn : n = r * c) :
    Calls Tryz.prog 122 #[.agg #[.int .i64 r, .int .i64 c, .slice a1 n c1]] w (TenPost c r n (turnE (xs.map (cn .f32)) r c n) w) := by
  obtain ⟨i0, hi0, hz0, hzs, hz2⟩ := info_parts info_f32
  have hn6 : n ≤ 256 := by rw [hn]; exact Nat.mul_le_mul hr hc
  have hn1 : 1 ≤ n := by rw [hn]; exact Nat.mul_le_mul hr1 hc1
  obtain ⟨b1, f1, rfl, hl1, hcx⟩ := hx.spot (k := 0) (by rw [hxl]; exact hn1)
  have hcap := hx.len
  rw [hxl] at hcap
  have HX := Lib.hid hx; have HXL := Lib.hid hxl; have HN0 := Lib.hid hn; have HCX := Lib.hid hcx
  have KR : Hid (∀ W k, k < r → Calls Tryz.prog 139 #[.agg #[.int .i64 r, .int .i64 c, .slice (some ⟨b1, f1, none⟩) n c1], .int .i64 (k : Nat)] W fun e w' => e = .returned (.slice (some ⟨b1, f1 + k * c, none⟩) c (c1 - k * c)) ∧ Below W.heap.size W w') := Lib.hid (fun W k hk => impl_row W r c _ n c1 hn hc1 hc hr hcap k hk b1 f1 rfl)
  clear hx hxl hn hcx
  have o1 := (Own.nil w w.heap.size w.heap.size).alloc (Nat.le_refl _) (Nat.le_refl _) #[.int .i64 r, .int .i64 c, .slice (some ⟨b1, f1, none⟩) n c1] 37
  have s1 : (w.alloc (.cells #[.int .i64 r, .int .i64 c, .slice (some ⟨b1, f1, none⟩) n c1] 37)).heap.size = w.heap.size + 1 := by simp
  have o2 := o1.alloc (by rw [s1]; omega) (by rw [s1]; exact Nat.le_refl _) #[.int .i64 0, .int .i64 0, .slice none 0 0] 37
  have s2 : ((w.alloc (.cells #[.int .i64 r, .int .i64 c, .slice (some ⟨b1, f1, none⟩) n c1] 37)).alloc (.cells #[.int .i64 0, .int .i64 0, .slice none 0 0] 37)).heap.size = w.heap.size + 1 + 1 := by simp
  rw [s1] at o2
  have o3 := o2.alloc (by rw [s2]; omega) (by rw [s2]; exact Nat.le_refl _) #[.int .i64 c, .int .i64 r, .slice none 0 0] 37
  rw [s2] at o3
  obtain ⟨W0, hW0⟩ : ∃ W, W = (((w.alloc (.cells #[.int .i64 r, .int .i64 c, .slice (some ⟨b1, f1, none⟩) n c1] 37)).alloc (.cells #[.int .i64 0, .int .i64 0, .slice none 0 0] 37)).alloc (.cells #[.int .i64 c, .int .i64 r, .slice none 0 0] 37)) := ⟨_, rfl⟩
  have hE : BldE w W0 (w.heap.size + 1) (w.heap.size + 1 + 1) c r none 0 0 [] [bRow w.heap.size [.int .i64 r, .int .i64 c, .slice (some ⟨b1, f1, none⟩) n c1]] := by
    refine ⟨?_, rfl, fun x hx => (nomatch hx), by rw [hW0]; exact below3 w _ _ _⟩
    rw [hW0]
    exact o3.voidRow.bounds (Nat.le_refl _) (by simp)
  have HE := Lib.hid hE; have HW0 := Lib.hid hW0
  clear o1 s1 o2 s2 o3 hE hW0
  go_enter Tryz.func122, Tryz.ntmps122
  go_wp2
  rw [← HW0.out]
  clear HW0
  go_loopw [13, 4, 5, 17, 18] (fun i _ _ _ _ wt => ∃ k : Nat, i = .int .i64 k ∧ k ≤ c ∧ ∃ q va vc zs, Hid (q = k * r ∧ BldE w wt (w.heap.size + 1) (w.heap.size + 1 + 1) c r va q vc zs [bRow w.heap.size [.int .i64 r, .int .i64 c, .slice (some ⟨b1, f1, none⟩) n c1]]) ∧ Hid (zs.map (cn .f32) = turnE (xs.map (cn .f32)) r c q)) (fun i _ _ _ _ _ => c - (intOf i).toNat)
  case atStart => exact ⟨0, rfl, Nat.zero_le _, 0, _, _, [], Lib.hid ⟨by simp, HE.out⟩, Lib.hid rfl⟩
  case round =>
    clear HE
    obtain ⟨i, rfl, hi, q, va, vc, zs, HB, HZ⟩ := hrel
    obtain ⟨wo, rfl⟩ : ∃ wo : World, wo = wr := ⟨_, rfl⟩
    obtain ⟨bl, x0, x1, x2, xf⟩ := (HB.out.2.own.box (mem3 (List.mem_cons_self ..))).three
    by_cases hli : i < c
    · go_wp2
      go_loopw [18, 5] (fun u _ wt => ∃ k : Nat, u = .int .i64 k ∧ k ≤ r ∧ ∃ m va vc zs, Hid (m = i * r + k ∧ BldE w wt (w.heap.size + 1) (w.heap.size + 1 + 1) c r va m vc zs [bRow w.heap.size [.int .i64 r, .int .i64 c, .slice (some ⟨b1, f1, none⟩) n c1]]) ∧ Hid (zs.map (cn .f32) = turnE (xs.map (cn .f32)) r c m)) (fun u _ _ => r - (intOf u).toNat)
      case atStart => exact ⟨0, rfl, Nat.zero_le _, q, va, vc, zs, Lib.hid ⟨by rw [HB.out.1]; rfl, HB.out.2⟩, HZ⟩
      case round =>
        clear HB HZ bl x0 x1 x2 xf
        obtain ⟨k, rfl, hk, m, va, vc, zs, HB, HZ⟩ := hrel
        by_cases hlt : k < r
        · have hmn : m < n := by
            rw [HB.out.1, HN0.out]
            have : (i + 1) * r ≤ c * r := Nat.mul_le_mul_right r hli
            rw [Nat.succ_mul] at this
            rw [Nat.mul_comm r c]; omega
          have hjn : k * c + i < n := by
            rw [HN0.out]
            have : (k + 1) * c ≤ r * c := Nat.mul_le_mul_right c hlt
            rw [Nat.succ_mul] at this; omega
          have hd := HCX.out (k * c + i) (by rw [HXL.out]; exact hjn)
          have hxx := cn_getD xs (k * c + i)
          have hxb := HX.out.lt _ (mem_getD (k := k * c + i) (by rw [HXL.out]; exact hjn))
          obtain ⟨x, hx⟩ : ∃ x, x = xs.getD (k * c + i) 0 := ⟨_, rfl⟩
          rw [← hx] at hd hxx hxb
          have hpush := map_push HZ.out (f := fun j => (xs.map (cn .f32)).getD (j % r * c + j / r) 0) (z := x) (by rw [HB.out.1, turn_at _ hlt, hxx])
          have KRK := Lib.hid (fun W => KR.out W k hlt)
          obtain ⟨s, hs⟩ : ∃ s, s = k * c := ⟨_, rfl⟩
          rw [← hs] at hd hjn KRK
          rw [← Nat.add_assoc] at hd
          have KS : Hid (∀ W, Below w.heap.size w W → BoxN W w.heap.size [.int .i64 r, .int .i64 c, .slice (some ⟨b1, f1, none⟩) n c1] → BoxN W (w.heap.size + 1 + 1) [.int .i64 c, .int .i64 r, .slice va m vc] → (W.cell? ⟨w.heap.size, 0, none⟩ = some (.int .i64 r) ∧ W.cell? ⟨w.heap.size, 1, none⟩ = some (.int .i64 c) ∧ W.cell? ⟨w.heap.size, 2, none⟩ = some (.slice (some ⟨b1, f1, none⟩) n c1)) ∧ W.cell? ⟨b1, f1 + s + i, none⟩ = some (.float .f32 x) ∧ W.cell? ⟨w.heap.size + 1 + 1, 2, none⟩ = some (.slice va m vc)) := Lib.hid (fun W hb h1 h2 => ⟨⟨h1.three.2.1, h1.three.2.2.1, h1.three.2.2.2.1⟩, (hb.cell (p := ⟨b1, f1 + s + i, none⟩) hl1).trans hd, h2.three.2.2.2.1⟩)
          have HS := Lib.hid (KS.out wr HB.out.2.below (HB.out.2.own.box (mem3 (List.mem_cons_self ..))) HB.out.2.out)
          have HXB := Lib.hid hxb; have HPU := Lib.hid hpush
          have HMS : Hid (m + 1 = i * r + (k + 1)) := Lib.hid (by rw [HB.out.1]; rfl)
          have hsc : s + c ≤ c1 := by
            have : (k + 1) * c ≤ r * c := Nat.mul_le_mul_right c hlt
            rw [Nat.succ_mul, ← hs, ← HN0.out] at this; omega
          clear hd hxx hx hxb hpush hs
          go_upto_region 8 with fail
          refine wp_region_mix 11 [4, 8, 9] (fun W => (W.cell? ⟨w.heap.size, 0, none⟩ = some (.int .i64 r) ∧ W.cell? ⟨w.heap.size, 1, none⟩ = some (.int .i64 c) ∧ W.cell? ⟨w.heap.size, 2, none⟩ = some (.slice (some ⟨b1, f1, none⟩) n c1)) ∧ W.cell? ⟨b1, f1 + s + i, none⟩ = some (.float .f32 x) ∧ W.cell? ⟨w.heap.size + 1 + 1, 2, none⟩ = some (.slice va m vc)) (fun _ _ _ => False) (RowOfD (.slice (some ⟨b1, f1 + s, none⟩) c (c1 - s))) (by kernel_rfl) (by kernel_rfl) HS.out (fun W q h => by simpa using h) ?_
          iterate 4 (refine mwalk_plain (by rfl) HS.out (fun K hK W hW => ?_); obtain ⟨⟨e1, e2, e3⟩, e4, e5⟩ := hW; go_simp; refine hK _ ?_; clear hK K e1 e2 e3 e4 e5)
          refine mwalk_spec (by rfl) HS.out (fun K hK q1 => ?_)
          go_simp
          refine ⟨(KRK.out _).mono ?_, ?_⟩
          · rintro e w1 ⟨rfl, hb⟩
            exact ⟨_, rfl, rfl, hb⟩
          rintro v w2 ⟨rfl, hb2⟩
          have hBB := HB.out.2.move (bthen (below_drewN (Below.refl wr.heap.size wr) q1) hb2)
          have HS2 := Lib.hid (KS.out w2 hBB.below (hBB.own.box (mem3 (List.mem_cons_self ..))) hBB.out)
          have HB2 := Lib.hid hBB
          refine ⟨HS2.out, hK _ _ ?_⟩
          clear hK K hb2 hBB HS
          iterate 3 (refine mwalk_plain (by rfl) HS2.out (fun K hK W hW => ?_); obtain ⟨⟨e1, e2, e3⟩, e4, e5⟩ := hW; go_simp; refine hK _ ?_; clear hK K e1 e2 e3 e4 e5)
          refine mwalk_spec (by rfl) HS2.out (fun K hK q => ?_)
          have hbq := below_drewN (Below.refl w2.heap.size w2) q
          go_simp
          have hbA : Below w2.heap.size w2 ((w2.drewN q).alloc (.cells #[.float .f32 x] 28)) := hbq.alloc (by simp) _
          have hBA := HB2.out.move hbA
          have HS3 := Lib.hid (KS.out _ hBA.below (hBA.own.box (mem3 (List.mem_cons_self ..))) hBA.out)
          have HBA := Lib.hid hbA
          refine ⟨HS3.out, hK _ _ ?_⟩
          clear hK K hbq hbA hBA
          refine mwalk_spec (by rfl) HS3.out (fun K hK q2 => ?_)
          refine specRes_append rfl _ _ 25 rfl w.heap.size 28 i0 _ 1 4 Tryz.underlying25 hi0 hz0 hzs hz2 rfl (by decide) (.slice va m vc) m (zs.map (Value.float .f32)) rfl (HB2.out.move (below_drewN HBA.out q2)).row ⟨w2.heap.size, 0, none⟩ 1 1 [.float .f32 x] rfl rfl (World.news_of_block (cs := #[.float .f32 x]) (t := 28) (fr := (0, 0)) (heap_alloc_new (w2.drewN q) _)) (by simp [Value.oneCell']) (by unfold maxLen; omega) (by omega) (Nat.le_trans HB2.out.below.size (Nat.le_trans HBA.out.size (Nat.le_refl _))) ?_
          intro v' w9 ho9 hg9 hat9 hb9
          obtain ⟨va', vc', rfl, hown9, hbel9, hnew⟩ := HB2.out.push (W := (w2.drewN q).drewN q2) HXB.out (below_drewN (below_drewN (Below.refl _ _) q) q2) ho9 hg9 (by simpa using hat9)
          have HS9 := Lib.hid (KS.out w9 hbel9 (hown9.box (mem3 (List.mem_cons_self ..))) (hown9.box (List.mem_cons_of_mem _ (List.mem_cons_self ..))))
          have HO9 := Lib.hid (hown9.box (List.mem_cons_of_mem _ (List.mem_cons_self ..))); have HN9 := Lib.hid hnew
          refine ⟨HS9.out, hK _ _ ?_⟩
          clear hK K ho9 hg9 hat9 hb9 hbel9 hnew hown9 HS3 HBA HS2
          refine mwalk_plain (by rfl) HS9.out (fun K hK W hW => ?_)
          go_simp
          refine hK _ ?_
          clear hK K hW
          refine mwalk_nil (fun q3 => ?_)
          have HO := Lib.hid (HO9.out.below (below_drewN (Below.refl _ _) q3))
          obtain ⟨ol, y0, y1, y2, yf⟩ := HO.out.three
          have HN := Lib.hid (And.intro HMS.out (HN9.out.move (below_drewN (Below.refl _ _) q3)))
          clear HN9 HS9 HO9 HO HB HB2 HZ KS y0 y1
          go_wp2
          go_roundw
          case rel => exact ⟨k + 1, by go_num, hlt, _, _, _, _, HN, HPU⟩
          case measure => simp [intOf]; omega
        · have hkn : k = r := by omega
          subst hkn
          have HBN : Hid (m = (i + 1) * k ∧ _) := Lib.hid ⟨by rw [HB.out.1, Nat.succ_mul], HB.out.2⟩
          go_wp2
          go_roundw
          case rel => exact ⟨i + 1, by go_num, hli, m, va, vc, zs, HBN, HZ⟩
          case measure => simp [intOf]; omega
    · have hin : i = c := by omega
      subst hin
      have hq : q = n := by rw [HB.out.1, HN0.out, Nat.mul_comm]
      subst hq
      obtain ⟨ol, t0, t1, t2, tf⟩ := HB.out.2.out.three
      obtain ⟨rl, u0, u1, u2, uf⟩ := HB.out.2.res.three
      have HFIN := Lib.hid HB.out.2.fin
      clear x0 x1 x2
      go_wp2
      try simp only [Exit.inBlock, Exit.then]
      refine bodyPost_ret (v := .agg #[.int .i64 i, .int .i64 r, .slice va q vc]) (by simp [results, Tryz.results122, go_sem, u0, u1, u2]) rfl ⟨va, vc, zs, rfl, Lib.hid HFIN.out.1, HZ, HFIN.out.2⟩
end Go.Proofs.YtpadlmidojpbeaaGreat
/- x -/
namespace Go.Proofs.YtpadlmidojpbeaaGreat
open Go Go.RowKit
def dotAt (X Y : List Nat) (m c i k : Nat) : Nat → Nat
  | 0 => 0
  | t + 1 => fop .add .f32 (dotAt X Y m c i k t) (fop .mul .f32 (X.getD (i * m + t) 0) (Y.getD (t * c + k) 0))
def matE (X Y : List Nat) (m c n : Nat) : List Nat := listOf n fun j => dotAt X Y m c (j / c) (j % c) m
theorem mat_at (X Y : List Nat) {m c i k : Nat} (hk : k < c) : dotAt X Y m c ((i * c + k) / c) ((i * c + k) % c) m = dotAt X Y m c i k m := by
  have h1 : (i * c + k) % c = k := by rw [Nat.mul_comm, Nat.mul_add_mod, Nat.mod_eq_of_lt hk]
  have h2 : (i * c + k) / c = i := by rw [Nat.mul_comm, Nat.mul_add_div (by omega), Nat.div_eq_of_lt hk, Nat.add_zero]
  rw [h1, h2]
set_option maxHeartbeats 32000000 in
set_option maxRecDepth 100000 in
theorem spec_l02MatMul (w : World) (g1 o1 g2 o2 : Nat) (r m c : Nat) (a1 a2 : Option Addr) (c1 c2 n1 n2 : Nat) (xs ys : List Nat) (p0 : w.cell? ⟨g1, o1, none⟩ = some (.int .i64 r)) (p1 : w.cell? ⟨g1, o1 + 1, none⟩ = some (.int .i64 m)) (p2 : w.cell? ⟨g1, o1 + 2, none⟩ = some (.slice a1 n1 c1))
    (q1 : w.cell? ⟨g2, o2 + 1, none⟩ = some (.int .i64 c)) (q2 : w.cell? ⟨g2, o2 + 2, none⟩ = some (.slice a2 n2 c2))
    (hx : F32s w a1 c1 xs) (hy : F32s w a2 c2 ys) (hxl : xs.length = n1) (hyl : ys.length = n2) (hr : r ≤ 16) (hm : m ≤ 16) (hc : c ≤ 16) (hn1 : n1 = r * m) (hn2 : n2 = m * c) :
    Calls Tryz.prog 109 #[.pointer (some ⟨g1, o1, none⟩), .pointer (some ⟨g2, o2, none⟩)] w (TenPost r c (r * c) (matE (xs.map (cn .f32)) (ys.map (cn .f32)) m c (r * c)) w) := by
  obtain ⟨i0, hi0, hz0, hzs, hz2⟩ := info_parts info_f32
  have HX := Lib.hid hx; have HXL := Lib.hid hxl; have HY := Lib.hid hy; have HYL := Lib.hid hyl; have HN1 := Lib.hid hn1; have HN2 := Lib.hid hn2
  have hb1 : n1 ≤ 256 := by rw [hn1]; exact Nat.mul_le_mul hr hm
  have hb2 : n2 ≤ 256 := by rw [hn2]; exact Nat.mul_le_mul hm hc
  have hb3 : r * c ≤ 256 := Nat.mul_le_mul hr hc
  obtain ⟨n, hn⟩ : ∃ n, n = r * c := ⟨_, rfl⟩
  rw [← hn] at hb3 ⊢
  have HN := Lib.hid hn
  clear hx hxl hy hyl hn1 hn2 hn
  have hg1 := World.block_lt_of_cell? w _ p0
  have hg2 := World.block_lt_of_cell? w _ q1
  simp only at hg1 hg2
  go_enter Tryz.func109, Tryz.ntmps109
  go_upto_region 1 with fail
  obtain ⟨W0, hW0⟩ : ∃ W, W = w.alloc (.cells #[.int .i64 0, .int .i64 0, .slice none 0 0] 37) := ⟨_, rfl⟩
  have k0 : W0.cell? ⟨g1, o1, none⟩ = some (.int .i64 r) := by rw [hW0]; go_simp
  have k1 : W0.cell? ⟨g2, o2 + 1, none⟩ = some (.int .i64 c) := by rw [hW0]; go_simp
  have HW0 := Lib.hid hW0
  have hs0 : W0.heap.size = w.heap.size + 1 := by rw [hW0]; simp
  rw [← hW0]
  have HP := Lib.hid (And.intro p0 (And.intro p1 (And.intro p2 (And.intro q1 q2))))
  clear hW0 p0 p1 p2 q1 q2
  go_cut [5] (fun p5 wx => ∃ ob va vc, p5 = .pointer (some ⟨ob, 0, none⟩) ∧ Hid (Bld w wx w.heap.size ob r c va 0 vc []))
  case first =>
    go_region_held3 (fun w' => w'.cell? ⟨g1, o1, none⟩ = some (.int .i64 r) ∧ w'.cell? ⟨g2, o2 + 1, none⟩ = some (.int .i64 c)) (go_keep) (first | fail)
    all_goals (try go_wp2_with fail)
    all_goals go_meet
    · exact ⟨_, _, _, rfl, Lib.hid (by rw [HW0.out]; exact (Bld.start1 w r c).move (Below.drew (Below.refl _ _)))⟩
    · exact ⟨_, _, _, rfl, Lib.hid (by rw [HW0.out]; exact (Bld.start2 w r c).move (Below.drew (Below.refl _ _)))⟩
  case rest =>
    obtain ⟨ob, va, vc, rfl, HB⟩ := hcut
    clear k0 k1 HW0 hs0
    have CM : Hid (∀ W, Below w.heap.size w W → W.cell? ⟨g1, o1, none⟩ = some (.int .i64 r) ∧ W.cell? ⟨g1, o1 + 1, none⟩ = some (.int .i64 m) ∧ W.cell? ⟨g1, o1 + 2, none⟩ = some (.slice a1 n1 c1) ∧ W.cell? ⟨g2, o2 + 1, none⟩ = some (.int .i64 c) ∧ W.cell? ⟨g2, o2 + 2, none⟩ = some (.slice a2 n2 c2)) := Lib.hid (fun W hb =>
      ⟨(hb.cell (p := ⟨g1, o1, none⟩) hg1).trans HP.out.1, (hb.cell (p := ⟨g1, o1 + 1, none⟩) hg1).trans HP.out.2.1, (hb.cell (p := ⟨g1, o1 + 2, none⟩) hg1).trans HP.out.2.2.1, (hb.cell (p := ⟨g2, o2 + 1, none⟩) hg2).trans HP.out.2.2.2.1, (hb.cell (p := ⟨g2, o2 + 2, none⟩) hg2).trans HP.out.2.2.2.2⟩)
    clear HP
    go_wp2
    go_loopw [6, 7, 8, 9] (fun i _ _ _ wt => ∃ k : Nat, i = .int .i64 k ∧ k ≤ r ∧ ∃ q va vc zs, Hid (q = k * c ∧ Bld w wt w.heap.size ob r c va q vc zs) ∧ Hid (zs.map (cn .f32) = matE (xs.map (cn .f32)) (ys.map (cn .f32)) m c q)) (fun i _ _ _ _ => r - (intOf i).toNat)
    case atStart => exact ⟨0, rfl, Nat.zero_le _, 0, va, vc, [], Lib.hid ⟨by simp, HB.out⟩, Lib.hid rfl⟩
    case round =>
      clear HB
      obtain ⟨i, rfl, hi, q, va, vc, zs, HB, HZ⟩ := hrel
      obtain ⟨wo, rfl⟩ : ∃ wo : World, wo = wr := ⟨_, rfl⟩
      obtain ⟨r0, r1, r2, s1, s2⟩ := CM.out _ HB.out.2.below
      by_cases hli : i < r
      · clear r1 r2 s2
        go_wp2
        go_loopw [7, 8, 9] (fun u _ _ wt => ∃ k : Nat, u = .int .i64 k ∧ k ≤ c ∧ ∃ d va vc zs, Hid (d = i * c + k ∧ Bld w wt w.heap.size ob r c va d vc zs) ∧ Hid (zs.map (cn .f32) = matE (xs.map (cn .f32)) (ys.map (cn .f32)) m c d)) (fun u _ _ _ => c - (intOf u).toNat)
        case atStart => exact ⟨0, rfl, Nat.zero_le _, q, va, vc, zs, Lib.hid ⟨by rw [HB.out.1]; rfl, HB.out.2⟩, HZ⟩
        case round =>
          clear HB HZ r0 s1
          obtain ⟨k, rfl, hk, d, va, vc, zs, HB, HZ⟩ := hrel
          obtain ⟨w2, rfl⟩ : ∃ w2 : World, w2 = wr := ⟨_, rfl⟩
          obtain ⟨r0, r1, r2, s1, s2⟩ := CM.out _ HB.out.2.below
          by_cases hlk : k < c
          · have hdn : d < n := by
              rw [HB.out.1, HN.out]
              have : (i + 1) * c ≤ r * c := Nat.mul_le_mul_right c hli
              rw [Nat.succ_mul] at this; omega
            clear r0 r2 s2
            go_wp2
            go_loopw [8, 9] (fun s u wt => ∃ t : Nat, u = .int .i64 t ∧ t ≤ m ∧ ∃ z : Nat, s = .float .f32 z ∧ Hid (cn .f32 z = dotAt (xs.map (cn .f32)) (ys.map (cn .f32)) m c i k t ∧ z < 4294967296) ∧ Hid (Dr w2 wt)) (fun _ u _ => m - (intOf u).toNat)
            case atStart => exact ⟨0, rfl, Nat.zero_le _, 0, rfl, Lib.hid ⟨cn_zero, by decide⟩, Lib.hid (Dr.refl _)⟩
            case round =>
              clear r1 s1
              obtain ⟨t, rfl, ht, z, rfl, HS, HD⟩ := hrel
              have hbt : Below w.heap.size w wr := HB.out.2.below.trans (HD.out.below.mono HB.out.2.below.size)
              obtain ⟨r0, r1, r2, s1, s2⟩ := CM.out _ hbt
              by_cases hlt : t < m
              · have hj1 : i * m + t < n1 := by
                  rw [HN1.out]
                  have : (i + 1) * m ≤ r * m := Nat.mul_le_mul_right m hli
                  rw [Nat.succ_mul] at this; omega
                have hj2 : t * c + k < n2 := by
                  rw [HN2.out]
                  have : (t + 1) * c ≤ m * c := Nat.mul_le_mul_right c hlt
                  rw [Nat.succ_mul] at this; omega
                obtain ⟨v1, hv1⟩ : ∃ s, s = i * m := ⟨_, rfl⟩
                obtain ⟨v2, hv2⟩ : ∃ s, s = t * c := ⟨_, rfl⟩
                obtain ⟨j1, hjj1⟩ : ∃ j, j = v1 + t := ⟨_, rfl⟩
                obtain ⟨j2, hjj2⟩ : ∃ j, j = v2 + k := ⟨_, rfl⟩
                have e1 : (i : Int) * (m : Int) = (v1 : Int) := by rw [hv1]; rfl
                have e2 : (t : Int) * (c : Int) = (v2 : Int) := by rw [hv2]; rfl
                have e3 : (v1 : Int) + (t : Int) = (j1 : Int) := by rw [hjj1]; rfl
                have e4 : (v2 : Int) + (k : Int) = (j2 : Int) := by rw [hjj2]; rfl
                have hj1' : j1 = i * m + t := by rw [hjj1, hv1]
                have hj2' : j2 = t * c + k := by rw [hjj2, hv2]
                rw [← hj1'] at hj1
                rw [← hj2'] at hj2
                have t1 : IntKind.i64.wrap (v1 : Int) = v1 := wrap_nat (by omega)
                have t2 : IntKind.i64.wrap (v2 : Int) = v2 := wrap_nat (by omega)
                have t3 : IntKind.i64.wrap (j1 : Int) = j1 := wrap_nat (by omega)
                have t4 : IntKind.i64.wrap (j2 : Int) = j2 := wrap_nat (by omega)
                obtain ⟨bx, fx, rfl, hl1, hcx⟩ := (HX.out.below hbt).spot (k := j1) (by rw [HXL.out]; exact hj1)
                obtain ⟨by', fy, rfl, hl2, hcy⟩ := (HY.out.below hbt).spot (k := j2) (by rw [HYL.out]; exact hj2)
                have d1 := hcx j1 (by rw [HXL.out]; exact hj1)
                have d2 := hcy j2 (by rw [HYL.out]; exact hj2)
                have hx2 := cn_getD xs j1
                have hy2 := cn_getD ys j2
                obtain ⟨x, hx⟩ : ∃ x, x = xs.getD j1 0 := ⟨_, rfl⟩
                obtain ⟨y, hy⟩ : ∃ y, y = ys.getD j2 0 := ⟨_, rfl⟩
                rw [← hx] at d1 hx2
                rw [← hy] at d2 hy2
                rw [hj1'] at hx2
                rw [hj2'] at hy2
                have HXY := Lib.hid (And.intro hx2 hy2)
                clear hcx hcy hx hy hx2 hy2 hbt hj1' hj2' hjj1 hjj2 hv1 hv2
                go_wp2
                refine wp_region_drawn (fun f args v => False) (by kernel_rfl) (by kernel_rfl) ?_
                repeat (refine wset_step (fun K hK nq => ?_); go_simp; refine hK _ ?_; clear hK K)
                refine wset_nil ?_
                rintro w' ⟨q, rfl⟩
                clear e1 e2 e3 e4 t1 t2 t3 t4 d1 d2 r0 r1 r2 s1 s2
                go_wp2
                go_roundw
                case rel => exact ⟨t + 1, by go_num, hlt, _, rfl, Lib.hid ⟨by rw [cn_fbits, cn_fbits, HS.out.1, ← HXY.out.1, ← HXY.out.2]; rfl, fbits_lt _ .f32 _ _ _⟩, Lib.hid (HD.out.drewN _)⟩
                case measure => simp [intOf]; omega
              · have htm : t = m := by omega
                subst htm
                have hBt := HB.out.2.move HD.out.below
                obtain ⟨ol, t0, t1, t2, tf⟩ := hBt.out.three
                have HRW := Lib.hid hBt.row
                have HBT := Lib.hid hBt
                clear t0 t1 r0 r2 s1 s2 hbt hBt
                go_wp2_with (at_builtin; refine wp_appA rfl _ _ 25 rfl w.heap.size i0 _ 1 4 Tryz.underlying25 hi0 hz0 hzs hz2 rfl (by decide) rfl (by intro u hu; simp at hu; subst hu; rfl) _ _ _ rfl HRW.out (by go_simp) ?c3 ?c4 ?c5 ?_)
                case c3 => unfold maxLen; omega
                case c4 => omega
                case c5 => exact HBT.out.below.size
                intro v' w9 ho9 hg9 hat9 hb9 hs9
                obtain ⟨va', vc', rfl, hc9, hf9, hbel9, hnew⟩ := HBT.out.push (W := wr) HS.out.2 (Below.refl _ _) ho9 hg9 (by simpa using hat9)
                have HN9 := Lib.hid (And.intro (show d + 1 = i * c + (k + 1) by rw [HB.out.1]; rfl) hnew)
                have HM9 := Lib.hid (map_push HZ.out (f := fun j => dotAt (xs.map (cn .f32)) (ys.map (cn .f32)) t c (j / c) (j % c) t) (z := z) (by rw [HB.out.1, mat_at _ _ hlk]; exact HS.out.1))
                clear ho9 hg9 hat9 hb9 hbel9 hnew HB HZ HRW HBT HD HS r1 t2 tf
                go_wp2
                go_roundw
                case rel => exact ⟨k + 1, by go_num, hlk, _, _, _, _, HN9, HM9⟩
                case measure => simp [intOf]; omega
          · have hkn : k = c := by omega
            subst hkn
            have HBN : Hid (d = (i + 1) * k ∧ _) := Lib.hid ⟨by rw [HB.out.1, Nat.succ_mul], HB.out.2⟩
            clear r0 r1 r2 s2
            go_wp2
            go_roundw
            case rel => exact ⟨i + 1, by go_num, hli, d, va, vc, zs, HBN, HZ⟩
            case measure => simp [intOf]; omega
      · have hin : i = r := by omega
        subst hin
        have hq : q = n := by rw [HB.out.1, HN.out]
        subst hq
        obtain ⟨ol, t0, t1, t2, tf⟩ := HB.out.2.out.three
        obtain ⟨rl, u0, u1, u2, uf⟩ := HB.out.2.res.three
        have HFIN := Lib.hid HB.out.2.fin
        clear r1 r2 s1 s2
        go_wp2
        try simp only [Exit.inBlock, Exit.then]
        refine bodyPost_ret (v := .agg #[.int .i64 i, .int .i64 c, .slice va q vc]) (by simp [results, Tryz.results109, go_sem, u0, u1, u2]) rfl ⟨va, vc, zs, rfl, Lib.hid HFIN.out.1, HZ, HFIN.out.2⟩
end Go.Proofs.YtpadlmidojpbeaaGreat
/- x -/
namespace Go.Proofs.YtpadlmidojpbeaaGreat
open Go Go.RowKit
def ProdD (fr : FuncId) (A1 A2 : Array Value) (v1 v2 : Value) (G : FuncId) (P : Nat → Prop) (f : FuncId) (args : Array Value) (w1 : World) (v : Value) (w2 : World) : Prop :=
  Below w1.heap.size w1 w2 ∧ (f = fr → (args = A1 → v = v1) ∧ (args = A2 → v = v2)) ∧ (f = G → ∃ y, v = .float .f32 y ∧ P y ∧ y < 4294967296)
theorem get_push {zs : List Nat} {c i k m : Nat} {P : Nat → Nat → Nat → Prop} {z : Nat} (hl : zs.length = m) (hm : m = i * c + k) (hk : k < c) (h : ∀ i' k', k' < c → i' * c + k' < m → P i' k' (zs.getD (i' * c + k') 0)) (hz : P i k z) : ∀ i' k', k' < c → i' * c + k' < m + 1 → P i' k' ((zs ++ [z]).getD (i' * c + k') 0) := by
  intro i' k' hk' hlt
  by_cases e : i' * c + k' = m
  · have hi : i' = i := by
      rcases Nat.lt_trichotomy i' i with h1 | h1 | h1
      · exfalso
        have : (i' + 1) * c ≤ i * c := Nat.mul_le_mul_right c h1
        rw [Nat.succ_mul] at this; omega
      · exact h1
      · exfalso
        have : (i + 1) * c ≤ i' * c := Nat.mul_le_mul_right c h1
        rw [Nat.succ_mul] at this; omega
    subst hi
    have hkk : k' = k := by omega
    subst hkk
    rw [e, List.getD_eq_getElem?_getD, List.getElem?_append_right (by omega), hl, Nat.sub_self]
    exact hz
  · have h1 := h i' k' hk' (by omega)
    rw [List.getD_eq_getElem?_getD, List.getElem?_append_left (by omega), ← List.getD_eq_getElem?_getD]
    exact h1
set_option maxHeartbeats 32000000 in
set_option maxRecDepth 100000 in
theorem impl_products (w : World) (r m c : Nat) (a1 a2 : Option Addr) (c1 c2 n1 n2 : Nat) (xs ys : List Nat) (hx : F32s w a1 c1 xs) (hy : F32s w a2 c2 ys) (hxl : xs.length = n1) (hyl : ys.length = n2) (hr1 : 1 ≤ r) (hr : r ≤ 16) (hm1 : 1 ≤ m) (hm : m ≤ 16) (hc1 : 1 ≤ c) (hc : c ≤ 16) (hn1 : n1 = r * m) (hn2 : n2 = m * c)
    (G : Nat) (caps : Array Value) (P : Nat → Nat → Nat → Prop) (hG : ∀ (args : Array Value) (W : World), (callFunc G args).run Tryz.prog W = .ok (.enter G args) W) (hGr : G ≠ 139)
    (hcl : ∀ W i k (u v : Option Addr) (cu cv : Nat) (us vs : List Nat), Below w.heap.size w W → i < r → k < c → F32s W u cu us → F32s W v cv vs → us.length = m → vs.length = m → us = (xs.drop (i * m)).take m → vs.map (cn .f32) = listOf m (fun t => (ys.map (cn .f32)).getD (t * c + k) 0) →
      Calls Tryz.prog G (#[.slice u m cu, .slice v m cv] ++ caps) W fun e w' => ∃ y, e = .returned (.float .f32 y) ∧ Hid (P i k y ∧ y < 4294967296) ∧ Below W.heap.size W w') :
    Calls Tryz.prog 137 #[.agg #[.int .i64 r, .int .i64 m, .slice a1 n1 c1], .agg #[.int .i64 m, .int .i64 c, .slice a2 n2 c2], .func (.func G) #[] caps] w fun e w' => ∃ ad cap zs, e = .returned (.agg #[.int .i64 r, .int .i64 c, .slice ad (r * c) cap]) ∧ Hid (RepF w' w.heap.size w'.heap.size ad (r * c) cap zs) ∧ Hid (∀ i k, i < r → k < c → P i k (zs.getD (i * c + k) 0)) ∧ Below w.heap.size w w' := by
  obtain ⟨i0, hi0, hz0, hzs, hz2⟩ := info_parts info_f32
  have hb1 : n1 ≤ 256 := by rw [hn1]; exact Nat.mul_le_mul hr hm
  have hb3 : r * c ≤ 256 := Nat.mul_le_mul hr hc
  have hp1 : 1 ≤ n1 := by rw [hn1]; exact Nat.mul_le_mul hr1 hm1
  obtain ⟨b1, f1, rfl, hl1, hcx⟩ := hx.spot (k := 0) (by rw [hxl]; exact hp1)
  have hcap := hx.len
  rw [hxl] at hcap
  obtain ⟨n, hn⟩ : ∃ n, n = r * c := ⟨_, rfl⟩
  rw [← hn] at hb3 ⊢
  have HX := Lib.hid hx; have HXL := Lib.hid hxl; have HN := Lib.hid hn; have HN1 := Lib.hid hn1; have HN2 := Lib.hid hn2; have HCL := Lib.hid hcl; have HYL := Lib.hid hyl
  have KT := Lib.hid (fun W (hb : Below w.heap.size w W) => impl_transposed W m c a2 c2 n2 ys (hy.below hb) hyl hm1 hm hc1 hc hn2)
  have KR1 : Hid (∀ W i, i < r → Calls Tryz.prog 139 #[.agg #[.int .i64 r, .int .i64 m, .slice (some ⟨b1, f1, none⟩) n1 c1], .int .i64 (i : Nat)] W fun e w' => e = .returned (.slice (some ⟨b1, f1 + i * m, none⟩) m (c1 - i * m)) ∧ Below W.heap.size W w') := Lib.hid (fun W i hi => impl_row W r m _ n1 c1 hn1 hm1 hm hr hcap i hi b1 f1 rfl)
  clear hx hxl hcx hy hn hn1 hcl hyl
  have hn2p : 1 ≤ n2 := by rw [hn2]; exact Nat.mul_le_mul hm1 hc1
  have hn2q : n2 ≤ 256 := by rw [hn2]; exact Nat.mul_le_mul hm hc
  clear hn2
  have o1 := (Own.nil w w.heap.size w.heap.size).alloc (Nat.le_refl _) (Nat.le_refl _) #[.int .i64 r, .int .i64 m, .slice (some ⟨b1, f1, none⟩) n1 c1] 37
  obtain ⟨V1, hV1⟩ : ∃ V, V = w.alloc (.cells #[.int .i64 r, .int .i64 m, .slice (some ⟨b1, f1, none⟩) n1 c1] 37) := ⟨_, rfl⟩
  have s1 : V1.heap.size = w.heap.size + 1 := by rw [hV1]; simp
  rw [← hV1] at o1
  have o2 := o1.alloc (by rw [s1]; omega) (by rw [s1]; exact Nat.le_refl _) #[.int .i64 m, .int .i64 c, .slice a2 n2 c2] 37
  obtain ⟨V2, hV2⟩ : ∃ V, V = V1.alloc (.cells #[.int .i64 m, .int .i64 c, .slice a2 n2 c2] 37) := ⟨_, rfl⟩
  have s2 : V2.heap.size = w.heap.size + 1 + 1 := by rw [hV2]; simp [s1]
  rw [s1, ← hV2] at o2
  have o3 := o2.alloc (by rw [s2]; omega) (by rw [s2]; exact Nat.le_refl _) #[.int .i64 0, .int .i64 0, .slice none 0 0] 37
  obtain ⟨V3, hV3⟩ : ∃ V, V = V2.alloc (.cells #[.int .i64 0, .int .i64 0, .slice none 0 0] 37) := ⟨_, rfl⟩
  have s3 : V3.heap.size = w.heap.size + 1 + 1 + 1 := by rw [hV3]; simp [s2]
  rw [s2, ← hV3] at o3
  have o4 := o3.alloc (by rw [s3]; omega) (by rw [s3]; exact Nat.le_refl _) #[.int .i64 r, .int .i64 c, .slice none 0 0] 37
  obtain ⟨V4, hV4⟩ : ∃ V, V = V3.alloc (.cells #[.int .i64 r, .int .i64 c, .slice none 0 0] 37) := ⟨_, rfl⟩
  have s4 : V4.heap.size = w.heap.size + 1 + 1 + 1 + 1 := by rw [hV4]; simp [s3]
  rw [s3, ← hV4] at o4
  have hVB : Below w.heap.size w V4 := by
    rw [hV4, hV3, hV2, hV1]
    exact (below3 w _ _ _).alloc (by simp; omega) _
  have HO4 := Lib.hid o4; have HVB := Lib.hid hVB
  have HV4 : Hid ((((w.alloc (.cells #[.int .i64 r, .int .i64 m, .slice (some ⟨b1, f1, none⟩) n1 c1] 37)).alloc (.cells #[.int .i64 m, .int .i64 c, .slice a2 n2 c2] 37)).alloc (.cells #[.int .i64 0, .int .i64 0, .slice none 0 0] 37)).alloc (.cells #[.int .i64 r, .int .i64 c, .slice none 0 0] 37) = V4) := Lib.hid (by rw [hV4, hV3, hV2, hV1])
  have HS4 := Lib.hid s4
  clear o1 o2 o3 o4 s1 s2 s3 s4 hV1 hV2 hV3 hV4 hVB
  go_enter Tryz.func137, Tryz.ntmps137
  go_wp2_with fail
  rw [HV4.out]
  refine (KT.out _ HVB.out).mono ?_
  rintro e V5 ⟨ta, tc, ts, rfl, HR5, HT5, hb5⟩
  have HB5 := Lib.hid hb5
  have hlo := Own.fresh HO4.out (by rw [HS4.out]; omega) (by rw [HS4.out]; exact Nat.le_refl _) hb5 HR5.out.ownRow hb5.size
  have hz5 : w.heap.size + 1 + 1 + 1 + 1 ≤ V5.heap.size := by have := hb5.size; rw [HS4.out] at this; exact this
  have o5 := hlo.alloc (by omega) (Nat.le_refl _) #[.int .i64 c, .int .i64 m, .slice ta n2 tc] 37
  have HO5 := Lib.hid o5
  have hbx : BoxN V5 w.heap.size [.int .i64 r, .int .i64 m, .slice (some ⟨b1, f1, none⟩) n1 c1] := (HO4.out.box (by simp [bRow])).below hb5
  have htl := HR5.out.len
  obtain ⟨bt, ft, rfl, hbtl, _⟩ := HR5.out.arg.spot (k := 0) (by rw [htl]; exact hn2p)
  obtain ⟨rfl, hbtr, _, _⟩ := (hlo.bounds (Nat.le_refl _) (Nat.le_refl _)).cell (List.mem_append_right _ (List.mem_singleton.2 rfl))
  obtain ⟨ta, hta⟩ : ∃ ta : Option Addr, ta = some ⟨bt, 0, none⟩ := ⟨_, rfl⟩
  obtain ⟨W6, hW6⟩ : ∃ W, W = V5.alloc (.cells #[.int .i64 c, .int .i64 m, .slice (some ⟨bt, 0, none⟩) n2 tc] 37) := ⟨_, rfl⟩
  have s6 : W6.heap.size = V5.heap.size + 1 := by rw [hW6]; simp
  rw [← hW6, ← s6] at o5
  have hbel6 : Below w.heap.size w W6 := by rw [hW6]; exact (bthen HVB.out hb5).alloc (by omega) _
  have hE : BldE w W6 (w.heap.size + 1 + 1) (w.heap.size + 1 + 1 + 1) r c none 0 0 [] [bRow V5.heap.size [.int .i64 c, .int .i64 m, .slice (some ⟨bt, 0, none⟩) n2 tc], bRow (w.heap.size + 1) [.int .i64 m, .int .i64 c, .slice a2 n2 c2], bRow w.heap.size [.int .i64 r, .int .i64 m, .slice (some ⟨b1, f1, none⟩) n1 c1], floatRow (some ⟨bt, 0, none⟩) tc ts] := by
    refine ⟨(o5.perm (List.Perm.trans (List.Perm.swap _ _ _) (List.Perm.cons _ (List.Perm.swap _ _ _)))).voidRow, rfl, fun x hx => (nomatch hx), hbel6⟩
  have HE := Lib.hid hE; have HW6 := Lib.hid hW6; have HTL := Lib.hid htl
  have HOK := Lib.hid HR5.out.okF
  clear o5 hlo hE HO5 htl hta ta s6 hbel6
  have hbtw : w.heap.size ≤ bt := by have := hbtr.1; exact this
  have KR2 : Hid (∀ W k, k < c → Calls Tryz.prog 139 #[.agg #[.int .i64 c, .int .i64 m, .slice (some ⟨bt, 0, none⟩) n2 tc], .int .i64 (k : Nat)] W fun e w' => e = .returned (.slice (some ⟨bt, 0 + k * m, none⟩) m (tc - k * m)) ∧ Below W.heap.size W w') := Lib.hid (fun W k hk => impl_row W c m _ n2 tc (by rw [HN2.out, Nat.mul_comm]) hm1 hm hc (by have := HR5.out.arg.len; rw [HTL.out] at this; exact this) k hk bt 0 rfl)
  have htcap : n2 ≤ tc := by have := HR5.out.arg.len; rw [HTL.out] at this; exact this
  obtain ⟨bl, x0, x1, x2, xf⟩ := hbx.three
  clear hbx
  go_wp2
  rw [← HW6.out]
  clear HW6 bl x0 x1 x2 xf
  go_loopw [20, 9, 10, 24, 25] (fun i _ _ _ _ wt => ∃ k : Nat, i = .int .i64 k ∧ k ≤ r ∧ ∃ q va vc zs, Hid (q = k * c ∧ BldE w wt (w.heap.size + 1 + 1) (w.heap.size + 1 + 1 + 1) r c va q vc zs [bRow V5.heap.size [.int .i64 c, .int .i64 m, .slice (some ⟨bt, 0, none⟩) n2 tc], bRow (w.heap.size + 1) [.int .i64 m, .int .i64 c, .slice a2 n2 c2], bRow w.heap.size [.int .i64 r, .int .i64 m, .slice (some ⟨b1, f1, none⟩) n1 c1], floatRow (some ⟨bt, 0, none⟩) tc ts]) ∧ Hid (∀ i' k', k' < c → i' * c + k' < q → P i' k' (zs.getD (i' * c + k') 0))) (fun i _ _ _ _ _ => r - (intOf i).toNat)
  case atStart => exact ⟨0, rfl, Nat.zero_le _, 0, _, _, [], Lib.hid ⟨by simp, HE.out⟩, Lib.hid (fun _ _ _ h => absurd h (by omega))⟩
  case round =>
    clear HE
    obtain ⟨i, rfl, hi, q, va, vc, zs, HB, HZ⟩ := hrel
    obtain ⟨wo, rfl⟩ : ∃ wo : World, wo = wr := ⟨_, rfl⟩
    by_cases hli : i < r
    · obtain ⟨bl, x0, x1, x2, xf⟩ := (HB.out.2.own.box (mem3 (List.mem_cons_of_mem _ (List.mem_cons_self ..)))).three
      go_wp2
      go_loopw [25, 10] (fun u _ wt => ∃ k : Nat, u = .int .i64 k ∧ k ≤ c ∧ ∃ d va vc zs, Hid (d = i * c + k ∧ BldE w wt (w.heap.size + 1 + 1) (w.heap.size + 1 + 1 + 1) r c va d vc zs [bRow V5.heap.size [.int .i64 c, .int .i64 m, .slice (some ⟨bt, 0, none⟩) n2 tc], bRow (w.heap.size + 1) [.int .i64 m, .int .i64 c, .slice a2 n2 c2], bRow w.heap.size [.int .i64 r, .int .i64 m, .slice (some ⟨b1, f1, none⟩) n1 c1], floatRow (some ⟨bt, 0, none⟩) tc ts]) ∧ Hid (∀ i' k', k' < c → i' * c + k' < d → P i' k' (zs.getD (i' * c + k') 0))) (fun u _ _ => c - (intOf u).toNat)
      case atStart => exact ⟨0, rfl, Nat.zero_le _, q, va, vc, zs, Lib.hid ⟨by rw [HB.out.1]; rfl, HB.out.2⟩, HZ⟩
      case round =>
        clear HB HZ bl x0 x1 x2 xf
        obtain ⟨k, rfl, hk, d, va, vc, zs, HB, HZ⟩ := hrel
        by_cases hlt : k < c
        · have hdn : d < n := by
            rw [HB.out.1, HN.out]
            have : (i + 1) * c ≤ r * c := Nat.mul_le_mul_right c hli
            rw [Nat.succ_mul] at this; omega
          have hs1c : i * m + m ≤ n1 := by
            rw [HN1.out]
            have : (i + 1) * m ≤ r * m := Nat.mul_le_mul_right m hli
            rw [Nat.succ_mul] at this; exact this
          have hs2c : k * m + m ≤ n2 := by
            rw [HN2.out, Nat.mul_comm m c]
            have : (k + 1) * m ≤ c * m := Nat.mul_le_mul_right m hlt
            rw [Nat.succ_mul] at this; exact this
          have K1 := Lib.hid (fun W => KR1.out W i hli)
          have K2 := Lib.hid (fun W => KR2.out W k hlt)
          have KG : Hid (∀ W, Below w.heap.size w W → F32s W (some ⟨bt, 0, none⟩) tc ts → Calls Tryz.prog G (#[.slice (some ⟨b1, f1 + i * m, none⟩) m (c1 - i * m), .slice (some ⟨bt, 0 + k * m, none⟩) m (tc - k * m)] ++ caps) W fun e w' => ∃ y, e = .returned (.float .f32 y) ∧ Hid (P i k y ∧ y < 4294967296) ∧ Below W.heap.size W w') := Lib.hid (fun W hb ht => by
            have h1 := (HX.out.below hb).cut3 (i * m + m) (by rw [HXL.out]; exact hs1c)
            have h2 := (h1.1.cut3 (i * m) (by rw [List.length_take, HXL.out]; omega)).2
            have h3 := ht.cut3 (k * m + m) (by rw [HTL.out]; exact hs2c)
            have h4 := (h3.1.cut3 (k * m) (by rw [List.length_take, HTL.out]; omega)).2
            have e1 : (xs.take (i * m + m)).drop (i * m) = (xs.drop (i * m)).take m := by rw [List.drop_take]; congr 1; omega
            have e2 : (ts.take (k * m + m)).drop (k * m) = (ts.drop (k * m)).take m := by rw [List.drop_take]; congr 1; omega
            rw [e1] at h2
            rw [e2] at h4
            refine HCL.out W i k _ _ _ _ _ _ hb hli hlt h2 h4 (by rw [List.length_take, List.length_drop, HXL.out]; omega) (by rw [List.length_take, List.length_drop, HTL.out]; omega) rfl ?_
            rw [List.map_take, List.map_drop, HT5.out]
            refine List.ext_getElem ?_ fun j g1 g2 => ?_
            · rw [List.length_take, List.length_drop, turnE, listOf_length, listOf_length]; omega
            · rw [listOf_length] at g2
              have e3 : ∀ (l : List Nat) (j : Nat) (h : j < l.length), l[j] = l.getD j 0 := fun l j h => by rw [List.getD_eq_getElem?_getD, List.getElem?_eq_getElem h]; rfl
              rw [List.getElem_take, List.getElem_drop, e3, e3, turnE, listOf_getD _ (by omega), listOf_getD _ g2, turn_at _ g2])
          obtain ⟨s1, hs1⟩ : ∃ s, s = i * m := ⟨_, rfl⟩
          obtain ⟨s2, hs2⟩ : ∃ s, s = 0 + k * m := ⟨_, rfl⟩
          rw [← hs1] at K1 KG
          rw [← hs2] at K2 KG
          obtain ⟨t1, ht1⟩ : ∃ s, s = tc - k * m := ⟨_, rfl⟩
          rw [← ht1] at K2 KG
          obtain ⟨t2, ht2⟩ : ∃ s, s = c1 - s1 := ⟨_, rfl⟩
          rw [← ht2] at K1 KG
          have HMS : Hid (d + 1 = i * c + (k + 1)) := Lib.hid (by rw [HB.out.1]; rfl)
          have KS : Hid (∀ W, BoxN W w.heap.size [.int .i64 r, .int .i64 m, .slice (some ⟨b1, f1, none⟩) n1 c1] → BoxN W V5.heap.size [.int .i64 c, .int .i64 m, .slice (some ⟨bt, 0, none⟩) n2 tc] → BoxN W (w.heap.size + 1 + 1 + 1) [.int .i64 r, .int .i64 c, .slice va d vc] → (W.cell? ⟨w.heap.size, 0, none⟩ = some (.int .i64 r) ∧ W.cell? ⟨w.heap.size, 1, none⟩ = some (.int .i64 m) ∧ W.cell? ⟨w.heap.size, 2, none⟩ = some (.slice (some ⟨b1, f1, none⟩) n1 c1)) ∧ (W.cell? ⟨V5.heap.size, 0, none⟩ = some (.int .i64 c) ∧ W.cell? ⟨V5.heap.size, 1, none⟩ = some (.int .i64 m) ∧ W.cell? ⟨V5.heap.size, 2, none⟩ = some (.slice (some ⟨bt, 0, none⟩) n2 tc)) ∧ W.cell? ⟨w.heap.size + 1 + 1 + 1, 2, none⟩ = some (.slice va d vc)) := Lib.hid (fun W h1 h2 h3 => ⟨⟨h1.three.2.1, h1.three.2.2.1, h1.three.2.2.2.1⟩, ⟨h2.three.2.1, h2.three.2.2.1, h2.three.2.2.2.1⟩, h3.three.2.2.2.1⟩)
          have KB : Hid (∀ W, BldE w W (w.heap.size + 1 + 1) (w.heap.size + 1 + 1 + 1) r c va d vc zs [bRow V5.heap.size [.int .i64 c, .int .i64 m, .slice (some ⟨bt, 0, none⟩) n2 tc], bRow (w.heap.size + 1) [.int .i64 m, .int .i64 c, .slice a2 n2 c2], bRow w.heap.size [.int .i64 r, .int .i64 m, .slice (some ⟨b1, f1, none⟩) n1 c1], floatRow (some ⟨bt, 0, none⟩) tc ts] → ((W.cell? ⟨w.heap.size, 0, none⟩ = some (.int .i64 r) ∧ W.cell? ⟨w.heap.size, 1, none⟩ = some (.int .i64 m) ∧ W.cell? ⟨w.heap.size, 2, none⟩ = some (.slice (some ⟨b1, f1, none⟩) n1 c1)) ∧ (W.cell? ⟨V5.heap.size, 0, none⟩ = some (.int .i64 c) ∧ W.cell? ⟨V5.heap.size, 1, none⟩ = some (.int .i64 m) ∧ W.cell? ⟨V5.heap.size, 2, none⟩ = some (.slice (some ⟨bt, 0, none⟩) n2 tc)) ∧ W.cell? ⟨w.heap.size + 1 + 1 + 1, 2, none⟩ = some (.slice va d vc)) ∧ F32s W (some ⟨bt, 0, none⟩) tc ts) := Lib.hid (fun W h => ⟨KS.out W (h.own.box (mem3 (by simp))) (h.own.box (mem3 (by simp))) h.out, by
            have h9 := (h.own.repF (ad := some ⟨bt, 0, none⟩) (cap := tc) (xs := ts) (mem3 (by simp)) HOK.out).arg
            exact h9⟩)
          have HNE : Hid ((#[.agg #[.int .i64 r, .int .i64 m, .slice (some ⟨b1, f1, none⟩) n1 c1], .int .i64 (i : Nat)] : Array Value) ≠ #[.agg #[.int .i64 c, .int .i64 m, .slice (some ⟨bt, 0, none⟩) n2 tc], .int .i64 (k : Nat)]) := Lib.hid (by
            intro h
            simp only [Array.mk.injEq, List.cons.injEq, Value.agg.injEq, Value.slice.injEq, Option.some.injEq, Addr.mk.injEq] at h
            omega)
          have HS := Lib.hid (KB.out wr HB.out.2)
          clear hs1 hs2 ht1 ht2 hs1c hs2c
          go_upto_region 9 with fail
          refine wp_region_mix 13 [5, 8, 9, 10, 11] (fun W => (W.cell? ⟨w.heap.size, 0, none⟩ = some (.int .i64 r) ∧ W.cell? ⟨w.heap.size, 1, none⟩ = some (.int .i64 m) ∧ W.cell? ⟨w.heap.size, 2, none⟩ = some (.slice (some ⟨b1, f1, none⟩) n1 c1)) ∧ (W.cell? ⟨V5.heap.size, 0, none⟩ = some (.int .i64 c) ∧ W.cell? ⟨V5.heap.size, 1, none⟩ = some (.int .i64 m) ∧ W.cell? ⟨V5.heap.size, 2, none⟩ = some (.slice (some ⟨bt, 0, none⟩) n2 tc)) ∧ W.cell? ⟨w.heap.size + 1 + 1 + 1, 2, none⟩ = some (.slice va d vc)) (fun _ _ _ => False) (ProdD 139 #[.agg #[.int .i64 r, .int .i64 m, .slice (some ⟨b1, f1, none⟩) n1 c1], .int .i64 (i : Nat)] #[.agg #[.int .i64 c, .int .i64 m, .slice (some ⟨bt, 0, none⟩) n2 tc], .int .i64 (k : Nat)] (.slice (some ⟨b1, f1 + s1, none⟩) m t2) (.slice (some ⟨bt, s2, none⟩) m t1) G (P i k)) (by kernel_rfl) (by kernel_rfl) HS.out.1 (fun W q h => by simpa using h) ?_
          iterate 5 (refine mwalk_plain (by rfl) HS.out.1 (fun K hK W hW => ?_); obtain ⟨⟨e1, e2, e3⟩, ⟨e4, e5, e6⟩, e7⟩ := hW; go_simp; refine hK _ ?_; clear hK K e1 e2 e3 e4 e5 e6 e7)
          refine mwalk_spec (by rfl) HS.out.1 (fun K hK q1 => ?_)
          go_simp
          refine ⟨(K1.out _).mono ?_, ?_⟩
          · rintro e w1 ⟨rfl, hb⟩
            exact ⟨_, rfl, hb, fun _ => ⟨fun _ => rfl, fun h => absurd h HNE.out⟩, fun h => absurd h.symm hGr⟩
          rintro v w2 ⟨hb2, hv, -⟩
          obtain rfl := (hv rfl).1 rfl
          have hB2 := HB.out.2.move (bthen (below_drewN (Below.refl wr.heap.size wr) q1) hb2)
          have HS2 := Lib.hid (KB.out w2 hB2); have HB2 := Lib.hid hB2
          refine ⟨HS2.out.1, hK _ _ ?_⟩
          clear hK K hb2 hB2 hv HS
          iterate 2 (refine mwalk_plain (by rfl) HS2.out.1 (fun K hK W hW => ?_); obtain ⟨⟨e1, e2, e3⟩, ⟨e4, e5, e6⟩, e7⟩ := hW; go_simp; refine hK _ ?_; clear hK K e1 e2 e3 e4 e5 e6 e7)
          refine mwalk_spec (by rfl) HS2.out.1 (fun K hK q1 => ?_)
          go_simp
          refine ⟨(K2.out _).mono ?_, ?_⟩
          · rintro e w1 ⟨rfl, hb⟩
            exact ⟨_, rfl, hb, fun _ => ⟨fun h => absurd h.symm HNE.out, fun _ => rfl⟩, fun h => absurd h.symm hGr⟩
          rintro v w3 ⟨hb2, hv, -⟩
          obtain rfl := (hv rfl).2 rfl
          have hB3 := HB2.out.move (bthen (below_drewN (Below.refl w2.heap.size w2) q1) hb2)
          have HS3 := Lib.hid (KB.out w3 hB3); have HB3 := Lib.hid hB3
          refine ⟨HS3.out.1, hK _ _ ?_⟩
          clear hK K hb2 hB3 hv HS2 HB2
          refine mwalk_spec (by rfl) HS3.out.1 (fun K hK q1 => ?_)
          go_simp
          refine ⟨(KG.out _ (below_drewN HB3.out.below q1) (HS3.out.2.below (below_drewN (Below.refl _ _) q1))).mono ?_, ?_⟩
          · rintro e w1 ⟨y, rfl, hy, hb⟩
            exact ⟨_, rfl, hb, fun h => absurd h hGr, fun _ => ⟨y, rfl, hy.out.1, hy.out.2⟩⟩
          rintro v w4 ⟨hb2, -, hv⟩
          obtain ⟨y, rfl, hpy, hyl⟩ := hv rfl
          have HPY := Lib.hid hpy; have HYB := Lib.hid hyl
          have hB4 := HB3.out.move (bthen (below_drewN (Below.refl w3.heap.size w3) q1) hb2)
          have HS4 := Lib.hid (KB.out w4 hB4); have HB4 := Lib.hid hB4
          refine ⟨HS4.out.1, hK _ _ ?_⟩
          clear hK K hb2 hB4 hv HS3 HB3 hpy hyl
          refine mwalk_spec (by rfl) HS4.out.1 (fun K hK q => ?_)
          have hbq := below_drewN (Below.refl w4.heap.size w4) q
          go_simp
          have hbA : Below w4.heap.size w4 ((w4.drewN q).alloc (.cells #[.float .f32 y] 28)) := hbq.alloc (by simp) _
          have hBA := HB4.out.move hbA
          have HSA := Lib.hid (KB.out _ hBA)
          have HBA := Lib.hid hbA
          refine ⟨HSA.out.1, hK _ _ ?_⟩
          clear hK K hbq hbA hBA
          refine mwalk_spec (by rfl) HSA.out.1 (fun K hK q2 => ?_)
          refine specRes_append rfl _ _ 25 rfl w.heap.size 28 i0 _ 1 4 Tryz.underlying25 hi0 hz0 hzs hz2 rfl (by decide) (.slice va d vc) d (zs.map (Value.float .f32)) rfl (HB4.out.move (below_drewN HBA.out q2)).row ⟨w4.heap.size, 0, none⟩ 1 1 [.float .f32 y] rfl rfl (World.news_of_block (cs := #[.float .f32 y]) (t := 28) (fr := (0, 0)) (heap_alloc_new (w4.drewN q) _)) (by simp [Value.oneCell']) (by unfold maxLen; omega) (by omega) (Nat.le_trans HB4.out.below.size (Nat.le_trans HBA.out.size (Nat.le_refl _))) ?_
          intro v' w9 ho9 hg9 hat9 hb9
          obtain ⟨va', vc', rfl, hown9, hbel9, hnew⟩ := HB4.out.push (W := (w4.drewN q).drewN q2) HYB.out (below_drewN (below_drewN (Below.refl _ _) q) q2) ho9 hg9 (by simpa using hat9)
          have HPU := Lib.hid (get_push HB.out.2.len HB.out.1 hlt HZ.out HPY.out)
          have HS9 := Lib.hid (KS.out w9 (hown9.box (mem3 (by simp))) (hown9.box (mem3 (by simp))) (hown9.box (List.mem_cons_of_mem _ (List.mem_cons_self ..))))
          have HO9 := Lib.hid (hown9.box (g := w.heap.size + 1 + 1 + 1) (List.mem_cons_of_mem _ (List.mem_cons_self ..))); have HN9 := Lib.hid hnew
          refine ⟨HS9.out, hK _ _ ?_⟩
          clear hK K ho9 hg9 hat9 hb9 hbel9 hnew hown9 HSA HBA HS4
          refine mwalk_plain (by rfl) HS9.out (fun K hK W hW => ?_)
          go_simp
          refine hK _ ?_
          clear hK K hW
          refine mwalk_nil (fun q3 => ?_)
          have HO := Lib.hid (HO9.out.below (below_drewN (Below.refl _ _) q3))
          obtain ⟨ol, y0, y1, y2, yf⟩ := HO.out.three
          have HNN := Lib.hid (And.intro HMS.out (HN9.out.move (below_drewN (Below.refl _ _) q3)))
          clear HN9 HS9 HO9 HO HB HB4 HZ KS KB y0 y1 K1 K2 KG
          go_wp2
          go_roundw
          case rel => exact ⟨k + 1, by go_num, hlt, _, _, _, _, HNN, HPU⟩
          case measure => simp [intOf]; omega
        · have hkn : k = c := by omega
          subst hkn
          have HBN : Hid (d = (i + 1) * k ∧ _) := Lib.hid ⟨by rw [HB.out.1, Nat.succ_mul], HB.out.2⟩
          go_wp2
          go_roundw
          case rel => exact ⟨i + 1, by go_num, hli, d, va, vc, zs, HBN, HZ⟩
          case measure => simp [intOf]; omega
    · have hin : i = r := by omega
      subst hin
      have hq : q = n := by rw [HB.out.1, HN.out]
      subst hq
      obtain ⟨ol, t0, t1, t2, tf⟩ := HB.out.2.out.three
      obtain ⟨rl, u0, u1, u2, uf⟩ := HB.out.2.res.three
      have HFIN := Lib.hid HB.out.2.fin
      have HZF : Hid (∀ i' k, i' < i → k < c → P i' k (zs.getD (i' * c + k) 0)) := Lib.hid (fun i' k h1 h2 => HZ.out i' k h2 (by
        rw [HB.out.1]
        have : (i' + 1) * c ≤ i * c := Nat.mul_le_mul_right c h1
        rw [Nat.succ_mul] at this; omega))
      go_wp2
      try simp only [Exit.inBlock, Exit.then]
      refine bodyPost_ret (v := .agg #[.int .i64 i, .int .i64 c, .slice va q vc]) (by simp [results, Tryz.results137, go_sem, u0, u1, u2]) rfl ⟨va, vc, zs, rfl, Lib.hid HFIN.out.1, HZF, HFIN.out.2⟩
theorem dot_at {xs vs : List Nat} {Y : List Nat} {m c i k : Nat} (hx : (i + 1) * m ≤ xs.length) (hv : vs.map (cn .f32) = listOf m fun t => Y.getD (t * c + k) 0) : ∀ t, t ≤ m → dotS (((xs.drop (i * m)).take m).map (cn .f32)) (vs.map (cn .f32)) t = dotAt (xs.map (cn .f32)) Y m c i k t := by
  intro t
  induction t with
  | zero => intro _; rfl
  | succ t ih =>
    intro ht
    show fop .add .f32 _ _ = fop .add .f32 _ _
    rw [ih (by omega), hv, listOf_getD _ (by omega)]
    congr 2
    rw [List.map_take, List.map_drop, List.getD_eq_getElem?_getD, List.getElem?_take, if_pos (by omega), List.getElem?_drop, ← List.getD_eq_getElem?_getD]
set_option maxHeartbeats 4000000 in
theorem impl_matMul (w : World) (r m c : Nat) (a1 a2 : Option Addr) (c1 c2 n1 n2 : Nat) (xs ys : List Nat) (hx : F32s w a1 c1 xs) (hy : F32s w a2 c2 ys) (hxl : xs.length = n1) (hyl : ys.length = n2) (hr1 : 1 ≤ r) (hr : r ≤ 16) (hm1 : 1 ≤ m) (hm : m ≤ 16) (hc1 : 1 ≤ c) (hc : c ≤ 16) (hn1 : n1 = r * m) (hn2 : n2 = m * c) :
    Calls Tryz.prog 121 #[.agg #[.int .i64 r, .int .i64 m, .slice a1 n1 c1], .agg #[.int .i64 m, .int .i64 c, .slice a2 n2 c2]] w (TenPost r c (r * c) (matE (xs.map (cn .f32)) (ys.map (cn .f32)) m c (r * c)) w) := by
  have K := Lib.hid (fun W (hb : Below w.heap.size w W) => impl_products W r m c a1 a2 c1 c2 n1 n2 xs ys (hx.below hb) (hy.below hb) hxl hyl hr1 hr hm1 hm hc1 hc hn1 hn2 138 #[] (fun i k y => cn .f32 y = dotAt (xs.map (cn .f32)) (ys.map (cn .f32)) m c i k m) (fun args W => by kernel_rfl) (by decide) (fun W' i k u v cu cv us vs hb' hi hk hu hv hul hvl hus hvs => by
    have h1 := impl_dot W' u cu us hu v cv vs hv (by rw [hul, hvl])
    rw [hul, hvl] at h1
    refine h1.mono ?_
    rintro e w' ⟨y, he, hyy, hd⟩
    refine ⟨y, he, Lib.hid ⟨?_, hyy.out.2⟩, hd.below⟩
    rw [hyy.out.1, hus]
    exact dot_at (by rw [hxl, hn1]; exact Nat.mul_le_mul_right m hi) hvs m (Nat.le_refl _)))
  have HFIN : Hid (∀ zs : List Nat, zs.length = r * c → (∀ i k, i < r → k < c → cn .f32 (zs.getD (i * c + k) 0) = dotAt (xs.map (cn .f32)) (ys.map (cn .f32)) m c i k m) → zs.map (cn .f32) = matE (xs.map (cn .f32)) (ys.map (cn .f32)) m c (r * c)) := Lib.hid (fun zs hl h => by
    refine List.ext_getElem (by rw [List.length_map, matE, listOf_length, hl]) fun j h1 h2 => ?_
    rw [List.length_map] at h1
    have e3 : ∀ (l : List Nat) (j : Nat) (h : j < l.length), l[j] = l.getD j 0 := fun l j h => by rw [List.getD_eq_getElem?_getD, List.getElem?_eq_getElem h]; rfl
    have hj : j < r * c := by rw [← hl]; exact h1
    rw [List.getElem_map, e3 zs j h1, e3 _ j h2, matE, listOf_getD _ hj]
    have h4 := h (j / c) (j % c) (Nat.div_lt_of_lt_mul (by rw [Nat.mul_comm]; exact hj)) (Nat.mod_lt _ hc1)
    rw [Nat.mul_comm, Nat.div_add_mod] at h4
    exact h4)
  have RB0 := Lib.hid (BoxN.alloc3 w (.cells #[.int .i64 r, .int .i64 m, .slice a1 n1 c1] 37) (.cells #[.int .i64 m, .int .i64 c, .slice a2 n2 c2] 37) #[.int .i64 0, .int .i64 0, .slice none 0 0] 37)
  have B := Lib.hid (below3 w (.cells #[.int .i64 r, .int .i64 m, .slice a1 n1 c1] 37) (.cells #[.int .i64 m, .int .i64 c, .slice a2 n2 c2] 37) (.cells #[.int .i64 0, .int .i64 0, .slice none 0 0] 37))
  obtain ⟨n, hn⟩ : ∃ n, n = r * c := ⟨_, rfl⟩
  rw [← hn] at K HFIN ⊢
  clear hx hy hxl hyl hn1 hn2 hn
  go_enter Tryz.func121, Tryz.ntmps121
  go_wp2_with fail
  refine (K.out _ B.out).mono ?_
  rintro e w' ⟨va, vc, zs, rfl, RO, RM, hb⟩
  obtain ⟨rl, r0, r1, r2, rf⟩ := (RB0.out.below hb).three
  have hbw := bthen B.out hb
  have hz := hb.size
  simp at hz
  have hfin := setCs_repF (g := w.heap.size + 2) (lo' := w.heap.size) (i := 0) RO.out (by simp) (by simp; omega) (Nat.le_refl _) [.int .i64 r, .int .i64 c, .slice va n vc]
  have hbf := setCs_below hbw (g := w.heap.size + 2) (by omega) 0 [.int .i64 r, .int .i64 c, .slice va n vc]
  have HF := Lib.hid hfin; have HBF := Lib.hid hbf
  clear hfin hbf hbw hb
  go_wp2
  try simp only [Exit.inBlock, Exit.then]
  refine bodyPost_ret (v := .agg #[.int .i64 r, .int .i64 c, .slice va n vc]) (by simp [results, Tryz.results121, go_sem, r0, r1, r2]) rfl (ten_of rfl HF (HFIN.out _ HF.out.len RM.out) HBF.out)
end Go.Proofs.YtpadlmidojpbeaaGreat
/- x -/
namespace Go.Proofs.YtpadlmidojpbeaaGreat
open Go Go.RowKit
set_option maxHeartbeats 4000000 in
theorem bits_Mul64 (p : Nat) (hp : p ≤ 256) (w : World) : Calls Tryz.prog 144 #[.int .u64 1, .int .u64 (p : Int)] w fun e w' => e = .returned (.tuple #[.int .u64 0, .int .u64 (p : Int)]) ∧ w = w' := by
  have m1 : bits .and .u64 1 4294967295 = 1 := by decide +kernel
  have m0 : bits .and .u64 0 4294967295 = 0 := by decide +kernel
  have mp : bits .and .u64 (p : Int) 4294967295 = p := by
    have h := Mul64.maskN p (by omega)
    rw [h]; omega
  have wp : IntKind.u64.wrap (p : Int) = p := Mul64.wrapN p (by omega)
  have w0 : IntKind.u64.wrap 0 = 0 := by decide +kernel
  have dp : (p : Int) / 4294967296 = 0 := by omega
  go_enter Tryz.func144, Tryz.ntmps144
  go_wp2
  go_ret2
  exact ⟨by congr 3, rfl⟩
theorem bits_Mul (p : Nat) (hp : p ≤ 256) (w : World) : Calls Tryz.prog 142 #[.int .u64 1, .int .u64 (p : Int)] w fun e w' => e = .returned (.tuple #[.int .u64 0, .int .u64 (p : Int)]) ∧ w = w' := by
  go_enter Tryz.func142, Tryz.ntmps142
  go_wp2_with fail
  refine (bits_Mul64 p hp _).mono ?_
  rintro e w1 ⟨rfl, rfl⟩
  go_wp2
  go_ret2
  exact ⟨rfl, rfl⟩
theorem specRes_copy {P : Program} {ops : Array Oper} {D : FuncId → Array Value → World → Value → World → Prop} {o : Oper} {a : Act} {w : World} {K : Value → World → Prop} {E : Prop} (hgd : o.guard = none) (d s : Operand) (dT sT : TypeId)
    (ho : o.op = .call { callee := .builtin .copy, args := #[d, s], argTypes := #[dT, sT] }) (elem : TypeId) (hu : P.underlying dT = some (.slice elem)) (hsz : (P.info? elem).map (·.size) = some 1)
    (g off dLen dCap : Nat) (ad : Addr) (sLen sCap : Nat) (hd : a.eval d = .slice (some ⟨g, off, none⟩) dLen dCap) (hs : a.eval s = .slice (some ad) sLen sCap)
    (cur : List Value) (t : TypeId) (hg : w.heap[g]? = some (.cells cur.toArray t (0, 0))) (cs : List Value) (hn : cs.length = Nat.min sLen dLen)
    (hsrc : ∀ j v, cs[j]? = some v → w.cell? (ad.add j) = some v) (hfit : off + cs.length ≤ cur.length) (h1 : ∀ v ∈ cs, v.oneCell' = true) (B : Nat) (w0 : World) (hb : Below B w0 w) (hBg : B ≤ g)
    (h : ∀ w', w'.heap[g]? = some (.cells (splice cur off cs).toArray t (0, 0)) → Below B w0 w' → K (goInt cs.length) w') :
    if Region.wanted o (yielded ops a.tmps) = true then SpecRes P D K ((execOp a.eval o).run P w) else E := by
  have hw : Region.wanted o (yielded ops a.tmps) = true := by simp [Region.wanted, hgd]
  rw [if_pos hw]
  have hrun := run_copy_row (P := P) w dT sT o.type elem g off dLen dCap ad sLen sCap cur.toArray t cs hu hsz hg hn hsrc (by simpa using hfit) h1
  unfold execOp
  simp only [ho, resolve, invoke, builtin, Sem.run_bind, Sem.run_pure, Result.andThen_ok, List.map_toArray, List.map_cons, List.map_nil, hd, hs, hrun]
  exact h _ (show _ = _ by simpa [splice] using setRow_heap w g _ _ t _ hg) (below_setRow hb hBg _)
def RepY (w : World) (g p n y : Nat) : Prop := ∃ cur : List Value, w.heap[g]? = some (.cells cur.toArray 28 (0, 0)) ∧ cur.length = p ∧ ∀ j, j < n → cur[j]? = some (.float .f32 y)
theorem RepY.below {w w' : World} {g p n y : Nat} (h : RepY w g p n y) (hb : Below w.heap.size w w') : RepY w' g p n y := by
  obtain ⟨cur, h1, h2, h3⟩ := h
  have hl : g < w.heap.size := by
    rcases Nat.lt_or_ge g w.heap.size with h | h
    · exact h
    · rw [Array.getElem?_eq_none h] at h1; cases h1
  exact ⟨cur, by rw [hb.block g hl]; exact h1, h2, h3⟩
theorem splice_get {L cs : List Value} {off : Nat} {v : Value} (h1 : ∀ j, j < off → L[j]? = some v) (h2 : ∀ u ∈ cs, u = v) (hf : off + cs.length ≤ L.length) : ∀ j, j < off + cs.length → (splice L off cs)[j]? = some v := by
  intro j hj
  unfold splice
  by_cases h : j < off
  · rw [List.getElem?_append_left (by rw [List.length_take]; omega), List.getElem?_take, if_pos h]
    exact h1 j h
  · rw [List.getElem?_append_right (by rw [List.length_take]; omega), List.length_take, List.getElem?_append_left (by omega)]
    have h3 : j - min off L.length < cs.length := by omega
    rw [List.getElem?_eq_getElem h3, h2 _ (List.getElem_mem h3)]
theorem RepY.fin {w w' : World} {g p y : Nat} (h : RepY w' g p p y) (hg : w.heap.size ≤ g) (hp : p ≤ 256) (hy : y < 4294967296) : RepF w' w.heap.size w'.heap.size (some ⟨g, 0, none⟩) p p (List.replicate p y) := by
  obtain ⟨cur, h1, h2, h3⟩ := h
  have hc : cur = (List.replicate p y).map (Value.float .f32) := by
    refine List.ext_getElem? fun j => ?_
    by_cases hj : j < p
    · rw [h3 j hj]; simp [hj]
    · rw [List.getElem?_eq_none (by omega)]; simp [hj]
  have ho : w'.ownsRow w.heap.size 28 1 (.slice (some ⟨g, 0, none⟩) p p) p ((List.replicate p y).map (Value.float .f32)) :=
    ⟨by simp, .inr ⟨g, p, cur.toArray, rfl, hg, h1, Nat.le_refl _, by unfold maxLen; omega, by simp [h2], by rw [hc]; simp⟩⟩
  obtain ⟨a, c, e, hr⟩ := RepF.of_owns (xs := List.replicate p y) ho (fun x hx => by rw [List.eq_of_mem_replicate hx]; exact hy)
  cases e
  exact hr
set_option maxHeartbeats 8000000 in
set_option maxRecDepth 100000 in
theorem slices_Repeat (w : World) (b o : Nat) (y : Nat) (cap : Nat) (p : Nat) (hp1 : 1 ≤ p) (hp : p ≤ 256) (hy : w.cell? ⟨b, o, none⟩ = some (.float .f32 y)) (hyl : y < 4294967296) :
    Calls Tryz.prog 127 #[.slice (some ⟨b, o, none⟩) 1 cap, .int .i64 (p : Int)] w fun e w' => ∃ ad' cap', e = .returned (.slice ad' p cap') ∧ Hid (RepF w' w.heap.size w'.heap.size ad' p cap' (List.replicate p y)) ∧ Below w.heap.size w w' := by
  obtain ⟨i0, hi0, hz0, hzs, hz2⟩ := info_parts info_f32
  have hsz1 : (Tryz.prog.info? 28).map (·.size) = some 1 := by rw [hi0]; simp [hzs]
  have HZ1 := Lib.hid hsz1
  clear hsz1
  have wp : IntKind.u64.wrap (p : Int) = p := Mul64.wrapN p (by omega)
  have wq : IntKind.i64.wrap (p : Int) = p := wrap_nat (by omega)
  have c1 : decide ((9223372036854775807 : Int) < (p : Int)) = false := decide_eq_false (by omega)
  have hbl := World.block_lt_of_cell? w _ hy
  simp only at hbl
  have HYC := Lib.hid hy
  clear hy
  go_enter Tryz.func127, Tryz.ntmps127
  go_wp2_with fail
  refine (bits_Mul p hp _).mono ?_
  rintro e w1 ⟨rfl, rfl⟩
  go_wp2_with (at_make; refine wpList_make_full _ rfl _ _ 25 rfl w.heap.size 28 i0 (.float .f32 0) 1 Tryz.underlying25 hi0 hz0 hzs .i64 .i64 _ _ p rfl rfl rfl rfl ?c1 ?c2 ?c3 ?_)
  case c1 => rw [hz2]; omega
  case c2 => unfold maxLen; omega
  case c3 => exact Nat.le_refl _
  intro w1 hown hg
  have hb1 : Below w.heap.size w w1 := (Below.refl _ _).grown hg (Nat.le_refl _) (fun k e => by cases e)
  obtain ⟨cur, hcur, hcl⟩ : ∃ cur : List Value, w1.heap[w.heap.size]? = some (.cells cur.toArray 28 (0, 0)) ∧ cur.length = p := by
    rcases hown.2 with ⟨h, _⟩ | ⟨g', cap', cur, hv, _, hh, _, _, hs, _⟩
    · cases h
    · cases hv
      exact ⟨cur.toList, by simpa using hh, by simpa using hs⟩
  have hyc : w1.cell? ⟨b, o, none⟩ = some (.float .f32 y) := (hb1.cell (p := ⟨b, o, none⟩) hbl).trans HYC.out
  obtain ⟨cs, hcs⟩ : ∃ cs, cs = [Value.float .f32 y] := ⟨_, rfl⟩
  have hcs1 : cs.length = 1 := by rw [hcs]; rfl
  have hmin : cs.length = Nat.min 1 p := by rw [hcs1]; show 1 = min 1 p; omega
  have hsrc : ∀ j v, cs[j]? = some v → w1.cell? ((⟨b, o, none⟩ : Addr).add j) = some v := by
    intro j v hj
    rw [hcs] at hj
    cases j with
    | zero => simp at hj; subst hj; rw [Addr.add_lit]; exact hyc
    | succ j => simp at hj
  have hone : ∀ v ∈ cs, v.oneCell' = true := by intro v hv; rw [hcs] at hv; simp at hv; subst hv; rfl
  have HCUR := Lib.hid (And.intro hcur (And.intro hcl (And.intro hcs (And.intro hmin (And.intro hsrc (And.intro hone hcs1))))))
  have HB1 := Lib.hid hb1
  clear hb1 hcur hcl hyc hcs hcs1 hmin hsrc hone hown hg
  go_wp2_with (with_reducible refine wpList_copy_splice rfl _ _ 25 25 rfl 28 rfl HZ1.out (some ⟨w.heap.size, 0, none⟩) (some ⟨b, o, none⟩) p p 1 cap rfl rfl w.heap.size 0 cur 28 HCUR.out.1 cs HCUR.out.2.2.2.1 (fun _ => ⟨rfl, _, rfl, HCUR.out.2.2.2.2.1⟩) (by rw [HCUR.out.2.2.2.2.2.2, HCUR.out.2.1]; omega) HCUR.out.2.2.2.2.2.1 w.heap.size w HB1.out (Nat.le_refl _) ?_)
  intro w2 hg2 hb2
  have HY2 : Hid (RepY w2 w.heap.size p 1 y) := Lib.hid ⟨_, hg2.out, by rw [length_splice _ _ _ (by rw [HCUR.out.2.2.2.2.2.2, HCUR.out.2.1]; omega)]; exact HCUR.out.2.1, fun j hj => by
    have h := splice_get (L := cur) (cs := cs) (off := 0) (v := .float .f32 y) (fun j hj => by omega) (fun u hu => by rw [HCUR.out.2.2.1] at hu; simpa using hu) (by rw [HCUR.out.2.2.2.2.2.2, HCUR.out.2.1]; omega)
    exact h j (by rw [HCUR.out.2.2.2.2.2.2]; omega)⟩
  have HB2 := Lib.hid hb2
  have hcs1 := HCUR.out.2.2.2.2.2.2
  clear hg2 hb2 HB1 HCUR
  go_wp2
  go_loopw [8] (fun i wt => ∃ k : Nat, i = .int .i64 k ∧ 1 ≤ k ∧ k ≤ p ∧ Hid (RepY wt w.heap.size p k y) ∧ Hid (Below w.heap.size w wt)) (fun i _ => p - (intOf i).toNat)
  case atStart => exact ⟨cs.length, rfl, by omega, by omega, by rw [hcs1]; exact HY2, HB2⟩
  case round =>
    clear HY2 HB2 hcs1
    obtain ⟨k, rfl, hk1, hk, HY, HB⟩ := hrel
    by_cases hlt : k < p
    · obtain ⟨cur, hcur, hcl, hca⟩ := HY.out
      obtain ⟨m, hm⟩ : ∃ m, m = Nat.min k (p - k) := ⟨_, rfl⟩
      have hm2 : 1 ≤ m ∧ m ≤ k ∧ k + m ≤ p := by
        have e : m = min k (p - k) := hm
        omega
      have hnp : ¬ (p = k) := by omega
      have HC := Lib.hid (And.intro hcur (And.intro hcl hca))
      have HM := Lib.hid hm; have HM2 := Lib.hid hm2
      have tm : IntKind.i64.wrap ((k : Int) + (m : Int)) = ((k + m : Nat) : Int) := by
        rw [← Int.natCast_add]; exact wrap_nat (by omega)
      clear hcur hcl hca hm
      go_upto_region 9 with fail
      refine wp_region_mix0 [7] (fun W => True) (fun _ _ _ => False) (fun _ _ _ _ _ => False) (by kernel_rfl) (by kernel_rfl) trivial (fun W q h => trivial) ?_
      iterate 7 (refine mwalk_plain (by rfl) trivial (fun K hK W hW => ?_); go_simp; refine hK _ ?_; clear hK K)
      refine mwalk_spec (by rfl) trivial (fun K hK q => ?_)
      refine specRes_copy rfl _ _ 25 25 rfl 28 rfl HZ1.out w.heap.size k (p - k) (p - k) ⟨w.heap.size, 0, none⟩ k p rfl rfl cur 28 HC.out.1 (List.replicate m (.float .f32 y)) (by rw [List.length_replicate]; exact HM.out) ?c4 (by rw [List.length_replicate, HC.out.2.1]; exact HM2.out.2.2) (by intro v hv; rw [List.eq_of_mem_replicate hv]; rfl) w.heap.size w (below_drewN HB.out q) (Nat.le_refl _) ?_
      case c4 =>
        intro j v hj
        have hjm : j < m := by
          rcases Nat.lt_or_ge j m with h | h
          · exact h
          · rw [List.getElem?_eq_none (by simpa using h)] at hj; cases hj
        rw [List.getElem?_replicate, if_pos hjm] at hj
        cases hj
        rw [Addr.add_lit, Nat.zero_add]
        have h1 := cell_of_row wr w.heap.size j cur.toArray 28 (0, 0) HC.out.1
        have h2 : (wr.drewN q).cell? ⟨w.heap.size, j, none⟩ = wr.cell? ⟨w.heap.size, j, none⟩ := by simp
        rw [h2, h1]
        simpa using HC.out.2.2 j (by omega)
      intro w2 hg2 hb2
      have HY3 : Hid (RepY w2 w.heap.size p (k + m) y) := Lib.hid ⟨_, hg2, by rw [length_splice _ _ _ (by rw [List.length_replicate, HC.out.2.1]; exact HM2.out.2.2)]; exact HC.out.2.1, fun j hj => by
        have h := splice_get (L := cur) (cs := List.replicate m (.float .f32 y)) (off := k) (v := .float .f32 y) HC.out.2.2 (fun u hu => List.eq_of_mem_replicate hu) (by rw [List.length_replicate, HC.out.2.1]; exact HM2.out.2.2)
        exact h j (by rw [List.length_replicate]; exact hj)⟩
      have HB3 := Lib.hid hb2
      have hlr : ((List.replicate m (Value.float .f32 y)).length : Int) = (m : Int) := by rw [List.length_replicate]
      refine ⟨trivial, hK _ _ ?_⟩
      clear hK K hg2 hb2 HC HY HB
      iterate 2 (refine mwalk_plain (by rfl) trivial (fun K hK W hW => ?_); go_simp; refine hK _ ?_; clear hK K)
      refine mwalk_nil (fun q3 => ?_)
      have HY4 := Lib.hid (HY3.out.below (below_drewN (Below.refl _ _) q3)); have HB4 := Lib.hid (below_drewN HB3.out q3)
      clear HY3 HB3 tm
      go_wp2
      go_roundw
      case rel => exact ⟨k + m, by go_num, by omega, HM2.out.2.2, HY4, HB4⟩
      case measure => simp [intOf]; omega
    · have hkn : k = p := by omega
      subst hkn
      have HF := Lib.hid (HY.out.fin (w := w) (Nat.le_refl _) hp hyl)
      clear HY
      go_wp2
      go_ret
      exact ⟨_, _, rfl, HF, HB.out⟩
theorem filE_map (y n : Nat) : (List.replicate n y).map (cn .f32) = filE (cn .f32 y) n := by
  refine List.ext_getElem (by simp [filE, listOf_length]) fun j h1 h2 => ?_
  simp [filE, listOf]
set_option maxHeartbeats 2000000 in
theorem impl_filled (w : World) (r c : Nat) (y : Nat) (hy : y < 4294967296) (hr1 : 1 ≤ r) (hr : r ≤ 16) (hc1 : 1 ≤ c) (hc : c ≤ 16) :
    Calls Tryz.prog 95 #[.int .i64 r, .int .i64 c, .float .f32 y] w (TenPost r c (r * c) (filE (cn .f32 y) (r * c)) w) := by
  have hp : r * c ≤ 256 := Nat.mul_le_mul hr hc
  have hp1 : 1 ≤ r * c := Nat.mul_le_mul hr1 hc1
  obtain ⟨p, hpp⟩ : ∃ p, p = r * c := ⟨_, rfl⟩
  have e1 : ((r : Int) * (c : Int)) = (p : Int) := by rw [hpp]; rfl
  have wq : IntKind.i64.wrap (p : Int) = p := wrap_nat (by omega)
  rw [← hpp] at hp hp1 ⊢
  clear hpp
  have RB0 := Lib.hid ((BoxN.alloc w #[.int .i64 0, .int .i64 0, .slice none 0 0] 37).below (below1 _ (.cells #[.float .f32 y] 28)))
  have b2 := below2 w (.cells #[.int .i64 0, .int .i64 0, .slice none 0 0] 37) (.cells #[.float .f32 y] 28)
  have hcell : ((w.alloc (.cells #[.int .i64 0, .int .i64 0, .slice none 0 0] 37)).alloc (.cells #[.float .f32 y] 28)).cell? ⟨w.heap.size + 1, 0, none⟩ = some (.float .f32 y) := by
    simp
  have K := Lib.hid (slices_Repeat _ (w.heap.size + 1) 0 y 1 p hp1 hp hcell hy)
  have B := Lib.hid b2
  clear b2 hcell
  go_enter Tryz.func95, Tryz.ntmps95
  go_wp2_with fail
  refine K.out.mono ?_
  rintro e w' ⟨va, vc, rfl, RO, hb⟩
  obtain ⟨rl, r0, r1, r2, rf⟩ := (RB0.out.below hb).three
  have hbw := bthen B.out hb
  have hz := hb.size
  simp at hz
  have hfin := setCs_repF (g := w.heap.size) (lo' := w.heap.size) (i := 0) RO.out (by simp; omega) (by simp; omega) (Nat.le_refl _) [.int .i64 r, .int .i64 c, .slice va p vc]
  have hbf := setCs_below hbw (g := w.heap.size) (Nat.le_refl _) 0 [.int .i64 r, .int .i64 c, .slice va p vc]
  have HF := Lib.hid hfin; have HBF := Lib.hid hbf
  clear hfin hbf hbw hb
  go_wp2
  try simp only [Exit.inBlock, Exit.then]
  refine bodyPost_ret (v := .agg #[.int .i64 r, .int .i64 c, .slice va p vc]) (by simp [results, Tryz.results95, go_sem, r0, r1, r2]) rfl (ten_of rfl HF (filE_map _ _) HBF.out)
theorem impl_rowTensor (w : World) (ad : Option Addr) (cap n : Nat) (xs : List Nat) (h : F32s w ad cap xs) (hc : ad = none → cap = 0) (hxl : xs.length = n) (hn : n ≤ 1048576) :
    Calls Tryz.prog 67 #[.slice ad n cap] w (TenPost 1 n n (xs.map (cn .f32)) w) := by
  subst hxl
  have b1 := below1 w (.cells #[.int .i64 0, .int .i64 0, .slice none 0 0] 37)
  have K := Lib.hid (slices_CloneF _ ad cap xs (h.below b1) hc hn)
  have RB0 := Lib.hid (BoxN.alloc w #[.int .i64 0, .int .i64 0, .slice none 0 0] 37)
  have B := Lib.hid b1
  obtain ⟨n, hN⟩ : ∃ n, n = xs.length := ⟨_, rfl⟩
  rw [← hN] at K ⊢
  clear b1 h hN hn hc
  go_enter Tryz.func67, Tryz.ntmps67
  go_wp2_with fail
  refine K.out.mono ?_
  rintro e w' ⟨va, vc, rfl, RO, hb⟩
  obtain ⟨rl, r0, r1, r2, rf⟩ := (RB0.out.below hb).three
  have hbw := bthen B.out hb
  have hz := hb.size
  simp at hz
  have hfin := setCs_repF (g := w.heap.size) (lo' := w.heap.size) (i := 0) RO.out (by simp) (by simp) (Nat.le_refl _) [.int .i64 1, .int .i64 n, .slice va n vc]
  have hbf := setCs_below hbw (g := w.heap.size) (Nat.le_refl _) 0 [.int .i64 1, .int .i64 n, .slice va n vc]
  have HF := Lib.hid hfin; have HBF := Lib.hid hbf
  clear hfin hbf hbw hb
  go_wp2
  try simp only [Exit.inBlock, Exit.then]
  refine bodyPost_ret (v := .agg #[.int .i64 1, .int .i64 n, .slice va n vc]) (by simp [results, Tryz.results67, go_sem, r0, r1, r2]) rfl (ten_of rfl HF rfl HBF.out)
theorem impl_copyTensorT (w : World) (r c : Int) (ad : Option Addr) (cap : Nat) (xs : List Nat) (h : F32s w ad cap xs) (hc : ad = none → cap = 0) (n : Nat) (hl : xs.length = n) (hn : n ≤ 1048576) :
    Calls Tryz.prog 66 #[.agg #[.int .i64 r, .int .i64 c, .slice ad n cap]] w (TenPost r c n (xs.map (cn .f32)) w) := by
  subst hl
  refine (impl_copyTensor w r c ad cap xs h hc hn).mono ?_
  rintro e w' ⟨a, c', he, hr, hb⟩
  exact ten_of he hr rfl hb
end Go.Proofs.YtpadlmidojpbeaaGreat
/- x -/
namespace Go.Proofs.YtpadlmidojpbeaaGreat
open Go Go.RowKit
set_option maxHeartbeats 4000000 in
set_option maxRecDepth 100000 in
theorem impl_add (w0 W V : World) (tb : Nat) (ad : Option Addr) (cap : Nat) (us : List OpD) (E : List RowD) (h : TB w0 W ad cap us (xRow 67 tb [.slice ad us.length cap] :: E)) (hb : Below W.heap.size W V) (o : OpD) (ho : o.ok) (hn : Own V W.heap.size V.heap.size [floatRow o.ad o.cap o.xs]) (hul : us.length ≤ 100) :
    Calls Tryz.prog 64 #[o.val, .pointer (some ⟨tb, 0, none⟩)] V fun e V' => ∃ ad' cap', e = .returned (.int .i64 us.length) ∧ Hid (TB w0 V' ad' cap' (us ++ [o]) (xRow 67 tb [.slice ad' (us ++ [o]).length cap'] :: E)) := by
  obtain ⟨i0, hi0, hz0, hzs, hz2⟩ := info_parts info_op
  have HV : Hid (TB w0 V ad cap us (xRow 67 tb [.slice ad us.length cap] :: E)) := Lib.hid (h.move hb)
  have HTB := Lib.hid (HV.out.box (List.mem_cons_self ..))
  have hlo := HV.out.below.size
  obtain ⟨n, hN⟩ : ∃ n, n = us.length := ⟨_, rfl⟩
  have HH := Lib.hid h; have HB := Lib.hid hb; have HO := Lib.hid ho; have HNN := Lib.hid hn; have HN := Lib.hid hN
  clear h hb ho hn
  obtain ⟨⟨kk, a, b', q, r, c, xs⟩, oa, ok'⟩ := o
  show Calls Tryz.prog 64 #[.agg #[.int .i64 kk, .int .i64 a, .int .i64 b', .float .f32 q, .int .i64 r, .int .i64 c, .slice oa xs.length ok'], .pointer (some ⟨tb, 0, none⟩)] V _
  have HR1 := Lib.hid (HV.out.move (below1 V (.cells #[.int .i64 kk, .int .i64 a, .int .i64 b', .float .f32 q, .int .i64 r, .int .i64 c, .slice oa xs.length ok'] 74))).row
  have HR2 := Lib.hid HR1.out
  obtain ⟨-, t0, tf⟩ := (HTB.out.below (below1 V (.cells #[.int .i64 kk, .int .i64 a, .int .i64 b', .float .f32 q, .int .i64 r, .int .i64 c, .slice oa xs.length ok'] 74))).one1
  obtain ⟨m, hM⟩ : ∃ m, m = xs.length := ⟨_, rfl⟩
  rw [← hM] at HR2 t0 tf ⊢
  rw [← hN] at t0 HR2 hul ⊢
  have HM := Lib.hid hM
  clear hM hN HR1
  go_enter Tryz.func64, Tryz.ntmps64
  go_wp2_with (at_builtin; refine wp_appA rfl _ _ 67 rfl w0.heap.size i0 (.agg #[.int .i64 0, .int .i64 0, .int .i64 0, .float .f32 0, .int .i64 0, .int .i64 0, .slice none 0 0]) 7 72 Tryz.underlying67 hi0 hz0 hzs hz2 rfl (by decide) rfl (by intro u hu; simp at hu; rcases hu with rfl | rfl | rfl | rfl | rfl | rfl | rfl <;> rfl) _ _ _ rfl HR2.out (by go_simp) ?c3 ?c4 ?c5 ?_)
  case c3 => unfold maxLen; omega
  case c4 => omega
  case c5 => first | omega | (simp; omega) | exact Nat.le_trans hlo (by simp)
  intro v' w9 ho9 hg9 hat9 hb9 hs9
  obtain ⟨ad9, cap9, rfl, hx⟩ := HH.out.push (V := V.alloc (.cells #[.int .i64 kk, .int .i64 a, .int .i64 b', .float .f32 q, .int .i64 r, .int .i64 c, .slice oa m ok'] 74)) (o := ⟨⟨kk, a, b', q, r, c, xs⟩, oa, ok'⟩) (bthen HB.out (below1 V _)) HO.out (HNN.out.below (below1 V _)) (by simp) HB.out.size (by rw [← HN.out]; show w9.ownsRow _ _ _ _ _ (_ ++ [Value.int .i64 kk, .int .i64 a, .int .i64 b', .float .f32 q, .int .i64 r, .int .i64 c, .slice oa xs.length ok']); rw [← HM.out]; exact ho9) (by rw [← HN.out]; exact hg9) (by rw [← HN.out]; simpa using hat9)
  have hl1 : (us ++ [(⟨⟨kk, a, b', q, r, c, xs⟩, oa, ok'⟩ : OpD)]).length = n + 1 := by rw [List.length_append, ← HN.out]; rfl
  have HL1 := Lib.hid hl1
  have HX := Lib.hid hx
  obtain ⟨-, t0', tf'⟩ := (hx.box (List.mem_cons_self ..)).one1
  rw [← HN.out] at t0'
  rw [hl1]
  clear ho9 hg9 hat9 hb9 hs9 hx t0 tf hl1
  go_wp2
  go_ret
  refine ⟨ad9, cap9, by rw [← show ((n + 1 : Nat) : Int) - 1 = (n : Int) by omega]; go_simp, Lib.hid ?_⟩
  have h3 := HX.out.store 0 (.slice ad9 (n + 1) cap9)
  rw [HL1.out]
  exact h3
end Go.Proofs.YtpadlmidojpbeaaGreat
/- x -/
namespace Go.Proofs.YtpadlmidojpbeaaGreat
open Go Go.RowKit
def DIn (w0 : World) (tb : Nat) (us : List OpD) (E : List RowD) (r c : Int) (xs : List Nat) (f : FuncId) (args : Array Value) (w1 : World) (v : Value) (w2 : World) : Prop :=
  (f = 66 → ∃ a' k', v = .agg #[.int .i64 r, .int .i64 c, .slice a' xs.length k'] ∧ RepF w2 w1.heap.size w2.heap.size a' xs.length k' xs ∧ Below w1.heap.size w1 w2) ∧
  (f = 64 → ∃ o : OpD, ∃ ad' cap', o.toOpP = opIn r c xs ∧ v = .int .i64 us.length ∧ TB w0 w2 ad' cap' (us ++ [o]) (xRow 67 tb [.slice ad' (us ++ [o]).length cap'] :: E))
set_option maxHeartbeats 4000000 in
set_option maxRecDepth 100000 in
theorem impl_input (w0 W V : World) (tb fb : Nat) (ad : Option Addr) (cap : Nat) (us : List OpD) (E : List RowD) (h : TB w0 W ad cap us (xRow 67 tb [.slice ad us.length cap] :: E)) (hfb : xRow 104 fb [.func (.func 64) #[] #[.pointer (some ⟨tb, 0, none⟩)]] ∈ E) (hb : Below W.heap.size W V)
    (r c : Int) (a : Option Addr) (k : Nat) (xs : List Nat) (hf : F32s V a k xs) (hc : a = none → k = 0) (hn : xs.length ≤ 1048576) (hr : (Lit.int .i64 r).wf = true) (hcc : (Lit.int .i64 c).wf = true) (hul : us.length ≤ 100) :
    Calls Tryz.prog 65 #[.agg #[.int .i64 r, .int .i64 c, .slice a xs.length k], .pointer (some ⟨fb, 0, none⟩)] V fun e V' => ∃ o : OpD, ∃ ad' cap', e = .returned (.int .i64 us.length) ∧ Hid (o.toOpP = opIn r c xs ∧ TB w0 V' ad' cap' (us ++ [o]) (xRow 67 tb [.slice ad' (us ++ [o]).length cap'] :: E)) := by
  have hf0 := Lib.hid (show okF xs from hf.lt)
  have hbb := below1 V (.cells #[.int .i64 r, .int .i64 c, .slice a xs.length k] 37)
  have HV : Hid (TB w0 (V.alloc (.cells #[.int .i64 r, .int .i64 c, .slice a xs.length k] 37)) ad cap us (xRow 67 tb [.slice ad us.length cap] :: xRow 37 V.heap.size [.int .i64 r, .int .i64 c, .slice a xs.length k] :: E)) := Lib.hid (((h.move hb).alloc #[.int .i64 r, .int .i64 c, .slice a xs.length k] 37).perm (List.Perm.swap _ _ _))
  have HF := Lib.hid (hf.below hbb)
  obtain ⟨n, hN⟩ : ∃ n, n = xs.length := ⟨_, rfl⟩
  have HN := Lib.hid hN
  have HFB := Lib.hid hfb
  clear h hb hf hbb hfb
  rw [← hN] at HV HF ⊢
  clear hN
  go_enter Tryz.func65, Tryz.ntmps65
  go_upto_region 1 with fail
  generalize V.alloc (.cells #[.int .i64 r, .int .i64 c, .slice a n k] 37) = V1 at HV HF ⊢
  generalize V.heap.size = vb at HV ⊢
  have ST : Hid (∀ W ad cap us (E2 : List RowD), TB w0 W ad cap us (xRow 67 tb [.slice ad us.length cap] :: xRow 37 vb [.int .i64 r, .int .i64 c, .slice a n k] :: E) → W.cell? ⟨fb, 0, none⟩ = some (.func (.func 64) #[] #[.pointer (some ⟨tb, 0, none⟩)]) ∧ W.cell? ⟨vb, 0, none⟩ = some (.int .i64 r) ∧ W.cell? ⟨vb, 1, none⟩ = some (.int .i64 c) ∧ W.cell? ⟨vb, 2, none⟩ = some (.slice a n k)) := Lib.hid (fun W ad cap us E2 h => by
    obtain ⟨-, f0, -⟩ := (h.box (List.mem_cons_of_mem _ (List.mem_cons_of_mem _ HFB.out))).one1
    obtain ⟨-, v0, v1, v2, -⟩ := (h.box (List.mem_cons_of_mem _ (List.mem_cons_self ..))).three
    exact ⟨f0, v0, v1, v2⟩)
  have S0 := Lib.hid (ST.out V1 ad cap us E HV.out)
  refine wp_region_mix 5 [2, 4] (fun W => W.cell? ⟨fb, 0, none⟩ = some (.func (.func 64) #[] #[.pointer (some ⟨tb, 0, none⟩)]) ∧ W.cell? ⟨vb, 0, none⟩ = some (.int .i64 r) ∧ W.cell? ⟨vb, 1, none⟩ = some (.int .i64 c) ∧ W.cell? ⟨vb, 2, none⟩ = some (.slice a n k)) (fun _ _ _ => False) (DIn w0 tb us (xRow 37 vb [.int .i64 r, .int .i64 c, .slice a n k] :: E) r c xs) (by kernel_rfl) (by kernel_rfl) S0.out (fun W q h => by simpa using h) ?_
  iterate 2 (refine mwalk_plain (by rfl) S0.out (fun K hK W hW => ?_); obtain ⟨e0, e1, e2, e3⟩ := hW; go_simp; refine hK _ ?_; clear hK K e0 e1 e2 e3)
  refine mwalk_spec (by rfl) S0.out (fun K hK q0 => ?_)
  have D0 := Lib.hid (below_drewN (Below.refl V1.heap.size V1) q0)
  have KC := Lib.hid (impl_copyTensor (V1.drewN q0) r c a k xs (HF.out.below D0.out) hc hn)
  rw [← HN.out] at KC
  go_simp
  refine ⟨KC.out.mono (fun e w5 hh => by
    obtain ⟨a', k', he, hr5, hb5⟩ := hh
    exact ⟨_, he, ⟨fun _ => ⟨a', k', by rw [HN.out], by rw [← HN.out]; exact hr5.out, hb5⟩, fun e => absurd e (by decide)⟩⟩), ?_⟩
  rintro v w5 hd
  obtain ⟨a', k', rfl, hr5, hb5⟩ := hd.1 rfl
  have C5 := Lib.hid (bthen D0.out hb5)
  have R5 := Lib.hid (hr5.bounds (show V1.heap.size ≤ _ from D0.out.size) (Nat.le_refl _))
  have S5 := Lib.hid (ST.out w5 ad cap us E (HV.out.move C5.out))
  refine ⟨S5.out, hK _ _ ?_⟩
  clear hK K hd hr5 hb5 KC
  refine mwalk_plain (by rfl) S5.out (fun K hK W hW => ?_)
  obtain ⟨e0, e1, e2, e3⟩ := hW
  go_simp
  refine hK _ ?_
  clear hK K e0 e1 e2 e3
  refine mwalk_spec (by rfl) S5.out (fun K hK q1 => ?_)
  have C6 := Lib.hid (bthen C5.out (below_drewN (Below.refl _ _) q1))
  have R6 := Lib.hid ((R5.out.below (below_drewN (Below.refl _ _) q1)).bounds (Nat.le_refl _) (show w5.heap.size ≤ (w5.drewN q1).heap.size by simp))
  have KA := Lib.hid (impl_add w0 V1 (w5.drewN q1) tb ad cap us (xRow 37 vb [.int .i64 r, .int .i64 c, .slice a n k] :: E) HV.out C6.out ⟨opIn r c xs, a', k'⟩ ⟨hf0.out, (show (0 : Nat) < 4294967296 by decide), rfl, rfl, rfl, hr, hcc⟩ R6.out.ownRow hul)
  have KA2 : Hid (Calls Tryz.prog 64 #[.agg #[.int .i64 0, .int .i64 0, .int .i64 0, .float .f32 0, .int .i64 r, .int .i64 c, .slice a' xs.length k'], .pointer (some ⟨tb, 0, none⟩)] (w5.drewN q1) _) := KA
  go_simp
  refine ⟨KA2.out.mono (fun e w7 hh => by
    obtain ⟨ad', cap', he, hr7⟩ := hh
    exact ⟨_, he, ⟨fun e => absurd e (by decide), fun _ => ⟨⟨opIn r c xs, a', k'⟩, ad', cap', rfl, rfl, hr7.out⟩⟩⟩), ?_⟩
  rintro v w7 hd
  obtain ⟨o, ad', cap', ho, rfl, ht⟩ := hd.2 rfl
  have S7 := Lib.hid (ST.out w7 ad' cap' (us ++ [o]) E ht)
  refine ⟨S7.out, hK _ _ ?_⟩
  have HT := Lib.hid ht; have HO := Lib.hid ho
  clear hK K hd ht ho KA KA2
  refine mwalk_nil (fun q9 => ?_)
  have HT9 := Lib.hid (HT.out.move (below_drewN (Below.refl _ _) q9))
  clear S0 S5 S7 HT R5 R6 C5 C6 D0 HV HF ST
  generalize w7.drewN q9 = w9 at HT9 ⊢
  go_wp2
  go_ret
  exact ⟨o, ad', cap', rfl, Lib.hid ⟨HO.out, HT9.out.sub (List.Sublist.cons_cons _ (List.sublist_cons_self _ _))⟩⟩
end Go.Proofs.YtpadlmidojpbeaaGreat
