/- Joined texts 6: Tm2 Tp0 Tp1 Tp3 Tp5 Tu0 Tu1. Each is told at its own head. No condition. -/
import Derived.Test.YtnkikigfpdngdaaMc1
import Derived.Test.YtnkikigfpdngdaaMc2
import Derived.Test.YtnkikigfpdngdaaMc4
import Derived.Test.YtnkikigfpdngdaaMc5
/- Products of matrices: the program. No condition. -/
namespace Go.Proofs.Ytnkikigfpdngdaa
open Go Go.RowKit
set_option linter.unusedVariables false
set_option linter.unusedSimpArgs false
/-- what the calls of a round give: two rows, and a number -/
def ProdD (fr : FuncId) (A1 A2 : Array Value) (v1 v2 : Value) (G : FuncId) (P : Nat → Prop) (f : FuncId) (args : Array Value) (w1 : World) (v : Value) (w2 : World) : Prop :=
  Below w1.heap.size w1 w2 ∧ (f = fr → (args = A1 → v = v1) ∧ (args = A2 → v = v2)) ∧ (f = G → ∃ y, v = .float .f32 y ∧ P y ∧ y < 4294967296)
theorem get_push {zs : List Nat} {c i k m : Nat} {P : Nat → Nat → Nat → Prop} {z : Nat} (hl : zs.length = m) (hm : m = i * c + k) (hk : k < c) (h : ∀ i' k', k' < c → i' * c + k' < m → P i' k' (zs.getD (i' * c + k') 0)) (hz : P i k z) : ∀ i' k', k' < c → i' * c + k' < m + 1 → P i' k' ((zs ++ [z]).getD (i' * c + k') 0) := by
  intro i' k' hk' hlt
  by_cases e : i' * c + k' = m
  · have hi : i' = i := by
      rcases Nat.lt_trichotomy i' i with h1 | h1 | h1
      · exfalso
        have : (i' + 1) * c ≤ i * c := Nat.mul_le_mul_right c h1
        rw [Nat.succ_mul] at this; omega
      · exact h1
      · exfalso
        have : (i + 1) * c ≤ i' * c := Nat.mul_le_mul_right c h1
        rw [Nat.succ_mul] at this; omega
    subst hi
    have hkk : k' = k := by omega
    subst hkk
    rw [e, List.getD_eq_getElem?_getD, List.getElem?_append_right (by omega), hl, Nat.sub_self]
    exact hz
  · have h1 := h i' k' hk' (by omega)
    rw [List.getD_eq_getElem?_getD, List.getElem?_append_left (by omega), ← List.getD_eq_getElem?_getD]
    exact h1
set_option maxHeartbeats 32000000 in
set_option maxRecDepth 100000 in
theorem impl_products (w : World) (r m c : Nat) (a1 a2 : Option Addr) (c1 c2 n1 n2 : Nat) (xs ys : List Nat) (hx : F32s w a1 c1 xs) (hy : F32s w a2 c2 ys) (hxl : xs.length = n1) (hyl : ys.length = n2) (hr1 : 1 ≤ r) (hr : r ≤ 16) (hm1 : 1 ≤ m) (hm : m ≤ 16) (hc1 : 1 ≤ c) (hc : c ≤ 16) (hn1 : n1 = r * m) (hn2 : n2 = m * c)
    (G : Nat) (caps : Array Value) (P : Nat → Nat → Nat → Prop) (hG : ∀ (args : Array Value) (W : World), (callFunc G args).run Try.prog W = .ok (.enter G args) W) (hGr : G ≠ 124)
    (hcl : ∀ W i k (u v : Option Addr) (cu cv : Nat) (us vs : List Nat), Below w.heap.size w W → i < r → k < c → F32s W u cu us → F32s W v cv vs → us.length = m → vs.length = m → us = (xs.drop (i * m)).take m → vs.map (cn .f32) = listOf m (fun t => (ys.map (cn .f32)).getD (t * c + k) 0) →
      Calls Try.prog G (#[.slice u m cu, .slice v m cv] ++ caps) W fun e w' => ∃ y, e = .returned (.float .f32 y) ∧ Hid (P i k y ∧ y < 4294967296) ∧ Below W.heap.size W w') :
    Calls Try.prog 105 #[.agg #[.int .i64 r, .int .i64 m, .slice a1 n1 c1], .agg #[.int .i64 m, .int .i64 c, .slice a2 n2 c2], .func (.func G) #[] caps] w fun e w' => ∃ ad cap zs, e = .returned (.agg #[.int .i64 r, .int .i64 c, .slice ad (r * c) cap]) ∧ Hid (RepF w' w.heap.size w'.heap.size ad (r * c) cap zs) ∧ Hid (∀ i k, i < r → k < c → P i k (zs.getD (i * c + k) 0)) ∧ Below w.heap.size w w' := by
  obtain ⟨i0, hi0, hz0, hzs, hz2⟩ := info_parts info_f32
  have hb1 : n1 ≤ 256 := by rw [hn1]; exact Nat.mul_le_mul hr hm
  have hb3 : r * c ≤ 256 := Nat.mul_le_mul hr hc
  have hp1 : 1 ≤ n1 := by rw [hn1]; exact Nat.mul_le_mul hr1 hm1
  obtain ⟨b1, f1, rfl, hl1, hcx⟩ := hx.spot (k := 0) (by rw [hxl]; exact hp1)
  have hcap := hx.len
  rw [hxl] at hcap
  obtain ⟨n, hn⟩ : ∃ n, n = r * c := ⟨_, rfl⟩
  rw [← hn] at hb3 ⊢
  have HX := Lib.hid hx; have HXL := Lib.hid hxl; have HN := Lib.hid hn; have HN1 := Lib.hid hn1; have HN2 := Lib.hid hn2; have HCL := Lib.hid hcl; have HYL := Lib.hid hyl
  have KT := Lib.hid (fun W (hb : Below w.heap.size w W) => impl_transposed W m c a2 c2 n2 ys (hy.below hb) hyl hm1 hm hc1 hc hn2)
  have KR1 : Hid (∀ W i, i < r → Calls Try.prog 124 #[.agg #[.int .i64 r, .int .i64 m, .slice (some ⟨b1, f1, none⟩) n1 c1], .int .i64 (i : Nat)] W fun e w' => e = .returned (.slice (some ⟨b1, f1 + i * m, none⟩) m (c1 - i * m)) ∧ Below W.heap.size W w') := Lib.hid (fun W i hi => impl_row W r m _ n1 c1 hn1 hm1 hm hr hcap i hi b1 f1 rfl)
  clear hx hxl hcx hy hn hn1 hcl hyl
  have hn2p : 1 ≤ n2 := by rw [hn2]; exact Nat.mul_le_mul hm1 hc1
  have hn2q : n2 ≤ 256 := by rw [hn2]; exact Nat.mul_le_mul hm hc
  clear hn2
  have o1 := (Own.nil w w.heap.size w.heap.size).alloc (Nat.le_refl _) (Nat.le_refl _) #[.int .i64 r, .int .i64 m, .slice (some ⟨b1, f1, none⟩) n1 c1] 27
  obtain ⟨V1, hV1⟩ : ∃ V, V = w.alloc (.cells #[.int .i64 r, .int .i64 m, .slice (some ⟨b1, f1, none⟩) n1 c1] 27) := ⟨_, rfl⟩
  have s1 : V1.heap.size = w.heap.size + 1 := by rw [hV1]; simp
  rw [← hV1] at o1
  have o2 := o1.alloc (by rw [s1]; omega) (by rw [s1]; exact Nat.le_refl _) #[.int .i64 m, .int .i64 c, .slice a2 n2 c2] 27
  obtain ⟨V2, hV2⟩ : ∃ V, V = V1.alloc (.cells #[.int .i64 m, .int .i64 c, .slice a2 n2 c2] 27) := ⟨_, rfl⟩
  have s2 : V2.heap.size = w.heap.size + 1 + 1 := by rw [hV2]; simp [s1]
  rw [s1, ← hV2] at o2
  have o3 := o2.alloc (by rw [s2]; omega) (by rw [s2]; exact Nat.le_refl _) #[.int .i64 0, .int .i64 0, .slice none 0 0] 27
  obtain ⟨V3, hV3⟩ : ∃ V, V = V2.alloc (.cells #[.int .i64 0, .int .i64 0, .slice none 0 0] 27) := ⟨_, rfl⟩
  have s3 : V3.heap.size = w.heap.size + 1 + 1 + 1 := by rw [hV3]; simp [s2]
  rw [s2, ← hV3] at o3
  have o4 := o3.alloc (by rw [s3]; omega) (by rw [s3]; exact Nat.le_refl _) #[.int .i64 r, .int .i64 c, .slice none 0 0] 27
  obtain ⟨V4, hV4⟩ : ∃ V, V = V3.alloc (.cells #[.int .i64 r, .int .i64 c, .slice none 0 0] 27) := ⟨_, rfl⟩
  have s4 : V4.heap.size = w.heap.size + 1 + 1 + 1 + 1 := by rw [hV4]; simp [s3]
  rw [s3, ← hV4] at o4
  have hVB : Below w.heap.size w V4 := by
    rw [hV4, hV3, hV2, hV1]
    exact (below3 w _ _ _).alloc (by simp; omega) _
  have HO4 := Lib.hid o4; have HVB := Lib.hid hVB
  have HV4 : Hid ((((w.alloc (.cells #[.int .i64 r, .int .i64 m, .slice (some ⟨b1, f1, none⟩) n1 c1] 27)).alloc (.cells #[.int .i64 m, .int .i64 c, .slice a2 n2 c2] 27)).alloc (.cells #[.int .i64 0, .int .i64 0, .slice none 0 0] 27)).alloc (.cells #[.int .i64 r, .int .i64 c, .slice none 0 0] 27) = V4) := Lib.hid (by rw [hV4, hV3, hV2, hV1])
  have HS4 := Lib.hid s4
  clear o1 o2 o3 o4 s1 s2 s3 s4 hV1 hV2 hV3 hV4 hVB
  go_enter Try.func105, Try.ntmps105
  go_wp2_with fail
  rw [HV4.out]
  refine (KT.out _ HVB.out).mono ?_
  rintro e V5 ⟨ta, tc, ts, rfl, HR5, HT5, hb5⟩
  have HB5 := Lib.hid hb5
  have hlo := Own.fresh HO4.out (by rw [HS4.out]; omega) (by rw [HS4.out]; exact Nat.le_refl _) hb5 HR5.out.ownRow hb5.size
  have hz5 : w.heap.size + 1 + 1 + 1 + 1 ≤ V5.heap.size := by have := hb5.size; rw [HS4.out] at this; exact this
  have o5 := hlo.alloc (by omega) (Nat.le_refl _) #[.int .i64 c, .int .i64 m, .slice ta n2 tc] 27
  have HO5 := Lib.hid o5
  have hbx : BoxN V5 w.heap.size [.int .i64 r, .int .i64 m, .slice (some ⟨b1, f1, none⟩) n1 c1] := (HO4.out.box (by simp [bRow])).below hb5
  have htl := HR5.out.len
  obtain ⟨bt, ft, rfl, hbtl, _⟩ := HR5.out.arg.spot (k := 0) (by rw [htl]; exact hn2p)
  obtain ⟨rfl, hbtr, _, _⟩ := (hlo.bounds (Nat.le_refl _) (Nat.le_refl _)).cell (List.mem_append_right _ (List.mem_singleton.2 rfl))
  obtain ⟨ta, hta⟩ : ∃ ta : Option Addr, ta = some ⟨bt, 0, none⟩ := ⟨_, rfl⟩
  obtain ⟨W6, hW6⟩ : ∃ W, W = V5.alloc (.cells #[.int .i64 c, .int .i64 m, .slice (some ⟨bt, 0, none⟩) n2 tc] 27) := ⟨_, rfl⟩
  have s6 : W6.heap.size = V5.heap.size + 1 := by rw [hW6]; simp
  rw [← hW6, ← s6] at o5
  have hbel6 : Below w.heap.size w W6 := by rw [hW6]; exact (bthen HVB.out hb5).alloc (by omega) _
  have hE : BldE w W6 (w.heap.size + 1 + 1) (w.heap.size + 1 + 1 + 1) r c none 0 0 [] [bRow V5.heap.size [.int .i64 c, .int .i64 m, .slice (some ⟨bt, 0, none⟩) n2 tc], bRow (w.heap.size + 1) [.int .i64 m, .int .i64 c, .slice a2 n2 c2], bRow w.heap.size [.int .i64 r, .int .i64 m, .slice (some ⟨b1, f1, none⟩) n1 c1], floatRow (some ⟨bt, 0, none⟩) tc ts] := by
    refine ⟨(o5.perm (List.Perm.trans (List.Perm.swap _ _ _) (List.Perm.cons _ (List.Perm.swap _ _ _)))).voidRow, rfl, fun x hx => (nomatch hx), hbel6⟩
  have HE := Lib.hid hE; have HW6 := Lib.hid hW6; have HTL := Lib.hid htl
  have HOK := Lib.hid HR5.out.okF
  clear o5 hlo hE HO5 htl hta ta s6 hbel6
  have hbtw : w.heap.size ≤ bt := by have := hbtr.1; exact this
  have KR2 : Hid (∀ W k, k < c → Calls Try.prog 124 #[.agg #[.int .i64 c, .int .i64 m, .slice (some ⟨bt, 0, none⟩) n2 tc], .int .i64 (k : Nat)] W fun e w' => e = .returned (.slice (some ⟨bt, 0 + k * m, none⟩) m (tc - k * m)) ∧ Below W.heap.size W w') := Lib.hid (fun W k hk => impl_row W c m _ n2 tc (by rw [HN2.out, Nat.mul_comm]) hm1 hm hc (by have := HR5.out.arg.len; rw [HTL.out] at this; exact this) k hk bt 0 rfl)
  have htcap : n2 ≤ tc := by have := HR5.out.arg.len; rw [HTL.out] at this; exact this
  obtain ⟨bl, x0, x1, x2, xf⟩ := hbx.three
  clear hbx
  go_wp2
  rw [← HW6.out]
  clear HW6 bl x0 x1 x2 xf
  go_loopw [20, 9, 10, 24, 25] (fun i _ _ _ _ wt => ∃ k : Nat, i = .int .i64 k ∧ k ≤ r ∧ ∃ q va vc zs, Hid (q = k * c ∧ BldE w wt (w.heap.size + 1 + 1) (w.heap.size + 1 + 1 + 1) r c va q vc zs [bRow V5.heap.size [.int .i64 c, .int .i64 m, .slice (some ⟨bt, 0, none⟩) n2 tc], bRow (w.heap.size + 1) [.int .i64 m, .int .i64 c, .slice a2 n2 c2], bRow w.heap.size [.int .i64 r, .int .i64 m, .slice (some ⟨b1, f1, none⟩) n1 c1], floatRow (some ⟨bt, 0, none⟩) tc ts]) ∧ Hid (∀ i' k', k' < c → i' * c + k' < q → P i' k' (zs.getD (i' * c + k') 0))) (fun i _ _ _ _ _ => r - (intOf i).toNat)
  case atStart => exact ⟨0, rfl, Nat.zero_le _, 0, _, _, [], Lib.hid ⟨by simp, HE.out⟩, Lib.hid (fun _ _ _ h => absurd h (by omega))⟩
  case round =>
    clear HE
    obtain ⟨i, rfl, hi, q, va, vc, zs, HB, HZ⟩ := hrel
    obtain ⟨wo, rfl⟩ : ∃ wo : World, wo = wr := ⟨_, rfl⟩
    by_cases hli : i < r
    · obtain ⟨bl, x0, x1, x2, xf⟩ := (HB.out.2.own.box (mem3 (List.mem_cons_of_mem _ (List.mem_cons_self ..)))).three
      go_wp2
      go_loopw [25, 10] (fun u _ wt => ∃ k : Nat, u = .int .i64 k ∧ k ≤ c ∧ ∃ d va vc zs, Hid (d = i * c + k ∧ BldE w wt (w.heap.size + 1 + 1) (w.heap.size + 1 + 1 + 1) r c va d vc zs [bRow V5.heap.size [.int .i64 c, .int .i64 m, .slice (some ⟨bt, 0, none⟩) n2 tc], bRow (w.heap.size + 1) [.int .i64 m, .int .i64 c, .slice a2 n2 c2], bRow w.heap.size [.int .i64 r, .int .i64 m, .slice (some ⟨b1, f1, none⟩) n1 c1], floatRow (some ⟨bt, 0, none⟩) tc ts]) ∧ Hid (∀ i' k', k' < c → i' * c + k' < d → P i' k' (zs.getD (i' * c + k') 0))) (fun u _ _ => c - (intOf u).toNat)
      case atStart => exact ⟨0, rfl, Nat.zero_le _, q, va, vc, zs, Lib.hid ⟨by rw [HB.out.1]; rfl, HB.out.2⟩, HZ⟩
      case round =>
        clear HB HZ bl x0 x1 x2 xf
        obtain ⟨k, rfl, hk, d, va, vc, zs, HB, HZ⟩ := hrel
        by_cases hlt : k < c
        · have hdn : d < n := by
            rw [HB.out.1, HN.out]
            have : (i + 1) * c ≤ r * c := Nat.mul_le_mul_right c hli
            rw [Nat.succ_mul] at this; omega
          have hs1c : i * m + m ≤ n1 := by
            rw [HN1.out]
            have : (i + 1) * m ≤ r * m := Nat.mul_le_mul_right m hli
            rw [Nat.succ_mul] at this; exact this
          have hs2c : k * m + m ≤ n2 := by
            rw [HN2.out, Nat.mul_comm m c]
            have : (k + 1) * m ≤ c * m := Nat.mul_le_mul_right m hlt
            rw [Nat.succ_mul] at this; exact this
          have K1 := Lib.hid (fun W => KR1.out W i hli)
          have K2 := Lib.hid (fun W => KR2.out W k hlt)
          have KG : Hid (∀ W, Below w.heap.size w W → F32s W (some ⟨bt, 0, none⟩) tc ts → Calls Try.prog G (#[.slice (some ⟨b1, f1 + i * m, none⟩) m (c1 - i * m), .slice (some ⟨bt, 0 + k * m, none⟩) m (tc - k * m)] ++ caps) W fun e w' => ∃ y, e = .returned (.float .f32 y) ∧ Hid (P i k y ∧ y < 4294967296) ∧ Below W.heap.size W w') := Lib.hid (fun W hb ht => by
            have h1 := (HX.out.below hb).cut3 (i * m + m) (by rw [HXL.out]; exact hs1c)
            have h2 := (h1.1.cut3 (i * m) (by rw [List.length_take, HXL.out]; omega)).2
            have h3 := ht.cut3 (k * m + m) (by rw [HTL.out]; exact hs2c)
            have h4 := (h3.1.cut3 (k * m) (by rw [List.length_take, HTL.out]; omega)).2
            have e1 : (xs.take (i * m + m)).drop (i * m) = (xs.drop (i * m)).take m := by rw [List.drop_take]; congr 1; omega
            have e2 : (ts.take (k * m + m)).drop (k * m) = (ts.drop (k * m)).take m := by rw [List.drop_take]; congr 1; omega
            rw [e1] at h2
            rw [e2] at h4
            refine HCL.out W i k _ _ _ _ _ _ hb hli hlt h2 h4 (by rw [List.length_take, List.length_drop, HXL.out]; omega) (by rw [List.length_take, List.length_drop, HTL.out]; omega) rfl ?_
            rw [List.map_take, List.map_drop, HT5.out]
            refine List.ext_getElem ?_ fun j g1 g2 => ?_
            · rw [List.length_take, List.length_drop, turnE, listOf_length, listOf_length]; omega
            · rw [listOf_length] at g2
              have e3 : ∀ (l : List Nat) (j : Nat) (h : j < l.length), l[j] = l.getD j 0 := fun l j h => by rw [List.getD_eq_getElem?_getD, List.getElem?_eq_getElem h]; rfl
              rw [List.getElem_take, List.getElem_drop, e3, e3, turnE, listOf_getD _ (by omega), listOf_getD _ g2, turn_at _ g2])
          obtain ⟨s1, hs1⟩ : ∃ s, s = i * m := ⟨_, rfl⟩
          obtain ⟨s2, hs2⟩ : ∃ s, s = 0 + k * m := ⟨_, rfl⟩
          rw [← hs1] at K1 KG
          rw [← hs2] at K2 KG
          obtain ⟨t1, ht1⟩ : ∃ s, s = tc - k * m := ⟨_, rfl⟩
          rw [← ht1] at K2 KG
          obtain ⟨t2, ht2⟩ : ∃ s, s = c1 - s1 := ⟨_, rfl⟩
          rw [← ht2] at K1 KG
          have HMS : Hid (d + 1 = i * c + (k + 1)) := Lib.hid (by rw [HB.out.1]; rfl)
          have KS : Hid (∀ W, BoxN W w.heap.size [.int .i64 r, .int .i64 m, .slice (some ⟨b1, f1, none⟩) n1 c1] → BoxN W V5.heap.size [.int .i64 c, .int .i64 m, .slice (some ⟨bt, 0, none⟩) n2 tc] → BoxN W (w.heap.size + 1 + 1 + 1) [.int .i64 r, .int .i64 c, .slice va d vc] → (W.cell? ⟨w.heap.size, 0, none⟩ = some (.int .i64 r) ∧ W.cell? ⟨w.heap.size, 1, none⟩ = some (.int .i64 m) ∧ W.cell? ⟨w.heap.size, 2, none⟩ = some (.slice (some ⟨b1, f1, none⟩) n1 c1)) ∧ (W.cell? ⟨V5.heap.size, 0, none⟩ = some (.int .i64 c) ∧ W.cell? ⟨V5.heap.size, 1, none⟩ = some (.int .i64 m) ∧ W.cell? ⟨V5.heap.size, 2, none⟩ = some (.slice (some ⟨bt, 0, none⟩) n2 tc)) ∧ W.cell? ⟨w.heap.size + 1 + 1 + 1, 2, none⟩ = some (.slice va d vc)) := Lib.hid (fun W h1 h2 h3 => ⟨⟨h1.three.2.1, h1.three.2.2.1, h1.three.2.2.2.1⟩, ⟨h2.three.2.1, h2.three.2.2.1, h2.three.2.2.2.1⟩, h3.three.2.2.2.1⟩)
          have KB : Hid (∀ W, BldE w W (w.heap.size + 1 + 1) (w.heap.size + 1 + 1 + 1) r c va d vc zs [bRow V5.heap.size [.int .i64 c, .int .i64 m, .slice (some ⟨bt, 0, none⟩) n2 tc], bRow (w.heap.size + 1) [.int .i64 m, .int .i64 c, .slice a2 n2 c2], bRow w.heap.size [.int .i64 r, .int .i64 m, .slice (some ⟨b1, f1, none⟩) n1 c1], floatRow (some ⟨bt, 0, none⟩) tc ts] → ((W.cell? ⟨w.heap.size, 0, none⟩ = some (.int .i64 r) ∧ W.cell? ⟨w.heap.size, 1, none⟩ = some (.int .i64 m) ∧ W.cell? ⟨w.heap.size, 2, none⟩ = some (.slice (some ⟨b1, f1, none⟩) n1 c1)) ∧ (W.cell? ⟨V5.heap.size, 0, none⟩ = some (.int .i64 c) ∧ W.cell? ⟨V5.heap.size, 1, none⟩ = some (.int .i64 m) ∧ W.cell? ⟨V5.heap.size, 2, none⟩ = some (.slice (some ⟨bt, 0, none⟩) n2 tc)) ∧ W.cell? ⟨w.heap.size + 1 + 1 + 1, 2, none⟩ = some (.slice va d vc)) ∧ F32s W (some ⟨bt, 0, none⟩) tc ts) := Lib.hid (fun W h => ⟨KS.out W (h.own.box (mem3 (by simp))) (h.own.box (mem3 (by simp))) h.out, by
            have h9 := (h.own.repF (ad := some ⟨bt, 0, none⟩) (cap := tc) (xs := ts) (mem3 (by simp)) HOK.out).arg
            exact h9⟩)
          have HNE : Hid ((#[.agg #[.int .i64 r, .int .i64 m, .slice (some ⟨b1, f1, none⟩) n1 c1], .int .i64 (i : Nat)] : Array Value) ≠ #[.agg #[.int .i64 c, .int .i64 m, .slice (some ⟨bt, 0, none⟩) n2 tc], .int .i64 (k : Nat)]) := Lib.hid (by
            intro h
            simp only [Array.mk.injEq, List.cons.injEq, Value.agg.injEq, Value.slice.injEq, Option.some.injEq, Addr.mk.injEq] at h
            omega)
          have HS := Lib.hid (KB.out wr HB.out.2)
          clear hs1 hs2 ht1 ht2 hs1c hs2c
          go_upto_region 9 with fail
          refine wp_region_mix 13 [5, 8, 9, 10, 11] (fun W => (W.cell? ⟨w.heap.size, 0, none⟩ = some (.int .i64 r) ∧ W.cell? ⟨w.heap.size, 1, none⟩ = some (.int .i64 m) ∧ W.cell? ⟨w.heap.size, 2, none⟩ = some (.slice (some ⟨b1, f1, none⟩) n1 c1)) ∧ (W.cell? ⟨V5.heap.size, 0, none⟩ = some (.int .i64 c) ∧ W.cell? ⟨V5.heap.size, 1, none⟩ = some (.int .i64 m) ∧ W.cell? ⟨V5.heap.size, 2, none⟩ = some (.slice (some ⟨bt, 0, none⟩) n2 tc)) ∧ W.cell? ⟨w.heap.size + 1 + 1 + 1, 2, none⟩ = some (.slice va d vc)) (fun _ _ _ => False) (ProdD 124 #[.agg #[.int .i64 r, .int .i64 m, .slice (some ⟨b1, f1, none⟩) n1 c1], .int .i64 (i : Nat)] #[.agg #[.int .i64 c, .int .i64 m, .slice (some ⟨bt, 0, none⟩) n2 tc], .int .i64 (k : Nat)] (.slice (some ⟨b1, f1 + s1, none⟩) m t2) (.slice (some ⟨bt, s2, none⟩) m t1) G (P i k)) (by kernel_rfl) (by kernel_rfl) HS.out.1 (fun W q h => by simpa using h) ?_
          iterate 5 (refine mwalk_plain (by rfl) HS.out.1 (fun K hK W hW => ?_); obtain ⟨⟨e1, e2, e3⟩, ⟨e4, e5, e6⟩, e7⟩ := hW; go_simp; refine hK _ ?_; clear hK K e1 e2 e3 e4 e5 e6 e7)
          refine mwalk_spec (by rfl) HS.out.1 (fun K hK q1 => ?_)
          go_simp
          refine ⟨(K1.out _).mono ?_, ?_⟩
          · rintro e w1 ⟨rfl, hb⟩
            exact ⟨_, rfl, hb, fun _ => ⟨fun _ => rfl, fun h => absurd h HNE.out⟩, fun h => absurd h.symm hGr⟩
          rintro v w2 ⟨hb2, hv, -⟩
          obtain rfl := (hv rfl).1 rfl
          have hB2 := HB.out.2.move (bthen (below_drewN (Below.refl wr.heap.size wr) q1) hb2)
          have HS2 := Lib.hid (KB.out w2 hB2); have HB2 := Lib.hid hB2
          refine ⟨HS2.out.1, hK _ _ ?_⟩
          clear hK K hb2 hB2 hv HS
          iterate 2 (refine mwalk_plain (by rfl) HS2.out.1 (fun K hK W hW => ?_); obtain ⟨⟨e1, e2, e3⟩, ⟨e4, e5, e6⟩, e7⟩ := hW; go_simp; refine hK _ ?_; clear hK K e1 e2 e3 e4 e5 e6 e7)
          refine mwalk_spec (by rfl) HS2.out.1 (fun K hK q1 => ?_)
          go_simp
          refine ⟨(K2.out _).mono ?_, ?_⟩
          · rintro e w1 ⟨rfl, hb⟩
            exact ⟨_, rfl, hb, fun _ => ⟨fun h => absurd h.symm HNE.out, fun _ => rfl⟩, fun h => absurd h.symm hGr⟩
          rintro v w3 ⟨hb2, hv, -⟩
          obtain rfl := (hv rfl).2 rfl
          have hB3 := HB2.out.move (bthen (below_drewN (Below.refl w2.heap.size w2) q1) hb2)
          have HS3 := Lib.hid (KB.out w3 hB3); have HB3 := Lib.hid hB3
          refine ⟨HS3.out.1, hK _ _ ?_⟩
          clear hK K hb2 hB3 hv HS2 HB2
          refine mwalk_spec (by rfl) HS3.out.1 (fun K hK q1 => ?_)
          go_simp
          refine ⟨(KG.out _ (below_drewN HB3.out.below q1) (HS3.out.2.below (below_drewN (Below.refl _ _) q1))).mono ?_, ?_⟩
          · rintro e w1 ⟨y, rfl, hy, hb⟩
            exact ⟨_, rfl, hb, fun h => absurd h hGr, fun _ => ⟨y, rfl, hy.out.1, hy.out.2⟩⟩
          rintro v w4 ⟨hb2, -, hv⟩
          obtain ⟨y, rfl, hpy, hyl⟩ := hv rfl
          have HPY := Lib.hid hpy; have HYB := Lib.hid hyl
          have hB4 := HB3.out.move (bthen (below_drewN (Below.refl w3.heap.size w3) q1) hb2)
          have HS4 := Lib.hid (KB.out w4 hB4); have HB4 := Lib.hid hB4
          refine ⟨HS4.out.1, hK _ _ ?_⟩
          clear hK K hb2 hB4 hv HS3 HB3 hpy hyl
          refine mwalk_spec (by rfl) HS4.out.1 (fun K hK q => ?_)
          have hbq := below_drewN (Below.refl w4.heap.size w4) q
          go_simp
          have hbA : Below w4.heap.size w4 ((w4.drewN q).alloc (.cells #[.float .f32 y] 33)) := hbq.alloc (by simp) _
          have hBA := HB4.out.move hbA
          have HSA := Lib.hid (KB.out _ hBA)
          have HBA := Lib.hid hbA
          refine ⟨HSA.out.1, hK _ _ ?_⟩
          clear hK K hbq hbA hBA
          refine mwalk_spec (by rfl) HSA.out.1 (fun K hK q2 => ?_)
          refine specRes_append rfl _ _ 25 rfl w.heap.size 33 i0 _ 1 4 Try.underlying25 hi0 hz0 hzs hz2 rfl (by decide) (.slice va d vc) d (zs.map (Value.float .f32)) rfl (HB4.out.move (below_drewN HBA.out q2)).row ⟨w4.heap.size, 0, none⟩ 1 1 [.float .f32 y] rfl rfl (World.news_of_block (cs := #[.float .f32 y]) (t := 33) (fr := (0, 0)) (heap_alloc_new (w4.drewN q) _)) (by simp [Value.oneCell']) (by unfold maxLen; omega) (by omega) (Nat.le_trans HB4.out.below.size (Nat.le_trans HBA.out.size (Nat.le_refl _))) ?_
          intro v' w9 ho9 hg9 hat9 hb9
          obtain ⟨va', vc', rfl, hown9, hbel9, hnew⟩ := HB4.out.push (W := (w4.drewN q).drewN q2) HYB.out (below_drewN (below_drewN (Below.refl _ _) q) q2) ho9 hg9 (by simpa using hat9)
          have HPU := Lib.hid (get_push HB.out.2.len HB.out.1 hlt HZ.out HPY.out)
          have HS9 := Lib.hid (KS.out w9 (hown9.box (mem3 (by simp))) (hown9.box (mem3 (by simp))) (hown9.box (List.mem_cons_of_mem _ (List.mem_cons_self ..))))
          have HO9 := Lib.hid (hown9.box (g := w.heap.size + 1 + 1 + 1) (List.mem_cons_of_mem _ (List.mem_cons_self ..))); have HN9 := Lib.hid hnew
          refine ⟨HS9.out, hK _ _ ?_⟩
          clear hK K ho9 hg9 hat9 hb9 hbel9 hnew hown9 HSA HBA HS4
          refine mwalk_plain (by rfl) HS9.out (fun K hK W hW => ?_)
          go_simp
          refine hK _ ?_
          clear hK K hW
          refine mwalk_nil (fun q3 => ?_)
          have HO := Lib.hid (HO9.out.below (below_drewN (Below.refl _ _) q3))
          obtain ⟨ol, y0, y1, y2, yf⟩ := HO.out.three
          have HNN := Lib.hid (And.intro HMS.out (HN9.out.move (below_drewN (Below.refl _ _) q3)))
          clear HN9 HS9 HO9 HO HB HB4 HZ KS KB y0 y1 K1 K2 KG
          go_wp2
          go_roundw
          case rel => exact ⟨k + 1, by go_num, hlt, _, _, _, _, HNN, HPU⟩
          case measure => simp [intOf]; omega
        · have hkn : k = c := by omega
          subst hkn
          have HBN : Hid (d = (i + 1) * k ∧ _) := Lib.hid ⟨by rw [HB.out.1, Nat.succ_mul], HB.out.2⟩
          go_wp2
          go_roundw
          case rel => exact ⟨i + 1, by go_num, hli, d, va, vc, zs, HBN, HZ⟩
          case measure => simp [intOf]; omega
    · have hin : i = r := by omega
      subst hin
      have hq : q = n := by rw [HB.out.1, HN.out]
      subst hq
      obtain ⟨ol, t0, t1, t2, tf⟩ := HB.out.2.out.three
      obtain ⟨rl, u0, u1, u2, uf⟩ := HB.out.2.res.three
      have HFIN := Lib.hid HB.out.2.fin
      have HZF : Hid (∀ i' k, i' < i → k < c → P i' k (zs.getD (i' * c + k) 0)) := Lib.hid (fun i' k h1 h2 => HZ.out i' k h2 (by
        rw [HB.out.1]
        have : (i' + 1) * c ≤ i * c := Nat.mul_le_mul_right c h1
        rw [Nat.succ_mul] at this; omega))
      go_wp2
      try simp only [Exit.inBlock, Exit.then]
      refine bodyPost_ret (v := .agg #[.int .i64 i, .int .i64 c, .slice va q vc]) (by simp [results, Try.results105, go_sem, u0, u1, u2]) rfl ⟨va, vc, zs, rfl, Lib.hid HFIN.out.1, HZF, HFIN.out.2⟩
theorem dot_at {xs vs : List Nat} {Y : List Nat} {m c i k : Nat} (hx : (i + 1) * m ≤ xs.length) (hv : vs.map (cn .f32) = listOf m fun t => Y.getD (t * c + k) 0) : ∀ t, t ≤ m → dotS (((xs.drop (i * m)).take m).map (cn .f32)) (vs.map (cn .f32)) t = dotAt (xs.map (cn .f32)) Y m c i k t := by
  intro t
  induction t with
  | zero => intro _; rfl
  | succ t ih =>
    intro ht
    show fop .add .f32 _ _ = fop .add .f32 _ _
    rw [ih (by omega), hv, listOf_getD _ (by omega)]
    congr 2
    rw [List.map_take, List.map_drop, List.getD_eq_getElem?_getD, List.getElem?_take, if_pos (by omega), List.getElem?_drop, ← List.getD_eq_getElem?_getD]
set_option maxHeartbeats 4000000 in
theorem impl_matMul (w : World) (r m c : Nat) (a1 a2 : Option Addr) (c1 c2 n1 n2 : Nat) (xs ys : List Nat) (hx : F32s w a1 c1 xs) (hy : F32s w a2 c2 ys) (hxl : xs.length = n1) (hyl : ys.length = n2) (hr1 : 1 ≤ r) (hr : r ≤ 16) (hm1 : 1 ≤ m) (hm : m ≤ 16) (hc1 : 1 ≤ c) (hc : c ≤ 16) (hn1 : n1 = r * m) (hn2 : n2 = m * c) :
    Calls Try.prog 103 #[.agg #[.int .i64 r, .int .i64 m, .slice a1 n1 c1], .agg #[.int .i64 m, .int .i64 c, .slice a2 n2 c2]] w (TenPost r c (r * c) (matE (xs.map (cn .f32)) (ys.map (cn .f32)) m c (r * c)) w) := by
  have K := Lib.hid (fun W (hb : Below w.heap.size w W) => impl_products W r m c a1 a2 c1 c2 n1 n2 xs ys (hx.below hb) (hy.below hb) hxl hyl hr1 hr hm1 hm hc1 hc hn1 hn2 107 #[] (fun i k y => cn .f32 y = dotAt (xs.map (cn .f32)) (ys.map (cn .f32)) m c i k m) (fun args W => by kernel_rfl) (by decide) (fun W' i k u v cu cv us vs hb' hi hk hu hv hul hvl hus hvs => by
    have h1 := impl_dot W' u cu us hu v cv vs hv (by rw [hul, hvl])
    rw [hul, hvl] at h1
    refine h1.mono ?_
    rintro e w' ⟨y, he, hyy, hd⟩
    refine ⟨y, he, Lib.hid ⟨?_, hyy.out.2⟩, hd.below⟩
    rw [hyy.out.1, hus]
    exact dot_at (by rw [hxl, hn1]; exact Nat.mul_le_mul_right m hi) hvs m (Nat.le_refl _)))
  have HFIN : Hid (∀ zs : List Nat, zs.length = r * c → (∀ i k, i < r → k < c → cn .f32 (zs.getD (i * c + k) 0) = dotAt (xs.map (cn .f32)) (ys.map (cn .f32)) m c i k m) → zs.map (cn .f32) = matE (xs.map (cn .f32)) (ys.map (cn .f32)) m c (r * c)) := Lib.hid (fun zs hl h => by
    refine List.ext_getElem (by rw [List.length_map, matE, listOf_length, hl]) fun j h1 h2 => ?_
    rw [List.length_map] at h1
    have e3 : ∀ (l : List Nat) (j : Nat) (h : j < l.length), l[j] = l.getD j 0 := fun l j h => by rw [List.getD_eq_getElem?_getD, List.getElem?_eq_getElem h]; rfl
    have hj : j < r * c := by rw [← hl]; exact h1
    rw [List.getElem_map, e3 zs j h1, e3 _ j h2, matE, listOf_getD _ hj]
    have h4 := h (j / c) (j % c) (Nat.div_lt_of_lt_mul (by rw [Nat.mul_comm]; exact hj)) (Nat.mod_lt _ hc1)
    rw [Nat.mul_comm, Nat.div_add_mod] at h4
    exact h4)
  have RB0 := Lib.hid (BoxN.alloc3 w (.cells #[.int .i64 r, .int .i64 m, .slice a1 n1 c1] 27) (.cells #[.int .i64 m, .int .i64 c, .slice a2 n2 c2] 27) #[.int .i64 0, .int .i64 0, .slice none 0 0] 27)
  have B := Lib.hid (below3 w (.cells #[.int .i64 r, .int .i64 m, .slice a1 n1 c1] 27) (.cells #[.int .i64 m, .int .i64 c, .slice a2 n2 c2] 27) (.cells #[.int .i64 0, .int .i64 0, .slice none 0 0] 27))
  obtain ⟨n, hn⟩ : ∃ n, n = r * c := ⟨_, rfl⟩
  rw [← hn] at K HFIN ⊢
  clear hx hy hxl hyl hn1 hn2 hn
  go_enter Try.func103, Try.ntmps103
  go_wp2_with fail
  refine (K.out _ B.out).mono ?_
  rintro e w' ⟨va, vc, zs, rfl, RO, RM, hb⟩
  obtain ⟨rl, r0, r1, r2, rf⟩ := (RB0.out.below hb).three
  have hbw := bthen B.out hb
  have hz := hb.size
  simp at hz
  have hfin := setCs_repF (g := w.heap.size + 2) (lo' := w.heap.size) (i := 0) RO.out (by simp) (by simp; omega) (Nat.le_refl _) [.int .i64 r, .int .i64 c, .slice va n vc]
  have hbf := setCs_below hbw (g := w.heap.size + 2) (by omega) 0 [.int .i64 r, .int .i64 c, .slice va n vc]
  have HF := Lib.hid hfin; have HBF := Lib.hid hbf
  clear hfin hbf hbw hb
  go_wp2
  try simp only [Exit.inBlock, Exit.then]
  refine bodyPost_ret (v := .agg #[.int .i64 r, .int .i64 c, .slice va n vc]) (by simp [results, Try.results103, go_sem, r0, r1, r2]) rfl (ten_of rfl HF (HFIN.out _ HF.out.len RM.out) HBF.out)
end Go.Proofs.Ytnkikigfpdngdaa
/- The shapes of the values of a tape. No condition. -/
namespace Go.Proofs.Ytnkikigfpdngdaa
open Go Go.RowKit
set_option linter.unusedVariables false
set_option linter.unusedSimpArgs false
/-- rows and columns -/
abbrev Sh := Int × Int
def twoB (k : Int) : Bool := k == 1 || (k == 2 || (k == 3 || (k == 4 || k == 6)))
def zeroB (x : Nat) : Bool := decide (cn .f32 x = cn .f32 0)
def fitsB (i : Int) (o : OpP) : Bool :=
  inB o.k 0 10 && ((o.k == 5 || zeroB o.num) && (if o.k = 0 then (o.a == 0 && (o.b == 0 && tenB o.r o.c o.xs.length)) else (o.r == 0 && (o.c == 0 && (decide (o.xs.length = 0) && (inB o.a 0 (i - 1) && (if twoB o.k = true then inB o.b 0 (i - 1) else o.b == 0)))))))
/-- the shape of an operation's value, where it fits -/
def shapeOf (k : Int) (v w : Sh) : Option Sh :=
  if k = 1 ∨ k = 3 then (if v = w then some v else none)
  else if k = 2 ∨ k = 4 then (if w = (1, v.2) then some v else none)
  else if k = 6 then (if v.2 = w.1 then some (v.1, w.2) else none)
  else if k = 7 then some (v.2, v.1)
  else if k = 10 then some (1, 1)
  else some v
def shGet (S : List Sh) (i : Int) : Sh := S.getD i.toNat (0, 0)
def stepSh (S : List Sh) (o : OpP) : Option (List Sh) :=
  if fitsB S.length o = true then (if o.k = 0 then some (S ++ [(o.r, o.c)]) else (shapeOf o.k (shGet S o.a) (shGet S o.b)).map fun s => S ++ [s]) else none
def shapesN (os : List OpP) (k : Nat) : Option (List Sh) := (os.take k).foldlM stepSh []
/-- the shapes of a valid tape -/
def shapesP (os : List OpP) : Option (List Sh) := if 1 ≤ os.length ∧ os.length ≤ 48 then shapesN os os.length else none
theorem shapesN_succ {os : List OpP} {k : Nat} {o : OpP} (h : os[k]? = some o) : shapesN os (k + 1) = (shapesN os k).bind fun S => stepSh S o := by
  obtain ⟨hk, rfl⟩ := List.getElem?_eq_some_iff.1 h
  unfold shapesN
  rw [List.take_succ_eq_append_getElem hk, List.foldlM_append]
  simp [List.foldlM]
theorem stepSh_length {S S' : List Sh} {o : OpP} (h : stepSh S o = some S') : S'.length = S.length + 1 := by
  unfold stepSh at h
  split at h
  · split at h
    · cases h; simp
    · cases e : shapeOf o.k (shGet S o.a) (shGet S o.b) with
      | none => rw [e] at h; cases h
      | some s => rw [e] at h; cases h; simp
  · cases h
theorem shapesN_length {os : List OpP} {k : Nat} {S : List Sh} (hk : k ≤ os.length) (h : shapesN os k = some S) : S.length = k := by
  induction k generalizing S with
  | zero => unfold shapesN at h; simp at h; subst h; rfl
  | succ k ih =>
    obtain ⟨o, ho⟩ := getElem?_lt (show k < os.length by omega)
    rw [shapesN_succ ho] at h
    cases e : shapesN os k with
    | none => rw [e] at h; cases h
    | some S0 =>
      rw [e] at h
      have := stepSh_length h
      rw [this, ih (by omega) e]
theorem shapesN_none {os : List OpP} {k n : Nat} (h : shapesN os k = none) (hk : k ≤ n) (hn : n ≤ os.length) : shapesN os n = none := by
  induction n with
  | zero => have : k = 0 := by omega
            subst this; exact h
  | succ n ih =>
    by_cases e : k = n + 1
    · subst e; exact h
    · obtain ⟨o, ho⟩ := getElem?_lt (show n < os.length by omega)
      rw [shapesN_succ ho, ih (by omega) (by omega)]; rfl
end Go.Proofs.Ytnkikigfpdngdaa
/- What the reference's small functions on tensors and operations are. No condition. -/
namespace Go.Proofs.Ytnkikigfpdngdaa
open Go Go.RowKit
set_option linter.unusedVariables false
set_option linter.unusedSimpArgs false
theorem spec_l02Shape (r c : Int) (w : World) : Calls Try.prog 213 #[.int .i64 r, .int .i64 c] w fun e w' => e = .returned (.bool (inB r 1 16 && inB c 1 16)) ∧ w = w' := by
  have K1 := Lib.hid (fun W => l00In_any r 1 16 W)
  have K2 := Lib.hid (fun W => l00In_any c 1 16 W)
  cases h1 : inB r 1 16
  · rw [h1] at K1
    clear h1
    go_enter Try.func213, Try.ntmps213
    go_wp2_with fail
    refine (K1.out _).mono ?_
    rintro e w1 ⟨rfl, rfl⟩
    go_wp2
    go_ret
    exact ⟨rfl, rfl⟩
  · rw [h1] at K1
    clear h1
    go_enter Try.func213, Try.ntmps213
    go_wp2_with fail
    refine (K1.out _).mono ?_
    rintro e w1 ⟨rfl, rfl⟩
    go_wp2_with fail
    refine (K2.out _).mono ?_
    rintro e w1 ⟨rfl, rfl⟩
    go_wp2
    go_ret
    exact ⟨rfl, rfl⟩
set_option maxHeartbeats 2000000 in
theorem spec_l02Is (w : World) (g o : Nat) (r c : Int) (ad : Option Addr) (n cap : Nat) (hn : n ≤ maxLen) (p0 : w.cell? ⟨g, o, none⟩ = some (.int .i64 r)) (p1 : w.cell? ⟨g, o + 1, none⟩ = some (.int .i64 c)) (p2 : w.cell? ⟨g, o + 2, none⟩ = some (.slice ad n cap)) :
    Calls Try.prog 163 #[.pointer (some ⟨g, o, none⟩)] w fun e w' => e = .returned (.bool (tenB r c n)) ∧ Dr w w' := by
  unfold maxLen at hn
  have KS := Lib.hid (fun W => spec_l02Shape r c W)
  have ht : tenB r c n = ((inB r 1 16 && inB c 1 16) && decide ((n : Int) = r * c)) := by unfold tenB; rw [Bool.and_assoc]
  rw [ht]
  clear ht
  obtain ⟨p, hp⟩ : ∃ p, p = r * c := ⟨_, rfl⟩
  cases h1 : (inB r 1 16 && inB c 1 16)
  · rw [h1] at KS
    clear h1 hp
    go_enter Try.func163, Try.ntmps163
    go_wp2
    refine wp_region_drawn (fun f args v => v = .bool false) (by kernel_rfl) (by kernel_rfl) ?_
    repeat (refine wset_step (fun K hK nq => ?_); go_simp; refine hK _ ?_; clear hK K)
    refine wset_step (fun K hK nq => ?_)
    go_simp
    refine ⟨(KS.out _).mono ?_, ?_⟩
    · rintro e w' ⟨rfl, rfl⟩
      exact ⟨rfl, _, rfl⟩
    refine hK _ ?_
    clear hK K
    repeat (refine wset_step (fun K hK nq => ?_); go_simp; refine hK _ ?_; clear hK K)
    refine wset_nil ?_
    rintro w' ⟨q, rfl⟩
    go_wp2
    go_ret
    exact ⟨rfl, _, rfl⟩
  · rw [h1] at KS
    simp only [Bool.and_eq_true] at h1
    have ⟨a1, a2⟩ := inB_iff.1 h1.1
    have ⟨b1, b2⟩ := inB_iff.1 h1.2
    have q1 : 0 ≤ p := by rw [hp]; exact Int.mul_nonneg (by omega) (by omega)
    have q2 : p ≤ 256 := by
      rw [hp]
      have h3 : r * c ≤ 16 * c := Int.mul_le_mul_of_nonneg_right a2 (by omega)
      omega
    rw [← hp]
    have hpw : IntKind.i64.wrap (r * c) = p := by rw [← hp, IntKind.wrap_i64]; omega
    have hq : ((n : Int) == IntKind.i64.wrap (r * c)) = decide ((n : Int) = p) := by rw [hpw]; rfl
    have HQ := Lib.hid hq
    clear hp h1 a1 a2 b1 b2 hpw hq
    go_enter Try.func163, Try.ntmps163
    go_wp2
    refine wp_region_drawn (fun f args v => v = .bool true) (by kernel_rfl) (by kernel_rfl) ?_
    repeat (refine wset_step (fun K hK nq => ?_); go_simp; refine hK _ ?_; clear hK K)
    refine wset_step (fun K hK nq => ?_)
    go_simp
    refine ⟨(KS.out _).mono ?_, ?_⟩
    · rintro e w' ⟨rfl, rfl⟩
      exact ⟨rfl, _, rfl⟩
    refine hK _ ?_
    clear hK K
    repeat (refine wset_step (fun K hK nq => ?_); go_simp; refine hK _ ?_; clear hK K)
    refine wset_nil ?_
    rintro w' ⟨q, rfl⟩
    go_wp2
    go_ret
    refine ⟨?_, _, rfl⟩
    show Ending.returned (Value.bool _) = Ending.returned (Value.bool _)
    rw [HQ.out]; rfl
theorem spec_l04None (w : World) (g o : Nat) (r c : Int) (ad : Option Addr) (n cap : Nat) (p0 : w.cell? ⟨g, o, none⟩ = some (.int .i64 r)) (p1 : w.cell? ⟨g, o + 1, none⟩ = some (.int .i64 c)) (p2 : w.cell? ⟨g, o + 2, none⟩ = some (.slice ad n cap)) :
    Calls Try.prog 207 #[.pointer (some ⟨g, o, none⟩)] w fun e w' => e = .returned (.bool (r == 0 && (c == 0 && decide (n = 0)))) ∧ w = w' := by
  by_cases h1 : r = 0
  · subst h1
    by_cases h2 : c = 0
    · subst h2
      by_cases h3 : n = 0
      · subst h3
        go_enter Try.func207, Try.ntmps207
        go_wp2
        go_ret
        exact ⟨rfl, rfl⟩
      · rw [decide_eq_false h3]
        have h3 : ((n : Int) == 0) = false := by simp; omega
        go_enter Try.func207, Try.ntmps207
        go_wp2
        go_ret
        exact ⟨rfl, rfl⟩
    · have h2 : (c == 0) = false := by simpa using h2
      rw [h2]
      go_enter Try.func207, Try.ntmps207
      go_wp2
      go_ret
      exact ⟨rfl, rfl⟩
  · have h1 : (r == 0) = false := by simpa using h1
    rw [h1]
    go_enter Try.func207, Try.ntmps207
    go_wp2
    go_ret
    exact ⟨rfl, rfl⟩
theorem spec_l04Two (k : Int) (w : World) : Calls Try.prog 208 #[.int .i64 k] w fun e w' => e = .returned (.bool (twoB k)) ∧ w = w' := by
  rcases (by omega : k = 1 ∨ k = 2 ∨ k = 3 ∨ k = 4 ∨ k = 6 ∨ (k ≠ 1 ∧ k ≠ 2 ∧ k ≠ 3 ∧ k ≠ 4 ∧ k ≠ 6)) with rfl | rfl | rfl | rfl | rfl | ⟨h1, h2, h3, h4, h6⟩
  rotate_right
  · have h1 : (k == 1) = false := by simpa using h1
    have h2 : (k == 2) = false := by simpa using h2
    have h3 : (k == 3) = false := by simpa using h3
    have h4 : (k == 4) = false := by simpa using h4
    have h6 : (k == 6) = false := by simpa using h6
    unfold twoB
    go_enter Try.func208, Try.ntmps208
    go_wp2
    go_ret
    refine ⟨?_, rfl⟩
    rw [h1, h2, h3, h4, h6]; rfl
  all_goals
    go_enter Try.func208, Try.ntmps208
    go_wp2
    go_ret
    exact ⟨rfl, rfl⟩
theorem impl_takesTwo (k : Int) (w : World) : Calls Try.prog 239 #[.int .i64 k] w fun e w' => e = .returned (.bool (twoB k)) ∧ w = w' := by
  rcases (by omega : k = 1 ∨ k = 2 ∨ k = 3 ∨ k = 4 ∨ k = 6 ∨ (k ≠ 1 ∧ k ≠ 2 ∧ k ≠ 3 ∧ k ≠ 4 ∧ k ≠ 6)) with rfl | rfl | rfl | rfl | rfl | ⟨h1, h2, h3, h4, h6⟩
  rotate_right
  · have h1 : (k == 1) = false := by simpa using h1
    have h2 : (k == 2) = false := by simpa using h2
    have h3 : (k == 3) = false := by simpa using h3
    have h4 : (k == 4) = false := by simpa using h4
    have h6 : (k == 6) = false := by simpa using h6
    unfold twoB
    go_enter Try.func239, Try.ntmps239
    go_wp2
    go_ret
    refine ⟨?_, rfl⟩
    rw [h1, h2, h3, h4, h6]; rfl
  all_goals
    go_enter Try.func239, Try.ntmps239
    go_wp2
    go_ret
    exact ⟨rfl, rfl⟩
theorem spec_l01Same (x y : Nat) (hx : x < 4294967296) (hy : y < 4294967296) (w : World) : Calls Try.prog 139 #[.float .f32 x, .float .f32 y] w fun e w' => e = .returned (.bool (decide (cn .f32 x = cn .f32 y))) ∧ w = w' := by
  have K1 := Lib.hid (fun W => spec_l01Bits x hx W)
  have K2 := Lib.hid (fun W => spec_l01Bits y hy W)
  obtain ⟨X, hX⟩ : ∃ X, X = cn .f32 x := ⟨_, rfl⟩
  obtain ⟨Y, hY⟩ : ∃ Y, Y = cn .f32 y := ⟨_, rfl⟩
  rw [← hX] at K1 ⊢
  rw [← hY] at K2 ⊢
  clear hX hY
  have he : ((X : Int) == (Y : Int)) = decide (X = Y) := by
    by_cases h : X = Y
    · subst h; simp
    · rw [decide_eq_false h]; simp; omega
  go_enter Try.func139, Try.ntmps139
  go_wp2_with fail
  refine (K1.out _).mono ?_
  rintro e w1 ⟨rfl, rfl⟩
  go_wp2_with fail
  refine (K2.out _).mono ?_
  rintro e w1 ⟨rfl, rfl⟩
  go_wp2
  go_ret
  exact ⟨by first | rfl | (congr 2), rfl⟩
end Go.Proofs.Ytnkikigfpdngdaa
/- Whether the fields of an operation fit: the program. No condition. -/
namespace Go.Proofs.Ytnkikigfpdngdaa
open Go Go.RowKit
set_option linter.unusedVariables false
set_option linter.unusedSimpArgs false
theorem fitsB_in {i : Int} {o : OpP} (h : fitsB i o = true) : 0 ≤ o.k ∧ o.k ≤ 10 := by
  unfold fitsB at h
  simp only [Bool.and_eq_true] at h
  exact inB_iff.1 h.1
theorem fitsB_args {i : Int} {o : OpP} (h : fitsB i o = true) (h0 : o.k ≠ 0) : (0 ≤ o.a ∧ o.a ≤ i - 1) ∧ (0 ≤ o.b ∧ o.b ≤ i - 1) ∧ (o.r = 0 ∧ o.c = 0 ∧ o.xs = []) := by
  unfold fitsB at h
  rw [if_neg h0] at h
  simp only [Bool.and_eq_true, beq_iff_eq, decide_eq_true_eq] at h
  obtain ⟨_, _, h1, h2, h3, h4, h5⟩ := h
  have ⟨a1, a2⟩ := inB_iff.1 h4
  refine ⟨⟨a1, a2⟩, ?_, h1, h2, List.eq_nil_of_length_eq_zero h3⟩
  split at h5
  · exact inB_iff.1 h5
  · have : o.b = 0 := by simpa using h5
    omega
theorem fitsB_input {i : Int} {o : OpP} (h : fitsB i o = true) (h0 : o.k = 0) : o.a = 0 ∧ o.b = 0 ∧ tenB o.r o.c o.xs.length = true := by
  unfold fitsB at h
  rw [if_pos h0] at h
  simp only [Bool.and_eq_true, beq_iff_eq] at h
  exact ⟨h.2.2.1, h.2.2.2.1, h.2.2.2.2⟩
theorem fitsB_single {i : Int} {o : OpP} (h : fitsB i o = true) (h0 : twoB o.k = false) : o.b = 0 := by
  by_cases hk : o.k = 0
  · exact (fitsB_input h hk).2.1
  · unfold fitsB at h
    rw [if_neg hk, h0] at h
    simp only [Bool.and_eq_true, beq_iff_eq] at h
    simpa using h.2.2.2.2.2.2
set_option maxHeartbeats 8000000 in
set_option maxRecDepth 100000 in
theorem impl_fieldsFit (w : World) (o : OpD) (i : Nat) (hi : i ≤ 100) (hm : o.xs.length ≤ maxLen) (hok : o.num < 4294967296) : Calls Try.prog 209 #[o.val, .int .i64 i] w fun e w' => e = .returned (.bool (fitsB i o.toOpP)) ∧ Below w.heap.size w w' := by
  obtain ⟨⟨kk, a, b, q, r, c, xs⟩, ad, cap⟩ := o
  show Calls Try.prog 209 #[.agg #[.int .i64 kk, .int .i64 a, .int .i64 b, .float .f32 q, .int .i64 r, .int .i64 c, .slice ad xs.length cap], .int .i64 i] w fun e w' => e = .returned (.bool (fitsB i ⟨kk, a, b, q, r, c, xs⟩)) ∧ Below w.heap.size w w'
  have hm : xs.length ≤ maxLen := hm
  have hok : q < 4294967296 := hok
  obtain ⟨n, hN⟩ : ∃ n, n = xs.length := ⟨_, rfl⟩
  have hf : fitsB i ⟨kk, a, b, q, r, c, xs⟩ = (inB kk 0 10 && ((kk == 5 || zeroB q) && (if kk = 0 then (a == 0 && (b == 0 && tenB r c n)) else ((r == 0 && (c == 0 && decide (n = 0))) && (inB a 0 (i - 1) && (if twoB kk = true then inB b 0 (i - 1) else b == 0)))))) := by
    rw [hN]; unfold fitsB; simp only [Bool.and_assoc]
  rw [hf, ← hN]
  rw [← hN] at hm
  clear hf hN
  obtain ⟨R, hR⟩ : ∃ R, R = (inB kk 0 10 && ((kk == 5 || zeroB q) && (if kk = 0 then (a == 0 && (b == 0 && tenB r c n)) else ((r == 0 && (c == 0 && decide (n = 0))) && (inB a 0 (i - 1) && (if twoB kk = true then inB b 0 (i - 1) else b == 0)))))) := ⟨_, rfl⟩
  rw [← hR]
  have HE := Lib.hid hR
  clear hR
  have K1 := Lib.hid (fun W => within_any kk 0 10 W)
  have K2 := Lib.hid (fun W => impl_SameNumber q 0 hok (by decide) W)
  have ez : decide (cn .f32 q = cn .f32 0) = zeroB q := rfl
  rw [ez] at K2
  have K3 := Lib.hid (fun W => impl_ValidTensor r c ad n cap hm W)
  have K4 := Lib.hid (fun W => within_any a 0 (i - 1) W)
  have K5 := Lib.hid (fun W => within_any b 0 (i - 1) W)
  have K6 := Lib.hid (fun W => impl_takesTwo kk W)
  clear ez
  unfold maxLen at hm
  have B := Lib.hid (below1 w (.cells #[.int .i64 kk, .int .i64 a, .int .i64 b, .float .f32 q, .int .i64 r, .int .i64 c, .slice ad n cap] 108))
  cases e1 : inB kk 0 10
  · rw [e1] at K1
    have E1 := Lib.hid e1
    clear e1
    go_enter Try.func209, Try.ntmps209
    go_wp2_with fail
    refine (K1.out _).mono ?_
    rintro e w1 ⟨rfl, rfl⟩
    go_wp2
    go_ret
    refine ⟨?_, B.out⟩
    rw [HE.out, E1.out]; rfl
  rw [e1] at K1
  have E1 := Lib.hid e1
  clear e1
  by_cases h0 : kk = 0
  · subst h0
    cases e2 : zeroB q
    · rw [e2] at K2
      have He2 := Lib.hid e2
      clear e2
      go_enter Try.func209, Try.ntmps209
      go_wp2_with fail
      refine (K1.out _).mono ?_
      rintro e w1 ⟨rfl, rfl⟩
      go_wp2_with fail
      refine (K2.out _).mono ?_
      rintro e w1 ⟨rfl, qd, rfl⟩
      have B1 := Lib.hid (below_drewN B.out qd)
      go_wp2
      go_ret
      refine ⟨?_, B1.out⟩
      rw [HE.out, E1.out, if_pos trivial, He2.out]; rfl
    rw [e2] at K2
    have He2 := Lib.hid e2
    clear e2
    cases e4 : (a == 0)
    · have He4 := Lib.hid e4
      go_enter Try.func209, Try.ntmps209
      go_wp2_with fail
      refine (K1.out _).mono ?_
      rintro e w1 ⟨rfl, rfl⟩
      go_wp2_with fail
      refine (K2.out _).mono ?_
      rintro e w1 ⟨rfl, qd, rfl⟩
      have B1 := Lib.hid (below_drewN B.out qd)
      go_wp2
      go_ret
      refine ⟨?_, B1.out⟩
      rw [HE.out, E1.out, if_pos trivial, He2.out, He4.out]; rfl
    have He4 := Lib.hid e4
    cases e5 : (b == 0)
    · have He5 := Lib.hid e5
      go_enter Try.func209, Try.ntmps209
      go_wp2_with fail
      refine (K1.out _).mono ?_
      rintro e w1 ⟨rfl, rfl⟩
      go_wp2_with fail
      refine (K2.out _).mono ?_
      rintro e w1 ⟨rfl, qd, rfl⟩
      have B1 := Lib.hid (below_drewN B.out qd)
      go_wp2
      go_ret
      refine ⟨?_, B1.out⟩
      rw [HE.out, E1.out, if_pos trivial, He2.out, He4.out, He5.out]; rfl
    have He5 := Lib.hid e5
    obtain ⟨T, hT⟩ : ∃ T, T = tenB r c n := ⟨_, rfl⟩
    rw [← hT] at K3
    have HT := Lib.hid hT
    clear hT
    go_enter Try.func209, Try.ntmps209
    go_wp2_with fail
    refine (K1.out _).mono ?_
    rintro e w1 ⟨rfl, rfl⟩
    go_wp2_with fail
    refine (K2.out _).mono ?_
    rintro e w1 ⟨rfl, qd, rfl⟩
    have B1 := Lib.hid (below_drewN B.out qd)
    go_wp2_with fail
    refine (K3.out _).mono ?_
    rintro e w2 ⟨rfl, hb2⟩
    have B2 := Lib.hid (bthen B1.out hb2); clear hb2
    go_wp2
    go_ret
    refine ⟨?_, B2.out⟩
    rw [HE.out, E1.out, if_pos trivial, He2.out, He4.out, He5.out, ← HT.out]; rfl
  by_cases h5 : kk = 5
  · subst h5
    cases f1 : (r == 0)
    · have g1 : (r != 0) = true := by simpa [bne] using f1
      have Hf1 := Lib.hid f1
      go_enter Try.func209, Try.ntmps209
      go_wp2_with fail
      refine (K1.out _).mono ?_
      rintro e w1 ⟨rfl, rfl⟩
      have B1 := B
      go_wp2
      go_ret
      refine ⟨?_, B1.out⟩
      rw [HE.out, E1.out, if_neg (show ¬ ((5 : Int) = 0) by decide), Hf1.out]; rfl
    have g1 : (r != 0) = false := by simpa [bne] using f1
    have Hf1 := Lib.hid f1
    cases f2 : (c == 0)
    · have g2 : (c != 0) = true := by simpa [bne] using f2
      have Hf2 := Lib.hid f2
      go_enter Try.func209, Try.ntmps209
      go_wp2_with fail
      refine (K1.out _).mono ?_
      rintro e w1 ⟨rfl, rfl⟩
      have B1 := B
      go_wp2
      go_ret
      refine ⟨?_, B1.out⟩
      rw [HE.out, E1.out, if_neg (show ¬ ((5 : Int) = 0) by decide), Hf1.out, Hf2.out]; rfl
    have g2 : (c != 0) = false := by simpa [bne] using f2
    have Hf2 := Lib.hid f2
    by_cases f3 : n = 0
    rotate_left
    · have g3 : (decide (n = 0)) = false := decide_eq_false f3
      have Hf3 := Lib.hid g3
      have g4 : 0 < n := by omega
      go_enter Try.func209, Try.ntmps209
      go_wp2_with fail
      refine (K1.out _).mono ?_
      rintro e w1 ⟨rfl, rfl⟩
      have B1 := B
      go_wp2
      go_ret
      refine ⟨?_, B1.out⟩
      rw [HE.out, E1.out, if_neg (show ¬ ((5 : Int) = 0) by decide), Hf1.out, Hf2.out, Hf3.out]; rfl
    subst f3
    have Hf3 : Hid (decide (0 = 0) = true) := Lib.hid rfl
    cases f4 : inB a 0 (i - 1)
    · rw [f4] at K4
      have Hf4 := Lib.hid f4
      clear f4
      go_enter Try.func209, Try.ntmps209
      go_wp2_with fail
      refine (K1.out _).mono ?_
      rintro e w1 ⟨rfl, rfl⟩
      have B1 := B
      go_wp2_with fail
      refine (K4.out _).mono ?_
      rintro e w1 ⟨rfl, rfl⟩
      go_wp2
      go_ret
      refine ⟨?_, B1.out⟩
      rw [HE.out, E1.out, if_neg (show ¬ ((5 : Int) = 0) by decide), Hf1.out, Hf2.out, Hf4.out]; rfl
    rw [f4] at K4
    have Hf4 := Lib.hid f4
    clear f4
    cases f5 : twoB 5
    · rw [f5] at K6
      have Hf5 := Lib.hid f5
      clear f5
      go_enter Try.func209, Try.ntmps209
      go_wp2_with fail
      refine (K1.out _).mono ?_
      rintro e w1 ⟨rfl, rfl⟩
      have B1 := B
      go_wp2_with fail
      refine (K4.out _).mono ?_
      rintro e w1 ⟨rfl, rfl⟩
      go_wp2_with fail
      refine (K6.out _).mono ?_
      rintro e w1 ⟨rfl, rfl⟩
      go_wp2
      go_ret
      refine ⟨?_, B1.out⟩
      rw [HE.out, E1.out, if_neg (show ¬ ((5 : Int) = 0) by decide), Hf1.out, Hf2.out, Hf4.out, Hf5.out]; rfl
    rw [f5] at K6
    have Hf5 := Lib.hid f5
    clear f5
    obtain ⟨T, hT⟩ : ∃ T, T = inB b 0 (i - 1) := ⟨_, rfl⟩
    rw [← hT] at K5
    have HT := Lib.hid hT
    clear hT
    go_enter Try.func209, Try.ntmps209
    go_wp2_with fail
    refine (K1.out _).mono ?_
    rintro e w1 ⟨rfl, rfl⟩
    have B1 := B
    go_wp2_with fail
    refine (K4.out _).mono ?_
    rintro e w1 ⟨rfl, rfl⟩
    go_wp2_with fail
    refine (K6.out _).mono ?_
    rintro e w1 ⟨rfl, rfl⟩
    go_wp2_with fail
    refine (K5.out _).mono ?_
    rintro e w1 ⟨rfl, rfl⟩
    go_wp2
    go_ret
    refine ⟨?_, B1.out⟩
    rw [HE.out, E1.out, if_neg (show ¬ ((5 : Int) = 0) by decide), Hf1.out, Hf2.out, Hf4.out, Hf5.out, ← HT.out]; rfl
  have t0 : (kk == 0) = false := by simpa using h0
  have t5 : (kk == 5) = false := by simpa using h5
  have H0 := Lib.hid h0; have H5 := Lib.hid t5
  cases e2 : zeroB q
  · rw [e2] at K2
    have He2 := Lib.hid e2
    clear e2
    go_enter Try.func209, Try.ntmps209
    go_wp2_with fail
    refine (K1.out _).mono ?_
    rintro e w1 ⟨rfl, rfl⟩
    go_wp2_with fail
    refine (K2.out _).mono ?_
    rintro e w1 ⟨rfl, qd, rfl⟩
    have B1 := Lib.hid (below_drewN B.out qd)
    go_wp2
    go_ret
    refine ⟨?_, B1.out⟩
    rw [HE.out, E1.out, H5.out, He2.out]; rfl
  rw [e2] at K2
  have He2 := Lib.hid e2
  clear e2
  cases f1 : (r == 0)
  · have g1 : (r != 0) = true := by simpa [bne] using f1
    have Hf1 := Lib.hid f1
    go_enter Try.func209, Try.ntmps209
    go_wp2_with fail
    refine (K1.out _).mono ?_
    rintro e w1 ⟨rfl, rfl⟩
    go_wp2_with fail
    refine (K2.out _).mono ?_
    rintro e w1 ⟨rfl, qd, rfl⟩
    have B1 := Lib.hid (below_drewN B.out qd)
    go_wp2
    go_ret
    refine ⟨?_, B1.out⟩
    rw [HE.out, E1.out, if_neg H0.out, H5.out, He2.out, Hf1.out]; rfl
  have g1 : (r != 0) = false := by simpa [bne] using f1
  have Hf1 := Lib.hid f1
  cases f2 : (c == 0)
  · have g2 : (c != 0) = true := by simpa [bne] using f2
    have Hf2 := Lib.hid f2
    go_enter Try.func209, Try.ntmps209
    go_wp2_with fail
    refine (K1.out _).mono ?_
    rintro e w1 ⟨rfl, rfl⟩
    go_wp2_with fail
    refine (K2.out _).mono ?_
    rintro e w1 ⟨rfl, qd, rfl⟩
    have B1 := Lib.hid (below_drewN B.out qd)
    go_wp2
    go_ret
    refine ⟨?_, B1.out⟩
    rw [HE.out, E1.out, if_neg H0.out, H5.out, He2.out, Hf1.out, Hf2.out]; rfl
  have g2 : (c != 0) = false := by simpa [bne] using f2
  have Hf2 := Lib.hid f2
  by_cases f3 : n = 0
  rotate_left
  · have g3 : (decide (n = 0)) = false := decide_eq_false f3
    have Hf3 := Lib.hid g3
    have g4 : 0 < n := by omega
    go_enter Try.func209, Try.ntmps209
    go_wp2_with fail
    refine (K1.out _).mono ?_
    rintro e w1 ⟨rfl, rfl⟩
    go_wp2_with fail
    refine (K2.out _).mono ?_
    rintro e w1 ⟨rfl, qd, rfl⟩
    have B1 := Lib.hid (below_drewN B.out qd)
    go_wp2
    go_ret
    refine ⟨?_, B1.out⟩
    rw [HE.out, E1.out, if_neg H0.out, H5.out, He2.out, Hf1.out, Hf2.out, Hf3.out]; rfl
  subst f3
  have Hf3 : Hid (decide (0 = 0) = true) := Lib.hid rfl
  cases f4 : inB a 0 (i - 1)
  · rw [f4] at K4
    have Hf4 := Lib.hid f4
    clear f4
    go_enter Try.func209, Try.ntmps209
    go_wp2_with fail
    refine (K1.out _).mono ?_
    rintro e w1 ⟨rfl, rfl⟩
    go_wp2_with fail
    refine (K2.out _).mono ?_
    rintro e w1 ⟨rfl, qd, rfl⟩
    have B1 := Lib.hid (below_drewN B.out qd)
    go_wp2_with fail
    refine (K4.out _).mono ?_
    rintro e w1 ⟨rfl, rfl⟩
    go_wp2
    go_ret
    refine ⟨?_, B1.out⟩
    rw [HE.out, E1.out, if_neg H0.out, H5.out, He2.out, Hf1.out, Hf2.out, Hf4.out]; rfl
  rw [f4] at K4
  have Hf4 := Lib.hid f4
  clear f4
  cases f5 : twoB kk
  · rw [f5] at K6
    have Hf5 := Lib.hid f5
    clear f5
    go_enter Try.func209, Try.ntmps209
    go_wp2_with fail
    refine (K1.out _).mono ?_
    rintro e w1 ⟨rfl, rfl⟩
    go_wp2_with fail
    refine (K2.out _).mono ?_
    rintro e w1 ⟨rfl, qd, rfl⟩
    have B1 := Lib.hid (below_drewN B.out qd)
    go_wp2_with fail
    refine (K4.out _).mono ?_
    rintro e w1 ⟨rfl, rfl⟩
    go_wp2_with fail
    refine (K6.out _).mono ?_
    rintro e w1 ⟨rfl, rfl⟩
    go_wp2
    go_ret
    refine ⟨?_, B1.out⟩
    rw [HE.out, E1.out, if_neg H0.out, H5.out, He2.out, Hf1.out, Hf2.out, Hf4.out, Hf5.out]; rfl
  rw [f5] at K6
  have Hf5 := Lib.hid f5
  clear f5
  obtain ⟨T, hT⟩ : ∃ T, T = inB b 0 (i - 1) := ⟨_, rfl⟩
  rw [← hT] at K5
  have HT := Lib.hid hT
  clear hT
  go_enter Try.func209, Try.ntmps209
  go_wp2_with fail
  refine (K1.out _).mono ?_
  rintro e w1 ⟨rfl, rfl⟩
  go_wp2_with fail
  refine (K2.out _).mono ?_
  rintro e w1 ⟨rfl, qd, rfl⟩
  have B1 := Lib.hid (below_drewN B.out qd)
  go_wp2_with fail
  refine (K4.out _).mono ?_
  rintro e w1 ⟨rfl, rfl⟩
  go_wp2_with fail
  refine (K6.out _).mono ?_
  rintro e w1 ⟨rfl, rfl⟩
  go_wp2_with fail
  refine (K5.out _).mono ?_
  rintro e w1 ⟨rfl, rfl⟩
  go_wp2
  go_ret
  refine ⟨?_, B1.out⟩
  rw [HE.out, E1.out, if_neg H0.out, H5.out, He2.out, Hf1.out, Hf2.out, Hf4.out, Hf5.out, ← HT.out]; rfl
end Go.Proofs.Ytnkikigfpdngdaa
/- Bounds of the shapes of a tape. No condition. -/
namespace Go.Proofs.Ytnkikigfpdngdaa
open Go Go.RowKit
set_option linter.unusedVariables false
set_option linter.unusedSimpArgs false
def sideP (s : Sh) : Prop := (1 ≤ s.1 ∧ s.1 ≤ 16) ∧ (1 ≤ s.2 ∧ s.2 ≤ 16)
theorem shGet_mem {S : List Sh} {i : Int} (h0 : 0 ≤ i) (h1 : i ≤ S.length - 1) : shGet S i ∈ S := by
  have hl : i.toNat < S.length := by omega
  unfold shGet
  rw [List.getD_eq_getElem?_getD, List.getElem?_eq_getElem hl]
  exact List.getElem_mem hl
theorem shapeOf_side {k : Int} {v w s : Sh} (hv : sideP v) (hw : sideP w) (h : shapeOf k v w = some s) : sideP s := by
  unfold shapeOf at h
  unfold sideP at hv hw ⊢
  split at h
  · split at h
    · cases h; exact hv
    · cases h
  · split at h
    · split at h
      · cases h; exact hv
      · cases h
    · split at h
      · split at h
        · cases h; exact ⟨hv.1, hw.2⟩
        · cases h
      · split at h
        · cases h; exact ⟨hv.2, hv.1⟩
        · split at h
          · cases h; exact ⟨⟨by decide, by decide⟩, ⟨by decide, by decide⟩⟩
          · cases h; exact hv
theorem stepSh_side {S S' : List Sh} {o : OpP} (hS : ∀ s ∈ S, sideP s) (h : stepSh S o = some S') : ∀ s ∈ S', sideP s := by
  unfold stepSh at h
  split at h
  · rename_i hf
    by_cases hk : o.k = 0
    · rw [if_pos hk] at h
      cases h
      intro s hs
      rcases List.mem_append.1 hs with hs | hs
      · exact hS s hs
      · have e : s = (o.r, o.c) := by simpa using hs
        subst e
        have := tenB_iff.1 (fitsB_input hf hk).2.2
        exact ⟨this.1, this.2.1⟩
    · rw [if_neg hk] at h
      have ha := fitsB_args hf hk
      cases e : shapeOf o.k (shGet S o.a) (shGet S o.b) with
      | none => rw [e] at h; cases h
      | some t =>
        rw [e] at h
        cases h
        intro s hs
        rcases List.mem_append.1 hs with hs | hs
        · exact hS s hs
        · have e2 : s = t := by simpa using hs
          subst e2
          exact shapeOf_side (hS _ (shGet_mem ha.1.1 ha.1.2)) (hS _ (shGet_mem ha.2.1.1 ha.2.1.2)) e
  · cases h
theorem shapesN_side {os : List OpP} {k : Nat} {S : List Sh} (hk : k ≤ os.length) (h : shapesN os k = some S) : ∀ s ∈ S, sideP s := by
  induction k generalizing S with
  | zero => unfold shapesN at h; simp at h; subst h; intro s hs; cases hs
  | succ k ih =>
    obtain ⟨o, ho⟩ := getElem?_lt (show k < os.length by omega)
    rw [shapesN_succ ho] at h
    cases e : shapesN os k with
    | none => rw [e] at h; cases h
    | some S0 => rw [e] at h; exact stepSh_side (ih (by omega) e) h
theorem shapesP_some {os : List OpP} {S : List Sh} (h : shapesP os = some S) : (1 ≤ os.length ∧ os.length ≤ 48) ∧ shapesN os os.length = some S ∧ S.length = os.length ∧ ∀ s ∈ S, sideP s := by
  unfold shapesP at h
  split at h
  · rename_i hl
    exact ⟨hl, h, shapesN_length (Nat.le_refl _) h, shapesN_side (Nat.le_refl _) h⟩
  · cases h
/-- the rows of shapes that a valid tape has -/
def shRows (os : List OpP) : List (List Int) := match shapesP os with
  | some S => S.map fun s => [s.1, s.2]
  | none => []
theorem shRows_some {os : List OpP} {S : List Sh} (h : shapesP os = some S) : shRows os = S.map fun s => [s.1, s.2] := by unfold shRows; rw [h]
theorem shRows_none {os : List OpP} (h : shapesP os = none) : shRows os = [] := by unfold shRows; rw [h]
end Go.Proofs.Ytnkikigfpdngdaa
/- Which operations a tape's last value depends on. No condition. -/
namespace Go.Proofs.Ytnkikigfpdngdaa
open Go Go.RowKit
set_option linter.unusedVariables false
set_option linter.unusedSimpArgs false
/-- what an operation that is used makes used -/
def stepU (U : List Bool) (i : Nat) (o : OpP) : List Bool :=
  if U.getD i false = true ∧ o.k ≠ 0 then (if twoB o.k = true then (U.set o.a.toNat true).set o.b.toNat true else U.set o.a.toNat true) else U
def opAtP (os : List OpP) (i : Nat) : OpP := os.getD i ⟨0, 0, 0, 0, 0, 0, []⟩
/-- behind the last m operations -/
def usedM (os : List OpP) : Nat → List Bool
  | 0 => (List.replicate os.length false).set (os.length - 1) true
  | m + 1 => stepU (usedM os m) (os.length - 1 - m) (opAtP os (os.length - 1 - m))
theorem stepU_length (U : List Bool) (i : Nat) (o : OpP) : (stepU U i o).length = U.length := by
  unfold stepU; split
  · split <;> simp
  · rfl
theorem usedM_length (os : List OpP) (m : Nat) : (usedM os m).length = os.length := by
  induction m with
  | zero => simp [usedM]
  | succ m ih => rw [usedM, stepU_length, ih]
theorem opAtP_some {os : List OpP} {i : Nat} {o : OpP} (h : os[i]? = some o) : opAtP os i = o := by
  unfold opAtP; rw [List.getD_eq_getElem?_getD, h]; rfl
/-- the fields of a valid tape's operations fit -/
theorem shapesN_fit {os : List OpP} {k : Nat} {S : List Sh} (hk : k ≤ os.length) (h : shapesN os k = some S) : ∀ i o, i < k → os[i]? = some o → fitsB i o = true := by
  induction k generalizing S with
  | zero => intro i o hi; omega
  | succ k ih =>
    obtain ⟨o, ho⟩ := getElem?_lt (show k < os.length by omega)
    rw [shapesN_succ ho] at h
    cases e : shapesN os k with
    | none => rw [e] at h; cases h
    | some S0 =>
      rw [e] at h
      intro i p hi hp
      by_cases hik : i = k
      · subst hik
        rw [ho] at hp; cases hp
        have hl := shapesN_length (by omega) e
        have h2 : stepSh S0 o = some S := h
        unfold stepSh at h2
        split at h2
        · rename_i hf; rw [hl] at hf; exact hf
        · cases h2
      · exact ih (by omega) e i p (by omega) hp
theorem valid_fit {os : List OpP} {S : List Sh} (h : shapesP os = some S) {i : Nat} {o : OpP} (ho : os[i]? = some o) : fitsB i o = true :=
  shapesN_fit (Nat.le_refl _) (shapesP_some h).2.1 i o (List.getElem?_eq_some_iff.1 ho).1 ho
/-- what stands behind stays -/
theorem stepU_keep {U : List Bool} {i j : Nat} {o : OpP} (hf : fitsB i o = true) (hij : i ≤ j) : (stepU U i o).getD j false = U.getD j false := by
  unfold stepU
  split
  · rename_i h
    have ha := fitsB_args hf h.2
    have e1 : ∀ (V : List Bool) (a : Nat), a < i → (V.set a true).getD j false = V.getD j false := by
      intro V a ha
      rw [List.getD_eq_getElem?_getD, List.getD_eq_getElem?_getD, List.getElem?_set_ne (by omega)]
    split
    · rw [e1 _ _ (by omega), e1 _ _ (by omega)]
    · rw [e1 _ _ (by omega)]
  · rfl
theorem usedM_keep {os : List OpP} {S : List Sh} (h : shapesP os = some S) {m m' j : Nat} (hm : m ≤ m') (hm2 : m' ≤ os.length) (hj : os.length - m ≤ j + 1) : (usedM os m').getD j false = (usedM os m).getD j false := by
  induction m' with
  | zero => have : m = 0 := by omega
            subst this; rfl
  | succ q ih =>
    by_cases e : m = q + 1
    · subst e; rfl
    · obtain ⟨o, ho⟩ := getElem?_lt (show os.length - 1 - q < os.length by omega)
      rw [usedM, opAtP_some ho, stepU_keep (valid_fit h ho) (by omega), ih (by omega) (by omega)]
/-- the operations that are used, rising -/
def usedP (os : List OpP) : List Int := ((List.range os.length).filter fun i => (usedM os os.length).getD i false).map (fun i : Nat => (i : Int))
/-- those from j on -/
def usedF (U : List Bool) (j n : Nat) : List Int := ((List.range' j (n - j)).filter fun i => U.getD i false).map (fun i : Nat => (i : Int))
theorem usedF_nil (U : List Bool) (n : Nat) : usedF U n n = [] := by simp [usedF]
theorem usedF_cons (U : List Bool) {j n : Nat} (h : j < n) : usedF U j n = (if U.getD j false = true then [(j : Int)] else []) ++ usedF U (j + 1) n := by
  unfold usedF
  rw [show n - j = (n - (j + 1)) + 1 by omega, List.range'_succ, List.filter_cons]
  split <;> simp
theorem usedF_congr {U V : List Bool} {j n : Nat} (h : ∀ i, j ≤ i → i < n → U.getD i false = V.getD i false) : usedF U j n = usedF V j n := by
  unfold usedF
  congr 1
  apply List.filter_congr
  intro i hi
  have := List.mem_range'_1.1 hi
  rw [h i (by omega) (by omega)]
theorem usedF_gt (U : List Bool) (j n : Nat) : ∀ x ∈ usedF U j n, (j : Int) ≤ x ∧ x < n := by
  intro x hx
  unfold usedF at hx
  obtain ⟨i, hi, rfl⟩ := List.mem_map.1 hx
  have := List.mem_range'_1.1 (List.mem_filter.1 hi).1
  omega
theorem usedP_eq (os : List OpP) : usedP os = usedF (usedM os os.length) 0 os.length := by
  unfold usedP usedF
  rw [Nat.sub_zero, List.range_eq_range']
theorem usedF_snoc (U : List Bool) (i : Nat) : usedF U 0 (i + 1) = usedF U 0 i ++ (if U.getD i false = true then [(i : Int)] else []) := by
  unfold usedF
  rw [Nat.sub_zero, Nat.sub_zero, ← List.range_eq_range', ← List.range_eq_range', List.range_succ, List.filter_append, List.map_append]
  congr 1
  rw [List.filter_cons, List.filter_nil]
  split <;> rfl
theorem usedF_length (U : List Bool) (j n : Nat) : (usedF U j n).length ≤ n - j := by
  unfold usedF
  rw [List.length_map]
  exact Nat.le_trans (List.length_filter_le _ _) (by simp)
end Go.Proofs.Ytnkikigfpdngdaa
/- What putting a number to its place ahead of greater ones does. No condition. -/
namespace Go.Proofs.Ytnkikigfpdngdaa
open Go Go.RowKit
set_option linter.unusedVariables false
set_option linter.unusedSimpArgs false
end Go.Proofs.Ytnkikigfpdngdaa
