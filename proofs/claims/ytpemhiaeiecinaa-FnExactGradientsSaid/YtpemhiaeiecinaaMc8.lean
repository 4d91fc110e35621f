/- Joined texts 8: Tm2 Tm3 Tv0 Tv1. Each is told at its own head. No condition. -/
import Derived.Shelf.Bits.Mul64
import Derived.Laws.CopyOwn
import Derived.Deep.RegionHeld3
import Derived.Deep.CutRange
import Derived.Deep.DeepCutAuto
import Derived.Test.YtpemhiaeiecinaaMc1
import Derived.Test.YtpemhiaeiecinaaMc4
import Derived.Test.YtpemhiaeiecinaaMc5
import Derived.Test.YtpemhiaeiecinaaMc6
import Derived.Test.YtpemhiaeiecinaaMc7
/- Products of matrices: the program. No condition. -/
namespace Go.Proofs.Ytpemhiaeiecinaa
open Go Go.RowKit
set_option linter.unusedVariables false
set_option linter.unusedSimpArgs false
/-- what the calls of a round give: two rows, and a number -/
def ProdD (fr : FuncId) (A1 A2 : Array Value) (v1 v2 : Value) (G : FuncId) (P : Nat → Prop) (f : FuncId) (args : Array Value) (w1 : World) (v : Value) (w2 : World) : Prop :=
  Below w1.heap.size w1 w2 ∧ (f = fr → (args = A1 → v = v1) ∧ (args = A2 → v = v2)) ∧ (f = G → ∃ y, v = .float .f32 y ∧ P y ∧ y < 4294967296)
theorem get_push {zs : List Nat} {c i k m : Nat} {P : Nat → Nat → Nat → Prop} {z : Nat} (hl : zs.length = m) (hm : m = i * c + k) (hk : k < c) (h : ∀ i' k', k' < c → i' * c + k' < m → P i' k' (zs.getD (i' * c + k') 0)) (hz : P i k z) : ∀ i' k', k' < c → i' * c + k' < m + 1 → P i' k' ((zs ++ [z]).getD (i' * c + k') 0) := by
  intro i' k' hk' hlt
  by_cases e : i' * c + k' = m
  · have hi : i' = i := by
      rcases Nat.lt_trichotomy i' i with h1 | h1 | h1
      · exfalso
        have : (i' + 1) * c ≤ i * c := Nat.mul_le_mul_right c h1
        rw [Nat.succ_mul] at this; omega
      · exact h1
      · exfalso
        have : (i + 1) * c ≤ i' * c := Nat.mul_le_mul_right c h1
        rw [Nat.succ_mul] at this; omega
    subst hi
    have hkk : k' = k := by omega
    subst hkk
    rw [e, List.getD_eq_getElem?_getD, List.getElem?_append_right (by omega), hl, Nat.sub_self]
    exact hz
  · have h1 := h i' k' hk' (by omega)
    rw [List.getD_eq_getElem?_getD, List.getElem?_append_left (by omega), ← List.getD_eq_getElem?_getD]
    exact h1
set_option maxHeartbeats 32000000 in
set_option maxRecDepth 100000 in
theorem impl_products (w : World) (r m c : Nat) (a1 a2 : Option Addr) (c1 c2 n1 n2 : Nat) (xs ys : List Nat) (hx : F32s w a1 c1 xs) (hy : F32s w a2 c2 ys) (hxl : xs.length = n1) (hyl : ys.length = n2) (hr1 : 1 ≤ r) (hr : r ≤ 16) (hm1 : 1 ≤ m) (hm : m ≤ 16) (hc1 : 1 ≤ c) (hc : c ≤ 16) (hn1 : n1 = r * m) (hn2 : n2 = m * c)
    (G : Nat) (caps : Array Value) (P : Nat → Nat → Nat → Prop) (hG : ∀ (args : Array Value) (W : World), (callFunc G args).run Try.prog W = .ok (.enter G args) W) (hGr : G ≠ 123)
    (hcl : ∀ W i k (u v : Option Addr) (cu cv : Nat) (us vs : List Nat), Below w.heap.size w W → i < r → k < c → F32s W u cu us → F32s W v cv vs → us.length = m → vs.length = m → us = (xs.drop (i * m)).take m → vs.map (cn .f32) = listOf m (fun t => (ys.map (cn .f32)).getD (t * c + k) 0) →
      Calls Try.prog G (#[.slice u m cu, .slice v m cv] ++ caps) W fun e w' => ∃ y, e = .returned (.float .f32 y) ∧ Hid (P i k y ∧ y < 4294967296) ∧ Below W.heap.size W w') :
    Calls Try.prog 104 #[.agg #[.int .i64 r, .int .i64 m, .slice a1 n1 c1], .agg #[.int .i64 m, .int .i64 c, .slice a2 n2 c2], .func (.func G) #[] caps] w fun e w' => ∃ ad cap zs, e = .returned (.agg #[.int .i64 r, .int .i64 c, .slice ad (r * c) cap]) ∧ Hid (RepF w' w.heap.size w'.heap.size ad (r * c) cap zs) ∧ Hid (∀ i k, i < r → k < c → P i k (zs.getD (i * c + k) 0)) ∧ Below w.heap.size w w' := by
  obtain ⟨i0, hi0, hz0, hzs, hz2⟩ := info_parts info_f32
  have hb1 : n1 ≤ 256 := by rw [hn1]; exact Nat.mul_le_mul hr hm
  have hb3 : r * c ≤ 256 := Nat.mul_le_mul hr hc
  have hp1 : 1 ≤ n1 := by rw [hn1]; exact Nat.mul_le_mul hr1 hm1
  obtain ⟨b1, f1, rfl, hl1, hcx⟩ := hx.spot (k := 0) (by rw [hxl]; exact hp1)
  have hcap := hx.len
  rw [hxl] at hcap
  obtain ⟨n, hn⟩ : ∃ n, n = r * c := ⟨_, rfl⟩
  rw [← hn] at hb3 ⊢
  have HX := Lib.hid hx; have HXL := Lib.hid hxl; have HN := Lib.hid hn; have HN1 := Lib.hid hn1; have HN2 := Lib.hid hn2; have HCL := Lib.hid hcl; have HYL := Lib.hid hyl
  have KT := Lib.hid (fun W (hb : Below w.heap.size w W) => impl_transposed W m c a2 c2 n2 ys (hy.below hb) hyl hm1 hm hc1 hc hn2)
  have KR1 : Hid (∀ W i, i < r → Calls Try.prog 123 #[.agg #[.int .i64 r, .int .i64 m, .slice (some ⟨b1, f1, none⟩) n1 c1], .int .i64 (i : Nat)] W fun e w' => e = .returned (.slice (some ⟨b1, f1 + i * m, none⟩) m (c1 - i * m)) ∧ Below W.heap.size W w') := Lib.hid (fun W i hi => impl_row W r m _ n1 c1 hn1 hm1 hm hr hcap i hi b1 f1 rfl)
  clear hx hxl hcx hy hn hn1 hcl hyl
  have hn2p : 1 ≤ n2 := by rw [hn2]; exact Nat.mul_le_mul hm1 hc1
  have hn2q : n2 ≤ 256 := by rw [hn2]; exact Nat.mul_le_mul hm hc
  clear hn2
  have o1 := (Own.nil w w.heap.size w.heap.size).alloc (Nat.le_refl _) (Nat.le_refl _) #[.int .i64 r, .int .i64 m, .slice (some ⟨b1, f1, none⟩) n1 c1] 27
  obtain ⟨V1, hV1⟩ : ∃ V, V = w.alloc (.cells #[.int .i64 r, .int .i64 m, .slice (some ⟨b1, f1, none⟩) n1 c1] 27) := ⟨_, rfl⟩
  have s1 : V1.heap.size = w.heap.size + 1 := by rw [hV1]; simp
  rw [← hV1] at o1
  have o2 := o1.alloc (by rw [s1]; omega) (by rw [s1]; exact Nat.le_refl _) #[.int .i64 m, .int .i64 c, .slice a2 n2 c2] 27
  obtain ⟨V2, hV2⟩ : ∃ V, V = V1.alloc (.cells #[.int .i64 m, .int .i64 c, .slice a2 n2 c2] 27) := ⟨_, rfl⟩
  have s2 : V2.heap.size = w.heap.size + 1 + 1 := by rw [hV2]; simp [s1]
  rw [s1, ← hV2] at o2
  have o3 := o2.alloc (by rw [s2]; omega) (by rw [s2]; exact Nat.le_refl _) #[.int .i64 0, .int .i64 0, .slice none 0 0] 27
  obtain ⟨V3, hV3⟩ : ∃ V, V = V2.alloc (.cells #[.int .i64 0, .int .i64 0, .slice none 0 0] 27) := ⟨_, rfl⟩
  have s3 : V3.heap.size = w.heap.size + 1 + 1 + 1 := by rw [hV3]; simp [s2]
  rw [s2, ← hV3] at o3
  have o4 := o3.alloc (by rw [s3]; omega) (by rw [s3]; exact Nat.le_refl _) #[.int .i64 r, .int .i64 c, .slice none 0 0] 27
  obtain ⟨V4, hV4⟩ : ∃ V, V = V3.alloc (.cells #[.int .i64 r, .int .i64 c, .slice none 0 0] 27) := ⟨_, rfl⟩
  have s4 : V4.heap.size = w.heap.size + 1 + 1 + 1 + 1 := by rw [hV4]; simp [s3]
  rw [s3, ← hV4] at o4
  have hVB : Below w.heap.size w V4 := by
    rw [hV4, hV3, hV2, hV1]
    exact (below3 w _ _ _).alloc (by simp; omega) _
  have HO4 := Lib.hid o4; have HVB := Lib.hid hVB
  have HV4 : Hid ((((w.alloc (.cells #[.int .i64 r, .int .i64 m, .slice (some ⟨b1, f1, none⟩) n1 c1] 27)).alloc (.cells #[.int .i64 m, .int .i64 c, .slice a2 n2 c2] 27)).alloc (.cells #[.int .i64 0, .int .i64 0, .slice none 0 0] 27)).alloc (.cells #[.int .i64 r, .int .i64 c, .slice none 0 0] 27) = V4) := Lib.hid (by rw [hV4, hV3, hV2, hV1])
  have HS4 := Lib.hid s4
  clear o1 o2 o3 o4 s1 s2 s3 s4 hV1 hV2 hV3 hV4 hVB
  go_enter Try.func104, Try.ntmps104
  go_wp2_with fail
  rw [HV4.out]
  refine (KT.out _ HVB.out).mono ?_
  rintro e V5 ⟨ta, tc, ts, rfl, HR5, HT5, hb5⟩
  have HB5 := Lib.hid hb5
  have hlo := Own.fresh HO4.out (by rw [HS4.out]; omega) (by rw [HS4.out]; exact Nat.le_refl _) hb5 HR5.out.ownRow hb5.size
  have hz5 : w.heap.size + 1 + 1 + 1 + 1 ≤ V5.heap.size := by have := hb5.size; rw [HS4.out] at this; exact this
  have o5 := hlo.alloc (by omega) (Nat.le_refl _) #[.int .i64 c, .int .i64 m, .slice ta n2 tc] 27
  have HO5 := Lib.hid o5
  have hbx : BoxN V5 w.heap.size [.int .i64 r, .int .i64 m, .slice (some ⟨b1, f1, none⟩) n1 c1] := (HO4.out.box (by simp [bRow])).below hb5
  have htl := HR5.out.len
  obtain ⟨bt, ft, rfl, hbtl, _⟩ := HR5.out.arg.spot (k := 0) (by rw [htl]; exact hn2p)
  obtain ⟨rfl, hbtr, _, _⟩ := (hlo.bounds (Nat.le_refl _) (Nat.le_refl _)).cell (List.mem_append_right _ (List.mem_singleton.2 rfl))
  obtain ⟨ta, hta⟩ : ∃ ta : Option Addr, ta = some ⟨bt, 0, none⟩ := ⟨_, rfl⟩
  obtain ⟨W6, hW6⟩ : ∃ W, W = V5.alloc (.cells #[.int .i64 c, .int .i64 m, .slice (some ⟨bt, 0, none⟩) n2 tc] 27) := ⟨_, rfl⟩
  have s6 : W6.heap.size = V5.heap.size + 1 := by rw [hW6]; simp
  rw [← hW6, ← s6] at o5
  have hbel6 : Below w.heap.size w W6 := by rw [hW6]; exact (bthen HVB.out hb5).alloc (by omega) _
  have hE : BldE w W6 (w.heap.size + 1 + 1) (w.heap.size + 1 + 1 + 1) r c none 0 0 [] [bRow V5.heap.size [.int .i64 c, .int .i64 m, .slice (some ⟨bt, 0, none⟩) n2 tc], bRow (w.heap.size + 1) [.int .i64 m, .int .i64 c, .slice a2 n2 c2], bRow w.heap.size [.int .i64 r, .int .i64 m, .slice (some ⟨b1, f1, none⟩) n1 c1], floatRow (some ⟨bt, 0, none⟩) tc ts] := by
    refine ⟨(o5.perm (List.Perm.trans (List.Perm.swap _ _ _) (List.Perm.cons _ (List.Perm.swap _ _ _)))).voidRow, rfl, fun x hx => (nomatch hx), hbel6⟩
  have HE := Lib.hid hE; have HW6 := Lib.hid hW6; have HTL := Lib.hid htl
  have HOK := Lib.hid HR5.out.okF
  clear o5 hlo hE HO5 htl hta ta s6 hbel6
  have hbtw : w.heap.size ≤ bt := by have := hbtr.1; exact this
  have KR2 : Hid (∀ W k, k < c → Calls Try.prog 123 #[.agg #[.int .i64 c, .int .i64 m, .slice (some ⟨bt, 0, none⟩) n2 tc], .int .i64 (k : Nat)] W fun e w' => e = .returned (.slice (some ⟨bt, 0 + k * m, none⟩) m (tc - k * m)) ∧ Below W.heap.size W w') := Lib.hid (fun W k hk => impl_row W c m _ n2 tc (by rw [HN2.out, Nat.mul_comm]) hm1 hm hc (by have := HR5.out.arg.len; rw [HTL.out] at this; exact this) k hk bt 0 rfl)
  have htcap : n2 ≤ tc := by have := HR5.out.arg.len; rw [HTL.out] at this; exact this
  obtain ⟨bl, x0, x1, x2, xf⟩ := hbx.three
  clear hbx
  go_wp2
  rw [← HW6.out]
  clear HW6 bl x0 x1 x2 xf
  go_loopw [20, 9, 10, 24, 25] (fun i _ _ _ _ wt => ∃ k : Nat, i = .int .i64 k ∧ k ≤ r ∧ ∃ q va vc zs, Hid (q = k * c ∧ BldE w wt (w.heap.size + 1 + 1) (w.heap.size + 1 + 1 + 1) r c va q vc zs [bRow V5.heap.size [.int .i64 c, .int .i64 m, .slice (some ⟨bt, 0, none⟩) n2 tc], bRow (w.heap.size + 1) [.int .i64 m, .int .i64 c, .slice a2 n2 c2], bRow w.heap.size [.int .i64 r, .int .i64 m, .slice (some ⟨b1, f1, none⟩) n1 c1], floatRow (some ⟨bt, 0, none⟩) tc ts]) ∧ Hid (∀ i' k', k' < c → i' * c + k' < q → P i' k' (zs.getD (i' * c + k') 0))) (fun i _ _ _ _ _ => r - (intOf i).toNat)
  case atStart => exact ⟨0, rfl, Nat.zero_le _, 0, _, _, [], Lib.hid ⟨by simp, HE.out⟩, Lib.hid (fun _ _ _ h => absurd h (by omega))⟩
  case round =>
    clear HE
    obtain ⟨i, rfl, hi, q, va, vc, zs, HB, HZ⟩ := hrel
    obtain ⟨wo, rfl⟩ : ∃ wo : World, wo = wr := ⟨_, rfl⟩
    by_cases hli : i < r
    · obtain ⟨bl, x0, x1, x2, xf⟩ := (HB.out.2.own.box (mem3 (List.mem_cons_of_mem _ (List.mem_cons_self ..)))).three
      go_wp2
      go_loopw [25, 10] (fun u _ wt => ∃ k : Nat, u = .int .i64 k ∧ k ≤ c ∧ ∃ d va vc zs, Hid (d = i * c + k ∧ BldE w wt (w.heap.size + 1 + 1) (w.heap.size + 1 + 1 + 1) r c va d vc zs [bRow V5.heap.size [.int .i64 c, .int .i64 m, .slice (some ⟨bt, 0, none⟩) n2 tc], bRow (w.heap.size + 1) [.int .i64 m, .int .i64 c, .slice a2 n2 c2], bRow w.heap.size [.int .i64 r, .int .i64 m, .slice (some ⟨b1, f1, none⟩) n1 c1], floatRow (some ⟨bt, 0, none⟩) tc ts]) ∧ Hid (∀ i' k', k' < c → i' * c + k' < d → P i' k' (zs.getD (i' * c + k') 0))) (fun u _ _ => c - (intOf u).toNat)
      case atStart => exact ⟨0, rfl, Nat.zero_le _, q, va, vc, zs, Lib.hid ⟨by rw [HB.out.1]; rfl, HB.out.2⟩, HZ⟩
      case round =>
        clear HB HZ bl x0 x1 x2 xf
        obtain ⟨k, rfl, hk, d, va, vc, zs, HB, HZ⟩ := hrel
        by_cases hlt : k < c
        · have hdn : d < n := by
            rw [HB.out.1, HN.out]
            have : (i + 1) * c ≤ r * c := Nat.mul_le_mul_right c hli
            rw [Nat.succ_mul] at this; omega
          have hs1c : i * m + m ≤ n1 := by
            rw [HN1.out]
            have : (i + 1) * m ≤ r * m := Nat.mul_le_mul_right m hli
            rw [Nat.succ_mul] at this; exact this
          have hs2c : k * m + m ≤ n2 := by
            rw [HN2.out, Nat.mul_comm m c]
            have : (k + 1) * m ≤ c * m := Nat.mul_le_mul_right m hlt
            rw [Nat.succ_mul] at this; exact this
          have K1 := Lib.hid (fun W => KR1.out W i hli)
          have K2 := Lib.hid (fun W => KR2.out W k hlt)
          have KG : Hid (∀ W, Below w.heap.size w W → F32s W (some ⟨bt, 0, none⟩) tc ts → Calls Try.prog G (#[.slice (some ⟨b1, f1 + i * m, none⟩) m (c1 - i * m), .slice (some ⟨bt, 0 + k * m, none⟩) m (tc - k * m)] ++ caps) W fun e w' => ∃ y, e = .returned (.float .f32 y) ∧ Hid (P i k y ∧ y < 4294967296) ∧ Below W.heap.size W w') := Lib.hid (fun W hb ht => by
            have h1 := (HX.out.below hb).cut3 (i * m + m) (by rw [HXL.out]; exact hs1c)
            have h2 := (h1.1.cut3 (i * m) (by rw [List.length_take, HXL.out]; omega)).2
            have h3 := ht.cut3 (k * m + m) (by rw [HTL.out]; exact hs2c)
            have h4 := (h3.1.cut3 (k * m) (by rw [List.length_take, HTL.out]; omega)).2
            have e1 : (xs.take (i * m + m)).drop (i * m) = (xs.drop (i * m)).take m := by rw [List.drop_take]; congr 1; omega
            have e2 : (ts.take (k * m + m)).drop (k * m) = (ts.drop (k * m)).take m := by rw [List.drop_take]; congr 1; omega
            rw [e1] at h2
            rw [e2] at h4
            refine HCL.out W i k _ _ _ _ _ _ hb hli hlt h2 h4 (by rw [List.length_take, List.length_drop, HXL.out]; omega) (by rw [List.length_take, List.length_drop, HTL.out]; omega) rfl ?_
            rw [List.map_take, List.map_drop, HT5.out]
            refine List.ext_getElem ?_ fun j g1 g2 => ?_
            · rw [List.length_take, List.length_drop, turnE, listOf_length, listOf_length]; omega
            · rw [listOf_length] at g2
              have e3 : ∀ (l : List Nat) (j : Nat) (h : j < l.length), l[j] = l.getD j 0 := fun l j h => by rw [List.getD_eq_getElem?_getD, List.getElem?_eq_getElem h]; rfl
              rw [List.getElem_take, List.getElem_drop, e3, e3, turnE, listOf_getD _ (by omega), listOf_getD _ g2, turn_at _ g2])
          obtain ⟨s1, hs1⟩ : ∃ s, s = i * m := ⟨_, rfl⟩
          obtain ⟨s2, hs2⟩ : ∃ s, s = 0 + k * m := ⟨_, rfl⟩
          rw [← hs1] at K1 KG
          rw [← hs2] at K2 KG
          obtain ⟨t1, ht1⟩ : ∃ s, s = tc - k * m := ⟨_, rfl⟩
          rw [← ht1] at K2 KG
          obtain ⟨t2, ht2⟩ : ∃ s, s = c1 - s1 := ⟨_, rfl⟩
          rw [← ht2] at K1 KG
          have HMS : Hid (d + 1 = i * c + (k + 1)) := Lib.hid (by rw [HB.out.1]; rfl)
          have KS : Hid (∀ W, BoxN W w.heap.size [.int .i64 r, .int .i64 m, .slice (some ⟨b1, f1, none⟩) n1 c1] → BoxN W V5.heap.size [.int .i64 c, .int .i64 m, .slice (some ⟨bt, 0, none⟩) n2 tc] → BoxN W (w.heap.size + 1 + 1 + 1) [.int .i64 r, .int .i64 c, .slice va d vc] → (W.cell? ⟨w.heap.size, 0, none⟩ = some (.int .i64 r) ∧ W.cell? ⟨w.heap.size, 1, none⟩ = some (.int .i64 m) ∧ W.cell? ⟨w.heap.size, 2, none⟩ = some (.slice (some ⟨b1, f1, none⟩) n1 c1)) ∧ (W.cell? ⟨V5.heap.size, 0, none⟩ = some (.int .i64 c) ∧ W.cell? ⟨V5.heap.size, 1, none⟩ = some (.int .i64 m) ∧ W.cell? ⟨V5.heap.size, 2, none⟩ = some (.slice (some ⟨bt, 0, none⟩) n2 tc)) ∧ W.cell? ⟨w.heap.size + 1 + 1 + 1, 2, none⟩ = some (.slice va d vc)) := Lib.hid (fun W h1 h2 h3 => ⟨⟨h1.three.2.1, h1.three.2.2.1, h1.three.2.2.2.1⟩, ⟨h2.three.2.1, h2.three.2.2.1, h2.three.2.2.2.1⟩, h3.three.2.2.2.1⟩)
          have KB : Hid (∀ W, BldE w W (w.heap.size + 1 + 1) (w.heap.size + 1 + 1 + 1) r c va d vc zs [bRow V5.heap.size [.int .i64 c, .int .i64 m, .slice (some ⟨bt, 0, none⟩) n2 tc], bRow (w.heap.size + 1) [.int .i64 m, .int .i64 c, .slice a2 n2 c2], bRow w.heap.size [.int .i64 r, .int .i64 m, .slice (some ⟨b1, f1, none⟩) n1 c1], floatRow (some ⟨bt, 0, none⟩) tc ts] → ((W.cell? ⟨w.heap.size, 0, none⟩ = some (.int .i64 r) ∧ W.cell? ⟨w.heap.size, 1, none⟩ = some (.int .i64 m) ∧ W.cell? ⟨w.heap.size, 2, none⟩ = some (.slice (some ⟨b1, f1, none⟩) n1 c1)) ∧ (W.cell? ⟨V5.heap.size, 0, none⟩ = some (.int .i64 c) ∧ W.cell? ⟨V5.heap.size, 1, none⟩ = some (.int .i64 m) ∧ W.cell? ⟨V5.heap.size, 2, none⟩ = some (.slice (some ⟨bt, 0, none⟩) n2 tc)) ∧ W.cell? ⟨w.heap.size + 1 + 1 + 1, 2, none⟩ = some (.slice va d vc)) ∧ F32s W (some ⟨bt, 0, none⟩) tc ts) := Lib.hid (fun W h => ⟨KS.out W (h.own.box (mem3 (by simp))) (h.own.box (mem3 (by simp))) h.out, by
            have h9 := (h.own.repF (ad := some ⟨bt, 0, none⟩) (cap := tc) (xs := ts) (mem3 (by simp)) HOK.out).arg
            exact h9⟩)
          have HNE : Hid ((#[.agg #[.int .i64 r, .int .i64 m, .slice (some ⟨b1, f1, none⟩) n1 c1], .int .i64 (i : Nat)] : Array Value) ≠ #[.agg #[.int .i64 c, .int .i64 m, .slice (some ⟨bt, 0, none⟩) n2 tc], .int .i64 (k : Nat)]) := Lib.hid (by
            intro h
            simp only [Array.mk.injEq, List.cons.injEq, Value.agg.injEq, Value.slice.injEq, Option.some.injEq, Addr.mk.injEq] at h
            omega)
          have HS := Lib.hid (KB.out wr HB.out.2)
          clear hs1 hs2 ht1 ht2 hs1c hs2c
          go_upto_region 9 with fail
          refine wp_region_mix 13 [5, 8, 9, 10, 11] (fun W => (W.cell? ⟨w.heap.size, 0, none⟩ = some (.int .i64 r) ∧ W.cell? ⟨w.heap.size, 1, none⟩ = some (.int .i64 m) ∧ W.cell? ⟨w.heap.size, 2, none⟩ = some (.slice (some ⟨b1, f1, none⟩) n1 c1)) ∧ (W.cell? ⟨V5.heap.size, 0, none⟩ = some (.int .i64 c) ∧ W.cell? ⟨V5.heap.size, 1, none⟩ = some (.int .i64 m) ∧ W.cell? ⟨V5.heap.size, 2, none⟩ = some (.slice (some ⟨bt, 0, none⟩) n2 tc)) ∧ W.cell? ⟨w.heap.size + 1 + 1 + 1, 2, none⟩ = some (.slice va d vc)) (fun _ _ _ => False) (ProdD 123 #[.agg #[.int .i64 r, .int .i64 m, .slice (some ⟨b1, f1, none⟩) n1 c1], .int .i64 (i : Nat)] #[.agg #[.int .i64 c, .int .i64 m, .slice (some ⟨bt, 0, none⟩) n2 tc], .int .i64 (k : Nat)] (.slice (some ⟨b1, f1 + s1, none⟩) m t2) (.slice (some ⟨bt, s2, none⟩) m t1) G (P i k)) (by kernel_rfl) (by kernel_rfl) HS.out.1 (fun W q h => by simpa using h) ?_
          iterate 5 (refine mwalk_plain (by rfl) HS.out.1 (fun K hK W hW => ?_); obtain ⟨⟨e1, e2, e3⟩, ⟨e4, e5, e6⟩, e7⟩ := hW; go_simp; refine hK _ ?_; clear hK K e1 e2 e3 e4 e5 e6 e7)
          refine mwalk_spec (by rfl) HS.out.1 (fun K hK q1 => ?_)
          go_simp
          refine ⟨(K1.out _).mono ?_, ?_⟩
          · rintro e w1 ⟨rfl, hb⟩
            exact ⟨_, rfl, hb, fun _ => ⟨fun _ => rfl, fun h => absurd h HNE.out⟩, fun h => absurd h.symm hGr⟩
          rintro v w2 ⟨hb2, hv, -⟩
          obtain rfl := (hv rfl).1 rfl
          have hB2 := HB.out.2.move (bthen (below_drewN (Below.refl wr.heap.size wr) q1) hb2)
          have HS2 := Lib.hid (KB.out w2 hB2); have HB2 := Lib.hid hB2
          refine ⟨HS2.out.1, hK _ _ ?_⟩
          clear hK K hb2 hB2 hv HS
          iterate 2 (refine mwalk_plain (by rfl) HS2.out.1 (fun K hK W hW => ?_); obtain ⟨⟨e1, e2, e3⟩, ⟨e4, e5, e6⟩, e7⟩ := hW; go_simp; refine hK _ ?_; clear hK K e1 e2 e3 e4 e5 e6 e7)
          refine mwalk_spec (by rfl) HS2.out.1 (fun K hK q1 => ?_)
          go_simp
          refine ⟨(K2.out _).mono ?_, ?_⟩
          · rintro e w1 ⟨rfl, hb⟩
            exact ⟨_, rfl, hb, fun _ => ⟨fun h => absurd h.symm HNE.out, fun _ => rfl⟩, fun h => absurd h.symm hGr⟩
          rintro v w3 ⟨hb2, hv, -⟩
          obtain rfl := (hv rfl).2 rfl
          have hB3 := HB2.out.move (bthen (below_drewN (Below.refl w2.heap.size w2) q1) hb2)
          have HS3 := Lib.hid (KB.out w3 hB3); have HB3 := Lib.hid hB3
          refine ⟨HS3.out.1, hK _ _ ?_⟩
          clear hK K hb2 hB3 hv HS2 HB2
          refine mwalk_spec (by rfl) HS3.out.1 (fun K hK q1 => ?_)
          go_simp
          refine ⟨(KG.out _ (below_drewN HB3.out.below q1) (HS3.out.2.below (below_drewN (Below.refl _ _) q1))).mono ?_, ?_⟩
          · rintro e w1 ⟨y, rfl, hy, hb⟩
            exact ⟨_, rfl, hb, fun h => absurd h hGr, fun _ => ⟨y, rfl, hy.out.1, hy.out.2⟩⟩
          rintro v w4 ⟨hb2, -, hv⟩
          obtain ⟨y, rfl, hpy, hyl⟩ := hv rfl
          have HPY := Lib.hid hpy; have HYB := Lib.hid hyl
          have hB4 := HB3.out.move (bthen (below_drewN (Below.refl w3.heap.size w3) q1) hb2)
          have HS4 := Lib.hid (KB.out w4 hB4); have HB4 := Lib.hid hB4
          refine ⟨HS4.out.1, hK _ _ ?_⟩
          clear hK K hb2 hB4 hv HS3 HB3 hpy hyl
          refine mwalk_spec (by rfl) HS4.out.1 (fun K hK q => ?_)
          have hbq := below_drewN (Below.refl w4.heap.size w4) q
          go_simp
          have hbA : Below w4.heap.size w4 ((w4.drewN q).alloc (.cells #[.float .f32 y] 33)) := hbq.alloc (by simp) _
          have hBA := HB4.out.move hbA
          have HSA := Lib.hid (KB.out _ hBA)
          have HBA := Lib.hid hbA
          refine ⟨HSA.out.1, hK _ _ ?_⟩
          clear hK K hbq hbA hBA
          refine mwalk_spec (by rfl) HSA.out.1 (fun K hK q2 => ?_)
          refine specRes_append rfl _ _ 25 rfl w.heap.size 33 i0 _ 1 4 Try.underlying25 hi0 hz0 hzs hz2 rfl (by decide) (.slice va d vc) d (zs.map (Value.float .f32)) rfl (HB4.out.move (below_drewN HBA.out q2)).row ⟨w4.heap.size, 0, none⟩ 1 1 [.float .f32 y] rfl rfl (World.news_of_block (cs := #[.float .f32 y]) (t := 33) (fr := (0, 0)) (heap_alloc_new (w4.drewN q) _)) (by simp [Value.oneCell']) (by unfold maxLen; omega) (by omega) (Nat.le_trans HB4.out.below.size (Nat.le_trans HBA.out.size (Nat.le_refl _))) ?_
          intro v' w9 ho9 hg9 hat9 hb9
          obtain ⟨va', vc', rfl, hown9, hbel9, hnew⟩ := HB4.out.push (W := (w4.drewN q).drewN q2) HYB.out (below_drewN (below_drewN (Below.refl _ _) q) q2) ho9 hg9 (by simpa using hat9)
          have HPU := Lib.hid (get_push HB.out.2.len HB.out.1 hlt HZ.out HPY.out)
          have HS9 := Lib.hid (KS.out w9 (hown9.box (mem3 (by simp))) (hown9.box (mem3 (by simp))) (hown9.box (List.mem_cons_of_mem _ (List.mem_cons_self ..))))
          have HO9 := Lib.hid (hown9.box (g := w.heap.size + 1 + 1 + 1) (List.mem_cons_of_mem _ (List.mem_cons_self ..))); have HN9 := Lib.hid hnew
          refine ⟨HS9.out, hK _ _ ?_⟩
          clear hK K ho9 hg9 hat9 hb9 hbel9 hnew hown9 HSA HBA HS4
          refine mwalk_plain (by rfl) HS9.out (fun K hK W hW => ?_)
          go_simp
          refine hK _ ?_
          clear hK K hW
          refine mwalk_nil (fun q3 => ?_)
          have HO := Lib.hid (HO9.out.below (below_drewN (Below.refl _ _) q3))
          obtain ⟨ol, y0, y1, y2, yf⟩ := HO.out.three
          have HNN := Lib.hid (And.intro HMS.out (HN9.out.move (below_drewN (Below.refl _ _) q3)))
          clear HN9 HS9 HO9 HO HB HB4 HZ KS KB y0 y1 K1 K2 KG
          go_wp2
          go_roundw
          case rel => exact ⟨k + 1, by go_num, hlt, _, _, _, _, HNN, HPU⟩
          case measure => simp [intOf]; omega
        · have hkn : k = c := by omega
          subst hkn
          have HBN : Hid (d = (i + 1) * k ∧ _) := Lib.hid ⟨by rw [HB.out.1, Nat.succ_mul], HB.out.2⟩
          go_wp2
          go_roundw
          case rel => exact ⟨i + 1, by go_num, hli, d, va, vc, zs, HBN, HZ⟩
          case measure => simp [intOf]; omega
    · have hin : i = r := by omega
      subst hin
      have hq : q = n := by rw [HB.out.1, HN.out]
      subst hq
      obtain ⟨ol, t0, t1, t2, tf⟩ := HB.out.2.out.three
      obtain ⟨rl, u0, u1, u2, uf⟩ := HB.out.2.res.three
      have HFIN := Lib.hid HB.out.2.fin
      have HZF : Hid (∀ i' k, i' < i → k < c → P i' k (zs.getD (i' * c + k) 0)) := Lib.hid (fun i' k h1 h2 => HZ.out i' k h2 (by
        rw [HB.out.1]
        have : (i' + 1) * c ≤ i * c := Nat.mul_le_mul_right c h1
        rw [Nat.succ_mul] at this; omega))
      go_wp2
      try simp only [Exit.inBlock, Exit.then]
      refine bodyPost_ret (v := .agg #[.int .i64 i, .int .i64 c, .slice va q vc]) (by simp [results, Try.results104, go_sem, u0, u1, u2]) rfl ⟨va, vc, zs, rfl, Lib.hid HFIN.out.1, HZF, HFIN.out.2⟩
theorem dot_at {xs vs : List Nat} {Y : List Nat} {m c i k : Nat} (hx : (i + 1) * m ≤ xs.length) (hv : vs.map (cn .f32) = listOf m fun t => Y.getD (t * c + k) 0) : ∀ t, t ≤ m → dotS (((xs.drop (i * m)).take m).map (cn .f32)) (vs.map (cn .f32)) t = dotAt (xs.map (cn .f32)) Y m c i k t := by
  intro t
  induction t with
  | zero => intro _; rfl
  | succ t ih =>
    intro ht
    show fop .add .f32 _ _ = fop .add .f32 _ _
    rw [ih (by omega), hv, listOf_getD _ (by omega)]
    congr 2
    rw [List.map_take, List.map_drop, List.getD_eq_getElem?_getD, List.getElem?_take, if_pos (by omega), List.getElem?_drop, ← List.getD_eq_getElem?_getD]
set_option maxHeartbeats 4000000 in
theorem impl_matMul (w : World) (r m c : Nat) (a1 a2 : Option Addr) (c1 c2 n1 n2 : Nat) (xs ys : List Nat) (hx : F32s w a1 c1 xs) (hy : F32s w a2 c2 ys) (hxl : xs.length = n1) (hyl : ys.length = n2) (hr1 : 1 ≤ r) (hr : r ≤ 16) (hm1 : 1 ≤ m) (hm : m ≤ 16) (hc1 : 1 ≤ c) (hc : c ≤ 16) (hn1 : n1 = r * m) (hn2 : n2 = m * c) :
    Calls Try.prog 102 #[.agg #[.int .i64 r, .int .i64 m, .slice a1 n1 c1], .agg #[.int .i64 m, .int .i64 c, .slice a2 n2 c2]] w (TenPost r c (r * c) (matE (xs.map (cn .f32)) (ys.map (cn .f32)) m c (r * c)) w) := by
  have K := Lib.hid (fun W (hb : Below w.heap.size w W) => impl_products W r m c a1 a2 c1 c2 n1 n2 xs ys (hx.below hb) (hy.below hb) hxl hyl hr1 hr hm1 hm hc1 hc hn1 hn2 106 #[] (fun i k y => cn .f32 y = dotAt (xs.map (cn .f32)) (ys.map (cn .f32)) m c i k m) (fun args W => by kernel_rfl) (by decide) (fun W' i k u v cu cv us vs hb' hi hk hu hv hul hvl hus hvs => by
    have h1 := impl_dot W' u cu us hu v cv vs hv (by rw [hul, hvl])
    rw [hul, hvl] at h1
    refine h1.mono ?_
    rintro e w' ⟨y, he, hyy, hd⟩
    refine ⟨y, he, Lib.hid ⟨?_, hyy.out.2⟩, hd.below⟩
    rw [hyy.out.1, hus]
    exact dot_at (by rw [hxl, hn1]; exact Nat.mul_le_mul_right m hi) hvs m (Nat.le_refl _)))
  have HFIN : Hid (∀ zs : List Nat, zs.length = r * c → (∀ i k, i < r → k < c → cn .f32 (zs.getD (i * c + k) 0) = dotAt (xs.map (cn .f32)) (ys.map (cn .f32)) m c i k m) → zs.map (cn .f32) = matE (xs.map (cn .f32)) (ys.map (cn .f32)) m c (r * c)) := Lib.hid (fun zs hl h => by
    refine List.ext_getElem (by rw [List.length_map, matE, listOf_length, hl]) fun j h1 h2 => ?_
    rw [List.length_map] at h1
    have e3 : ∀ (l : List Nat) (j : Nat) (h : j < l.length), l[j] = l.getD j 0 := fun l j h => by rw [List.getD_eq_getElem?_getD, List.getElem?_eq_getElem h]; rfl
    have hj : j < r * c := by rw [← hl]; exact h1
    rw [List.getElem_map, e3 zs j h1, e3 _ j h2, matE, listOf_getD _ hj]
    have h4 := h (j / c) (j % c) (Nat.div_lt_of_lt_mul (by rw [Nat.mul_comm]; exact hj)) (Nat.mod_lt _ hc1)
    rw [Nat.mul_comm, Nat.div_add_mod] at h4
    exact h4)
  have RB0 := Lib.hid (BoxN.alloc3 w (.cells #[.int .i64 r, .int .i64 m, .slice a1 n1 c1] 27) (.cells #[.int .i64 m, .int .i64 c, .slice a2 n2 c2] 27) #[.int .i64 0, .int .i64 0, .slice none 0 0] 27)
  have B := Lib.hid (below3 w (.cells #[.int .i64 r, .int .i64 m, .slice a1 n1 c1] 27) (.cells #[.int .i64 m, .int .i64 c, .slice a2 n2 c2] 27) (.cells #[.int .i64 0, .int .i64 0, .slice none 0 0] 27))
  obtain ⟨n, hn⟩ : ∃ n, n = r * c := ⟨_, rfl⟩
  rw [← hn] at K HFIN ⊢
  clear hx hy hxl hyl hn1 hn2 hn
  go_enter Try.func102, Try.ntmps102
  go_wp2_with fail
  refine (K.out _ B.out).mono ?_
  rintro e w' ⟨va, vc, zs, rfl, RO, RM, hb⟩
  obtain ⟨rl, r0, r1, r2, rf⟩ := (RB0.out.below hb).three
  have hbw := bthen B.out hb
  have hz := hb.size
  simp at hz
  have hfin := setCs_repF (g := w.heap.size + 2) (lo' := w.heap.size) (i := 0) RO.out (by simp) (by simp; omega) (Nat.le_refl _) [.int .i64 r, .int .i64 c, .slice va n vc]
  have hbf := setCs_below hbw (g := w.heap.size + 2) (by omega) 0 [.int .i64 r, .int .i64 c, .slice va n vc]
  have HF := Lib.hid hfin; have HBF := Lib.hid hbf
  clear hfin hbf hbw hb
  go_wp2
  try simp only [Exit.inBlock, Exit.then]
  refine bodyPost_ret (v := .agg #[.int .i64 r, .int .i64 c, .slice va n vc]) (by simp [results, Try.results102, go_sem, r0, r1, r2]) rfl (ten_of rfl HF (HFIN.out _ HF.out.len RM.out) HBF.out)
end Go.Proofs.Ytpemhiaeiecinaa
/- Equal numbers, a row as a tensor: the program. No condition. -/
namespace Go.Proofs.Ytpemhiaeiecinaa
open Go Go.RowKit
set_option linter.unusedVariables false
set_option linter.unusedSimpArgs false
set_option maxHeartbeats 4000000 in
theorem bits_Mul64 (p : Nat) (hp : p ≤ 256) (w : World) : Calls Try.prog 252 #[.int .u64 1, .int .u64 (p : Int)] w fun e w' => e = .returned (.tuple #[.int .u64 0, .int .u64 (p : Int)]) ∧ w = w' := by
  have m1 : bits .and .u64 1 4294967295 = 1 := by decide +kernel
  have m0 : bits .and .u64 0 4294967295 = 0 := by decide +kernel
  have mp : bits .and .u64 (p : Int) 4294967295 = p := by
    have h := Mul64.maskN p (by omega)
    rw [h]; omega
  have wp : IntKind.u64.wrap (p : Int) = p := Mul64.wrapN p (by omega)
  have w0 : IntKind.u64.wrap 0 = 0 := by decide +kernel
  have dp : (p : Int) / 4294967296 = 0 := by omega
  go_enter Try.func252, Try.ntmps252
  go_wp2
  go_ret2
  exact ⟨by congr 3, rfl⟩
theorem bits_Mul (p : Nat) (hp : p ≤ 256) (w : World) : Calls Try.prog 240 #[.int .u64 1, .int .u64 (p : Int)] w fun e w' => e = .returned (.tuple #[.int .u64 0, .int .u64 (p : Int)]) ∧ w = w' := by
  go_enter Try.func240, Try.ntmps240
  go_wp2_with fail
  refine (bits_Mul64 p hp _).mono ?_
  rintro e w1 ⟨rfl, rfl⟩
  go_wp2
  go_ret2
  exact ⟨rfl, rfl⟩
theorem specRes_copy {P : Program} {ops : Array Oper} {D : FuncId → Array Value → World → Value → World → Prop} {o : Oper} {a : Act} {w : World} {K : Value → World → Prop} {E : Prop} (hgd : o.guard = none) (d s : Operand) (dT sT : TypeId)
    (ho : o.op = .call { callee := .builtin .copy, args := #[d, s], argTypes := #[dT, sT] }) (elem : TypeId) (hu : P.underlying dT = some (.slice elem)) (hsz : (P.info? elem).map (·.size) = some 1)
    (g off dLen dCap : Nat) (ad : Addr) (sLen sCap : Nat) (hd : a.eval d = .slice (some ⟨g, off, none⟩) dLen dCap) (hs : a.eval s = .slice (some ad) sLen sCap)
    (cur : List Value) (t : TypeId) (hg : w.heap[g]? = some (.cells cur.toArray t (0, 0))) (cs : List Value) (hn : cs.length = Nat.min sLen dLen)
    (hsrc : ∀ j v, cs[j]? = some v → w.cell? (ad.add j) = some v) (hfit : off + cs.length ≤ cur.length) (h1 : ∀ v ∈ cs, v.oneCell' = true) (B : Nat) (w0 : World) (hb : Below B w0 w) (hBg : B ≤ g)
    (h : ∀ w', w'.heap[g]? = some (.cells (splice cur off cs).toArray t (0, 0)) → Below B w0 w' → K (goInt cs.length) w') :
    if Region.wanted o (yielded ops a.tmps) = true then SpecRes P D K ((execOp a.eval o).run P w) else E := by
  have hw : Region.wanted o (yielded ops a.tmps) = true := by simp [Region.wanted, hgd]
  rw [if_pos hw]
  have hrun := run_copy_row (P := P) w dT sT o.type elem g off dLen dCap ad sLen sCap cur.toArray t cs hu hsz hg hn hsrc (by simpa using hfit) h1
  unfold execOp
  simp only [ho, resolve, invoke, builtin, Sem.run_bind, Sem.run_pure, Result.andThen_ok, List.map_toArray, List.map_cons, List.map_nil, hd, hs, hrun]
  exact h _ (show _ = _ by simpa [splice] using setRow_heap w g _ _ t _ hg) (below_setRow hb hBg _)
/-- the first n of p numbers are one -/
def RepY (w : World) (g p n y : Nat) : Prop := ∃ cur : List Value, w.heap[g]? = some (.cells cur.toArray 33 (0, 0)) ∧ cur.length = p ∧ ∀ j, j < n → cur[j]? = some (.float .f32 y)
theorem RepY.below {w w' : World} {g p n y : Nat} (h : RepY w g p n y) (hb : Below w.heap.size w w') : RepY w' g p n y := by
  obtain ⟨cur, h1, h2, h3⟩ := h
  have hl : g < w.heap.size := by
    rcases Nat.lt_or_ge g w.heap.size with h | h
    · exact h
    · rw [Array.getElem?_eq_none h] at h1; cases h1
  exact ⟨cur, by rw [hb.block g hl]; exact h1, h2, h3⟩
theorem splice_get {L cs : List Value} {off : Nat} {v : Value} (h1 : ∀ j, j < off → L[j]? = some v) (h2 : ∀ u ∈ cs, u = v) (hf : off + cs.length ≤ L.length) : ∀ j, j < off + cs.length → (splice L off cs)[j]? = some v := by
  intro j hj
  unfold splice
  by_cases h : j < off
  · rw [List.getElem?_append_left (by rw [List.length_take]; omega), List.getElem?_take, if_pos h]
    exact h1 j h
  · rw [List.getElem?_append_right (by rw [List.length_take]; omega), List.length_take, List.getElem?_append_left (by omega)]
    have h3 : j - min off L.length < cs.length := by omega
    rw [List.getElem?_eq_getElem h3, h2 _ (List.getElem_mem h3)]
theorem RepY.fin {w w' : World} {g p y : Nat} (h : RepY w' g p p y) (hg : w.heap.size ≤ g) (hp : p ≤ 256) (hy : y < 4294967296) : RepF w' w.heap.size w'.heap.size (some ⟨g, 0, none⟩) p p (List.replicate p y) := by
  obtain ⟨cur, h1, h2, h3⟩ := h
  have hc : cur = (List.replicate p y).map (Value.float .f32) := by
    refine List.ext_getElem? fun j => ?_
    by_cases hj : j < p
    · rw [h3 j hj]; simp [hj]
    · rw [List.getElem?_eq_none (by omega)]; simp [hj]
  have ho : w'.ownsRow w.heap.size 33 1 (.slice (some ⟨g, 0, none⟩) p p) p ((List.replicate p y).map (Value.float .f32)) :=
    ⟨by simp, .inr ⟨g, p, cur.toArray, rfl, hg, h1, Nat.le_refl _, by unfold maxLen; omega, by simp [h2], by rw [hc]; simp⟩⟩
  obtain ⟨a, c, e, hr⟩ := RepF.of_owns (xs := List.replicate p y) ho (fun x hx => by rw [List.eq_of_mem_replicate hx]; exact hy)
  cases e
  exact hr
set_option maxHeartbeats 8000000 in
set_option maxRecDepth 100000 in
theorem slices_Repeat (w : World) (b o : Nat) (y : Nat) (cap : Nat) (p : Nat) (hp1 : 1 ≤ p) (hp : p ≤ 256) (hy : w.cell? ⟨b, o, none⟩ = some (.float .f32 y)) (hyl : y < 4294967296) :
    Calls Try.prog 181 #[.slice (some ⟨b, o, none⟩) 1 cap, .int .i64 (p : Int)] w fun e w' => ∃ ad' cap', e = .returned (.slice ad' p cap') ∧ Hid (RepF w' w.heap.size w'.heap.size ad' p cap' (List.replicate p y)) ∧ Below w.heap.size w w' := by
  obtain ⟨i0, hi0, hz0, hzs, hz2⟩ := info_parts info_f32
  have hsz1 : (Try.prog.info? 33).map (·.size) = some 1 := by rw [hi0]; simp [hzs]
  have HZ1 := Lib.hid hsz1
  clear hsz1
  have wp : IntKind.u64.wrap (p : Int) = p := Mul64.wrapN p (by omega)
  have wq : IntKind.i64.wrap (p : Int) = p := wrap_nat (by omega)
  have c1 : decide ((9223372036854775807 : Int) < (p : Int)) = false := decide_eq_false (by omega)
  have hbl := World.block_lt_of_cell? w _ hy
  simp only at hbl
  have HYC := Lib.hid hy
  clear hy
  go_enter Try.func181, Try.ntmps181
  go_wp2_with fail
  refine (bits_Mul p hp _).mono ?_
  rintro e w1 ⟨rfl, rfl⟩
  go_wp2_with (at_make; refine wpList_make_full _ rfl _ _ 25 rfl w.heap.size 33 i0 (.float .f32 0) 1 Try.underlying25 hi0 hz0 hzs .i64 .i64 _ _ p rfl rfl rfl rfl ?c1 ?c2 ?c3 ?_)
  case c1 => rw [hz2]; omega
  case c2 => unfold maxLen; omega
  case c3 => exact Nat.le_refl _
  intro w1 hown hg
  have hb1 : Below w.heap.size w w1 := (Below.refl _ _).grown hg (Nat.le_refl _) (fun k e => by cases e)
  obtain ⟨cur, hcur, hcl⟩ : ∃ cur : List Value, w1.heap[w.heap.size]? = some (.cells cur.toArray 33 (0, 0)) ∧ cur.length = p := by
    rcases hown.2 with ⟨h, _⟩ | ⟨g', cap', cur, hv, _, hh, _, _, hs, _⟩
    · cases h
    · cases hv
      exact ⟨cur.toList, by simpa using hh, by simpa using hs⟩
  have hyc : w1.cell? ⟨b, o, none⟩ = some (.float .f32 y) := (hb1.cell (p := ⟨b, o, none⟩) hbl).trans HYC.out
  obtain ⟨cs, hcs⟩ : ∃ cs, cs = [Value.float .f32 y] := ⟨_, rfl⟩
  have hcs1 : cs.length = 1 := by rw [hcs]; rfl
  have hmin : cs.length = Nat.min 1 p := by rw [hcs1]; show 1 = min 1 p; omega
  have hsrc : ∀ j v, cs[j]? = some v → w1.cell? ((⟨b, o, none⟩ : Addr).add j) = some v := by
    intro j v hj
    rw [hcs] at hj
    cases j with
    | zero => simp at hj; subst hj; rw [Addr.add_lit]; exact hyc
    | succ j => simp at hj
  have hone : ∀ v ∈ cs, v.oneCell' = true := by intro v hv; rw [hcs] at hv; simp at hv; subst hv; rfl
  have HCUR := Lib.hid (And.intro hcur (And.intro hcl (And.intro hcs (And.intro hmin (And.intro hsrc (And.intro hone hcs1))))))
  have HB1 := Lib.hid hb1
  clear hb1 hcur hcl hyc hcs hcs1 hmin hsrc hone hown hg
  go_wp2_with (with_reducible refine wpList_copy_splice rfl _ _ 25 25 rfl 33 rfl HZ1.out (some ⟨w.heap.size, 0, none⟩) (some ⟨b, o, none⟩) p p 1 cap rfl rfl w.heap.size 0 cur 33 HCUR.out.1 cs HCUR.out.2.2.2.1 (fun _ => ⟨rfl, _, rfl, HCUR.out.2.2.2.2.1⟩) (by rw [HCUR.out.2.2.2.2.2.2, HCUR.out.2.1]; omega) HCUR.out.2.2.2.2.2.1 w.heap.size w HB1.out (Nat.le_refl _) ?_)
  intro w2 hg2 hb2
  have HY2 : Hid (RepY w2 w.heap.size p 1 y) := Lib.hid ⟨_, hg2.out, by rw [length_splice _ _ _ (by rw [HCUR.out.2.2.2.2.2.2, HCUR.out.2.1]; omega)]; exact HCUR.out.2.1, fun j hj => by
    have h := splice_get (L := cur) (cs := cs) (off := 0) (v := .float .f32 y) (fun j hj => by omega) (fun u hu => by rw [HCUR.out.2.2.1] at hu; simpa using hu) (by rw [HCUR.out.2.2.2.2.2.2, HCUR.out.2.1]; omega)
    exact h j (by rw [HCUR.out.2.2.2.2.2.2]; omega)⟩
  have HB2 := Lib.hid hb2
  have hcs1 := HCUR.out.2.2.2.2.2.2
  clear hg2 hb2 HB1 HCUR
  go_wp2
  go_loopw [8] (fun i wt => ∃ k : Nat, i = .int .i64 k ∧ 1 ≤ k ∧ k ≤ p ∧ Hid (RepY wt w.heap.size p k y) ∧ Hid (Below w.heap.size w wt)) (fun i _ => p - (intOf i).toNat)
  case atStart => exact ⟨cs.length, rfl, by omega, by omega, by rw [hcs1]; exact HY2, HB2⟩
  case round =>
    clear HY2 HB2 hcs1
    obtain ⟨k, rfl, hk1, hk, HY, HB⟩ := hrel
    by_cases hlt : k < p
    · obtain ⟨cur, hcur, hcl, hca⟩ := HY.out
      obtain ⟨m, hm⟩ : ∃ m, m = Nat.min k (p - k) := ⟨_, rfl⟩
      have hm2 : 1 ≤ m ∧ m ≤ k ∧ k + m ≤ p := by
        have e : m = min k (p - k) := hm
        omega
      have hnp : ¬ (p = k) := by omega
      have HC := Lib.hid (And.intro hcur (And.intro hcl hca))
      have HM := Lib.hid hm; have HM2 := Lib.hid hm2
      have tm : IntKind.i64.wrap ((k : Int) + (m : Int)) = ((k + m : Nat) : Int) := by
        rw [← Int.natCast_add]; exact wrap_nat (by omega)
      clear hcur hcl hca hm
      go_upto_region 9 with fail
      refine wp_region_mix0 [7] (fun W => True) (fun _ _ _ => False) (fun _ _ _ _ _ => False) (by kernel_rfl) (by kernel_rfl) trivial (fun W q h => trivial) ?_
      iterate 7 (refine mwalk_plain (by rfl) trivial (fun K hK W hW => ?_); go_simp; refine hK _ ?_; clear hK K)
      refine mwalk_spec (by rfl) trivial (fun K hK q => ?_)
      refine specRes_copy rfl _ _ 25 25 rfl 33 rfl HZ1.out w.heap.size k (p - k) (p - k) ⟨w.heap.size, 0, none⟩ k p rfl rfl cur 33 HC.out.1 (List.replicate m (.float .f32 y)) (by rw [List.length_replicate]; exact HM.out) ?c4 (by rw [List.length_replicate, HC.out.2.1]; exact HM2.out.2.2) (by intro v hv; rw [List.eq_of_mem_replicate hv]; rfl) w.heap.size w (below_drewN HB.out q) (Nat.le_refl _) ?_
      case c4 =>
        intro j v hj
        have hjm : j < m := by
          rcases Nat.lt_or_ge j m with h | h
          · exact h
          · rw [List.getElem?_eq_none (by simpa using h)] at hj; cases hj
        rw [List.getElem?_replicate, if_pos hjm] at hj
        cases hj
        rw [Addr.add_lit, Nat.zero_add]
        have h1 := cell_of_row wr w.heap.size j cur.toArray 33 (0, 0) HC.out.1
        have h2 : (wr.drewN q).cell? ⟨w.heap.size, j, none⟩ = wr.cell? ⟨w.heap.size, j, none⟩ := by simp
        rw [h2, h1]
        simpa using HC.out.2.2 j (by omega)
      intro w2 hg2 hb2
      have HY3 : Hid (RepY w2 w.heap.size p (k + m) y) := Lib.hid ⟨_, hg2, by rw [length_splice _ _ _ (by rw [List.length_replicate, HC.out.2.1]; exact HM2.out.2.2)]; exact HC.out.2.1, fun j hj => by
        have h := splice_get (L := cur) (cs := List.replicate m (.float .f32 y)) (off := k) (v := .float .f32 y) HC.out.2.2 (fun u hu => List.eq_of_mem_replicate hu) (by rw [List.length_replicate, HC.out.2.1]; exact HM2.out.2.2)
        exact h j (by rw [List.length_replicate]; exact hj)⟩
      have HB3 := Lib.hid hb2
      have hlr : ((List.replicate m (Value.float .f32 y)).length : Int) = (m : Int) := by rw [List.length_replicate]
      refine ⟨trivial, hK _ _ ?_⟩
      clear hK K hg2 hb2 HC HY HB
      iterate 2 (refine mwalk_plain (by rfl) trivial (fun K hK W hW => ?_); go_simp; refine hK _ ?_; clear hK K)
      refine mwalk_nil (fun q3 => ?_)
      have HY4 := Lib.hid (HY3.out.below (below_drewN (Below.refl _ _) q3)); have HB4 := Lib.hid (below_drewN HB3.out q3)
      clear HY3 HB3 tm
      go_wp2
      go_roundw
      case rel => exact ⟨k + m, by go_num, by omega, HM2.out.2.2, HY4, HB4⟩
      case measure => simp [intOf]; omega
    · have hkn : k = p := by omega
      subst hkn
      have HF := Lib.hid (HY.out.fin (w := w) (Nat.le_refl _) hp hyl)
      clear HY
      go_wp2
      go_ret
      exact ⟨_, _, rfl, HF, HB.out⟩
theorem filE_map (y n : Nat) : (List.replicate n y).map (cn .f32) = filE (cn .f32 y) n := by
  refine List.ext_getElem (by simp [filE, listOf_length]) fun j h1 h2 => ?_
  simp [filE, listOf]
set_option maxHeartbeats 2000000 in
theorem impl_filled (w : World) (r c : Nat) (y : Nat) (hy : y < 4294967296) (hr1 : 1 ≤ r) (hr : r ≤ 16) (hc1 : 1 ≤ c) (hc : c ≤ 16) :
    Calls Try.prog 109 #[.int .i64 r, .int .i64 c, .float .f32 y] w (TenPost r c (r * c) (filE (cn .f32 y) (r * c)) w) := by
  have hp : r * c ≤ 256 := Nat.mul_le_mul hr hc
  have hp1 : 1 ≤ r * c := Nat.mul_le_mul hr1 hc1
  obtain ⟨p, hpp⟩ : ∃ p, p = r * c := ⟨_, rfl⟩
  have e1 : ((r : Int) * (c : Int)) = (p : Int) := by rw [hpp]; rfl
  have wq : IntKind.i64.wrap (p : Int) = p := wrap_nat (by omega)
  rw [← hpp] at hp hp1 ⊢
  clear hpp
  have RB0 := Lib.hid ((BoxN.alloc w #[.int .i64 0, .int .i64 0, .slice none 0 0] 27).below (below1 _ (.cells #[.float .f32 y] 33)))
  have b2 := below2 w (.cells #[.int .i64 0, .int .i64 0, .slice none 0 0] 27) (.cells #[.float .f32 y] 33)
  have hcell : ((w.alloc (.cells #[.int .i64 0, .int .i64 0, .slice none 0 0] 27)).alloc (.cells #[.float .f32 y] 33)).cell? ⟨w.heap.size + 1, 0, none⟩ = some (.float .f32 y) := by
    simp
  have K := Lib.hid (slices_Repeat _ (w.heap.size + 1) 0 y 1 p hp1 hp hcell hy)
  have B := Lib.hid b2
  clear b2 hcell
  go_enter Try.func109, Try.ntmps109
  go_wp2_with fail
  refine K.out.mono ?_
  rintro e w' ⟨va, vc, rfl, RO, hb⟩
  obtain ⟨rl, r0, r1, r2, rf⟩ := (RB0.out.below hb).three
  have hbw := bthen B.out hb
  have hz := hb.size
  simp at hz
  have hfin := setCs_repF (g := w.heap.size) (lo' := w.heap.size) (i := 0) RO.out (by simp; omega) (by simp; omega) (Nat.le_refl _) [.int .i64 r, .int .i64 c, .slice va p vc]
  have hbf := setCs_below hbw (g := w.heap.size) (Nat.le_refl _) 0 [.int .i64 r, .int .i64 c, .slice va p vc]
  have HF := Lib.hid hfin; have HBF := Lib.hid hbf
  clear hfin hbf hbw hb
  go_wp2
  try simp only [Exit.inBlock, Exit.then]
  refine bodyPost_ret (v := .agg #[.int .i64 r, .int .i64 c, .slice va p vc]) (by simp [results, Try.results109, go_sem, r0, r1, r2]) rfl (ten_of rfl HF (filE_map _ _) HBF.out)
theorem impl_rowTensor (w : World) (ad : Option Addr) (cap n : Nat) (xs : List Nat) (h : F32s w ad cap xs) (hc : ad = none → cap = 0) (hxl : xs.length = n) (hn : n ≤ 1048576) :
    Calls Try.prog 218 #[.slice ad n cap] w (TenPost 1 n n (xs.map (cn .f32)) w) := by
  subst hxl
  have b1 := below1 w (.cells #[.int .i64 0, .int .i64 0, .slice none 0 0] 27)
  have K := Lib.hid (slices_CloneF _ ad cap xs (h.below b1) hc hn)
  have RB0 := Lib.hid (BoxN.alloc w #[.int .i64 0, .int .i64 0, .slice none 0 0] 27)
  have B := Lib.hid b1
  obtain ⟨n, hN⟩ : ∃ n, n = xs.length := ⟨_, rfl⟩
  rw [← hN] at K ⊢
  clear b1 h hN hn hc
  go_enter Try.func218, Try.ntmps218
  go_wp2_with fail
  refine K.out.mono ?_
  rintro e w' ⟨va, vc, rfl, RO, hb⟩
  obtain ⟨rl, r0, r1, r2, rf⟩ := (RB0.out.below hb).three
  have hbw := bthen B.out hb
  have hz := hb.size
  simp at hz
  have hfin := setCs_repF (g := w.heap.size) (lo' := w.heap.size) (i := 0) RO.out (by simp) (by simp) (Nat.le_refl _) [.int .i64 1, .int .i64 n, .slice va n vc]
  have hbf := setCs_below hbw (g := w.heap.size) (Nat.le_refl _) 0 [.int .i64 1, .int .i64 n, .slice va n vc]
  have HF := Lib.hid hfin; have HBF := Lib.hid hbf
  clear hfin hbf hbw hb
  go_wp2
  try simp only [Exit.inBlock, Exit.then]
  refine bodyPost_ret (v := .agg #[.int .i64 1, .int .i64 n, .slice va n vc]) (by simp [results, Try.results218, go_sem, r0, r1, r2]) rfl (ten_of rfl HF rfl HBF.out)
theorem impl_copyTensorT (w : World) (r c : Int) (ad : Option Addr) (cap : Nat) (xs : List Nat) (h : F32s w ad cap xs) (hc : ad = none → cap = 0) (n : Nat) (hl : xs.length = n) (hn : n ≤ 1048576) :
    Calls Try.prog 175 #[.agg #[.int .i64 r, .int .i64 c, .slice ad n cap]] w (TenPost r c n (xs.map (cn .f32)) w) := by
  subst hl
  refine (impl_copyTensor w r c ad cap xs h hc hn).mono ?_
  rintro e w' ⟨a, c', he, hr, hb⟩
  exact ten_of he hr rfl hb
end Go.Proofs.Ytpemhiaeiecinaa
/- The values of a tape. No condition. -/
namespace Go.Proofs.Ytpemhiaeiecinaa
open Go Go.RowKit
set_option linter.unusedVariables false
set_option linter.unusedSimpArgs false
/-- what an operation makes of two values (k is not 0) -/
def valV (k : Int) (v w : TenP) (num : Nat) : TenP :=
  if k = 1 then ⟨v.r, v.c, tenE .add v.xs w.xs v.xs.length⟩ else
  if k = 2 then ⟨v.r, v.c, rowE .add v.xs w.xs v.c.toNat v.xs.length⟩ else
  if k = 3 then ⟨v.r, v.c, tenE .mul v.xs w.xs v.xs.length⟩ else
  if k = 4 then ⟨v.r, v.c, rowE .mul v.xs w.xs v.c.toNat v.xs.length⟩ else
  if k = 5 then ⟨v.r, v.c, scaE v.xs num v.xs.length⟩ else
  if k = 6 then ⟨v.r, w.c, matE v.xs w.xs v.c.toNat w.c.toNat (v.r.toNat * w.c.toNat)⟩ else
  if k = 7 then ⟨v.c, v.r, turnE v.xs v.r.toNat v.c.toNat v.xs.length⟩ else
  if k = 8 then ⟨v.r, v.c, relE v.xs v.xs.length⟩ else
  if k = 9 then ⟨v.r, v.c, tenE .mul v.xs v.xs v.xs.length⟩ else
  ⟨1, 1, filE (sumS v.xs v.xs.length) 1⟩
def noTen : TenP := ⟨0, 0, []⟩
def vGet (V : List TenP) (i : Int) : TenP := V.getD i.toNat noTen
def stepV (V : List TenP) (o : OpP) : TenP := if o.k = 0 then ⟨o.r, o.c, o.xs.map (cn .f32)⟩ else valV o.k (vGet V o.a) (vGet V o.b) (cn .f32 o.num)
def valsN (os : List OpP) (k : Nat) : List TenP := (os.take k).foldl (fun V o => V ++ [stepV V o]) []
def valsP (os : List OpP) : List TenP := valsN os os.length
theorem valsN_succ {os : List OpP} {k : Nat} {o : OpP} (h : os[k]? = some o) : valsN os (k + 1) = valsN os k ++ [stepV (valsN os k) o] := by
  unfold valsN
  rw [List.take_add_one, h, List.foldl_append]
  rfl
def TenP.sh (t : TenP) : Sh := (t.r, t.c)
/-- a valid value -/
structure okT (t : TenP) : Prop where
  r1 : 1 ≤ t.r
  r2 : t.r ≤ 16
  c1 : 1 ≤ t.c
  c2 : t.c ≤ 16
  len : t.xs.length = t.r.toNat * t.c.toNat
theorem okT.pos {t : TenP} (h : okT t) : 1 ≤ t.xs.length := by
  rw [h.len]
  have := h.r1; have := h.c1
  exact Nat.mul_le_mul (by omega : 1 ≤ t.r.toNat) (by omega : 1 ≤ t.c.toNat)
theorem okT.le {t : TenP} (h : okT t) : t.xs.length ≤ 256 := by
  rw [h.len]
  have := h.r2; have := h.c2
  exact Nat.mul_le_mul (by omega : t.r.toNat ≤ 16) (by omega : t.c.toNat ≤ 16)
theorem tenE_length (op : BinOp) (X Y : List Nat) (n : Nat) : (tenE op X Y n).length = n := listOf_length _ _
theorem rowE_length (op : BinOp) (X Y : List Nat) (c n : Nat) : (rowE op X Y c n).length = n := listOf_length _ _
theorem scaE_length (X : List Nat) (y n : Nat) : (scaE X y n).length = n := listOf_length _ _
theorem matE_length (X Y : List Nat) (m c n : Nat) : (matE X Y m c n).length = n := listOf_length _ _
theorem turnE_length (X : List Nat) (r c n : Nat) : (turnE X r c n).length = n := listOf_length _ _
theorem relE_length (X : List Nat) (n : Nat) : (relE X n).length = n := listOf_length _ _
theorem filE_length (y n : Nat) : (filE y n).length = n := listOf_length _ _
theorem valV_ok {k : Int} {v w : TenP} {num : Nat} {s : Sh} (hk : 1 ≤ k ∧ k ≤ 10) (hv : okT v) (hw : okT w) (h : shapeOf k v.sh w.sh = some s) : (valV k v w num).sh = s ∧ okT (valV k v w num) := by
  have hk2 : k = 1 ∨ k = 2 ∨ k = 3 ∨ k = 4 ∨ k = 5 ∨ k = 6 ∨ k = 7 ∨ k = 8 ∨ k = 9 ∨ k = 10 := by omega
  obtain ⟨v1, v2, v3, v4, v5⟩ := hv
  obtain ⟨w1, w2, w3, w4, w5⟩ := hw
  refine ⟨?_, ?_⟩
  · rcases hk2 with rfl | rfl | rfl | rfl | rfl | rfl | rfl | rfl | rfl | rfl
    all_goals
      simp only [shapeOf, TenP.sh] at h
      simp only [valV, TenP.sh]
      simp at h ⊢
      first
        | exact h
        | exact h.2
        | (by_cases h6 : v.c = w.r <;> simp [h6] at h <;> (try rw [h6]) <;> exact h)
  · rcases hk2 with rfl | rfl | rfl | rfl | rfl | rfl | rfl | rfl | rfl | rfl
    all_goals
      simp only [valV]
      simp
      constructor <;> simp [tenE_length, rowE_length, scaE_length, matE_length, turnE_length, relE_length, filE_length] <;> first | omega | (rw [v5, Nat.mul_comm])
/-- the values of a valid tape have the shapes that are told -/
theorem valsN_ok {os : List OpP} {k : Nat} {S : List Sh} (hk : k ≤ os.length) (h : shapesN os k = some S) : (valsN os k).map TenP.sh = S ∧ ∀ t ∈ valsN os k, okT t := by
  induction k generalizing S with
  | zero =>
    have e : S = [] := by
      unfold shapesN at h
      simpa using h.symm
    subst e
    exact ⟨rfl, fun t ht => (nomatch ht)⟩
  | succ k ih =>
    obtain ⟨o, ho⟩ := getElem?_lt (show k < os.length by omega)
    rw [shapesN_succ ho] at h
    obtain ⟨S0, hS0, hst⟩ := Option.bind_eq_some_iff.1 h
    obtain ⟨h1, h2⟩ := ih (by omega) hS0
    have hl := shapesN_length (by omega) hS0
    have hVl : (valsN os k).length = k := by have := congrArg List.length h1; rw [List.length_map, hl] at this; exact this
    have hg : ∀ i : Int, 0 ≤ i → i ≤ k - 1 → (vGet (valsN os k) i).sh = shGet S0 i ∧ okT (vGet (valsN os k) i) := by
      intro i h0 h3
      have hi : i.toNat < (valsN os k).length := by omega
      have e1 : vGet (valsN os k) i = (valsN os k)[i.toNat] := by unfold vGet; rw [List.getD_eq_getElem?_getD, List.getElem?_eq_getElem hi]; rfl
      refine ⟨?_, by rw [e1]; exact h2 _ (List.getElem_mem hi)⟩
      rw [e1]
      unfold shGet
      rw [← h1, List.getD_eq_getElem?_getD, List.getElem?_map, List.getElem?_eq_getElem hi]; rfl
    rw [valsN_succ ho]
    unfold stepSh at hst
    rw [hl] at hst
    split at hst
    · rename_i hf
      split at hst
      · rename_i h0
        cases hst
        have hin := (fitsB_input hf h0).2.2
        have ht := tenB_iff.1 hin
        have e1 : stepV (valsN os k) o = ⟨o.r, o.c, o.xs.map (cn .f32)⟩ := by unfold stepV; rw [if_pos h0]
        refine ⟨by rw [List.map_append, h1, e1]; rfl, fun t ht2 => ?_⟩
        rcases List.mem_append.1 ht2 with ht2 | ht2
        · exact h2 t ht2
        · simp at ht2
          rw [ht2, e1]
          refine ⟨ht.1.1, ht.1.2, ht.2.1.1, ht.2.1.2, ?_⟩
          show (o.xs.map (cn .f32)).length = o.r.toNat * o.c.toNat
          rw [List.length_map]
          have h4 := ht.2.2
          have h5 : ((o.r.toNat * o.c.toNat : Nat) : Int) = o.r * o.c := by
            rw [Int.natCast_mul, Int.toNat_of_nonneg (by omega), Int.toNat_of_nonneg (by omega)]
          omega
      · rename_i h0
        obtain ⟨s, hs, e2⟩ := Option.map_eq_some_iff.1 hst
        subst e2
        have hk10 := fitsB_in hf
        have ha := fitsB_args hf h0
        have ga := hg o.a ha.1.1 ha.1.2
        have gb := hg o.b ha.2.1.1 ha.2.1.2
        have e1 : stepV (valsN os k) o = valV o.k (vGet (valsN os k) o.a) (vGet (valsN os k) o.b) (cn .f32 o.num) := by unfold stepV; rw [if_neg h0]
        have hv := valV_ok (k := o.k) (s := s) (num := cn .f32 o.num) (by omega) ga.2 gb.2 (by rw [ga.1, gb.1]; exact hs)
        refine ⟨by rw [List.map_append, h1, e1]; show _ ++ [TenP.sh _] = _; rw [hv.1], fun t ht2 => ?_⟩
        rcases List.mem_append.1 ht2 with ht2 | ht2
        · exact h2 t ht2
        · simp at ht2
          rw [ht2, e1]; exact hv.2
    · cases hst
end Go.Proofs.Ytpemhiaeiecinaa
/- The value of an operation: the program. No condition. -/
namespace Go.Proofs.Ytpemhiaeiecinaa
open Go Go.RowKit
set_option linter.unusedVariables false
set_option linter.unusedSimpArgs false
theorem ten_spot {w : World} {ad : Option Addr} {cap : Nat} {us : List Ten} (h : SeeR tenR w ad cap us) {k : Nat} {t : Ten} (hk : us[k]? = some t) : ∃ b off, ad = some ⟨b, off, none⟩ ∧ b < w.heap.size ∧
    (w.cell? ⟨b, off + k * 3, none⟩ = some (.int .i64 t.r) ∧ w.cell? ⟨b, off + k * 3 + 1, none⟩ = some (.int .i64 t.c) ∧ w.cell? ⟨b, off + k * 3 + 2, none⟩ = some (.slice t.ad t.xs.length t.cap)) ∧ F32s w t.ad t.cap t.xs := by
  obtain ⟨b, off, e, hb, hc⟩ := h.spot hk (by decide)
  have hm := List.mem_of_getElem? hk
  exact ⟨b, off, e, hb, ⟨hc 0 (by decide), hc 1 (by decide), hc 2 (by decide)⟩, (h.inn t hm _ (List.mem_singleton.2 rfl)).f32s (h.ok t hm)⟩
theorem vGet_map {us : List Ten} {V : List TenP} (hV : us.map (fun t => t.toTenP.can) = V) {k : Nat} {t : Ten} (hk : us[k]? = some t) : vGet V (k : Nat) = t.toTenP.can := by
  unfold vGet
  rw [← hV, show ((k : Nat) : Int).toNat = k by simp, List.getD_eq_getElem?_getD, List.getElem?_map, hk]; rfl
/-- the sides of a valid value are natural numbers -/
theorem okT.nat {t : TenP} (h : okT t) : ∃ r c : Nat, t.r = r ∧ t.c = c ∧ (1 ≤ r ∧ r ≤ 16) ∧ (1 ≤ c ∧ c ≤ 16) ∧ t.xs.length = r * c := by
  obtain ⟨h1, h2, h3, h4, h5⟩ := h
  exact ⟨t.r.toNat, t.c.toNat, by omega, by omega, by omega, by omega, h5⟩
set_option maxHeartbeats 64000000 in
set_option maxRecDepth 100000 in
theorem impl_value (w : World) (o : OpD) (ad : Option Addr) (cap : Nat) (us : List Ten) (hu : SeeR tenR w ad cap us) (V : List TenP) (hV : us.map (fun t => t.toTenP.can) = V) (hok : ∀ t ∈ V, okT t) (i : Nat) (hi : us.length = i) (hi2 : i ≤ 48) (hf : fitsB i o.toOpP = true) (hs : o.k ≠ 0 → ∃ s, shapeOf o.k (vGet V o.a).sh (vGet V o.b).sh = some s) (hx : F32s w o.ad o.cap o.xs) (hnil : o.ad = none → o.cap = 0) (hxl : o.xs.length ≤ 1048576) :
    Calls Try.prog 220 #[o.val, .slice ad i cap] w (TenPost (stepV V o.toOpP).r (stepV V o.toOpP).c (stepV V o.toOpP).xs.length (stepV V o.toOpP).xs w) := by
  by_cases h0 : o.k = 0
  · have hst : stepV V o.toOpP = ⟨o.r, o.c, o.xs.map (cn .f32)⟩ := by unfold stepV; rw [if_pos h0]
    rw [hst]
    show Calls Try.prog 220 _ w (TenPost o.r o.c (o.xs.map (cn .f32)).length (o.xs.map (cn .f32)) w)
    rw [List.length_map]
    obtain ⟨⟨kk, a, b', q, r, c, xs⟩, adx, capx⟩ := o
    have h0 : kk = 0 := h0
    subst h0
    show Calls Try.prog 220 #[.agg #[.int .i64 0, .int .i64 a, .int .i64 b', .float .f32 q, .int .i64 r, .int .i64 c, .slice adx xs.length capx], .slice ad i cap] w (TenPost r c xs.length (xs.map (cn .f32)) w)
    have hx : F32s w adx capx xs := hx
    have hnil : adx = none → capx = 0 := hnil
    have hxl : xs.length ≤ 1048576 := hxl
    obtain ⟨n, hN⟩ : ∃ n, n = xs.length := ⟨_, rfl⟩
    rw [← hN] at hxl ⊢
    have K := Lib.hid (fun W (hb : Below w.heap.size w W) => impl_copyTensorT W r c adx capx xs (hx.below hb) hnil n hN.symm hxl)
    have RB := Lib.hid (BoxN.alloc2 w (.cells #[.int .i64 0, .int .i64 a, .int .i64 b', .float .f32 q, .int .i64 r, .int .i64 c, .slice adx n capx] 102) #[.int .i64 0, .int .i64 0, .slice none 0 0] 27)
    have B := Lib.hid (below2 w (.cells #[.int .i64 0, .int .i64 a, .int .i64 b', .float .f32 q, .int .i64 r, .int .i64 c, .slice adx n capx] 102) (.cells #[.int .i64 0, .int .i64 0, .slice none 0 0] 27))
    clear hx hnil hu hV hok hs hf hN hst
    go_enter Try.func220, Try.ntmps220
    go_wp2_with fail
    refine (K.out _ B.out).mono ?_
    rintro e w' ⟨va, vc, zs, rfl, RO, RM, hb⟩
    obtain ⟨rl, r0, r1, r2, rf⟩ := (RB.out.below hb).three
    have hbw := bthen B.out hb
    have hz := hb.size
    simp at hz
    have hfin := setCs_repF (g := w.heap.size + 1) (lo' := w.heap.size) (i := 0) RO.out (by simp) (by simp; omega) (Nat.le_refl _) [.int .i64 r, .int .i64 c, .slice va n vc]
    have hbf := setCs_below hbw (g := w.heap.size + 1) (by omega) 0 [.int .i64 r, .int .i64 c, .slice va n vc]
    have HF := Lib.hid hfin; have HBF := Lib.hid hbf
    clear hfin hbf hbw hb
    go_wp2
    try simp only [Exit.inBlock, Exit.then]
    refine bodyPost_ret (v := .agg #[.int .i64 r, .int .i64 c, .slice va n vc]) (by simp [results, Try.results220, go_sem, r0, r1, r2]) rfl (ten_of rfl HF RM.out HBF.out)
  · have hst : stepV V o.toOpP = valV o.k (vGet V o.a) (vGet V o.b) (cn .f32 o.num) := by unfold stepV; rw [if_neg h0]
    obtain ⟨s, hs⟩ := hs h0
    have hk10 := fitsB_in hf
    have ha := fitsB_args hf h0
    obtain ⟨A, hA⟩ : ∃ A : Nat, o.a = A := ⟨o.a.toNat, by have := ha.1.1; omega⟩
    obtain ⟨B, hB⟩ : ∃ B : Nat, o.b = B := ⟨o.b.toNat, by have := ha.2.1.1; omega⟩
    have hAi : A < i := by have := ha.1.2; rw [show o.toOpP.a = o.a from rfl, hA] at this; omega
    have hBi : B < i := by have := ha.2.1.2; rw [show o.toOpP.b = o.b from rfl, hB] at this; omega
    obtain ⟨tv, htv⟩ := getElem?_lt (show A < us.length by omega)
    obtain ⟨tw, htw⟩ := getElem?_lt (show B < us.length by omega)
    rw [hA, hB, vGet_map hV htv, vGet_map hV htw] at hs hst
    have okv : okT tv.toTenP.can := hok _ (by rw [← hV]; exact List.mem_map_of_mem (List.mem_of_getElem? htv))
    have okw : okT tw.toTenP.can := hok _ (by rw [← hV]; exact List.mem_map_of_mem (List.mem_of_getElem? htw))
    rw [hst]
    obtain ⟨b, off, rfl, hbl, ⟨p0, p1, p2⟩, hxv⟩ := ten_spot hu htv
    obtain ⟨b2, off2, eq2, _, ⟨q0, q1, q2⟩, hxw⟩ := ten_spot hu htw
    cases eq2
    obtain ⟨⟨kk, a, b', q, r, c, xs⟩, adx, capx⟩ := o
    have hA : a = A := hA
    have hB : b' = B := hB
    subst hA hB
    obtain ⟨⟨rv0, cv0, xv⟩, av, kv⟩ := tv
    obtain ⟨⟨rw0, cw0, xw⟩, aw, kw⟩ := tw
    obtain ⟨rv, cv, e1, e2, hrv, hcv, hlv⟩ := okv.nat
    obtain ⟨rw', cw, e3, e4, hrw, hcw, hlw⟩ := okw.nat
    have e1 : rv0 = rv := e1
    have e2 : cv0 = cv := e2
    have e3 : rw0 = rw' := e3
    have e4 : cw0 = cw := e4
    subst e1 e2 e3 e4
    have hlv : (xv.map (cn .f32)).length = rv * cv := hlv
    have hlw : (xw.map (cn .f32)).length = rw' * cw := hlw
    have hk10 : 0 ≤ kk ∧ kk ≤ 10 := hk10
    have h0 : ¬ kk = 0 := h0
    have hs : shapeOf kk (((rv : Nat) : Int), ((cv : Nat) : Int)) (((rw' : Nat) : Int), ((cw : Nat) : Int)) = some s := hs
    show Calls Try.prog 220 #[.agg #[.int .i64 kk, .int .i64 A, .int .i64 B, .float .f32 q, .int .i64 r, .int .i64 c, .slice adx xs.length capx], .slice (some ⟨b, off, none⟩) i cap] w (TenPost (valV kk ⟨rv, cv, xv.map (cn .f32)⟩ ⟨rw', cw, xw.map (cn .f32)⟩ (cn .f32 q)).r (valV kk ⟨rv, cv, xv.map (cn .f32)⟩ ⟨rw', cw, xw.map (cn .f32)⟩ (cn .f32 q)).c (valV kk ⟨rv, cv, xv.map (cn .f32)⟩ ⟨rw', cw, xw.map (cn .f32)⟩ (cn .f32 q)).xs.length (valV kk ⟨rv, cv, xv.map (cn .f32)⟩ ⟨rw', cw, xw.map (cn .f32)⟩ (cn .f32 q)).xs w)
    rw [List.length_map] at hlv hlw
    simp only at p0 p1 p2 q0 q1 q2 hxv hxw
    obtain ⟨n1, hn1⟩ : ∃ n, n = xv.length := ⟨_, rfl⟩
    obtain ⟨n2, hn2⟩ : ∃ n, n = xw.length := ⟨_, rfl⟩
    rw [← hn1] at hlv p2
    rw [← hn2] at hlw q2
    obtain ⟨nx, hnx⟩ : ∃ n, n = xs.length := ⟨_, rfl⟩
    rw [← hnx]
    have hn256 : n1 ≤ 256 := by rw [hlv]; exact Nat.mul_le_mul hrv.2 hcv.2
    have HXV := Lib.hid hxv; have HXW := Lib.hid hxw; have HN1 := Lib.hid hn1; have HN2 := Lib.hid hn2; have HLV := Lib.hid hlv; have HLW := Lib.hid hlw; have HSH := Lib.hid hs
    have HRV := Lib.hid hrv; have HCV := Lib.hid hcv; have HRW := Lib.hid hrw; have HCW := Lib.hid hcw
    clear hxv hxw hn1 hn2 hlv hlw hnx hst htv htw okv okw hV hok hu hi hf hs hx hnil hxl ha hrv hcv hrw hcw
    have RB := Lib.hid (BoxN.alloc2 w (.cells #[.int .i64 kk, .int .i64 A, .int .i64 B, .float .f32 q, .int .i64 r, .int .i64 c, .slice adx nx capx] 102) #[.int .i64 0, .int .i64 0, .slice none 0 0] 27)
    have OB := Lib.hid ((BoxN.alloc w #[.int .i64 kk, .int .i64 A, .int .i64 B, .float .f32 q, .int .i64 r, .int .i64 c, .slice adx nx capx] 102).below (below1 _ (.cells #[.int .i64 0, .int .i64 0, .slice none 0 0] 27)))
    have B0 := Lib.hid (below2 w (.cells #[.int .i64 kk, .int .i64 A, .int .i64 B, .float .f32 q, .int .i64 r, .int .i64 c, .slice adx nx capx] 102) (.cells #[.int .i64 0, .int .i64 0, .slice none 0 0] 27))
    have HP := Lib.hid (And.intro p0 (And.intro p1 (And.intro p2 (And.intro q0 (And.intro q1 q2)))))
    clear p0 p1 p2 q0 q1 q2
    have hk0' : (kk == 0) = false := by simpa using h0
    go_enter Try.func220, Try.ntmps220
    go_upto_region 3 with fail
    obtain ⟨W1, hW1⟩ : ∃ W, W = ((w.alloc (.cells #[.int .i64 kk, .int .i64 A, .int .i64 B, .float .f32 q, .int .i64 r, .int .i64 c, .slice adx nx capx] 102)).alloc (.cells #[.int .i64 0, .int .i64 0, .slice none 0 0] 27)) := ⟨_, rfl⟩
    have hz1 : W1.heap.size = w.heap.size + 1 + 1 := by rw [hW1]; simp
    rw [← hW1] at RB OB B0 ⊢
    obtain ⟨-, x0, x1, x2, x3, x4, x5, x6, xf⟩ := OB.out.seven
    have c0 : W1.cell? ⟨b, off + A * 3, none⟩ = some (.int .i64 rv) := (B0.out.cell (p := ⟨b, off + A * 3, none⟩) hbl).trans HP.out.1
    have c1 : W1.cell? ⟨b, off + A * 3 + 1, none⟩ = some (.int .i64 cv) := (B0.out.cell (p := ⟨b, off + A * 3 + 1, none⟩) hbl).trans HP.out.2.1
    have c2 : W1.cell? ⟨b, off + A * 3 + 2, none⟩ = some (.slice av n1 kv) := (B0.out.cell (p := ⟨b, off + A * 3 + 2, none⟩) hbl).trans HP.out.2.2.1
    have d0 : W1.cell? ⟨b, off + B * 3, none⟩ = some (.int .i64 rw') := (B0.out.cell (p := ⟨b, off + B * 3, none⟩) hbl).trans HP.out.2.2.2.1
    have d1 : W1.cell? ⟨b, off + B * 3 + 1, none⟩ = some (.int .i64 cw) := (B0.out.cell (p := ⟨b, off + B * 3 + 1, none⟩) hbl).trans HP.out.2.2.2.2.1
    have d2 : W1.cell? ⟨b, off + B * 3 + 2, none⟩ = some (.slice aw n2 kw) := (B0.out.cell (p := ⟨b, off + B * 3 + 2, none⟩) hbl).trans HP.out.2.2.2.2.2
    have hbl1 : b < W1.heap.size := by omega
    have HZ1 := Lib.hid hz1
    clear HP hW1 x0 x3 x4 x5 x6 xf hz1
    go_cut [5, 6] (fun p7 p8 wx => ∃ g7 g8 : Nat, p7 = .pointer (some ⟨g7, 0, none⟩) ∧ p8 = .pointer (some ⟨g8, 0, none⟩) ∧ Hid (BoxN wx g7 [.int .i64 rv, .int .i64 cv, .slice av n1 kv] ∧ BoxN wx g8 [.int .i64 rw', .int .i64 cw, .slice aw n2 kw] ∧ Below W1.heap.size W1 wx))
    case first =>
      go_region_held3 (fun w' => (w'.cell? ⟨w.heap.size, 1, none⟩ = some (.int .i64 A) ∧ w'.cell? ⟨w.heap.size, 2, none⟩ = some (.int .i64 B)) ∧ (w'.cell? ⟨b, off + A * 3, none⟩ = some (.int .i64 rv) ∧ w'.cell? ⟨b, off + A * 3 + 1, none⟩ = some (.int .i64 cv) ∧ w'.cell? ⟨b, off + A * 3 + 2, none⟩ = some (.slice av n1 kv)) ∧ (w'.cell? ⟨b, off + B * 3, none⟩ = some (.int .i64 rw') ∧ w'.cell? ⟨b, off + B * 3 + 1, none⟩ = some (.int .i64 cw) ∧ w'.cell? ⟨b, off + B * 3 + 2, none⟩ = some (.slice aw n2 kw))) (go_keep) (first | fail)
      all_goals (try go_wp2_with fail)
      all_goals go_meet
      · exact ⟨_, _, rfl, rfl, Lib.hid ⟨((BoxN.alloc W1 #[.int .i64 rv, .int .i64 cv, .slice av n1 kv] 27).below (below1 _ _)).below (Below.drew (Below.refl _ _)), (BoxN.alloc2 W1 _ #[.int .i64 rw', .int .i64 cw, .slice aw n2 kw] 27).below (Below.drew (Below.refl _ _)), Below.drew (below2 _ _ _)⟩⟩
      · exact ⟨_, _, rfl, rfl, Lib.hid ⟨(BoxN.alloc2 W1 _ #[.int .i64 rv, .int .i64 cv, .slice av n1 kv] 27).below (Below.drew (Below.refl _ _)), ((BoxN.alloc W1 #[.int .i64 rw', .int .i64 cw, .slice aw n2 kw] 27).below (below1 _ _)).below (Below.drew (Below.refl _ _)), Below.drew (below2 _ _ _)⟩⟩
    case rest =>
      obtain ⟨g7, g8, rfl, rfl, HC⟩ := hcut
      obtain ⟨-, x0, x1, x2, x3, x4, x5, x6, xf⟩ := (OB.out.below HC.out.2.2).seven
      obtain ⟨-, y0, y1, y2, yf⟩ := HC.out.1.three
      obtain ⟨-, z0, z1, z2, zf⟩ := HC.out.2.1.three
      have RB2 := Lib.hid (RB.out.below HC.out.2.2)
      have BC := Lib.hid (bthen B0.out HC.out.2.2)
      have hzc : w.heap.size + 1 + 1 ≤ wc.heap.size := by have := HC.out.2.2.size; have := HZ1.out; omega
      have FV := Lib.hid (fun W (hb : Below wc.heap.size wc W) => HXV.out.below (bthen BC.out hb)); have FW := Lib.hid (fun W (hb : Below wc.heap.size wc W) => HXW.out.below (bthen BC.out hb))
      clear c0 c1 c2 d0 d1 d2 HXV HXW HC OB RB B0 x1 x2 x4 x5 x6 xf yf zf hbl hbl1
      have h1k : 1 ≤ kk := by omega
      rcases (by omega : kk = 1 ∨ kk = 2 ∨ kk = 3 ∨ kk = 4 ∨ kk = 5 ∨ kk = 6 ∨ kk = 7 ∨ kk = 8 ∨ kk = 9 ∨ kk = 10) with rfl | rfl | rfl | rfl | rfl | rfl | rfl | rfl | rfl | rfl
      · as_aux_lemma =>
          have HVV : Hid (valV 1 ⟨rv, cv, (xv.map (cn .f32))⟩ ⟨rw', cw, (xw.map (cn .f32))⟩ (cn .f32 q) = ⟨rv, cv, tenE .add (xv.map (cn .f32)) (xw.map (cn .f32)) n1⟩) := Lib.hid (by simp [valV, ← HN1.out])
          have HVL : Hid ((valV 1 ⟨rv, cv, (xv.map (cn .f32))⟩ ⟨rw', cw, (xw.map (cn .f32))⟩ (cn .f32 q)).xs.length = n1) := Lib.hid (by rw [HVV.out]; exact listOf_length _ _)
          have HVX : Hid ((valV 1 ⟨rv, cv, (xv.map (cn .f32))⟩ ⟨rw', cw, (xw.map (cn .f32))⟩ (cn .f32 q)).xs = tenE .add (xv.map (cn .f32)) (xw.map (cn .f32)) n1) := Lib.hid (by rw [HVV.out])
          have HVR : Hid ((valV 1 ⟨rv, cv, (xv.map (cn .f32))⟩ ⟨rw', cw, (xw.map (cn .f32))⟩ (cn .f32 q)).r = rv ∧ (valV 1 ⟨rv, cv, (xv.map (cn .f32))⟩ ⟨rw', cw, (xw.map (cn .f32))⟩ (cn .f32 q)).c = cv) := Lib.hid (by rw [HVV.out]; exact ⟨rfl, rfl⟩)
          have hsh : rv = rw' ∧ cv = cw := by have := HSH.out; simp [shapeOf] at this; omega
          obtain ⟨rfl, rfl⟩ := hsh
          have hnn : n1 = n2 := by rw [HLV.out, HLW.out]
          subst hnn
          go_wp2_with fail
          refine (impl_addTensors _ rv cv rv cv av aw kv kw n1 xv xw (FV.out _ (Below.refl _ _)) (FW.out _ (Below.refl _ _)) HN1.out.symm HN2.out.symm hn256).mono ?_
          rintro e w' ⟨va, vc, zs, rfl, RO, RM, hb⟩
          obtain ⟨rl, r0, r1, r2, rf⟩ := (RB2.out.below hb).three
          have hbw := bthen BC.out hb
          have hz := hb.size
          have hfin := setCs_repF (g := w.heap.size + 1) (lo' := w.heap.size) (i := 0) RO.out (by omega) (by omega) (Nat.le_refl _) [.int .i64 rv, .int .i64 cv, .slice va n1 vc]
          have hbf := setCs_below hbw (g := w.heap.size + 1) (by omega) 0 [.int .i64 rv, .int .i64 cv, .slice va n1 vc]
          have HF := Lib.hid hfin; have HBF := Lib.hid hbf
          clear hfin hbf hbw hb x0 x3 y0 y1 y2 z0 z1 z2 FV FW RB2 BC
          have hl9 := RO.out.len
          have hP : zs.map (cn .f32) = tenE .add (xv.map (cn .f32)) (xw.map (cn .f32)) n1 := RM.out
          go_wp2
          try simp only [Exit.inBlock, Exit.then]
          refine bodyPost_ret (v := .agg #[.int .i64 rv, .int .i64 cv, .slice va n1 vc]) (by simp [results, Try.results220, go_sem, r0, r1, r2]) rfl (ten_of (by rw [HVR.out.1, HVR.out.2, HVL.out]; try rfl) (by rw [HVL.out]; exact HF) (by rw [HVX.out]; exact hP) HBF.out)
      · as_aux_lemma =>
          have HVV : Hid (valV 2 ⟨rv, cv, (xv.map (cn .f32))⟩ ⟨rw', cw, (xw.map (cn .f32))⟩ (cn .f32 q) = ⟨rv, cv, rowE .add (xv.map (cn .f32)) (xw.map (cn .f32)) cv n1⟩) := Lib.hid (by simp [valV, ← HN1.out])
          have HVL : Hid ((valV 2 ⟨rv, cv, (xv.map (cn .f32))⟩ ⟨rw', cw, (xw.map (cn .f32))⟩ (cn .f32 q)).xs.length = n1) := Lib.hid (by rw [HVV.out]; exact listOf_length _ _)
          have HVX : Hid ((valV 2 ⟨rv, cv, (xv.map (cn .f32))⟩ ⟨rw', cw, (xw.map (cn .f32))⟩ (cn .f32 q)).xs = rowE .add (xv.map (cn .f32)) (xw.map (cn .f32)) cv n1) := Lib.hid (by rw [HVV.out])
          have HVR : Hid ((valV 2 ⟨rv, cv, (xv.map (cn .f32))⟩ ⟨rw', cw, (xw.map (cn .f32))⟩ (cn .f32 q)).r = rv ∧ (valV 2 ⟨rv, cv, (xv.map (cn .f32))⟩ ⟨rw', cw, (xw.map (cn .f32))⟩ (cn .f32 q)).c = cv) := Lib.hid (by rw [HVV.out]; exact ⟨rfl, rfl⟩)
          have hsh : rw' = 1 ∧ cv = cw := by have := HSH.out; simp [shapeOf] at this; omega
          obtain ⟨rfl, rfl⟩ := hsh
          have hnn : cv = n2 := by rw [HLW.out, Nat.one_mul]
          subst hnn
          go_wp2_with fail
          refine (impl_addRow _ rv cv av aw kv kw n1 xv xw (FV.out _ (Below.refl _ _)) (FW.out _ (Below.refl _ _)) HN1.out.symm HN2.out.symm hn256 HCV.out.1 HCV.out.2).mono ?_
          rintro e w' ⟨va, vc, zs, rfl, RO, RM, hb⟩
          obtain ⟨rl, r0, r1, r2, rf⟩ := (RB2.out.below hb).three
          have hbw := bthen BC.out hb
          have hz := hb.size
          have hfin := setCs_repF (g := w.heap.size + 1) (lo' := w.heap.size) (i := 0) RO.out (by omega) (by omega) (Nat.le_refl _) [.int .i64 rv, .int .i64 cv, .slice va n1 vc]
          have hbf := setCs_below hbw (g := w.heap.size + 1) (by omega) 0 [.int .i64 rv, .int .i64 cv, .slice va n1 vc]
          have HF := Lib.hid hfin; have HBF := Lib.hid hbf
          clear hfin hbf hbw hb x0 x3 y0 y1 y2 z0 z1 z2 FV FW RB2 BC
          have hl9 := RO.out.len
          have hP : zs.map (cn .f32) = rowE .add (xv.map (cn .f32)) (xw.map (cn .f32)) cv n1 := RM.out
          go_wp2
          try simp only [Exit.inBlock, Exit.then]
          refine bodyPost_ret (v := .agg #[.int .i64 rv, .int .i64 cv, .slice va n1 vc]) (by simp [results, Try.results220, go_sem, r0, r1, r2]) rfl (ten_of (by rw [HVR.out.1, HVR.out.2, HVL.out]; try rfl) (by rw [HVL.out]; exact HF) (by rw [HVX.out]; exact hP) HBF.out)
      · as_aux_lemma =>
          have HVV : Hid (valV 3 ⟨rv, cv, (xv.map (cn .f32))⟩ ⟨rw', cw, (xw.map (cn .f32))⟩ (cn .f32 q) = ⟨rv, cv, tenE .mul (xv.map (cn .f32)) (xw.map (cn .f32)) n1⟩) := Lib.hid (by simp [valV, ← HN1.out])
          have HVL : Hid ((valV 3 ⟨rv, cv, (xv.map (cn .f32))⟩ ⟨rw', cw, (xw.map (cn .f32))⟩ (cn .f32 q)).xs.length = n1) := Lib.hid (by rw [HVV.out]; exact listOf_length _ _)
          have HVX : Hid ((valV 3 ⟨rv, cv, (xv.map (cn .f32))⟩ ⟨rw', cw, (xw.map (cn .f32))⟩ (cn .f32 q)).xs = tenE .mul (xv.map (cn .f32)) (xw.map (cn .f32)) n1) := Lib.hid (by rw [HVV.out])
          have HVR : Hid ((valV 3 ⟨rv, cv, (xv.map (cn .f32))⟩ ⟨rw', cw, (xw.map (cn .f32))⟩ (cn .f32 q)).r = rv ∧ (valV 3 ⟨rv, cv, (xv.map (cn .f32))⟩ ⟨rw', cw, (xw.map (cn .f32))⟩ (cn .f32 q)).c = cv) := Lib.hid (by rw [HVV.out]; exact ⟨rfl, rfl⟩)
          have hsh : rv = rw' ∧ cv = cw := by have := HSH.out; simp [shapeOf] at this; omega
          obtain ⟨rfl, rfl⟩ := hsh
          have hnn : n1 = n2 := by rw [HLV.out, HLW.out]
          subst hnn
          go_wp2_with fail
          refine (impl_mulTensors _ rv cv rv cv av aw kv kw n1 xv xw (FV.out _ (Below.refl _ _)) (FW.out _ (Below.refl _ _)) HN1.out.symm HN2.out.symm hn256).mono ?_
          rintro e w' ⟨va, vc, zs, rfl, RO, RM, hb⟩
          obtain ⟨rl, r0, r1, r2, rf⟩ := (RB2.out.below hb).three
          have hbw := bthen BC.out hb
          have hz := hb.size
          have hfin := setCs_repF (g := w.heap.size + 1) (lo' := w.heap.size) (i := 0) RO.out (by omega) (by omega) (Nat.le_refl _) [.int .i64 rv, .int .i64 cv, .slice va n1 vc]
          have hbf := setCs_below hbw (g := w.heap.size + 1) (by omega) 0 [.int .i64 rv, .int .i64 cv, .slice va n1 vc]
          have HF := Lib.hid hfin; have HBF := Lib.hid hbf
          clear hfin hbf hbw hb x0 x3 y0 y1 y2 z0 z1 z2 FV FW RB2 BC
          have hl9 := RO.out.len
          have hP : zs.map (cn .f32) = tenE .mul (xv.map (cn .f32)) (xw.map (cn .f32)) n1 := RM.out
          go_wp2
          try simp only [Exit.inBlock, Exit.then]
          refine bodyPost_ret (v := .agg #[.int .i64 rv, .int .i64 cv, .slice va n1 vc]) (by simp [results, Try.results220, go_sem, r0, r1, r2]) rfl (ten_of (by rw [HVR.out.1, HVR.out.2, HVL.out]; try rfl) (by rw [HVL.out]; exact HF) (by rw [HVX.out]; exact hP) HBF.out)
      · as_aux_lemma =>
          have HVV : Hid (valV 4 ⟨rv, cv, (xv.map (cn .f32))⟩ ⟨rw', cw, (xw.map (cn .f32))⟩ (cn .f32 q) = ⟨rv, cv, rowE .mul (xv.map (cn .f32)) (xw.map (cn .f32)) cv n1⟩) := Lib.hid (by simp [valV, ← HN1.out])
          have HVL : Hid ((valV 4 ⟨rv, cv, (xv.map (cn .f32))⟩ ⟨rw', cw, (xw.map (cn .f32))⟩ (cn .f32 q)).xs.length = n1) := Lib.hid (by rw [HVV.out]; exact listOf_length _ _)
          have HVX : Hid ((valV 4 ⟨rv, cv, (xv.map (cn .f32))⟩ ⟨rw', cw, (xw.map (cn .f32))⟩ (cn .f32 q)).xs = rowE .mul (xv.map (cn .f32)) (xw.map (cn .f32)) cv n1) := Lib.hid (by rw [HVV.out])
          have HVR : Hid ((valV 4 ⟨rv, cv, (xv.map (cn .f32))⟩ ⟨rw', cw, (xw.map (cn .f32))⟩ (cn .f32 q)).r = rv ∧ (valV 4 ⟨rv, cv, (xv.map (cn .f32))⟩ ⟨rw', cw, (xw.map (cn .f32))⟩ (cn .f32 q)).c = cv) := Lib.hid (by rw [HVV.out]; exact ⟨rfl, rfl⟩)
          have hsh : rw' = 1 ∧ cv = cw := by have := HSH.out; simp [shapeOf] at this; omega
          obtain ⟨rfl, rfl⟩ := hsh
          have hnn : cv = n2 := by rw [HLW.out, Nat.one_mul]
          subst hnn
          go_wp2_with fail
          refine (impl_mulRow _ rv cv av aw kv kw n1 xv xw (FV.out _ (Below.refl _ _)) (FW.out _ (Below.refl _ _)) HN1.out.symm HN2.out.symm hn256 HCV.out.1 HCV.out.2).mono ?_
          rintro e w' ⟨va, vc, zs, rfl, RO, RM, hb⟩
          obtain ⟨rl, r0, r1, r2, rf⟩ := (RB2.out.below hb).three
          have hbw := bthen BC.out hb
          have hz := hb.size
          have hfin := setCs_repF (g := w.heap.size + 1) (lo' := w.heap.size) (i := 0) RO.out (by omega) (by omega) (Nat.le_refl _) [.int .i64 rv, .int .i64 cv, .slice va n1 vc]
          have hbf := setCs_below hbw (g := w.heap.size + 1) (by omega) 0 [.int .i64 rv, .int .i64 cv, .slice va n1 vc]
          have HF := Lib.hid hfin; have HBF := Lib.hid hbf
          clear hfin hbf hbw hb x0 x3 y0 y1 y2 z0 z1 z2 FV FW RB2 BC
          have hl9 := RO.out.len
          have hP : zs.map (cn .f32) = rowE .mul (xv.map (cn .f32)) (xw.map (cn .f32)) cv n1 := RM.out
          go_wp2
          try simp only [Exit.inBlock, Exit.then]
          refine bodyPost_ret (v := .agg #[.int .i64 rv, .int .i64 cv, .slice va n1 vc]) (by simp [results, Try.results220, go_sem, r0, r1, r2]) rfl (ten_of (by rw [HVR.out.1, HVR.out.2, HVL.out]; try rfl) (by rw [HVL.out]; exact HF) (by rw [HVX.out]; exact hP) HBF.out)
      · as_aux_lemma =>
          have HVV : Hid (valV 5 ⟨rv, cv, (xv.map (cn .f32))⟩ ⟨rw', cw, (xw.map (cn .f32))⟩ (cn .f32 q) = ⟨rv, cv, scaE (xv.map (cn .f32)) (cn .f32 q) n1⟩) := Lib.hid (by simp [valV, ← HN1.out])
          have HVL : Hid ((valV 5 ⟨rv, cv, (xv.map (cn .f32))⟩ ⟨rw', cw, (xw.map (cn .f32))⟩ (cn .f32 q)).xs.length = n1) := Lib.hid (by rw [HVV.out]; exact listOf_length _ _)
          have HVX : Hid ((valV 5 ⟨rv, cv, (xv.map (cn .f32))⟩ ⟨rw', cw, (xw.map (cn .f32))⟩ (cn .f32 q)).xs = scaE (xv.map (cn .f32)) (cn .f32 q) n1) := Lib.hid (by rw [HVV.out])
          have HVR : Hid ((valV 5 ⟨rv, cv, (xv.map (cn .f32))⟩ ⟨rw', cw, (xw.map (cn .f32))⟩ (cn .f32 q)).r = rv ∧ (valV 5 ⟨rv, cv, (xv.map (cn .f32))⟩ ⟨rw', cw, (xw.map (cn .f32))⟩ (cn .f32 q)).c = cv) := Lib.hid (by rw [HVV.out]; exact ⟨rfl, rfl⟩)
          go_wp2_with fail
          refine (impl_scaleTensorT _ rv cv av kv xv (FV.out _ (Below.refl _ _)) n1 HN1.out.symm hn256 q).mono ?_
          rintro e w' ⟨va, vc, zs, rfl, RO, RM, hb⟩
          obtain ⟨rl, r0, r1, r2, rf⟩ := (RB2.out.below hb).three
          have hbw := bthen BC.out hb
          have hz := hb.size
          have hfin := setCs_repF (g := w.heap.size + 1) (lo' := w.heap.size) (i := 0) RO.out (by omega) (by omega) (Nat.le_refl _) [.int .i64 rv, .int .i64 cv, .slice va n1 vc]
          have hbf := setCs_below hbw (g := w.heap.size + 1) (by omega) 0 [.int .i64 rv, .int .i64 cv, .slice va n1 vc]
          have HF := Lib.hid hfin; have HBF := Lib.hid hbf
          clear hfin hbf hbw hb x0 x3 y0 y1 y2 z0 z1 z2 FV FW RB2 BC
          have hl9 := RO.out.len
          have hP : zs.map (cn .f32) = scaE (xv.map (cn .f32)) (cn .f32 q) n1 := RM.out
          go_wp2
          try simp only [Exit.inBlock, Exit.then]
          refine bodyPost_ret (v := .agg #[.int .i64 rv, .int .i64 cv, .slice va n1 vc]) (by simp [results, Try.results220, go_sem, r0, r1, r2]) rfl (ten_of (by rw [HVR.out.1, HVR.out.2, HVL.out]; try rfl) (by rw [HVL.out]; exact HF) (by rw [HVX.out]; exact hP) HBF.out)
      · as_aux_lemma =>
          have HVV : Hid (valV 6 ⟨rv, cv, (xv.map (cn .f32))⟩ ⟨rw', cw, (xw.map (cn .f32))⟩ (cn .f32 q) = ⟨rv, cw, matE (xv.map (cn .f32)) (xw.map (cn .f32)) cv cw (rv * cw)⟩) := Lib.hid (by simp [valV, ← HN1.out])
          have HVL : Hid ((valV 6 ⟨rv, cv, (xv.map (cn .f32))⟩ ⟨rw', cw, (xw.map (cn .f32))⟩ (cn .f32 q)).xs.length = (rv * cw)) := Lib.hid (by rw [HVV.out]; exact listOf_length _ _)
          have HVX : Hid ((valV 6 ⟨rv, cv, (xv.map (cn .f32))⟩ ⟨rw', cw, (xw.map (cn .f32))⟩ (cn .f32 q)).xs = matE (xv.map (cn .f32)) (xw.map (cn .f32)) cv cw (rv * cw)) := Lib.hid (by rw [HVV.out])
          have HVR : Hid ((valV 6 ⟨rv, cv, (xv.map (cn .f32))⟩ ⟨rw', cw, (xw.map (cn .f32))⟩ (cn .f32 q)).r = rv ∧ (valV 6 ⟨rv, cv, (xv.map (cn .f32))⟩ ⟨rw', cw, (xw.map (cn .f32))⟩ (cn .f32 q)).c = cw) := Lib.hid (by rw [HVV.out]; exact ⟨rfl, rfl⟩)
          have hsh : cv = rw' := by have := HSH.out; simp [shapeOf] at this; omega
          subst hsh
          go_wp2_with fail
          refine (impl_matMul _ rv cv cw av aw kv kw n1 n2 xv xw (FV.out _ (Below.refl _ _)) (FW.out _ (Below.refl _ _)) HN1.out.symm HN2.out.symm HRV.out.1 HRV.out.2 HCV.out.1 HCV.out.2 HCW.out.1 HCW.out.2 HLV.out HLW.out).mono ?_
          rintro e w' ⟨va, vc, zs, rfl, RO, RM, hb⟩
          obtain ⟨rl, r0, r1, r2, rf⟩ := (RB2.out.below hb).three
          have hbw := bthen BC.out hb
          have hz := hb.size
          have hfin := setCs_repF (g := w.heap.size + 1) (lo' := w.heap.size) (i := 0) RO.out (by omega) (by omega) (Nat.le_refl _) [.int .i64 rv, .int .i64 cw, .slice va (rv * cw) vc]
          have hbf := setCs_below hbw (g := w.heap.size + 1) (by omega) 0 [.int .i64 rv, .int .i64 cw, .slice va (rv * cw) vc]
          have HF := Lib.hid hfin; have HBF := Lib.hid hbf
          clear hfin hbf hbw hb x0 x3 y0 y1 y2 z0 z1 z2 FV FW RB2 BC
          have hl9 := RO.out.len
          have hP : zs.map (cn .f32) = matE (xv.map (cn .f32)) (xw.map (cn .f32)) cv cw (rv * cw) := RM.out
          go_wp2
          try simp only [Exit.inBlock, Exit.then]
          refine bodyPost_ret (v := .agg #[.int .i64 rv, .int .i64 cw, .slice va (rv * cw) vc]) (by simp [results, Try.results220, go_sem, r0, r1, r2]) rfl (ten_of (by rw [HVR.out.1, HVR.out.2, HVL.out]; try rfl) (by rw [HVL.out]; exact HF) (by rw [HVX.out]; exact hP) HBF.out)
      · as_aux_lemma =>
          have HVV : Hid (valV 7 ⟨rv, cv, (xv.map (cn .f32))⟩ ⟨rw', cw, (xw.map (cn .f32))⟩ (cn .f32 q) = ⟨cv, rv, turnE (xv.map (cn .f32)) rv cv n1⟩) := Lib.hid (by simp [valV, ← HN1.out])
          have HVL : Hid ((valV 7 ⟨rv, cv, (xv.map (cn .f32))⟩ ⟨rw', cw, (xw.map (cn .f32))⟩ (cn .f32 q)).xs.length = n1) := Lib.hid (by rw [HVV.out]; exact listOf_length _ _)
          have HVX : Hid ((valV 7 ⟨rv, cv, (xv.map (cn .f32))⟩ ⟨rw', cw, (xw.map (cn .f32))⟩ (cn .f32 q)).xs = turnE (xv.map (cn .f32)) rv cv n1) := Lib.hid (by rw [HVV.out])
          have HVR : Hid ((valV 7 ⟨rv, cv, (xv.map (cn .f32))⟩ ⟨rw', cw, (xw.map (cn .f32))⟩ (cn .f32 q)).r = cv ∧ (valV 7 ⟨rv, cv, (xv.map (cn .f32))⟩ ⟨rw', cw, (xw.map (cn .f32))⟩ (cn .f32 q)).c = rv) := Lib.hid (by rw [HVV.out]; exact ⟨rfl, rfl⟩)
          go_wp2_with fail
          refine (impl_transposed _ rv cv av kv n1 xv (FV.out _ (Below.refl _ _)) HN1.out.symm HRV.out.1 HRV.out.2 HCV.out.1 HCV.out.2 HLV.out).mono ?_
          rintro e w' ⟨va, vc, zs, rfl, RO, RM, hb⟩
          obtain ⟨rl, r0, r1, r2, rf⟩ := (RB2.out.below hb).three
          have hbw := bthen BC.out hb
          have hz := hb.size
          have hfin := setCs_repF (g := w.heap.size + 1) (lo' := w.heap.size) (i := 0) RO.out (by omega) (by omega) (Nat.le_refl _) [.int .i64 cv, .int .i64 rv, .slice va n1 vc]
          have hbf := setCs_below hbw (g := w.heap.size + 1) (by omega) 0 [.int .i64 cv, .int .i64 rv, .slice va n1 vc]
          have HF := Lib.hid hfin; have HBF := Lib.hid hbf
          clear hfin hbf hbw hb x0 x3 y0 y1 y2 z0 z1 z2 FV FW RB2 BC
          have hl9 := RO.out.len
          have hP : zs.map (cn .f32) = turnE (xv.map (cn .f32)) rv cv n1 := RM.out
          go_wp2
          try simp only [Exit.inBlock, Exit.then]
          refine bodyPost_ret (v := .agg #[.int .i64 cv, .int .i64 rv, .slice va n1 vc]) (by simp [results, Try.results220, go_sem, r0, r1, r2]) rfl (ten_of (by rw [HVR.out.1, HVR.out.2, HVL.out]; try rfl) (by rw [HVL.out]; exact HF) (by rw [HVX.out]; exact hP) HBF.out)
      · as_aux_lemma =>
          have HVV : Hid (valV 8 ⟨rv, cv, (xv.map (cn .f32))⟩ ⟨rw', cw, (xw.map (cn .f32))⟩ (cn .f32 q) = ⟨rv, cv, relE (xv.map (cn .f32)) n1⟩) := Lib.hid (by simp [valV, ← HN1.out])
          have HVL : Hid ((valV 8 ⟨rv, cv, (xv.map (cn .f32))⟩ ⟨rw', cw, (xw.map (cn .f32))⟩ (cn .f32 q)).xs.length = n1) := Lib.hid (by rw [HVV.out]; exact listOf_length _ _)
          have HVX : Hid ((valV 8 ⟨rv, cv, (xv.map (cn .f32))⟩ ⟨rw', cw, (xw.map (cn .f32))⟩ (cn .f32 q)).xs = relE (xv.map (cn .f32)) n1) := Lib.hid (by rw [HVV.out])
          have HVR : Hid ((valV 8 ⟨rv, cv, (xv.map (cn .f32))⟩ ⟨rw', cw, (xw.map (cn .f32))⟩ (cn .f32 q)).r = rv ∧ (valV 8 ⟨rv, cv, (xv.map (cn .f32))⟩ ⟨rw', cw, (xw.map (cn .f32))⟩ (cn .f32 q)).c = cv) := Lib.hid (by rw [HVV.out]; exact ⟨rfl, rfl⟩)
          go_wp2_with fail
          refine (impl_reluTensorT _ rv cv av kv xv (FV.out _ (Below.refl _ _)) n1 HN1.out.symm hn256).mono ?_
          rintro e w' ⟨va, vc, zs, rfl, RO, RM, hb⟩
          obtain ⟨rl, r0, r1, r2, rf⟩ := (RB2.out.below hb).three
          have hbw := bthen BC.out hb
          have hz := hb.size
          have hfin := setCs_repF (g := w.heap.size + 1) (lo' := w.heap.size) (i := 0) RO.out (by omega) (by omega) (Nat.le_refl _) [.int .i64 rv, .int .i64 cv, .slice va n1 vc]
          have hbf := setCs_below hbw (g := w.heap.size + 1) (by omega) 0 [.int .i64 rv, .int .i64 cv, .slice va n1 vc]
          have HF := Lib.hid hfin; have HBF := Lib.hid hbf
          clear hfin hbf hbw hb x0 x3 y0 y1 y2 z0 z1 z2 FV FW RB2 BC
          have hl9 := RO.out.len
          have hP : zs.map (cn .f32) = relE (xv.map (cn .f32)) n1 := RM.out
          go_wp2
          try simp only [Exit.inBlock, Exit.then]
          refine bodyPost_ret (v := .agg #[.int .i64 rv, .int .i64 cv, .slice va n1 vc]) (by simp [results, Try.results220, go_sem, r0, r1, r2]) rfl (ten_of (by rw [HVR.out.1, HVR.out.2, HVL.out]; try rfl) (by rw [HVL.out]; exact HF) (by rw [HVX.out]; exact hP) HBF.out)
      · as_aux_lemma =>
          have HVV : Hid (valV 9 ⟨rv, cv, (xv.map (cn .f32))⟩ ⟨rw', cw, (xw.map (cn .f32))⟩ (cn .f32 q) = ⟨rv, cv, tenE .mul (xv.map (cn .f32)) (xv.map (cn .f32)) n1⟩) := Lib.hid (by simp [valV, ← HN1.out])
          have HVL : Hid ((valV 9 ⟨rv, cv, (xv.map (cn .f32))⟩ ⟨rw', cw, (xw.map (cn .f32))⟩ (cn .f32 q)).xs.length = n1) := Lib.hid (by rw [HVV.out]; exact listOf_length _ _)
          have HVX : Hid ((valV 9 ⟨rv, cv, (xv.map (cn .f32))⟩ ⟨rw', cw, (xw.map (cn .f32))⟩ (cn .f32 q)).xs = tenE .mul (xv.map (cn .f32)) (xv.map (cn .f32)) n1) := Lib.hid (by rw [HVV.out])
          have HVR : Hid ((valV 9 ⟨rv, cv, (xv.map (cn .f32))⟩ ⟨rw', cw, (xw.map (cn .f32))⟩ (cn .f32 q)).r = rv ∧ (valV 9 ⟨rv, cv, (xv.map (cn .f32))⟩ ⟨rw', cw, (xw.map (cn .f32))⟩ (cn .f32 q)).c = cv) := Lib.hid (by rw [HVV.out]; exact ⟨rfl, rfl⟩)
          go_wp2_with fail
          refine (impl_mulTensors _ rv cv rv cv av av kv kv n1 xv xv (FV.out _ (Below.refl _ _)) (FV.out _ (Below.refl _ _)) HN1.out.symm HN1.out.symm hn256).mono ?_
          rintro e w' ⟨va, vc, zs, rfl, RO, RM, hb⟩
          obtain ⟨rl, r0, r1, r2, rf⟩ := (RB2.out.below hb).three
          have hbw := bthen BC.out hb
          have hz := hb.size
          have hfin := setCs_repF (g := w.heap.size + 1) (lo' := w.heap.size) (i := 0) RO.out (by omega) (by omega) (Nat.le_refl _) [.int .i64 rv, .int .i64 cv, .slice va n1 vc]
          have hbf := setCs_below hbw (g := w.heap.size + 1) (by omega) 0 [.int .i64 rv, .int .i64 cv, .slice va n1 vc]
          have HF := Lib.hid hfin; have HBF := Lib.hid hbf
          clear hfin hbf hbw hb x0 x3 y0 y1 y2 z0 z1 z2 FV FW RB2 BC
          have hl9 := RO.out.len
          have hP : zs.map (cn .f32) = tenE .mul (xv.map (cn .f32)) (xv.map (cn .f32)) n1 := RM.out
          go_wp2
          try simp only [Exit.inBlock, Exit.then]
          refine bodyPost_ret (v := .agg #[.int .i64 rv, .int .i64 cv, .slice va n1 vc]) (by simp [results, Try.results220, go_sem, r0, r1, r2]) rfl (ten_of (by rw [HVR.out.1, HVR.out.2, HVL.out]; try rfl) (by rw [HVL.out]; exact HF) (by rw [HVX.out]; exact hP) HBF.out)
      · as_aux_lemma =>
          have HVV : Hid (valV 10 ⟨rv, cv, (xv.map (cn .f32))⟩ ⟨rw', cw, (xw.map (cn .f32))⟩ (cn .f32 q) = ⟨1, 1, filE (sumS (xv.map (cn .f32)) n1) 1⟩) := Lib.hid (by simp [valV, ← HN1.out])
          have HVL : Hid ((valV 10 ⟨rv, cv, (xv.map (cn .f32))⟩ ⟨rw', cw, (xw.map (cn .f32))⟩ (cn .f32 q)).xs.length = 1) := Lib.hid (by rw [HVV.out]; exact listOf_length _ _)
          have HVX : Hid ((valV 10 ⟨rv, cv, (xv.map (cn .f32))⟩ ⟨rw', cw, (xw.map (cn .f32))⟩ (cn .f32 q)).xs = filE (sumS (xv.map (cn .f32)) n1) 1) := Lib.hid (by rw [HVV.out])
          have HVR : Hid ((valV 10 ⟨rv, cv, (xv.map (cn .f32))⟩ ⟨rw', cw, (xw.map (cn .f32))⟩ (cn .f32 q)).r = 1 ∧ (valV 10 ⟨rv, cv, (xv.map (cn .f32))⟩ ⟨rw', cw, (xw.map (cn .f32))⟩ (cn .f32 q)).c = 1) := Lib.hid (by rw [HVV.out]; exact ⟨rfl, rfl⟩)
          have KSU := Lib.hid (impl_sumOf wc av kv xv (FV.out _ (Below.refl _ _)))
          rw [← HN1.out] at KSU
          go_wp2_with fail
          refine KSU.out.mono ?_
          rintro e w2 ⟨su, rfl, HSU, hd⟩
          have HDB := Lib.hid hd.below
          have HZ2 : wc.heap.size ≤ w2.heap.size := hd.below.size
          clear hd
          go_wp2_with fail
          refine (impl_filled _ 1 1 su HSU.out.2 (by decide) (by decide) (by decide) (by decide)).mono ?_
          rintro e w' ⟨va, vc, zs, rfl, RO, RM, hb⟩
          have RB2 := Lib.hid (RB2.out.below HDB.out)
          have BC := Lib.hid (bthen BC.out HDB.out)
          have RM : Hid (zs.map (cn .f32) = filE (sumS (xv.map (cn .f32)) n1) 1) := Lib.hid (by rw [RM.out, HSU.out.1])
          obtain ⟨rl, r0, r1, r2, rf⟩ := (RB2.out.below hb).three
          have hbw := bthen BC.out hb
          have hz := hb.size
          have hfin := setCs_repF (g := w.heap.size + 1) (lo' := w.heap.size) (i := 0) RO.out (by omega) (by omega) (Nat.le_refl _) [.int .i64 1, .int .i64 1, .slice va 1 vc]
          have hbf := setCs_below hbw (g := w.heap.size + 1) (by omega) 0 [.int .i64 1, .int .i64 1, .slice va 1 vc]
          have HF := Lib.hid hfin; have HBF := Lib.hid hbf
          clear hfin hbf hbw hb x0 x3 y0 y1 y2 z0 z1 z2 FV FW RB2 BC
          have hl9 := RO.out.len
          have hP : zs.map (cn .f32) = filE (sumS (xv.map (cn .f32)) n1) 1 := RM.out
          go_wp2
          try simp only [Exit.inBlock, Exit.then]
          refine bodyPost_ret (v := .agg #[.int .i64 1, .int .i64 1, .slice va 1 vc]) (by simp [results, Try.results220, go_sem, r0, r1, r2]) rfl (ten_of (by rw [HVR.out.1, HVR.out.2, HVL.out]; try rfl) (by rw [HVL.out]; exact HF) (by rw [HVX.out]; exact hP) HBF.out)
end Go.Proofs.Ytpemhiaeiecinaa
