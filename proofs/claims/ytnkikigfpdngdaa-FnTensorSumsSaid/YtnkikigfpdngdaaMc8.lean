/- Joined texts 8: Tm3 Ali Tx0 Qa Qc Qd Qe. Each is told at its own head. No condition. -/
import Derived.Shelf.Bits.Mul64
import Derived.Laws.CopyOwn
import Derived.Deep.RegionHeld3
import Derived.Deep.CutRange
import Derived.Deep.DeepCutAuto
import Derived.Test.YtnkikigfpdngdaaMc2
import Derived.Test.YtnkikigfpdngdaaMc5
import Derived.Test.YtnkikigfpdngdaaMc6
import Derived.Test.YtnkikigfpdngdaaMc7
/- Equal numbers, a row as a tensor: the program. No condition. -/
namespace Go.Proofs.Ytnkikigfpdngdaa
open Go Go.RowKit
set_option linter.unusedVariables false
set_option linter.unusedSimpArgs false
set_option maxHeartbeats 4000000 in
theorem bits_Mul64 (p : Nat) (hp : p ≤ 256) (w : World) : Calls Try.prog 251 #[.int .u64 1, .int .u64 (p : Int)] w fun e w' => e = .returned (.tuple #[.int .u64 0, .int .u64 (p : Int)]) ∧ w = w' := by
  have m1 : bits .and .u64 1 4294967295 = 1 := by decide +kernel
  have m0 : bits .and .u64 0 4294967295 = 0 := by decide +kernel
  have mp : bits .and .u64 (p : Int) 4294967295 = p := by
    have h := Mul64.maskN p (by omega)
    rw [h]; omega
  have wp : IntKind.u64.wrap (p : Int) = p := Mul64.wrapN p (by omega)
  have w0 : IntKind.u64.wrap 0 = 0 := by decide +kernel
  have dp : (p : Int) / 4294967296 = 0 := by omega
  go_enter Try.func251, Try.ntmps251
  go_wp2
  go_ret2
  exact ⟨by congr 3, rfl⟩
theorem bits_Mul (p : Nat) (hp : p ≤ 256) (w : World) : Calls Try.prog 240 #[.int .u64 1, .int .u64 (p : Int)] w fun e w' => e = .returned (.tuple #[.int .u64 0, .int .u64 (p : Int)]) ∧ w = w' := by
  go_enter Try.func240, Try.ntmps240
  go_wp2_with fail
  refine (bits_Mul64 p hp _).mono ?_
  rintro e w1 ⟨rfl, rfl⟩
  go_wp2
  go_ret2
  exact ⟨rfl, rfl⟩
theorem specRes_copy {P : Program} {ops : Array Oper} {D : FuncId → Array Value → World → Value → World → Prop} {o : Oper} {a : Act} {w : World} {K : Value → World → Prop} {E : Prop} (hgd : o.guard = none) (d s : Operand) (dT sT : TypeId)
    (ho : o.op = .call { callee := .builtin .copy, args := #[d, s], argTypes := #[dT, sT] }) (elem : TypeId) (hu : P.underlying dT = some (.slice elem)) (hsz : (P.info? elem).map (·.size) = some 1)
    (g off dLen dCap : Nat) (ad : Addr) (sLen sCap : Nat) (hd : a.eval d = .slice (some ⟨g, off, none⟩) dLen dCap) (hs : a.eval s = .slice (some ad) sLen sCap)
    (cur : List Value) (t : TypeId) (hg : w.heap[g]? = some (.cells cur.toArray t (0, 0))) (cs : List Value) (hn : cs.length = Nat.min sLen dLen)
    (hsrc : ∀ j v, cs[j]? = some v → w.cell? (ad.add j) = some v) (hfit : off + cs.length ≤ cur.length) (h1 : ∀ v ∈ cs, v.oneCell' = true) (B : Nat) (w0 : World) (hb : Below B w0 w) (hBg : B ≤ g)
    (h : ∀ w', w'.heap[g]? = some (.cells (splice cur off cs).toArray t (0, 0)) → Below B w0 w' → K (goInt cs.length) w') :
    if Region.wanted o (yielded ops a.tmps) = true then SpecRes P D K ((execOp a.eval o).run P w) else E := by
  have hw : Region.wanted o (yielded ops a.tmps) = true := by simp [Region.wanted, hgd]
  rw [if_pos hw]
  have hrun := run_copy_row (P := P) w dT sT o.type elem g off dLen dCap ad sLen sCap cur.toArray t cs hu hsz hg hn hsrc (by simpa using hfit) h1
  unfold execOp
  simp only [ho, resolve, invoke, builtin, Sem.run_bind, Sem.run_pure, Result.andThen_ok, List.map_toArray, List.map_cons, List.map_nil, hd, hs, hrun]
  exact h _ (show _ = _ by simpa [splice] using setRow_heap w g _ _ t _ hg) (below_setRow hb hBg _)
/-- the first n of p numbers are one -/
def RepY (w : World) (g p n y : Nat) : Prop := ∃ cur : List Value, w.heap[g]? = some (.cells cur.toArray 33 (0, 0)) ∧ cur.length = p ∧ ∀ j, j < n → cur[j]? = some (.float .f32 y)
theorem RepY.below {w w' : World} {g p n y : Nat} (h : RepY w g p n y) (hb : Below w.heap.size w w') : RepY w' g p n y := by
  obtain ⟨cur, h1, h2, h3⟩ := h
  have hl : g < w.heap.size := by
    rcases Nat.lt_or_ge g w.heap.size with h | h
    · exact h
    · rw [Array.getElem?_eq_none h] at h1; cases h1
  exact ⟨cur, by rw [hb.block g hl]; exact h1, h2, h3⟩
theorem splice_get {L cs : List Value} {off : Nat} {v : Value} (h1 : ∀ j, j < off → L[j]? = some v) (h2 : ∀ u ∈ cs, u = v) (hf : off + cs.length ≤ L.length) : ∀ j, j < off + cs.length → (splice L off cs)[j]? = some v := by
  intro j hj
  unfold splice
  by_cases h : j < off
  · rw [List.getElem?_append_left (by rw [List.length_take]; omega), List.getElem?_take, if_pos h]
    exact h1 j h
  · rw [List.getElem?_append_right (by rw [List.length_take]; omega), List.length_take, List.getElem?_append_left (by omega)]
    have h3 : j - min off L.length < cs.length := by omega
    rw [List.getElem?_eq_getElem h3, h2 _ (List.getElem_mem h3)]
theorem RepY.fin {w w' : World} {g p y : Nat} (h : RepY w' g p p y) (hg : w.heap.size ≤ g) (hp : p ≤ 256) (hy : y < 4294967296) : RepF w' w.heap.size w'.heap.size (some ⟨g, 0, none⟩) p p (List.replicate p y) := by
  obtain ⟨cur, h1, h2, h3⟩ := h
  have hc : cur = (List.replicate p y).map (Value.float .f32) := by
    refine List.ext_getElem? fun j => ?_
    by_cases hj : j < p
    · rw [h3 j hj]; simp [hj]
    · rw [List.getElem?_eq_none (by omega)]; simp [hj]
  have ho : w'.ownsRow w.heap.size 33 1 (.slice (some ⟨g, 0, none⟩) p p) p ((List.replicate p y).map (Value.float .f32)) :=
    ⟨by simp, .inr ⟨g, p, cur.toArray, rfl, hg, h1, Nat.le_refl _, by unfold maxLen; omega, by simp [h2], by rw [hc]; simp⟩⟩
  obtain ⟨a, c, e, hr⟩ := RepF.of_owns (xs := List.replicate p y) ho (fun x hx => by rw [List.eq_of_mem_replicate hx]; exact hy)
  cases e
  exact hr
set_option maxHeartbeats 8000000 in
set_option maxRecDepth 100000 in
theorem slices_Repeat (w : World) (b o : Nat) (y : Nat) (cap : Nat) (p : Nat) (hp1 : 1 ≤ p) (hp : p ≤ 256) (hy : w.cell? ⟨b, o, none⟩ = some (.float .f32 y)) (hyl : y < 4294967296) :
    Calls Try.prog 180 #[.slice (some ⟨b, o, none⟩) 1 cap, .int .i64 (p : Int)] w fun e w' => ∃ ad' cap', e = .returned (.slice ad' p cap') ∧ Hid (RepF w' w.heap.size w'.heap.size ad' p cap' (List.replicate p y)) ∧ Below w.heap.size w w' := by
  obtain ⟨i0, hi0, hz0, hzs, hz2⟩ := info_parts info_f32
  have hsz1 : (Try.prog.info? 33).map (·.size) = some 1 := by rw [hi0]; simp [hzs]
  have HZ1 := Lib.hid hsz1
  clear hsz1
  have wp : IntKind.u64.wrap (p : Int) = p := Mul64.wrapN p (by omega)
  have wq : IntKind.i64.wrap (p : Int) = p := wrap_nat (by omega)
  have c1 : decide ((9223372036854775807 : Int) < (p : Int)) = false := decide_eq_false (by omega)
  have hbl := World.block_lt_of_cell? w _ hy
  simp only at hbl
  have HYC := Lib.hid hy
  clear hy
  go_enter Try.func180, Try.ntmps180
  go_wp2_with fail
  refine (bits_Mul p hp _).mono ?_
  rintro e w1 ⟨rfl, rfl⟩
  go_wp2_with (at_make; refine wpList_make_full _ rfl _ _ 25 rfl w.heap.size 33 i0 (.float .f32 0) 1 Try.underlying25 hi0 hz0 hzs .i64 .i64 _ _ p rfl rfl rfl rfl ?c1 ?c2 ?c3 ?_)
  case c1 => rw [hz2]; omega
  case c2 => unfold maxLen; omega
  case c3 => exact Nat.le_refl _
  intro w1 hown hg
  have hb1 : Below w.heap.size w w1 := (Below.refl _ _).grown hg (Nat.le_refl _) (fun k e => by cases e)
  obtain ⟨cur, hcur, hcl⟩ : ∃ cur : List Value, w1.heap[w.heap.size]? = some (.cells cur.toArray 33 (0, 0)) ∧ cur.length = p := by
    rcases hown.2 with ⟨h, _⟩ | ⟨g', cap', cur, hv, _, hh, _, _, hs, _⟩
    · cases h
    · cases hv
      exact ⟨cur.toList, by simpa using hh, by simpa using hs⟩
  have hyc : w1.cell? ⟨b, o, none⟩ = some (.float .f32 y) := (hb1.cell (p := ⟨b, o, none⟩) hbl).trans HYC.out
  obtain ⟨cs, hcs⟩ : ∃ cs, cs = [Value.float .f32 y] := ⟨_, rfl⟩
  have hcs1 : cs.length = 1 := by rw [hcs]; rfl
  have hmin : cs.length = Nat.min 1 p := by rw [hcs1]; show 1 = min 1 p; omega
  have hsrc : ∀ j v, cs[j]? = some v → w1.cell? ((⟨b, o, none⟩ : Addr).add j) = some v := by
    intro j v hj
    rw [hcs] at hj
    cases j with
    | zero => simp at hj; subst hj; rw [Addr.add_lit]; exact hyc
    | succ j => simp at hj
  have hone : ∀ v ∈ cs, v.oneCell' = true := by intro v hv; rw [hcs] at hv; simp at hv; subst hv; rfl
  have HCUR := Lib.hid (And.intro hcur (And.intro hcl (And.intro hcs (And.intro hmin (And.intro hsrc (And.intro hone hcs1))))))
  have HB1 := Lib.hid hb1
  clear hb1 hcur hcl hyc hcs hcs1 hmin hsrc hone hown hg
  go_wp2_with (with_reducible refine wpList_copy_splice rfl _ _ 25 25 rfl 33 rfl HZ1.out (some ⟨w.heap.size, 0, none⟩) (some ⟨b, o, none⟩) p p 1 cap rfl rfl w.heap.size 0 cur 33 HCUR.out.1 cs HCUR.out.2.2.2.1 (fun _ => ⟨rfl, _, rfl, HCUR.out.2.2.2.2.1⟩) (by rw [HCUR.out.2.2.2.2.2.2, HCUR.out.2.1]; omega) HCUR.out.2.2.2.2.2.1 w.heap.size w HB1.out (Nat.le_refl _) ?_)
  intro w2 hg2 hb2
  have HY2 : Hid (RepY w2 w.heap.size p 1 y) := Lib.hid ⟨_, hg2.out, by rw [length_splice _ _ _ (by rw [HCUR.out.2.2.2.2.2.2, HCUR.out.2.1]; omega)]; exact HCUR.out.2.1, fun j hj => by
    have h := splice_get (L := cur) (cs := cs) (off := 0) (v := .float .f32 y) (fun j hj => by omega) (fun u hu => by rw [HCUR.out.2.2.1] at hu; simpa using hu) (by rw [HCUR.out.2.2.2.2.2.2, HCUR.out.2.1]; omega)
    exact h j (by rw [HCUR.out.2.2.2.2.2.2]; omega)⟩
  have HB2 := Lib.hid hb2
  have hcs1 := HCUR.out.2.2.2.2.2.2
  clear hg2 hb2 HB1 HCUR
  go_wp2
  go_loopw [8] (fun i wt => ∃ k : Nat, i = .int .i64 k ∧ 1 ≤ k ∧ k ≤ p ∧ Hid (RepY wt w.heap.size p k y) ∧ Hid (Below w.heap.size w wt)) (fun i _ => p - (intOf i).toNat)
  case atStart => exact ⟨cs.length, rfl, by omega, by omega, by rw [hcs1]; exact HY2, HB2⟩
  case round =>
    clear HY2 HB2 hcs1
    obtain ⟨k, rfl, hk1, hk, HY, HB⟩ := hrel
    by_cases hlt : k < p
    · obtain ⟨cur, hcur, hcl, hca⟩ := HY.out
      obtain ⟨m, hm⟩ : ∃ m, m = Nat.min k (p - k) := ⟨_, rfl⟩
      have hm2 : 1 ≤ m ∧ m ≤ k ∧ k + m ≤ p := by
        have e : m = min k (p - k) := hm
        omega
      have hnp : ¬ (p = k) := by omega
      have HC := Lib.hid (And.intro hcur (And.intro hcl hca))
      have HM := Lib.hid hm; have HM2 := Lib.hid hm2
      have tm : IntKind.i64.wrap ((k : Int) + (m : Int)) = ((k + m : Nat) : Int) := by
        rw [← Int.natCast_add]; exact wrap_nat (by omega)
      clear hcur hcl hca hm
      go_upto_region 9 with fail
      refine wp_region_mix0 [7] (fun W => True) (fun _ _ _ => False) (fun _ _ _ _ _ => False) (by kernel_rfl) (by kernel_rfl) trivial (fun W q h => trivial) ?_
      iterate 7 (refine mwalk_plain (by rfl) trivial (fun K hK W hW => ?_); go_simp; refine hK _ ?_; clear hK K)
      refine mwalk_spec (by rfl) trivial (fun K hK q => ?_)
      refine specRes_copy rfl _ _ 25 25 rfl 33 rfl HZ1.out w.heap.size k (p - k) (p - k) ⟨w.heap.size, 0, none⟩ k p rfl rfl cur 33 HC.out.1 (List.replicate m (.float .f32 y)) (by rw [List.length_replicate]; exact HM.out) ?c4 (by rw [List.length_replicate, HC.out.2.1]; exact HM2.out.2.2) (by intro v hv; rw [List.eq_of_mem_replicate hv]; rfl) w.heap.size w (below_drewN HB.out q) (Nat.le_refl _) ?_
      case c4 =>
        intro j v hj
        have hjm : j < m := by
          rcases Nat.lt_or_ge j m with h | h
          · exact h
          · rw [List.getElem?_eq_none (by simpa using h)] at hj; cases hj
        rw [List.getElem?_replicate, if_pos hjm] at hj
        cases hj
        rw [Addr.add_lit, Nat.zero_add]
        have h1 := cell_of_row wr w.heap.size j cur.toArray 33 (0, 0) HC.out.1
        have h2 : (wr.drewN q).cell? ⟨w.heap.size, j, none⟩ = wr.cell? ⟨w.heap.size, j, none⟩ := by simp
        rw [h2, h1]
        simpa using HC.out.2.2 j (by omega)
      intro w2 hg2 hb2
      have HY3 : Hid (RepY w2 w.heap.size p (k + m) y) := Lib.hid ⟨_, hg2, by rw [length_splice _ _ _ (by rw [List.length_replicate, HC.out.2.1]; exact HM2.out.2.2)]; exact HC.out.2.1, fun j hj => by
        have h := splice_get (L := cur) (cs := List.replicate m (.float .f32 y)) (off := k) (v := .float .f32 y) HC.out.2.2 (fun u hu => List.eq_of_mem_replicate hu) (by rw [List.length_replicate, HC.out.2.1]; exact HM2.out.2.2)
        exact h j (by rw [List.length_replicate]; exact hj)⟩
      have HB3 := Lib.hid hb2
      have hlr : ((List.replicate m (Value.float .f32 y)).length : Int) = (m : Int) := by rw [List.length_replicate]
      refine ⟨trivial, hK _ _ ?_⟩
      clear hK K hg2 hb2 HC HY HB
      iterate 2 (refine mwalk_plain (by rfl) trivial (fun K hK W hW => ?_); go_simp; refine hK _ ?_; clear hK K)
      refine mwalk_nil (fun q3 => ?_)
      have HY4 := Lib.hid (HY3.out.below (below_drewN (Below.refl _ _) q3)); have HB4 := Lib.hid (below_drewN HB3.out q3)
      clear HY3 HB3 tm
      go_wp2
      go_roundw
      case rel => exact ⟨k + m, by go_num, by omega, HM2.out.2.2, HY4, HB4⟩
      case measure => simp [intOf]; omega
    · have hkn : k = p := by omega
      subst hkn
      have HF := Lib.hid (HY.out.fin (w := w) (Nat.le_refl _) hp hyl)
      clear HY
      go_wp2
      go_ret
      exact ⟨_, _, rfl, HF, HB.out⟩
theorem filE_map (y n : Nat) : (List.replicate n y).map (cn .f32) = filE (cn .f32 y) n := by
  refine List.ext_getElem (by simp [filE, listOf_length]) fun j h1 h2 => ?_
  simp [filE, listOf]
set_option maxHeartbeats 2000000 in
theorem impl_filled (w : World) (r c : Nat) (y : Nat) (hy : y < 4294967296) (hr1 : 1 ≤ r) (hr : r ≤ 16) (hc1 : 1 ≤ c) (hc : c ≤ 16) :
    Calls Try.prog 110 #[.int .i64 r, .int .i64 c, .float .f32 y] w (TenPost r c (r * c) (filE (cn .f32 y) (r * c)) w) := by
  have hp : r * c ≤ 256 := Nat.mul_le_mul hr hc
  have hp1 : 1 ≤ r * c := Nat.mul_le_mul hr1 hc1
  obtain ⟨p, hpp⟩ : ∃ p, p = r * c := ⟨_, rfl⟩
  have e1 : ((r : Int) * (c : Int)) = (p : Int) := by rw [hpp]; rfl
  have wq : IntKind.i64.wrap (p : Int) = p := wrap_nat (by omega)
  rw [← hpp] at hp hp1 ⊢
  clear hpp
  have RB0 := Lib.hid ((BoxN.alloc w #[.int .i64 0, .int .i64 0, .slice none 0 0] 27).below (below1 _ (.cells #[.float .f32 y] 33)))
  have b2 := below2 w (.cells #[.int .i64 0, .int .i64 0, .slice none 0 0] 27) (.cells #[.float .f32 y] 33)
  have hcell : ((w.alloc (.cells #[.int .i64 0, .int .i64 0, .slice none 0 0] 27)).alloc (.cells #[.float .f32 y] 33)).cell? ⟨w.heap.size + 1, 0, none⟩ = some (.float .f32 y) := by
    simp
  have K := Lib.hid (slices_Repeat _ (w.heap.size + 1) 0 y 1 p hp1 hp hcell hy)
  have B := Lib.hid b2
  clear b2 hcell
  go_enter Try.func110, Try.ntmps110
  go_wp2_with fail
  refine K.out.mono ?_
  rintro e w' ⟨va, vc, rfl, RO, hb⟩
  obtain ⟨rl, r0, r1, r2, rf⟩ := (RB0.out.below hb).three
  have hbw := bthen B.out hb
  have hz := hb.size
  simp at hz
  have hfin := setCs_repF (g := w.heap.size) (lo' := w.heap.size) (i := 0) RO.out (by simp; omega) (by simp; omega) (Nat.le_refl _) [.int .i64 r, .int .i64 c, .slice va p vc]
  have hbf := setCs_below hbw (g := w.heap.size) (Nat.le_refl _) 0 [.int .i64 r, .int .i64 c, .slice va p vc]
  have HF := Lib.hid hfin; have HBF := Lib.hid hbf
  clear hfin hbf hbw hb
  go_wp2
  try simp only [Exit.inBlock, Exit.then]
  refine bodyPost_ret (v := .agg #[.int .i64 r, .int .i64 c, .slice va p vc]) (by simp [results, Try.results110, go_sem, r0, r1, r2]) rfl (ten_of rfl HF (filE_map _ _) HBF.out)
theorem impl_rowTensor (w : World) (ad : Option Addr) (cap n : Nat) (xs : List Nat) (h : F32s w ad cap xs) (hc : ad = none → cap = 0) (hxl : xs.length = n) (hn : n ≤ 1048576) :
    Calls Try.prog 222 #[.slice ad n cap] w (TenPost 1 n n (xs.map (cn .f32)) w) := by
  subst hxl
  have b1 := below1 w (.cells #[.int .i64 0, .int .i64 0, .slice none 0 0] 27)
  have K := Lib.hid (slices_CloneF _ ad cap xs (h.below b1) hc hn)
  have RB0 := Lib.hid (BoxN.alloc w #[.int .i64 0, .int .i64 0, .slice none 0 0] 27)
  have B := Lib.hid b1
  obtain ⟨n, hN⟩ : ∃ n, n = xs.length := ⟨_, rfl⟩
  rw [← hN] at K ⊢
  clear b1 h hN hn hc
  go_enter Try.func222, Try.ntmps222
  go_wp2_with fail
  refine K.out.mono ?_
  rintro e w' ⟨va, vc, rfl, RO, hb⟩
  obtain ⟨rl, r0, r1, r2, rf⟩ := (RB0.out.below hb).three
  have hbw := bthen B.out hb
  have hz := hb.size
  simp at hz
  have hfin := setCs_repF (g := w.heap.size) (lo' := w.heap.size) (i := 0) RO.out (by simp) (by simp) (Nat.le_refl _) [.int .i64 1, .int .i64 n, .slice va n vc]
  have hbf := setCs_below hbw (g := w.heap.size) (Nat.le_refl _) 0 [.int .i64 1, .int .i64 n, .slice va n vc]
  have HF := Lib.hid hfin; have HBF := Lib.hid hbf
  clear hfin hbf hbw hb
  go_wp2
  try simp only [Exit.inBlock, Exit.then]
  refine bodyPost_ret (v := .agg #[.int .i64 1, .int .i64 n, .slice va n vc]) (by simp [results, Try.results222, go_sem, r0, r1, r2]) rfl (ten_of rfl HF rfl HBF.out)
theorem impl_copyTensorT (w : World) (r c : Int) (ad : Option Addr) (cap : Nat) (xs : List Nat) (h : F32s w ad cap xs) (hc : ad = none → cap = 0) (n : Nat) (hl : xs.length = n) (hn : n ≤ 1048576) :
    Calls Try.prog 221 #[.agg #[.int .i64 r, .int .i64 c, .slice ad n cap]] w (TenPost r c n (xs.map (cn .f32)) w) := by
  subst hl
  refine (impl_copyTensor w r c ad cap xs h hc hn).mono ?_
  rintro e w' ⟨a, c', he, hr, hb⟩
  exact ten_of he hr rfl hb
end Go.Proofs.Ytnkikigfpdngdaa
/- Whether two tensors are alike: the program. No condition. -/
namespace Go.Proofs.Ytnkikigfpdngdaa
open Go Go.RowKit
set_option linter.unusedVariables false
set_option linter.unusedSimpArgs false
/-- two tensors are valid and have as many rows and columns -/
def alikeB (r c : Int) (n : Nat) (r2 c2 : Int) (m : Nat) : Bool := tenB r c n && (tenB r2 c2 m && (decide (r = r2) && decide (c = c2)))
set_option maxHeartbeats 2000000 in
theorem impl_areAlike (w : World) (r c : Int) (a : Option Addr) (n ca : Nat) (r2 c2 : Int) (b : Option Addr) (m cb : Nat) (hn : n ≤ maxLen) (hm : m ≤ maxLen) :
    Calls Try.prog 113 #[.agg #[.int .i64 r, .int .i64 c, .slice a n ca], .agg #[.int .i64 r2, .int .i64 c2, .slice b m cb]] w fun e w' => e = .returned (.bool (alikeB r c n r2 c2 m)) ∧ Below w.heap.size w w' := by
  have K1 := Lib.hid (fun W => impl_ValidTensor r c a n ca hn W)
  have K2 := Lib.hid (fun W => impl_ValidTensor r2 c2 b m cb hm W)
  have K3 := Lib.hid (fun W => impl_sameShape r c r2 c2 (.slice a n ca) (.slice b m cb) W rfl rfl)
  have hE : alikeB r c n r2 c2 m = (tenB r c n && (tenB r2 c2 m && (decide (r = r2) && decide (c = c2)))) := rfl
  obtain ⟨E, hE0⟩ : ∃ E, E = alikeB r c n r2 c2 m := ⟨_, rfl⟩
  rw [← hE0] at hE ⊢
  have B1 := Lib.hid ((BoxN.alloc w #[.int .i64 r, .int .i64 c, .slice a n ca] 27).below (below1 _ (.cells #[.int .i64 r2, .int .i64 c2, .slice b m cb] 27)))
  have B2 := Lib.hid (BoxN.alloc2 w (.cells #[.int .i64 r, .int .i64 c, .slice a n ca] 27) #[.int .i64 r2, .int .i64 c2, .slice b m cb] 27)
  have B := Lib.hid (below2 w (.cells #[.int .i64 r, .int .i64 c, .slice a n ca] 27) (.cells #[.int .i64 r2, .int .i64 c2, .slice b m cb] 27))
  have HE := Lib.hid hE
  clear hE hE0 hn hm
  cases e1 : tenB r c n
  · rw [e1] at K1
    have E1 := Lib.hid e1; clear e1
    go_enter Try.func113, Try.ntmps113
    go_wp2_with fail
    refine (K1.out _).mono ?_
    rintro e w1 ⟨rfl, hb⟩
    have B := Lib.hid (bthen B.out hb); clear hb
    go_wp2
    go_ret
    exact ⟨by rw [HE.out, E1.out]; rfl, B.out⟩
  rw [e1] at K1
  have E1 := Lib.hid e1; clear e1
  cases e2 : tenB r2 c2 m
  · rw [e2] at K2
    have E2 := Lib.hid e2; clear e2
    go_enter Try.func113, Try.ntmps113
    go_wp2_with fail
    refine (K1.out _).mono ?_
    rintro e w1 ⟨rfl, hb⟩
    have B := Lib.hid (bthen B.out hb); have B1 := Lib.hid (B1.out.below hb); have B2 := Lib.hid (B2.out.below hb); clear hb
    obtain ⟨-, p0, p1, p2, -⟩ := B1.out.three; obtain ⟨-, q0, q1, q2, -⟩ := B2.out.three
    go_wp2_with fail
    refine (K2.out _).mono ?_
    rintro e w2 ⟨rfl, hb⟩
    have B := Lib.hid (bthen B.out hb); clear hb p0 p1 p2 q0 q1 q2
    go_wp2
    go_ret
    exact ⟨by rw [HE.out, E1.out, E2.out]; rfl, B.out⟩
  rw [e2] at K2
  have E2 := Lib.hid e2; clear e2
  obtain ⟨D, hD⟩ : ∃ D, D = (decide (r = r2) && decide (c = c2)) := ⟨_, rfl⟩
  rw [← hD] at K3
  have HD := Lib.hid hD; clear hD
  go_enter Try.func113, Try.ntmps113
  go_wp2_with fail
  refine (K1.out _).mono ?_
  rintro e w1 ⟨rfl, hb⟩
  have B := Lib.hid (bthen B.out hb); have B1 := Lib.hid (B1.out.below hb); have B2 := Lib.hid (B2.out.below hb); clear hb
  obtain ⟨-, p0, p1, p2, -⟩ := B1.out.three; obtain ⟨-, q0, q1, q2, -⟩ := B2.out.three
  go_wp2_with fail
  refine (K2.out _).mono ?_
  rintro e w2 ⟨rfl, hb⟩
  have B := Lib.hid (bthen B.out hb); have B1 := Lib.hid (B1.out.below hb); have B2 := Lib.hid (B2.out.below hb); clear hb p0 p1 p2 q0 q1 q2
  obtain ⟨-, p0, p1, p2, -⟩ := B1.out.three; obtain ⟨-, q0, q1, q2, -⟩ := B2.out.three
  go_wp2_with fail
  refine (K3.out _).mono ?_
  rintro e w3 ⟨rfl, hb⟩
  have B := Lib.hid (bthen B.out hb); clear hb p0 p1 p2 q0 q1 q2
  go_wp2
  go_ret
  exact ⟨by rw [HE.out, E1.out, E2.out, ← HD.out]; rfl, B.out⟩
end Go.Proofs.Ytnkikigfpdngdaa
/- The functions of tensors, for valid ones: the program. No condition. -/
namespace Go.Proofs.Ytnkikigfpdngdaa
open Go Go.RowKit
set_option linter.unusedVariables false
set_option linter.unusedSimpArgs false
/-- a tensor that is given, and true -/
def TenOk (r c : Int) (n : Nat) (P : List Nat) (w : World) (e : Ending) (w' : World) : Prop := ∃ ad cap zs, e = .returned (.tuple #[.agg #[.int .i64 r, .int .i64 c, .slice ad n cap], .bool true]) ∧ Hid (RepF w' w.heap.size w'.heap.size ad n cap zs) ∧ Hid (zs.map (cn .f32) = P) ∧ Below w.heap.size w w'
theorem tenB_nat {r c n : Nat} (hr1 : 1 ≤ r) (hr : r ≤ 16) (hc1 : 1 ≤ c) (hc : c ≤ 16) (hn : n = r * c) : tenB r c n = true := by
  rw [tenB_iff, hn]
  exact ⟨by omega, by omega, by rw [Int.natCast_mul]⟩
theorem alikeB_nat {r c n : Nat} (h : tenB r c n = true) : alikeB r c n r c n = true := by
  unfold alikeB; rw [h, decide_eq_true rfl, decide_eq_true rfl]; rfl
theorem impl_isRowOf (w : World) (r c : Nat) (a1 a2 : Option Addr) (n k1 k2 : Nat) (hn : n ≤ maxLen) (hv : tenB r c n = true) :
    Calls Try.prog 129 #[.agg #[.int .i64 r, .int .i64 c, .slice a1 n k1], .slice a2 c k2] w fun e w' => e = .returned (.bool true) ∧ Below w.heap.size w w' := by
  have K := Lib.hid (fun W => impl_ValidTensor r c a1 n k1 hn W)
  rw [hv] at K
  have XB := Lib.hid (BoxN.alloc w #[.int .i64 r, .int .i64 c, .slice a1 n k1] 27)
  have B := Lib.hid (below1 w (.cells #[.int .i64 r, .int .i64 c, .slice a1 n k1] 27))
  clear hv hn
  go_enter Try.func129, Try.ntmps129
  go_wp2_with fail
  refine (K.out _).mono ?_
  rintro e w1 ⟨rfl, hb⟩
  obtain ⟨-, x0, x1, x2, xf⟩ := (XB.out.below hb).three
  have HB := Lib.hid (bthen B.out hb); clear hb
  go_wp2
  go_ret
  exact ⟨by simp, HB.out⟩
set_option maxRecDepth 100000 in
set_option maxHeartbeats 4000000 in
theorem impl_AddTensors (w : World) (r c : Nat) (a1 : Option Addr) (k1 n : Nat) (xs : List Nat) (h1 : F32s w a1 k1 xs) (hx : xs.length = n) (hr1 : 1 ≤ r) (hr : r ≤ 16) (hc1 : 1 ≤ c) (hc : c ≤ 16) (hn : n = r * c) (a2 : Option Addr) (k2 : Nat) (ys : List Nat) (h2 : F32s w a2 k2 ys) (hy : ys.length = n) :
    Calls Try.prog 34 #[.agg #[.int .i64 r, .int .i64 c, .slice a1 n k1], .agg #[.int .i64 r, .int .i64 c, .slice a2 n k2]] w (TenOk r c n (tenE .add (xs.map (cn .f32)) (ys.map (cn .f32)) n) w) := by
  have hn6 : n ≤ 256 := by rw [hn]; exact Nat.mul_le_mul hr hc
  have hv := tenB_nat hr1 hr hc1 hc hn
  have hmx : n ≤ maxLen := by unfold maxLen; omega
  have K1 := Lib.hid (fun W => impl_areAlike W r c a1 n k1 r c a2 n k2 hmx hmx)
  rw [alikeB_nat hv] at K1
  have K2 := Lib.hid (fun W (hb : Below w.heap.size w W) => impl_addTensors W r c r c a1 a2 k1 k2 n xs ys (h1.below hb) (h2.below hb) hx hy hn6)
  have XB := Lib.hid (BoxN.alloc w #[.int .i64 r, .int .i64 c, .slice a1 n k1] 27)
  have XB := Lib.hid (XB.out.below (below2 _ (.cells #[.int .i64 r, .int .i64 c, .slice a2 n k2] 27) (.cells #[.int .i64 0, .int .i64 0, .slice none 0 0] 27)))
  have YB := Lib.hid ((BoxN.alloc2 w (.cells #[.int .i64 r, .int .i64 c, .slice a1 n k1] 27) #[.int .i64 r, .int .i64 c, .slice a2 n k2] 27).below (below1 _ (.cells #[.int .i64 0, .int .i64 0, .slice none 0 0] 27)))
  have RB := Lib.hid (BoxN.alloc3 w (.cells #[.int .i64 r, .int .i64 c, .slice a1 n k1] 27) (.cells #[.int .i64 r, .int .i64 c, .slice a2 n k2] 27) #[.int .i64 0, .int .i64 0, .slice none 0 0] 27)
  have B := Lib.hid (below3 w (.cells #[.int .i64 r, .int .i64 c, .slice a1 n k1] 27) (.cells #[.int .i64 r, .int .i64 c, .slice a2 n k2] 27) (.cells #[.int .i64 0, .int .i64 0, .slice none 0 0] 27))
  clear h2 hy
  clear h1 hx hv hn
  go_enter Try.func34, Try.ntmps34
  go_wp2_with fail
  refine (K1.out _).mono ?_
  rintro e w1 ⟨rfl, hb⟩
  have HB := Lib.hid (bthen B.out hb); have XB := Lib.hid (XB.out.below hb); have RB := Lib.hid (RB.out.below hb)
  have YB := Lib.hid (YB.out.below hb)
  have hz1 := hb.size
  simp at hz1
  clear hb
  obtain ⟨-, x0, x1, x2, xf⟩ := XB.out.three
  obtain ⟨-, y0, y1, y2, yf⟩ := YB.out.three
  go_wp2_with fail
  refine (K2.out _ HB.out).mono ?_
  rintro e w2 ⟨va, vc, zs, rfl, RO, RM, hb⟩
  obtain ⟨rl, r0, r1, r2, rf⟩ := (RB.out.below hb).three
  have hbw := bthen HB.out hb
  have hz := hb.size
  have hfin := setCs_repF (g := (w.heap.size + 2)) (lo' := w.heap.size) (i := 0) RO.out (by omega) (by omega) (Nat.le_refl _) [.int .i64 r, .int .i64 c, .slice va n vc]
  have hbf := setCs_below hbw (g := (w.heap.size + 2)) (by omega) 0 [.int .i64 r, .int .i64 c, .slice va n vc]
  have HF := Lib.hid hfin; have HBF := Lib.hid hbf
  clear hfin hbf hbw hb x0 x1 x2 xf XB HB RB y0 y1 y2 yf
  go_wp2
  try simp only [Exit.inBlock, Exit.then]
  refine bodyPost_ret (v := .tuple #[.agg #[.int .i64 r, .int .i64 c, .slice va n vc], .bool true]) (by simp [results, Try.results34, go_sem, r0, r1, r2]) rfl ⟨_, _, zs, rfl, HF, RM, HBF.out⟩
set_option maxRecDepth 100000 in
set_option maxHeartbeats 4000000 in
theorem impl_MulTensors (w : World) (r c : Nat) (a1 : Option Addr) (k1 n : Nat) (xs : List Nat) (h1 : F32s w a1 k1 xs) (hx : xs.length = n) (hr1 : 1 ≤ r) (hr : r ≤ 16) (hc1 : 1 ≤ c) (hc : c ≤ 16) (hn : n = r * c) (a2 : Option Addr) (k2 : Nat) (ys : List Nat) (h2 : F32s w a2 k2 ys) (hy : ys.length = n) :
    Calls Try.prog 35 #[.agg #[.int .i64 r, .int .i64 c, .slice a1 n k1], .agg #[.int .i64 r, .int .i64 c, .slice a2 n k2]] w (TenOk r c n (tenE .mul (xs.map (cn .f32)) (ys.map (cn .f32)) n) w) := by
  have hn6 : n ≤ 256 := by rw [hn]; exact Nat.mul_le_mul hr hc
  have hv := tenB_nat hr1 hr hc1 hc hn
  have hmx : n ≤ maxLen := by unfold maxLen; omega
  have K1 := Lib.hid (fun W => impl_areAlike W r c a1 n k1 r c a2 n k2 hmx hmx)
  rw [alikeB_nat hv] at K1
  have K2 := Lib.hid (fun W (hb : Below w.heap.size w W) => impl_mulTensors W r c r c a1 a2 k1 k2 n xs ys (h1.below hb) (h2.below hb) hx hy hn6)
  have XB := Lib.hid (BoxN.alloc w #[.int .i64 r, .int .i64 c, .slice a1 n k1] 27)
  have XB := Lib.hid (XB.out.below (below2 _ (.cells #[.int .i64 r, .int .i64 c, .slice a2 n k2] 27) (.cells #[.int .i64 0, .int .i64 0, .slice none 0 0] 27)))
  have YB := Lib.hid ((BoxN.alloc2 w (.cells #[.int .i64 r, .int .i64 c, .slice a1 n k1] 27) #[.int .i64 r, .int .i64 c, .slice a2 n k2] 27).below (below1 _ (.cells #[.int .i64 0, .int .i64 0, .slice none 0 0] 27)))
  have RB := Lib.hid (BoxN.alloc3 w (.cells #[.int .i64 r, .int .i64 c, .slice a1 n k1] 27) (.cells #[.int .i64 r, .int .i64 c, .slice a2 n k2] 27) #[.int .i64 0, .int .i64 0, .slice none 0 0] 27)
  have B := Lib.hid (below3 w (.cells #[.int .i64 r, .int .i64 c, .slice a1 n k1] 27) (.cells #[.int .i64 r, .int .i64 c, .slice a2 n k2] 27) (.cells #[.int .i64 0, .int .i64 0, .slice none 0 0] 27))
  clear h2 hy
  clear h1 hx hv hn
  go_enter Try.func35, Try.ntmps35
  go_wp2_with fail
  refine (K1.out _).mono ?_
  rintro e w1 ⟨rfl, hb⟩
  have HB := Lib.hid (bthen B.out hb); have XB := Lib.hid (XB.out.below hb); have RB := Lib.hid (RB.out.below hb)
  have YB := Lib.hid (YB.out.below hb)
  have hz1 := hb.size
  simp at hz1
  clear hb
  obtain ⟨-, x0, x1, x2, xf⟩ := XB.out.three
  obtain ⟨-, y0, y1, y2, yf⟩ := YB.out.three
  go_wp2_with fail
  refine (K2.out _ HB.out).mono ?_
  rintro e w2 ⟨va, vc, zs, rfl, RO, RM, hb⟩
  obtain ⟨rl, r0, r1, r2, rf⟩ := (RB.out.below hb).three
  have hbw := bthen HB.out hb
  have hz := hb.size
  have hfin := setCs_repF (g := (w.heap.size + 2)) (lo' := w.heap.size) (i := 0) RO.out (by omega) (by omega) (Nat.le_refl _) [.int .i64 r, .int .i64 c, .slice va n vc]
  have hbf := setCs_below hbw (g := (w.heap.size + 2)) (by omega) 0 [.int .i64 r, .int .i64 c, .slice va n vc]
  have HF := Lib.hid hfin; have HBF := Lib.hid hbf
  clear hfin hbf hbw hb x0 x1 x2 xf XB HB RB y0 y1 y2 yf
  go_wp2
  try simp only [Exit.inBlock, Exit.then]
  refine bodyPost_ret (v := .tuple #[.agg #[.int .i64 r, .int .i64 c, .slice va n vc], .bool true]) (by simp [results, Try.results35, go_sem, r0, r1, r2]) rfl ⟨_, _, zs, rfl, HF, RM, HBF.out⟩
set_option maxRecDepth 100000 in
set_option maxHeartbeats 4000000 in
theorem impl_AddRow (w : World) (r c : Nat) (a1 : Option Addr) (k1 n : Nat) (xs : List Nat) (h1 : F32s w a1 k1 xs) (hx : xs.length = n) (hr1 : 1 ≤ r) (hr : r ≤ 16) (hc1 : 1 ≤ c) (hc : c ≤ 16) (hn : n = r * c) (a2 : Option Addr) (k2 : Nat) (ys : List Nat) (h2 : F32s w a2 k2 ys) (hy : ys.length = c) :
    Calls Try.prog 36 #[.agg #[.int .i64 r, .int .i64 c, .slice a1 n k1], .slice a2 c k2] w (TenOk r c n (rowE .add (xs.map (cn .f32)) (ys.map (cn .f32)) c n) w) := by
  have hn6 : n ≤ 256 := by rw [hn]; exact Nat.mul_le_mul hr hc
  have hv := tenB_nat hr1 hr hc1 hc hn
  have hmx : n ≤ maxLen := by unfold maxLen; omega
  have K1 := Lib.hid (fun W => impl_isRowOf W r c a1 a2 n k1 k2 hmx hv)
  have K2 := Lib.hid (fun W (hb : Below w.heap.size w W) => impl_addRow W r c a1 a2 k1 k2 n xs ys (h1.below hb) (h2.below hb) hx hy hn6 hc1 hc)
  have XB := Lib.hid (BoxN.alloc w #[.int .i64 r, .int .i64 c, .slice a1 n k1] 27)
  have XB := Lib.hid (XB.out.below (below1 _ (.cells #[.int .i64 0, .int .i64 0, .slice none 0 0] 27)))
  have RB := Lib.hid (BoxN.alloc2 w (.cells #[.int .i64 r, .int .i64 c, .slice a1 n k1] 27) #[.int .i64 0, .int .i64 0, .slice none 0 0] 27)
  have B := Lib.hid (below2 w (.cells #[.int .i64 r, .int .i64 c, .slice a1 n k1] 27) (.cells #[.int .i64 0, .int .i64 0, .slice none 0 0] 27))
  clear h2 hy
  clear h1 hx hv hn
  go_enter Try.func36, Try.ntmps36
  go_wp2_with fail
  refine (K1.out _).mono ?_
  rintro e w1 ⟨rfl, hb⟩
  have HB := Lib.hid (bthen B.out hb); have XB := Lib.hid (XB.out.below hb); have RB := Lib.hid (RB.out.below hb)
  have hz1 := hb.size
  simp at hz1
  clear hb
  obtain ⟨-, x0, x1, x2, xf⟩ := XB.out.three
  go_wp2_with fail
  refine (K2.out _ HB.out).mono ?_
  rintro e w2 ⟨va, vc, zs, rfl, RO, RM, hb⟩
  obtain ⟨rl, r0, r1, r2, rf⟩ := (RB.out.below hb).three
  have hbw := bthen HB.out hb
  have hz := hb.size
  have hfin := setCs_repF (g := (w.heap.size + 1)) (lo' := w.heap.size) (i := 0) RO.out (by omega) (by omega) (Nat.le_refl _) [.int .i64 r, .int .i64 c, .slice va n vc]
  have hbf := setCs_below hbw (g := (w.heap.size + 1)) (by omega) 0 [.int .i64 r, .int .i64 c, .slice va n vc]
  have HF := Lib.hid hfin; have HBF := Lib.hid hbf
  clear hfin hbf hbw hb x0 x1 x2 xf XB HB RB
  go_wp2
  try simp only [Exit.inBlock, Exit.then]
  refine bodyPost_ret (v := .tuple #[.agg #[.int .i64 r, .int .i64 c, .slice va n vc], .bool true]) (by simp [results, Try.results36, go_sem, r0, r1, r2]) rfl ⟨_, _, zs, rfl, HF, RM, HBF.out⟩
set_option maxRecDepth 100000 in
set_option maxHeartbeats 4000000 in
theorem impl_MulRow (w : World) (r c : Nat) (a1 : Option Addr) (k1 n : Nat) (xs : List Nat) (h1 : F32s w a1 k1 xs) (hx : xs.length = n) (hr1 : 1 ≤ r) (hr : r ≤ 16) (hc1 : 1 ≤ c) (hc : c ≤ 16) (hn : n = r * c) (a2 : Option Addr) (k2 : Nat) (ys : List Nat) (h2 : F32s w a2 k2 ys) (hy : ys.length = c) :
    Calls Try.prog 37 #[.agg #[.int .i64 r, .int .i64 c, .slice a1 n k1], .slice a2 c k2] w (TenOk r c n (rowE .mul (xs.map (cn .f32)) (ys.map (cn .f32)) c n) w) := by
  have hn6 : n ≤ 256 := by rw [hn]; exact Nat.mul_le_mul hr hc
  have hv := tenB_nat hr1 hr hc1 hc hn
  have hmx : n ≤ maxLen := by unfold maxLen; omega
  have K1 := Lib.hid (fun W => impl_isRowOf W r c a1 a2 n k1 k2 hmx hv)
  have K2 := Lib.hid (fun W (hb : Below w.heap.size w W) => impl_mulRow W r c a1 a2 k1 k2 n xs ys (h1.below hb) (h2.below hb) hx hy hn6 hc1 hc)
  have XB := Lib.hid (BoxN.alloc w #[.int .i64 r, .int .i64 c, .slice a1 n k1] 27)
  have XB := Lib.hid (XB.out.below (below1 _ (.cells #[.int .i64 0, .int .i64 0, .slice none 0 0] 27)))
  have RB := Lib.hid (BoxN.alloc2 w (.cells #[.int .i64 r, .int .i64 c, .slice a1 n k1] 27) #[.int .i64 0, .int .i64 0, .slice none 0 0] 27)
  have B := Lib.hid (below2 w (.cells #[.int .i64 r, .int .i64 c, .slice a1 n k1] 27) (.cells #[.int .i64 0, .int .i64 0, .slice none 0 0] 27))
  clear h2 hy
  clear h1 hx hv hn
  go_enter Try.func37, Try.ntmps37
  go_wp2_with fail
  refine (K1.out _).mono ?_
  rintro e w1 ⟨rfl, hb⟩
  have HB := Lib.hid (bthen B.out hb); have XB := Lib.hid (XB.out.below hb); have RB := Lib.hid (RB.out.below hb)
  have hz1 := hb.size
  simp at hz1
  clear hb
  obtain ⟨-, x0, x1, x2, xf⟩ := XB.out.three
  go_wp2_with fail
  refine (K2.out _ HB.out).mono ?_
  rintro e w2 ⟨va, vc, zs, rfl, RO, RM, hb⟩
  obtain ⟨rl, r0, r1, r2, rf⟩ := (RB.out.below hb).three
  have hbw := bthen HB.out hb
  have hz := hb.size
  have hfin := setCs_repF (g := (w.heap.size + 1)) (lo' := w.heap.size) (i := 0) RO.out (by omega) (by omega) (Nat.le_refl _) [.int .i64 r, .int .i64 c, .slice va n vc]
  have hbf := setCs_below hbw (g := (w.heap.size + 1)) (by omega) 0 [.int .i64 r, .int .i64 c, .slice va n vc]
  have HF := Lib.hid hfin; have HBF := Lib.hid hbf
  clear hfin hbf hbw hb x0 x1 x2 xf XB HB RB
  go_wp2
  try simp only [Exit.inBlock, Exit.then]
  refine bodyPost_ret (v := .tuple #[.agg #[.int .i64 r, .int .i64 c, .slice va n vc], .bool true]) (by simp [results, Try.results37, go_sem, r0, r1, r2]) rfl ⟨_, _, zs, rfl, HF, RM, HBF.out⟩
set_option maxRecDepth 100000 in
set_option maxHeartbeats 4000000 in
theorem impl_ScaleTensor (w : World) (r c : Nat) (a1 : Option Addr) (k1 n : Nat) (xs : List Nat) (h1 : F32s w a1 k1 xs) (hx : xs.length = n) (hr1 : 1 ≤ r) (hr : r ≤ 16) (hc1 : 1 ≤ c) (hc : c ≤ 16) (hn : n = r * c) (z : Nat) :
    Calls Try.prog 29 #[.agg #[.int .i64 r, .int .i64 c, .slice a1 n k1], .float .f32 z] w (TenOk r c n (scaE (xs.map (cn .f32)) (cn .f32 z) n) w) := by
  have hn6 : n ≤ 256 := by rw [hn]; exact Nat.mul_le_mul hr hc
  have hv := tenB_nat hr1 hr hc1 hc hn
  have hmx : n ≤ maxLen := by unfold maxLen; omega
  have K1 := Lib.hid (fun W => impl_ValidTensor r c a1 n k1 hmx W)
  rw [hv] at K1
  have K2 := Lib.hid (fun W (hb : Below w.heap.size w W) => impl_scaleTensorT W r c a1 k1 xs (h1.below hb) n hx hn6 z)
  have XB := Lib.hid (BoxN.alloc w #[.int .i64 r, .int .i64 c, .slice a1 n k1] 27)
  have XB := Lib.hid (XB.out.below (below1 _ (.cells #[.int .i64 0, .int .i64 0, .slice none 0 0] 27)))
  have RB := Lib.hid (BoxN.alloc2 w (.cells #[.int .i64 r, .int .i64 c, .slice a1 n k1] 27) #[.int .i64 0, .int .i64 0, .slice none 0 0] 27)
  have B := Lib.hid (below2 w (.cells #[.int .i64 r, .int .i64 c, .slice a1 n k1] 27) (.cells #[.int .i64 0, .int .i64 0, .slice none 0 0] 27))
  clear h1 hx hv hn
  go_enter Try.func29, Try.ntmps29
  go_wp2_with fail
  refine (K1.out _).mono ?_
  rintro e w1 ⟨rfl, hb⟩
  have HB := Lib.hid (bthen B.out hb); have XB := Lib.hid (XB.out.below hb); have RB := Lib.hid (RB.out.below hb)
  have hz1 := hb.size
  simp at hz1
  clear hb
  obtain ⟨-, x0, x1, x2, xf⟩ := XB.out.three
  go_wp2_with fail
  refine (K2.out _ HB.out).mono ?_
  rintro e w2 ⟨va, vc, zs, rfl, RO, RM, hb⟩
  obtain ⟨rl, r0, r1, r2, rf⟩ := (RB.out.below hb).three
  have hbw := bthen HB.out hb
  have hz := hb.size
  have hfin := setCs_repF (g := (w.heap.size + 1)) (lo' := w.heap.size) (i := 0) RO.out (by omega) (by omega) (Nat.le_refl _) [.int .i64 r, .int .i64 c, .slice va n vc]
  have hbf := setCs_below hbw (g := (w.heap.size + 1)) (by omega) 0 [.int .i64 r, .int .i64 c, .slice va n vc]
  have HF := Lib.hid hfin; have HBF := Lib.hid hbf
  clear hfin hbf hbw hb x0 x1 x2 xf XB HB RB
  go_wp2
  try simp only [Exit.inBlock, Exit.then]
  refine bodyPost_ret (v := .tuple #[.agg #[.int .i64 r, .int .i64 c, .slice va n vc], .bool true]) (by simp [results, Try.results29, go_sem, r0, r1, r2]) rfl ⟨_, _, zs, rfl, HF, RM, HBF.out⟩
set_option maxRecDepth 100000 in
set_option maxHeartbeats 4000000 in
theorem impl_ReluTensor (w : World) (r c : Nat) (a1 : Option Addr) (k1 n : Nat) (xs : List Nat) (h1 : F32s w a1 k1 xs) (hx : xs.length = n) (hr1 : 1 ≤ r) (hr : r ≤ 16) (hc1 : 1 ≤ c) (hc : c ≤ 16) (hn : n = r * c) :
    Calls Try.prog 27 #[.agg #[.int .i64 r, .int .i64 c, .slice a1 n k1]] w (TenOk r c n (relE (xs.map (cn .f32)) n) w) := by
  have hn6 : n ≤ 256 := by rw [hn]; exact Nat.mul_le_mul hr hc
  have hv := tenB_nat hr1 hr hc1 hc hn
  have hmx : n ≤ maxLen := by unfold maxLen; omega
  have K1 := Lib.hid (fun W => impl_ValidTensor r c a1 n k1 hmx W)
  rw [hv] at K1
  have K2 := Lib.hid (fun W (hb : Below w.heap.size w W) => impl_reluTensorT W r c a1 k1 xs (h1.below hb) n hx hn6)
  have XB := Lib.hid (BoxN.alloc w #[.int .i64 r, .int .i64 c, .slice a1 n k1] 27)
  have XB := Lib.hid (XB.out.below (below1 _ (.cells #[.int .i64 0, .int .i64 0, .slice none 0 0] 27)))
  have RB := Lib.hid (BoxN.alloc2 w (.cells #[.int .i64 r, .int .i64 c, .slice a1 n k1] 27) #[.int .i64 0, .int .i64 0, .slice none 0 0] 27)
  have B := Lib.hid (below2 w (.cells #[.int .i64 r, .int .i64 c, .slice a1 n k1] 27) (.cells #[.int .i64 0, .int .i64 0, .slice none 0 0] 27))
  clear h1 hx hv hn
  go_enter Try.func27, Try.ntmps27
  go_wp2_with fail
  refine (K1.out _).mono ?_
  rintro e w1 ⟨rfl, hb⟩
  have HB := Lib.hid (bthen B.out hb); have XB := Lib.hid (XB.out.below hb); have RB := Lib.hid (RB.out.below hb)
  have hz1 := hb.size
  simp at hz1
  clear hb
  obtain ⟨-, x0, x1, x2, xf⟩ := XB.out.three
  go_wp2_with fail
  refine (K2.out _ HB.out).mono ?_
  rintro e w2 ⟨va, vc, zs, rfl, RO, RM, hb⟩
  obtain ⟨rl, r0, r1, r2, rf⟩ := (RB.out.below hb).three
  have hbw := bthen HB.out hb
  have hz := hb.size
  have hfin := setCs_repF (g := (w.heap.size + 1)) (lo' := w.heap.size) (i := 0) RO.out (by omega) (by omega) (Nat.le_refl _) [.int .i64 r, .int .i64 c, .slice va n vc]
  have hbf := setCs_below hbw (g := (w.heap.size + 1)) (by omega) 0 [.int .i64 r, .int .i64 c, .slice va n vc]
  have HF := Lib.hid hfin; have HBF := Lib.hid hbf
  clear hfin hbf hbw hb x0 x1 x2 xf XB HB RB
  go_wp2
  try simp only [Exit.inBlock, Exit.then]
  refine bodyPost_ret (v := .tuple #[.agg #[.int .i64 r, .int .i64 c, .slice va n vc], .bool true]) (by simp [results, Try.results27, go_sem, r0, r1, r2]) rfl ⟨_, _, zs, rfl, HF, RM, HBF.out⟩
set_option maxRecDepth 100000 in
set_option maxHeartbeats 4000000 in
theorem impl_TransposeTensor (w : World) (r c : Nat) (a1 : Option Addr) (k1 n : Nat) (xs : List Nat) (h1 : F32s w a1 k1 xs) (hx : xs.length = n) (hr1 : 1 ≤ r) (hr : r ≤ 16) (hc1 : 1 ≤ c) (hc : c ≤ 16) (hn : n = r * c) :
    Calls Try.prog 31 #[.agg #[.int .i64 r, .int .i64 c, .slice a1 n k1]] w (TenOk c r n (turnE (xs.map (cn .f32)) r c n) w) := by
  have hn6 : n ≤ 256 := by rw [hn]; exact Nat.mul_le_mul hr hc
  have hv := tenB_nat hr1 hr hc1 hc hn
  have hmx : n ≤ maxLen := by unfold maxLen; omega
  have K1 := Lib.hid (fun W => impl_ValidTensor r c a1 n k1 hmx W)
  rw [hv] at K1
  have K2 := Lib.hid (fun W (hb : Below w.heap.size w W) => impl_transposed W r c a1 k1 n xs (h1.below hb) hx hr1 hr hc1 hc hn)
  have XB := Lib.hid (BoxN.alloc w #[.int .i64 r, .int .i64 c, .slice a1 n k1] 27)
  have XB := Lib.hid (XB.out.below (below1 _ (.cells #[.int .i64 0, .int .i64 0, .slice none 0 0] 27)))
  have RB := Lib.hid (BoxN.alloc2 w (.cells #[.int .i64 r, .int .i64 c, .slice a1 n k1] 27) #[.int .i64 0, .int .i64 0, .slice none 0 0] 27)
  have B := Lib.hid (below2 w (.cells #[.int .i64 r, .int .i64 c, .slice a1 n k1] 27) (.cells #[.int .i64 0, .int .i64 0, .slice none 0 0] 27))
  clear h1 hx hv hn
  go_enter Try.func31, Try.ntmps31
  go_wp2_with fail
  refine (K1.out _).mono ?_
  rintro e w1 ⟨rfl, hb⟩
  have HB := Lib.hid (bthen B.out hb); have XB := Lib.hid (XB.out.below hb); have RB := Lib.hid (RB.out.below hb)
  have hz1 := hb.size
  simp at hz1
  clear hb
  obtain ⟨-, x0, x1, x2, xf⟩ := XB.out.three
  go_wp2_with fail
  refine (K2.out _ HB.out).mono ?_
  rintro e w2 ⟨va, vc, zs, rfl, RO, RM, hb⟩
  obtain ⟨rl, r0, r1, r2, rf⟩ := (RB.out.below hb).three
  have hbw := bthen HB.out hb
  have hz := hb.size
  have hfin := setCs_repF (g := (w.heap.size + 1)) (lo' := w.heap.size) (i := 0) RO.out (by omega) (by omega) (Nat.le_refl _) [.int .i64 c, .int .i64 r, .slice va n vc]
  have hbf := setCs_below hbw (g := (w.heap.size + 1)) (by omega) 0 [.int .i64 c, .int .i64 r, .slice va n vc]
  have HF := Lib.hid hfin; have HBF := Lib.hid hbf
  clear hfin hbf hbw hb x0 x1 x2 xf XB HB RB
  go_wp2
  try simp only [Exit.inBlock, Exit.then]
  refine bodyPost_ret (v := .tuple #[.agg #[.int .i64 c, .int .i64 r, .slice va n vc], .bool true]) (by simp [results, Try.results31, go_sem, r0, r1, r2]) rfl ⟨_, _, zs, rfl, HF, RM, HBF.out⟩
end Go.Proofs.Ytnkikigfpdngdaa
/- Plain laws of floats as rational numbers: what a datum is worth, and orders. No condition. -/
namespace Go.Proofs.Ytnkikigfpdngdaa
open Go Go.RowKit Ieee
set_option linter.unusedVariables false
set_option linter.unusedSimpArgs false
def sg (s : Bool) : Rat := if s = true then -1 else 1
def num (s : Bool) (m : Nat) (p : Int) : Rat := sg s * (m : Rat) * (2 : Rat) ^ p
/-- what a datum is worth -/
def rv : Datum → Rat
  | .number s m p => num s m p
  | _ => 0
theorem two_ne : (2 : Rat) ≠ 0 := by decide
theorem pw_pos (p : Int) : (0 : Rat) < (2 : Rat) ^ p := Rat.zpow_pos (by decide)
theorem pw_add (p q : Int) : (2 : Rat) ^ (p + q) = (2 : Rat) ^ p * (2 : Rat) ^ q := Rat.zpow_add two_ne p q
theorem pw_nat (n : Nat) : (2 : Rat) ^ (n : Int) = ((2 ^ n : Nat) : Rat) := by rw [Rat.zpow_natCast, Rat.natCast_pow]; rfl
theorem pw_zero : (2 : Rat) ^ (0 : Int) = 1 := by decide +kernel
theorem signed_rv (s : Bool) (m k : Nat) : ((signed s m k : Int) : Rat) = sg s * (m : Rat) * (2 : Rat) ^ (k : Int) := by
  rw [pw_nat]
  unfold signed sg
  rw [Nat.shiftLeft_eq]
  cases s
  · simp only [Bool.false_eq_true, if_false]
    rw [Rat.intCast_natCast, Rat.natCast_mul]
    grind
  · simp only [if_true]
    rw [Rat.intCast_neg, Rat.intCast_natCast, Rat.natCast_mul]
    grind
theorem num_base {s : Bool} {m : Nat} {p b : Int} (h : b ≤ p) : num s m p = ((signed s m (p - b).toNat : Int) : Rat) * (2 : Rat) ^ b := by
  rw [signed_rv, show (((p - b).toNat : Nat) : Int) = p - b by omega]
  unfold num
  have := pw_add (p - b) b
  rw [show p - b + b = p by omega] at this
  rw [this]
  grind
theorem order_num (s t : Bool) (m n : Nat) (p q : Int) :
    ((Datum.number s m p).order (.number t n q) = some .lt ↔ num s m p < num t n q) ∧ ((Datum.number s m p).order (.number t n q) = some .gt ↔ num t n q < num s m p) ∧ ((Datum.number s m p).order (.number t n q) = some .eq ↔ num s m p = num t n q) := by
  obtain ⟨b, hb⟩ : ∃ b, b = min p q := ⟨_, rfl⟩
  have e1 := num_base (s := s) (m := m) (show b ≤ p by omega)
  have e2 := num_base (s := t) (m := n) (show b ≤ q by omega)
  have hp := pw_pos b
  simp only [Datum.order, ← hb, Option.some.injEq]
  generalize signed s m (p - b).toNat = A at e1 ⊢
  generalize signed t n (q - b).toNat = B at e2 ⊢
  generalize (2 : Rat) ^ b = c at *
  rw [e1, e2]
  have k1 : (A : Rat) * c < B * c ↔ A < B := by
    rw [Rat.mul_lt_mul_right hp, Rat.intCast_lt_intCast]
  have k2 : (B : Rat) * c < A * c ↔ B < A := by
    rw [Rat.mul_lt_mul_right hp, Rat.intCast_lt_intCast]
  refine ⟨?_, ?_, ?_⟩
  · rw [k1, Int.compare_eq_lt]
  · rw [k2, Int.compare_eq_gt]
  · rw [Int.compare_eq_eq]
    constructor
    · intro h; rw [h]
    · intro h
      have h1 : ¬ A < B := by rw [← k1, h]; exact Rat.lt_irrefl
      have h2 : ¬ B < A := by rw [← k2, h]; exact Rat.lt_irrefl
      omega
end Go.Proofs.Ytnkikigfpdngdaa
/- Plain laws of floats as rational numbers: what rounding leaves. No condition. -/
namespace Go.Proofs.Ytnkikigfpdngdaa
open Go Go.RowKit Ieee
set_option linter.unusedVariables false
set_option linter.unusedSimpArgs false
/-- 'r' is the rung nearest to 'V' (in units of the least place), the even one in the middle -/
structure Mid (f : Format) (V : Rat) (r : Nat) : Prop where
  le : r ≤ f.infRung
  low : r = 0 ∨ ((nval f (r - 1) : Rat) + nval f r ≤ 2 * V ∧ (r % 2 = 1 → (nval f (r - 1) : Rat) + nval f r < 2 * V))
  high : r = f.infRung ∨ (2 * V ≤ (nval f r : Rat) + nval f (r + 1) ∧ (r % 2 = 1 → 2 * V < (nval f r : Rat) + nval f (r + 1)))
theorem nat_rat_le {a b : Nat} (h : a ≤ b) : (a : Rat) ≤ b := Rat.natCast_le_natCast.2 h
theorem nat_rat_lt {a b : Nat} (h : a < b) : (a : Rat) < b := Rat.natCast_lt_natCast.2 h
theorem nval_le {f : Format} {x y : Nat} (h : x ≤ y) : nval f x ≤ nval f y := by
  rcases Nat.lt_or_ge x y with h1 | h1
  · exact Nat.le_of_lt (nval_lt h1)
  · have : x = y := by omega
    rw [this]; exact Nat.le_refl _
theorem Mid.mono {f : Format} {V W : Rat} {r s : Nat} (h : Mid f V r) (k : Mid f W s) (hv : V ≤ W) : r ≤ s := by
  rcases Nat.lt_or_ge s r with hlt | hge
  · exfalso
    have hr0 : r ≠ 0 := by omega
    have hs : s ≠ f.infRung := by have := h.le; omega
    obtain ⟨l1, l2⟩ := h.low.resolve_left hr0
    obtain ⟨u1, u2⟩ := k.high.resolve_left hs
    have a1 : (nval f s : Rat) ≤ nval f (r - 1) := nat_rat_le (nval_le (by omega))
    have a2 : (nval f (s + 1) : Rat) ≤ nval f r := nat_rat_le (nval_le (by omega))
    rcases Nat.lt_or_ge (s + 1) r with h2 | h2
    · have a3 : (nval f (s + 1) : Rat) < nval f r := nat_rat_lt (nval_lt h2)
      grind
    · have e : r = s + 1 := by omega
      subst e
      rcases Nat.mod_two_eq_zero_or_one s with h3 | h3
      · have := l2 (by omega)
        simp only [Nat.add_sub_cancel] at this l1
        grind
      · have := u2 h3
        simp only [Nat.add_sub_cancel] at l1
        grind
  · exact hge
theorem Mid.unique {f : Format} {V : Rat} {r s : Nat} (h : Mid f V r) (k : Mid f V s) : r = s :=
  Nat.le_antisymm (h.mono k Rat.le_refl) (k.mono h Rat.le_refl)
/-- what a number is exactly -/
theorem Mid.exact {f : Format} {r : Nat} (hr : r ≤ f.infRung) : Mid f (nval f r : Rat) r := by
  refine ⟨hr, ?_, ?_⟩
  · rcases Nat.eq_zero_or_pos r with h | h
    · exact .inl h
    · right
      have : (nval f (r - 1) : Rat) < nval f r := nat_rat_lt (nval_lt (by omega))
      constructor
      · grind
      · intro _; grind
  · right
    have : (nval f r : Rat) < nval f (r + 1) := nat_rat_lt (nval_lt (by omega))
    constructor
    · grind
    · intro _; grind
theorem Mid.half_even {f : Format} {r : Nat} (hr : r < f.infRung) {V : Rat} (hV : 2 * V = (nval f r : Rat) + nval f (r + 1)) : Mid f V (if r % 2 = 0 then r else r + 1) := by
  by_cases h : r % 2 = 0
  · rw [if_pos h]
    refine ⟨by omega, ?_, .inr ⟨by grind, fun h1 => by omega⟩⟩
    rcases Nat.eq_zero_or_pos r with h2 | h2
    · exact .inl h2
    · right
      have : (nval f (r - 1) : Rat) ≤ nval f (r + 1) := nat_rat_le (nval_le (by omega))
      exact ⟨by grind, fun h1 => by omega⟩
  · rw [if_neg h]
    refine ⟨by omega, .inr ⟨?_, fun h1 => by omega⟩, .inr ⟨?_, fun h1 => by omega⟩⟩
    · simp only [Nat.add_sub_cancel]; grind
    · have : (nval f r : Rat) ≤ nval f (r + 1 + 1) := nat_rat_le (nval_le (by omega))
      grind
/-- an integer nearest to a number -/
theorem cut_even (neg : Bool) (N d : Nat) : (2 * (Toward.even.cut neg N d : Rat) - 1) * (2 : Rat) ^ d ≤ 2 * N ∧ 2 * (N : Rat) ≤ (2 * (Toward.even.cut neg N d : Rat) + 1) * (2 : Rat) ^ d ∧
    ((Toward.even.cut neg N d) % 2 = 1 → (2 * (Toward.even.cut neg N d : Rat) - 1) * (2 : Rat) ^ d < 2 * N ∧ 2 * (N : Rat) < (2 * (Toward.even.cut neg N d : Rat) + 1) * (2 : Rat) ^ d) := by
  have hp : ∀ n : Nat, ((2 ^ n : Nat) : Rat) = (2 : Rat) ^ n := fun n => by rw [Rat.natCast_pow]; rfl
  unfold Toward.cut
  simp only [Nat.shiftLeft_eq, Nat.one_mul]
  by_cases h : d ≤ N.log2 + 2
  · rw [Nat.min_eq_left h]
    obtain ⟨g, hg⟩ : ∃ g, g = 2 ^ d := ⟨_, rfl⟩
    have hgp : 0 < g := by rw [hg]; exact Nat.two_pow_pos _
    rw [← hp, ← hg]
    have hdiv := Nat.div_add_mod N g
    have hmod := Nat.mod_lt N hgp
    generalize N / g = q at *
    generalize N % g = t at *
    obtain ⟨M, hM⟩ : ∃ M, M = g * q := ⟨_, rfl⟩
    have hN : (N : Rat) = (g : Rat) * q + t := by rw [← hdiv, Rat.natCast_add, Rat.natCast_mul]
    have ht0 : (0 : Rat) ≤ t := Rat.natCast_nonneg
    have htg : (t : Rat) < g := nat_rat_lt hmod
    have hg0 : (0 : Rat) < g := by have := nat_rat_lt hgp; simpa using this
    rw [hN]
    by_cases h1 : g < 2 * t
    · have h1r : (g : Rat) < 2 * t := by have := nat_rat_lt h1; rw [Rat.natCast_mul] at this; simpa using this
      simp only [h1, decide_true, Bool.true_or, Bool.toNat_true]
      rw [Rat.natCast_add]
      refine ⟨by grind, by grind, fun _ => ⟨by grind, by grind⟩⟩
    · by_cases h2 : g = 2 * t
      · have h2r : (g : Rat) = 2 * t := by rw [h2, Rat.natCast_mul]; rfl
        by_cases h3 : q % 2 = 1
        · have e : (decide (g < 2 * t) || (g == 2 * t && q % 2 == 1)) = true := by simp [h1, ← h2, h3]
          rw [e]
          simp only [Bool.toNat_true]
          rw [Rat.natCast_add]
          refine ⟨by grind, by grind, fun h4 => by omega⟩
        · have e : (decide (g < 2 * t) || (g == 2 * t && q % 2 == 1)) = false := by simp [h1, h3]
          rw [e]
          simp only [Bool.toNat_false, Nat.add_zero]
          refine ⟨by grind, by grind, fun h4 => by omega⟩
      · have h4 : 2 * t < g := by omega
        have h4r : 2 * (t : Rat) < g := by have := nat_rat_lt h4; rw [Rat.natCast_mul] at this; simpa using this
        have e : (decide (g < 2 * t) || (g == 2 * t && q % 2 == 1)) = false := by simp [h1, h2]
        rw [e]
        simp only [Bool.toNat_false, Nat.add_zero]
        refine ⟨by grind, by grind, fun _ => ⟨by grind, by grind⟩⟩
  · rw [Nat.min_eq_right (by omega)]
    have hlt : N < 2 ^ (N.log2 + 1) := Nat.lt_log2_self
    have h2 : 2 ^ (N.log2 + 2) = 2 * 2 ^ (N.log2 + 1) := by rw [Nat.pow_succ]; omega
    have e1 : N / 2 ^ (N.log2 + 2) = 0 := Nat.div_eq_of_lt (by omega)
    have e2 : N % 2 ^ (N.log2 + 2) = N := Nat.mod_eq_of_lt (by omega)
    rw [e1, e2]
    have e3 : (decide (2 ^ (N.log2 + 2) < 2 * N) || (2 ^ (N.log2 + 2) == 2 * N && 0 % 2 == 1)) = false := by
      simp; omega
    rw [e3]
    simp only [Bool.toNat_false, Nat.add_zero]
    have h5 : 2 * N < 2 ^ d := by
      have : 2 ^ (N.log2 + 2) ≤ 2 ^ d := Nat.pow_le_pow_right (by decide) (by omega)
      omega
    have h5r : 2 * (N : Rat) < (2 : Rat) ^ d := by have := nat_rat_lt h5; rw [hp, Rat.natCast_mul] at this; simpa using this
    have h6 : (0 : Rat) ≤ N := Rat.natCast_nonneg
    have h7 : (0 : Rat) < (2 : Rat) ^ d := by rw [← hp]; have := nat_rat_lt (Nat.two_pow_pos d); simpa using this
    refine ⟨by grind, by grind, fun h8 => by omega⟩
theorem binade_pos (f : Format) : 0 < f.binade := Nat.two_pow_pos _
/-- the rungs of one binade -/
theorem nval_rung (f : Format) (e k : Nat) (h1 : e = 0 ∨ f.binade ≤ k) (h2 : k ≤ 2 * f.binade) : nval f (e * f.binade + k) = k * 2 ^ e := by
  have hB := binade_pos f
  unfold nval
  rcases Nat.lt_or_ge k f.binade with hk | hk
  · have he : e = 0 := by omega
    subst he
    rw [if_pos (by omega)]; simp
  · rw [if_neg (by have := Nat.zero_le (e * f.binade); omega)]
    rcases Nat.lt_or_ge k (2 * f.binade) with hk2 | hk2
    · have e1 : (e * f.binade + k) / f.binade = e + 1 := by
        rw [Nat.add_comm, Nat.add_mul_div_right _ _ hB]
        have : k / f.binade = 1 := by
          rw [Nat.div_eq_iff hB]; omega
        omega
      have e2 : (e * f.binade + k) % f.binade = k - f.binade := by
        rw [Nat.add_comm, Nat.add_mul_mod_self_right, Nat.mod_eq_sub_mod hk, Nat.mod_eq_of_lt (by omega)]
      rw [e1, e2]
      congr 1; omega
    · have hke : k = 2 * f.binade := by omega
      subst hke
      have e0 : e * f.binade + 2 * f.binade = (e + 2) * f.binade := by rw [Nat.add_mul]
      rw [e0, Nat.mul_div_cancel _ hB, Nat.mul_mod_left]
      simp only [Nat.add_zero]
      rw [show e + 2 - 1 = e + 1 by omega, Nat.pow_succ]
      rw [Nat.mul_comm (2 ^ e) 2, ← Nat.mul_assoc, Nat.mul_comm f.binade 2]
theorem binade_even (f : Format) (hF : 1 ≤ f.fractionBits) (e k : Nat) : (e * f.binade + k) % 2 = k % 2 := by
  have : f.binade % 2 = 0 := by
    unfold Format.binade
    obtain ⟨n, hn⟩ : ∃ n, f.fractionBits = n + 1 := ⟨f.fractionBits - 1, by omega⟩
    rw [hn, Nat.pow_succ]; omega
  rw [Nat.add_mod, Nat.mul_mod, this]; simp
/-- what the format writes is nearest -/
theorem near_mid (f : Format) (hF : 1 ≤ f.fractionBits) (neg : Bool) (m : Nat) (p : Int) : ∃ r, f.nearest neg m p = f.word neg r ∧ Mid f ((m : Rat) * (2 : Rat) ^ (p - f.leastPlace)) r := by
  have hB := binade_pos f
  by_cases hm : m = 0
  · subst hm
    refine ⟨0, by unfold Format.nearest; rw [if_pos rfl], Nat.zero_le _, .inl rfl, .inr ?_⟩
    have h1 : (0 : Rat) ≤ nval f 0 := Rat.natCast_nonneg
    have h2 : (nval f 0 : Rat) < nval f (0 + 1) := nat_rat_lt (nval_lt (by omega))
    have h3 : ((0 : Nat) : Rat) = 0 := rfl
    rw [h3, Rat.zero_mul]
    exact ⟨by grind, fun h => by omega⟩
  unfold Format.nearest
  rw [if_neg hm]
  obtain ⟨last, hlast⟩ : ∃ last, last = max (p + m.log2 - f.fractionBits) f.leastPlace := ⟨_, rfl⟩
  simp only [← hlast]
  obtain ⟨e, he⟩ : ∃ e : Nat, last - f.leastPlace = e := ⟨(last - f.leastPlace).toNat, by omega⟩
  rw [he]
  obtain ⟨k, hk⟩ : ∃ k, k = Toward.even.cut neg (m <<< (p - last).toNat) (last - p).toNat := ⟨_, rfl⟩
  rw [← hk]
  obtain ⟨c1, c2, c3⟩ := cut_even neg (m <<< (p - last).toNat) (last - p).toNat
  rw [← hk] at c1 c2 c3
  -- the number in units of its last place
  obtain ⟨W, hW⟩ : ∃ W : Rat, W = (m : Rat) * (2 : Rat) ^ (p - last) := ⟨_, rfl⟩
  have hpd : (0 : Rat) < (2 : Rat) ^ (last - p).toNat := Rat.pow_pos (by decide)
  have hWN : ((m <<< (p - last).toNat : Nat) : Rat) = W * (2 : Rat) ^ (last - p).toNat := by
    rw [hW, Nat.shiftLeft_eq, Rat.natCast_mul, ← pw_nat]
    have e1 : (2 : Rat) ^ (p - last) * (2 : Rat) ^ (last - p).toNat = (2 : Rat) ^ (((p - last).toNat : Nat) : Int) := by
      rw [← Rat.zpow_natCast (2 : Rat) (last - p).toNat, ← pw_add]; congr 1; omega
    rw [← e1]; grind
  rw [hWN] at c1 c2 c3
  have d1 : 2 * (k : Rat) - 1 ≤ 2 * W := by
    apply Rat.le_of_mul_le_mul_right _ hpd; grind
  have d2 : 2 * W ≤ 2 * (k : Rat) + 1 := by
    apply Rat.le_of_mul_le_mul_right _ hpd; grind
  have d3 : k % 2 = 1 → 2 * (k : Rat) - 1 < 2 * W ∧ 2 * W < 2 * (k : Rat) + 1 := by
    intro h
    obtain ⟨x1, x2⟩ := c3 h
    constructor
    · rw [← Rat.not_le]; intro h; have := Rat.mul_le_mul_of_nonneg_right h (Rat.le_of_lt hpd); grind
    · rw [← Rat.not_le]; intro h; have := Rat.mul_le_mul_of_nonneg_right h (Rat.le_of_lt hpd); grind
  clear c1 c2 c3 hWN hpd
  have hVW : (m : Rat) * (2 : Rat) ^ (p - f.leastPlace) = W * (2 : Rat) ^ e := by
    rw [hW, ← Rat.zpow_natCast (2 : Rat) e]
    have : (2 : Rat) ^ (p - f.leastPlace) = (2 : Rat) ^ (p - last) * (2 : Rat) ^ (e : Int) := by rw [← pw_add]; congr 1; omega
    rw [this]; grind
  rw [hVW]
  -- the size of it
  have hlog1 := Nat.log2_self_le hm
  have hlog2 : m < 2 ^ (m.log2 + 1) := Nat.lt_log2_self
  have hBF : (f.binade : Rat) = (2 : Rat) ^ (f.fractionBits : Int) := by rw [pw_nat]; rfl
  have hW2 : W < 2 * f.binade := by
    have h1 : (m : Rat) < (2 : Rat) ^ ((m.log2 + 1 : Nat) : Int) := by rw [pw_nat]; exact nat_rat_lt hlog2
    have h2 : W < (2 : Rat) ^ ((m.log2 + 1 : Nat) : Int) * (2 : Rat) ^ (p - last) := by
      rw [hW]; exact Rat.mul_lt_mul_of_pos_right h1 (pw_pos _)
    have h3 : (2 : Rat) ^ ((m.log2 + 1 : Nat) : Int) * (2 : Rat) ^ (p - last) ≤ 2 * f.binade := by
      rw [← pw_add, hBF]
      have e21 : (2 : Rat) ^ (1 : Int) = 2 := by decide +kernel
      have h4 : (2 : Rat) * (2 : Rat) ^ (f.fractionBits : Int) = (2 : Rat) ^ ((f.fractionBits : Int) + 1) := by rw [pw_add, e21]; grind
      rw [h4]
      have h5 : ((m.log2 + 1 : Nat) : Int) + (p - last) ≤ (f.fractionBits : Int) + 1 := by omega
      obtain ⟨n, hn⟩ : ∃ n : Nat, (f.fractionBits : Int) + 1 = ((m.log2 + 1 : Nat) : Int) + (p - last) + n := ⟨((f.fractionBits : Int) + 1 - (((m.log2 + 1 : Nat) : Int) + (p - last))).toNat, by omega⟩
      rw [hn, pw_add _ (n : Int)]
      have h6 : (1 : Rat) ≤ (2 : Rat) ^ (n : Int) := by rw [pw_nat]; have := nat_rat_le (Nat.one_le_two_pow (n := n)); simpa using this
      have h7 := pw_pos (((m.log2 + 1 : Nat) : Int) + (p - last))
      have := Rat.mul_le_mul_of_nonneg_left h6 (Rat.le_of_lt h7)
      grind
    grind
  have hW1 : e = 0 ∨ (f.binade : Rat) ≤ W := by
    rcases Nat.eq_zero_or_pos e with h0 | h0
    · exact .inl h0
    · right
      have hl : last = p + m.log2 - f.fractionBits := by omega
      have h1 : (2 : Rat) ^ ((m.log2 : Nat) : Int) ≤ (m : Rat) := by rw [pw_nat]; exact nat_rat_le hlog1
      have h2 : (2 : Rat) ^ ((m.log2 : Nat) : Int) * (2 : Rat) ^ (p - last) ≤ W := by
        rw [hW]; exact Rat.mul_le_mul_of_nonneg_right h1 (Rat.le_of_lt (pw_pos _))
      rw [← pw_add] at h2
      have h3 : ((m.log2 : Nat) : Int) + (p - last) = f.fractionBits := by omega
      rw [h3, ← hBF] at h2
      exact h2
  have hW0 : 0 ≤ W := by rw [hW]; exact Rat.mul_nonneg Rat.natCast_nonneg (Rat.le_of_lt (pw_pos _))
  have hk2 : k ≤ 2 * f.binade := by
    have h1 : (2 * k : Nat) < 4 * f.binade + 2 := by
      have : ((2 * k : Nat) : Rat) < ((4 * f.binade + 2 : Nat) : Rat) := by
        rw [Rat.natCast_mul, Rat.natCast_add, Rat.natCast_mul]
        have e2 : ((2 : Nat) : Rat) = 2 := rfl
        have e4 : ((4 : Nat) : Rat) = 4 := rfl
        rw [e2, e4]; grind
      exact Rat.natCast_lt_natCast.1 this
    omega
  have hk1 : e = 0 ∨ f.binade ≤ k := by
    rcases hW1 with h | h
    · exact .inl h
    · right
      have : (2 * f.binade : Nat) < 2 * k + 2 := by
        have : ((2 * f.binade : Nat) : Rat) < ((2 * k + 2 : Nat) : Rat) := by
          rw [Rat.natCast_mul, Rat.natCast_add, Rat.natCast_mul]
          have e2 : ((2 : Nat) : Rat) = 2 := rfl
          rw [e2]; grind
        exact Rat.natCast_lt_natCast.1 this
      omega
  have hE : (0 : Rat) < (2 : Rat) ^ e := Rat.pow_pos (by decide)
  have hEn : ∀ j : Nat, ((j * 2 ^ e : Nat) : Rat) = (j : Rat) * (2 : Rat) ^ e := fun j => by rw [Rat.natCast_mul, Rat.natCast_pow]; rfl
  obtain ⟨R, hR⟩ : ∃ R, R = e * f.binade + k := ⟨_, rfl⟩
  have hnR : (nval f R : Rat) = (k : Rat) * (2 : Rat) ^ e := by rw [hR, nval_rung f e k hk1 hk2, hEn]
  have hpar : R % 2 = k % 2 := by rw [hR]; exact binade_even f hF e k
  -- below
  have hlow : R = 0 ∨ ((nval f (R - 1) : Rat) + nval f R ≤ 2 * (W * (2 : Rat) ^ e) ∧ (R % 2 = 1 → (nval f (R - 1) : Rat) + nval f R < 2 * (W * (2 : Rat) ^ e))) := by
    rcases Nat.eq_zero_or_pos R with h0 | h0
    · exact .inl h0
    · right
      by_cases hkb : e = 0 ∨ f.binade + 1 ≤ k
      · have hk0 : 1 ≤ k := by
          rcases hkb with h | h
          · subst h; omega
          · omega
        have hprev : (nval f (R - 1) : Rat) = ((k : Rat) - 1) * (2 : Rat) ^ e := by
          have : R - 1 = e * f.binade + (k - 1) := by omega
          rw [this, nval_rung f e (k - 1) (by omega) (by omega), hEn]
          congr 1
          have : ((k - 1 + 1 : Nat) : Rat) = (k : Rat) := by congr 1; omega
          rw [Rat.natCast_add] at this
          have e1 : ((1 : Nat) : Rat) = 1 := rfl
          rw [e1] at this; grind
        rw [hprev, hnR]
        have g1 := Rat.mul_le_mul_of_nonneg_right d1 (Rat.le_of_lt hE)
        refine ⟨by grind, fun h => ?_⟩
        have g2 := Rat.mul_lt_mul_of_pos_right (d3 (by omega)).1 hE
        grind
      · have he1 : e ≠ 0 := fun h => hkb (.inl h)
        have hke : k = f.binade := by have := hk1.resolve_left he1; omega
        have hWb := hW1.resolve_left he1
        have hprev : (nval f (R - 1) : Rat) < nval f R := nat_rat_lt (nval_lt (by omega))
        have g1 := Rat.mul_le_mul_of_nonneg_right hWb (Rat.le_of_lt hE)
        rw [hnR] at hprev ⊢
        have hkr : (k : Rat) = f.binade := by rw [hke]
        rw [hkr] at hprev ⊢
        exact ⟨by grind, fun _ => by grind⟩
  -- above
  have hhigh : 2 * (W * (2 : Rat) ^ e) ≤ (nval f R : Rat) + nval f (R + 1) ∧ (R % 2 = 1 → 2 * (W * (2 : Rat) ^ e) < (nval f R : Rat) + nval f (R + 1)) := by
    by_cases hkb : k + 1 ≤ 2 * f.binade
    · have hnext : (nval f (R + 1) : Rat) = ((k : Rat) + 1) * (2 : Rat) ^ e := by
        have : R + 1 = e * f.binade + (k + 1) := by omega
        rw [this, nval_rung f e (k + 1) (by omega) hkb, hEn, Rat.natCast_add]; rfl
      rw [hnext, hnR]
      have g1 := Rat.mul_le_mul_of_nonneg_right d2 (Rat.le_of_lt hE)
      refine ⟨by grind, fun h => ?_⟩
      have g2 := Rat.mul_lt_mul_of_pos_right (d3 (by omega)).2 hE
      grind
    · have hke : k = 2 * f.binade := by omega
      have hnext : (nval f R : Rat) < nval f (R + 1) := nat_rat_lt (nval_lt (by omega))
      have g1 := Rat.mul_lt_mul_of_pos_right hW2 hE
      rw [hnR] at hnext ⊢
      have hkr : (k : Rat) = 2 * f.binade := by rw [hke, Rat.natCast_mul]; rfl
      rw [hkr] at hnext ⊢
      exact ⟨by grind, fun _ => by grind⟩
  rw [Int.toNat_natCast, ← hR]
  refine ⟨min R f.infRung, rfl, Nat.min_le_right _ _, ?_, ?_⟩
  · rcases Nat.lt_or_ge f.infRung R with h | h
    · rw [Nat.min_eq_right (by omega)]
      rcases Nat.eq_zero_or_pos f.infRung with h0 | h0
      · exact .inl h0
      · right
        have hev : f.infRung % 2 = 0 := by
          unfold Format.infRung
          have := binade_even f hF (2 ^ f.exponentBits - 1) 0
          simpa using this
        obtain ⟨l1, _⟩ := hlow.resolve_left (by omega)
        have a1 : (nval f (f.infRung - 1) : Rat) ≤ nval f (R - 1) := nat_rat_le (nval_le (by omega))
        have a2 : (nval f f.infRung : Rat) ≤ nval f R := nat_rat_le (nval_le (by omega))
        exact ⟨by grind, fun h => by omega⟩
    · rw [Nat.min_eq_left h]; exact hlow
  · rcases Nat.lt_or_ge R f.infRung with h | h
    · rw [Nat.min_eq_left (by omega)]; exact .inr hhigh
    · rw [Nat.min_eq_right h]; exact .inl rfl
end Go.Proofs.Ytnkikigfpdngdaa
/- Plain laws of floats as rational numbers: each operation leaves the nearest number. No condition. -/
namespace Go.Proofs.Ytnkikigfpdngdaa
open Go Go.RowKit Ieee
set_option linter.unusedVariables false
set_option linter.unusedSimpArgs false
theorem rat_tri (a b : Rat) : a < b ∨ a = b ∨ b < a := by grind
def rabs (q : Rat) : Rat := if q < 0 then -q else q
theorem rabs_nonneg (q : Rat) : 0 ≤ rabs q := by unfold rabs; split <;> grind
theorem rabs_pos {q : Rat} (h : 0 ≤ q) : rabs q = q := by unfold rabs; rw [if_neg (by grind)]
theorem rabs_neg {q : Rat} (h : q ≤ 0) : rabs q = -q := by unfold rabs; split <;> grind
theorem sg_abs (s : Bool) {v : Rat} (hv : 0 ≤ v) : rabs (sg s * v) = v := by
  unfold sg
  cases s
  · simp only [Bool.false_eq_true, if_false]; rw [Rat.one_mul, rabs_pos hv]
  · simp only [if_true]; rw [rabs_neg (by grind)]; grind
/-- the word of the number nearest to 'q' -/
def Near (f : Format) (q : Rat) (w : Nat) : Prop :=
  ∃ s r, w = f.word s r ∧ Mid f (rabs q * (2 : Rat) ^ (-f.leastPlace)) r ∧ (q < 0 → s = true) ∧ (0 < q → s = false)
/-- a finite word -/
def Fin (f : Format) (w : Nat) : Prop := ∃ s r, w = f.word s r ∧ r < f.infRung
/-- what a word is worth -/
def val (f : Format) (w : Nat) : Rat := rv (f.read w)
theorem read_num (f : Format) (s : Bool) {r : Nat} (hr : r < f.infRung) : ∃ m p, f.read (f.word s r) = .number s m p ∧ (m : Rat) * (2 : Rat) ^ p = (nval f r : Rat) * (2 : Rat) ^ f.leastPlace := by
  obtain ⟨m, p, h1, h2, h3⟩ := read_fin f s hr
  refine ⟨m, p, h1, ?_⟩
  rw [← h3, Nat.shiftLeft_eq, Rat.natCast_mul, ← pw_nat]
  have : (2 : Rat) ^ p = (2 : Rat) ^ (((p - f.leastPlace).toNat : Nat) : Int) * (2 : Rat) ^ f.leastPlace := by rw [← pw_add]; congr 1; omega
  rw [this]; grind
theorem val_word (f : Format) (s : Bool) {r : Nat} (hr : r < f.infRung) : val f (f.word s r) = sg s * ((nval f r : Rat) * (2 : Rat) ^ f.leastPlace) := by
  obtain ⟨m, p, h1, h2⟩ := read_num f s hr
  unfold val
  rw [h1]
  unfold rv num
  rw [← h2]; grind
theorem pw_cancel (p : Int) : (2 : Rat) ^ p * (2 : Rat) ^ (-p) = 1 := by
  rw [← pw_add, show p + -p = 0 by omega, pw_zero]
theorem units (f : Format) (v : Rat) : v * (2 : Rat) ^ f.leastPlace * (2 : Rat) ^ (-f.leastPlace) = v := by
  rw [Rat.mul_assoc, pw_cancel]; grind
theorem units' (f : Format) (v : Rat) : v * (2 : Rat) ^ (-f.leastPlace) * (2 : Rat) ^ f.leastPlace = v := by
  rw [Rat.mul_assoc, Rat.mul_comm ((2 : Rat) ^ (-f.leastPlace)), pw_cancel]; grind
theorem word_inj {f : Format} {s t : Bool} {r q : Nat} (hr : r < f.signWeight) (hq : q < f.signWeight) (h : f.word s r = f.word t q) : s = t ∧ r = q := by
  unfold Format.word at h
  cases s <;> cases t <;> simp at h ⊢ <;> omega
/-- a number of the format is what is nearest to itself -/
theorem Near.exact {f : Format} {w : Nat} (h : Fin f w) {q : Rat} (hq : q = val f w) (h0 : q ≠ 0) {w' : Nat} (hn : Near f q w') : w' = w := by
  obtain ⟨s, r, rfl, hr⟩ := h
  obtain ⟨t, r', rfl, hm, h1, h2⟩ := hn
  rw [val_word f s hr] at hq
  have hp := pw_pos f.leastPlace
  have hn0 : (0 : Rat) ≤ nval f r := Rat.natCast_nonneg
  have hv0 : (0 : Rat) ≤ (nval f r : Rat) * (2 : Rat) ^ f.leastPlace := Rat.mul_nonneg hn0 (Rat.le_of_lt hp)
  have ha : rabs q = (nval f r : Rat) * (2 : Rat) ^ f.leastPlace := by rw [hq]; exact sg_abs s hv0
  rw [ha, units] at hm
  have e := hm.unique (Mid.exact (Nat.le_of_lt hr))
  subst e
  have : t = s := by
    unfold sg at hq
    cases s
    · simp only [Bool.false_eq_true, if_false] at hq
      rw [Rat.one_mul] at hq
      exact h2 (by grind)
    · simp only [if_true] at hq
      exact h1 (by grind)
  rw [this]
/-- the same where zeros are not told apart -/
theorem Near.val_exact {f : Format} {w : Nat} (h : Fin f w) {q : Rat} (hq : q = val f w) {w' : Nat} (hn : Near f q w') : Fin f w' ∧ val f w' = q := by
  by_cases h0 : q = 0
  · obtain ⟨t, r', rfl, hm, h1, h2⟩ := hn
    obtain ⟨s, r, rfl, hr⟩ := h
    have : Mid f (rabs q * (2 : Rat) ^ (-f.leastPlace)) 0 := by
      rw [h0, rabs_pos Rat.le_refl, Rat.zero_mul]
      have := Mid.exact (f := f) (r := 0) (Nat.zero_le _)
      rw [nval_zero] at this; exact this
    have e := hm.unique this
    subst e
    have hi : 0 < f.infRung := by omega
    refine ⟨⟨t, 0, rfl, hi⟩, ?_⟩
    rw [val_word f t hi, nval_zero, h0]
    have e0 : ((0 : Nat) : Rat) = 0 := rfl
    rw [e0]; grind
  · have := hn.exact h hq h0
    subst this
    exact ⟨h, hq.symm⟩
theorem abs_val (f : Format) (s : Bool) {r : Nat} (hr : r < f.infRung) : rabs (val f (f.word s r)) * (2 : Rat) ^ (-f.leastPlace) = nval f r := by
  rw [val_word f s hr, sg_abs s (Rat.mul_nonneg Rat.natCast_nonneg (Rat.le_of_lt (pw_pos _))), units]
/-- nearest numbers stand as the numbers do -/
theorem Near.mono {f : Format} {q q' : Rat} {w w' : Nat} (h : Near f q w) (h' : Near f q' w') (hw : Fin f w) (hw' : Fin f w') (hI : f.infRung < f.signWeight) (hq : q ≤ q') : val f w ≤ val f w' := by
  obtain ⟨s, r, rfl, hm, h1, h2⟩ := h
  obtain ⟨t, r', rfl, hm', h1', h2'⟩ := h'
  obtain ⟨s0, r0, e0, hr⟩ := hw
  obtain ⟨t0, r0', e0', hr'⟩ := hw'
  obtain ⟨rfl, rfl⟩ := word_inj (by have := hm.le; omega) (by omega) e0
  obtain ⟨rfl, rfl⟩ := word_inj (by have := hm'.le; omega) (by omega) e0'
  rw [val_word f _ hr, val_word f _ hr']
  have hp := pw_pos f.leastPlace
  have hpn := pw_pos (-f.leastPlace)
  have n0 : (0 : Rat) ≤ (nval f r : Rat) * (2 : Rat) ^ f.leastPlace := Rat.mul_nonneg Rat.natCast_nonneg (Rat.le_of_lt hp)
  have n1 : (0 : Rat) ≤ (nval f r' : Rat) * (2 : Rat) ^ f.leastPlace := Rat.mul_nonneg Rat.natCast_nonneg (Rat.le_of_lt hp)
  have zero : ∀ {x : Rat} {k : Nat}, x = 0 → Mid f (rabs x * (2 : Rat) ^ (-f.leastPlace)) k → k = 0 := by
    intro x k hx hk
    rw [hx, rabs_pos Rat.le_refl, Rat.zero_mul] at hk
    have := Mid.exact (f := f) (r := 0) (Nat.zero_le _)
    rw [nval_zero] at this
    exact hk.unique this
  have z0 : (nval f 0 : Rat) = 0 := by rw [nval_zero]; rfl
  unfold sg
  rcases rat_tri q 0 with a | a | a
  · rw [h1 a]
    rcases rat_tri q' 0 with b | b | b
    · rw [h1' b]
      have hle : rabs q' * (2 : Rat) ^ (-f.leastPlace) ≤ rabs q * (2 : Rat) ^ (-f.leastPlace) := by
        apply Rat.mul_le_mul_of_nonneg_right _ (Rat.le_of_lt hpn)
        rw [rabs_neg (Rat.le_of_lt a), rabs_neg (Rat.le_of_lt b)]; grind
      have := nat_rat_le (nval_le (f := f) (hm'.mono hm hle))
      have := Rat.mul_le_mul_of_nonneg_right this (Rat.le_of_lt hp)
      simp only [if_true]; grind
    · have := zero b hm'
      subst this
      rw [z0]
      simp only [if_true]; grind
    · rw [h2' b]
      simp only [if_true, Bool.false_eq_true, if_false]; grind
  · have := zero a hm
    subst this
    rw [z0]
    rcases rat_tri q' 0 with b | b | b
    · grind
    · have := zero b hm'
      subst this
      rw [z0]; grind
    · rw [h2' b]
      simp only [Bool.false_eq_true, if_false]; grind
  · rw [h2 a, h2' (by grind)]
    have hle : rabs q * (2 : Rat) ^ (-f.leastPlace) ≤ rabs q' * (2 : Rat) ^ (-f.leastPlace) := by
      apply Rat.mul_le_mul_of_nonneg_right _ (Rat.le_of_lt hpn)
      rw [rabs_pos (Rat.le_of_lt a), rabs_pos (by grind)]; exact hq
    have := nat_rat_le (nval_le (f := f) (hm.mono hm' hle))
    have := Rat.mul_le_mul_of_nonneg_right this (Rat.le_of_lt hp)
    simp only [Bool.false_eq_true, if_false]; grind
/-- what is written for a number -/
theorem near_num (f : Format) (hF : 1 ≤ f.fractionBits) (s : Bool) (m : Nat) (p : Int) : Near f (num s m p) (f.nearest s m p) := by
  obtain ⟨r, h1, h2⟩ := near_mid f hF s m p
  have hp := pw_pos p
  have hm : (0 : Rat) ≤ m := Rat.natCast_nonneg
  have hv : (0 : Rat) ≤ (m : Rat) * (2 : Rat) ^ p := Rat.mul_nonneg hm (Rat.le_of_lt hp)
  refine ⟨s, r, h1, ?_, ?_, ?_⟩
  · have e : num s m p = sg s * ((m : Rat) * (2 : Rat) ^ p) := by unfold num; grind
    rw [e, sg_abs s hv]
    have : (2 : Rat) ^ (p - f.leastPlace) = (2 : Rat) ^ p * (2 : Rat) ^ (-f.leastPlace) := by rw [← pw_add]; congr 1
    rw [this] at h2
    rw [Rat.mul_assoc]; exact h2
  · intro h
    unfold num sg at h
    cases s
    · simp only [Bool.false_eq_true, if_false] at h
      grind
    · rfl
  · intro h
    unfold num sg at h
    cases s
    · rfl
    · simp only [if_true] at h
      grind
end Go.Proofs.Ytnkikigfpdngdaa
/- Plain laws of floats as rational numbers: quotients. No condition. -/
namespace Go.Proofs.Ytnkikigfpdngdaa
open Go Go.RowKit Ieee
set_option linter.unusedVariables false
set_option linter.unusedSimpArgs false
theorem nval_dvd (f : Format) {k r : Nat} (h : (k + 1) * f.binade ≤ r) : ∃ b, nval f r = b * 2 ^ k := by
  have hB := binade_pos f
  have hr : f.binade ≤ r := by
    have : f.binade ≤ (k + 1) * f.binade := Nat.le_mul_of_pos_left _ (by omega)
    omega
  unfold nval
  rw [if_neg (by omega)]
  have h1 : k + 1 ≤ r / f.binade := (Nat.le_div_iff_mul_le hB).2 h
  obtain ⟨d, hd⟩ : ∃ d, r / f.binade - 1 = d + k := ⟨r / f.binade - 1 - k, by omega⟩
  rw [hd, Nat.pow_add]
  exact ⟨(f.binade + r % f.binade) * 2 ^ d, by rw [Nat.mul_assoc]⟩
theorem nval_head (f : Format) (k : Nat) : nval f ((k + 1) * f.binade) = f.binade * 2 ^ k := by
  have := nval_rung f k f.binade (.inr (Nat.le_refl _)) (by omega)
  rw [← this]; congr 1; rw [Nat.add_mul]; omega
/-- between a number and one that a bit stands for no threshold lies -/
theorem sticky_mid (f : Format) (hF : 1 ≤ f.fractionBits) (dq : Nat) (hd : 2 ^ (f.fractionBits + 1) ≤ dq) (P : Int) {Q : Rat} {r : Nat}
    (hm : Mid f (((2 * dq + 1 : Nat) : Rat) * (2 : Rat) ^ P) r) (q1 : ((2 * dq : Nat) : Rat) * (2 : Rat) ^ P < Q) (q2 : Q < ((2 * dq + 2 : Nat) : Rat) * (2 : Rat) ^ P) : Mid f Q r := by
  have hB := binade_pos f
  have hc := pw_pos P
  have e4 : (2 : Rat) ^ (P + 2) = 4 * (2 : Rat) ^ P := by
    have : (2 : Rat) ^ (2 : Int) = 4 := by decide +kernel
    rw [pw_add, this]; grind
  rw [Rat.natCast_add, Rat.natCast_mul] at hm q2
  rw [Rat.natCast_mul] at q1
  have c2 : ((2 : Nat) : Rat) = 2 := rfl
  have c1 : ((1 : Nat) : Rat) = 1 := rfl
  rw [c2] at hm q1 q2
  rw [c1] at hm
  -- a multiple of four units
  have low : ∀ b : Nat, (b : Rat) * (2 : Rat) ^ (P + 2) ≤ 2 * ((2 * (dq : Rat) + 1) * (2 : Rat) ^ P) → (b : Rat) * (2 : Rat) ^ (P + 2) < 2 * Q := by
    intro b hb
    rw [e4] at hb ⊢
    have h1 : 4 * (b : Rat) ≤ 4 * (dq : Rat) + 2 := by apply Rat.le_of_mul_le_mul_right _ hc; grind
    have h2 : b ≤ dq := by
      have : ((4 * b : Nat) : Rat) < ((4 * dq + 3 : Nat) : Rat) := by
        rw [Rat.natCast_mul, Rat.natCast_add, Rat.natCast_mul]
        have c4 : ((4 : Nat) : Rat) = 4 := rfl
        have c3 : ((3 : Nat) : Rat) = 3 := rfl
        rw [c4, c3]; grind
      have := Rat.natCast_lt_natCast.1 this
      omega
    have h3 := Rat.mul_le_mul_of_nonneg_right (nat_rat_le h2) (Rat.le_of_lt hc)
    grind
  have high : ∀ b : Nat, 2 * ((2 * (dq : Rat) + 1) * (2 : Rat) ^ P) ≤ (b : Rat) * (2 : Rat) ^ (P + 2) → 2 * Q < (b : Rat) * (2 : Rat) ^ (P + 2) := by
    intro b hb
    rw [e4] at hb ⊢
    have h1 : 4 * (dq : Rat) + 2 ≤ 4 * (b : Rat) := by apply Rat.le_of_mul_le_mul_right _ hc; grind
    have h2 : dq + 1 ≤ b := by
      have : ((4 * dq + 1 : Nat) : Rat) < ((4 * b : Nat) : Rat) := by
        rw [Rat.natCast_mul, Rat.natCast_add, Rat.natCast_mul]
        have c4 : ((4 : Nat) : Rat) = 4 := rfl
        rw [c4, c1]; grind
      have := Rat.natCast_lt_natCast.1 this
      omega
    have h3 := Rat.mul_le_mul_of_nonneg_right (nat_rat_le h2) (Rat.le_of_lt hc)
    rw [Rat.natCast_add, c1] at h3
    grind
  by_cases hk : P + 2 ≤ 0
  · -- fine units: every threshold is such a multiple
    obtain ⟨k, hkk⟩ : ∃ k : Nat, P + 2 = -(k : Int) := ⟨(-(P + 2)).toNat, by omega⟩
    have mult : ∀ N : Nat, (N : Rat) = ((N * 2 ^ k : Nat) : Rat) * (2 : Rat) ^ (P + 2) := by
      intro N
      rw [hkk, Rat.natCast_mul, ← pw_nat, Rat.mul_assoc, pw_cancel]; grind
    refine ⟨hm.le, ?_, ?_⟩
    · rcases hm.low with h | ⟨h1, h2⟩
      · exact .inl h
      · right
        have := low ((nval f (r - 1) + nval f r) * 2 ^ k) (by rw [← mult, Rat.natCast_add]; exact h1)
        rw [← mult, Rat.natCast_add] at this
        exact ⟨Rat.le_of_lt this, fun _ => this⟩
    · rcases hm.high with h | ⟨h1, h2⟩
      · exact .inl h
      · right
        have := high ((nval f r + nval f (r + 1)) * 2 ^ k) (by rw [← mult, Rat.natCast_add]; exact h1)
        rw [← mult, Rat.natCast_add] at this
        exact ⟨Rat.le_of_lt this, fun _ => this⟩
  · obtain ⟨k, hkk⟩ : ∃ k : Nat, P + 2 = (k : Int) := ⟨(P + 2).toNat, by omega⟩
    rw [hkk] at e4 low high
    -- the number is great
    have hbig : ((f.binade * 2 ^ k : Nat) : Rat) ≤ (2 * (dq : Rat) + 1) * (2 : Rat) ^ P := by
      have h1 : (f.binade * 2 : Nat) ≤ dq := by
        have : 2 ^ (f.fractionBits + 1) = f.binade * 2 := by rw [Nat.pow_succ]; rfl
        omega
      have h2 := Rat.mul_le_mul_of_nonneg_right (nat_rat_le h1) (Rat.le_of_lt hc)
      rw [Rat.natCast_mul, ← pw_nat, e4]
      rw [Rat.natCast_mul, c2] at h2
      grind
    have hdq : ((f.binade * 2 ^ k : Nat) : Rat) * 2 < 2 * Q := by
      have h1 : (f.binade * 2 : Nat) ≤ dq := by
        have : 2 ^ (f.fractionBits + 1) = f.binade * 2 := by rw [Nat.pow_succ]; rfl
        omega
      have h2 := Rat.mul_le_mul_of_nonneg_right (nat_rat_le h1) (Rat.le_of_lt hc)
      rw [Rat.natCast_mul, ← pw_nat, e4]
      rw [Rat.natCast_mul, c2] at h2
      grind
    have hrk : (k + 1) * f.binade ≤ f.infRung → (k + 1) * f.binade ≤ r := by
      intro hle
      exact (Mid.exact hle).mono hm (by rw [nval_head]; exact hbig)
    refine ⟨hm.le, ?_, ?_⟩
    · rcases hm.low with h | ⟨h1, h2⟩
      · exact .inl h
      · right
        have key : (nval f (r - 1) : Rat) + nval f r < 2 * Q := by
          rcases Nat.lt_or_ge ((k + 1) * f.binade) r with h3 | h3
          · obtain ⟨b1, e1⟩ := nval_dvd f (k := k) (r := r - 1) (by omega)
            obtain ⟨b2, e2⟩ := nval_dvd f (k := k) (r := r) (by omega)
            have e : (nval f (r - 1) : Rat) + nval f r = ((b1 + b2 : Nat) : Rat) * (2 : Rat) ^ (k : Int) := by
              rw [e1, e2, Rat.natCast_mul, Rat.natCast_mul, ← pw_nat, Rat.natCast_add]; grind
            rw [e]; apply low; rw [← e]; exact h1
          · have a1 : (nval f (r - 1) : Rat) ≤ ((f.binade * 2 ^ k : Nat) : Rat) := by rw [← nval_head]; exact nat_rat_le (nval_le (by omega))
            have a2 : (nval f r : Rat) ≤ ((f.binade * 2 ^ k : Nat) : Rat) := by rw [← nval_head]; exact nat_rat_le (nval_le h3)
            grind
        exact ⟨Rat.le_of_lt key, fun _ => key⟩
    · rcases hm.high with h | ⟨h1, h2⟩
      · exact .inl h
      · rcases Nat.lt_or_ge f.infRung ((k + 1) * f.binade) with h3 | h3
        · left
          refine Nat.le_antisymm hm.le ((Mid.exact (Nat.le_refl _)).mono hm ?_)
          have : (nval f f.infRung : Rat) ≤ ((f.binade * 2 ^ k : Nat) : Rat) := by rw [← nval_head]; exact nat_rat_le (nval_le (by omega))
          grind
        · right
          have hr := hrk h3
          obtain ⟨b1, e1⟩ := nval_dvd f (k := k) (r := r) hr
          obtain ⟨b2, e2⟩ := nval_dvd f (k := k) (r := r + 1) (by omega)
          have e : (nval f r : Rat) + nval f (r + 1) = ((b1 + b2 : Nat) : Rat) * (2 : Rat) ^ (k : Int) := by
            rw [e1, e2, Rat.natCast_mul, Rat.natCast_mul, ← pw_nat, Rat.natCast_add]; grind
          have key : 2 * Q < (nval f r : Rat) + nval f (r + 1) := by
            rw [e]; apply high; rw [← e]; exact h1
          exact ⟨Rat.le_of_lt key, fun _ => key⟩
theorem sg_xor (s t : Bool) : sg (s ^^ t) = sg s * sg t := by cases s <;> cases t <;> decide +kernel
theorem sg_sq (s : Bool) : sg s * sg s = 1 := by cases s <;> decide +kernel
/-- a quotient -/
theorem quo_near (f : Format) (hF : 1 ≤ f.fractionBits) (s t : Bool) (m n : Nat) (i j : Int) (hn : n ≠ 0) :
    ∃ d, (Datum.number s m i).quotient (f.fractionBits + 2) (.number t n j) = some d ∧ Near f (num s m i / num t n j) (f.write d) := by
  unfold Datum.quotient
  simp only [if_neg hn]
  refine ⟨_, rfl, ?_⟩
  simp only [Format.write]
  obtain ⟨more, hmore⟩ : ∃ more, more = f.fractionBits + 2 + n.log2 - m.log2 := ⟨_, rfl⟩
  rw [← hmore, Nat.shiftLeft_eq]
  obtain ⟨dv, hdv⟩ : ∃ dv, dv = m * 2 ^ more := ⟨_, rfl⟩
  rw [← hdv]
  have hn0 : 0 < n := Nat.pos_of_ne_zero hn
  have hnr : (0 : Rat) < n := by have := nat_rat_lt hn0; simpa using this
  obtain ⟨P, hP⟩ : ∃ P : Int, P = i - j - more - 1 := ⟨_, rfl⟩
  rw [← hP]
  -- the quotient's value
  obtain ⟨A, hA⟩ : ∃ A : Rat, A = 2 * ((dv : Rat) / n) * (2 : Rat) ^ P := ⟨_, rfl⟩
  have hA0 : 0 ≤ A := by
    rw [hA]
    refine Rat.mul_nonneg (Rat.mul_nonneg (by decide) ?_) (Rat.le_of_lt (pw_pos _))
    rw [Rat.div_def]
    exact Rat.mul_nonneg Rat.natCast_nonneg (Rat.le_of_lt (Rat.inv_pos.2 hnr))
  have hval : num s m i / num t n j = sg (s ^^ t) * A := by
    have h1 : num t n j ≠ 0 := by
      have := pw_pos j
      unfold num sg
      cases t
      · simp only [Bool.false_eq_true, if_false]; have := Rat.mul_pos hnr this; grind
      · simp only [if_true]; have := Rat.mul_pos hnr this; grind
    have h2 : num s m i = sg (s ^^ t) * A * num t n j := by
      rw [hA, hdv, sg_xor, Rat.natCast_mul, ← pw_nat]
      unfold num
      have e1 : (2 : Rat) ^ i = 2 * (2 : Rat) ^ (more : Int) * (2 : Rat) ^ P * (2 : Rat) ^ j := by
        have e21 : (2 : Rat) ^ (1 : Int) = 2 := by decide +kernel
        have e22 : (2 : Rat) ^ i = (2 : Rat) ^ (1 : Int) * (2 : Rat) ^ (more : Int) * (2 : Rat) ^ P * (2 : Rat) ^ j := by rw [← pw_add, ← pw_add, ← pw_add]; congr 1; omega
        rw [e21] at e22; exact e22
      have e2 : ((m : Rat) * (2 : Rat) ^ (more : Int)) / n * n = (m : Rat) * (2 : Rat) ^ (more : Int) := Rat.div_mul_cancel (by grind)
      have e3 := sg_sq t
      rw [e1]
      generalize ((m : Rat) * (2 : Rat) ^ (more : Int)) / n = z at *
      generalize (2 : Rat) ^ (more : Int) = a at *
      grind
    rw [h2, Rat.mul_div_cancel h1]
  rw [hval]
  have hsgn : ∀ {w : Nat} {r : Nat}, w = f.word (s ^^ t) r → Mid f (A * (2 : Rat) ^ (-f.leastPlace)) r → Near f (sg (s ^^ t) * A) w := by
    intro w r h1 h2
    refine ⟨s ^^ t, r, h1, by rw [sg_abs _ hA0]; exact h2, ?_, ?_⟩
    · intro h
      unfold sg at h
      cases hs : (s ^^ t)
      · rw [hs] at h; simp only [Bool.false_eq_true, if_false] at h; grind
      · rfl
    · intro h
      unfold sg at h
      cases hs : (s ^^ t)
      · rfl
      · rw [hs] at h; simp only [if_true] at h; grind
  obtain ⟨r, h1, h2⟩ := near_mid f hF (s ^^ t) (2 * (dv / n) + (dv % n != 0).toNat) P
  refine hsgn h1 ?_
  have eP : (2 : Rat) ^ (P - f.leastPlace) = (2 : Rat) ^ P * (2 : Rat) ^ (-f.leastPlace) := by rw [← pw_add]; congr 1
  have hdm := Nat.div_add_mod dv n
  have hml := Nat.mod_lt dv hn0
  have hdvr : (dv : Rat) / n * n = dv := Rat.div_mul_cancel (by grind)
  by_cases hrem : dv % n = 0
  · have e0 : (dv % n != 0).toNat = 0 := by rw [hrem]; rfl
    rw [e0, Nat.add_zero] at h2
    have e1 : (dv : Rat) / n = ((dv / n : Nat) : Rat) := by
      have : ((n * (dv / n) : Nat) : Rat) = dv := by congr 1; omega
      rw [Rat.natCast_mul] at this
      rw [← this, Rat.mul_comm, Rat.mul_div_cancel (by grind)]
    have e2 : A * (2 : Rat) ^ (-f.leastPlace) = ((2 * (dv / n) : Nat) : Rat) * (2 : Rat) ^ (P - f.leastPlace) := by
      rw [hA, e1, eP, Rat.natCast_mul]; have c2 : ((2 : Nat) : Rat) = 2 := rfl
      rw [c2]; grind
    rw [e2]; exact h2
  · have e0 : (dv % n != 0).toNat = 1 := by simp [hrem]
    rw [e0] at h2
    have hm0 : m ≠ 0 := by intro h; subst h; rw [hdv] at hrem; simp at hrem
    refine sticky_mid f hF (dv / n) ?_ (P - f.leastPlace) h2 ?_ ?_
    · rw [Nat.le_div_iff_mul_le hn0]
      have a1 : n < 2 ^ (n.log2 + 1) := Nat.lt_log2_self
      have a2 : 2 ^ m.log2 ≤ m := Nat.log2_self_le hm0
      have a3 : 2 ^ (f.fractionBits + 1) * n ≤ 2 ^ (f.fractionBits + 1) * 2 ^ (n.log2 + 1) := Nat.mul_le_mul_left _ (Nat.le_of_lt a1)
      rw [← Nat.pow_add] at a3
      have a4 : 2 ^ (m.log2 + more) ≤ dv := by rw [hdv, Nat.pow_add]; exact Nat.mul_le_mul_right _ a2
      have a5 : 2 ^ (f.fractionBits + 1 + (n.log2 + 1)) ≤ 2 ^ (m.log2 + more) := Nat.pow_le_pow_right (by decide) (by omega)
      omega
    · rw [hA, eP, Rat.natCast_mul]
      have c2 : ((2 : Nat) : Rat) = 2 := rfl
      rw [c2]
      have b1 : ((dv / n : Nat) : Rat) < (dv : Rat) / n := by
        rw [← Rat.not_le]; intro h
        have := Rat.mul_le_mul_of_nonneg_right h (Rat.le_of_lt hnr)
        rw [hdvr] at this
        have b2 : ((n * (dv / n) + 1 : Nat) : Rat) ≤ dv := nat_rat_le (by omega)
        rw [Rat.natCast_add, Rat.natCast_mul] at b2
        have c1 : ((1 : Nat) : Rat) = 1 := rfl
        rw [c1] at b2; grind
      have hc := Rat.mul_pos (pw_pos P) (pw_pos (-f.leastPlace))
      have := Rat.mul_lt_mul_of_pos_right b1 hc
      grind
    · rw [hA, eP, Rat.natCast_add, Rat.natCast_mul]
      have c2 : ((2 : Nat) : Rat) = 2 := rfl
      rw [c2]
      have b1 : (dv : Rat) / n < ((dv / n : Nat) : Rat) + 1 := by
        rw [← Rat.not_le]; intro h
        have := Rat.mul_le_mul_of_nonneg_right h (Rat.le_of_lt hnr)
        rw [hdvr] at this
        have b2 : (dv : Rat) < ((n * (dv / n) + n : Nat) : Rat) := nat_rat_lt (by omega)
        rw [Rat.natCast_add, Rat.natCast_mul] at b2
        grind
      have hc := Rat.mul_pos (pw_pos P) (pw_pos (-f.leastPlace))
      have := Rat.mul_lt_mul_of_pos_right b1 hc
      grind
end Go.Proofs.Ytnkikigfpdngdaa
