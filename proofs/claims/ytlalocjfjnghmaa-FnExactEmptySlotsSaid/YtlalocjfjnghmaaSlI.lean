/- What copying, comparing, marking slices of integers does. No condition. -/
import Derived.Test.YtlalocjfjnghmaaSli
namespace Go.Proofs.Ytlalocjfjnghmaa
open Go Go.RowKit
set_option linter.unusedVariables false
set_option linter.unusedSimpArgs false
/-- the integers with which a list is marked -/
def markI (k0 n : Nat) : List Int := (List.range n).map fun i => ((k0 + i : Nat) : Int)
theorem markI_lt (k0 n : Nat) (h : k0 + n ≤ 1000000000) : ∀ x ∈ markI k0 n, (Lit.int .i64 x).wf = true := by
  intro x hx
  obtain ⟨i, hi, rfl⟩ := List.mem_map.1 hx
  have := List.mem_range.1 hi
  simp [Lit.wf, IntKind.min, IntKind.max, IntKind.signed, IntKind.bits]
  omega
theorem markI_length (k0 n : Nat) : (markI k0 n).length = n := by simp [markI]
set_option maxHeartbeats 1000000 in
theorem laws_toInt64S (ad : Option Addr) (cap : Nat) (xs : List Int) (w : World) (h : Ints .i64 w ad cap xs) (hn : xs.length ≤ 1048576) :
    Calls Try.prog 26 #[.slice ad xs.length cap] w fun e w' => e = .returned (.slice (some ⟨w.heap.size, 0, none⟩) xs.length xs.length) ∧
      w'.ownsRow w.heap.size 2 1 (.slice (some ⟨w.heap.size, 0, none⟩) xs.length xs.length) xs.length (xs.map (Value.int .i64)) ∧ Below w.heap.size w w' := by
  obtain ⟨i0, hi, hz0, hz1, hz2⟩ := info_parts info_i64
  obtain ⟨n, hN⟩ : ∃ n, n = xs.length := ⟨_, rfl⟩
  rw [← hN] at hn ⊢
  have HN := Lib.hid hN; clear hN
  go_enter Try.func26, Try.ntmps26
  go_wp2_with (at_make; refine wpList_make_full _ rfl _ _ 34 rfl w.heap.size 2 i0 (.int .i64 0) 1 Try.underlying34 hi hz0 hz1 .i64 .i64 _ _ n rfl rfl rfl rfl ?c1 ?c2 ?c3 ?_)
  case c1 => rw [hz2]; omega
  case c2 => unfold maxLen; omega
  case c3 => exact Nat.le_refl _
  intro w1 hown hg
  have hb1 : Below w.heap.size w w1 := (Below.refl _ _).grown hg (Nat.le_refl _) (fun k e => by cases e)
  obtain ⟨ys, hys⟩ : ∃ ys : List Value, ys = (madeCells #[Value.int .i64 0] n).toList := ⟨_, rfl⟩
  rw [← hys] at hown
  have hyl : ys.length = n := by have := hown.1; omega
  clear hys hg
  have HY := Lib.hid hyl; clear hyl
  go_wp2
  go_loopw [4] (fun i wr => ∃ k : Nat, i = .int .i64 k ∧ k ≤ n ∧ ∃ ys : List Value, wr.ownsRow w.heap.size 2 1 (.slice (some ⟨w.heap.size, 0, none⟩) n n) n ys ∧ ys.length = n ∧ ys.take k = (xs.map (Value.int .i64)).take k ∧ Below w.heap.size w wr) (fun i _ => n - (intOf i).toNat)
  case atStart => exact ⟨0, rfl, Nat.zero_le _, ys, hown, HY.out, by simp, hb1⟩
  case round =>
    clear hown hb1 HY
    obtain ⟨k, rfl, hk, zs, hown, hzl, htk, hb⟩ := hrel
    have HZ := Lib.hid hzl; have HT := Lib.hid htk; clear hzl htk
    by_cases hlt : k < n
    · obtain ⟨b, off, rfl, hbl, hc⟩ := h.spot (i := k) (by rw [← HN.out]; exact hlt)
      have hcell : wr.cell? ⟨b, off + k, none⟩ = some (.int .i64 (xs.getD k 0)) := (hb.cell (p := ⟨b, off + k, none⟩) hbl).trans (hc k (by rw [← HN.out]; exact hlt))
      obtain ⟨x, hx⟩ : ∃ x, x = xs.getD k 0 := ⟨_, rfl⟩
      rw [← hx] at hcell
      have HX := Lib.hid hx; clear hx hc
      have hd : wr.cell? ⟨w.heap.size, k, none⟩ = some (zs[k]'(by rw [HZ.out]; exact hlt)) := by rw [hown.cellAt k (by omega), List.getElem?_eq_getElem (by rw [HZ.out]; exact hlt)]
      obtain ⟨y, hy⟩ : ∃ y, y = zs[k]'(by rw [HZ.out]; exact hlt) := ⟨_, rfl⟩
      rw [← hy] at hd
      clear hy
      have hfz := hown.frozenAt k
      have hst := hown.stored k (.int .i64 x)
      go_wp2
      go_roundw
      case rel =>
        refine ⟨k + 1, by go_num, hlt, zs.set k (.int .i64 x), hst.1, by simpa using HZ.out, take_set_next HT.out (by rw [HZ.out]; exact hlt) ?_, hb.setCell (Nat.le_refl _) _⟩
        have hkx : k < xs.length := by rw [← HN.out]; exact hlt
        rw [List.getElem?_map, List.getElem?_eq_getElem hkx, HX.out, List.getD_eq_getElem?_getD, List.getElem?_eq_getElem hkx]
        rfl
      case measure => simp [intOf]; omega
    · have hkn : k = n := by omega
      subst hkn
      go_wp2
      go_ret
      refine ⟨rfl, ?_, hb⟩
      have e1 := HT.out
      rw [List.take_of_length_le (by rw [HZ.out]; exact Nat.le_refl _), List.take_of_length_le (by simp [HN.out])] at e1
      rw [← e1]
      exact hown
set_option maxHeartbeats 1000000 in
theorem laws_eqInt64S (ad1 ad2 : Option Addr) (c1 c2 : Nat) (xs : List Int) (w : World) (h1 : Ints .i64 w ad1 c1 xs) (h2 : Ints .i64 w ad2 c2 xs) (hn : xs.length ≤ 1048576) :
    Calls Try.prog 20 #[.slice ad1 xs.length c1, .slice ad2 xs.length c2] w fun e w' => e = .returned (.bool true) ∧ Dr w w' := by
  obtain ⟨n, hN⟩ : ∃ n, n = xs.length := ⟨_, rfl⟩
  rw [← hN] at hn ⊢
  have HN := Lib.hid hN; clear hN
  go_enter Try.func20, Try.ntmps20
  go_wp2
  go_loopw [5] (fun i wr => ∃ k : Nat, i = .int .i64 k ∧ k ≤ n ∧ Dr w wr) (fun i _ => n - (intOf i).toNat)
  case atStart => exact ⟨0, rfl, Nat.zero_le _, Dr.refl _⟩
  case round =>
    obtain ⟨k, rfl, hk, hdr⟩ := hrel
    have h1 := h1.below hdr.below
    have h2 := h2.below hdr.below
    by_cases hlt : k < n
    · have hkx : k < xs.length := by rw [← HN.out]; exact hlt
      obtain ⟨b, off, rfl, _, hc⟩ := h1.spot hkx
      obtain ⟨b', off', rfl, _, hc'⟩ := h2.spot hkx
      have hcell := hc k hkx
      have hcell' := hc' k hkx
      obtain ⟨x, hx⟩ : ∃ x, x = xs.getD k 0 := ⟨_, rfl⟩
      rw [← hx] at hcell hcell'
      have HD := Lib.hid hdr; clear hdr h1 h2 hx hc hc'
      go_wp2
      refine wp_region_drawn (fun f args v => False) (by kernel_rfl) (by kernel_rfl) ?_
      repeat (refine wset_step (fun K hK nq => ?_); go_simp; refine hK _ ?_; clear hK K)
      refine wset_nil ?_
      rintro w' ⟨q, rfl⟩
      go_wp2
      go_roundw
      case rel => exact ⟨k + 1, by go_num, hlt, by obtain ⟨q', hq⟩ := HD.out; exact ⟨_, by rw [hq, World.drewN_drewN]⟩⟩
      case measure => simp [intOf]; omega
    · go_wp2
      go_ret
      exact ⟨rfl, hdr⟩
set_option maxHeartbeats 1000000 in
theorem laws_markInt64S (base : Nat) (ad : Option Addr) (cap n : Nat) (ys : List Value) (k0 : Nat) (w : World) (hn : n ≤ 1048576) (hk0 : k0 ≤ 100000000) (h : w.ownsRow base 2 1 (.slice ad n cap) n ys) :
    Calls Try.prog 23 #[.slice ad n cap, .int .i64 k0] w fun e w' => e = .returned (.int .i64 (k0 + n : Nat)) ∧
      w'.ownsRow base 2 1 (.slice ad n cap) n ((markI k0 n).map (Value.int .i64)) ∧ w.grownBy w' (Value.slice ad n cap).ownBlock := by
  have hyl : ys.length = n := by have := h.1; omega
  have HY := Lib.hid hyl; clear hyl
  go_enter Try.func23, Try.ntmps23
  go_wp2
  go_loopw [1, 5] (fun q i wr => ∃ k : Nat, i = .int .i64 k ∧ q = .int .i64 (k0 + k : Nat) ∧ k ≤ n ∧ ∃ ys : List Value, wr.ownsRow base 2 1 (.slice ad n cap) n ys ∧ ys.length = n ∧ ys.take k = ((markI k0 n).map (Value.int .i64)).take k ∧ w.grownBy wr (Value.slice ad n cap).ownBlock) (fun _ i _ => n - (intOf i).toNat)
  case atStart => exact ⟨0, rfl, rfl, Nat.zero_le _, ys, h, HY.out, by simp, ⟨rfl, rfl, rfl, Nat.le_refl _, fun _ _ _ => rfl⟩⟩
  case round =>
    obtain ⟨k, rfl, rfl, hk, zs, hown, hzl, htk, hb⟩ := hrel
    have HZ := Lib.hid hzl; have HT := Lib.hid htk; clear hzl htk h HY
    by_cases hlt : k < n
    · obtain ⟨g, cap', hform⟩ := Joins.ownsRow_form hown (by omega)
      have had : ad = some ⟨g, 0, none⟩ := by cases hform; rfl
      clear hform
      subst had
      have hd : wr.cell? ⟨g, k, none⟩ = some (zs[k]'(by rw [HZ.out]; exact hlt)) := by rw [hown.cellAt k (by omega), List.getElem?_eq_getElem (by rw [HZ.out]; exact hlt)]
      obtain ⟨y, hy⟩ : ∃ y, y = zs[k]'(by rw [HZ.out]; exact hlt) := ⟨_, rfl⟩
      rw [← hy] at hd
      clear hy
      have hfz := hown.frozenAt k
      have hst := hown.stored k (.int .i64 (k0 + k : Nat))
      go_wp2
      go_roundw
      case rel =>
        refine ⟨k + 1, by go_num, by go_num, hlt, zs.set k (.int .i64 (k0 + k : Nat)), hst.1, by simpa using HZ.out, take_set_next HT.out (by rw [HZ.out]; exact hlt) ?_, ?_⟩
        · rw [markI, List.map_map, List.getElem?_map, List.getElem?_range hlt]; rfl
        · have hg2 := hst.2
          exact ⟨hg2.os.trans hb.os, hg2.tape.trans hb.tape, hg2.output.trans hb.output, Nat.le_trans hb.size hg2.size, fun i hi hne => (hg2.block i (by have := hb.size; omega) hne).trans (hb.block i hi hne)⟩
      case measure => simp [intOf]; omega
    · have hkn : k = n := by omega
      subst hkn
      go_wp2
      go_ret
      refine ⟨rfl, ?_, hb⟩
      have e1 := HT.out
      rw [List.take_of_length_le (by rw [HZ.out]; exact Nat.le_refl _), List.take_of_length_le (by simp [markI])] at e1
      rw [← e1]
      exact hown
set_option maxHeartbeats 1000000 in
theorem laws_heldInt64S (ad : Option Addr) (cap n : Nat) (xs : List Int) (k0 : Nat) (w : World) (hn : n ≤ 1048576) (hk0 : k0 ≤ 100000000) (h : Ints .i64 w ad cap xs) (hx : xs = markI k0 n) :
    Calls Try.prog 24 #[.slice ad n cap, .int .i64 k0] w fun e w' => e = .returned (.int .i64 (k0 + n : Nat)) ∧ w = w' := by
  have hxl : xs.length = n := by rw [hx]; simp [markI]
  have HX := Lib.hid hx; clear hx
  have HL := Lib.hid hxl; clear hxl
  go_enter Try.func24, Try.ntmps24
  go_wp2
  go_loop [1, 5] (fun q i => ∃ k : Nat, i = .int .i64 k ∧ q = .int .i64 (k0 + k : Nat) ∧ k ≤ n) (fun _ i => n - (intOf i).toNat)
  case atStart => exact ⟨0, rfl, rfl, Nat.zero_le _⟩
  case round =>
    obtain ⟨k, rfl, rfl, hk⟩ := hrel
    by_cases hlt : k < n
    · obtain ⟨b, off, rfl, _, hc⟩ := h.spot (i := k) (by rw [HL.out]; exact hlt)
      have hcell := hc k (by rw [HL.out]; exact hlt)
      have e1 : xs.getD k 0 = ((k0 + k : Nat) : Int) := by
        rw [HX.out, markI, List.getD_eq_getElem?_getD, List.getElem?_map, List.getElem?_range hlt]; rfl
      rw [e1] at hcell
      have ec : ((k0 + k : Nat) : Int) = (k0 : Int) + k := by omega
      rw [ec] at hcell
      clear e1 ec hc
      go_wp2
      go_round
      case rel => exact ⟨k + 1, by go_num, by go_num, hlt⟩
      case measure => simp [intOf]; omega
    · have hkn : k = n := by omega
      go_wp2
      go_ret
      exact ⟨rfl, rfl⟩
/-- a slice of integers that the call owns -/
structure RepI (w : World) (lo hi : Nat) (ad : Option Addr) (n cap : Nat) (xs : List Int) : Prop where
  row : Row w 2 1 lo hi (.slice ad n cap) n (xs.map (Value.int .i64))
  len : xs.length = n
  lt : ∀ x ∈ xs, (Lit.int .i64 x).wf = true
theorem RepI.arg {w : World} {lo hi : Nat} {ad : Option Addr} {n cap : Nat} {xs : List Int} (h : RepI w lo hi ad n cap xs) : Ints .i64 w ad cap xs := (Ints.of_owns h.row.own h.lt).2
theorem RepI.below {w w' : World} {lo hi : Nat} {ad : Option Addr} {n cap : Nat} {xs : List Int} (h : RepI w lo hi ad n cap xs) (hb : Below w.heap.size w w') : RepI w' lo hi ad n cap xs := ⟨h.row.below hb, h.len, h.lt⟩
theorem RepI.touch {w w' : World} {lo hi lo2 hi2 : Nat} {ad : Option Addr} {n cap : Nat} {xs : List Int} (h : RepI w lo hi ad n cap xs) (ht : Touch lo2 hi2 w w') (hd : hi ≤ lo2 ∨ hi2 ≤ lo) : RepI w' lo hi ad n cap xs := ⟨h.row.touch ht hd, h.len, h.lt⟩
theorem RepI.bounds {w : World} {lo hi lo' hi' : Nat} {ad : Option Addr} {n cap : Nat} {xs : List Int} (h : RepI w lo hi ad n cap xs) (h1 : lo' ≤ lo) (h2 : hi ≤ hi') : RepI w lo' hi' ad n cap xs := ⟨h.row.bounds h1 h2, h.len, h.lt⟩
theorem RepI.nil (w : World) (lo hi : Nat) : RepI w lo hi none 0 0 [] := ⟨Row.nil _ _ _ _, rfl, fun x hx => nomatch hx⟩
theorem RepI.of_owns {w : World} {lo : Nat} {v : Value} {n : Nat} {xs : List Int} (h : w.ownsRow lo 2 1 v n (xs.map (Value.int .i64))) (hx : ∀ x ∈ xs, (Lit.int .i64 x).wf = true) : ∃ ad cap, v = .slice ad n cap ∧ RepI w lo w.heap.size ad n cap xs := by
  obtain ⟨ad, cap, rfl, _⟩ := Rd.of_owns h
  exact ⟨ad, cap, rfl, Row.mk' h, by have := h.1; simpa using this, hx⟩
theorem I_to (w : World) (ad : Option Addr) (cap : Nat) (xs : List Int) (h : Ints .i64 w ad cap xs) (hn : xs.length ≤ 1048576) :
    Calls Try.prog 26 #[.slice ad xs.length cap] w fun e w' => ∃ ad' cap', e = .returned (.slice ad' xs.length cap') ∧ RepI w' w.heap.size w'.heap.size ad' xs.length cap' xs ∧ Below w.heap.size w w' :=
  (laws_toInt64S ad cap xs w h hn).mono fun e w' ⟨he, ho, hb⟩ => ⟨_, _, he, ⟨Row.mk' ho, rfl, h.wf⟩, hb⟩
theorem I_eq (w : World) {lo1 hi1 lo2 hi2 : Nat} {a1 a2 : Option Addr} {n1 n2 c1 c2 : Nat} {xs ys : List Int} (h1 : RepI w lo1 hi1 a1 n1 c1 xs) (h2 : RepI w lo2 hi2 a2 n2 c2 ys) (he : xs = ys) (hn : n1 ≤ 1048576) :
    Calls Try.prog 20 #[.slice a1 n1 c1, .slice a2 n2 c2] w fun e w' => e = .returned (.bool true) ∧ Below w.heap.size w w' := by
  have e1 := h1.len; have e2 := h2.len
  subst he
  subst e1 e2
  exact (laws_eqInt64S _ _ _ _ xs w h1.arg h2.arg hn).mono fun e w' ⟨h, hd⟩ => ⟨h, hd.below⟩
theorem I_mark (w : World) {lo hi : Nat} {ad : Option Addr} {n cap : Nat} {xs : List Int} (k0 : Nat) (h : RepI w lo hi ad n cap xs) (hn : n ≤ 1048576) (hk : k0 ≤ 100000000) :
    Calls Try.prog 23 #[.slice ad n cap, .int .i64 k0] w fun e w' => e = .returned (.int .i64 (k0 + n : Nat)) ∧ RepI w' lo hi ad n cap (markI k0 n) ∧ Touch lo hi w w' :=
  (laws_markInt64S lo ad cap n _ k0 w hn hk h.row.own).mono fun e w' ⟨he, ho, hg⟩ => ⟨he, ⟨⟨ho, h.row.top⟩, markI_length _ _, markI_lt _ _ (by omega)⟩, Touch.of_grown h.row hg⟩
theorem I_held (w : World) {lo hi : Nat} {ad : Option Addr} {n cap : Nat} (k0 : Nat) (h : RepI w lo hi ad n cap (markI k0 n)) (hn : n ≤ 1048576) (hk : k0 ≤ 100000000) :
    Calls Try.prog 24 #[.slice ad n cap, .int .i64 k0] w fun e w' => e = .returned (.int .i64 (k0 + n : Nat)) ∧ w = w' :=
  laws_heldInt64S ad cap n _ k0 w hn hk h.arg rfl
end Go.Proofs.Ytlalocjfjnghmaa
