/- Joined texts 3: Ow4 Ow5 Ow6 Ow7 Seed Shf Shw Hub Clp Bat Tn0 Snm Tp0 Tp1 Tp3. Each is told at its own head. No condition. -/
import Derived.Lib.Hide
import Derived.RegionTactic
import Derived.BigRegion
import Derived.Laws.AppendOwnNone
import Derived.Test.YtpemhiaeiecinaaMc0
import Derived.Test.YtpemhiaeiecinaaMc1
import Derived.Test.YtpemhiaeiecinaaMc2
/- What measuring and copying lists of operations does. No condition. -/
namespace Go.Proofs.Ytpemhiaeiecinaa
open Go Go.RowKit
set_option linter.unusedVariables false
set_option linter.unusedSimpArgs false
/-- how many numbers the first records have -/
def sumBy {α : Type} (f : α → Nat) (us : List α) (k : Nat) : Nat := ((us.take k).map f).sum
theorem sumBy_zero {α : Type} (f : α → Nat) (us : List α) : sumBy f us 0 = 0 := by simp [sumBy]
theorem sumBy_succ {α : Type} (f : α → Nat) {us : List α} {k : Nat} {a : α} (h : us[k]? = some a) : sumBy f us (k + 1) = sumBy f us k + f a := by
  obtain ⟨hk, rfl⟩ := List.getElem?_eq_some_iff.1 h
  unfold sumBy
  rw [List.take_succ_eq_append_getElem hk, List.map_append, List.sum_append]
  simp
theorem sumBy_le {α : Type} (f : α → Nat) (us : List α) {k n : Nat} (h : k ≤ n) : sumBy f us k ≤ sumBy f us n := by
  unfold sumBy
  have : us.take n = us.take k ++ (us.take n).drop k := by
    have := (List.take_append_drop k (us.take n)).symm
    rwa [List.take_take, Nat.min_eq_left h] at this
  rw [this, List.map_append, List.sum_append]; omega
theorem sumBy_mem {α : Type} (f : α → Nat) {us : List α} {a : α} (h : a ∈ us) : f a ≤ sumBy f us us.length := by
  unfold sumBy
  rw [List.take_length]
  induction us with
  | nil => cases h
  | cons x xs ih =>
    rw [List.map_cons, List.sum_cons]
    rcases List.mem_cons.1 h with rfl | h
    · omega
    · have := ih h; omega
def OpD.n (o : OpD) : Nat := o.xs.length
def leftBy {α : Type} (f : α → Nat) (us : List α) (L : Int) : Int := if (us.length + sumBy f us us.length : Nat) ≤ L then L - (us.length + sumBy f us us.length : Nat) else -1
theorem getElem?_lt {α : Type} {us : List α} {k : Nat} (h : k < us.length) : ∃ a, us[k]? = some a := ⟨us[k], List.getElem?_eq_getElem h⟩
set_option maxHeartbeats 2000000 in
theorem OS_sz (w : World) (ad : Option Addr) (cap : Nat) (os : List OpD) (h : SeeR opR w ad cap os) (L : Int) (h0 : 0 ≤ L) (h1 : L ≤ 1048576) :
    Calls Try.prog 50 #[.slice ad os.length cap, .int .i64 L] w fun e w' => e = .returned (.int .i64 (leftBy OpD.n os L)) ∧ Below w.heap.size w w' := by
  have hm := Nat.le_trans h.le h.cap
  unfold maxLen at hm
  obtain ⟨R, hR⟩ : ∃ R, R = leftBy OpD.n os L := ⟨_, rfl⟩
  rw [← hR]
  obtain ⟨n, hN⟩ : ∃ n, n = os.length := ⟨_, rfl⟩
  unfold leftBy at hR
  rw [← hN] at hm hR ⊢
  have HN := Lib.hid hN; have HR := Lib.hid hR; have H := Lib.hid h; clear hN hR h
  by_cases hn : (n : Int) ≤ L
  · go_enter Try.func50, Try.ntmps50
    go_wp2
    go_loopw [1, 5] (fun l i wt => ∃ k : Nat, ∃ r : Int, i = .int .i64 k ∧ l = .int .i64 r ∧ k ≤ n ∧ 0 ≤ r ∧ r ≤ 1048576 ∧ Hid (r + (n + sumBy OpD.n os k : Nat) = L) ∧ Hid (Below w.heap.size w wt)) (fun _ i _ => n - (intOf i).toNat)
    case atStart => exact ⟨0, L - n, rfl, rfl, Nat.zero_le _, by omega, by omega, Lib.hid (by rw [sumBy_zero]; simp), Lib.hid (Below.refl _ _)⟩
    case round =>
      obtain ⟨k, r, rfl, rfl, hk, hr0, hr1, hr, HB⟩ := hrel
      by_cases hlt : k < n
      · obtain ⟨o, ho⟩ := getElem?_lt (show k < os.length by rw [← HN.out]; exact hlt)
        obtain ⟨b, off, rfl, hb, ⟨p0, p1, p2, p3, p4, p5, p6⟩, hf, hok⟩ := op_spot (H.out.below HB.out) ho
        have hml : o.xs.length ≤ maxLen := Nat.le_trans hf.len hf.cap
        have hcs := sumBy_succ OpD.n ho
        have hcl := sumBy_le OpD.n os (show k + 1 ≤ n by omega)
        have HCS := Lib.hid hcs; have HCL := Lib.hid hcl
        have k1 := fun W => O_sz W o r hml hr0 hr1
        by_cases hmr : (o.xs.length : Int) ≤ r
        · rw [if_pos hmr] at k1
          have K1 := Lib.hid k1
          obtain ⟨m, hM⟩ : ∃ m, m = o.xs.length := ⟨_, rfl⟩
          unfold OpD.val at K1
          rw [← hM] at K1 p6 hmr
          have HM := Lib.hid hM
          clear k1 hf hok hml hcs hcl hM
          go_wp2_with fail
          refine (K1.out _).mono ?_
          rintro e w1 ⟨rfl, hb1⟩
          have HB1 := Lib.hid (bthen HB.out hb1); clear hb1 p0 p1 p2 p3 p4 p5 p6
          have hp : 0 ≤ r - m := by omega
          go_wp2
          refine ⟨?rel, ?measure⟩
          case rel => exact ⟨k + 1, r - m, by go_num, rfl, hlt, by omega, by omega, Lib.hid (by have := hr.out; have := HCS.out; have := HM.out; unfold OpD.n at *; omega), HB1⟩
          case measure => simp [intOf]; omega
        · rw [if_neg hmr] at k1
          have K1 := Lib.hid k1
          have hE : R = -1 := by
            rw [HR.out, if_neg]
            have := hr.out; have := HCS.out; have := HCL.out
            unfold OpD.n at *
            omega
          have HE := Lib.hid hE
          obtain ⟨m, hM⟩ : ∃ m, m = o.xs.length := ⟨_, rfl⟩
          unfold OpD.val at K1
          rw [← hM] at K1 p6 hmr
          clear k1 hf hok hml hcs hcl hM hE
          go_wp2_with fail
          refine (K1.out _).mono ?_
          rintro e w1 ⟨rfl, hb1⟩
          have HB1 := Lib.hid (bthen HB.out hb1); clear hb1 p0 p1 p2 p3 p4 p5 p6
          go_wp2
          go_ret
          exact ⟨by rw [HE.out]; rfl, HB1.out⟩
      · have hkn : k = n := by omega
        subst hkn
        have hE : R = r := by
          rw [HR.out, if_pos]
          · have := hr.out; omega
          · have := hr.out; omega
        have HE := Lib.hid hE; clear hE
        go_wp2
        go_ret
        exact ⟨by rw [HE.out]; rfl, HB.out⟩
  · have hE : R = -1 := by rw [HR.out, if_neg (by omega)]
    rw [hE]
    clear hE HR HN
    go_enter Try.func50, Try.ntmps50
    go_wp2
    go_ret
    exact ⟨rfl, Below.refl _ _⟩
theorem info_op : (Try.prog.info? 102).map (fun i => (i.zero, i.size, i.bytes)) = some (some (.agg #[.int .i64 0, .int .i64 0, .int .i64 0, .float .f32 0, .int .i64 0, .int .i64 0, .slice none 0 0]), 7, 72) := by kernel_rfl
theorem info_ten : (Try.prog.info? 27).map (fun i => (i.zero, i.size, i.bytes)) = some (some (.agg #[.int .i64 0, .int .i64 0, .slice none 0 0]), 3, 40) := by kernel_rfl
theorem made_flat {α : Type} (R : RecT α) (z : α) (n : Nat) (cs : Array Value) (hcs : cs.toList = R.cells z) (hs : 0 < R.size) : (madeCells cs (n * R.size)).toList = (List.replicate n z).flatMap R.cells := by
  have hsz : cs.size = R.size := by have := R.len z; rw [← hcs] at this; simpa using this
  apply List.ext_getElem?
  intro j
  by_cases hj : j < n * R.size
  · have hk : j / R.size < n := (Nat.div_lt_iff_lt_mul hs).2 hj
    have hm := Nat.mod_lt j hs
    have e : j = (j / R.size) * R.size + j % R.size := by rw [Nat.mul_comm]; exact (Nat.div_add_mod j R.size).symm
    have e2 := flat_at R (List.replicate n z) (k := j / R.size) (j := j % R.size) (a := z) (by rw [List.getElem?_replicate, if_pos hk]) hm
    rw [← e] at e2
    rw [e2, ← hcs]
    have hm2 : j % cs.size < cs.size := by rw [hsz]; exact hm
    simp [madeCells, hj, hsz] 
    rw [getElem!_pos cs (j % R.size) (by rw [hsz]; exact hm), Array.getElem?_eq_getElem (by rw [hsz]; exact hm)]
  · rw [List.getElem?_eq_none (by simp [madeCells]; omega), List.getElem?_eq_none (by rw [flat_len]; simp; omega)]
def zeroOp : OpD := ⟨⟨0, 0, 0, 0, 0, 0, []⟩, none, 0⟩
end Go.Proofs.Ytpemhiaeiecinaa
/- What copying, comparing, marking lists of operations does. No condition. -/
namespace Go.Proofs.Ytpemhiaeiecinaa
open Go Go.RowKit
set_option linter.unusedVariables false
set_option linter.unusedSimpArgs false
theorem set_take {α β : Type} (f : α → β) {us : List α} {vs : List β} {k : Nat} {a : α} {b : β} (h : us.map f = vs.take k ++ (us.map f).drop k) (hk : k < us.length) (hl : us.length = vs.length) (hv : vs[k]? = some b) (hb : f a = b) : (us.set k a).map f = vs.take (k + 1) ++ ((us.set k a).map f).drop (k + 1) := by
  have hkv : k < vs.length := by omega
  have e1 : ((us.map f).take k) = vs.take k := by rw [h, List.take_append_of_le_length (by simp; omega), List.take_take]; simp
  have e2 : (us.set k a).map f = (us.map f).set k b := by rw [List.map_set, hb]
  rw [e2]
  obtain ⟨h3, rfl⟩ := List.getElem?_eq_some_iff.1 hv
  rw [List.take_succ_eq_append_getElem hkv, ← e1, List.drop_set, if_pos (by omega), List.set_eq_take_append_cons_drop, if_pos (by simpa using hk)]
  simp
theorem op_own {w : World} {lo hi n cap : Nat} {ad : Option Addr} {us : List OpD} (h : OwnR opR w lo hi ad n cap us) {k : Nat} {o : OpD} (hk : us[k]? = some o) : ∃ g, ad = some ⟨g, 0, none⟩ ∧ (lo ≤ g ∧ g < hi ∧ g < w.heap.size) ∧
    (w.cell? ⟨g, k * 7, none⟩ = some (.int .i64 o.k) ∧ w.cell? ⟨g, k * 7 + 1, none⟩ = some (.int .i64 o.a) ∧ w.cell? ⟨g, k * 7 + 2, none⟩ = some (.int .i64 o.b) ∧ w.cell? ⟨g, k * 7 + 3, none⟩ = some (.float .f32 o.num) ∧ w.cell? ⟨g, k * 7 + 4, none⟩ = some (.int .i64 o.r) ∧ w.cell? ⟨g, k * 7 + 5, none⟩ = some (.int .i64 o.c) ∧ w.cell? ⟨g, k * 7 + 6, none⟩ = some (.slice o.ad o.xs.length o.cap)) ∧
    (∀ j, w.frozen? ⟨g, j, none⟩ = false) ∧ RepF w lo hi o.ad o.xs.length o.cap o.xs := by
  obtain ⟨g, e, hr, hc, hf⟩ := h.spot hk (by decide)
  have hm := List.mem_of_getElem? hk
  refine ⟨g, e, hr, ⟨hc 0 (by decide), hc 1 (by decide), hc 2 (by decide), hc 3 (by decide), hc 4 (by decide), hc 5 (by decide), hc 6 (by decide)⟩, hf, h.own.repF (List.mem_cons_of_mem _ (List.mem_flatMap.2 ⟨o, hm, List.mem_singleton.2 rfl⟩)) (h.ok o hm).1⟩
theorem OpD.ok_of {o o' : OpD} (h : o'.toOpP = o.toOpP) (ho : o.ok) : o'.ok := by unfold OpD.ok at ho ⊢; rw [h]; exact ho
set_option maxHeartbeats 4000000 in
set_option maxRecDepth 100000 in
theorem OS_to (w : World) (ad : Option Addr) (cap : Nat) (os : List OpD) (h : SeeR opR w ad cap os) (hn : os.length ≤ 1048576) (hi2 : ∀ o ∈ os, o.xs.length ≤ 1048576) :
    Calls Try.prog 52 #[.slice ad os.length cap] w fun e w' => ∃ ad' cap', ∃ os' : List OpD, e = .returned (.slice ad' os.length cap') ∧ os'.map OpD.toOpP = os.map OpD.toOpP ∧ Hid (OwnR opR w' w.heap.size w'.heap.size ad' os.length cap' os') ∧ Below w.heap.size w w' := by
  obtain ⟨j0, hj2, hy0, hy1, hy2⟩ := info_parts info_op
  obtain ⟨n, hN⟩ : ∃ n, n = os.length := ⟨_, rfl⟩
  rw [← hN] at hn ⊢
  have HN := Lib.hid hN; have HI2 := Lib.hid hi2; have H := Lib.hid h; clear hN hi2 h
  go_enter Try.func52, Try.ntmps52
  go_wp2_with (at_make; refine wpList_make_full _ rfl _ _ 66 rfl w.heap.size 102 j0 (.agg #[.int .i64 0, .int .i64 0, .int .i64 0, .float .f32 0, .int .i64 0, .int .i64 0, .slice none 0 0]) 7 Try.underlying66 hj2 hy0 hy1 .i64 .i64 _ _ n rfl rfl rfl rfl ?c1 ?c2 ?c3 ?_)
  case c1 => rw [hy2]; omega
  case c2 => unfold maxLen; omega
  case c3 => exact Nat.le_refl _
  intro w1 hown hg
  have hb1 : Below w.heap.size w w1 := (Below.refl _ _).grown hg (Nat.le_refl _) (fun k e => by cases e)
  have hr0 : OwnR opR w1 w.heap.size w1.heap.size (some ⟨w.heap.size, 0, none⟩) n n (List.replicate n zeroOp) := by
    refine OwnR.made (R := opR) (z := zeroOp) hown (made_flat opR zeroOp n _ rfl (by decide)) (fun x hx => ?_) ⟨fun x hx => (nomatch hx), by decide, rfl, rfl, rfl, rfl, rfl⟩
    rw [List.mem_singleton.1 hx]
    exact ⟨rfl, rfl, rfl, rfl⟩
  have HR := Lib.hid hr0; have HB1 := Lib.hid hb1
  clear hg hown hr0 hb1
  go_wp2
  go_loopw [4] (fun i wt => ∃ k : Nat, i = .int .i64 k ∧ k ≤ n ∧ ∃ us : List OpD, Hid (OwnR opR wt w.heap.size wt.heap.size (some ⟨w.heap.size, 0, none⟩) n n us) ∧ Hid (us.map OpD.toOpP = (os.map OpD.toOpP).take k ++ (us.map OpD.toOpP).drop k) ∧ Hid (Below w.heap.size w wt)) (fun i _ => n - (intOf i).toNat)
  case atStart => exact ⟨0, rfl, Nat.zero_le _, _, HR, Lib.hid (by simp), HB1⟩
  case round =>
    clear HB1 HR
    obtain ⟨k, rfl, hk, us, HR, HT, HB⟩ := hrel
    by_cases hlt : k < n
    · obtain ⟨o, ho⟩ := getElem?_lt (show k < os.length by rw [← HN.out]; exact hlt)
      obtain ⟨b, off, rfl, hbl, ⟨p0, p1, p2, p3, p4, p5, p6⟩, hf, hok⟩ := op_spot (H.out.below HB.out) ho
      have K := Lib.hid (fun W hW => O_to W o hW (HI2.out o (List.mem_of_getElem? ho)))
      have HF := Lib.hid hf; have HO := Lib.hid ho; have HK := Lib.hid hok
      unfold OpD.val at K
      obtain ⟨m, hM⟩ : ∃ m, m = o.xs.length := ⟨_, rfl⟩
      rw [← hM] at K p6
      clear hM hf ho hok
      go_wp2_with fail
      refine (K.out _ HF.out).mono ?_
      rintro e w2 ⟨o', rfl, hp, hr, hb2⟩
      obtain ⟨u, hu⟩ := getElem?_lt (show k < us.length by rw [HR.out.len]; exact hlt)
      obtain ⟨g, eg, hgr, ⟨q0, q1, q2, q3, q4, q5, q6⟩, hfz, -⟩ := op_own (HR.out.below hb2) hu
      cases eg
      have hs2 := hb2.size
      have hbs := HB.out.size
      have hok : o'.ok := OpD.ok_of hp HK.out
      have hnew := OwnR.setNew (w2 := setCs w2 w.heap.size (k * 7) o'.cells) HR.out hbs hb2 hlt hok (hr.out.ownRow) hs2 (fun M hM => setCs_own hM (k * 7) o'.cells)
      have hbb := setCs_below (HB.out.trans (hb2.mono hbs)) (Nat.le_refl _) (k * 7) o'.cells
      have htk := set_take OpD.toOpP (a := o') (b := o.toOpP) HT.out (by rw [HR.out.len]; exact hlt) (by rw [HR.out.len, List.length_map, ← HN.out]) (by rw [List.getElem?_map, HO.out]; rfl) hp
      have HW := Lib.hid hnew; have HBB := Lib.hid hbb; have HTK := Lib.hid htk
      clear hnew hbb htk hp hr hb2 hu K HF HK hok hgr hbs HT HR HB p0 p1 p2 p3 p4 p5 p6
      go_wp2
      go_roundw
      case rel => exact ⟨k + 1, by go_num, hlt, _, Lib.hid (HW.out.bounds (Nat.le_refl _) (by simp [World.setCell])), HTK, HBB⟩
      case measure => simp [intOf]; omega
    · have hkn : k = n := by omega
      subst hkn
      go_wp2
      go_ret
      refine ⟨_, _, us, rfl, ?_, HR, HB.out⟩
      have := HT.out
      rw [List.take_of_length_le (by simp [HN.out]), List.drop_of_length_le (by simp [HR.out.len])] at this
      simpa using this
set_option maxHeartbeats 1000000 in
theorem O_eq (w : World) (o p : OpD) (h1 : F32s w o.ad o.cap o.xs) (h2 : F32s w p.ad p.cap p.xs) (hn : o.xs.length ≤ 1048576) (he : o.toOpP.can = p.toOpP.can) :
    Calls Try.prog 153 #[o.val, p.val] w fun e w' => e = .returned (.bool true) ∧ Below w.heap.size w w' := by
  obtain ⟨⟨k, a, b, q, r, c, xs⟩, ad, cap⟩ := o
  obtain ⟨⟨k', a', b', q', r', c', ys⟩, ad', cap'⟩ := p
  unfold OpP.can at he
  simp only [OpP.mk.injEq] at he
  obtain ⟨rfl, rfl, rfl, hq, rfl, rfl, hx⟩ := he
  show Calls Try.prog 153 #[.agg #[.int .i64 k, .int .i64 a, .int .i64 b, .float .f32 q, .int .i64 r, .int .i64 c, .slice ad xs.length cap], .agg #[.int .i64 k, .int .i64 a, .int .i64 b, .float .f32 q', .int .i64 r, .int .i64 c, .slice ad' ys.length cap']] w _
  have h1 : F32s w ad cap xs := h1
  have h2 : F32s w ad' cap' ys := h2
  have hn : xs.length ≤ 1048576 := hn
  obtain ⟨n, hN⟩ : ∃ n, n = xs.length := ⟨_, rfl⟩
  obtain ⟨m, hM⟩ : ∃ m, m = ys.length := ⟨_, rfl⟩
  have b2 := below2 w (.cells #[.int .i64 k, .int .i64 a, .int .i64 b, .float .f32 q, .int .i64 r, .int .i64 c, .slice ad n cap] 102) (.cells #[.int .i64 k, .int .i64 a, .int .i64 b, .float .f32 q', .int .i64 r, .int .i64 c, .slice ad' m cap'] 102)
  have BA := Lib.hid ((BoxN.alloc w #[.int .i64 k, .int .i64 a, .int .i64 b, .float .f32 q, .int .i64 r, .int .i64 c, .slice ad n cap] 102).below (below1 _ (.cells #[.int .i64 k, .int .i64 a, .int .i64 b, .float .f32 q', .int .i64 r, .int .i64 c, .slice ad' m cap'] 102)))
  have BB := Lib.hid (BoxN.alloc2 w (.cells #[.int .i64 k, .int .i64 a, .int .i64 b, .float .f32 q, .int .i64 r, .int .i64 c, .slice ad n cap] 102) #[.int .i64 k, .int .i64 a, .int .i64 b, .float .f32 q', .int .i64 r, .int .i64 c, .slice ad' m cap'] 102)
  have K := Lib.hid (fun W hb => T_eq W r c ad ad' cap cap' xs ys ((h1.below b2).below hb) ((h2.below b2).below hb) hn hx)
  rw [← hN, ← hM] at K ⊢
  have B := Lib.hid b2
  clear b2 h1 h2 hn hN hM hx
  go_enter Try.func153, Try.ntmps153
  go_wp2_with fail
  refine (sameFloat_any _ _ (by rw [cn_wide, cn_wide, hq]) _).mono ?_
  rintro e w1 ⟨rfl, hd⟩
  have hb1 := (below_drewN (Below.refl _ _) _).trans hd.below
  obtain ⟨-, p0, p1, p2, p3, p4, p5, p6, -⟩ := (BA.out.below hb1).seven
  obtain ⟨-, q0, q1, q2, q3, q4, q5, q6, -⟩ := (BB.out.below hb1).seven
  have K1 := Lib.hid (K.out _ hb1); have B1 := Lib.hid (bthen B.out hb1)
  clear hb1 hd BA BB K B
  go_wp2_with fail
  refine K1.out.mono ?_
  rintro e w2 ⟨rfl, hb⟩
  go_wp2
  go_ret
  exact ⟨rfl, bthen B1.out hb⟩
end Go.Proofs.Ytpemhiaeiecinaa
/- What comparing, marking lists of operations does. No condition. -/
namespace Go.Proofs.Ytpemhiaeiecinaa
open Go Go.RowKit
set_option linter.unusedVariables false
set_option linter.unusedSimpArgs false
set_option maxHeartbeats 4000000 in
set_option maxRecDepth 100000 in
theorem OS_eq (w : World) {a1 a2 : Option Addr} {c1 c2 : Nat} {os ps : List OpD} (h1 : SeeR opR w a1 c1 os) (h2 : SeeR opR w a2 c2 ps) (he : os.map (fun o => o.toOpP.can) = ps.map (fun o => o.toOpP.can)) (hn : os.length ≤ 1048576) (hi : ∀ o ∈ os, o.xs.length ≤ 1048576) :
    Calls Try.prog 55 #[.slice a1 os.length c1, .slice a2 ps.length c2] w fun e w' => e = .returned (.bool true) ∧ Below w.heap.size w w' := by
  have hl : os.length = ps.length := by have := congrArg List.length he; simpa using this
  rw [← hl]
  obtain ⟨n, hN⟩ : ∃ n, n = os.length := ⟨_, rfl⟩
  have HL := Lib.hid hl; clear hl
  rw [← hN] at hn ⊢
  have HN := Lib.hid hN; have HE := Lib.hid he; have HI := Lib.hid hi; have H1 := Lib.hid h1; have H2 := Lib.hid h2
  clear hN he hi h1 h2
  go_enter Try.func55, Try.ntmps55
  go_wp2
  go_loopw [5] (fun i wt => ∃ k : Nat, i = .int .i64 k ∧ k ≤ n ∧ Hid (Below w.heap.size w wt)) (fun i _ => n - (intOf i).toNat)
  case atStart => exact ⟨0, rfl, Nat.zero_le _, Lib.hid (Below.refl _ _)⟩
  case round =>
    obtain ⟨k, rfl, hk, HB⟩ := hrel
    by_cases hlt : k < n
    · have hkx : k < os.length := by rw [← HN.out]; exact hlt
      obtain ⟨o, ho⟩ := getElem?_lt hkx
      obtain ⟨p, hp⟩ := getElem?_lt (show k < ps.length by rw [← HL.out]; exact hkx)
      obtain ⟨b, off, rfl, _, ⟨p0, p1, p2, p3, p4, p5, p6⟩, hf, hok⟩ := op_spot (H1.out.below HB.out) ho
      obtain ⟨b', off', rfl, _, ⟨q0, q1, q2, q3, q4, q5, q6⟩, hf', hok'⟩ := op_spot (H2.out.below HB.out) hp
      have e1 : o.toOpP.can = p.toOpP.can := by
        have e1 := congrArg (fun l => l[k]?) HE.out
        simpa [ho, hp] using e1
      have K := Lib.hid (fun W (hb : Below wr.heap.size wr W) => O_eq W o p (hf.below hb) (hf'.below hb) (HI.out o (List.mem_of_getElem? ho)) e1)
      unfold OpD.val at K
      obtain ⟨x, hx⟩ : ∃ x, x = o.xs.length := ⟨_, rfl⟩
      obtain ⟨y, hy⟩ : ∃ y, y = p.xs.length := ⟨_, rfl⟩
      rw [← hx] at K p6
      rw [← hy] at K q6
      clear hf hf' hok hok' ho hp e1 hx hy hkx
      go_wp2
      refine wp_region_tail 8 (fun f args u => False) (by kernel_rfl) (by kernel_rfl) ?_
      repeat (refine wset_step (fun K hK nq => ?_); go_simp; refine hK _ ?_; clear hK K)
      refine wset_nil ?_
      rintro w' ⟨q, rfl⟩
      go_wp2_with fail
      refine (K.out _ (below_drewN (Below.refl _ _) _)).mono ?_
      rintro e w2 ⟨rfl, hb⟩
      have HB2 := Lib.hid (bthen HB.out ((below_drewN (Below.refl _ _) _).trans hb)); clear hb
      go_wp2
      go_roundw
      case rel => exact ⟨k + 1, by go_num, hlt, HB2⟩
      case measure => simp [intOf]; omega
    · go_wp2
      go_ret
      exact ⟨rfl, HB.out⟩
end Go.Proofs.Ytpemhiaeiecinaa
/- What marking lists of operations does. No condition. -/
namespace Go.Proofs.Ytpemhiaeiecinaa
open Go Go.RowKit
set_option linter.unusedVariables false
set_option linter.unusedSimpArgs false
theorem set_same {α : Type} {us : List α} {i : Nat} {a : α} (h : us[i]? = some a) : us.set i a = us := by
  obtain ⟨hi, rfl⟩ := List.getElem?_eq_some_iff.1 h
  exact List.set_getElem_self hi
theorem set_mid {α : Type} (A B : List α) (o p : α) : (A ++ o :: B).set A.length p = A ++ p :: B := by
  rw [List.set_append, if_neg (by omega), Nat.sub_self, List.set_cons_zero]
theorem get_mid {α : Type} (A B : List α) (o : α) : (A ++ o :: B)[A.length]? = some o := by
  rw [List.getElem?_append_right (Nat.le_refl _), Nat.sub_self]; rfl
theorem split_at {α : Type} {us : List α} {k : Nat} (h : k < us.length) : ∃ A o B, us = A ++ o :: B ∧ A.length = k :=
  ⟨us.take k, us[k], us.drop (k + 1), by rw [List.getElem_cons_drop, List.take_append_drop], by simp; omega⟩
theorem setL_append (vs : List Value) (i : Nat) (cs ds : List Value) : setL vs i (cs ++ ds) = setL (setL vs i cs) (i + cs.length) ds := by
  induction cs generalizing vs i with
  | nil => rfl
  | cons c cs ih =>
    show setL (vs.set i c) (i + 1) (cs ++ ds) = _
    rw [ih, List.length_cons, Nat.add_right_comm, Nat.add_assoc]; rfl
theorem setL_get (vs : List Value) (i : Nat) (cs : List Value) (j : Nat) (h : j < i ∨ i + cs.length ≤ j) : (setL vs i cs)[j]? = vs[j]? := by
  induction cs generalizing vs i with
  | nil => rfl
  | cons c cs ih =>
    show (setL (vs.set i c) (i + 1) cs)[j]? = _
    rw [ih _ _ (by simp at h; omega), List.getElem?_set_ne (by simp at h; omega)]
/-- the marks of an operation -/
def markO (k0 : Nat) (o : OpD) : OpD := ⟨⟨(k0 : Nat), (k0 + 1 : Nat), (k0 + 2 : Nat), floatOfInt .f32 (k0 + 3 : Nat), (k0 + 4 : Nat), (k0 + 5 : Nat), markF (k0 + 6) o.xs.length⟩, o.ad, o.cap⟩
def OpD.w (o : OpD) : Nat := 6 + o.xs.length
def totO (os : List OpD) : Nat := (os.map OpD.w).sum
def markOs : Nat → List OpD → List OpD
  | _, [] => []
  | k0, o :: os => markO k0 o :: markOs (k0 + o.w) os
theorem totO_snoc (A : List OpD) (o : OpD) : totO (A ++ [o]) = totO A + o.w := by simp [totO]
theorem totO_append (A B : List OpD) : totO (A ++ B) = totO A + totO B := by simp [totO]
theorem totO_cons (o : OpD) (B : List OpD) : totO (o :: B) = o.w + totO B := by simp [totO]
theorem markOs_length (k0 : Nat) (A : List OpD) : (markOs k0 A).length = A.length := by
  induction A generalizing k0 with
  | nil => rfl
  | cons o A ih => simp [markOs, ih]
theorem markOs_snoc (k0 : Nat) (A : List OpD) (o : OpD) : markOs k0 (A ++ [o]) = markOs k0 A ++ [markO (k0 + totO A) o] := by
  induction A generalizing k0 with
  | nil => simp [markOs, totO]
  | cons p A ih => rw [List.cons_append, markOs, ih, totO_cons, markOs, List.cons_append, Nat.add_assoc]
theorem nat_wf {k : Nat} (h : k ≤ 1000000000) : (Lit.int .i64 (k : Int)).wf = true := by
  simp [Lit.wf, IntKind.min, IntKind.max, IntKind.signed, IntKind.bits]
  omega
theorem markO_ok (k0 : Nat) (o : OpD) (h : k0 + 10 ≤ 1000000000) : (markO k0 o).ok :=
  ⟨markF_lt _ _, markF_lt (k0 + 3) 1 _ (by simp [markF, markO]), nat_wf (by omega), nat_wf (by omega), nat_wf (by omega), nat_wf (by omega), nat_wf (by omega)⟩
/-- an operation is marked: its cells, then its numbers -/
theorem OwnR.markAt {w w2 : World} {lo hi n cap g k0 : Nat} {A B : List OpD} {o : OpD} (h : OwnR opR w lo hi (some ⟨g, 0, none⟩) n cap (A ++ o :: B)) (hk : k0 ≤ 100000000)
    (ho : w2.ownsRow lo 33 1 (.slice o.ad o.xs.length o.cap) o.xs.length ((markF (k0 + 6) o.xs.length).map (Value.float .f32)))
    (hg : (setCs w g (A.length * 7) [.int .i64 (k0 : Nat), .int .i64 (k0 + 1 : Nat), .int .i64 (k0 + 2 : Nat), .float .f32 (floatOfInt .f32 (k0 + 3 : Nat)), .int .i64 (k0 + 4 : Nat), .int .i64 (k0 + 5 : Nat)]).grownBy w2 (Value.slice o.ad o.xs.length o.cap).ownBlock) :
    OwnR opR w2 lo hi (some ⟨g, 0, none⟩) n cap (A ++ markO k0 o :: B) := by
  have h1 := setCs_own h.own (A.length * 7) [.int .i64 (k0 : Nat), .int .i64 (k0 + 1 : Nat), .int .i64 (k0 + 2 : Nat), .float .f32 (floatOfInt .f32 (k0 + 3 : Nat)), .int .i64 (k0 + 4 : Nat), .int .i64 (k0 + 5 : Nat)]
  have e1 : (A ++ o :: B).flatMap opR.inn = A.flatMap opR.inn ++ floatRow o.ad o.cap o.xs :: B.flatMap opR.inn := by
    rw [List.flatMap_append, List.flatMap_cons]; rfl
  have e2 : (A ++ markO k0 o :: B).flatMap opR.inn = A.flatMap opR.inn ++ floatRow o.ad o.cap (markF (k0 + 6) o.xs.length) :: B.flatMap opR.inn := by
    rw [List.flatMap_append, List.flatMap_cons]; rfl
  rw [e1, ← List.cons_append] at h1
  have hl : (markF (k0 + 6) o.xs.length).length = o.xs.length := markF_length _ _
  have h2 := h1.setAt (y := floatRow o.ad o.cap (markF (k0 + 6) o.xs.length)) hg (by
    refine ⟨?_, ?_⟩
    · show w2.ownsRow lo 33 1 (.slice o.ad (markF (k0 + 6) o.xs.length).length o.cap) (markF (k0 + 6) o.xs.length).length _
      rw [hl]; exact ho
    · intro g' e
      have h3 := (h1.row (floatRow o.ad o.cap o.xs) (List.mem_append_right _ (List.mem_cons_self ..))).top g'
      have e5 : (Value.slice o.ad (markF (k0 + 6) o.xs.length).length o.cap).ownBlock = some g' := e
      rw [hl] at e5
      exact h3 e5) (by show Value.slice o.ad (markF (k0 + 6) o.xs.length).length o.cap = Value.slice o.ad o.xs.length o.cap; rw [hl])
  rw [List.cons_append, ← e2] at h2
  have e3 : (A ++ markO k0 o :: B).flatMap opR.cells = setL ((A ++ o :: B).flatMap opR.cells) (A.length * 7) [.int .i64 (k0 : Nat), .int .i64 (k0 + 1 : Nat), .int .i64 (k0 + 2 : Nat), .float .f32 (floatOfInt .f32 (k0 + 3 : Nat)), .int .i64 (k0 + 4 : Nat), .int .i64 (k0 + 5 : Nat)] := by
    have h3 := flat_set opR (A ++ o :: B) (k := A.length) (by simp) (markO k0 o)
    rw [set_mid] at h3
    rw [← h3]
    have e4 : opR.cells (markO k0 o) = [.int .i64 (k0 : Nat), .int .i64 (k0 + 1 : Nat), .int .i64 (k0 + 2 : Nat), .float .f32 (floatOfInt .f32 (k0 + 3 : Nat)), .int .i64 (k0 + 4 : Nat), .int .i64 (k0 + 5 : Nat)] ++ [.slice o.ad o.xs.length o.cap] := by
      show OpD.cells (markO k0 o) = _
      unfold OpD.cells markO
      simp [hl]
    rw [e4, setL_append]
    refine set_same ?_
    rw [setL_get _ _ _ _ (.inr (by simp))]
    exact (flat_at opR (A ++ o :: B) (k := A.length) (j := 6) (get_mid A B o) (by decide)).trans rfl
  refine ⟨?_, ?_, fun p hp => ?_⟩
  · rw [e3]; exact h2
  · have := h.len; simp at this ⊢; exact this
  · rcases List.mem_append.1 hp with hp | hp
    · exact h.ok p (List.mem_append_left _ hp)
    · rcases List.mem_cons.1 hp with rfl | hp
      · exact markO_ok _ _ (by omega)
      · exact h.ok p (List.mem_append_right _ (List.mem_cons_of_mem _ hp))
set_option maxHeartbeats 4000000 in
set_option maxRecDepth 100000 in
theorem OS_mark (w : World) {lo hi : Nat} {ad : Option Addr} {n cap : Nat} {os : List OpD} (k0 : Nat) (h : OwnR opR w lo hi ad n cap os) (hhi : hi ≤ w.heap.size) (hn : n ≤ 1048576) (hk : k0 + totO os ≤ 10000000) (hi2 : ∀ o ∈ os, o.xs.length ≤ 1048576) :
    Calls Try.prog 67 #[.slice ad n cap, .int .i64 k0] w fun e w' => e = .returned (.int .i64 (k0 + totO os : Nat)) ∧ Hid (OwnR opR w' lo hi ad n cap (markOs k0 os)) ∧ Touch lo hi w w' := by
  have HN := Lib.hid h.len; have HI2 := Lib.hid hi2; have HH := Lib.hid h; clear hi2 h
  go_enter Try.func67, Try.ntmps67
  go_wp2
  go_loopw [1, 5] (fun q i wt => ∃ k k1 : Nat, i = .int .i64 k ∧ q = .int .i64 k1 ∧ k ≤ n ∧ k1 ≤ 10000000 ∧ Hid (∃ A B, os = A ++ B ∧ A.length = k ∧ k1 = k0 + totO A ∧ OwnR opR wt lo hi ad n cap (markOs k0 A ++ B)) ∧ Hid (Touch lo hi w wt)) (fun _ i _ => n - (intOf i).toNat)
  case atStart => exact ⟨0, k0, rfl, rfl, Nat.zero_le _, by omega, Lib.hid ⟨[], os, rfl, rfl, rfl, HH.out⟩, Lib.hid (Touch.refl _ _ _)⟩
  case round =>
    clear HH
    obtain ⟨k, k1, rfl, rfl, hkn, hk1, HX, HT⟩ := hrel
    by_cases hlt : k < n
    · obtain ⟨A, B0, e1, e2, e3, hown⟩ := HX.out
      cases B0 with
      | nil => exfalso; have := HN.out; rw [e1, List.append_nil] at this; omega
      | cons o B =>
        have HE1 := Lib.hid e1; have HE3 := Lib.hid e3; have HE2 := Lib.hid e2; have HO := Lib.hid hown
        have hml : (markOs k0 A).length = k := by rw [markOs_length, e2]
        have HML := Lib.hid hml
        have hget := get_mid (markOs k0 A) B o
        rw [hml] at hget
        obtain ⟨g, rfl, hgr, ⟨p0, p1, p2, p3, p4, p5, p6⟩, hfz, hrf⟩ := op_own hown hget
        have hmb := HI2.out o (by rw [e1]; simp)
        have htot : k1 + o.w ≤ 10000000 := by
          have := hk
          rw [e1, totO_append, totO_cons] at this
          omega
        unfold OpD.w at htot
        have hm := fun W (ho : W.ownsRow lo 33 1 (.slice o.ad o.xs.length o.cap) o.xs.length (o.xs.map (Value.float .f32))) => laws_markFloat32S lo o.ad o.cap o.xs.length (o.xs.map (Value.float .f32)) (k1 + 6) W hmb (by omega) ho
        have HM := Lib.hid hm
        have hW := (setCs_own hown.own (k * 7) [.int .i64 (k1 : Nat), .int .i64 (k1 + 1 : Nat), .int .i64 (k1 + 2 : Nat), .float .f32 (floatOfInt .f32 (k1 + 3 : Nat)), .int .i64 (k1 + 4 : Nat), .int .i64 (k1 + 5 : Nat)]).row (floatRow o.ad o.cap o.xs) (List.mem_cons_of_mem _ (List.mem_flatMap.2 ⟨o, by simp, List.mem_singleton.2 rfl⟩))
        have HW := Lib.hid hW.own
        have htw := ((setCs_touch wr g (k * 7) [.int .i64 (k1 : Nat), .int .i64 (k1 + 1 : Nat), .int .i64 (k1 + 2 : Nat), .float .f32 (floatOfInt .f32 (k1 + 3 : Nat)), .int .i64 (k1 + 4 : Nat), .int .i64 (k1 + 5 : Nat)]).mono hgr.1 hgr.2.1)
        have HTW := Lib.hid htw; have HRF := Lib.hid hW
        clear e1 e2 e3 hown hget hrf hm hW htw hml hgr
        obtain ⟨m, hm0⟩ : ∃ m, m = o.xs.length := ⟨_, rfl⟩
        rw [← hm0] at p6 hmb htot HM
        have HM0 := Lib.hid hm0; clear hm0
        go_wp2_with fail
        refine (HM.out _ (by rw [HM0.out]; exact HW.out)).mono ?_
        rintro e w2 ⟨rfl, ho2, hg2⟩
        have hmk := OwnR.markAt (A := markOs k0 A) (B := B) (o := o) HO.out (k0 := k1) (by omega) (by rw [← HM0.out]; exact ho2) (by rw [HML.out, ← HM0.out]; exact hg2)
        have ht2 : Touch lo hi w w2 := HT.out.trans (HTW.out.trans (Touch.of_grown HRF.out (by rw [floatRow, RowD.val, ← HM0.out]; exact hg2)))
        have HMK := Lib.hid hmk; have HT2 := Lib.hid ht2
        clear hmk ht2 ho2 hg2 HO HTW HRF HW p0 p1 p2 p3 p4 p5 p6 hfz HM HT
        go_wp2
        refine ⟨?rel, ?measure⟩
        case rel => exact ⟨k + 1, k1 + 6 + m, by go_num, by go_num, hlt, by omega, Lib.hid ⟨A ++ [o], B, by rw [HE1.out]; simp, by simp [HE2.out], by rw [totO_snoc, HE3.out, OpD.w, HM0.out]; omega, by rw [markOs_snoc, ← HE3.out, List.append_assoc]; exact HMK.out⟩, HT2⟩
        case measure => simp [intOf]; omega
    · have hkn2 : k = n := by omega
      subst hkn2
      obtain ⟨A, B, e1, e2, e3, hown⟩ := HX.out
      have hB : B = [] := by
        have := HN.out; rw [e1, List.length_append, e2] at this
        exact List.eq_nil_of_length_eq_zero (by omega)
      subst hB
      rw [List.append_nil] at e1 hown
      subst e1
      have HO := Lib.hid hown; clear hown HX
      subst e3
      clear e2
      go_wp2
      go_ret
      exact ⟨rfl, HO, HT.out⟩
theorem markOs_at (k0 : Nat) (A B : List OpD) (o : OpD) : (markOs k0 (A ++ o :: B))[A.length]? = some (markO (k0 + totO A) o) := by
  induction A generalizing k0 with
  | nil => simp [markOs, totO]
  | cons p A ih => rw [List.cons_append, markOs, List.length_cons, List.getElem?_cons_succ, ih, totO_cons, Nat.add_assoc]
set_option maxHeartbeats 4000000 in
set_option maxRecDepth 100000 in
theorem OS_held (w : World) {ad : Option Addr} {n cap : Nat} {os : List OpD} (k0 : Nat) (h : SeeR opR w ad cap (markOs k0 os)) (hl : os.length = n) (hn : n ≤ 1048576) (hk : k0 + totO os ≤ 10000000) (hi2 : ∀ o ∈ os, o.xs.length ≤ 1048576) :
    Calls Try.prog 69 #[.slice ad n cap, .int .i64 k0] w fun e w' => e = .returned (.int .i64 (k0 + totO os : Nat)) ∧ w = w' := by
  have HN := Lib.hid hl; have HI2 := Lib.hid hi2; have HH := Lib.hid h; clear hi2 h hl
  go_enter Try.func69, Try.ntmps69
  go_wp2
  go_loop [1, 5] (fun q i => ∃ k k1 : Nat, i = .int .i64 k ∧ q = .int .i64 k1 ∧ k ≤ n ∧ k1 ≤ 10000000 ∧ Hid (∃ A B, os = A ++ B ∧ A.length = k ∧ k1 = k0 + totO A)) (fun _ i => n - (intOf i).toNat)
  case atStart => exact ⟨0, k0, rfl, rfl, Nat.zero_le _, by omega, Lib.hid ⟨[], os, rfl, rfl, rfl⟩⟩
  case round =>
    obtain ⟨k, k1, rfl, rfl, hkn, hk1, HX⟩ := hrel
    by_cases hlt : k < n
    · obtain ⟨A, B0, e1, e2, e3⟩ := HX.out
      cases B0 with
      | nil => exfalso; have := HN.out; rw [e1, List.append_nil] at this; omega
      | cons o B =>
        have HE1 := Lib.hid e1; have HE3 := Lib.hid e3; have HE2 := Lib.hid e2
        have hget := markOs_at k0 A B o
        rw [← e1, e2, ← e3] at hget
        obtain ⟨b, off, rfl, hb, ⟨p0, p1, p2, p3, p4, p5, p6⟩, hf, hok⟩ := op_spot HH.out hget
        have hmb := HI2.out o (by rw [e1]; simp)
        have htot : k1 + o.w ≤ 10000000 := by
          have := hk
          rw [e1, totO_append, totO_cons] at this
          omega
        unfold OpD.w at htot
        simp only [markO, markF_length] at p0 p1 p2 p3 p4 p5 p6 hf
        obtain ⟨m, hm0⟩ : ∃ m, m = o.xs.length := ⟨_, rfl⟩
        rw [← hm0] at p6 hmb htot hf
        have hheld := fun W hW => laws_heldFloat32S o.ad o.cap m (markF (k1 + 6) m) (k1 + 6) W (by omega) (by omega) hW rfl
        have HM := Lib.hid hheld; have HF := Lib.hid hf
        have HM0 := Lib.hid hm0
        have ho : FloatKind.f32.format.order (floatOfInt .f32 (k1 + 3 : Nat)) (floatOfInt .f32 (k1 + 3 : Nat)) = some .eq := by rw [order_self, isN_floatOfInt]; rfl
        have ec : ((k1 + 3 : Nat) : Int) = (k1 : Int) + 1 + 1 + 1 := by omega
        rw [ec] at p3 ho
        clear e1 e2 e3 hget hheld hf hm0 ec hok
        go_wp2_with fail
        refine (HM.out _ HF.out).mono ?_
        rintro e w2 ⟨rfl, rfl⟩
        have hnn : 0 ≤ ((k1 + 6 + m : Nat) : Int) := by omega
        clear p0 p1 p2 p3 p4 p5 p6
        go_wp2
        go_round
        case rel => exact ⟨k + 1, k1 + 6 + m, by go_num, rfl, hlt, by omega, Lib.hid ⟨A ++ [o], B, by rw [HE1.out]; simp, by simp [HE2.out], by rw [totO_snoc, HE3.out, OpD.w, HM0.out]; omega⟩⟩
        case measure => simp [intOf]; omega
    · have hkn2 : k = n := by omega
      obtain ⟨A, B, e1, e2, e3⟩ := HX.out
      have hB : B = [] := by
        have := HN.out; rw [e1, List.length_append, e2] at this
        exact List.eq_nil_of_length_eq_zero (by omega)
      subst hB
      rw [List.append_nil] at e1
      subst e1
      subst e3
      clear HX e2
      go_wp2
      go_ret
      exact ⟨rfl, rfl⟩
end Go.Proofs.Ytpemhiaeiecinaa
/- What the next seed is. No condition. -/
namespace Go.Proofs.Ytpemhiaeiecinaa
open Go Go.RowKit
set_option linter.unusedVariables false
def nextS (s : Int) : Int := (1103515245 * s + 12345) % 2147483648
theorem nextS_bd (s : Int) : 0 ≤ nextS s ∧ nextS s ≤ 2147483647 := by unfold nextS; omega
end Go.Proofs.Ytpemhiaeiecinaa
/- Plain laws of shuffled rows. No condition. -/
namespace Go.Proofs.Ytpemhiaeiecinaa
open Go Go.RowKit
set_option linter.unusedVariables false
set_option linter.unusedSimpArgs false
def shSeed (s : Int) : Nat → Int
  | 0 => s
  | j + 1 => nextS (shSeed s j)
theorem shSeed_bd {s : Int} (h0 : 0 ≤ s) (h1 : s ≤ 2147483647) : ∀ j, 0 ≤ shSeed s j ∧ shSeed s j ≤ 2147483647
  | 0 => ⟨h0, h1⟩
  | j + 1 => nextS_bd _
def swapL (l : List Int) (i j : Nat) : List Int := (l.set i (l.getD j 0)).set j (l.getD i 0)
theorem swapL_length (l : List Int) (i j : Nat) : (swapL l i j).length = l.length := by simp [swapL]
theorem swapL_perm {l : List Int} {i j : Nat} (hi : i < l.length) (hj : j < l.length) : (swapL l i j).Perm l := by
  unfold swapL
  rw [List.getD_eq_getElem?_getD, List.getD_eq_getElem?_getD, List.getElem?_eq_getElem hi, List.getElem?_eq_getElem hj]
  exact List.set_set_perm hi hj
def idL (n : Nat) : List Int := (List.range n).map fun (i : Nat) => (i : Int)
theorem idL_length (n : Nat) : (idL n).length = n := by simp [idL]
theorem idL_succ (n : Nat) : idL (n + 1) = idL n ++ [(n : Int)] := by simp [idL, List.range_succ]
/-- where the number i goes -/
def shJ (s : Int) (c t : Nat) : Nat := (shSeed s (t + 1) / 65536 % (((c - 1 - t : Nat) : Int) + 1)).toNat
theorem shJ_lt (s : Int) (c t : Nat) : shJ s c t < c - 1 - t + 1 := by
  unfold shJ
  have h0 := Int.emod_nonneg (shSeed s (t + 1) / 65536) (show (((c - 1 - t : Nat) : Int) + 1) ≠ 0 by omega)
  have h1 := Int.emod_lt_of_pos (shSeed s (t + 1) / 65536) (show (0 : Int) < (((c - 1 - t : Nat) : Int) + 1) by omega)
  omega
def shL (c : Nat) (s : Int) : Nat → List Int
  | 0 => idL c
  | t + 1 => swapL (shL c s t) (c - 1 - t) (shJ s c t)
theorem shL_length (c : Nat) (s : Int) : ∀ t, (shL c s t).length = c
  | 0 => idL_length c
  | t + 1 => by simp only [shL, swapL_length]; exact shL_length c s t
theorem shL_perm (c : Nat) (s : Int) (hc : 1 ≤ c) : ∀ t, (shL c s t).Perm (idL c)
  | 0 => List.Perm.refl _
  | t + 1 => by
    have hj := shJ_lt s c t
    exact (swapL_perm (by rw [shL_length]; omega) (by rw [shL_length]; omega)).trans (shL_perm c s hc t)
theorem idL_count (v n : Nat) : (idL n).count (v : Int) = if v < n then 1 else 0 := by
  induction n with
  | zero => rfl
  | succ n ih =>
    rw [idL_succ, List.count_append, ih]
    by_cases h : v = n
    · subst h; simp
    · have h2 : ((n : Int) == (v : Int)) = false := by simp; omega
      rw [List.count_singleton, h2]
      by_cases h3 : v < n
      · have h4 : v < n + 1 := by omega
        simp [h3, h4]
      · have h4 : ¬ v < n + 1 := by omega
        simp [h3, h4]
theorem idL_mem {n : Nat} {x : Int} (h : x ∈ idL n) : 0 ≤ x ∧ x < n := by
  obtain ⟨i, hi, rfl⟩ := List.mem_map.1 h
  have := List.mem_range.1 hi
  omega
def shAll (c : Nat) (s : Int) : List Int := shL c s (c - 1)
theorem shAll_length (c : Nat) (s : Int) : (shAll c s).length = c := shL_length _ _ _
theorem shAll_count (c : Nat) (s : Int) (hc : 1 ≤ c) (v : Nat) : (shAll c s).count (v : Int) = if v < c then 1 else 0 := by
  unfold shAll; rw [(shL_perm c s hc (c - 1)).count_eq]; exact idL_count v c
theorem shAll_at {c : Nat} {s : Int} (hc : 1 ≤ c) {i : Nat} (hi : i < c) : 0 ≤ (shAll c s).getD i 0 ∧ (shAll c s).getD i 0 < c := by
  have h1 : (shAll c s).getD i 0 ∈ shAll c s := by
    rw [List.getD_eq_getElem?_getD, List.getElem?_eq_getElem (by rw [shAll_length]; exact hi)]
    exact List.getElem_mem _
  exact idL_mem ((shL_perm c s hc (c - 1)).mem_iff.1 h1)
/-- how often a number has been seen -/
def seenL (c b : Nat) (l : List Int) : List Int := (List.range c).map fun (v : Nat) => ((b + l.count (v : Int) : Nat) : Int)
theorem seenL_length (c b : Nat) (l : List Int) : (seenL c b l).length = c := by simp [seenL]
theorem seenL_getD {c b : Nat} {l : List Int} {v : Nat} (h : v < c) : (seenL c b l).getD v 0 = ((b + l.count (v : Int) : Nat) : Int) := by
  simp [seenL, List.getD_eq_getElem?_getD, List.getElem?_map, List.getElem?_range, h]
theorem seenL_next {c b : Nat} {l : List Int} {v : Nat} (h : v < c) : (seenL c b l).set v ((seenL c b l).getD v 0 + 1) = seenL c b (l ++ [(v : Int)]) := by
  apply List.ext_getElem?
  intro i
  rw [List.getElem?_set]
  by_cases hi : i < c
  · by_cases e : v = i
    · subst e
      rw [if_pos rfl, if_pos (by rw [seenL_length]; exact h), seenL_getD h]
      simp [seenL, List.getElem?_map, List.getElem?_range, h]
      omega
    · rw [if_neg e]
      have h2 : ((v : Int) == (i : Int)) = false := by simp; omega
      have h3 : ¬ (v : Int) = (i : Int) := by omega
      simp [seenL, List.getElem?_map, List.getElem?_range, hi, List.count_append, List.count_singleton, h2, h3]
  · rw [List.getElem?_eq_none (by rw [seenL_length]; omega)]
    rw [List.getElem?_eq_none (by rw [seenL_length]; omega)]
    split
    · rename_i e; rw [if_neg (by rw [seenL_length]; omega)]
    · rfl
theorem seenL_zero (c : Nat) : seenL c 0 [] = List.replicate c 0 := by
  apply List.ext_getElem?
  intro i
  by_cases hi : i < c
  · simp [seenL, List.getElem?_map, List.getElem?_range, hi, List.getElem?_replicate]
  · rw [List.getElem?_eq_none (by rw [seenL_length]; omega), List.getElem?_eq_none (by simpa using hi)]
theorem take_next {l : List Int} {k : Nat} (h : k < l.length) : l.take (k + 1) = l.take k ++ [l.getD k 0] := by
  rw [List.take_succ_eq_append_getElem h, List.getD_eq_getElem?_getD, List.getElem?_eq_getElem h]; rfl
end Go.Proofs.Ytpemhiaeiecinaa
/- What shuffled rows and batches are. No condition. -/
namespace Go.Proofs.Ytpemhiaeiecinaa
open Go Go.RowKit
set_option linter.unusedVariables false
set_option linter.unusedSimpArgs false
theorem cell_setCell_some {w : World} {p q : Addr} {x v : Value} (h : w.cell? q = some v) : ∃ v', (w.setCell p x).cell? q = some v' := by
  by_cases e : p = q
  · subst e; exact ⟨x, World.cell?_setCell_same w p x h⟩
  · exact ⟨v, (World.cell?_setCell_other w p q x e).trans h⟩
theorem map_getD_at {xs : List Int} {k : Nat} (h : k < xs.length) : (xs.map (Value.int .i64))[k]? = some (.int .i64 (xs.getD k 0)) := by
  rw [List.getElem?_map, List.getElem?_eq_getElem h, List.getD_eq_getElem?_getD, List.getElem?_eq_getElem h]; rfl
theorem swapL_map (l : List Int) (i j : Nat) : (swapL l i j).map (Value.int .i64) = (((l.map (Value.int .i64)).set i (.int .i64 (l.getD j 0))).set j (.int .i64 (l.getD i 0))) := by
  unfold swapL
  rw [List.map_set, List.map_set]
theorem wf_small {n : Int} (h1 : -1000000000 ≤ n) (h2 : n ≤ 1000000000) : (Lit.int .i64 n).wf = true := by
  simp [Lit.wf, IntKind.min, IntKind.max, IntKind.signed, IntKind.bits]; omega
end Go.Proofs.Ytpemhiaeiecinaa
/- What a loss that is bent and its gradients are. No condition. -/
namespace Go.Proofs.Ytpemhiaeiecinaa
open Go Go.RowKit
set_option linter.unusedVariables false
set_option linter.unusedSimpArgs false
def leF (a c : Nat) : Bool := FloatKind.f32.format.order a c == some .lt || FloatKind.f32.format.order a c == some .eq
def gtZ (a : Nat) : Bool := FloatKind.f32.format.order a 0 == some .gt
theorem leF_at {r a c : Nat} (h : cn .f32 r = a) : leF r c = leF a c := by
  unfold leF
  rw [← order_cn .f32 r c, ← order_cn .f32 a c, h, ← h, cn_cn]
theorem gtZ_at {r a : Nat} (h : cn .f32 r = a) : gtZ r = gtZ a := by
  unfold gtZ
  rw [← order_cn .f32 r 0, ← order_cn .f32 a 0, h, ← h, cn_cn]
def huG (c : Nat) (D : Nat → Nat) (n i : Nat) : Nat := if leF (absW (D i)) c = true then fop .quo .f32 (D i) (floatOfInt .f32 n) else if gtZ (D i) = true then fop .quo .f32 (cn .f32 c) (floatOfInt .f32 n) else fop .quo .f32 (cn .f32 (Op.negFloat .f32 c)) (floatOfInt .f32 n)
def huA (c : Nat) (D : Nat → Nat) (i : Nat) : Nat := if leF (absW (D i)) c = true then fop .quo .f32 (fop .mul .f32 (D i) (D i)) 1073741824 else fop .mul .f32 (cn .f32 c) (fop .sub .f32 (absW (D i)) (fop .quo .f32 (cn .f32 c) 1073741824))
def huL (c : Nat) (D : Nat → Nat) (n : Nat) : Nat := fop .quo .f32 (sumS (listOf n (huA c D)) n) (floatOfInt .f32 n)
end Go.Proofs.Ytpemhiaeiecinaa
/- What square roots, copies of lists and gradients that are not too long are. No condition. -/
namespace Go.Proofs.Ytpemhiaeiecinaa
open Go Go.RowKit Ieee
set_option linter.unusedVariables false
set_option linter.unusedSimpArgs false
theorem RepF.nilcap {w : World} {lo hi : Nat} {ad : Option Addr} {n cap : Nat} {xs : List Nat} (h : RepF w lo hi ad n cap xs) : ad = none → cap = 0 := by
  intro e
  subst e
  rcases h.row.own.2 with ⟨h1, _⟩ | ⟨g, cap', cur, h1, _⟩
  · cases h1; rfl
  · cases h1
/-- a whole list is appended to a row of the call's own -/
theorem wp_cat {P : Program} {ops : Array Oper} {rest : List Oper} {o : Oper} {a : Act} {Q : Exit → Act → World → Prop} {e : TypeId} {W : World} (hgd : o.guard = none) (s x : Operand) (t : TypeId)
    (ho : o.op = .call { callee := .builtin .append, args := #[s, x], argTypes := #[t, t] })
    (base : Nat) (i : TypeInfo) (z : Value) (bytes : Nat) (ht : P.underlying t = some (.slice e)) (hi : P.info? e = some i) (hz : i.zero = some z)
    (hsize : i.size = 1) (hby : i.bytes = bytes) (hzs : z.cells.size = 1)
    (v : Value) (n : Nat) (xs : List Value) (hs : a.eval s = v) (hown : W.ownsRow base e 1 v n xs)
    (ad : Option Addr) (m c : Nat) (news : List Value) (hx : a.eval x = .slice ad m c) (hn : ad = none → c = 0) (hl : news.length = m) (hr : Rd W ad news) (h1 : ∀ u ∈ news, u.oneCell' = true)
    (h63 : n + m ≤ maxLen) (hbytes : (n + m) * bytes ≤ 140737488355328) (hbase : base ≤ W.heap.size)
    (h : ∀ v' w', w'.ownsRow base e 1 v' (n + m) (xs ++ news) → Below base W w' → base ≤ w'.heap.size → wpList P ops Q rest (a.put o.dst v') w') : wpList P ops Q (o :: rest) a W := by
  cases ad with
  | none =>
    obtain rfl := hn rfl
    have h0 : news = [] := by
      rcases hr with hr | ⟨b, off, hb, _⟩
      · exact hr
      · cases hb
    subst h0
    obtain rfl : m = 0 := hl.symm
    exact wpList_append_own_none hgd s x t ho base e i 1 ht hi v n xs hs hown hx (h v W (by simpa using hown) (Below.refl _ _) hbase)
  | some p =>
    refine wpList_append_own W hgd s x t ho base e i z 1 bytes ht hi hz hsize hby hzs (by decide) v n xs hs hown p m c news hx (by omega) ?_ h1 h63 hbytes hbase ?_
    · intro j u hj
      rcases hr with hr | ⟨b, off, hb, _, hc⟩
      · rw [hr] at hj; cases hj
      · cases hb
        have hlt : j < news.length := (List.getElem?_eq_some_iff.1 hj).1
        rw [Addr.add_lit]; exact (hc j hlt).trans hj
    · intro v' w' h2 hg _
      refine h v' w' h2 ((Below.refl _ _).grown hg hbase (fun j hj => (hown.lt j hj).1)) (Nat.le_trans hbase hg.size)
theorem run_sqrt_ext (x : Nat) (w : World) : (callFunc 247 #[.float .f64 x]).run Try.prog w = .ok (.value (.float .f64 (sqbits x w))) (w.drewN (sqdr x)) := by
  rw [run_callFunc_extern (show Try.prog.funcs[247]? = some Try.f247 by kernel_rfl) (by kernel_rfl) (by kernel_rfl) (by kernel_rfl) (e := Extern.MathSqrt.sqrt) (by kernel_rfl), run_sqrt]
  rfl
theorem math_Sqrt (x : Nat) (w : World) : Calls Try.prog 202 #[.float .f64 x] w fun e w' => e = .returned (.float .f64 (sqbits x w)) ∧ w' = w.drewN (sqdr x) := by
  have hd := run_sqrt_ext
  go_enter Try.func202, Try.ntmps202
  go_wp2
  go_ret
  exact ⟨rfl, rfl⟩
theorem impl_RootNumber (x : Nat) (hx : x < 4294967296) (w : World) : Calls Try.prog 140 #[.float .f32 x] w fun e w' => ∃ r, e = .returned (.float .f32 r) ∧ Hid (cn .f32 r = rootE (cn .f32 x) ∧ r < 4294967296) ∧ Dr w w' := by
  have ha := fun w1 w2 w3 => cn_root hx w1 w2 w3
  have HA := Lib.hid ha; clear ha
  go_enter Try.func140, Try.ntmps140
  go_wp2_with (go_at_call 202; refine (math_Sqrt _ _).mono ?_; rintro e w' ⟨rfl, rfl⟩)
  go_ret
  exact ⟨_, rfl, Lib.hid (HA.out _ _ _), _, rfl⟩
set_option maxRecDepth 100000 in
theorem spec_l02Own (w : World) (ad : Option Addr) (cap : Nat) (xs : List Nat) (h : F32s w ad cap xs) (hc : ad = none → cap = 0) (hn : xs.length ≤ 1048576) :
    Calls Try.prog 212 #[.slice ad xs.length cap] w fun e w' => ∃ (v : Value), e = .returned v ∧ w'.ownsRow w.heap.size 33 1 v xs.length (xs.map (Value.float .f32)) ∧ Below w.heap.size w w' := by
  obtain ⟨i0, hi, hz0, hz1, hz2⟩ := info_parts info_f32
  obtain ⟨n, hN⟩ : ∃ n, n = xs.length := ⟨_, rfl⟩
  have hr := h.rd
  have h1 : ∀ u ∈ xs.map (Value.float .f32), u.oneCell' = true := by intro u hu; obtain ⟨x, _, rfl⟩ := List.mem_map.1 hu; rfl
  have hl : (xs.map (Value.float .f32)).length = n := by rw [List.length_map, hN]
  rw [← hN] at hn ⊢
  have HL := Lib.hid hl; clear hN hl h
  go_enter Try.func212, Try.ntmps212
  go_wp2_with (at_builtin; refine wp_cat rfl _ _ 25 rfl w.heap.size i0 (.float .f32 0) 4 Try.underlying25 hi hz0 hz1 hz2 rfl _ 0 [] rfl (World.ownsRow_made _ _ _ (Nat.le_refl _) (Nat.zero_le _) rfl) ad n cap _ rfl hc HL.out (hr.below (below1 _ _) (Nat.le_refl _)) h1 ?c3 ?c4 ?c5 ?_)
  case c3 => unfold maxLen; omega
  case c4 => omega
  case c5 => simp
  intro v' w9 hown1 hb1 hbs1
  go_wp2
  go_ret
  exact ⟨_, rfl, by simpa using hown1, (below1 _ _).trans hb1⟩
set_option maxRecDepth 100000 in
theorem slices_Clone (w : World) (ad : Option Addr) (cap : Nat) (xs : List Nat) (h : F32s w ad cap xs) (hc : ad = none → cap = 0) (hn : xs.length ≤ 1048576) :
    Calls Try.prog 117 #[.slice ad xs.length cap] w fun e w' => ∃ (v : Value), e = .returned v ∧ w'.ownsRow w.heap.size 33 1 v xs.length (xs.map (Value.float .f32)) ∧ Below w.heap.size w w' := by
  obtain ⟨i0, hi, hz0, hz1, hz2⟩ := info_parts info_f32
  obtain ⟨n, hN⟩ : ∃ n, n = xs.length := ⟨_, rfl⟩
  have hr := h.rd
  have h1 : ∀ u ∈ xs.map (Value.float .f32), u.oneCell' = true := by intro u hu; obtain ⟨x, _, rfl⟩ := List.mem_map.1 hu; rfl
  have hl : (xs.map (Value.float .f32)).length = n := by rw [List.length_map, hN]
  rw [← hN] at hn ⊢
  have HL := Lib.hid hl; clear hN hl h
  cases ad with
  | none =>
    obtain rfl := hc rfl
    have h0 : xs = [] := by
      rcases hr with hr | ⟨b, off, hb, _⟩
      · simpa using hr
      · cases hb
    subst h0
    obtain rfl : n = 0 := HL.out.symm
    have he : ∀ w : World, (binOp .eql 25 (.slice none 0 0) (.slice none 0 0)).run Try.prog w = .ok (.bool true) w := fun _ => rfl
    go_enter Try.func117, Try.ntmps117
    go_wp2
    go_ret
    exact ⟨_, rfl, World.ownsRow_nil _ _ _ _, Below.refl _ _⟩
  | some p =>
    have he : ∀ w : World, (binOp .eql 25 (.slice (some p) n cap) (.slice none 0 0)).run Try.prog w = .ok (.bool false) w := fun _ => rfl
    go_enter Try.func117, Try.ntmps117
    go_wp2_with (at_builtin; refine wp_cat rfl _ _ 25 rfl w.heap.size i0 (.float .f32 0) 4 Try.underlying25 hi hz0 hz1 hz2 rfl _ 0 [] rfl (World.ownsRow_made _ _ _ (Nat.le_refl _) (Nat.zero_le _) rfl) (some p) n cap _ rfl (fun h => nomatch h) HL.out (hr.below (below1 _ _) (Nat.le_refl _)) h1 ?c3 ?c4 ?c5 ?_)
    case c3 => unfold maxLen; omega
    case c4 => omega
    case c5 => simp
    intro v' w9 hown1 hb1 hbs1
    go_wp2
    go_ret
    exact ⟨_, rfl, by simpa using hown1, (below1 _ _).trans hb1⟩
def gtC (a c : Nat) : Bool := FloatKind.f32.format.order a c == some .gt
theorem gtC_at {r a c : Nat} (h : cn .f32 r = a) : gtC r c = gtC a c := by
  unfold gtC
  rw [← order_cn .f32 r c, ← order_cn .f32 a c, h, ← h, cn_cn]
def clR (X : List Nat) (n : Nat) : Nat := rootE (dotS X X n)
def clG (c : Nat) (X : List Nat) (n i : Nat) : Nat := fop .mul .f32 (X.getD i 0) (fop .quo .f32 (cn .f32 c) (clR X n))
def clY (c : Nat) (X : List Nat) (n : Nat) : List Nat := if gtC (clR X n) c = true then listOf n (clG c X n) else X
theorem eq_listOf (X : List Nat) : X = listOf X.length (fun i => X.getD i 0) := by
  apply List.ext_getElem
  · simp [listOf]
  · intro i h1 h2
    simp [listOf, h1]
end Go.Proofs.Ytpemhiaeiecinaa
/- What batches are. No condition. -/
namespace Go.Proofs.Ytpemhiaeiecinaa
open Go Go.RowKit
set_option linter.unusedVariables false
set_option linter.unusedSimpArgs false
theorem impl_isTensorSide (n : Int) (w : World) : Calls Try.prog 103 #[.int .i64 n] w fun e w' => e = .returned (.bool (inB n 1 16)) ∧ w = w' := by
  have k1 := fun W => within_any n 1 16 W
  go_enter Try.func103, Try.ntmps103
  go_wp2_with fail
  refine (k1 _).mono ?_
  rintro e w1 ⟨rfl, rfl⟩
  go_wp2
  go_ret
  exact ⟨rfl, rfl⟩
end Go.Proofs.Ytpemhiaeiecinaa
/- What the tensors' first functions do. No condition. -/
namespace Go.Proofs.Ytpemhiaeiecinaa
open Go Go.RowKit
set_option linter.unusedVariables false
set_option linter.unusedSimpArgs false
/-- a tensor's sides fit its numbers -/
def tenB (r c : Int) (n : Nat) : Bool := inB r 1 16 && (inB c 1 16 && decide ((n : Int) = r * c))
theorem tenB_iff {r c : Int} {n : Nat} : tenB r c n = true ↔ (1 ≤ r ∧ r ≤ 16) ∧ (1 ≤ c ∧ c ≤ 16) ∧ (n : Int) = r * c := by
  unfold tenB; simp only [Bool.and_eq_true, inB_iff, decide_eq_true_eq]
set_option maxHeartbeats 1000000 in
theorem impl_ValidTensor (r c : Int) (ad : Option Addr) (n cap : Nat) (hn : n ≤ maxLen) (w : World) : Calls Try.prog 33 #[.agg #[.int .i64 r, .int .i64 c, .slice ad n cap]] w fun e w' => e = .returned (.bool (tenB r c n)) ∧ Below w.heap.size w w' := by
  unfold maxLen at hn
  have K1 := Lib.hid (fun W => impl_isTensorSide r W)
  have K2 := Lib.hid (fun W => impl_isTensorSide c W)
  have ht : tenB r c n = (inB r 1 16 && (inB c 1 16 && decide ((n : Int) = r * c))) := rfl
  rw [ht]
  clear ht
  cases h1 : inB r 1 16
  · rw [h1] at K1
    clear h1
    go_enter Try.func33, Try.ntmps33
    go_wp2_with fail
    refine (K1.out _).mono ?_
    rintro e w1 ⟨rfl, rfl⟩
    go_wp2
    go_ret
    exact ⟨rfl, below1 _ _⟩
  · rw [h1] at K1
    have ⟨a1, a2⟩ := inB_iff.1 h1
    clear h1
    cases h2 : inB c 1 16
    · rw [h2] at K2
      clear h2
      go_enter Try.func33, Try.ntmps33
      go_wp2_with fail
      refine (K1.out _).mono ?_
      rintro e w1 ⟨rfl, rfl⟩
      go_wp2_with fail
      refine (K2.out _).mono ?_
      rintro e w1 ⟨rfl, rfl⟩
      go_wp2
      go_ret
      exact ⟨rfl, below1 _ _⟩
    · rw [h2] at K2
      have ⟨b1, b2⟩ := inB_iff.1 h2
      clear h2
      obtain ⟨p, hp⟩ : ∃ p, p = r * c := ⟨_, rfl⟩
      have p1 : 0 ≤ p := by rw [hp]; exact Int.mul_nonneg (by omega) (by omega)
      have p2 : p ≤ 256 := by
        rw [hp]
        have h3 : r * c ≤ 16 * c := Int.mul_le_mul_of_nonneg_right a2 (by omega)
        omega
      rw [← hp]
      have hpw : wrap64 (r * c) = p := by rw [← hp]; unfold wrap64; omega
      clear hp
      go_enter Try.func33, Try.ntmps33
      go_wp2_with fail
      refine (K1.out _).mono ?_
      rintro e w1 ⟨rfl, rfl⟩
      go_wp2_with fail
      refine (K2.out _).mono ?_
      rintro e w1 ⟨rfl, rfl⟩
      go_wp2
      go_ret
      exact ⟨by congr 2, below1 _ _⟩
theorem impl_sameShape (r c r2 c2 : Int) (v v2 : Value) (w : World) (hv : v.oneCell' = true) (hv2 : v2.oneCell' = true) : Calls Try.prog 110 #[.agg #[.int .i64 r, .int .i64 c, v], .agg #[.int .i64 r2, .int .i64 c2, v2]] w fun e w' => e = .returned (.bool (decide (r = r2) && decide (c = c2))) ∧ Below w.heap.size w w' := by
  by_cases h : r = r2
  · subst h
    have hb : (r == r) = true := beq_self_eq_true r
    go_enter Try.func110, Try.ntmps110
    go_wp2
    go_ret
    exact ⟨by congr 2, below2 _ _ _⟩
  · have hb : (r == r2) = false := by simpa using h
    rw [decide_eq_false h]
    clear h
    go_enter Try.func110, Try.ntmps110
    go_wp2
    go_ret
    exact ⟨rfl, below2 _ _ _⟩
end Go.Proofs.Ytpemhiaeiecinaa
/- What comparing two numbers bit by bit computes. No condition. -/
namespace Go.Proofs.Ytpemhiaeiecinaa
open Go Go.RowKit Ieee
set_option linter.unusedVariables false
set_option linter.unusedSimpArgs false
theorem order_word_eq {x y : Nat} (hx : x < 4294967296) (hy : y < 4294967296) (h : FloatKind.f32.format.order x y = some .eq) (hs : decide (x < 2147483648) = decide (y < 2147483648)) : x = y := by
  obtain ⟨s, r, e1, hr⟩ := word_of single (x := x) (by rw [s_sw]; omega)
  obtain ⟨t, q, e2, hq⟩ := word_of single (x := y) (by rw [s_sw]; omega)
  have hst : s = t := by
    have a1 := word_sign single s hr
    have a2 := word_sign single t hq
    rw [← e1, s_sw] at a1
    rw [← e2, s_sw] at a2
    rw [hs, a2] at a1
    cases s <;> cases t <;> simp_all
  subst hst
  have n1 : isN .f32 x = false := by
    cases hn : isN .f32 x
    · rfl
    · rw [order_none (.inl hn)] at h; cases h
  have n2 : isN .f32 y = false := by
    cases hn : isN .f32 y
    · rfl
    · rw [order_none (.inr hn)] at h; cases h
  have hri : r ≤ single.infRung := by
    rcases Nat.lt_or_ge single.infRung r with h1 | h1
    · exact absurd (nan_word single single_binade s h1 hr) (by rw [← e1]; intro h2; unfold isN at n1; rw [show FloatKind.f32.format.read x = single.read x from rfl, h2] at n1; cases n1)
    · exact h1
  have hqi : q ≤ single.infRung := by
    rcases Nat.lt_or_ge single.infRung q with h1 | h1
    · exact absurd (nan_word single single_binade s h1 hq) (by rw [← e2]; intro h2; unfold isN at n2; rw [show FloatKind.f32.format.read y = single.read y from rfl, h2] at n2; cases n2)
    · exact h1
  have ho : (single.read x).order (single.read y) = some .eq := h
  rcases Nat.lt_or_ge r single.infRung with h1 | h1
  · rcases Nat.lt_or_ge q single.infRung with h2 | h2
    · have h3 : single.order (single.word s r) (single.word s q) = some .eq := by rw [← e1, ← e2]; exact h
      rw [order_fin single s s h1 h2] at h3
      have h4 := Int.compare_eq_eq.1 (Option.some.inj h3)
      unfold sval at h4
      have : r = q := by
        cases s
        · simp at h4; exact nval_inj (f := single) (Int.ofNat.inj h4)
        · simp at h4; exact nval_inj (f := single) (by omega)
      rw [e1, e2, this]
    · have hq2 : q = single.infRung := by omega
      obtain ⟨m, p, e3, _⟩ := read_fin single s h1
      rw [e1, e2, e3, hq2, read_inf single single_binade] at ho
      cases s <;> cases ho
  · have hr2 : r = single.infRung := by omega
    rcases Nat.lt_or_ge q single.infRung with h2 | h2
    · obtain ⟨m, p, e3, _⟩ := read_fin single s h2
      rw [e1, e2, e3, hr2, read_inf single single_binade] at ho
      cases s <;> cases ho
    · have hq2 : q = single.infRung := by omega
      rw [e1, e2, hr2, hq2]
theorem wide_sign2 {x : Nat} (hx : x < 4294967296) (hn : isN .f32 x = false) (w : World) : decide (cvbits .f32 x .f64 w < 9223372036854775808) = decide (x < 2147483648) := by
  cases hf : finB x
  · have : x = 2139095040 ∨ x = 4286578688 := by
      unfold finB at hf
      unfold isN at hn
      obtain ⟨s, r, e, hr⟩ := word_of single (x := x) (by rw [s_sw]; omega)
      rcases Nat.lt_or_ge r single.infRung with h1 | h1
      · obtain ⟨m, p, e2, _⟩ := read_fin single s h1
        rw [e, e2] at hf; cases hf
      · rcases Nat.lt_or_ge single.infRung r with h2 | h2
        · have := nan_word single single_binade s h2 hr
          rw [show FloatKind.f32.format.read x = single.read x from rfl, e, this] at hn; cases hn
        · have : r = single.infRung := by omega
          subst this
          cases s
          · left; rw [e, s_ir]; unfold Format.word; simp
          · right; rw [e]; unfold Format.word; rw [s_sw, s_ir]; simp
    rcases this with h | h
    · subst h
      have : cvbits .f32 2139095040 .f64 w = 9218868437227405312 := by
        unfold cvbits
        rw [if_neg (by decide)]
        have : FloatKind.f32.decode 2139095040 = .infinity false := by decide +kernel
        rw [this]; show FloatKind.f64.encode (.infinity false) = _; decide +kernel
      rw [this]; decide
    · subst h
      have : cvbits .f32 4286578688 .f64 w = 18442240474082181120 := by
        unfold cvbits
        rw [if_neg (by decide)]
        have : FloatKind.f32.decode 4286578688 = .infinity true := by decide +kernel
        rw [this]; show FloatKind.f64.encode (.infinity true) = _; decide +kernel
      rw [this]; decide
  · exact wide_sign hx hf w
theorem order_self2 {x : Nat} (hn : isN .f32 x = false) : FloatKind.f32.format.order x x = some .eq := by rw [order_self, hn]; rfl
theorem order_nan {x : Nat} (hn : isN .f32 x = true) : FloatKind.f32.format.order x x = none := by rw [order_self, hn]; rfl
set_option maxHeartbeats 2000000 in
theorem impl_SameNumber (a b : Nat) (ha : a < 4294967296) (hb : b < 4294967296) (w : World) :
    Calls Try.prog 32 #[.float .f32 a, .float .f32 b] w fun e w' => e = .returned (.bool (decide (cn .f32 a = cn .f32 b))) ∧ Dr w w' := by
  cases na : isN .f32 a
  · have o1 := order_self2 na
    cases nb : isN .f32 b
    · have o2 := order_self2 nb
      rw [cn_not na, cn_not nb]
      have s1 := fun w => wide_sign2 ha na w
      have s2 := fun w => wide_sign2 hb nb w
      have l1 := fun w => cv64_lt a w
      have l2 := fun w => cv64_lt b w
      have hS1 : ∀ w1 W, Calls Try.prog 125 #[.float .f64 (cvbits .f32 a .f64 w1)] W fun e w' => e = .returned (.bool !(decide (a < 2147483648))) ∧ W = w' := by
        intro w1 W; have := math_Signbit _ (l1 w1) W; rwa [s1] at this
      have hS2 : ∀ w1 W, Calls Try.prog 125 #[.float .f64 (cvbits .f32 b .f64 w1)] W fun e w' => e = .returned (.bool !(decide (b < 2147483648))) ∧ W = w' := by
        intro w1 W; have := math_Signbit _ (l2 w1) W; rwa [s2] at this
      have HS1 := Lib.hid hS1; have HS2 := Lib.hid hS2
      by_cases he : FloatKind.f32.format.order a b = some .eq
      · have hiff : decide (a = b) = (decide (a < 2147483648) == decide (b < 2147483648)) := by
          rw [Bool.eq_iff_iff, decide_eq_true_eq, beq_iff_eq]
          constructor
          · rintro rfl; rfl
          · exact order_word_eq ha hb he
        rw [hiff]
        have HI := Lib.hid hiff
        clear s1 s2 l1 l2 hS1 hS2 hiff na nb ha hb
        go_enter Try.func32, Try.ntmps32
        go_wp2_with fail
        refine (HS1.out _ _).mono ?_
        rintro e w1 ⟨rfl, rfl⟩
        go_wp2_with fail
        refine (HS2.out _ _).mono ?_
        rintro e w1 ⟨rfl, rfl⟩
        obtain ⟨p1, hp1⟩ : ∃ p, p = decide (a < 2147483648) := ⟨_, rfl⟩
        obtain ⟨p2, hp2⟩ : ∃ p, p = decide (b < 2147483648) := ⟨_, rfl⟩
        rw [← hp1, ← hp2]
        have HP1 := Lib.hid hp1; have HP2 := Lib.hid hp2
        clear hp1 hp2 HI
        cases p1 <;> cases p2
        all_goals
          go_wp2
          go_ret
          exact ⟨by rw [← HP1.out, ← HP2.out]; rfl, _, rfl⟩
      · have hne : decide (a = b) = false := by
          simp; rintro rfl; exact he o1
        rw [hne]
        have he2 : (FloatKind.f32.format.order a b == some .eq) = false := by simpa using he
        clear s1 s2 l1 l2 hS1 hS2 na nb ha hb he hne
        go_enter Try.func32, Try.ntmps32
        go_wp2
        go_ret
        exact ⟨rfl, Dr.refl _⟩
    · have o2 := order_nan nb
      have hne : decide (cn .f32 a = cn .f32 b) = false := by
        simp; intro h; have := isN_of_cn h; rw [na, nb] at this; cases this
      rw [hne]
      clear na nb ha hb hne
      go_enter Try.func32, Try.ntmps32
      go_wp2
      go_ret
      exact ⟨rfl, Dr.refl _⟩
  · have o1 := order_nan na
    cases nb : isN .f32 b
    · have o2 := order_self2 nb
      have hne : decide (cn .f32 a = cn .f32 b) = false := by
        simp; intro h; have := isN_of_cn h; rw [na, nb] at this; cases this
      rw [hne]
      clear na nb ha hb hne
      go_enter Try.func32, Try.ntmps32
      go_wp2
      go_ret
      exact ⟨rfl, Dr.refl _⟩
    · have o2 := order_nan nb
      rw [cn_nan na, cn_nan nb]
      clear na nb ha hb
      go_enter Try.func32, Try.ntmps32
      go_wp2
      go_ret
      exact ⟨rfl, Dr.refl _⟩
end Go.Proofs.Ytpemhiaeiecinaa
/- The shapes of the values of a tape. No condition. -/
namespace Go.Proofs.Ytpemhiaeiecinaa
open Go Go.RowKit
set_option linter.unusedVariables false
set_option linter.unusedSimpArgs false
/-- rows and columns -/
abbrev Sh := Int × Int
def twoB (k : Int) : Bool := k == 1 || (k == 2 || (k == 3 || (k == 4 || k == 6)))
def zeroB (x : Nat) : Bool := decide (cn .f32 x = cn .f32 0)
def fitsB (i : Int) (o : OpP) : Bool :=
  inB o.k 0 10 && ((o.k == 5 || zeroB o.num) && (if o.k = 0 then (o.a == 0 && (o.b == 0 && tenB o.r o.c o.xs.length)) else (o.r == 0 && (o.c == 0 && (decide (o.xs.length = 0) && (inB o.a 0 (i - 1) && (if twoB o.k = true then inB o.b 0 (i - 1) else o.b == 0)))))))
/-- the shape of an operation's value, where it fits -/
def shapeOf (k : Int) (v w : Sh) : Option Sh :=
  if k = 1 ∨ k = 3 then (if v = w then some v else none)
  else if k = 2 ∨ k = 4 then (if w = (1, v.2) then some v else none)
  else if k = 6 then (if v.2 = w.1 then some (v.1, w.2) else none)
  else if k = 7 then some (v.2, v.1)
  else if k = 10 then some (1, 1)
  else some v
def shGet (S : List Sh) (i : Int) : Sh := S.getD i.toNat (0, 0)
def stepSh (S : List Sh) (o : OpP) : Option (List Sh) :=
  if fitsB S.length o = true then (if o.k = 0 then some (S ++ [(o.r, o.c)]) else (shapeOf o.k (shGet S o.a) (shGet S o.b)).map fun s => S ++ [s]) else none
def shapesN (os : List OpP) (k : Nat) : Option (List Sh) := (os.take k).foldlM stepSh []
/-- the shapes of a valid tape -/
def shapesP (os : List OpP) : Option (List Sh) := if 1 ≤ os.length ∧ os.length ≤ 48 then shapesN os os.length else none
theorem shapesN_succ {os : List OpP} {k : Nat} {o : OpP} (h : os[k]? = some o) : shapesN os (k + 1) = (shapesN os k).bind fun S => stepSh S o := by
  obtain ⟨hk, rfl⟩ := List.getElem?_eq_some_iff.1 h
  unfold shapesN
  rw [List.take_succ_eq_append_getElem hk, List.foldlM_append]
  simp [List.foldlM]
theorem stepSh_length {S S' : List Sh} {o : OpP} (h : stepSh S o = some S') : S'.length = S.length + 1 := by
  unfold stepSh at h
  split at h
  · split at h
    · cases h; simp
    · cases e : shapeOf o.k (shGet S o.a) (shGet S o.b) with
      | none => rw [e] at h; cases h
      | some s => rw [e] at h; cases h; simp
  · cases h
theorem shapesN_length {os : List OpP} {k : Nat} {S : List Sh} (hk : k ≤ os.length) (h : shapesN os k = some S) : S.length = k := by
  induction k generalizing S with
  | zero => unfold shapesN at h; simp at h; subst h; rfl
  | succ k ih =>
    obtain ⟨o, ho⟩ := getElem?_lt (show k < os.length by omega)
    rw [shapesN_succ ho] at h
    cases e : shapesN os k with
    | none => rw [e] at h; cases h
    | some S0 =>
      rw [e] at h
      have := stepSh_length h
      rw [this, ih (by omega) e]
theorem shapesN_none {os : List OpP} {k n : Nat} (h : shapesN os k = none) (hk : k ≤ n) (hn : n ≤ os.length) : shapesN os n = none := by
  induction n with
  | zero => have : k = 0 := by omega
            subst this; exact h
  | succ n ih =>
    by_cases e : k = n + 1
    · subst e; exact h
    · obtain ⟨o, ho⟩ := getElem?_lt (show n < os.length by omega)
      rw [shapesN_succ ho, ih (by omega) (by omega)]; rfl
end Go.Proofs.Ytpemhiaeiecinaa
/- What the reference's small functions on tensors and operations are. No condition. -/
namespace Go.Proofs.Ytpemhiaeiecinaa
open Go Go.RowKit
set_option linter.unusedVariables false
set_option linter.unusedSimpArgs false
theorem spec_l02Shape (r c : Int) (w : World) : Calls Try.prog 210 #[.int .i64 r, .int .i64 c] w fun e w' => e = .returned (.bool (inB r 1 16 && inB c 1 16)) ∧ w = w' := by
  have K1 := Lib.hid (fun W => l00In_any r 1 16 W)
  have K2 := Lib.hid (fun W => l00In_any c 1 16 W)
  cases h1 : inB r 1 16
  · rw [h1] at K1
    clear h1
    go_enter Try.func210, Try.ntmps210
    go_wp2_with fail
    refine (K1.out _).mono ?_
    rintro e w1 ⟨rfl, rfl⟩
    go_wp2
    go_ret
    exact ⟨rfl, rfl⟩
  · rw [h1] at K1
    clear h1
    go_enter Try.func210, Try.ntmps210
    go_wp2_with fail
    refine (K1.out _).mono ?_
    rintro e w1 ⟨rfl, rfl⟩
    go_wp2_with fail
    refine (K2.out _).mono ?_
    rintro e w1 ⟨rfl, rfl⟩
    go_wp2
    go_ret
    exact ⟨rfl, rfl⟩
set_option maxHeartbeats 2000000 in
theorem spec_l02Is (w : World) (g o : Nat) (r c : Int) (ad : Option Addr) (n cap : Nat) (hn : n ≤ maxLen) (p0 : w.cell? ⟨g, o, none⟩ = some (.int .i64 r)) (p1 : w.cell? ⟨g, o + 1, none⟩ = some (.int .i64 c)) (p2 : w.cell? ⟨g, o + 2, none⟩ = some (.slice ad n cap)) :
    Calls Try.prog 156 #[.pointer (some ⟨g, o, none⟩)] w fun e w' => e = .returned (.bool (tenB r c n)) ∧ Dr w w' := by
  unfold maxLen at hn
  have KS := Lib.hid (fun W => spec_l02Shape r c W)
  have ht : tenB r c n = ((inB r 1 16 && inB c 1 16) && decide ((n : Int) = r * c)) := by unfold tenB; rw [Bool.and_assoc]
  rw [ht]
  clear ht
  obtain ⟨p, hp⟩ : ∃ p, p = r * c := ⟨_, rfl⟩
  cases h1 : (inB r 1 16 && inB c 1 16)
  · rw [h1] at KS
    clear h1 hp
    go_enter Try.func156, Try.ntmps156
    go_wp2
    refine wp_region_drawn (fun f args v => v = .bool false) (by kernel_rfl) (by kernel_rfl) ?_
    repeat (refine wset_step (fun K hK nq => ?_); go_simp; refine hK _ ?_; clear hK K)
    refine wset_step (fun K hK nq => ?_)
    go_simp
    refine ⟨(KS.out _).mono ?_, ?_⟩
    · rintro e w' ⟨rfl, rfl⟩
      exact ⟨rfl, _, rfl⟩
    refine hK _ ?_
    clear hK K
    repeat (refine wset_step (fun K hK nq => ?_); go_simp; refine hK _ ?_; clear hK K)
    refine wset_nil ?_
    rintro w' ⟨q, rfl⟩
    go_wp2
    go_ret
    exact ⟨rfl, _, rfl⟩
  · rw [h1] at KS
    simp only [Bool.and_eq_true] at h1
    have ⟨a1, a2⟩ := inB_iff.1 h1.1
    have ⟨b1, b2⟩ := inB_iff.1 h1.2
    have q1 : 0 ≤ p := by rw [hp]; exact Int.mul_nonneg (by omega) (by omega)
    have q2 : p ≤ 256 := by
      rw [hp]
      have h3 : r * c ≤ 16 * c := Int.mul_le_mul_of_nonneg_right a2 (by omega)
      omega
    rw [← hp]
    have hpw : IntKind.i64.wrap (r * c) = p := by rw [← hp, IntKind.wrap_i64]; omega
    have hq : ((n : Int) == IntKind.i64.wrap (r * c)) = decide ((n : Int) = p) := by rw [hpw]; rfl
    have HQ := Lib.hid hq
    clear hp h1 a1 a2 b1 b2 hpw hq
    go_enter Try.func156, Try.ntmps156
    go_wp2
    refine wp_region_drawn (fun f args v => v = .bool true) (by kernel_rfl) (by kernel_rfl) ?_
    repeat (refine wset_step (fun K hK nq => ?_); go_simp; refine hK _ ?_; clear hK K)
    refine wset_step (fun K hK nq => ?_)
    go_simp
    refine ⟨(KS.out _).mono ?_, ?_⟩
    · rintro e w' ⟨rfl, rfl⟩
      exact ⟨rfl, _, rfl⟩
    refine hK _ ?_
    clear hK K
    repeat (refine wset_step (fun K hK nq => ?_); go_simp; refine hK _ ?_; clear hK K)
    refine wset_nil ?_
    rintro w' ⟨q, rfl⟩
    go_wp2
    go_ret
    refine ⟨?_, _, rfl⟩
    show Ending.returned (Value.bool _) = Ending.returned (Value.bool _)
    rw [HQ.out]; rfl
theorem spec_l04None (w : World) (g o : Nat) (r c : Int) (ad : Option Addr) (n cap : Nat) (p0 : w.cell? ⟨g, o, none⟩ = some (.int .i64 r)) (p1 : w.cell? ⟨g, o + 1, none⟩ = some (.int .i64 c)) (p2 : w.cell? ⟨g, o + 2, none⟩ = some (.slice ad n cap)) :
    Calls Try.prog 204 #[.pointer (some ⟨g, o, none⟩)] w fun e w' => e = .returned (.bool (r == 0 && (c == 0 && decide (n = 0)))) ∧ w = w' := by
  by_cases h1 : r = 0
  · subst h1
    by_cases h2 : c = 0
    · subst h2
      by_cases h3 : n = 0
      · subst h3
        go_enter Try.func204, Try.ntmps204
        go_wp2
        go_ret
        exact ⟨rfl, rfl⟩
      · rw [decide_eq_false h3]
        have h3 : ((n : Int) == 0) = false := by simp; omega
        go_enter Try.func204, Try.ntmps204
        go_wp2
        go_ret
        exact ⟨rfl, rfl⟩
    · have h2 : (c == 0) = false := by simpa using h2
      rw [h2]
      go_enter Try.func204, Try.ntmps204
      go_wp2
      go_ret
      exact ⟨rfl, rfl⟩
  · have h1 : (r == 0) = false := by simpa using h1
    rw [h1]
    go_enter Try.func204, Try.ntmps204
    go_wp2
    go_ret
    exact ⟨rfl, rfl⟩
theorem spec_l04Two (k : Int) (w : World) : Calls Try.prog 205 #[.int .i64 k] w fun e w' => e = .returned (.bool (twoB k)) ∧ w = w' := by
  rcases (by omega : k = 1 ∨ k = 2 ∨ k = 3 ∨ k = 4 ∨ k = 6 ∨ (k ≠ 1 ∧ k ≠ 2 ∧ k ≠ 3 ∧ k ≠ 4 ∧ k ≠ 6)) with rfl | rfl | rfl | rfl | rfl | ⟨h1, h2, h3, h4, h6⟩
  rotate_right
  · have h1 : (k == 1) = false := by simpa using h1
    have h2 : (k == 2) = false := by simpa using h2
    have h3 : (k == 3) = false := by simpa using h3
    have h4 : (k == 4) = false := by simpa using h4
    have h6 : (k == 6) = false := by simpa using h6
    unfold twoB
    go_enter Try.func205, Try.ntmps205
    go_wp2
    go_ret
    refine ⟨?_, rfl⟩
    rw [h1, h2, h3, h4, h6]; rfl
  all_goals
    go_enter Try.func205, Try.ntmps205
    go_wp2
    go_ret
    exact ⟨rfl, rfl⟩
theorem impl_takesTwo (k : Int) (w : World) : Calls Try.prog 172 #[.int .i64 k] w fun e w' => e = .returned (.bool (twoB k)) ∧ w = w' := by
  rcases (by omega : k = 1 ∨ k = 2 ∨ k = 3 ∨ k = 4 ∨ k = 6 ∨ (k ≠ 1 ∧ k ≠ 2 ∧ k ≠ 3 ∧ k ≠ 4 ∧ k ≠ 6)) with rfl | rfl | rfl | rfl | rfl | ⟨h1, h2, h3, h4, h6⟩
  rotate_right
  · have h1 : (k == 1) = false := by simpa using h1
    have h2 : (k == 2) = false := by simpa using h2
    have h3 : (k == 3) = false := by simpa using h3
    have h4 : (k == 4) = false := by simpa using h4
    have h6 : (k == 6) = false := by simpa using h6
    unfold twoB
    go_enter Try.func172, Try.ntmps172
    go_wp2
    go_ret
    refine ⟨?_, rfl⟩
    rw [h1, h2, h3, h4, h6]; rfl
  all_goals
    go_enter Try.func172, Try.ntmps172
    go_wp2
    go_ret
    exact ⟨rfl, rfl⟩
theorem spec_l01Same (x y : Nat) (hx : x < 4294967296) (hy : y < 4294967296) (w : World) : Calls Try.prog 131 #[.float .f32 x, .float .f32 y] w fun e w' => e = .returned (.bool (decide (cn .f32 x = cn .f32 y))) ∧ w = w' := by
  have K1 := Lib.hid (fun W => spec_l01Bits x hx W)
  have K2 := Lib.hid (fun W => spec_l01Bits y hy W)
  obtain ⟨X, hX⟩ : ∃ X, X = cn .f32 x := ⟨_, rfl⟩
  obtain ⟨Y, hY⟩ : ∃ Y, Y = cn .f32 y := ⟨_, rfl⟩
  rw [← hX] at K1 ⊢
  rw [← hY] at K2 ⊢
  clear hX hY
  have he : ((X : Int) == (Y : Int)) = decide (X = Y) := by
    by_cases h : X = Y
    · subst h; simp
    · rw [decide_eq_false h]; simp; omega
  go_enter Try.func131, Try.ntmps131
  go_wp2_with fail
  refine (K1.out _).mono ?_
  rintro e w1 ⟨rfl, rfl⟩
  go_wp2_with fail
  refine (K2.out _).mono ?_
  rintro e w1 ⟨rfl, rfl⟩
  go_wp2
  go_ret
  exact ⟨by first | rfl | (congr 2), rfl⟩
end Go.Proofs.Ytpemhiaeiecinaa
/- Whether the fields of an operation fit: the program. No condition. -/
namespace Go.Proofs.Ytpemhiaeiecinaa
open Go Go.RowKit
set_option linter.unusedVariables false
set_option linter.unusedSimpArgs false
theorem fitsB_in {i : Int} {o : OpP} (h : fitsB i o = true) : 0 ≤ o.k ∧ o.k ≤ 10 := by
  unfold fitsB at h
  simp only [Bool.and_eq_true] at h
  exact inB_iff.1 h.1
theorem fitsB_args {i : Int} {o : OpP} (h : fitsB i o = true) (h0 : o.k ≠ 0) : (0 ≤ o.a ∧ o.a ≤ i - 1) ∧ (0 ≤ o.b ∧ o.b ≤ i - 1) ∧ (o.r = 0 ∧ o.c = 0 ∧ o.xs = []) := by
  unfold fitsB at h
  rw [if_neg h0] at h
  simp only [Bool.and_eq_true, beq_iff_eq, decide_eq_true_eq] at h
  obtain ⟨_, _, h1, h2, h3, h4, h5⟩ := h
  have ⟨a1, a2⟩ := inB_iff.1 h4
  refine ⟨⟨a1, a2⟩, ?_, h1, h2, List.eq_nil_of_length_eq_zero h3⟩
  split at h5
  · exact inB_iff.1 h5
  · have : o.b = 0 := by simpa using h5
    omega
theorem fitsB_input {i : Int} {o : OpP} (h : fitsB i o = true) (h0 : o.k = 0) : o.a = 0 ∧ o.b = 0 ∧ tenB o.r o.c o.xs.length = true := by
  unfold fitsB at h
  rw [if_pos h0] at h
  simp only [Bool.and_eq_true, beq_iff_eq] at h
  exact ⟨h.2.2.1, h.2.2.2.1, h.2.2.2.2⟩
theorem fitsB_single {i : Int} {o : OpP} (h : fitsB i o = true) (h0 : twoB o.k = false) : o.b = 0 := by
  by_cases hk : o.k = 0
  · exact (fitsB_input h hk).2.1
  · unfold fitsB at h
    rw [if_neg hk, h0] at h
    simp only [Bool.and_eq_true, beq_iff_eq] at h
    simpa using h.2.2.2.2.2.2
set_option maxHeartbeats 8000000 in
set_option maxRecDepth 100000 in
theorem impl_fieldsFit (w : World) (o : OpD) (i : Nat) (hi : i ≤ 100) (hm : o.xs.length ≤ maxLen) (hok : o.num < 4294967296) : Calls Try.prog 206 #[o.val, .int .i64 i] w fun e w' => e = .returned (.bool (fitsB i o.toOpP)) ∧ Below w.heap.size w w' := by
  obtain ⟨⟨kk, a, b, q, r, c, xs⟩, ad, cap⟩ := o
  show Calls Try.prog 206 #[.agg #[.int .i64 kk, .int .i64 a, .int .i64 b, .float .f32 q, .int .i64 r, .int .i64 c, .slice ad xs.length cap], .int .i64 i] w fun e w' => e = .returned (.bool (fitsB i ⟨kk, a, b, q, r, c, xs⟩)) ∧ Below w.heap.size w w'
  have hm : xs.length ≤ maxLen := hm
  have hok : q < 4294967296 := hok
  obtain ⟨n, hN⟩ : ∃ n, n = xs.length := ⟨_, rfl⟩
  have hf : fitsB i ⟨kk, a, b, q, r, c, xs⟩ = (inB kk 0 10 && ((kk == 5 || zeroB q) && (if kk = 0 then (a == 0 && (b == 0 && tenB r c n)) else ((r == 0 && (c == 0 && decide (n = 0))) && (inB a 0 (i - 1) && (if twoB kk = true then inB b 0 (i - 1) else b == 0)))))) := by
    rw [hN]; unfold fitsB; simp only [Bool.and_assoc]
  rw [hf, ← hN]
  rw [← hN] at hm
  clear hf hN
  obtain ⟨R, hR⟩ : ∃ R, R = (inB kk 0 10 && ((kk == 5 || zeroB q) && (if kk = 0 then (a == 0 && (b == 0 && tenB r c n)) else ((r == 0 && (c == 0 && decide (n = 0))) && (inB a 0 (i - 1) && (if twoB kk = true then inB b 0 (i - 1) else b == 0)))))) := ⟨_, rfl⟩
  rw [← hR]
  have HE := Lib.hid hR
  clear hR
  have K1 := Lib.hid (fun W => within_any kk 0 10 W)
  have K2 := Lib.hid (fun W => impl_SameNumber q 0 hok (by decide) W)
  have ez : decide (cn .f32 q = cn .f32 0) = zeroB q := rfl
  rw [ez] at K2
  have K3 := Lib.hid (fun W => impl_ValidTensor r c ad n cap hm W)
  have K4 := Lib.hid (fun W => within_any a 0 (i - 1) W)
  have K5 := Lib.hid (fun W => within_any b 0 (i - 1) W)
  have K6 := Lib.hid (fun W => impl_takesTwo kk W)
  clear ez
  unfold maxLen at hm
  have B := Lib.hid (below1 w (.cells #[.int .i64 kk, .int .i64 a, .int .i64 b, .float .f32 q, .int .i64 r, .int .i64 c, .slice ad n cap] 102))
  cases e1 : inB kk 0 10
  · rw [e1] at K1
    have E1 := Lib.hid e1
    clear e1
    go_enter Try.func206, Try.ntmps206
    go_wp2_with fail
    refine (K1.out _).mono ?_
    rintro e w1 ⟨rfl, rfl⟩
    go_wp2
    go_ret
    refine ⟨?_, B.out⟩
    rw [HE.out, E1.out]; rfl
  rw [e1] at K1
  have E1 := Lib.hid e1
  clear e1
  by_cases h0 : kk = 0
  · subst h0
    cases e2 : zeroB q
    · rw [e2] at K2
      have He2 := Lib.hid e2
      clear e2
      go_enter Try.func206, Try.ntmps206
      go_wp2_with fail
      refine (K1.out _).mono ?_
      rintro e w1 ⟨rfl, rfl⟩
      go_wp2_with fail
      refine (K2.out _).mono ?_
      rintro e w1 ⟨rfl, qd, rfl⟩
      have B1 := Lib.hid (below_drewN B.out qd)
      go_wp2
      go_ret
      refine ⟨?_, B1.out⟩
      rw [HE.out, E1.out, if_pos trivial, He2.out]; rfl
    rw [e2] at K2
    have He2 := Lib.hid e2
    clear e2
    cases e4 : (a == 0)
    · have He4 := Lib.hid e4
      go_enter Try.func206, Try.ntmps206
      go_wp2_with fail
      refine (K1.out _).mono ?_
      rintro e w1 ⟨rfl, rfl⟩
      go_wp2_with fail
      refine (K2.out _).mono ?_
      rintro e w1 ⟨rfl, qd, rfl⟩
      have B1 := Lib.hid (below_drewN B.out qd)
      go_wp2
      go_ret
      refine ⟨?_, B1.out⟩
      rw [HE.out, E1.out, if_pos trivial, He2.out, He4.out]; rfl
    have He4 := Lib.hid e4
    cases e5 : (b == 0)
    · have He5 := Lib.hid e5
      go_enter Try.func206, Try.ntmps206
      go_wp2_with fail
      refine (K1.out _).mono ?_
      rintro e w1 ⟨rfl, rfl⟩
      go_wp2_with fail
      refine (K2.out _).mono ?_
      rintro e w1 ⟨rfl, qd, rfl⟩
      have B1 := Lib.hid (below_drewN B.out qd)
      go_wp2
      go_ret
      refine ⟨?_, B1.out⟩
      rw [HE.out, E1.out, if_pos trivial, He2.out, He4.out, He5.out]; rfl
    have He5 := Lib.hid e5
    obtain ⟨T, hT⟩ : ∃ T, T = tenB r c n := ⟨_, rfl⟩
    rw [← hT] at K3
    have HT := Lib.hid hT
    clear hT
    go_enter Try.func206, Try.ntmps206
    go_wp2_with fail
    refine (K1.out _).mono ?_
    rintro e w1 ⟨rfl, rfl⟩
    go_wp2_with fail
    refine (K2.out _).mono ?_
    rintro e w1 ⟨rfl, qd, rfl⟩
    have B1 := Lib.hid (below_drewN B.out qd)
    go_wp2_with fail
    refine (K3.out _).mono ?_
    rintro e w2 ⟨rfl, hb2⟩
    have B2 := Lib.hid (bthen B1.out hb2); clear hb2
    go_wp2
    go_ret
    refine ⟨?_, B2.out⟩
    rw [HE.out, E1.out, if_pos trivial, He2.out, He4.out, He5.out, ← HT.out]; rfl
  by_cases h5 : kk = 5
  · subst h5
    cases f1 : (r == 0)
    · have g1 : (r != 0) = true := by simpa [bne] using f1
      have Hf1 := Lib.hid f1
      go_enter Try.func206, Try.ntmps206
      go_wp2_with fail
      refine (K1.out _).mono ?_
      rintro e w1 ⟨rfl, rfl⟩
      have B1 := B
      go_wp2
      go_ret
      refine ⟨?_, B1.out⟩
      rw [HE.out, E1.out, if_neg (show ¬ ((5 : Int) = 0) by decide), Hf1.out]; rfl
    have g1 : (r != 0) = false := by simpa [bne] using f1
    have Hf1 := Lib.hid f1
    cases f2 : (c == 0)
    · have g2 : (c != 0) = true := by simpa [bne] using f2
      have Hf2 := Lib.hid f2
      go_enter Try.func206, Try.ntmps206
      go_wp2_with fail
      refine (K1.out _).mono ?_
      rintro e w1 ⟨rfl, rfl⟩
      have B1 := B
      go_wp2
      go_ret
      refine ⟨?_, B1.out⟩
      rw [HE.out, E1.out, if_neg (show ¬ ((5 : Int) = 0) by decide), Hf1.out, Hf2.out]; rfl
    have g2 : (c != 0) = false := by simpa [bne] using f2
    have Hf2 := Lib.hid f2
    by_cases f3 : n = 0
    rotate_left
    · have g3 : (decide (n = 0)) = false := decide_eq_false f3
      have Hf3 := Lib.hid g3
      have g4 : 0 < n := by omega
      go_enter Try.func206, Try.ntmps206
      go_wp2_with fail
      refine (K1.out _).mono ?_
      rintro e w1 ⟨rfl, rfl⟩
      have B1 := B
      go_wp2
      go_ret
      refine ⟨?_, B1.out⟩
      rw [HE.out, E1.out, if_neg (show ¬ ((5 : Int) = 0) by decide), Hf1.out, Hf2.out, Hf3.out]; rfl
    subst f3
    have Hf3 : Hid (decide (0 = 0) = true) := Lib.hid rfl
    cases f4 : inB a 0 (i - 1)
    · rw [f4] at K4
      have Hf4 := Lib.hid f4
      clear f4
      go_enter Try.func206, Try.ntmps206
      go_wp2_with fail
      refine (K1.out _).mono ?_
      rintro e w1 ⟨rfl, rfl⟩
      have B1 := B
      go_wp2_with fail
      refine (K4.out _).mono ?_
      rintro e w1 ⟨rfl, rfl⟩
      go_wp2
      go_ret
      refine ⟨?_, B1.out⟩
      rw [HE.out, E1.out, if_neg (show ¬ ((5 : Int) = 0) by decide), Hf1.out, Hf2.out, Hf4.out]; rfl
    rw [f4] at K4
    have Hf4 := Lib.hid f4
    clear f4
    cases f5 : twoB 5
    · rw [f5] at K6
      have Hf5 := Lib.hid f5
      clear f5
      go_enter Try.func206, Try.ntmps206
      go_wp2_with fail
      refine (K1.out _).mono ?_
      rintro e w1 ⟨rfl, rfl⟩
      have B1 := B
      go_wp2_with fail
      refine (K4.out _).mono ?_
      rintro e w1 ⟨rfl, rfl⟩
      go_wp2_with fail
      refine (K6.out _).mono ?_
      rintro e w1 ⟨rfl, rfl⟩
      go_wp2
      go_ret
      refine ⟨?_, B1.out⟩
      rw [HE.out, E1.out, if_neg (show ¬ ((5 : Int) = 0) by decide), Hf1.out, Hf2.out, Hf4.out, Hf5.out]; rfl
    rw [f5] at K6
    have Hf5 := Lib.hid f5
    clear f5
    obtain ⟨T, hT⟩ : ∃ T, T = inB b 0 (i - 1) := ⟨_, rfl⟩
    rw [← hT] at K5
    have HT := Lib.hid hT
    clear hT
    go_enter Try.func206, Try.ntmps206
    go_wp2_with fail
    refine (K1.out _).mono ?_
    rintro e w1 ⟨rfl, rfl⟩
    have B1 := B
    go_wp2_with fail
    refine (K4.out _).mono ?_
    rintro e w1 ⟨rfl, rfl⟩
    go_wp2_with fail
    refine (K6.out _).mono ?_
    rintro e w1 ⟨rfl, rfl⟩
    go_wp2_with fail
    refine (K5.out _).mono ?_
    rintro e w1 ⟨rfl, rfl⟩
    go_wp2
    go_ret
    refine ⟨?_, B1.out⟩
    rw [HE.out, E1.out, if_neg (show ¬ ((5 : Int) = 0) by decide), Hf1.out, Hf2.out, Hf4.out, Hf5.out, ← HT.out]; rfl
  have t0 : (kk == 0) = false := by simpa using h0
  have t5 : (kk == 5) = false := by simpa using h5
  have H0 := Lib.hid h0; have H5 := Lib.hid t5
  cases e2 : zeroB q
  · rw [e2] at K2
    have He2 := Lib.hid e2
    clear e2
    go_enter Try.func206, Try.ntmps206
    go_wp2_with fail
    refine (K1.out _).mono ?_
    rintro e w1 ⟨rfl, rfl⟩
    go_wp2_with fail
    refine (K2.out _).mono ?_
    rintro e w1 ⟨rfl, qd, rfl⟩
    have B1 := Lib.hid (below_drewN B.out qd)
    go_wp2
    go_ret
    refine ⟨?_, B1.out⟩
    rw [HE.out, E1.out, H5.out, He2.out]; rfl
  rw [e2] at K2
  have He2 := Lib.hid e2
  clear e2
  cases f1 : (r == 0)
  · have g1 : (r != 0) = true := by simpa [bne] using f1
    have Hf1 := Lib.hid f1
    go_enter Try.func206, Try.ntmps206
    go_wp2_with fail
    refine (K1.out _).mono ?_
    rintro e w1 ⟨rfl, rfl⟩
    go_wp2_with fail
    refine (K2.out _).mono ?_
    rintro e w1 ⟨rfl, qd, rfl⟩
    have B1 := Lib.hid (below_drewN B.out qd)
    go_wp2
    go_ret
    refine ⟨?_, B1.out⟩
    rw [HE.out, E1.out, if_neg H0.out, H5.out, He2.out, Hf1.out]; rfl
  have g1 : (r != 0) = false := by simpa [bne] using f1
  have Hf1 := Lib.hid f1
  cases f2 : (c == 0)
  · have g2 : (c != 0) = true := by simpa [bne] using f2
    have Hf2 := Lib.hid f2
    go_enter Try.func206, Try.ntmps206
    go_wp2_with fail
    refine (K1.out _).mono ?_
    rintro e w1 ⟨rfl, rfl⟩
    go_wp2_with fail
    refine (K2.out _).mono ?_
    rintro e w1 ⟨rfl, qd, rfl⟩
    have B1 := Lib.hid (below_drewN B.out qd)
    go_wp2
    go_ret
    refine ⟨?_, B1.out⟩
    rw [HE.out, E1.out, if_neg H0.out, H5.out, He2.out, Hf1.out, Hf2.out]; rfl
  have g2 : (c != 0) = false := by simpa [bne] using f2
  have Hf2 := Lib.hid f2
  by_cases f3 : n = 0
  rotate_left
  · have g3 : (decide (n = 0)) = false := decide_eq_false f3
    have Hf3 := Lib.hid g3
    have g4 : 0 < n := by omega
    go_enter Try.func206, Try.ntmps206
    go_wp2_with fail
    refine (K1.out _).mono ?_
    rintro e w1 ⟨rfl, rfl⟩
    go_wp2_with fail
    refine (K2.out _).mono ?_
    rintro e w1 ⟨rfl, qd, rfl⟩
    have B1 := Lib.hid (below_drewN B.out qd)
    go_wp2
    go_ret
    refine ⟨?_, B1.out⟩
    rw [HE.out, E1.out, if_neg H0.out, H5.out, He2.out, Hf1.out, Hf2.out, Hf3.out]; rfl
  subst f3
  have Hf3 : Hid (decide (0 = 0) = true) := Lib.hid rfl
  cases f4 : inB a 0 (i - 1)
  · rw [f4] at K4
    have Hf4 := Lib.hid f4
    clear f4
    go_enter Try.func206, Try.ntmps206
    go_wp2_with fail
    refine (K1.out _).mono ?_
    rintro e w1 ⟨rfl, rfl⟩
    go_wp2_with fail
    refine (K2.out _).mono ?_
    rintro e w1 ⟨rfl, qd, rfl⟩
    have B1 := Lib.hid (below_drewN B.out qd)
    go_wp2_with fail
    refine (K4.out _).mono ?_
    rintro e w1 ⟨rfl, rfl⟩
    go_wp2
    go_ret
    refine ⟨?_, B1.out⟩
    rw [HE.out, E1.out, if_neg H0.out, H5.out, He2.out, Hf1.out, Hf2.out, Hf4.out]; rfl
  rw [f4] at K4
  have Hf4 := Lib.hid f4
  clear f4
  cases f5 : twoB kk
  · rw [f5] at K6
    have Hf5 := Lib.hid f5
    clear f5
    go_enter Try.func206, Try.ntmps206
    go_wp2_with fail
    refine (K1.out _).mono ?_
    rintro e w1 ⟨rfl, rfl⟩
    go_wp2_with fail
    refine (K2.out _).mono ?_
    rintro e w1 ⟨rfl, qd, rfl⟩
    have B1 := Lib.hid (below_drewN B.out qd)
    go_wp2_with fail
    refine (K4.out _).mono ?_
    rintro e w1 ⟨rfl, rfl⟩
    go_wp2_with fail
    refine (K6.out _).mono ?_
    rintro e w1 ⟨rfl, rfl⟩
    go_wp2
    go_ret
    refine ⟨?_, B1.out⟩
    rw [HE.out, E1.out, if_neg H0.out, H5.out, He2.out, Hf1.out, Hf2.out, Hf4.out, Hf5.out]; rfl
  rw [f5] at K6
  have Hf5 := Lib.hid f5
  clear f5
  obtain ⟨T, hT⟩ : ∃ T, T = inB b 0 (i - 1) := ⟨_, rfl⟩
  rw [← hT] at K5
  have HT := Lib.hid hT
  clear hT
  go_enter Try.func206, Try.ntmps206
  go_wp2_with fail
  refine (K1.out _).mono ?_
  rintro e w1 ⟨rfl, rfl⟩
  go_wp2_with fail
  refine (K2.out _).mono ?_
  rintro e w1 ⟨rfl, qd, rfl⟩
  have B1 := Lib.hid (below_drewN B.out qd)
  go_wp2_with fail
  refine (K4.out _).mono ?_
  rintro e w1 ⟨rfl, rfl⟩
  go_wp2_with fail
  refine (K6.out _).mono ?_
  rintro e w1 ⟨rfl, rfl⟩
  go_wp2_with fail
  refine (K5.out _).mono ?_
  rintro e w1 ⟨rfl, rfl⟩
  go_wp2
  go_ret
  refine ⟨?_, B1.out⟩
  rw [HE.out, E1.out, if_neg H0.out, H5.out, He2.out, Hf1.out, Hf2.out, Hf4.out, Hf5.out, ← HT.out]; rfl
end Go.Proofs.Ytpemhiaeiecinaa
