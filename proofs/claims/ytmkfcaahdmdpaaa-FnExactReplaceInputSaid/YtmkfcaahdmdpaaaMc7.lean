/- Joined texts 7: Rp4 Tw1 Tw2 WRpl. Each is told at its own head. No condition. -/
import Derived.Deep.RegionHeld3
import Derived.Test.YtmkfcaahdmdpaaaMc3
import Derived.Test.YtmkfcaahdmdpaaaMc4
import Derived.Test.YtmkfcaahdmdpaaaMc6
/- An input is replaced: the reference. No condition. -/
namespace Go.Proofs.Ytmkfcaahdmdpaaa
open Go Go.RowKit
set_option linter.unusedVariables false
set_option linter.unusedSimpArgs false
set_option maxHeartbeats 2000000 in
theorem spec_l04Input (w : World) (ad : Option Addr) (cap : Nat) (os : List OpD) (h : SeeR opR w ad cap os) (op : Int) :
    Calls Try.prog 144 #[.slice ad os.length cap, .int .i64 op] w fun e w' => e = .returned (.bool (inpB (os.map OpD.toOpP) op)) ∧ Below w.heap.size w w' := by
  have K := Lib.hid (spec_l04Is w ad cap os h)
  have hmx := Nat.le_trans h.le h.cap
  unfold maxLen at hmx
  have hE : inpB (os.map OpD.toOpP) op = ((shapesP (os.map OpD.toOpP)).isSome && (inB op 0 ((os.length : Int) - 1) && (opAtP (os.map OpD.toOpP) op.toNat).k == 0)) := by unfold inpB; rw [List.length_map]
  obtain ⟨n, hN⟩ : ∃ n, n = os.length := ⟨_, rfl⟩
  rw [← hN] at K hmx hE ⊢
  have KW := Lib.hid (fun W => l00In_any op 0 ((n : Int) - 1) W)
  have HE := Lib.hid hE; have HN := Lib.hid hN; have H := Lib.hid h
  clear hE hN h
  cases e1 : (shapesP (os.map OpD.toOpP)).isSome
  · rw [e1] at K
    have E1 := Lib.hid e1; clear e1
    go_enter Try.func144, Try.ntmps144
    go_wp2_with fail
    refine K.out.mono ?_
    rintro e w1 ⟨rfl, hb⟩
    go_wp2
    go_ret
    exact ⟨by rw [HE.out, E1.out]; rfl, hb⟩
  rw [e1] at K
  have E1 := Lib.hid e1; clear e1
  cases e2 : inB op 0 ((n : Int) - 1)
  · rw [e2] at KW
    have E2 := Lib.hid e2; clear e2
    go_enter Try.func144, Try.ntmps144
    go_wp2_with fail
    refine K.out.mono ?_
    rintro e w1 ⟨rfl, hb⟩
    go_wp2_with fail
    refine (KW.out _).mono ?_
    rintro e w2 ⟨rfl, rfl⟩
    go_wp2
    go_ret
    exact ⟨by rw [HE.out, E1.out, E2.out]; rfl, hb⟩
  rw [e2] at KW
  have ⟨h1, h2⟩ := inB_iff.1 e2
  have E2 := Lib.hid e2; clear e2
  obtain ⟨k, rfl⟩ : ∃ k : Nat, op = k := ⟨op.toNat, by omega⟩
  have hk : k < n := by omega
  obtain ⟨o, ho⟩ := getElem?_lt (show k < os.length by rw [← HN.out]; exact hk)
  have hk2 : (opAtP (os.map OpD.toOpP) ((k : Nat) : Int).toNat).k = o.k := by
    rw [show ((k : Nat) : Int).toNat = k by simp, opAtP_some (o := o.toOpP) (by rw [List.getElem?_map, ho]; rfl)]
  have HK2 := Lib.hid hk2
  have HF := Lib.hid (fun W hb => (op_spot (H.out.below (w' := W) hb) ho))
  obtain ⟨b, off, rfl, -, -⟩ := op_spot H.out ho
  have HP : Hid (∀ W, Below w.heap.size w W → W.cell? ⟨b, off + k * 7, none⟩ = some (.int .i64 o.k)) := Lib.hid (fun W hb => by
    obtain ⟨b', off', e, -, ⟨p0, -⟩, -⟩ := HF.out W hb
    cases e
    exact p0)
  clear HF hk2 ho h1 h2
  go_enter Try.func144, Try.ntmps144
  go_wp2_with fail
  refine K.out.mono ?_
  rintro e w1 ⟨rfl, hb⟩
  go_wp2_with fail
  refine (KW.out _).mono ?_
  rintro e w2 ⟨rfl, rfl⟩
  have p0 := HP.out _ hb
  have HB := Lib.hid hb; clear hb
  go_wp2
  go_ret
  exact ⟨by rw [HE.out, E1.out, E2.out, HK2.out]; rfl, HB.out⟩
/-- what a function gives, by its arguments -/
def VCA (pa : Array Value) (va : Value) (pb : Array Value) (vb : Value) (f : FuncId) (args : Array Value) (u : Value) : Prop := (args = pa → u = va) ∧ (args = pb → u = vb)
set_option maxHeartbeats 4000000 in
set_option maxRecDepth 100000 in
theorem spec_l02Like (w : World) (g1 o1 g2 o2 : Nat) (r c : Int) (a : Option Addr) (n ca : Nat) (r2 c2 : Int) (b : Option Addr) (m cb : Nat) (hn : n ≤ maxLen) (hm : m ≤ maxLen)
    (p0 : w.cell? ⟨g1, o1, none⟩ = some (.int .i64 r)) (p1 : w.cell? ⟨g1, o1 + 1, none⟩ = some (.int .i64 c)) (p2 : w.cell? ⟨g1, o1 + 2, none⟩ = some (.slice a n ca))
    (q0 : w.cell? ⟨g2, o2, none⟩ = some (.int .i64 r2)) (q1 : w.cell? ⟨g2, o2 + 1, none⟩ = some (.int .i64 c2)) (q2 : w.cell? ⟨g2, o2 + 2, none⟩ = some (.slice b m cb)) :
    Calls Try.prog 145 #[.pointer (some ⟨g1, o1, none⟩), .pointer (some ⟨g2, o2, none⟩)] w fun e w' => e = .returned (.bool (alikeB r c n r2 c2 m)) ∧ Below w.heap.size w w' := by
  have hg1 := World.block_lt_of_cell? w _ p0
  have hg2 := World.block_lt_of_cell? w _ q0
  simp only at hg1 hg2
  have CM : Hid (∀ W, Low w W → (W.cell? ⟨g1, o1, none⟩ = some (.int .i64 r) ∧ W.cell? ⟨g1, o1 + 1, none⟩ = some (.int .i64 c) ∧ W.cell? ⟨g1, o1 + 2, none⟩ = some (.slice a n ca)) ∧ (W.cell? ⟨g2, o2, none⟩ = some (.int .i64 r2) ∧ W.cell? ⟨g2, o2 + 1, none⟩ = some (.int .i64 c2) ∧ W.cell? ⟨g2, o2 + 2, none⟩ = some (.slice b m cb))) := Lib.hid (fun W hb =>
    ⟨⟨(hb.cell (p := ⟨g1, o1, none⟩) hg1).trans p0, (hb.cell (p := ⟨g1, o1 + 1, none⟩) hg1).trans p1, (hb.cell (p := ⟨g1, o1 + 2, none⟩) hg1).trans p2⟩, ⟨(hb.cell (p := ⟨g2, o2, none⟩) hg2).trans q0, (hb.cell (p := ⟨g2, o2 + 1, none⟩) hg2).trans q1, (hb.cell (p := ⟨g2, o2 + 2, none⟩) hg2).trans q2⟩⟩)
  have K1 := Lib.hid (fun W hW => spec_l02Is W g1 o1 r c a n ca hn (CM.out W hW).1.1 (CM.out W hW).1.2.1 (CM.out W hW).1.2.2)
  have K2 := Lib.hid (fun W hW => spec_l02Is W g2 o2 r2 c2 b m cb hm (CM.out W hW).2.1 (CM.out W hW).2.2.1 (CM.out W hW).2.2.2)
  have hne : (#[.pointer (some ⟨g1, o1, none⟩)] : Array Value) = #[.pointer (some ⟨g2, o2, none⟩)] → tenB r c n = tenB r2 c2 m := by
    intro h
    cases h
    rw [p0] at q0
    rw [p1] at q1
    rw [p2] at q2
    cases q0; cases q1; cases q2
    rfl
  have HNE := Lib.hid hne
  have hE : alikeB r c n r2 c2 m = (tenB r c n && (tenB r2 c2 m && (decide (r = r2) && decide (c = c2)))) := rfl
  obtain ⟨E, hE0⟩ : ∃ E, E = alikeB r c n r2 c2 m := ⟨_, rfl⟩
  rw [← hE0] at hE ⊢
  have HE := Lib.hid hE
  clear hE hE0 hn hm hne p0 p1 p2 q0 q1 q2
  have F1 : Hid (∀ W e w1, Low w W → e = Ending.returned (.bool (tenB r c n)) ∧ Dr W w1 → ∃ v, e = .returned v ∧ Low w w1 ∧ VCA #[.pointer (some ⟨g1, o1, none⟩)] (.bool (tenB r c n)) #[.pointer (some ⟨g2, o2, none⟩)] (.bool (tenB r2 c2 m)) 165 #[.pointer (some ⟨g1, o1, none⟩)] v) := Lib.hid (by
    rintro W e w1 hW ⟨rfl, hd⟩
    exact ⟨_, rfl, bthen hW hd.below, fun _ => rfl, fun h => by rw [HNE.out h]⟩)
  have F2 : Hid (∀ W e w1, Low w W → e = Ending.returned (.bool (tenB r2 c2 m)) ∧ Dr W w1 → ∃ v, e = .returned v ∧ Low w w1 ∧ VCA #[.pointer (some ⟨g1, o1, none⟩)] (.bool (tenB r c n)) #[.pointer (some ⟨g2, o2, none⟩)] (.bool (tenB r2 c2 m)) 165 #[.pointer (some ⟨g2, o2, none⟩)] v) := Lib.hid (by
    rintro W e w1 hW ⟨rfl, hd⟩
    exact ⟨_, rfl, bthen hW hd.below, fun h => by rw [HNE.out h.symm], fun _ => rfl⟩)
  clear HNE
  cases e1 : tenB r c n
  · rw [e1] at K1 F1 F2
    have E1 := Lib.hid e1; clear e1
    go_enter Try.func145, Try.ntmps145
    go_wp2
    refine wp_region_low (VCA #[.pointer (some ⟨g1, o1, none⟩)] (.bool false) #[.pointer (some ⟨g2, o2, none⟩)] (.bool (tenB r2 c2 m))) (by kernel_rfl) (by kernel_rfl) ?_
    repeat (refine cset_step (low_self _) (fun K hK W hW => ?_); first | (go_simp; refine hK _ ?_; clear hK K) | (go_simp; (with_reducible refine ⟨(K1.out _ hW).mono ?_, ?_⟩); exact (fun e w1 h => F1.out W e w1 hW h); (rintro v hv; obtain rfl := hv.1 rfl; refine hK _ ?_; clear hK K)))
    refine cset_nil ?_
    intro w1 hw1
    have HB := Lib.hid hw1; clear hw1
    go_wp2
    go_ret
    exact ⟨by rw [HE.out, E1.out]; rfl, HB.out⟩
  rw [e1] at K1 F1 F2
  have E1 := Lib.hid e1; clear e1
  cases e2 : tenB r2 c2 m
  · rw [e2] at K2 F1 F2
    have E2 := Lib.hid e2; clear e2
    go_enter Try.func145, Try.ntmps145
    go_wp2
    refine wp_region_low (VCA #[.pointer (some ⟨g1, o1, none⟩)] (.bool true) #[.pointer (some ⟨g2, o2, none⟩)] (.bool false)) (by kernel_rfl) (by kernel_rfl) ?_
    repeat (refine cset_step (low_self _) (fun K hK W hW => ?_); first | (go_simp; refine hK _ ?_; clear hK K) | (go_simp; (with_reducible refine ⟨(K1.out _ hW).mono ?_, ?_⟩); exact (fun e w1 h => F1.out W e w1 hW h); (rintro v hv; obtain rfl := hv.1 rfl; refine hK _ ?_; clear hK K)) | (go_simp; (with_reducible refine ⟨(K2.out _ hW).mono ?_, ?_⟩); exact (fun e w1 h => F2.out W e w1 hW h); (rintro v hv; obtain rfl := hv.2 rfl; refine hK _ ?_; clear hK K)))
    refine cset_nil ?_
    intro w1 hw1
    have HB := Lib.hid hw1; clear hw1
    go_wp2
    go_ret
    exact ⟨by rw [HE.out, E1.out, E2.out]; rfl, HB.out⟩
  rw [e2] at K2 F1 F2
  have E2 := Lib.hid e2; clear e2
  by_cases hr : r = r2
  · subst hr
    have hrb : (r == r) = true := beq_self_eq_true r
    obtain ⟨D, hD⟩ : ∃ D, D = (c == c2) := ⟨_, rfl⟩
    have hD2 : decide (c = c2) = D := by rw [hD]; rfl
    have HD := Lib.hid hD2
    go_enter Try.func145, Try.ntmps145
    go_wp2
    refine wp_region_low (VCA #[.pointer (some ⟨g1, o1, none⟩)] (.bool true) #[.pointer (some ⟨g2, o2, none⟩)] (.bool true)) (by kernel_rfl) (by kernel_rfl) ?_
    repeat (refine cset_step (low_self _) (fun K hK W hW => ?_); obtain ⟨⟨p0, p1, p2⟩, q0, q1, q2⟩ := CM.out W hW; first | (go_simp; refine hK _ ?_; clear hK K p0 p1 p2 q0 q1 q2) | (go_simp; (with_reducible refine ⟨(K1.out _ hW).mono ?_, ?_⟩); exact (fun e w1 h => F1.out W e w1 hW h); (rintro v hv; obtain rfl := hv.1 rfl; refine hK _ ?_; clear hK K p0 p1 p2 q0 q1 q2)) | (go_simp; (with_reducible refine ⟨(K2.out _ hW).mono ?_, ?_⟩); exact (fun e w1 h => F2.out W e w1 hW h); (rintro v hv; obtain rfl := hv.2 rfl; refine hK _ ?_; clear hK K p0 p1 p2 q0 q1 q2)))
    refine cset_nil ?_
    intro w1 hw1
    have HB := Lib.hid hw1; clear hw1
    go_wp2
    go_ret
    exact ⟨by rw [HE.out, E1.out, E2.out, HD.out, hD]; simp only [decide_true, Bool.true_and]; rfl, HB.out⟩
  · have hrb : (r == r2) = false := by simpa using hr
    have HD := Lib.hid (decide_eq_false hr)
    clear hr
    go_enter Try.func145, Try.ntmps145
    go_wp2
    refine wp_region_low (VCA #[.pointer (some ⟨g1, o1, none⟩)] (.bool true) #[.pointer (some ⟨g2, o2, none⟩)] (.bool true)) (by kernel_rfl) (by kernel_rfl) ?_
    repeat (refine cset_step (low_self _) (fun K hK W hW => ?_); obtain ⟨⟨p0, p1, p2⟩, q0, q1, q2⟩ := CM.out W hW; first | (go_simp; refine hK _ ?_; clear hK K p0 p1 p2 q0 q1 q2) | (go_simp; (with_reducible refine ⟨(K1.out _ hW).mono ?_, ?_⟩); exact (fun e w1 h => F1.out W e w1 hW h); (rintro v hv; obtain rfl := hv.1 rfl; refine hK _ ?_; clear hK K p0 p1 p2 q0 q1 q2)) | (go_simp; (with_reducible refine ⟨(K2.out _ hW).mono ?_, ?_⟩); exact (fun e w1 h => F2.out W e w1 hW h); (rintro v hv; obtain rfl := hv.2 rfl; refine hK _ ?_; clear hK K p0 p1 p2 q0 q1 q2)))
    refine cset_nil ?_
    intro w1 hw1
    have HB := Lib.hid hw1; clear hw1
    go_wp2
    go_ret
    exact ⟨by rw [HE.out, E1.out, E2.out, HD.out]; rfl, HB.out⟩
set_option maxHeartbeats 8000000 in
set_option maxRecDepth 100000 in
theorem spec_ReplaceInput (w : World) (ad : Option Addr) (cap : Nat) (os : List OpD) (h : SeeR opR w ad cap os) (hno : nilOK os) (op : Int) (r c : Int) (av : Option Addr) (cv : Nat) (xs : List Nat) (hv : F32s w av cv xs) (hvc : av = none → cv = 0) (hi2 : ∀ o ∈ os, o.xs.length ≤ 1048576) :
    Calls Try.prog 59 #[.slice ad os.length cap, .int .i64 op, .agg #[.int .i64 r, .int .i64 c, .slice av xs.length cv]] w (OOPost (replP (os.map OpD.toOpP) op r c xs) w) := by
  have b1 := below1 w (.cells #[.int .i64 r, .int .i64 c, .slice av xs.length cv] 27)
  have K1 := Lib.hid (fun W (hb : Below w.heap.size w W) => spec_l04Input W ad cap os (h.below hb) op)
  have XB := Lib.hid (BoxN.alloc w #[.int .i64 r, .int .i64 c, .slice av xs.length cv] 27)
  have hxm := Nat.le_trans hv.len hv.cap
  obtain ⟨m, hM⟩ : ∃ m, m = xs.length := ⟨_, rfl⟩
  obtain ⟨n, hN⟩ : ∃ n, n = os.length := ⟨_, rfl⟩
  rw [← hM] at XB hxm b1 ⊢
  rw [← hN] at K1 ⊢
  have HM := Lib.hid hM; have HN := Lib.hid hN; have H := Lib.hid h; have HV := Lib.hid hv; have HNO := Lib.hid hno; have HI2 := Lib.hid hi2; have HVC := Lib.hid hvc
  have B1 := Lib.hid b1
  clear hM hN h hv hno hi2 hvc b1
  cases e1 : inpB (os.map OpD.toOpP) op
  · rw [e1] at K1
    have E1 := Lib.hid (fun W => OOOut.no (replP_no1 (r := r) (c := c) (xs := xs) e1) w W)
    clear e1
    go_enter Try.func59, Try.ntmps59
    go_wp2_with fail
    refine (K1.out _ B1.out).mono ?_
    rintro e w1 ⟨rfl, hb⟩
    have HB := Lib.hid (bthen B1.out hb); clear hb
    go_wp2
    go_ret2
    exact ⟨_, _, _, _, [], rfl, Lib.hid (E1.out _), HB.out⟩
  rw [e1] at K1
  obtain ⟨S, k, p, hS, rfl, hp, hk0, hten⟩ := inpB_at e1
  obtain ⟨o, ho, rfl⟩ : ∃ o, os[k]? = some o ∧ o.toOpP = p := by
    rw [List.getElem?_map] at hp
    obtain ⟨o, ho, e⟩ := Option.map_eq_some_iff.1 hp
    exact ⟨o, ho, e⟩
  have hkn : k < n := by rw [HN.out]; exact (List.getElem?_eq_some_iff.1 ho).1
  have hnm := Nat.le_trans H.out.le H.out.cap
  rw [← HN.out] at hnm
  unfold maxLen at hnm
  obtain ⟨b, off, hbe, hbl, ⟨-, -, -, -, p4, p5, p6⟩, hf, hok⟩ := op_spot H.out ho
  have CM : Hid (∀ W, Below w.heap.size w W → W.cell? ⟨b, off + k * 7 + 4, none⟩ = some (.int .i64 o.r) ∧ W.cell? ⟨b, off + k * 7 + 4 + 1, none⟩ = some (.int .i64 o.c) ∧ W.cell? ⟨b, off + k * 7 + 4 + 2, none⟩ = some (.slice o.ad o.xs.length o.cap)) := Lib.hid (fun W hb => ⟨(hb.cell (p := ⟨b, off + k * 7 + 4, none⟩) hbl).trans p4, (hb.cell (p := ⟨b, off + k * 7 + 4 + 1, none⟩) hbl).trans p5, (hb.cell (p := ⟨b, off + k * 7 + 4 + 2, none⟩) hbl).trans p6⟩)
  have K2 := Lib.hid (fun W (hb : Below w.heap.size w W) (hx : BoxN W w.heap.size [.int .i64 r, .int .i64 c, .slice av m cv]) => spec_l02Like W b (off + k * 7 + 4) w.heap.size 0 o.r o.c o.ad o.xs.length o.cap r c av m cv (Nat.le_trans hf.len hf.cap) hxm (CM.out W hb).1 (CM.out W hb).2.1 (CM.out W hb).2.2 hx.three.2.1 hx.three.2.2.1 hx.three.2.2.2.1)
  have PO := Lib.hid ho; have PP := Lib.hid hp; have HK := Lib.hid hok; have HBE := Lib.hid hbe
  clear p4 p5 p6 hf hok hp ho hk0 hten hS
  have hbc := hbe
  subst hbc
  clear HBE hbe
  cases e2 : alikeB o.r o.c o.xs.length r c m
  · rw [e2] at K2
    have E1 := Lib.hid (fun W => OOOut.no (replP_no2 (r := r) (c := c) (xs := xs) PP.out (by rw [← HM.out]; exact e2)) w W)
    clear e1 e2
    go_enter Try.func59, Try.ntmps59
    go_wp2_with fail
    refine (K1.out _ B1.out).mono ?_
    rintro e w1 ⟨rfl, hb⟩
    have HB := Lib.hid (bthen B1.out hb); have XB1 := Lib.hid (XB.out.below hb); clear hb
    go_wp2_with fail
    refine (K2.out _ HB.out XB1.out).mono ?_
    rintro e w2 ⟨rfl, hb⟩
    have HB2 := Lib.hid (bthen HB.out hb); clear hb
    go_wp2
    go_ret2
    exact ⟨_, _, _, _, [], rfl, Lib.hid (E1.out _), HB2.out⟩
  rw [e2] at K2
  obtain ⟨rfl, rfl, hmm, hten⟩ := alikeB_in e2
  have HY := Lib.hid (replP_yes (r := o.r) (c := o.c) (xs := xs) PP.out e1 (by rw [← HM.out]; exact e2))
  have hm6 : m ≤ 1048576 := by rw [hmm]; exact HI2.out o (List.mem_of_getElem? PO.out)
  have hn6 : n ≤ 1048576 := by
    obtain ⟨S, _, _, hS, _⟩ := inpB_at e1
    have := (shapesP_some hS).1.2
    rw [List.length_map, ← HN.out] at this
    omega
  have KC := Lib.hid (fun W (hb : Below w.heap.size w W) => spec_l04Own W _ cap os (H.out.below hb) HNO.out (by rw [← HN.out]; exact hn6) HI2.out)
  have KT := Lib.hid (fun W (hb : Below w.heap.size w W) => spec_l02OwnF W av cv xs (HV.out.below hb) HVC.out (by rw [← HM.out]; exact hm6))
  rw [← HN.out] at KC
  rw [← HM.out] at KT
  clear e1 e2 hmm hten
  go_enter Try.func59, Try.ntmps59
  go_wp2_with fail
  refine (K1.out _ B1.out).mono ?_
  rintro e w1 ⟨rfl, hb⟩
  have HB0 := Lib.hid (bthen B1.out hb); have XB0 := Lib.hid (XB.out.below hb); clear hb
  go_wp2_with fail
  refine (K2.out _ HB0.out XB0.out).mono ?_
  rintro e w1 ⟨rfl, hb⟩
  have HB1 := Lib.hid (bthen HB0.out hb); have XB1 := Lib.hid (XB0.out.below hb); clear hb
  go_wp2_with fail
  refine (KC.out _ HB1.out).mono ?_
  rintro e w2 ⟨ad2, cap2, us, rfl, HU, hb2⟩
  have XB2 := Lib.hid (XB1.out.below hb2)
  have HB2 := Lib.hid (bthen HB1.out hb2); clear XB1 XB0 HB0
  obtain ⟨xl, x0, x1, x2, xf⟩ := XB2.out.three
  go_wp2_with fail
  refine (KT.out _ HB2.out).mono ?_
  rintro e w3 ⟨ad3, cap3, rfl, HR, hb3⟩
  have hB1s := HB1.out.size
  have hU := HU.out.1.bounds (lo' := w.heap.size) (hi' := w2.heap.size) hB1s (Nat.le_refl _)
  obtain ⟨u, hu⟩ := getElem?_lt (show k < us.length by rw [hU.len]; exact hkn)
  have hup : u.toOpP = o.toOpP := by
    have := congrArg (fun l => l[k]?) HU.out.2
    simp only [List.getElem?_map, hu, PO.out, Option.map_some, Option.some.injEq] at this
    exact this
  obtain ⟨g, rfl, hgr, ⟨-, -, -, -, q4, q5, q6⟩, hfz, -⟩ := op_own (hU.below hb3) hu
  have hs3 := hb3.size
  have hbs := HB2.out.size
  have hr3 := HR.out
  have hml : m = xs.length := HM.out
  rw [hml] at hr3
  have htl := RecT.tail opR hu (a := ⟨⟨o.k, o.a, o.b, o.num, o.r, o.c, xs⟩, ad3, cap3⟩) [.int .i64 o.k, .int .i64 o.a, .int .i64 o.b, .float .f32 o.num, .int .i64 o.r, .int .i64 o.c] [.slice ad3 xs.length cap3] rfl (fun j hj => by
    obtain ⟨⟨uk, ua, ub, un, ur, uc, ux⟩, uad, ucap⟩ := u
    obtain ⟨⟨ok, oa, ob, on, or, oc, ox⟩, oad, ocap⟩ := o
    simp only [OpP.mk.injEq] at hup
    obtain ⟨rfl, rfl, rfl, rfl, rfl, rfl, rfl⟩ := hup
    rcases (by simp at hj; omega : j = 0 ∨ j = 1 ∨ j = 2 ∨ j = 3 ∨ j = 4 ∨ j = 5) with rfl | rfl | rfl | rfl | rfl | rfl <;> rfl)
  have hnew := OwnR.setNew (w2 := setCs w3 g (k * 7 + 6) [.slice ad3 xs.length cap3]) hU hbs hb3 hkn (a := ⟨⟨o.k, o.a, o.b, o.num, o.r, o.c, xs⟩, ad3, cap3⟩) ⟨HV.out.lt, HK.out.2⟩ (hr3.ownRow) hs3 (fun M hM => by
    rw [htl]
    exact setCs_own hM (k * 7 + 6) _)
  have hbb := setCs_below (HB2.out.trans (hb3.mono hbs)) hgr.1 (k * 7 + 6) [.slice ad3 xs.length cap3]
  have hmp : (us.set k ⟨⟨o.k, o.a, o.b, o.num, o.r, o.c, xs⟩, ad3, cap3⟩).map OpD.toOpP = ((os.map OpD.toOpP).set k { o.toOpP with xs := xs }) := by
    rw [List.map_set, HU.out.2]
  rw [← hml] at hnew hbb
  have HW := Lib.hid hnew; have HBB := Lib.hid hbb; have HMP := Lib.hid hmp
  clear hnew hbb htl hr3 hb3 hb2 HU hU hu hup hmp hml hgr hbs hB1s K1 K2 KC KT HB1 HB2 HR x0 x1 x2 xf XB2 CM
  go_wp2
  go_ret2
  exact ⟨_, _, _, _, _, rfl, Lib.hid ⟨⟨by rw [HY.out]; rfl, by rw [HY.out]; exact HMP.out⟩, HW.out.bounds (Nat.le_refl _) (by simp [World.setCell])⟩, HBB.out⟩
end Go.Proofs.Ytmkfcaahdmdpaaa
/- Tapes as results, for the walks of laws. No condition. -/
namespace Go.Proofs.Ytmkfcaahdmdpaaa
open Go Go.RowKit
set_option linter.unusedVariables false
set_option linter.unusedSimpArgs false
/-- bounds of a tape that is a result -/
def bndO (n : Nat) (us : List OpD) : Prop := n ≤ 1048576 ∧ totO us ≤ 9000000 ∧ ∀ u ∈ us, u.xs.length ≤ 1048576
theorem OO_eq2 (w : World) {lo1 hi1 lo2 hi2 : Nat} {a1 a2 : Option Addr} {n1 n2 c1 c2 : Nat} {us vs : List OpD} (h1 : OwnR opR w lo1 hi1 a1 n1 c1 us) (h2 : OwnR opR w lo2 hi2 a2 n2 c2 vs) (he : us.map OpD.toOpP = vs.map OpD.toOpP) (hm : n1 ≤ 1048576 ∧ totO us ≤ 9000000 ∧ ∀ u ∈ us, u.xs.length ≤ 1048576) :
    Calls Try.prog 63 #[.slice a1 n1 c1, .slice a2 n2 c2] w fun e w' => e = .returned (.bool true) ∧ Below w.heap.size w w' := by
  have e1 := h1.len; have e2 := h2.len
  subst e1 e2
  exact OS_eq w h1.see h2.see (can_of he) hm.1 hm.2.2
theorem OO_mark2 (w : World) {lo hi : Nat} {ad : Option Addr} {n cap : Nat} {us : List OpD} (k0 : Nat) (h : OwnR opR w lo hi ad n cap us) (hhi : hi ≤ w.heap.size) (hm : n ≤ 1048576 ∧ totO us ≤ 9000000 ∧ ∀ u ∈ us, u.xs.length ≤ 1048576) (hk : k0 + totO us ≤ 10000000) :
    Calls Try.prog 65 #[.slice ad n cap, .int .i64 k0] w fun e w' => e = .returned (.int .i64 (k0 + totO us : Nat)) ∧ Hid (OwnR opR w' lo hi ad n cap (markOs k0 us)) ∧ Touch lo hi w w' :=
  OS_mark w k0 h hhi hm.1 hk hm.2.2
theorem OO_held2 (w : World) {lo hi : Nat} {ad : Option Addr} {n cap : Nat} {us : List OpD} (k0 : Nat) (h : OwnR opR w lo hi ad n cap (markOs k0 us)) (hm : n ≤ 1048576 ∧ totO us ≤ 9000000 ∧ ∀ u ∈ us, u.xs.length ≤ 1048576) (hk : k0 + totO us ≤ 10000000) :
    Calls Try.prog 67 #[.slice ad n cap, .int .i64 k0] w fun e w' => e = .returned (.int .i64 (k0 + totO us : Nat)) ∧ w = w' :=
  OS_held w k0 h.see (by rw [← markOs_length k0 us]; exact h.len) hm.1 hk hm.2.2
theorem spec_ReplaceInputW (w : World) (ad : Option Addr) (cap : Nat) (os : List OpD) {lo hi n : Nat} (h : OwnR opR w lo hi ad n cap os) (hi2 : ∀ o ∈ os, o.xs.length ≤ 1048576) (op : Int) (hop : (Lit.int .i64 op).wf = true) (r c : Int) (av : Option Addr) (cv : Nat) (xs : List Nat) {lo2 hi3 m : Nat} (hv : RepF w lo2 hi3 av m cv xs) (hn : xs.length ≤ 1048576) (hr : (Lit.int .i64 r).wf = true) (hc : (Lit.int .i64 c).wf = true) :
    Calls Try.prog 59 #[.slice ad os.length cap, .int .i64 op, .agg #[.int .i64 r, .int .i64 c, .slice av xs.length cv]] w (OOPost (replP (os.map OpD.toOpP) op r c xs) w) :=
  spec_ReplaceInput w ad cap os h.see h.nilOK op r c av cv xs hv.arg hv.nilcap hi2
theorem impl_ReplaceInputW (w : World) (ad : Option Addr) (cap : Nat) (os : List OpD) {lo hi n : Nat} (h : OwnR opR w lo hi ad n cap os) (hi2 : ∀ o ∈ os, o.xs.length ≤ 1048576) (op : Int) (hop : (Lit.int .i64 op).wf = true) (r c : Int) (av : Option Addr) (cv : Nat) (xs : List Nat) {lo2 hi3 m : Nat} (hv : RepF w lo2 hi3 av m cv xs) (hn : xs.length ≤ 1048576) (hr : (Lit.int .i64 r).wf = true) (hc : (Lit.int .i64 c).wf = true) :
    Calls Try.prog 62 #[.slice ad os.length cap, .int .i64 op, .agg #[.int .i64 r, .int .i64 c, .slice av xs.length cv]] w (OOPost (replP (os.map OpD.toOpP) op r c xs) w) :=
  impl_ReplaceInput w ad cap os h.see h.nilcap h.nilOK op r c av cv xs hv.arg hv.nilcap hi2
def lenP (p : OpP) : Nat := 6 + p.xs.length
theorem totO_lenP (us : List OpD) : totO us = ((us.map OpD.toOpP).map lenP).sum := by unfold totO; rw [List.map_map]; rfl
theorem set_id' {α : Type} {us : List α} {k : Nat} {a : α} (h : us[k]? = some a) : us.set k a = us := by
  obtain ⟨hk, rfl⟩ := List.getElem?_eq_some_iff.1 h
  exact List.set_getElem_self hk
theorem repl_bound {us l : List OpD} {op r c : Int} {xs : List Nat} (h : us.map OpD.toOpP = (replP (l.map OpD.toOpP) op r c xs).getD []) (h1 : l.length ≤ 1048576) (h2 : totO l ≤ 8000000) (h3 : ∀ o ∈ l, o.xs.length ≤ 1048576) : us.length ≤ 1048576 ∧ totO us ≤ 9000000 ∧ ∀ u ∈ us, u.xs.length ≤ 1048576 := by
  cases e : replP (l.map OpD.toOpP) op r c xs with
  | none =>
    rw [e] at h
    have h0 : us = [] := by simpa using h
    subst h0
    exact ⟨by decide, by decide, fun u hu => (nomatch hu)⟩
  | some P =>
    rw [e] at h
    have h0 : us.map OpD.toOpP = P := h
    have hP : P.map lenP = (l.map OpD.toOpP).map lenP := by
      unfold replP at e
      split at e
      · rename_i hc
        cases e
        obtain ⟨S, k, o, _, rfl, ho, _⟩ := inpB_at hc.1
        obtain ⟨_, _, hm, _⟩ := alikeB_in hc.2
        rw [show ((k : Nat) : Int).toNat = k by simp, opAtP_some ho] at hm ⊢
        rw [List.map_set]
        refine set_id' ?_
        rw [List.getElem?_map, ho]
        show some (lenP o) = some (lenP _)
        unfold lenP
        rw [hm]
      · cases e
    have hl : (us.map OpD.toOpP).map lenP = (l.map OpD.toOpP).map lenP := by rw [h0, hP]
    refine ⟨?_, by rw [totO_lenP, hl, ← totO_lenP]; omega, fun u hu => ?_⟩
    · have := congrArg List.length hl
      simp only [List.length_map] at this
      omega
    · have h4 : lenP u.toOpP ∈ (l.map OpD.toOpP).map lenP := by rw [← hl]; exact List.mem_map_of_mem (List.mem_map_of_mem hu)
      obtain ⟨p, hp, e5⟩ := List.mem_map.1 h4
      obtain ⟨o, ho, rfl⟩ := List.mem_map.1 hp
      have := h3 o ho
      unfold lenP at e5
      have e6 : u.toOpP.xs.length = u.xs.length := rfl
      have e7 : o.toOpP.xs.length = o.xs.length := rfl
      omega
end Go.Proofs.Ytmkfcaahdmdpaaa
/- Copies of arguments behind a draw, for the walks of laws. No condition. -/
namespace Go.Proofs.Ytmkfcaahdmdpaaa
open Go Go.RowKit
set_option linter.unusedVariables false
set_option linter.unusedSimpArgs false
theorem below_dr1 {w w' : World} (hb : Below w.drew.heap.size w.drew w') : Below w.heap.size w w' := bthen (Below.drew (Below.refl _ _)) hb
theorem OS_toD (w : World) (ad : Option Addr) (cap : Nat) (os : List OpD) (h : SeeR opR w ad cap os) (hn : os.length ≤ 1048576) (hi2 : ∀ o ∈ os, o.xs.length ≤ 1048576) :
    Calls Try.prog 60 #[.slice ad os.length cap] w.drew fun e w' => ∃ ad' cap', ∃ os' : List OpD, e = .returned (.slice ad' os.length cap') ∧ os'.map OpD.toOpP = os.map OpD.toOpP ∧ Hid (OwnR opR w' w.heap.size w'.heap.size ad' os.length cap' os') ∧ Below w.heap.size w w' := by
  refine (OS_to w.drew ad cap os (h.below (Below.drew (Below.refl _ _))) hn hi2).mono ?_
  rintro e w' ⟨a, c, os', h1, h2, h3, h4⟩
  exact ⟨a, c, os', h1, h2, h3, below_dr1 h4⟩
theorem T_toD (w : World) (r c : Int) (ad : Option Addr) (cap : Nat) (xs : List Nat) (h : F32s w ad cap xs) (hn : xs.length ≤ 1048576) :
    Calls Try.prog 61 #[.agg #[.int .i64 r, .int .i64 c, .slice ad xs.length cap]] w.drew fun e w' => ∃ ad' cap', e = .returned (.agg #[.int .i64 r, .int .i64 c, .slice ad' xs.length cap']) ∧ Hid (RepF w' w.heap.size w'.heap.size ad' xs.length cap' xs) ∧ Below w.heap.size w w' := by
  refine (T_to w.drew r c ad cap xs (h.below (Below.drew (Below.refl _ _))) hn).mono ?_
  rintro e w' ⟨a, c, h1, h3, h4⟩
  exact ⟨a, c, h1, h3, below_dr1 h4⟩
end Go.Proofs.Ytmkfcaahdmdpaaa
/- The law of ReplaceInput, walked. No condition. -/
namespace Go.Proofs.Ytmkfcaahdmdpaaa
open Go Go.RowKit
set_option linter.unusedVariables false
set_option linter.unusedSimpArgs false
set_option maxHeartbeats 40000000 in
set_option maxRecDepth 100000 in
theorem fnExactReplaceInput_walk (w : World) (a0 : Option Addr) (c0 : Nat) (l0 : List OpD) (A0 : SeeR opR w a0 c0 l0) (a1 : Int) (A1 : (Lit.int .i64 a1).wf = true) (r2_ k2_ : Int) (a2 : Option Addr) (c2 : Nat) (l2 : List Nat) (R2 : (Lit.int .i64 r2_).wf = true) (C2 : (Lit.int .i64 k2_).wf = true) (A2 : F32s w a2 c2 l2) :
    Calls Try.prog 8 #[.slice a0 l0.length c0, .int .i64 a1, .agg #[.int .i64 r2_, .int .i64 k2_, .slice a2 l2.length c2]] w fun e w' => e = .returned (.bool true) ∧ Below w.heap.size w w' := by
  replace A0 := Lib.hid A0
  replace A2 := Lib.hid A2
  have B0 := A0
  have B2 := A2
  obtain ⟨L0, hL0⟩ : ∃ L, L = leftBy OpD.n l0 1048576 := ⟨_, rfl⟩
  have KS0 := Lib.hid (fun W (h : SeeR opR W a0 c0 l0) => OS_sz W a0 c0 l0 h 1048576 (by decide) (by decide))
  rw [← hL0] at KS0
  have HL0 := Lib.hid hL0; clear hL0
  go_enter Try.func8, Try.ntmps8
  go_wp2_with fail
  obtain ⟨w0, hw0⟩ : ∃ w0, w0 = (w.alloc (.cells #[.int .i64 r2_, .int .i64 k2_, .slice a2 l2.length c2] 70)) := ⟨_, rfl⟩
  rw [← hw0]
  have hb : Below w.heap.size w w0 := by rw [hw0]; exact below1 w (.cells #[.int .i64 r2_, .int .i64 k2_, .slice a2 l2.length c2] 70)
  have BX2 : Hid (BoxN w0 w.heap.size [.int .i64 r2_, .int .i64 k2_, .slice a2 l2.length c2]) := Lib.hid (by rw [hw0]; exact BoxN.alloc w #[.int .i64 r2_, .int .i64 k2_, .slice a2 l2.length c2] 70)
  have z0 : w.heap.size + 1 ≤ w0.heap.size := by rw [hw0]; simp
  clear hw0
  replace A0 := Lib.hid (A0.out.below hb)
  replace A2 := Lib.hid (A2.out.below hb)
  have b0 := Lib.hid hb; clear hb
  obtain ⟨-, BX2_0, BX2_1, BX2_2, -⟩ := BX2.out.three
  refine (KS0.out _ A0.out).mono ?_
  rintro e w1 ⟨rfl, hb⟩
  clear BX2_0 BX2_1 BX2_2
  replace BX2 := Lib.hid (BX2.out.below hb)
  replace A0 := Lib.hid (A0.out.below hb)
  replace A2 := Lib.hid (A2.out.below hb)
  have z1 : w0.heap.size ≤ w1.heap.size := hb.size
  have b1 := Lib.hid (bthen b0.out hb); clear b0
  clear hb
  by_cases hp0 : 0 ≤ L0
  rotate_left
  · have hp0 : L0 < 0 := by omega
    go_wp2
    go_ret
    exact ⟨rfl, b1.out⟩
  have hS0 := left_bounds HL0.out hp0 (by decide)
  have hn0 := hS0.1; have hq0 := hS0.2.1; have HI0 := Lib.hid hS0.2.2.1; have ht0 := hS0.2.2.2; clear hS0
  obtain ⟨L2, hL2⟩ : ∃ L : Int, L = if (l2.length : Int) ≤ L0 then L0 - l2.length else -1 := ⟨_, rfl⟩
  have KS2 := Lib.hid (fun W => T_sz W r2_ k2_ a2 l2.length c2 L0 (Nat.le_trans A2.out.len A2.out.cap) hp0 hq0)
  rw [← hL2] at KS2
  have HL2 := Lib.hid hL2; clear hL2
  obtain ⟨-, BX2_0, BX2_1, BX2_2, -⟩ := BX2.out.three
  go_wp2_with fail
  refine (KS2.out _).mono ?_
  rintro e w2 ⟨rfl, hb⟩
  clear BX2_0 BX2_1 BX2_2
  replace BX2 := Lib.hid (BX2.out.below hb)
  replace A0 := Lib.hid (A0.out.below hb)
  replace A2 := Lib.hid (A2.out.below hb)
  have z2 : w1.heap.size ≤ w2.heap.size := hb.size
  have b2 := Lib.hid (bthen b1.out hb); clear b1
  clear hb
  by_cases hp2 : 0 ≤ L2
  rotate_left
  · have hp2 : L2 < 0 := by omega
    go_wp2
    go_ret
    exact ⟨rfl, b2.out⟩
  have hS2 := left_bound1 HL2.out hp2 (by omega)
  have hn2 := hS2.1; have hq2 := hS2.2; clear hS2
  obtain ⟨-, BX2_0, BX2_1, BX2_2, -⟩ := BX2.out.three
  go_wp2_with fail
  go_region_held3 (fun w' => w'.cell? ⟨w.heap.size, 0, none⟩ = some (.int .i64 r2_) ∧ w'.cell? ⟨w.heap.size, 1, none⟩ = some (.int .i64 k2_) ∧ w'.cell? ⟨w.heap.size, 2, none⟩ = some (.slice a2 l2.length c2)) (go_keep)
    (first
      | (((go_at_call 60); (refine (OS_toD w2 a0 c0 l0 A0.out hn0 HI0.out).mono ?_); (rintro e w3 ⟨p_t0, q_t0, o_t0, rfl, he_t0, t0, hb⟩); (have E_t0 := Lib.hid he_t0); (have hlen_t0 : o_t0.length = l0.length := by have := congrArg List.length he_t0; simpa using this); (have N_t0 := Lib.hid hlen_t0; clear he_t0 hlen_t0); (clear BX2_0 BX2_1 BX2_2); (replace BX2 := Lib.hid (BX2.out.below hb)); (replace A0 := Lib.hid (A0.out.below hb)); (replace A2 := Lib.hid (A2.out.below hb)); (have z3 : w2.heap.size ≤ w3.heap.size := hb.size); (have b3 := Lib.hid (bthen b2.out hb); clear b2); (clear hb); (obtain ⟨-, BX2_0, BX2_1, BX2_2, -⟩ := BX2.out.three)))
      | (((go_at_call 61); (refine (T_to _ r2_ k2_ a2 c2 l2 A2.out hn2).mono ?_); (rintro e w4 ⟨p_t2, q_t2, rfl, t2, hb⟩); (clear BX2_0 BX2_1 BX2_2); (replace BX2 := Lib.hid (BX2.out.below hb)); (replace t0 := Lib.hid (t0.out.below hb)); (replace A0 := Lib.hid (A0.out.below hb)); (replace A2 := Lib.hid (A2.out.below hb)); (have z4 : w3.heap.size ≤ w4.heap.size := hb.size); (have b4 := Lib.hid (bthen b3.out hb); clear b3); (clear hb); (obtain ⟨-, BX2_0, BX2_1, BX2_2, -⟩ := BX2.out.three)))
      | (((go_at_call 59); (have hK := spec_ReplaceInputW w4 p_t0 q_t0 o_t0 t0.out (lens_of E_t0.out HI0.out) a1 A1 r2_ k2_ p_t2 q_t2 l2 t2.out hn2 R2 C2); (rw [N_t0.out, E_t0.out] at hK); (have HK := Lib.hid hK; clear hK); (refine HK.out.mono ?_); (rintro e w5 ⟨ad_s0, n_s0, cp_s0, v_s1, y_s0, rfl, HO_s, hb⟩); (clear HK); (have Q_s0 := Lib.hid HO_s.out.1.2); (have s0 := Lib.hid HO_s.out.2); (have V_s := Lib.hid HO_s.out.1.1); (have M_s0 := Lib.hid (show n_s0 ≤ 1048576 ∧ totO y_s0 ≤ 9000000 ∧ ∀ u ∈ y_s0, u.xs.length ≤ 1048576 from by have h1 := HO_s.out.2.len; have h2 := repl_bound HO_s.out.1.2 hn0 ht0 HI0.out; rw [← h1]; exact h2)); (clear HO_s); (clear BX2_0 BX2_1 BX2_2); (replace BX2 := Lib.hid (BX2.out.below hb)); (replace t0 := Lib.hid (t0.out.below hb)); (replace t2 := Lib.hid (t2.out.below hb)); (replace A0 := Lib.hid (A0.out.below hb)); (replace A2 := Lib.hid (A2.out.below hb)); (have z5 : w4.heap.size ≤ w5.heap.size := hb.size); (have b5 := Lib.hid (bthen b4.out hb); clear b4); (clear hb); (obtain ⟨-, BX2_0, BX2_1, BX2_2, -⟩ := BX2.out.three))))
  clear BX2_0 BX2_1 BX2_2
  try go_wp2_with fail
  clear t0
  try clear E_t0 N_t0
  clear t2
  try clear E_t2 N_t2
  obtain ⟨-, BX2_0, BX2_1, BX2_2, -⟩ := BX2.out.three
  go_wp2_with fail
  refine (OS_to _ a0 c0 l0 A0.out hn0 HI0.out).mono ?_
  rintro e w6 ⟨p_x0, q_x0, o_x0, rfl, he_x0, x0, hb⟩
  have E_x0 := Lib.hid he_x0
  have hlen_x0 : o_x0.length = l0.length := by have := congrArg List.length he_x0; simpa using this
  have N_x0 := Lib.hid hlen_x0; clear he_x0 hlen_x0
  clear BX2_0 BX2_1 BX2_2
  replace BX2 := Lib.hid (BX2.out.below hb)
  replace s0 := Lib.hid (s0.out.below hb)
  replace A0 := Lib.hid (A0.out.below hb)
  replace A2 := Lib.hid (A2.out.below hb)
  have z6 : w5.heap.size ≤ w6.heap.size := hb.size
  have b6 := Lib.hid (bthen b5.out hb); clear b5
  clear hb
  obtain ⟨-, BX2_0, BX2_1, BX2_2, -⟩ := BX2.out.three
  go_wp2_with fail
  refine (T_to _ r2_ k2_ a2 c2 l2 A2.out hn2).mono ?_
  rintro e w7 ⟨p_x2, q_x2, rfl, x2, hb⟩
  clear BX2_0 BX2_1 BX2_2
  replace BX2 := Lib.hid (BX2.out.below hb)
  replace s0 := Lib.hid (s0.out.below hb)
  replace x0 := Lib.hid (x0.out.below hb)
  replace A0 := Lib.hid (A0.out.below hb)
  replace A2 := Lib.hid (A2.out.below hb)
  have z7 : w6.heap.size ≤ w7.heap.size := hb.size
  have b7 := Lib.hid (bthen b6.out hb); clear b6
  clear hb
  obtain ⟨-, BX2_0, BX2_1, BX2_2, -⟩ := BX2.out.three
  go_wp2_with fail
  obtain ⟨w8, hw0⟩ : ∃ W, W = w7.alloc (.cells #[.int .i64 r2_, .int .i64 k2_, .slice p_x2 l2.length q_x2] 27) := ⟨_, rfl⟩
  rw [← hw0]
  have hb : Below w7.heap.size w7 w8 := by rw [hw0]; exact below1 w7 (.cells #[.int .i64 r2_, .int .i64 k2_, .slice p_x2 l2.length q_x2] 27)
  clear BX2_0 BX2_1 BX2_2
  replace BX2 := Lib.hid (BX2.out.below hb)
  replace s0 := Lib.hid (s0.out.below hb)
  replace x0 := Lib.hid (x0.out.below hb)
  replace x2 := Lib.hid (x2.out.below hb)
  replace A0 := Lib.hid (A0.out.below hb)
  replace A2 := Lib.hid (A2.out.below hb)
  have z8 : w7.heap.size + 1 ≤ w8.heap.size := by rw [hw0]; simp
  have b8 := Lib.hid (bthen b7.out hb); clear b7
  clear hb
  have BXx2 : Hid (BoxN w8 w7.heap.size [.int .i64 r2_, .int .i64 k2_, .slice p_x2 l2.length q_x2]) := Lib.hid (by rw [hw0]; exact BoxN.alloc w7 #[.int .i64 r2_, .int .i64 k2_, .slice p_x2 l2.length q_x2] 27)
  clear hw0
  obtain ⟨-, BX2_0, BX2_1, BX2_2, -⟩ := BX2.out.three
  obtain ⟨-, BXx2_0, BXx2_1, BXx2_2, -⟩ := BXx2.out.three
  have hK := impl_ReplaceInputW w8 p_x0 q_x0 o_x0 x0.out (lens_of E_x0.out HI0.out) a1 A1 r2_ k2_ p_x2 q_x2 l2 x2.out hn2 R2 C2
  rw [N_x0.out, E_x0.out] at hK
  have HK := Lib.hid hK; clear hK
  refine HK.out.mono ?_
  rintro e w9 ⟨ad_g0, n_g0, cp_g0, v_g1, y_g0, rfl, HO_g, hb⟩
  clear HK
  have Q_g0 := Lib.hid HO_g.out.1.2
  have g0 := Lib.hid HO_g.out.2
  have V_g := Lib.hid HO_g.out.1.1
  have M_g0 := Lib.hid (show n_g0 ≤ 1048576 ∧ totO y_g0 ≤ 9000000 ∧ ∀ u ∈ y_g0, u.xs.length ≤ 1048576 from by have h1 := HO_g.out.2.len; have h2 := repl_bound HO_g.out.1.2 hn0 ht0 HI0.out; rw [← h1]; exact h2)
  clear HO_g
  clear BX2_0 BX2_1 BX2_2 BXx2_0 BXx2_1 BXx2_2
  replace BX2 := Lib.hid (BX2.out.below hb)
  replace BXx2 := Lib.hid (BXx2.out.below hb)
  replace s0 := Lib.hid (s0.out.below hb)
  replace x0 := Lib.hid (x0.out.below hb)
  replace x2 := Lib.hid (x2.out.below hb)
  replace A0 := Lib.hid (A0.out.below hb)
  replace A2 := Lib.hid (A2.out.below hb)
  have z9 : w8.heap.size ≤ w9.heap.size := hb.size
  have b9 := Lib.hid (bthen b8.out hb); clear b8
  clear hb
  obtain rfl : v_s1 = v_g1 := V_s.out.trans V_g.out.symm
  obtain ⟨-, BX2_0, BX2_1, BX2_2, -⟩ := BX2.out.three
  obtain ⟨-, BXx2_0, BXx2_1, BXx2_2, -⟩ := BXx2.out.three
  go_wp2_with fail
  refine (OO_eq2 _ g0.out s0.out (by rw [Q_g0.out, Q_s0.out]) M_g0.out).mono ?_
  rintro e w10 ⟨rfl, hb⟩
  clear BX2_0 BX2_1 BX2_2 BXx2_0 BXx2_1 BXx2_2
  replace BX2 := Lib.hid (BX2.out.below hb)
  replace BXx2 := Lib.hid (BXx2.out.below hb)
  replace s0 := Lib.hid (s0.out.below hb)
  replace x0 := Lib.hid (x0.out.below hb)
  replace x2 := Lib.hid (x2.out.below hb)
  replace g0 := Lib.hid (g0.out.below hb)
  replace A0 := Lib.hid (A0.out.below hb)
  replace A2 := Lib.hid (A2.out.below hb)
  have z10 : w9.heap.size ≤ w10.heap.size := hb.size
  have b10 := Lib.hid (bthen b9.out hb); clear b9
  clear hb
  obtain ⟨-, BX2_0, BX2_1, BX2_2, -⟩ := BX2.out.three
  obtain ⟨-, BXx2_0, BXx2_1, BXx2_2, -⟩ := BXx2.out.three
  go_wp2_with fail
  refine (OS_to _ a0 c0 l0 A0.out hn0 HI0.out).mono ?_
  rintro e w11 ⟨p_t0, q_t0, o_t0, rfl, he_t0, t0, hb⟩
  have E_t0 := Lib.hid he_t0
  have hlen_t0 : o_t0.length = l0.length := by have := congrArg List.length he_t0; simpa using this
  have N_t0 := Lib.hid hlen_t0; clear he_t0 hlen_t0
  clear BX2_0 BX2_1 BX2_2 BXx2_0 BXx2_1 BXx2_2
  replace BX2 := Lib.hid (BX2.out.below hb)
  replace BXx2 := Lib.hid (BXx2.out.below hb)
  replace s0 := Lib.hid (s0.out.below hb)
  replace x0 := Lib.hid (x0.out.below hb)
  replace x2 := Lib.hid (x2.out.below hb)
  replace g0 := Lib.hid (g0.out.below hb)
  replace A0 := Lib.hid (A0.out.below hb)
  replace A2 := Lib.hid (A2.out.below hb)
  have z11 : w10.heap.size ≤ w11.heap.size := hb.size
  have b11 := Lib.hid (bthen b10.out hb); clear b10
  clear hb
  obtain ⟨-, BX2_0, BX2_1, BX2_2, -⟩ := BX2.out.three
  obtain ⟨-, BXx2_0, BXx2_1, BXx2_2, -⟩ := BXx2.out.three
  go_wp2_with fail
  have hq := OS_eq w11 x0.out.see t0.out.see (by rw [can_of E_x0.out, can_of E_t0.out]) (by rw [N_x0.out]; exact hn0) (lens_of E_x0.out HI0.out)
  rw [N_x0.out, N_t0.out] at hq
  refine hq.mono ?_
  rintro e w12 ⟨rfl, hb⟩
  clear BX2_0 BX2_1 BX2_2 BXx2_0 BXx2_1 BXx2_2
  replace BX2 := Lib.hid (BX2.out.below hb)
  replace BXx2 := Lib.hid (BXx2.out.below hb)
  replace s0 := Lib.hid (s0.out.below hb)
  replace x0 := Lib.hid (x0.out.below hb)
  replace x2 := Lib.hid (x2.out.below hb)
  replace g0 := Lib.hid (g0.out.below hb)
  replace t0 := Lib.hid (t0.out.below hb)
  replace A0 := Lib.hid (A0.out.below hb)
  replace A2 := Lib.hid (A2.out.below hb)
  have z12 : w11.heap.size ≤ w12.heap.size := hb.size
  have b12 := Lib.hid (bthen b11.out hb); clear b11
  clear hb
  clear hq
  clear t0
  try clear E_t0 N_t0
  obtain ⟨-, BX2_0, BX2_1, BX2_2, -⟩ := BX2.out.three
  obtain ⟨-, BXx2_0, BXx2_1, BXx2_2, -⟩ := BXx2.out.three
  go_wp2_with fail
  go_region_held3 (fun w' => w'.cell? ⟨w.heap.size, 0, none⟩ = some (.int .i64 r2_) ∧ w'.cell? ⟨w.heap.size, 1, none⟩ = some (.int .i64 k2_) ∧ w'.cell? ⟨w.heap.size, 2, none⟩ = some (.slice a2 l2.length c2) ∧ w'.cell? ⟨w7.heap.size, 0, none⟩ = some (.int .i64 r2_) ∧ w'.cell? ⟨w7.heap.size, 1, none⟩ = some (.int .i64 k2_) ∧ w'.cell? ⟨w7.heap.size, 2, none⟩ = some (.slice p_x2 l2.length q_x2)) (go_keep)
    (first
      | (((go_at_call 61); (refine (T_toD w12 r2_ k2_ a2 c2 l2 A2.out hn2).mono ?_); (rintro e w13 ⟨p_t2, q_t2, rfl, t2, hb⟩); (clear BX2_0 BX2_1 BX2_2 BXx2_0 BXx2_1 BXx2_2); (replace BX2 := Lib.hid (BX2.out.below hb)); (replace BXx2 := Lib.hid (BXx2.out.below hb)); (replace s0 := Lib.hid (s0.out.below hb)); (replace x0 := Lib.hid (x0.out.below hb)); (replace x2 := Lib.hid (x2.out.below hb)); (replace g0 := Lib.hid (g0.out.below hb)); (replace A0 := Lib.hid (A0.out.below hb)); (replace A2 := Lib.hid (A2.out.below hb)); (have z13 : w12.heap.size ≤ w13.heap.size := hb.size); (have b13 := Lib.hid (bthen b12.out hb); clear b12); (clear hb); (obtain ⟨-, BX2_0, BX2_1, BX2_2, -⟩ := BX2.out.three); (obtain ⟨-, BXx2_0, BXx2_1, BXx2_2, -⟩ := BXx2.out.three)))
      | (((go_at_call 64); (refine (T_eq _ r2_ k2_ p_x2 p_t2 q_x2 q_t2 l2 l2 x2.out.arg t2.out.arg hn2 rfl).mono ?_); (rintro e w14 ⟨rfl, hb⟩); (clear BX2_0 BX2_1 BX2_2 BXx2_0 BXx2_1 BXx2_2); (replace BX2 := Lib.hid (BX2.out.below hb)); (replace BXx2 := Lib.hid (BXx2.out.below hb)); (replace s0 := Lib.hid (s0.out.below hb)); (replace x0 := Lib.hid (x0.out.below hb)); (replace x2 := Lib.hid (x2.out.below hb)); (replace g0 := Lib.hid (g0.out.below hb)); (replace t2 := Lib.hid (t2.out.below hb)); (replace A0 := Lib.hid (A0.out.below hb)); (replace A2 := Lib.hid (A2.out.below hb)); (have z14 : w13.heap.size ≤ w14.heap.size := hb.size); (have b14 := Lib.hid (bthen b13.out hb); clear b13); (clear hb); (obtain ⟨-, BX2_0, BX2_1, BX2_2, -⟩ := BX2.out.three); (obtain ⟨-, BXx2_0, BXx2_1, BXx2_2, -⟩ := BXx2.out.three))))
  clear BX2_0 BX2_1 BX2_2 BXx2_0 BXx2_1 BXx2_2
  try go_wp2_with fail
  clear t2
  try clear E_t2 N_t2
  obtain ⟨-, BX2_0, BX2_1, BX2_2, -⟩ := BX2.out.three
  obtain ⟨-, BXx2_0, BXx2_1, BXx2_2, -⟩ := BXx2.out.three
  go_wp2_with fail
  refine (OS_mark _ (1) x0.out (by omega) hn0 (by rw [tot_of E_x0.out]; omega) (lens_of E_x0.out HI0.out)).mono ?_
  rintro e w15 ⟨rfl, -, ht⟩
  rw [tot_of E_x0.out]
  clear x0
  clear BX2_0 BX2_1 BX2_2 BXx2_0 BXx2_1 BXx2_2
  replace BX2 := Lib.hid (BX2.out.touch ht (by omega))
  replace BXx2 := Lib.hid (BXx2.out.touch ht (by omega))
  replace s0 := Lib.hid (s0.out.touch ht (by omega))
  replace x2 := Lib.hid (x2.out.touch ht (by omega))
  replace g0 := Lib.hid (g0.out.touch ht (by omega))
  have z15 : w14.heap.size ≤ w15.heap.size := ht.size
  have b15 := Lib.hid (touch_below b14.out ht (by omega)); clear b14 ht
  replace A0 := Lib.hid (B0.out.below b15.out)
  replace A2 := Lib.hid (B2.out.below b15.out)
  obtain ⟨-, BX2_0, BX2_1, BX2_2, -⟩ := BX2.out.three
  obtain ⟨-, BXx2_0, BXx2_1, BXx2_2, -⟩ := BXx2.out.three
  go_wp2_with fail
  refine (T_mark _ r2_ k2_ (1 + totO l0) x2.out (by omega) hn2 (by omega)).mono ?_
  rintro e w16 ⟨rfl, -, ht⟩
  clear x2
  clear BX2_0 BX2_1 BX2_2 BXx2_0 BXx2_1 BXx2_2
  replace BX2 := Lib.hid (BX2.out.touch ht (by omega))
  replace BXx2 := Lib.hid (BXx2.out.touch ht (by omega))
  replace s0 := Lib.hid (s0.out.touch ht (by omega))
  replace g0 := Lib.hid (g0.out.touch ht (by omega))
  have z16 : w15.heap.size ≤ w16.heap.size := ht.size
  have b16 := Lib.hid (touch_below b15.out ht (by omega)); clear b15 ht
  replace A0 := Lib.hid (B0.out.below b16.out)
  replace A2 := Lib.hid (B2.out.below b16.out)
  obtain ⟨-, BX2_0, BX2_1, BX2_2, -⟩ := BX2.out.three
  obtain ⟨-, BXx2_0, BXx2_1, BXx2_2, -⟩ := BXx2.out.three
  go_wp2_with fail
  refine (OO_eq2 _ g0.out s0.out (by rw [Q_g0.out, Q_s0.out]) M_g0.out).mono ?_
  rintro e w17 ⟨rfl, hb⟩
  clear BX2_0 BX2_1 BX2_2 BXx2_0 BXx2_1 BXx2_2
  replace BX2 := Lib.hid (BX2.out.below hb)
  replace BXx2 := Lib.hid (BXx2.out.below hb)
  replace s0 := Lib.hid (s0.out.below hb)
  replace g0 := Lib.hid (g0.out.below hb)
  replace A0 := Lib.hid (A0.out.below hb)
  replace A2 := Lib.hid (A2.out.below hb)
  have z17 : w16.heap.size ≤ w17.heap.size := hb.size
  have b17 := Lib.hid (bthen b16.out hb); clear b16
  clear hb
  obtain ⟨-, BX2_0, BX2_1, BX2_2, -⟩ := BX2.out.three
  obtain ⟨-, BXx2_0, BXx2_1, BXx2_2, -⟩ := BXx2.out.three
  go_wp2_with fail
  refine (OO_mark2 _ (1) g0.out (by omega) M_g0.out (by have := M_g0.out; omega)).mono ?_
  rintro e w18 ⟨rfl, hr, ht⟩
  clear g0; have g0 := hr; clear hr
  clear BX2_0 BX2_1 BX2_2 BXx2_0 BXx2_1 BXx2_2
  replace BX2 := Lib.hid (BX2.out.touch ht (by omega))
  replace BXx2 := Lib.hid (BXx2.out.touch ht (by omega))
  replace s0 := Lib.hid (s0.out.touch ht (by omega))
  have z18 : w17.heap.size ≤ w18.heap.size := ht.size
  have b18 := Lib.hid (touch_below b17.out ht (by omega)); clear b17 ht
  replace A0 := Lib.hid (B0.out.below b18.out)
  replace A2 := Lib.hid (B2.out.below b18.out)
  obtain ⟨-, BX2_0, BX2_1, BX2_2, -⟩ := BX2.out.three
  obtain ⟨-, BXx2_0, BXx2_1, BXx2_2, -⟩ := BXx2.out.three
  go_wp2_with fail
  refine (OO_held2 _ (1) g0.out M_g0.out (by have := M_g0.out; omega)).mono ?_
  rintro e we ⟨rfl, rfl⟩
  clear BX2_0 BX2_1 BX2_2 BXx2_0 BXx2_1 BXx2_2
  clear BXx2
  obtain ⟨-, BX2_0, BX2_1, BX2_2, -⟩ := BX2.out.three
  go_wp2_with fail
  go_region_held3 (fun w' => w'.cell? ⟨w.heap.size, 0, none⟩ = some (.int .i64 r2_) ∧ w'.cell? ⟨w.heap.size, 1, none⟩ = some (.int .i64 k2_) ∧ w'.cell? ⟨w.heap.size, 2, none⟩ = some (.slice a2 l2.length c2)) (go_keep)
    (first
      | (((go_at_call 60); (refine (OS_toD w18 a0 c0 l0 A0.out hn0 HI0.out).mono ?_); (rintro e w19 ⟨p_t0, q_t0, o_t0, rfl, he_t0, t0, hb⟩); (have E_t0 := Lib.hid he_t0); (have hlen_t0 : o_t0.length = l0.length := by have := congrArg List.length he_t0; simpa using this); (have N_t0 := Lib.hid hlen_t0; clear he_t0 hlen_t0); (clear BX2_0 BX2_1 BX2_2); (replace BX2 := Lib.hid (BX2.out.below hb)); (replace s0 := Lib.hid (s0.out.below hb)); (replace g0 := Lib.hid (g0.out.below hb)); (replace A0 := Lib.hid (A0.out.below hb)); (replace A2 := Lib.hid (A2.out.below hb)); (have z19 : w18.heap.size ≤ w19.heap.size := hb.size); (have b19 := Lib.hid (bthen b18.out hb); clear b18); (clear hb); (obtain ⟨-, BX2_0, BX2_1, BX2_2, -⟩ := BX2.out.three)))
      | (((go_at_call 61); (refine (T_to _ r2_ k2_ a2 c2 l2 A2.out hn2).mono ?_); (rintro e w20 ⟨p_t2, q_t2, rfl, t2, hb⟩); (clear BX2_0 BX2_1 BX2_2); (replace BX2 := Lib.hid (BX2.out.below hb)); (replace s0 := Lib.hid (s0.out.below hb)); (replace g0 := Lib.hid (g0.out.below hb)); (replace t0 := Lib.hid (t0.out.below hb)); (replace A0 := Lib.hid (A0.out.below hb)); (replace A2 := Lib.hid (A2.out.below hb)); (have z20 : w19.heap.size ≤ w20.heap.size := hb.size); (have b20 := Lib.hid (bthen b19.out hb); clear b19); (clear hb); (obtain ⟨-, BX2_0, BX2_1, BX2_2, -⟩ := BX2.out.three)))
      | (((go_at_call 62); (have hK := impl_ReplaceInputW w20 p_t0 q_t0 o_t0 t0.out (lens_of E_t0.out HI0.out) a1 A1 r2_ k2_ p_t2 q_t2 l2 t2.out hn2 R2 C2); (rw [N_t0.out, E_t0.out] at hK); (have HK := Lib.hid hK; clear hK); (refine HK.out.mono ?_); (rintro e w21 ⟨ad_h0, n_h0, cp_h0, v_h1, y_h0, rfl, HO_h, hb⟩); (clear HK); (have Q_h0 := Lib.hid HO_h.out.1.2); (have h0 := Lib.hid HO_h.out.2); (have V_h := Lib.hid HO_h.out.1.1); (have M_h0 := Lib.hid (show n_h0 ≤ 1048576 ∧ totO y_h0 ≤ 9000000 ∧ ∀ u ∈ y_h0, u.xs.length ≤ 1048576 from by have h1 := HO_h.out.2.len; have h2 := repl_bound HO_h.out.1.2 hn0 ht0 HI0.out; rw [← h1]; exact h2)); (clear HO_h); (clear BX2_0 BX2_1 BX2_2); (replace BX2 := Lib.hid (BX2.out.below hb)); (replace s0 := Lib.hid (s0.out.below hb)); (replace g0 := Lib.hid (g0.out.below hb)); (replace t0 := Lib.hid (t0.out.below hb)); (replace t2 := Lib.hid (t2.out.below hb)); (replace A0 := Lib.hid (A0.out.below hb)); (replace A2 := Lib.hid (A2.out.below hb)); (have z21 : w20.heap.size ≤ w21.heap.size := hb.size); (have b21 := Lib.hid (bthen b20.out hb); clear b20); (clear hb); (obtain ⟨-, BX2_0, BX2_1, BX2_2, -⟩ := BX2.out.three))))
  clear BX2_0 BX2_1 BX2_2
  try go_wp2_with fail
  obtain rfl : v_s1 = v_h1 := V_s.out.trans V_h.out.symm
  obtain ⟨-, BX2_0, BX2_1, BX2_2, -⟩ := BX2.out.three
  go_wp2_with fail
  refine (OO_eq2 _ h0.out s0.out (by rw [Q_h0.out, Q_s0.out]) M_h0.out).mono ?_
  rintro e w22 ⟨rfl, hb⟩
  clear BX2_0 BX2_1 BX2_2
  replace BX2 := Lib.hid (BX2.out.below hb)
  replace s0 := Lib.hid (s0.out.below hb)
  replace g0 := Lib.hid (g0.out.below hb)
  replace t0 := Lib.hid (t0.out.below hb)
  replace t2 := Lib.hid (t2.out.below hb)
  replace h0 := Lib.hid (h0.out.below hb)
  replace A0 := Lib.hid (A0.out.below hb)
  replace A2 := Lib.hid (A2.out.below hb)
  have z22 : w21.heap.size ≤ w22.heap.size := hb.size
  have b22 := Lib.hid (bthen b21.out hb); clear b21
  clear hb
  obtain ⟨-, BX2_0, BX2_1, BX2_2, -⟩ := BX2.out.three
  go_wp2_with fail
  refine (OO_held2 _ (1) g0.out M_g0.out (by have := M_g0.out; omega)).mono ?_
  rintro e we ⟨rfl, rfl⟩
  clear BX2_0 BX2_1 BX2_2
  go_wp2
  go_ret
  exact ⟨rfl, b22.out⟩
end Go.Proofs.Ytmkfcaahdmdpaaa
