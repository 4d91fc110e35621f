/- Joined texts 7: Rp4 Tw1 Tw2 Tn5 Tn6 Tn7 Ts0 Ts1 Ts3. Each is told at its own head. No condition. -/
import Derived.Deep.RegionHeld3
import Derived.Deep.AppendLies
import Derived.Deep.RegionLaw
import Derived.Deep.CutRange
import Derived.Deep.DeepCutAuto
import Derived.Test.YtmkfcaahdmdpaaaMc1
import Derived.Test.YtmkfcaahdmdpaaaMc3
import Derived.Test.YtmkfcaahdmdpaaaMc4
import Derived.Test.YtmkfcaahdmdpaaaMc5
import Derived.Test.YtmkfcaahdmdpaaaMc6
/- An input is replaced: the reference. No condition. -/
namespace Go.Proofs.Ytmkfcaahdmdpaaa
open Go Go.RowKit
set_option linter.unusedVariables false
set_option linter.unusedSimpArgs false
set_option maxHeartbeats 2000000 in
theorem spec_l04Input (w : World) (ad : Option Addr) (cap : Nat) (os : List OpD) (h : SeeR opR w ad cap os) (op : Int) :
    Calls Try.prog 144 #[.slice ad os.length cap, .int .i64 op] w fun e w' => e = .returned (.bool (inpB (os.map OpD.toOpP) op)) ∧ Below w.heap.size w w' := by
  have K := Lib.hid (spec_l04Is w ad cap os h)
  have hmx := Nat.le_trans h.le h.cap
  unfold maxLen at hmx
  have hE : inpB (os.map OpD.toOpP) op = ((shapesP (os.map OpD.toOpP)).isSome && (inB op 0 ((os.length : Int) - 1) && (opAtP (os.map OpD.toOpP) op.toNat).k == 0)) := by unfold inpB; rw [List.length_map]
  obtain ⟨n, hN⟩ : ∃ n, n = os.length := ⟨_, rfl⟩
  rw [← hN] at K hmx hE ⊢
  have KW := Lib.hid (fun W => l00In_any op 0 ((n : Int) - 1) W)
  have HE := Lib.hid hE; have HN := Lib.hid hN; have H := Lib.hid h
  clear hE hN h
  cases e1 : (shapesP (os.map OpD.toOpP)).isSome
  · rw [e1] at K
    have E1 := Lib.hid e1; clear e1
    go_enter Try.func144, Try.ntmps144
    go_wp2_with fail
    refine K.out.mono ?_
    rintro e w1 ⟨rfl, hb⟩
    go_wp2
    go_ret
    exact ⟨by rw [HE.out, E1.out]; rfl, hb⟩
  rw [e1] at K
  have E1 := Lib.hid e1; clear e1
  cases e2 : inB op 0 ((n : Int) - 1)
  · rw [e2] at KW
    have E2 := Lib.hid e2; clear e2
    go_enter Try.func144, Try.ntmps144
    go_wp2_with fail
    refine K.out.mono ?_
    rintro e w1 ⟨rfl, hb⟩
    go_wp2_with fail
    refine (KW.out _).mono ?_
    rintro e w2 ⟨rfl, rfl⟩
    go_wp2
    go_ret
    exact ⟨by rw [HE.out, E1.out, E2.out]; rfl, hb⟩
  rw [e2] at KW
  have ⟨h1, h2⟩ := inB_iff.1 e2
  have E2 := Lib.hid e2; clear e2
  obtain ⟨k, rfl⟩ : ∃ k : Nat, op = k := ⟨op.toNat, by omega⟩
  have hk : k < n := by omega
  obtain ⟨o, ho⟩ := getElem?_lt (show k < os.length by rw [← HN.out]; exact hk)
  have hk2 : (opAtP (os.map OpD.toOpP) ((k : Nat) : Int).toNat).k = o.k := by
    rw [show ((k : Nat) : Int).toNat = k by simp, opAtP_some (o := o.toOpP) (by rw [List.getElem?_map, ho]; rfl)]
  have HK2 := Lib.hid hk2
  have HF := Lib.hid (fun W hb => (op_spot (H.out.below (w' := W) hb) ho))
  obtain ⟨b, off, rfl, -, -⟩ := op_spot H.out ho
  have HP : Hid (∀ W, Below w.heap.size w W → W.cell? ⟨b, off + k * 7, none⟩ = some (.int .i64 o.k)) := Lib.hid (fun W hb => by
    obtain ⟨b', off', e, -, ⟨p0, -⟩, -⟩ := HF.out W hb
    cases e
    exact p0)
  clear HF hk2 ho h1 h2
  go_enter Try.func144, Try.ntmps144
  go_wp2_with fail
  refine K.out.mono ?_
  rintro e w1 ⟨rfl, hb⟩
  go_wp2_with fail
  refine (KW.out _).mono ?_
  rintro e w2 ⟨rfl, rfl⟩
  have p0 := HP.out _ hb
  have HB := Lib.hid hb; clear hb
  go_wp2
  go_ret
  exact ⟨by rw [HE.out, E1.out, E2.out, HK2.out]; rfl, HB.out⟩
/-- what a function gives, by its arguments -/
def VCA (pa : Array Value) (va : Value) (pb : Array Value) (vb : Value) (f : FuncId) (args : Array Value) (u : Value) : Prop := (args = pa → u = va) ∧ (args = pb → u = vb)
set_option maxHeartbeats 4000000 in
set_option maxRecDepth 100000 in
theorem spec_l02Like (w : World) (g1 o1 g2 o2 : Nat) (r c : Int) (a : Option Addr) (n ca : Nat) (r2 c2 : Int) (b : Option Addr) (m cb : Nat) (hn : n ≤ maxLen) (hm : m ≤ maxLen)
    (p0 : w.cell? ⟨g1, o1, none⟩ = some (.int .i64 r)) (p1 : w.cell? ⟨g1, o1 + 1, none⟩ = some (.int .i64 c)) (p2 : w.cell? ⟨g1, o1 + 2, none⟩ = some (.slice a n ca))
    (q0 : w.cell? ⟨g2, o2, none⟩ = some (.int .i64 r2)) (q1 : w.cell? ⟨g2, o2 + 1, none⟩ = some (.int .i64 c2)) (q2 : w.cell? ⟨g2, o2 + 2, none⟩ = some (.slice b m cb)) :
    Calls Try.prog 145 #[.pointer (some ⟨g1, o1, none⟩), .pointer (some ⟨g2, o2, none⟩)] w fun e w' => e = .returned (.bool (alikeB r c n r2 c2 m)) ∧ Below w.heap.size w w' := by
  have hg1 := World.block_lt_of_cell? w _ p0
  have hg2 := World.block_lt_of_cell? w _ q0
  simp only at hg1 hg2
  have CM : Hid (∀ W, Low w W → (W.cell? ⟨g1, o1, none⟩ = some (.int .i64 r) ∧ W.cell? ⟨g1, o1 + 1, none⟩ = some (.int .i64 c) ∧ W.cell? ⟨g1, o1 + 2, none⟩ = some (.slice a n ca)) ∧ (W.cell? ⟨g2, o2, none⟩ = some (.int .i64 r2) ∧ W.cell? ⟨g2, o2 + 1, none⟩ = some (.int .i64 c2) ∧ W.cell? ⟨g2, o2 + 2, none⟩ = some (.slice b m cb))) := Lib.hid (fun W hb =>
    ⟨⟨(hb.cell (p := ⟨g1, o1, none⟩) hg1).trans p0, (hb.cell (p := ⟨g1, o1 + 1, none⟩) hg1).trans p1, (hb.cell (p := ⟨g1, o1 + 2, none⟩) hg1).trans p2⟩, ⟨(hb.cell (p := ⟨g2, o2, none⟩) hg2).trans q0, (hb.cell (p := ⟨g2, o2 + 1, none⟩) hg2).trans q1, (hb.cell (p := ⟨g2, o2 + 2, none⟩) hg2).trans q2⟩⟩)
  have K1 := Lib.hid (fun W hW => spec_l02Is W g1 o1 r c a n ca hn (CM.out W hW).1.1 (CM.out W hW).1.2.1 (CM.out W hW).1.2.2)
  have K2 := Lib.hid (fun W hW => spec_l02Is W g2 o2 r2 c2 b m cb hm (CM.out W hW).2.1 (CM.out W hW).2.2.1 (CM.out W hW).2.2.2)
  have hne : (#[.pointer (some ⟨g1, o1, none⟩)] : Array Value) = #[.pointer (some ⟨g2, o2, none⟩)] → tenB r c n = tenB r2 c2 m := by
    intro h
    cases h
    rw [p0] at q0
    rw [p1] at q1
    rw [p2] at q2
    cases q0; cases q1; cases q2
    rfl
  have HNE := Lib.hid hne
  have hE : alikeB r c n r2 c2 m = (tenB r c n && (tenB r2 c2 m && (decide (r = r2) && decide (c = c2)))) := rfl
  obtain ⟨E, hE0⟩ : ∃ E, E = alikeB r c n r2 c2 m := ⟨_, rfl⟩
  rw [← hE0] at hE ⊢
  have HE := Lib.hid hE
  clear hE hE0 hn hm hne p0 p1 p2 q0 q1 q2
  have F1 : Hid (∀ W e w1, Low w W → e = Ending.returned (.bool (tenB r c n)) ∧ Dr W w1 → ∃ v, e = .returned v ∧ Low w w1 ∧ VCA #[.pointer (some ⟨g1, o1, none⟩)] (.bool (tenB r c n)) #[.pointer (some ⟨g2, o2, none⟩)] (.bool (tenB r2 c2 m)) 165 #[.pointer (some ⟨g1, o1, none⟩)] v) := Lib.hid (by
    rintro W e w1 hW ⟨rfl, hd⟩
    exact ⟨_, rfl, bthen hW hd.below, fun _ => rfl, fun h => by rw [HNE.out h]⟩)
  have F2 : Hid (∀ W e w1, Low w W → e = Ending.returned (.bool (tenB r2 c2 m)) ∧ Dr W w1 → ∃ v, e = .returned v ∧ Low w w1 ∧ VCA #[.pointer (some ⟨g1, o1, none⟩)] (.bool (tenB r c n)) #[.pointer (some ⟨g2, o2, none⟩)] (.bool (tenB r2 c2 m)) 165 #[.pointer (some ⟨g2, o2, none⟩)] v) := Lib.hid (by
    rintro W e w1 hW ⟨rfl, hd⟩
    exact ⟨_, rfl, bthen hW hd.below, fun h => by rw [HNE.out h.symm], fun _ => rfl⟩)
  clear HNE
  cases e1 : tenB r c n
  · rw [e1] at K1 F1 F2
    have E1 := Lib.hid e1; clear e1
    go_enter Try.func145, Try.ntmps145
    go_wp2
    refine wp_region_low (VCA #[.pointer (some ⟨g1, o1, none⟩)] (.bool false) #[.pointer (some ⟨g2, o2, none⟩)] (.bool (tenB r2 c2 m))) (by kernel_rfl) (by kernel_rfl) ?_
    repeat (refine cset_step (low_self _) (fun K hK W hW => ?_); first | (go_simp; refine hK _ ?_; clear hK K) | (go_simp; (with_reducible refine ⟨(K1.out _ hW).mono ?_, ?_⟩); exact (fun e w1 h => F1.out W e w1 hW h); (rintro v hv; obtain rfl := hv.1 rfl; refine hK _ ?_; clear hK K)))
    refine cset_nil ?_
    intro w1 hw1
    have HB := Lib.hid hw1; clear hw1
    go_wp2
    go_ret
    exact ⟨by rw [HE.out, E1.out]; rfl, HB.out⟩
  rw [e1] at K1 F1 F2
  have E1 := Lib.hid e1; clear e1
  cases e2 : tenB r2 c2 m
  · rw [e2] at K2 F1 F2
    have E2 := Lib.hid e2; clear e2
    go_enter Try.func145, Try.ntmps145
    go_wp2
    refine wp_region_low (VCA #[.pointer (some ⟨g1, o1, none⟩)] (.bool true) #[.pointer (some ⟨g2, o2, none⟩)] (.bool false)) (by kernel_rfl) (by kernel_rfl) ?_
    repeat (refine cset_step (low_self _) (fun K hK W hW => ?_); first | (go_simp; refine hK _ ?_; clear hK K) | (go_simp; (with_reducible refine ⟨(K1.out _ hW).mono ?_, ?_⟩); exact (fun e w1 h => F1.out W e w1 hW h); (rintro v hv; obtain rfl := hv.1 rfl; refine hK _ ?_; clear hK K)) | (go_simp; (with_reducible refine ⟨(K2.out _ hW).mono ?_, ?_⟩); exact (fun e w1 h => F2.out W e w1 hW h); (rintro v hv; obtain rfl := hv.2 rfl; refine hK _ ?_; clear hK K)))
    refine cset_nil ?_
    intro w1 hw1
    have HB := Lib.hid hw1; clear hw1
    go_wp2
    go_ret
    exact ⟨by rw [HE.out, E1.out, E2.out]; rfl, HB.out⟩
  rw [e2] at K2 F1 F2
  have E2 := Lib.hid e2; clear e2
  by_cases hr : r = r2
  · subst hr
    have hrb : (r == r) = true := beq_self_eq_true r
    obtain ⟨D, hD⟩ : ∃ D, D = (c == c2) := ⟨_, rfl⟩
    have hD2 : decide (c = c2) = D := by rw [hD]; rfl
    have HD := Lib.hid hD2
    go_enter Try.func145, Try.ntmps145
    go_wp2
    refine wp_region_low (VCA #[.pointer (some ⟨g1, o1, none⟩)] (.bool true) #[.pointer (some ⟨g2, o2, none⟩)] (.bool true)) (by kernel_rfl) (by kernel_rfl) ?_
    repeat (refine cset_step (low_self _) (fun K hK W hW => ?_); obtain ⟨⟨p0, p1, p2⟩, q0, q1, q2⟩ := CM.out W hW; first | (go_simp; refine hK _ ?_; clear hK K p0 p1 p2 q0 q1 q2) | (go_simp; (with_reducible refine ⟨(K1.out _ hW).mono ?_, ?_⟩); exact (fun e w1 h => F1.out W e w1 hW h); (rintro v hv; obtain rfl := hv.1 rfl; refine hK _ ?_; clear hK K p0 p1 p2 q0 q1 q2)) | (go_simp; (with_reducible refine ⟨(K2.out _ hW).mono ?_, ?_⟩); exact (fun e w1 h => F2.out W e w1 hW h); (rintro v hv; obtain rfl := hv.2 rfl; refine hK _ ?_; clear hK K p0 p1 p2 q0 q1 q2)))
    refine cset_nil ?_
    intro w1 hw1
    have HB := Lib.hid hw1; clear hw1
    go_wp2
    go_ret
    exact ⟨by rw [HE.out, E1.out, E2.out, HD.out, hD]; simp only [decide_true, Bool.true_and]; rfl, HB.out⟩
  · have hrb : (r == r2) = false := by simpa using hr
    have HD := Lib.hid (decide_eq_false hr)
    clear hr
    go_enter Try.func145, Try.ntmps145
    go_wp2
    refine wp_region_low (VCA #[.pointer (some ⟨g1, o1, none⟩)] (.bool true) #[.pointer (some ⟨g2, o2, none⟩)] (.bool true)) (by kernel_rfl) (by kernel_rfl) ?_
    repeat (refine cset_step (low_self _) (fun K hK W hW => ?_); obtain ⟨⟨p0, p1, p2⟩, q0, q1, q2⟩ := CM.out W hW; first | (go_simp; refine hK _ ?_; clear hK K p0 p1 p2 q0 q1 q2) | (go_simp; (with_reducible refine ⟨(K1.out _ hW).mono ?_, ?_⟩); exact (fun e w1 h => F1.out W e w1 hW h); (rintro v hv; obtain rfl := hv.1 rfl; refine hK _ ?_; clear hK K p0 p1 p2 q0 q1 q2)) | (go_simp; (with_reducible refine ⟨(K2.out _ hW).mono ?_, ?_⟩); exact (fun e w1 h => F2.out W e w1 hW h); (rintro v hv; obtain rfl := hv.2 rfl; refine hK _ ?_; clear hK K p0 p1 p2 q0 q1 q2)))
    refine cset_nil ?_
    intro w1 hw1
    have HB := Lib.hid hw1; clear hw1
    go_wp2
    go_ret
    exact ⟨by rw [HE.out, E1.out, E2.out, HD.out]; rfl, HB.out⟩
set_option maxHeartbeats 8000000 in
set_option maxRecDepth 100000 in
theorem spec_ReplaceInput (w : World) (ad : Option Addr) (cap : Nat) (os : List OpD) (h : SeeR opR w ad cap os) (hno : nilOK os) (op : Int) (r c : Int) (av : Option Addr) (cv : Nat) (xs : List Nat) (hv : F32s w av cv xs) (hvc : av = none → cv = 0) (hi2 : ∀ o ∈ os, o.xs.length ≤ 1048576) :
    Calls Try.prog 59 #[.slice ad os.length cap, .int .i64 op, .agg #[.int .i64 r, .int .i64 c, .slice av xs.length cv]] w (OOPost (replP (os.map OpD.toOpP) op r c xs) w) := by
  have b1 := below1 w (.cells #[.int .i64 r, .int .i64 c, .slice av xs.length cv] 27)
  have K1 := Lib.hid (fun W (hb : Below w.heap.size w W) => spec_l04Input W ad cap os (h.below hb) op)
  have XB := Lib.hid (BoxN.alloc w #[.int .i64 r, .int .i64 c, .slice av xs.length cv] 27)
  have hxm := Nat.le_trans hv.len hv.cap
  obtain ⟨m, hM⟩ : ∃ m, m = xs.length := ⟨_, rfl⟩
  obtain ⟨n, hN⟩ : ∃ n, n = os.length := ⟨_, rfl⟩
  rw [← hM] at XB hxm b1 ⊢
  rw [← hN] at K1 ⊢
  have HM := Lib.hid hM; have HN := Lib.hid hN; have H := Lib.hid h; have HV := Lib.hid hv; have HNO := Lib.hid hno; have HI2 := Lib.hid hi2; have HVC := Lib.hid hvc
  have B1 := Lib.hid b1
  clear hM hN h hv hno hi2 hvc b1
  cases e1 : inpB (os.map OpD.toOpP) op
  · rw [e1] at K1
    have E1 := Lib.hid (fun W => OOOut.no (replP_no1 (r := r) (c := c) (xs := xs) e1) w W)
    clear e1
    go_enter Try.func59, Try.ntmps59
    go_wp2_with fail
    refine (K1.out _ B1.out).mono ?_
    rintro e w1 ⟨rfl, hb⟩
    have HB := Lib.hid (bthen B1.out hb); clear hb
    go_wp2
    go_ret2
    exact ⟨_, _, _, _, [], rfl, Lib.hid (E1.out _), HB.out⟩
  rw [e1] at K1
  obtain ⟨S, k, p, hS, rfl, hp, hk0, hten⟩ := inpB_at e1
  obtain ⟨o, ho, rfl⟩ : ∃ o, os[k]? = some o ∧ o.toOpP = p := by
    rw [List.getElem?_map] at hp
    obtain ⟨o, ho, e⟩ := Option.map_eq_some_iff.1 hp
    exact ⟨o, ho, e⟩
  have hkn : k < n := by rw [HN.out]; exact (List.getElem?_eq_some_iff.1 ho).1
  have hnm := Nat.le_trans H.out.le H.out.cap
  rw [← HN.out] at hnm
  unfold maxLen at hnm
  obtain ⟨b, off, hbe, hbl, ⟨-, -, -, -, p4, p5, p6⟩, hf, hok⟩ := op_spot H.out ho
  have CM : Hid (∀ W, Below w.heap.size w W → W.cell? ⟨b, off + k * 7 + 4, none⟩ = some (.int .i64 o.r) ∧ W.cell? ⟨b, off + k * 7 + 4 + 1, none⟩ = some (.int .i64 o.c) ∧ W.cell? ⟨b, off + k * 7 + 4 + 2, none⟩ = some (.slice o.ad o.xs.length o.cap)) := Lib.hid (fun W hb => ⟨(hb.cell (p := ⟨b, off + k * 7 + 4, none⟩) hbl).trans p4, (hb.cell (p := ⟨b, off + k * 7 + 4 + 1, none⟩) hbl).trans p5, (hb.cell (p := ⟨b, off + k * 7 + 4 + 2, none⟩) hbl).trans p6⟩)
  have K2 := Lib.hid (fun W (hb : Below w.heap.size w W) (hx : BoxN W w.heap.size [.int .i64 r, .int .i64 c, .slice av m cv]) => spec_l02Like W b (off + k * 7 + 4) w.heap.size 0 o.r o.c o.ad o.xs.length o.cap r c av m cv (Nat.le_trans hf.len hf.cap) hxm (CM.out W hb).1 (CM.out W hb).2.1 (CM.out W hb).2.2 hx.three.2.1 hx.three.2.2.1 hx.three.2.2.2.1)
  have PO := Lib.hid ho; have PP := Lib.hid hp; have HK := Lib.hid hok; have HBE := Lib.hid hbe
  clear p4 p5 p6 hf hok hp ho hk0 hten hS
  have hbc := hbe
  subst hbc
  clear HBE hbe
  cases e2 : alikeB o.r o.c o.xs.length r c m
  · rw [e2] at K2
    have E1 := Lib.hid (fun W => OOOut.no (replP_no2 (r := r) (c := c) (xs := xs) PP.out (by rw [← HM.out]; exact e2)) w W)
    clear e1 e2
    go_enter Try.func59, Try.ntmps59
    go_wp2_with fail
    refine (K1.out _ B1.out).mono ?_
    rintro e w1 ⟨rfl, hb⟩
    have HB := Lib.hid (bthen B1.out hb); have XB1 := Lib.hid (XB.out.below hb); clear hb
    go_wp2_with fail
    refine (K2.out _ HB.out XB1.out).mono ?_
    rintro e w2 ⟨rfl, hb⟩
    have HB2 := Lib.hid (bthen HB.out hb); clear hb
    go_wp2
    go_ret2
    exact ⟨_, _, _, _, [], rfl, Lib.hid (E1.out _), HB2.out⟩
  rw [e2] at K2
  obtain ⟨rfl, rfl, hmm, hten⟩ := alikeB_in e2
  have HY := Lib.hid (replP_yes (r := o.r) (c := o.c) (xs := xs) PP.out e1 (by rw [← HM.out]; exact e2))
  have hm6 : m ≤ 1048576 := by rw [hmm]; exact HI2.out o (List.mem_of_getElem? PO.out)
  have hn6 : n ≤ 1048576 := by
    obtain ⟨S, _, _, hS, _⟩ := inpB_at e1
    have := (shapesP_some hS).1.2
    rw [List.length_map, ← HN.out] at this
    omega
  have KC := Lib.hid (fun W (hb : Below w.heap.size w W) => spec_l04Own W _ cap os (H.out.below hb) HNO.out (by rw [← HN.out]; exact hn6) HI2.out)
  have KT := Lib.hid (fun W (hb : Below w.heap.size w W) => spec_l02OwnF W av cv xs (HV.out.below hb) HVC.out (by rw [← HM.out]; exact hm6))
  rw [← HN.out] at KC
  rw [← HM.out] at KT
  clear e1 e2 hmm hten
  go_enter Try.func59, Try.ntmps59
  go_wp2_with fail
  refine (K1.out _ B1.out).mono ?_
  rintro e w1 ⟨rfl, hb⟩
  have HB0 := Lib.hid (bthen B1.out hb); have XB0 := Lib.hid (XB.out.below hb); clear hb
  go_wp2_with fail
  refine (K2.out _ HB0.out XB0.out).mono ?_
  rintro e w1 ⟨rfl, hb⟩
  have HB1 := Lib.hid (bthen HB0.out hb); have XB1 := Lib.hid (XB0.out.below hb); clear hb
  go_wp2_with fail
  refine (KC.out _ HB1.out).mono ?_
  rintro e w2 ⟨ad2, cap2, us, rfl, HU, hb2⟩
  have XB2 := Lib.hid (XB1.out.below hb2)
  have HB2 := Lib.hid (bthen HB1.out hb2); clear XB1 XB0 HB0
  obtain ⟨xl, x0, x1, x2, xf⟩ := XB2.out.three
  go_wp2_with fail
  refine (KT.out _ HB2.out).mono ?_
  rintro e w3 ⟨ad3, cap3, rfl, HR, hb3⟩
  have hB1s := HB1.out.size
  have hU := HU.out.1.bounds (lo' := w.heap.size) (hi' := w2.heap.size) hB1s (Nat.le_refl _)
  obtain ⟨u, hu⟩ := getElem?_lt (show k < us.length by rw [hU.len]; exact hkn)
  have hup : u.toOpP = o.toOpP := by
    have := congrArg (fun l => l[k]?) HU.out.2
    simp only [List.getElem?_map, hu, PO.out, Option.map_some, Option.some.injEq] at this
    exact this
  obtain ⟨g, rfl, hgr, ⟨-, -, -, -, q4, q5, q6⟩, hfz, -⟩ := op_own (hU.below hb3) hu
  have hs3 := hb3.size
  have hbs := HB2.out.size
  have hr3 := HR.out
  have hml : m = xs.length := HM.out
  rw [hml] at hr3
  have htl := RecT.tail opR hu (a := ⟨⟨o.k, o.a, o.b, o.num, o.r, o.c, xs⟩, ad3, cap3⟩) [.int .i64 o.k, .int .i64 o.a, .int .i64 o.b, .float .f32 o.num, .int .i64 o.r, .int .i64 o.c] [.slice ad3 xs.length cap3] rfl (fun j hj => by
    obtain ⟨⟨uk, ua, ub, un, ur, uc, ux⟩, uad, ucap⟩ := u
    obtain ⟨⟨ok, oa, ob, on, or, oc, ox⟩, oad, ocap⟩ := o
    simp only [OpP.mk.injEq] at hup
    obtain ⟨rfl, rfl, rfl, rfl, rfl, rfl, rfl⟩ := hup
    rcases (by simp at hj; omega : j = 0 ∨ j = 1 ∨ j = 2 ∨ j = 3 ∨ j = 4 ∨ j = 5) with rfl | rfl | rfl | rfl | rfl | rfl <;> rfl)
  have hnew := OwnR.setNew (w2 := setCs w3 g (k * 7 + 6) [.slice ad3 xs.length cap3]) hU hbs hb3 hkn (a := ⟨⟨o.k, o.a, o.b, o.num, o.r, o.c, xs⟩, ad3, cap3⟩) ⟨HV.out.lt, HK.out.2⟩ (hr3.ownRow) hs3 (fun M hM => by
    rw [htl]
    exact setCs_own hM (k * 7 + 6) _)
  have hbb := setCs_below (HB2.out.trans (hb3.mono hbs)) hgr.1 (k * 7 + 6) [.slice ad3 xs.length cap3]
  have hmp : (us.set k ⟨⟨o.k, o.a, o.b, o.num, o.r, o.c, xs⟩, ad3, cap3⟩).map OpD.toOpP = ((os.map OpD.toOpP).set k { o.toOpP with xs := xs }) := by
    rw [List.map_set, HU.out.2]
  rw [← hml] at hnew hbb
  have HW := Lib.hid hnew; have HBB := Lib.hid hbb; have HMP := Lib.hid hmp
  clear hnew hbb htl hr3 hb3 hb2 HU hU hu hup hmp hml hgr hbs hB1s K1 K2 KC KT HB1 HB2 HR x0 x1 x2 xf XB2 CM
  go_wp2
  go_ret2
  exact ⟨_, _, _, _, _, rfl, Lib.hid ⟨⟨by rw [HY.out]; rfl, by rw [HY.out]; exact HMP.out⟩, HW.out.bounds (Nat.le_refl _) (by simp [World.setCell])⟩, HBB.out⟩
end Go.Proofs.Ytmkfcaahdmdpaaa
/- Tapes as results, for the walks of laws. No condition. -/
namespace Go.Proofs.Ytmkfcaahdmdpaaa
open Go Go.RowKit
set_option linter.unusedVariables false
set_option linter.unusedSimpArgs false
/-- bounds of a tape that is a result -/
def bndO (n : Nat) (us : List OpD) : Prop := n ≤ 1048576 ∧ totO us ≤ 9000000 ∧ ∀ u ∈ us, u.xs.length ≤ 1048576
theorem OO_eq2 (w : World) {lo1 hi1 lo2 hi2 : Nat} {a1 a2 : Option Addr} {n1 n2 c1 c2 : Nat} {us vs : List OpD} (h1 : OwnR opR w lo1 hi1 a1 n1 c1 us) (h2 : OwnR opR w lo2 hi2 a2 n2 c2 vs) (he : us.map OpD.toOpP = vs.map OpD.toOpP) (hm : n1 ≤ 1048576 ∧ totO us ≤ 9000000 ∧ ∀ u ∈ us, u.xs.length ≤ 1048576) :
    Calls Try.prog 63 #[.slice a1 n1 c1, .slice a2 n2 c2] w fun e w' => e = .returned (.bool true) ∧ Below w.heap.size w w' := by
  have e1 := h1.len; have e2 := h2.len
  subst e1 e2
  exact OS_eq w h1.see h2.see (can_of he) hm.1 hm.2.2
theorem OO_mark2 (w : World) {lo hi : Nat} {ad : Option Addr} {n cap : Nat} {us : List OpD} (k0 : Nat) (h : OwnR opR w lo hi ad n cap us) (hhi : hi ≤ w.heap.size) (hm : n ≤ 1048576 ∧ totO us ≤ 9000000 ∧ ∀ u ∈ us, u.xs.length ≤ 1048576) (hk : k0 + totO us ≤ 10000000) :
    Calls Try.prog 65 #[.slice ad n cap, .int .i64 k0] w fun e w' => e = .returned (.int .i64 (k0 + totO us : Nat)) ∧ Hid (OwnR opR w' lo hi ad n cap (markOs k0 us)) ∧ Touch lo hi w w' :=
  OS_mark w k0 h hhi hm.1 hk hm.2.2
theorem OO_held2 (w : World) {lo hi : Nat} {ad : Option Addr} {n cap : Nat} {us : List OpD} (k0 : Nat) (h : OwnR opR w lo hi ad n cap (markOs k0 us)) (hm : n ≤ 1048576 ∧ totO us ≤ 9000000 ∧ ∀ u ∈ us, u.xs.length ≤ 1048576) (hk : k0 + totO us ≤ 10000000) :
    Calls Try.prog 67 #[.slice ad n cap, .int .i64 k0] w fun e w' => e = .returned (.int .i64 (k0 + totO us : Nat)) ∧ w = w' :=
  OS_held w k0 h.see (by rw [← markOs_length k0 us]; exact h.len) hm.1 hk hm.2.2
theorem spec_ReplaceInputW (w : World) (ad : Option Addr) (cap : Nat) (os : List OpD) {lo hi n : Nat} (h : OwnR opR w lo hi ad n cap os) (hi2 : ∀ o ∈ os, o.xs.length ≤ 1048576) (op : Int) (hop : (Lit.int .i64 op).wf = true) (r c : Int) (av : Option Addr) (cv : Nat) (xs : List Nat) {lo2 hi3 m : Nat} (hv : RepF w lo2 hi3 av m cv xs) (hn : xs.length ≤ 1048576) (hr : (Lit.int .i64 r).wf = true) (hc : (Lit.int .i64 c).wf = true) :
    Calls Try.prog 59 #[.slice ad os.length cap, .int .i64 op, .agg #[.int .i64 r, .int .i64 c, .slice av xs.length cv]] w (OOPost (replP (os.map OpD.toOpP) op r c xs) w) :=
  spec_ReplaceInput w ad cap os h.see h.nilOK op r c av cv xs hv.arg hv.nilcap hi2
theorem impl_ReplaceInputW (w : World) (ad : Option Addr) (cap : Nat) (os : List OpD) {lo hi n : Nat} (h : OwnR opR w lo hi ad n cap os) (hi2 : ∀ o ∈ os, o.xs.length ≤ 1048576) (op : Int) (hop : (Lit.int .i64 op).wf = true) (r c : Int) (av : Option Addr) (cv : Nat) (xs : List Nat) {lo2 hi3 m : Nat} (hv : RepF w lo2 hi3 av m cv xs) (hn : xs.length ≤ 1048576) (hr : (Lit.int .i64 r).wf = true) (hc : (Lit.int .i64 c).wf = true) :
    Calls Try.prog 62 #[.slice ad os.length cap, .int .i64 op, .agg #[.int .i64 r, .int .i64 c, .slice av xs.length cv]] w (OOPost (replP (os.map OpD.toOpP) op r c xs) w) :=
  impl_ReplaceInput w ad cap os h.see h.nilcap h.nilOK op r c av cv xs hv.arg hv.nilcap hi2
def lenP (p : OpP) : Nat := 6 + p.xs.length
theorem totO_lenP (us : List OpD) : totO us = ((us.map OpD.toOpP).map lenP).sum := by unfold totO; rw [List.map_map]; rfl
theorem set_id' {α : Type} {us : List α} {k : Nat} {a : α} (h : us[k]? = some a) : us.set k a = us := by
  obtain ⟨hk, rfl⟩ := List.getElem?_eq_some_iff.1 h
  exact List.set_getElem_self hk
theorem repl_bound {us l : List OpD} {op r c : Int} {xs : List Nat} (h : us.map OpD.toOpP = (replP (l.map OpD.toOpP) op r c xs).getD []) (h1 : l.length ≤ 1048576) (h2 : totO l ≤ 8000000) (h3 : ∀ o ∈ l, o.xs.length ≤ 1048576) : us.length ≤ 1048576 ∧ totO us ≤ 9000000 ∧ ∀ u ∈ us, u.xs.length ≤ 1048576 := by
  cases e : replP (l.map OpD.toOpP) op r c xs with
  | none =>
    rw [e] at h
    have h0 : us = [] := by simpa using h
    subst h0
    exact ⟨by decide, by decide, fun u hu => (nomatch hu)⟩
  | some P =>
    rw [e] at h
    have h0 : us.map OpD.toOpP = P := h
    have hP : P.map lenP = (l.map OpD.toOpP).map lenP := by
      unfold replP at e
      split at e
      · rename_i hc
        cases e
        obtain ⟨S, k, o, _, rfl, ho, _⟩ := inpB_at hc.1
        obtain ⟨_, _, hm, _⟩ := alikeB_in hc.2
        rw [show ((k : Nat) : Int).toNat = k by simp, opAtP_some ho] at hm ⊢
        rw [List.map_set]
        refine set_id' ?_
        rw [List.getElem?_map, ho]
        show some (lenP o) = some (lenP _)
        unfold lenP
        rw [hm]
      · cases e
    have hl : (us.map OpD.toOpP).map lenP = (l.map OpD.toOpP).map lenP := by rw [h0, hP]
    refine ⟨?_, by rw [totO_lenP, hl, ← totO_lenP]; omega, fun u hu => ?_⟩
    · have := congrArg List.length hl
      simp only [List.length_map] at this
      omega
    · have h4 : lenP u.toOpP ∈ (l.map OpD.toOpP).map lenP := by rw [← hl]; exact List.mem_map_of_mem (List.mem_map_of_mem hu)
      obtain ⟨p, hp, e5⟩ := List.mem_map.1 h4
      obtain ⟨o, ho, rfl⟩ := List.mem_map.1 hp
      have := h3 o ho
      unfold lenP at e5
      have e6 : u.toOpP.xs.length = u.xs.length := rfl
      have e7 : o.toOpP.xs.length = o.xs.length := rfl
      omega
end Go.Proofs.Ytmkfcaahdmdpaaa
/- Copies of arguments behind a draw, for the walks of laws. No condition. -/
namespace Go.Proofs.Ytmkfcaahdmdpaaa
open Go Go.RowKit
set_option linter.unusedVariables false
set_option linter.unusedSimpArgs false
theorem below_dr1 {w w' : World} (hb : Below w.drew.heap.size w.drew w') : Below w.heap.size w w' := bthen (Below.drew (Below.refl _ _)) hb
theorem OS_toD (w : World) (ad : Option Addr) (cap : Nat) (os : List OpD) (h : SeeR opR w ad cap os) (hn : os.length ≤ 1048576) (hi2 : ∀ o ∈ os, o.xs.length ≤ 1048576) :
    Calls Try.prog 60 #[.slice ad os.length cap] w.drew fun e w' => ∃ ad' cap', ∃ os' : List OpD, e = .returned (.slice ad' os.length cap') ∧ os'.map OpD.toOpP = os.map OpD.toOpP ∧ Hid (OwnR opR w' w.heap.size w'.heap.size ad' os.length cap' os') ∧ Below w.heap.size w w' := by
  refine (OS_to w.drew ad cap os (h.below (Below.drew (Below.refl _ _))) hn hi2).mono ?_
  rintro e w' ⟨a, c, os', h1, h2, h3, h4⟩
  exact ⟨a, c, os', h1, h2, h3, below_dr1 h4⟩
theorem T_toD (w : World) (r c : Int) (ad : Option Addr) (cap : Nat) (xs : List Nat) (h : F32s w ad cap xs) (hn : xs.length ≤ 1048576) :
    Calls Try.prog 61 #[.agg #[.int .i64 r, .int .i64 c, .slice ad xs.length cap]] w.drew fun e w' => ∃ ad' cap', e = .returned (.agg #[.int .i64 r, .int .i64 c, .slice ad' xs.length cap']) ∧ Hid (RepF w' w.heap.size w'.heap.size ad' xs.length cap' xs) ∧ Below w.heap.size w w' := by
  refine (T_to w.drew r c ad cap xs (h.below (Below.drew (Below.refl _ _))) hn).mono ?_
  rintro e w' ⟨a, c, h1, h3, h4⟩
  exact ⟨a, c, h1, h3, below_dr1 h4⟩
end Go.Proofs.Ytmkfcaahdmdpaaa
/- A tensor of what a function makes of each number. No condition. -/
namespace Go.Proofs.Ytmkfcaahdmdpaaa
open Go Go.RowKit
set_option linter.unusedVariables false
set_option linter.unusedSimpArgs false
theorem owns_touch5 {w w' : World} {lo hi size base n : Nat} {e : TypeId} {v : Value} {cs : List Value} (h : w.ownsRow base e size v n cs) (ht : Touch lo hi w w') (hd : hi ≤ base) : w'.ownsRow base e size v n cs := ((Row.mk' h).touch ht (.inr hd)).own
theorem cell_after {w2 w9 : World} {o : Obj} {c j : Nat} {row : Option Nat} {v : Value} (hg : (w2.alloc o).grownBy w9 row) (hc : c < w2.heap.size) (hne : row ≠ some c) (hf : w2.cell? ⟨c, j, none⟩ = some v) : w9.cell? ⟨c, j, none⟩ = some v := by
  rw [hg.cell_far ⟨c, j, none⟩ (by simp; omega) (Ne.symm hne)]
  have h : (w2.alloc o).cell? ⟨c, j, none⟩ = w2.cell? ⟨c, j, none⟩ := World.cell?_of_block (heap_alloc_old _ _ hc)
  rw [h]; exact hf
/-- a call of a function value, as one step of a region that draws -/
theorem step_call_value {P : Program} {ops : Array Oper} {o : Oper} {a : Act} {w : World} {K : Act → World → Prop} {Q : Exit → Act → World → Prop} {E : Prop} (hg : o.guard = none) (f : FuncId) (args : Array Value)
    (he : (execOp a.eval o).run P w = .ok (.enter f args) w) (hC : Calls P f args w (fun e w' => ∃ v, e = .returned v ∧ K (a.put o.dst v) w')) : if Region.wanted o (yielded ops a.tmps) = true then Oper.wp P o a w K Q else E := by
  have hw : Region.wanted o (yielded ops a.tmps) = true := by simp [Region.wanted, hg]
  rw [if_pos hw]
  unfold Oper.wp
  rw [he]
  refine hC.mono fun e w' ⟨v, hv, hk⟩ => ?_
  subst hv
  exact hk
theorem frozen_after {w2 w9 : World} {o : Obj} {c j : Nat} {row : Option Nat} (hg : (w2.alloc o).grownBy w9 row) (hc : c < w2.heap.size) (hne : row ≠ some c) (hf : w2.frozen? ⟨c, j, none⟩ = false) : w9.frozen? ⟨c, j, none⟩ = false := by
  rw [hg.frozen_far ⟨c, j, none⟩ (by simp; omega) (Ne.symm hne)]
  have h : (w2.alloc o).frozen? ⟨c, j, none⟩ = w2.frozen? ⟨c, j, none⟩ := World.frozen?_of_block (heap_alloc_old _ _ hc)
  rw [h]; exact hf
/-- what is told of the numbers that the function makes -/
def Made (P : Nat → Nat → Nat → Prop) (xs ys : List Nat) : Prop := ∀ i, i < ys.length → P i (xs.getD i 0) (ys.getD i 0) ∧ ys.getD i 0 < 4294967296
theorem Made.snoc {P : Nat → Nat → Nat → Prop} {xs ys : List Nat} {y : Nat} (h : Made P xs ys) (hp : P ys.length (xs.getD ys.length 0) y) (hy : y < 4294967296) : Made P xs (ys ++ [y]) := by
  intro i hi
  rw [List.length_append] at hi
  simp at hi
  by_cases e : i = ys.length
  · subst e
    rw [List.getD_eq_getElem?_getD, List.getD_eq_getElem?_getD, List.getElem?_append_right (Nat.le_refl _)]
    rw [List.getD_eq_getElem?_getD] at hp
    simpa using ⟨hp, hy⟩
  · have h1 := h i (by omega)
    have e2 : (ys ++ [y]).getD i 0 = ys.getD i 0 := by
      rw [List.getD_eq_getElem?_getD, List.getD_eq_getElem?_getD, List.getElem?_append_left (by omega)]
    rw [e2]; exact h1
set_option maxHeartbeats 4000000 in
set_option maxRecDepth 100000 in
theorem ten_mapped (w : World) (r c : Nat) (ad : Option Addr) (cap : Nat) (xs : List Nat) (h : F32s w ad cap xs) (hl : xs.length ≤ 256) (G : Nat) (caps : Array Value) (P : Nat → Nat → Nat → Prop) (hG : ∀ (args : Array Value) (W : World), (callFunc G args).run Try.prog W = .ok (.enter G args) W)
    (hcl : ∀ W (i x : Nat), Below w.heap.size w W → i < xs.length → x = xs.getD i 0 → Calls Try.prog G (#[.int .i64 i, .float .f32 x] ++ caps) W fun e w' => ∃ y, e = .returned (.float .f32 y) ∧ Hid (P i x y ∧ y < 4294967296) ∧ Below W.heap.size W w') :
    Calls Try.prog 181 #[.agg #[.int .i64 r, .int .i64 c, .slice ad xs.length cap], .func (.func G) #[] caps] w fun e w' => ∃ ad' cap' ys, e = .returned (.agg #[.int .i64 r, .int .i64 c, .slice ad' xs.length cap']) ∧ Hid (RepF w' w.heap.size w'.heap.size ad' xs.length cap' ys) ∧ Hid (Made P xs ys) ∧ Below w.heap.size w w' := by
  obtain ⟨i0, hi0, hz0, hz1, hz2⟩ := info_parts info_f32
  obtain ⟨n, hn⟩ : ∃ n, n = xs.length := ⟨_, rfl⟩
  have NX := Lib.hid hn
  rw [← hn] at hl hcl ⊢
  have HC := Lib.hid hcl; have H := Lib.hid h
  have rb0 := (Box3.alloc2 w (.cells #[.int .i64 r, .int .i64 c, .slice ad n cap] 27) (.int .i64 0) (.int .i64 0) (.slice none 0 0) 27).below (below1 _ (.cells #[.int .i64 r, .int .i64 c, .slice none 0 0] 27))
  have ob0 := Box3.alloc2 (w.alloc (.cells #[.int .i64 r, .int .i64 c, .slice ad n cap] 27)) (.cells #[.int .i64 0, .int .i64 0, .slice none 0 0] 27) (.int .i64 r) (.int .i64 c) (.slice none 0 0) 27
  rw [show (w.alloc (.cells #[.int .i64 r, .int .i64 c, .slice ad n cap] 27)).heap.size = w.heap.size + 1 by simp] at ob0
  have b00 := below3 w (.cells #[.int .i64 r, .int .i64 c, .slice ad n cap] 27) (.cells #[.int .i64 0, .int .i64 0, .slice none 0 0] 27) (.cells #[.int .i64 r, .int .i64 c, .slice none 0 0] 27)
  have hsz : (((w.alloc (.cells #[.int .i64 r, .int .i64 c, .slice ad n cap] 27)).alloc (.cells #[.int .i64 0, .int .i64 0, .slice none 0 0] 27)).alloc (.cells #[.int .i64 r, .int .i64 c, .slice none 0 0] 27)).heap.size = w.heap.size + 3 := by simp
  have RB := Lib.hid rb0; have OB := Lib.hid ob0; have B0 := Lib.hid b00; have SZ := Lib.hid hsz
  clear hsz rb0 ob0 b00
  clear hcl h hn
  go_enter Try.func181, Try.ntmps181
  go_wp2
  generalize (((w.alloc (.cells #[.int .i64 r, .int .i64 c, .slice ad n cap] 27)).alloc (.cells #[.int .i64 0, .int .i64 0, .slice none 0 0] 27)).alloc (.cells #[.int .i64 r, .int .i64 c, .slice none 0 0] 27)) = W0 at RB OB B0 SZ ⊢
  obtain ⟨ob, hob⟩ : ∃ ob, ob = w.heap.size + 1 + 1 := ⟨_, rfl⟩
  rw [← hob] at OB ⊢
  have hob2 : ob = w.heap.size + 2 := hob
  have HOB := Lib.hid hob2
  have hob3 : ob < w.heap.size + 3 := by omega
  clear hob hob2
  go_loopw [16, 6, 7] (fun i _ _ wt => ∃ k : Nat, i = .int .i64 k ∧ k ≤ n ∧ ∃ (vv : Value) (ys : List Nat), Hid (Box3 wt (ob) (.int .i64 r) (.int .i64 c) vv) ∧ Hid (Box3 wt (w.heap.size + 1) (.int .i64 0) (.int .i64 0) (.slice none 0 0)) ∧ Hid (wt.ownsRow (w.heap.size + 3) 33 1 vv k (ys.map (Value.float .f32)) ∧ ys.length = k ∧ Made P xs ys) ∧ Hid (Below w.heap.size w wt) ∧ w.heap.size + 3 ≤ wt.heap.size) (fun i _ _ _ => n - (intOf i).toNat)
  case atStart => exact ⟨0, rfl, Nat.zero_le _, .slice none 0 0, [], Lib.hid OB.out, Lib.hid RB.out, Lib.hid ⟨⟨rfl, .inl ⟨rfl, rfl⟩⟩, rfl, fun i hi => by simp at hi⟩, Lib.hid B0.out, by rw [SZ.out]; exact Nat.le_refl _⟩
  case round =>
    clear RB OB B0 SZ
    obtain ⟨k, rfl, hk, vv, ys, OB, RB, OW, B, hsz⟩ := hrel
    by_cases hlt : k < n
    · have kx : k < xs.length := by rw [← NX.out]; exact hlt
      have h2 := H.out.below B.out
      obtain ⟨b, off, rfl, _, c1⟩ := h2.spot (k := k) kx
      have c1 := c1 k kx
      obtain ⟨x, hx⟩ : ∃ x, x = xs.getD k 0 := ⟨_, rfl⟩
      rw [← hx] at c1
      have KC := Lib.hid (HC.out wr.drew k x (Below.drew B.out) hlt hx); have HXS := Lib.hid hx
      obtain ⟨va, vc, rfl⟩ : ∃ va vc, vv = .slice va k vc := by
        obtain ⟨ad', cap', e, _⟩ := Rd.of_owns OW.out.1
        exact ⟨ad', cap', e⟩
      have hne : (Value.slice va k vc).ownBlock ≠ some (ob) := by
        intro e
        have := (OW.out.1.lt _ e).1
        omega
      have HO1 := Lib.hid (owns_below OW.out.1 (Below.drew (Below.refl _ _)))
      obtain ⟨q5, q0, q1, q2, qf⟩ := OB.out
      clear h2 hx kx
      go_wp2
      go_region_law
        (first
          | (refine step_call_value (by rfl) G (#[.int .i64 k, .float .f32 x] ++ caps) (by go_simp) ?_; refine KC.out.mono ?_; rintro e w2 ⟨y, rfl, hy, hb2⟩; refine ⟨_, rfl, ?_⟩; have hzz2 : wr.heap.size ≤ w2.heap.size := hb2.size; have HO2 := Lib.hid (owns_below HO1.out hb2); obtain ⟨p5, p0, p1, p2, pf⟩ := (OB.out.below (Below.drew (Below.refl _ _))).below hb2)
          | (refine step_append_lies _ (by rfl) _ _ _ (by rfl) (w.heap.size + 3) 33 i0 _ 1 4 Try.underlying25 hi0 hz0 hz1 hz2 rfl (by omega) (.slice va k vc) k (ys.map (Value.float .f32)) (by rfl) (HO2.out.alloc _)
              ⟨w2.heap.size, 0, none⟩ 1 1 [.float .f32 y] (by rfl) (by rfl) (World.news_of_block (cs := #[.float .f32 y]) (t := 33) (fr := (0, 0)) (heap_alloc_new w2 _)) (by simp [Value.oneCell'])
              (by omega) (by unfold maxLen; omega) (by omega) (by simp; omega) (w2.heap.size + 1) (by simp) ?_; intro gg cap9 w9 hown1 hgrow hat hlt9; have cf0 := cell_after hgrow p5 hne p0; have cf1 := cell_after hgrow p5 hne p1; have cf9 := cell_after hgrow p5 hne p2; have uf9 : w9.frozen? ⟨ob, 2, none⟩ = false := frozen_after hgrow p5 hne (pf 2)))
      all_goals
        have hs9 := hgrow.size
        simp at hs9
        have B9 : Box3 w9 ob (.int .i64 r) (.int .i64 c) (.slice va k vc) := ⟨by omega, cf0, cf1, cf9, fun o => frozen_after hgrow p5 hne (pf o)⟩
        have hne2 : (Value.slice va k vc).ownBlock ≠ some (w.heap.size + 1) := by
          intro e
          have := (OW.out.1.lt _ e).1
          omega
        obtain ⟨r5, r0, r1, r2, rf⟩ := (RB.out.below (Below.drew (Below.refl _ _))).below hb2
        have R9 : Box3 w9 (w.heap.size + 1) (.int .i64 0) (.int .i64 0) (.slice none 0 0) := ⟨by omega, cell_after hgrow r5 hne2 r0, cell_after hgrow r5 hne2 r1, cell_after hgrow r5 hne2 r2, fun o => frozen_after hgrow r5 hne2 (rf o)⟩
        have hbw : Below w.heap.size w w9 := Below.grown (Below.alloc (bthen (Below.drew B.out) hb2) (by omega) _) hgrow (by simp; omega) (fun g e => by have := (OW.out.1.lt g e).1; omega)
        have ho9 := owns_touch5 (lo := ob) (hi := ob + 1) hown1 (Touch.setCell (w := w9) (g := ob) (k := 2) (v := .slice (some ⟨gg, 0, none⟩) (k + 1) cap9) (Nat.le_refl _) (by omega)) (by omega)
        have hob1 : w.heap.size + 1 ≠ ob := by have := HOB.out; omega
        have hm := OW.out.2.2.snoc (y := y) (by rw [OW.out.2.1, ← HXS.out]; exact hy.out.1) hy.out.2
        have NB := Lib.hid (B9.set 2 (.slice (some ⟨gg, 0, none⟩) (k + 1) cap9)); have NR := Lib.hid (R9.far ob 2 (.slice (some ⟨gg, 0, none⟩) (k + 1) cap9) (Ne.symm hob1))
        have NO := Lib.hid ho9; have NM := Lib.hid hm; have NW := Lib.hid (Below.setCell (p := ⟨ob, 2, none⟩) hbw (by show w.heap.size ≤ ob; have := HOB.out; omega) (.slice (some ⟨gg, 0, none⟩) (k + 1) cap9))
        have hz9 : w.heap.size + 3 ≤ w9.heap.size := by omega
        clear B9 R9 hbw ho9 hm hown1 hgrow hat cf0 cf1 cf9 uf9 p0 p1 p2 pf r0 r1 r2 rf hb2 KC HO1 HO2
        go_wp2
        refine ⟨?rel, ?measure⟩
        case rel => exact ⟨k + 1, by go_num, hlt, _, ys ++ [y], Lib.hid NB.out, NR, Lib.hid ⟨by rw [List.map_append]; exact NO.out, by rw [List.length_append, OW.out.2.1]; rfl, NM.out⟩, NW, by simp [World.setCell]; omega⟩
        case measure => simp [intOf]; omega
    · have hkn : k = n := by omega
      subst hkn
      obtain ⟨va, vc, rfl⟩ : ∃ va vc, vv = .slice va k vc := by
        obtain ⟨ad', cap', e, _⟩ := Rd.of_owns OW.out.1
        exact ⟨ad', cap', e⟩
      obtain ⟨q5, q0, q1, q2, qf⟩ := OB.out
      obtain ⟨r5, r0, r1, r2, rf⟩ := RB.out
      have hbf : ∀ a b d : Value, Below w.heap.size w (((wr.setCell ⟨w.heap.size + 1, 0, none⟩ a).setCell ⟨w.heap.size + 1, 1, none⟩ b).setCell ⟨w.heap.size + 1, 2, none⟩ d) := fun a b d =>
        Below.setCell (p := ⟨w.heap.size + 1, 2, none⟩) (Below.setCell (p := ⟨w.heap.size + 1, 1, none⟩) (Below.setCell (p := ⟨w.heap.size + 1, 0, none⟩) B.out (by show w.heap.size ≤ w.heap.size + 1; omega) a) (by show w.heap.size ≤ w.heap.size + 1; omega) b) (by show w.heap.size ≤ w.heap.size + 1; omega) d
      have htf : ∀ a b d : Value, Touch (w.heap.size + 1) (w.heap.size + 2) wr (((wr.setCell ⟨w.heap.size + 1, 0, none⟩ a).setCell ⟨w.heap.size + 1, 1, none⟩ b).setCell ⟨w.heap.size + 1, 2, none⟩ d) := fun a b d =>
        ((Touch.setCell (Nat.le_refl _) (by omega)).trans (Touch.setCell (Nat.le_refl _) (by omega))).trans (Touch.setCell (Nat.le_refl _) (by omega))
      have HBF := Lib.hid hbf; have HTF := Lib.hid htf
      have hob1 : w.heap.size + 1 ≠ ob := by have := HOB.out; omega
      have hob2 : ob ≠ w.heap.size + 1 := Ne.symm hob1
      clear hbf htf HC
      go_wp2
      try simp only [Exit.inBlock, Exit.then]
      refine bodyPost_ret (v := .agg #[.int .i64 r, .int .i64 c, .slice va k vc]) (by simp [results, Try.results181, go_sem, r0, r1, r2]) rfl ⟨va, vc, ys, rfl, Lib.hid ?_, Lib.hid OW.out.2.2, HBF.out _ _ _⟩
      have h1 := owns_touch5 OW.out.1 (HTF.out (.int .i64 r) (.int .i64 c) (.slice va k vc)) (by omega)
      obtain ⟨a', c', e, h2⟩ := RepF.of_owns h1 (fun y hy => by
        obtain ⟨i, hi, rfl⟩ := List.getElem_of_mem hy
        have := (OW.out.2.2 i hi).2
        rwa [List.getD_eq_getElem?_getD, List.getElem?_eq_getElem hi] at this)
      cases e
      exact h2.bounds (by omega) (Nat.le_refl _)
end Go.Proofs.Ytmkfcaahdmdpaaa
/- What ReluTensor does. No condition. -/
namespace Go.Proofs.Ytmkfcaahdmdpaaa
open Go Go.RowKit
set_option linter.unusedVariables false
set_option linter.unusedSimpArgs false
/-- a number that is greater than 0 or none, and +0 for all others -/
def reluW (x : Nat) : Nat := if (FloatKind.f32.format.order x 0 == some .gt || isN .f32 x) = true then x else 0
theorem impl_relu (x : Nat) (w : World) : Calls Try.prog 183 #[.float .f32 x] w fun e w' => e = .returned (.float .f32 (reluW x)) ∧ w = w' := by
  have hs := order_self .f32 x
  unfold reluW
  cases h1 : (FloatKind.f32.format.order x 0 == some .gt)
  · cases h2 : isN .f32 x
    · rw [h2, if_neg (by decide)] at hs
      rw [if_neg (by decide)]
      have hs2 : (FloatKind.f32.format.order x x != some .eq) = false := by rw [hs]; rfl
      clear h2
      go_enter Try.func183, Try.ntmps183
      go_wp2
      go_ret
      exact ⟨rfl, rfl⟩
    · rw [h2, if_pos rfl] at hs
      rw [if_pos (by decide)]
      have hs2 : (FloatKind.f32.format.order x x != some .eq) = true := by rw [hs]; rfl
      clear h2
      go_enter Try.func183, Try.ntmps183
      go_wp2
      go_ret
      exact ⟨rfl, rfl⟩
  · rw [Bool.true_or, if_pos rfl]
    clear hs
    go_enter Try.func183, Try.ntmps183
    go_wp2
    go_ret
    exact ⟨rfl, rfl⟩
theorem reluW_lt {x : Nat} (h : x < 4294967296) : reluW x < 4294967296 := by unfold reluW; split <;> omega
theorem impl_reluTensor1 (i x : Nat) (w : World) : Calls Try.prog 182 #[.int .i64 i, .float .f32 x] w fun e w' => e = .returned (.float .f32 (reluW x)) ∧ w = w' := by
  have K := Lib.hid (fun W => impl_relu x W)
  go_enter Try.func182, Try.ntmps182
  go_wp2_with fail
  refine (K.out _).mono ?_
  rintro e w1 ⟨rfl, rfl⟩
  go_wp2
  go_ret
  exact ⟨rfl, rfl⟩
set_option maxHeartbeats 2000000 in
theorem impl_reluTensor (w : World) (r c : Nat) (ad : Option Addr) (cap : Nat) (xs : List Nat) (h : F32s w ad cap xs) (hl : xs.length ≤ 256) :
    Calls Try.prog 113 #[.agg #[.int .i64 r, .int .i64 c, .slice ad xs.length cap]] w fun e w' => ∃ ad' cap' ys, e = .returned (.agg #[.int .i64 r, .int .i64 c, .slice ad' xs.length cap']) ∧ Hid (RepF w' w.heap.size w'.heap.size ad' xs.length cap' ys) ∧ Hid (Made (fun _ x y => y = reluW x) xs ys) ∧ Below w.heap.size w w' := by
  have K := Lib.hid (fun W (hW : F32s W ad cap xs) => ten_mapped W r c ad cap xs hW hl 182 #[] (fun _ x y => y = reluW x) (fun args W => by kernel_rfl) (fun W' i x hb hi hx => (impl_reluTensor1 i x W').mono fun e w' ⟨he, hw⟩ => ⟨reluW x, he, Lib.hid ⟨rfl, reluW_lt (by rw [hx]; exact h.lt _ (mem_getD hi))⟩, by rw [← hw]; exact Below.refl _ _⟩))
  have hs1 := below2 w (.cells #[.int .i64 r, .int .i64 c, .slice ad xs.length cap] 27) (.cells #[.int .i64 0, .int .i64 0, .slice none 0 0] 27)
  have RB := Lib.hid (Box3.alloc2 w (.cells #[.int .i64 r, .int .i64 c, .slice ad xs.length cap] 27) (.int .i64 0) (.int .i64 0) (.slice none 0 0) 27)
  have B := Lib.hid hs1
  have H := Lib.hid (h.below hs1)
  obtain ⟨n, hn⟩ : ∃ n, n = xs.length := ⟨_, rfl⟩
  rw [← hn] at K RB B H ⊢
  clear hs1 h hn hl
  go_enter Try.func113, Try.ntmps113
  go_wp2_with fail
  refine (K.out _ H.out).mono ?_
  rintro e w' ⟨va, vc, ys, rfl, RO, RM, hb⟩
  obtain ⟨r5, r0, r1, r2, rf⟩ := RB.out.below hb
  have hbw := bthen B.out hb
  have hz := hb.size
  simp at hz
  have hbf : ∀ a b d : Value, Below w.heap.size w (((w'.setCell ⟨w.heap.size + 1, 0, none⟩ a).setCell ⟨w.heap.size + 1, 1, none⟩ b).setCell ⟨w.heap.size + 1, 2, none⟩ d) := fun a b d =>
    Below.setCell (p := ⟨w.heap.size + 1, 2, none⟩) (Below.setCell (p := ⟨w.heap.size + 1, 1, none⟩) (Below.setCell (p := ⟨w.heap.size + 1, 0, none⟩) hbw (by show w.heap.size ≤ w.heap.size + 1; omega) a) (by show w.heap.size ≤ w.heap.size + 1; omega) b) (by show w.heap.size ≤ w.heap.size + 1; omega) d
  have htf : ∀ a b d : Value, Touch (w.heap.size + 1) (w.heap.size + 2) w' (((w'.setCell ⟨w.heap.size + 1, 0, none⟩ a).setCell ⟨w.heap.size + 1, 1, none⟩ b).setCell ⟨w.heap.size + 1, 2, none⟩ d) := fun a b d =>
    ((Touch.setCell (Nat.le_refl _) (by omega)).trans (Touch.setCell (Nat.le_refl _) (by omega))).trans (Touch.setCell (Nat.le_refl _) (by omega))
  have HBF := Lib.hid hbf; have HTF := Lib.hid htf
  clear hbf htf hbw hb
  go_wp2
  try simp only [Exit.inBlock, Exit.then]
  refine bodyPost_ret (v := .agg #[.int .i64 r, .int .i64 c, .slice va n vc]) (by simp [results, Try.results113, go_sem, r0, r1, r2]) rfl ⟨va, vc, ys, rfl, Lib.hid ?_, RM, HBF.out _ _ _⟩
  have h1 := RO.out.touch (HTF.out (.int .i64 r) (.int .i64 c) (.slice va n vc)) (.inr (by simp))
  exact h1.bounds (by simp; omega) (by simp [World.setCell])
end Go.Proofs.Ytmkfcaahdmdpaaa
/- What ScaleTensor does. No condition. -/
namespace Go.Proofs.Ytmkfcaahdmdpaaa
open Go Go.RowKit
set_option linter.unusedVariables false
set_option linter.unusedSimpArgs false
theorem impl_scaleTensor1 (i x z g : Nat) (w : World) (hz : w.cell? ⟨g, 0, none⟩ = some (.float .f32 z)) : Calls Try.prog 185 (#[.int .i64 i, .float .f32 x] ++ #[.pointer (some ⟨g, 0, none⟩)]) w fun e w' => ∃ y, e = .returned (.float .f32 y) ∧ Hid (cn .f32 y = fop .mul .f32 (cn .f32 x) (cn .f32 z) ∧ y < 4294967296) ∧ Dr w w' := by
  show Calls Try.prog 185 #[.int .i64 i, .float .f32 x, .pointer (some ⟨g, 0, none⟩)] w _
  go_enter Try.func185, Try.ntmps185
  go_wp2
  go_ret
  exact ⟨_, rfl, Lib.hid ⟨cn_fbits _ _ _ _ _, fbits_lt _ .f32 _ _ _⟩, (Dr.refl _).drewN _⟩
set_option maxHeartbeats 2000000 in
theorem impl_scaleTensor (w : World) (r c : Nat) (ad : Option Addr) (cap : Nat) (xs : List Nat) (h : F32s w ad cap xs) (hl : xs.length ≤ 256) (z : Nat) :
    Calls Try.prog 115 #[.agg #[.int .i64 r, .int .i64 c, .slice ad xs.length cap], .float .f32 z] w fun e w' => ∃ ad' cap' ys, e = .returned (.agg #[.int .i64 r, .int .i64 c, .slice ad' xs.length cap']) ∧ Hid (RepF w' w.heap.size w'.heap.size ad' xs.length cap' ys) ∧ Hid (Made (fun _ x y => cn .f32 y = fop .mul .f32 (cn .f32 x) (cn .f32 z)) xs ys) ∧ Below w.heap.size w w' := by
  have K := Lib.hid (fun W (hW : F32s W ad cap xs) (hz : W.cell? ⟨w.heap.size + 1, 0, none⟩ = some (.float .f32 z)) (hzl : w.heap.size + 1 < W.heap.size) => ten_mapped W r c ad cap xs hW hl 185 #[.pointer (some ⟨w.heap.size + 1, 0, none⟩)] (fun _ x y => cn .f32 y = fop .mul .f32 (cn .f32 x) (cn .f32 z)) (fun args W => by kernel_rfl) (fun W' i x hb hi hx => (impl_scaleTensor1 i x z (w.heap.size + 1) W' ((hb.cell (p := ⟨w.heap.size + 1, 0, none⟩) hzl).trans hz)).mono fun e w' ⟨y, he, hy, hd⟩ => ⟨y, he, hy, hd.below⟩))
  have hs1 := below3 w (.cells #[.int .i64 r, .int .i64 c, .slice ad xs.length cap] 27) (.cells #[.float .f32 z] 33) (.cells #[.int .i64 0, .int .i64 0, .slice none 0 0] 27)
  have RB := Lib.hid (Box3.alloc2 (w.alloc (.cells #[.int .i64 r, .int .i64 c, .slice ad xs.length cap] 27)) (.cells #[.float .f32 z] 33) (.int .i64 0) (.int .i64 0) (.slice none 0 0) 27)
  rw [show (w.alloc (.cells #[.int .i64 r, .int .i64 c, .slice ad xs.length cap] 27)).heap.size = w.heap.size + 1 by simp] at RB
  have B := Lib.hid hs1
  have H := Lib.hid (h.below hs1)
  obtain ⟨n, hn⟩ : ∃ n, n = xs.length := ⟨_, rfl⟩
  rw [← hn] at K RB B H ⊢
  clear hs1 h hn hl
  go_enter Try.func115, Try.ntmps115
  go_wp2_with fail
  refine (K.out _ H.out (by go_simp) (by simp)).mono ?_
  rintro e w' ⟨va, vc, ys, rfl, RO, RM, hb⟩
  obtain ⟨r5, r0, r1, r2, rf⟩ := RB.out.below hb
  have hbw := bthen B.out hb
  have hz := hb.size
  simp at hz
  have hbf : ∀ a b d : Value, Below w.heap.size w (((w'.setCell ⟨w.heap.size + 1 + 1, 0, none⟩ a).setCell ⟨w.heap.size + 1 + 1, 1, none⟩ b).setCell ⟨w.heap.size + 1 + 1, 2, none⟩ d) := fun a b d =>
    Below.setCell (p := ⟨w.heap.size + 1 + 1, 2, none⟩) (Below.setCell (p := ⟨w.heap.size + 1 + 1, 1, none⟩) (Below.setCell (p := ⟨w.heap.size + 1 + 1, 0, none⟩) hbw (by show w.heap.size ≤ w.heap.size + 1 + 1; omega) a) (by show w.heap.size ≤ w.heap.size + 1 + 1; omega) b) (by show w.heap.size ≤ w.heap.size + 1 + 1; omega) d
  have htf : ∀ a b d : Value, Touch (w.heap.size + 1 + 1) (w.heap.size + 3) w' (((w'.setCell ⟨w.heap.size + 1 + 1, 0, none⟩ a).setCell ⟨w.heap.size + 1 + 1, 1, none⟩ b).setCell ⟨w.heap.size + 1 + 1, 2, none⟩ d) := fun a b d =>
    ((Touch.setCell (Nat.le_refl _) (by omega)).trans (Touch.setCell (Nat.le_refl _) (by omega))).trans (Touch.setCell (Nat.le_refl _) (by omega))
  have HBF := Lib.hid hbf; have HTF := Lib.hid htf
  clear hbf htf hbw hb
  go_wp2
  try simp only [Exit.inBlock, Exit.then]
  refine bodyPost_ret (v := .agg #[.int .i64 r, .int .i64 c, .slice va n vc]) (by simp [results, Try.results115, go_sem, r0, r1, r2]) rfl ⟨va, vc, ys, rfl, Lib.hid ?_, RM, HBF.out _ _ _⟩
  have h1 := RO.out.touch (HTF.out (.int .i64 r) (.int .i64 c) (.slice va n vc)) (.inr (by simp))
  exact h1.bounds (by simp; omega) (by simp [World.setCell])
end Go.Proofs.Ytmkfcaahdmdpaaa
/- A tensor that a loop builds. No condition. -/
namespace Go.Proofs.Ytmkfcaahdmdpaaa
open Go Go.RowKit
set_option linter.unusedVariables false
set_option linter.unusedSimpArgs false
/-- a tensor that is given: its numbers, NaNs made one -/
def TenPost (r c : Int) (n : Nat) (P : List Nat) (w : World) (e : Ending) (w' : World) : Prop := ∃ ad cap zs, e = .returned (.agg #[.int .i64 r, .int .i64 c, .slice ad n cap]) ∧ Hid (RepF w' w.heap.size w'.heap.size ad n cap zs) ∧ Hid (zs.map (cn .f32) = P) ∧ Below w.heap.size w w'
def tRow (va : Option Addr) (k vc : Nat) (ys : List Nat) : RowD := ⟨33, 1, va, k, vc, ys.map (Value.float .f32)⟩
def bRow (g : Nat) (cs : List Value) : RowD := ⟨27, 3, some ⟨g, 0, none⟩, 1, 1, cs⟩
/-- a tensor under way: its numbers, its own box, the result's box -/
structure Bld (w0 : World) (wt : World) (rb ob : Nat) (r c : Int) (va : Option Addr) (k vc : Nat) (ys : List Nat) : Prop where
  own : Own wt w0.heap.size wt.heap.size [tRow va k vc ys, bRow ob [.int .i64 r, .int .i64 c, .slice va k vc], bRow rb [.int .i64 0, .int .i64 0, .slice none 0 0]]
  len : ys.length = k
  ok : okF ys
  below : Below w0.heap.size w0 wt
section
variable {w0 wt : World} {rb ob : Nat} {r c : Int} {va : Option Addr} {k vc : Nat} {ys : List Nat}
theorem Bld.move (h : Bld w0 wt rb ob r c va k vc ys) {W : World} (hb : Below wt.heap.size wt W) : Bld w0 W rb ob r c va k vc ys :=
  ⟨(h.own.below hb).bounds (Nat.le_refl _) hb.size, h.len, h.ok, h.below.trans (hb.mono h.below.size)⟩
theorem Bld.out (h : Bld w0 wt rb ob r c va k vc ys) : BoxN wt ob [.int .i64 r, .int .i64 c, .slice va k vc] := by
  obtain ⟨_, hl, hc, hf⟩ := h.own.cell (List.mem_cons_of_mem _ (List.mem_cons_self ..))
  exact ⟨hl.2.2, hc, hf⟩
theorem Bld.res (h : Bld w0 wt rb ob r c va k vc ys) : BoxN wt rb [.int .i64 0, .int .i64 0, .slice none 0 0] := by
  obtain ⟨_, hl, hc, hf⟩ := h.own.cell (List.mem_cons_of_mem _ (List.mem_cons_of_mem _ (List.mem_cons_self ..)))
  exact ⟨hl.2.2, hc, hf⟩
theorem Bld.row (h : Bld w0 wt rb ob r c va k vc ys) : wt.ownsRow w0.heap.size 33 1 (.slice va k vc) k (ys.map (Value.float .f32)) := h.own.head.own
theorem Bld.apart (h : Bld w0 wt rb ob r c va k vc ys) : (Value.slice va k vc).ownBlock ≠ some ob := by
  intro e
  exact h.own.apart (List.mem_cons_self ..) ob e rfl
/-- one more number -/
theorem Bld.push (h : Bld w0 wt rb ob r c va k vc ys) {W w9 : World} {x : Nat} {v' : Value} {o : Obj} (hx : x < 4294967296) (hb : Below wt.heap.size wt W) (ho : w9.ownsRow w0.heap.size 33 1 v' (k + 1) (ys.map (Value.float .f32) ++ [.float .f32 x]))
    (hg : (W.alloc o).grownBy w9 (Value.slice va k vc).ownBlock) (hat : v'.ownBlock = (Value.slice va k vc).ownBlock ∨ v'.ownBlock = some (W.heap.size + 1)) :
    ∃ va' vc', v' = .slice va' (k + 1) vc' ∧ w9.cell? ⟨ob, 2, none⟩ = some (.slice va k vc) ∧ w9.frozen? ⟨ob, 2, none⟩ = false ∧ Below w0.heap.size w0 w9 ∧ Bld w0 (w9.setCell ⟨ob, 2, none⟩ (.slice va' (k + 1) vc')) rb ob r c va' (k + 1) vc' (ys ++ [x]) := by
  obtain ⟨va', vc', rfl, _⟩ := Rd.of_owns ho
  have h1 := (h.own.below hb).below (below1 W o)
  have hs := hg.size
  have hbs := hb.size
  simp at hs
  have hB := h.below.size
  have hbel : Below w0.heap.size w0 w9 := by
    refine Below.grown ((h.below.trans (hb.mono hB)).alloc (by omega) o) hg (by simp; omega) (fun j e => (h.row.lt j e).1)
  have h2 := h1.grown (w' := w9) (hi' := w9.heap.size) (y := tRow va' (k + 1) vc' (ys ++ [x])) hg (by
    refine Row.mk' ?_
    show w9.ownsRow w0.heap.size 33 1 (.slice va' (k + 1) vc') (k + 1) ((ys ++ [x]).map (Value.float .f32))
    rw [List.map_append]; exact ho) (fun g e => by
      rcases hat with e1 | e1
      · exact .inl (e1.symm.trans e)
      · right
        have e2 : some g = some (W.heap.size + 1) := e.symm.trans e1
        cases e2
        omega) (by omega)
  have hbl := h.out.lt
  have hcell : w9.cell? ⟨ob, 2, none⟩ = some (.slice va k vc) := by
    rw [hg.cell_far ⟨ob, 2, none⟩ (by simp; omega) (Ne.symm h.apart), World.cell?_alloc_lt _ _ _ (show ob < W.heap.size by omega)]
    exact ((h.move hb).out).three.2.2.2.1
  have hfz : w9.frozen? ⟨ob, 2, none⟩ = false := by
    rw [hg.frozen_far ⟨ob, 2, none⟩ (by simp; omega) (Ne.symm h.apart)]
    exact ((h.move hb).out.below (below1 W o)).fz 2
  refine ⟨va', vc', rfl, hcell, hfz, hbel, ?_⟩
  have p1 : [tRow va' (k + 1) vc' (ys ++ [x]), bRow ob [.int .i64 r, .int .i64 c, .slice va k vc], bRow rb [.int .i64 0, .int .i64 0, .slice none 0 0]].Perm [bRow ob [.int .i64 r, .int .i64 c, .slice va k vc], tRow va' (k + 1) vc' (ys ++ [x]), bRow rb [.int .i64 0, .int .i64 0, .slice none 0 0]] := List.Perm.swap _ _ _
  have h3 := (h2.perm p1).store 2 (.slice va' (k + 1) vc')
  have h4 := h3.perm (M := [tRow va' (k + 1) vc' (ys ++ [x]), bRow ob [.int .i64 r, .int .i64 c, .slice va' (k + 1) vc'], bRow rb [.int .i64 0, .int .i64 0, .slice none 0 0]]) (List.Perm.swap _ _ _)
  refine ⟨h4.bounds (Nat.le_refl _) (by simp [World.setCell]), by simp [h.len], fun y hy => ?_, hbel.setCell (p := ⟨ob, 2, none⟩) ?_ _⟩
  · rcases List.mem_append.1 hy with hy | hy
    · exact h.ok y hy
    · simp at hy; subst hy; exact hx
  · exact (h.own.cell (List.mem_cons_of_mem _ (List.mem_cons_self ..))).2.1.1
/-- the end: the tensor is laid into the result's box -/
theorem Bld.fin (h : Bld w0 wt rb ob r c va k vc ys) : RepF (setCs wt rb 0 [.int .i64 r, .int .i64 c, .slice va k vc]) w0.heap.size (setCs wt rb 0 [.int .i64 r, .int .i64 c, .slice va k vc]).heap.size va k vc ys ∧ Below w0.heap.size w0 (setCs wt rb 0 [.int .i64 r, .int .i64 c, .slice va k vc]) := by
  have hl := h.len
  subst hl
  have p1 : [tRow va ys.length vc ys, bRow ob [.int .i64 r, .int .i64 c, .slice va ys.length vc], bRow rb [.int .i64 0, .int .i64 0, .slice none 0 0]].Perm [bRow rb [.int .i64 0, .int .i64 0, .slice none 0 0], tRow va ys.length vc ys, bRow ob [.int .i64 r, .int .i64 c, .slice va ys.length vc]] :=
    (List.perm_append_comm (l₁ := [tRow va ys.length vc ys, bRow ob [.int .i64 r, .int .i64 c, .slice va ys.length vc]]) (l₂ := [bRow rb [.int .i64 0, .int .i64 0, .slice none 0 0]]))
  have h1 := setCs_own (h.own.perm p1) 0 [.int .i64 r, .int .i64 c, .slice va ys.length vc]
  have hrb := (h.own.cell (List.mem_cons_of_mem _ (List.mem_cons_of_mem _ (List.mem_cons_self ..)))).2.1.1
  refine ⟨(h1.repF (List.mem_cons_of_mem _ (List.mem_cons_self ..)) h.ok).bounds (Nat.le_refl _) (by rw [setCs_size]; exact Nat.le_refl _), setCs_below h.below hrb 0 _⟩
end
theorem Bld.start1 (w : World) (r c : Int) : Bld w (((w.alloc (.cells #[.int .i64 0, .int .i64 0, .slice none 0 0] 27)).alloc (.cells #[] 33)).alloc (.cells #[.int .i64 r, .int .i64 c, .slice (some ⟨w.heap.size + 1, 0, none⟩) 0 0] 27)) w.heap.size (w.heap.size + 1 + 1) r c (some ⟨w.heap.size + 1, 0, none⟩) 0 0 [] := by
  refine ⟨?_, rfl, fun x hx => (nomatch hx), below3 w _ _ _⟩
  have h1 := (Own.nil w w.heap.size w.heap.size).alloc (Nat.le_refl _) (Nat.le_refl _) #[.int .i64 0, .int .i64 0, .slice none 0 0] 27
  have h := World.ownsRow_made (base := w.heap.size) (e := 33) (size := 1) (w.alloc (.cells #[.int .i64 0, .int .i64 0, .slice none 0 0] 27)) #[] 0 (by simp) (Nat.zero_le _) rfl
  have e1 : (w.alloc (.cells #[.int .i64 0, .int .i64 0, .slice none 0 0] 27)).heap.size = w.heap.size + 1 := by simp
  rw [e1] at h
  have h2 : Own ((w.alloc (.cells #[.int .i64 0, .int .i64 0, .slice none 0 0] 27)).alloc (.cells #[] 33)) w.heap.size (w.heap.size + 1 + 1) [tRow (some ⟨w.heap.size + 1, 0, none⟩) 0 0 [], bRow w.heap.size [.int .i64 0, .int .i64 0, .slice none 0 0]] := by
    refine Own.cons ⟨h, fun g e => ?_⟩ ((h1.below (below1 _ _)).bounds (Nat.le_refl _) (Nat.le_succ _)) fun y hy g e1 e2 => ?_
    · cases e; show w.heap.size + 1 < w.heap.size + 1 + 1; omega
    · simp at hy; subst hy
      cases e1
      have e3 : w.heap.size = w.heap.size + 1 := by injection e2
      omega
  have h3 := h2.alloc (by simp; omega) (by simp) #[.int .i64 r, .int .i64 c, .slice (some ⟨w.heap.size + 1, 0, none⟩) 0 0] 27
  have e2 : ((w.alloc (.cells #[.int .i64 0, .int .i64 0, .slice none 0 0] 27)).alloc (.cells #[] 33)).heap.size = w.heap.size + 1 + 1 := by simp
  rw [e2] at h3
  exact (h3.perm (List.Perm.swap _ _ _)).bounds (Nat.le_refl _) (by simp)
theorem Bld.start2 (w : World) (r c : Int) : Bld w (((w.alloc (.cells #[.int .i64 0, .int .i64 0, .slice none 0 0] 27)).alloc (.cells #[.int .i64 r, .int .i64 c, .slice (some ⟨w.heap.size + 1 + 1, 0, none⟩) 0 0] 27)).alloc (.cells #[] 33)) w.heap.size (w.heap.size + 1) r c (some ⟨w.heap.size + 1 + 1, 0, none⟩) 0 0 [] := by
  refine ⟨?_, rfl, fun x hx => (nomatch hx), below3 w _ _ _⟩
  have h1 := (Own.nil w w.heap.size w.heap.size).alloc (Nat.le_refl _) (Nat.le_refl _) #[.int .i64 0, .int .i64 0, .slice none 0 0] 27
  have h2 := h1.alloc (by simp) (by simp) #[.int .i64 r, .int .i64 c, .slice (some ⟨w.heap.size + 1 + 1, 0, none⟩) 0 0] 27
  have h := World.ownsRow_made (base := w.heap.size) (e := 33) (size := 1) ((w.alloc (.cells #[.int .i64 0, .int .i64 0, .slice none 0 0] 27)).alloc (.cells #[.int .i64 r, .int .i64 c, .slice (some ⟨w.heap.size + 1 + 1, 0, none⟩) 0 0] 27)) #[] 0 (by simp; omega) (Nat.zero_le _) rfl
  have e1 : ((w.alloc (.cells #[.int .i64 0, .int .i64 0, .slice none 0 0] 27)).alloc (.cells #[.int .i64 r, .int .i64 c, .slice (some ⟨w.heap.size + 1 + 1, 0, none⟩) 0 0] 27)).heap.size = w.heap.size + 1 + 1 := by simp
  have e0 : (w.alloc (.cells #[.int .i64 0, .int .i64 0, .slice none 0 0] 27)).heap.size = w.heap.size + 1 := by simp
  rw [e1] at h
  rw [e0] at h2
  refine (Own.cons (x := tRow (some ⟨w.heap.size + 1 + 1, 0, none⟩) 0 0 []) ⟨h, fun g e => ?_⟩ ((h2.below (below1 _ _)).bounds (Nat.le_refl _) (Nat.le_succ _)) fun y hy g e1 e2 => ?_).bounds (Nat.le_refl _) (by simp)
  · cases e; show w.heap.size + 1 + 1 < w.heap.size + 1 + 1 + 1; omega
  · simp at hy
    cases e1
    rcases hy with rfl | rfl
    · have e3 : w.heap.size + 1 = w.heap.size + 1 + 1 := by injection e2
      omega
    · have e3 : w.heap.size = w.heap.size + 1 + 1 := by injection e2
      omega
end Go.Proofs.Ytmkfcaahdmdpaaa
/- Sums of tensors: the reference. No condition. -/
namespace Go.Proofs.Ytmkfcaahdmdpaaa
open Go Go.RowKit
set_option linter.unusedVariables false
set_option linter.unusedSimpArgs false
def tenE (op : BinOp) (X Y : List Nat) (n : Nat) : List Nat := listOf n fun i => fop op .f32 (X.getD i 0) (Y.getD i 0)
theorem map_push {zs : List Nat} {k : Nat} {f : Nat → Nat} {z : Nat} (h : zs.map (cn .f32) = listOf k f) (hz : cn .f32 z = f k) : (zs ++ [z]).map (cn .f32) = listOf (k + 1) f := by
  rw [List.map_append, h, listOf_succ, List.map_cons, List.map_nil, hz]
set_option maxHeartbeats 8000000 in
set_option maxRecDepth 100000 in
theorem spec_l02Add (w : World) (g1 o1 g2 o2 : Nat) (r c : Int) (a1 a2 : Option Addr) (c1 c2 n : Nat) (xs ys : List Nat) (p0 : w.cell? ⟨g1, o1, none⟩ = some (.int .i64 r)) (p1 : w.cell? ⟨g1, o1 + 1, none⟩ = some (.int .i64 c)) (p2 : w.cell? ⟨g1, o1 + 2, none⟩ = some (.slice a1 n c1)) (q2 : w.cell? ⟨g2, o2 + 2, none⟩ = some (.slice a2 n c2))
    (hx : F32s w a1 c1 xs) (hy : F32s w a2 c2 ys) (hxl : xs.length = n) (hyl : ys.length = n) (hn : n ≤ 256) :
    Calls Try.prog 221 #[.pointer (some ⟨g1, o1, none⟩), .pointer (some ⟨g2, o2, none⟩)] w (TenPost r c n (tenE .add (xs.map (cn .f32)) (ys.map (cn .f32)) n) w) := by
  obtain ⟨i0, hi0, hz0, hzs, hz2⟩ := info_parts info_f32
  have HX := Lib.hid hx; have HY := Lib.hid hy; have HXL := Lib.hid hxl; have HYL := Lib.hid hyl
  clear hx hy hxl hyl
  have hg1 := World.block_lt_of_cell? w _ p0
  have hg2 := World.block_lt_of_cell? w _ q2
  simp only at hg1 hg2
  go_enter Try.func221, Try.ntmps221
  go_upto_region 1 with fail
  obtain ⟨W0, hW0⟩ : ∃ W, W = w.alloc (.cells #[.int .i64 0, .int .i64 0, .slice none 0 0] 27) := ⟨_, rfl⟩
  have k0 : W0.cell? ⟨g1, o1, none⟩ = some (.int .i64 r) := by rw [hW0]; go_simp
  have k1 : W0.cell? ⟨g1, o1 + 1, none⟩ = some (.int .i64 c) := by rw [hW0]; go_simp
  have HW0 := Lib.hid hW0
  have hs0 : W0.heap.size = w.heap.size + 1 := by rw [hW0]; simp
  rw [← hW0]
  have HP := Lib.hid (And.intro p0 (And.intro p1 (And.intro p2 q2)))
  clear hW0 p0 p1 p2 q2
  go_cut [5] (fun p5 wx => ∃ ob va vc, p5 = .pointer (some ⟨ob, 0, none⟩) ∧ Hid (Bld w wx w.heap.size ob r c va 0 vc []))
  case first =>
    go_region_held3 (fun w' => w'.cell? ⟨g1, o1, none⟩ = some (.int .i64 r) ∧ w'.cell? ⟨g1, o1 + 1, none⟩ = some (.int .i64 c)) (go_keep) (first | fail)
    all_goals (try go_wp2_with fail)
    all_goals go_meet
    · exact ⟨_, _, _, rfl, Lib.hid (by rw [HW0.out]; exact (Bld.start1 w r c).move (Below.drew (Below.refl _ _)))⟩
    · exact ⟨_, _, _, rfl, Lib.hid (by rw [HW0.out]; exact (Bld.start2 w r c).move (Below.drew (Below.refl _ _)))⟩
  case rest =>
    obtain ⟨ob, va, vc, rfl, HB⟩ := hcut
    clear k0 k1 HW0 hs0
    go_wp2
    go_loopw [6] (fun i wt => ∃ k : Nat, i = .int .i64 k ∧ k ≤ n ∧ ∃ va vc zs, Hid (Bld w wt w.heap.size ob r c va k vc zs) ∧ Hid (zs.map (cn .f32) = tenE .add (xs.map (cn .f32)) (ys.map (cn .f32)) k)) (fun i _ => n - (intOf i).toNat)
    case atStart => exact ⟨0, rfl, Nat.zero_le _, va, vc, [], HB, Lib.hid rfl⟩
    case round =>
      clear HB
      obtain ⟨k, rfl, hk, va, vc, zs, HB, HZ⟩ := hrel
      have hbb := HB.out.below
      have hP := HP.out
      have r2 : wr.cell? ⟨g1, o1 + 2, none⟩ = some (.slice a1 n c1) := (hbb.cell (p := ⟨g1, o1 + 2, none⟩) hg1).trans hP.2.2.1
      have s2 : wr.cell? ⟨g2, o2 + 2, none⟩ = some (.slice a2 n c2) := (hbb.cell (p := ⟨g2, o2 + 2, none⟩) hg2).trans hP.2.2.2
      by_cases hlt : k < n
      · obtain ⟨b1, f1, rfl, hl1, hc1⟩ := HX.out.spot (k := k) (by rw [HXL.out]; exact hlt)
        obtain ⟨b2, f2, rfl, hl2, hc2⟩ := HY.out.spot (k := k) (by rw [HYL.out]; exact hlt)
        have d1 := hc1 k (by rw [HXL.out]; exact hlt)
        have d2 := hc2 k (by rw [HYL.out]; exact hlt)
        have hx2 := cn_getD xs k
        have hy2 := cn_getD ys k
        obtain ⟨x, hx⟩ : ∃ x, x = xs.getD k 0 := ⟨_, rfl⟩
        obtain ⟨y, hy⟩ : ∃ y, y = ys.getD k 0 := ⟨_, rfl⟩
        rw [← hx] at d1 hx2
        rw [← hy] at d2 hy2
        have KS : Hid (∀ W, Below w.heap.size w W → W.cell? ⟨ob, 2, none⟩ = some (.slice va k vc) → W.cell? ⟨g1, o1 + 2, none⟩ = some (.slice (some ⟨b1, f1, none⟩) n c1) ∧ W.cell? ⟨g2, o2 + 2, none⟩ = some (.slice (some ⟨b2, f2, none⟩) n c2) ∧ W.cell? ⟨b1, f1 + k, none⟩ = some (.float .f32 x) ∧ W.cell? ⟨b2, f2 + k, none⟩ = some (.float .f32 y) ∧ W.cell? ⟨ob, 2, none⟩ = some (.slice va k vc)) := Lib.hid (fun W hb ho => ⟨(hb.cell (p := ⟨g1, o1 + 2, none⟩) hg1).trans hP.2.2.1, (hb.cell (p := ⟨g2, o2 + 2, none⟩) hg2).trans hP.2.2.2, (hb.cell (p := ⟨b1, f1 + k, none⟩) hl1).trans d1, (hb.cell (p := ⟨b2, f2 + k, none⟩) hl2).trans d2, ho⟩)
        have HXY := Lib.hid (And.intro hx2 hy2)
        have HS := Lib.hid (KS.out wr HB.out.below HB.out.out.three.2.2.2.1)
        clear hc1 hc2 hx hy d1 d2 hx2 hy2 hbb hP
        go_upto_region 5 with fail
        clear r2 s2
        refine wp_region_mix 20 [17, 18] (fun W => W.cell? ⟨g1, o1 + 2, none⟩ = some (.slice (some ⟨b1, f1, none⟩) n c1) ∧ W.cell? ⟨g2, o2 + 2, none⟩ = some (.slice (some ⟨b2, f2, none⟩) n c2) ∧ W.cell? ⟨b1, f1 + k, none⟩ = some (.float .f32 x) ∧ W.cell? ⟨b2, f2 + k, none⟩ = some (.float .f32 y) ∧ W.cell? ⟨ob, 2, none⟩ = some (.slice va k vc)) (fun _ _ _ => False) (fun _ _ _ _ _ => False) (by kernel_rfl) (by kernel_rfl) HS.out (fun W q h => by simpa using h) ?_
        iterate 16 (refine mwalk_plain (by rfl) HS.out (fun K hK W hW => ?_); obtain ⟨e1, e2, e3, e4, e5⟩ := hW; go_simp; refine hK _ ?_; clear hK K e1 e2 e3 e4 e5)
        refine mwalk_plain (by rfl) HS.out (fun K hK W hW => ?_)
        go_simp
        have hz := cn_fbits .add .f32 x y W
        have hzl := fbits_lt .add .f32 x y W
        generalize fbits .add .f32 x y W = z at hz hzl ⊢
        refine hK _ ?_
        have HZ2 := Lib.hid hz; have HZL := Lib.hid hzl
        clear hK K hW hz hzl
        refine mwalk_spec (by rfl) HS.out (fun K hK q => ?_)
        have hbq := below_drewN (Below.refl wr.heap.size wr) q
        go_simp
        have hbA : Below wr.heap.size wr ((wr.drewN q).alloc (.cells #[.float .f32 z] 33)) := hbq.alloc (by simp) _
        have hs1 := KS.out _ ((HB.out.below.trans (hbA.mono HB.out.below.size))) ((HB.out.move hbA).out.three.2.2.2.1)
        have HBA := Lib.hid hbA; have HS1 := Lib.hid hs1
        refine ⟨hs1, hK _ _ ?_⟩
        clear hK K hbq hbA hs1
        refine mwalk_spec (by rfl) HS1.out (fun K hK q2 => ?_)
        refine specRes_append rfl _ _ 25 rfl w.heap.size 33 i0 _ 1 4 Try.underlying25 hi0 hz0 hzs hz2 rfl (by decide) (.slice va k vc) k (zs.map (Value.float .f32)) rfl (HB.out.move (below_drewN HBA.out q2)).row ⟨wr.heap.size, 0, none⟩ 1 1 [.float .f32 z] rfl rfl (World.news_of_block (cs := #[.float .f32 z]) (t := 33) (fr := (0, 0)) (heap_alloc_new (wr.drewN q) _)) (by simp [Value.oneCell']) (by unfold maxLen; omega) (by omega) (Nat.le_trans HB.out.below.size (Nat.le_trans HBA.out.size (Nat.le_refl _))) ?_
        intro v' w9 ho9 hg9 hat9 hb9
        obtain ⟨va', vc', rfl, hc9, hf9, hbel9, hnew⟩ := HB.out.push (W := (wr.drewN q).drewN q2) HZL.out (below_drewN (below_drewN (Below.refl _ _) q) q2) ho9 hg9 (by simpa using hat9)
        have hs9 := KS.out w9 hbel9 hc9
        have HS9 := Lib.hid hs9; have HF9 := Lib.hid (And.intro hc9 hf9); have HN9 := Lib.hid hnew
        have HM9 := Lib.hid (map_push HZ.out (f := fun i => fop .add .f32 ((xs.map (cn .f32)).getD i 0) ((ys.map (cn .f32)).getD i 0)) (by rw [HZ2.out, HXY.out.1, HXY.out.2]))
        refine ⟨hs9, hK _ _ ?_⟩
        clear hK K ho9 hg9 hat9 hb9 hc9 hf9 hbel9 hnew hs9 HS1 HBA
        refine mwalk_plain (by rfl) HS9.out (fun K hK W hW => ?_)
        go_simp
        refine hK _ ?_
        clear hK K hW
        refine mwalk_nil (fun q3 => ?_)
        have hc9 : (w9.drewN q3).cell? ⟨ob, 2, none⟩ = some (.slice va k vc) := by simpa using HF9.out.1
        have hf9 : (w9.drewN q3).frozen? ⟨ob, 2, none⟩ = false := by simpa using HF9.out.2
        have HN := Lib.hid (HN9.out.move (below_drewN (Below.refl _ _) q3))
        clear HN9 HS9 HF9 HB HZ HS KS
        go_wp2
        go_roundw
        case rel => exact ⟨k + 1, by go_num, hlt, _, _, _, HN, HM9⟩
        case measure => simp [intOf]; omega
      · have hkn : k = n := by omega
        subst hkn
        obtain ⟨ol, t0, t1, t2, tf⟩ := HB.out.out.three
        obtain ⟨rl, u0, u1, u2, uf⟩ := HB.out.res.three
        have HFIN := Lib.hid HB.out.fin
        clear s2 hbb hP
        go_wp2
        try simp only [Exit.inBlock, Exit.then]
        refine bodyPost_ret (v := .agg #[.int .i64 r, .int .i64 c, .slice va k vc]) (by simp [results, Try.results221, go_sem, u0, u1, u2]) rfl ⟨va, vc, zs, rfl, Lib.hid HFIN.out.1, HZ, HFIN.out.2⟩
end Go.Proofs.Ytmkfcaahdmdpaaa
/- Sums and products with rows of tensors: the reference. No condition. -/
namespace Go.Proofs.Ytmkfcaahdmdpaaa
open Go Go.RowKit
set_option linter.unusedVariables false
set_option linter.unusedSimpArgs false
def rowE (op : BinOp) (X Y : List Nat) (c n : Nat) : List Nat := listOf n fun i => fop op .f32 (X.getD i 0) (Y.getD (i % c) 0)
set_option maxHeartbeats 8000000 in
set_option maxRecDepth 100000 in
theorem spec_l02AddRow (w : World) (g1 o1 : Nat) (r : Int) (c : Nat) (a1 a2 : Option Addr) (c1 c2 n : Nat) (xs ys : List Nat) (p0 : w.cell? ⟨g1, o1, none⟩ = some (.int .i64 r)) (p1 : w.cell? ⟨g1, o1 + 1, none⟩ = some (.int .i64 c)) (p2 : w.cell? ⟨g1, o1 + 2, none⟩ = some (.slice a1 n c1))
    (hx : F32s w a1 c1 xs) (hy : F32s w a2 c2 ys) (hxl : xs.length = n) (hyl : ys.length = c) (hn : n ≤ 256) (hcp : 1 ≤ c) (hcq : c ≤ 16) :
    Calls Try.prog 222 #[.pointer (some ⟨g1, o1, none⟩), .slice a2 c c2] w (TenPost r c n (rowE .add (xs.map (cn .f32)) (ys.map (cn .f32)) c n) w) := by
  obtain ⟨i0, hi0, hz0, hzs, hz2⟩ := info_parts info_f32
  have HX := Lib.hid hx; have HXL := Lib.hid hxl
  have HY := Lib.hid hy; have HYL := Lib.hid hyl
  clear hy hyl
  clear hx hxl
  have hg1 := World.block_lt_of_cell? w _ p0
  simp only at hg1
  go_enter Try.func222, Try.ntmps222
  go_upto_region 1 with fail
  obtain ⟨W0, hW0⟩ : ∃ W, W = w.alloc (.cells #[.int .i64 0, .int .i64 0, .slice none 0 0] 27) := ⟨_, rfl⟩
  have k0 : W0.cell? ⟨g1, o1, none⟩ = some (.int .i64 r) := by rw [hW0]; go_simp
  have k1 : W0.cell? ⟨g1, o1 + 1, none⟩ = some (.int .i64 c) := by rw [hW0]; go_simp
  have HW0 := Lib.hid hW0
  have hs0 : W0.heap.size = w.heap.size + 1 := by rw [hW0]; simp
  rw [← hW0]
  have HP := Lib.hid (And.intro p1 (And.intro p2 trivial))
  clear hW0 p0 p1 p2
  go_cut [5] (fun p5 wx => ∃ ob va vc, p5 = .pointer (some ⟨ob, 0, none⟩) ∧ Hid (Bld w wx w.heap.size ob r c va 0 vc []))
  case first =>
    go_region_held3 (fun w' => w'.cell? ⟨g1, o1, none⟩ = some (.int .i64 r) ∧ w'.cell? ⟨g1, o1 + 1, none⟩ = some (.int .i64 c)) (go_keep) (first | fail)
    all_goals (try go_wp2_with fail)
    all_goals go_meet
    · exact ⟨_, _, _, rfl, Lib.hid (by rw [HW0.out]; exact (Bld.start1 w r c).move (Below.drew (Below.refl _ _)))⟩
    · exact ⟨_, _, _, rfl, Lib.hid (by rw [HW0.out]; exact (Bld.start2 w r c).move (Below.drew (Below.refl _ _)))⟩
  case rest =>
    obtain ⟨ob, va, vc, rfl, HB⟩ := hcut
    clear k0 k1 HW0 hs0
    go_wp2
    go_loopw [6] (fun i wt => ∃ k : Nat, i = .int .i64 k ∧ k ≤ n ∧ ∃ va vc zs, Hid (Bld w wt w.heap.size ob r c va k vc zs) ∧ Hid (zs.map (cn .f32) = rowE .add (xs.map (cn .f32)) (ys.map (cn .f32)) c k)) (fun i _ => n - (intOf i).toNat)
    case atStart => exact ⟨0, rfl, Nat.zero_le _, va, vc, [], HB, Lib.hid rfl⟩
    case round =>
      clear HB
      obtain ⟨k, rfl, hk, va, vc, zs, HB, HZ⟩ := hrel
      have hbb := HB.out.below
      have hP := HP.out
      have r1 : wr.cell? ⟨g1, o1 + 1, none⟩ = some (.int .i64 c) := (hbb.cell (p := ⟨g1, o1 + 1, none⟩) hg1).trans hP.1
      have r2 : wr.cell? ⟨g1, o1 + 2, none⟩ = some (.slice a1 n c1) := (hbb.cell (p := ⟨g1, o1 + 2, none⟩) hg1).trans hP.2.1
      by_cases hlt : k < n
      · obtain ⟨b1, f1, rfl, hl1, hc1⟩ := HX.out.spot (k := k) (by rw [HXL.out]; exact hlt)
        have d1 := hc1 k (by rw [HXL.out]; exact hlt)
        have hx2 := cn_getD xs k
        obtain ⟨x, hx⟩ : ∃ x, x = xs.getD k 0 := ⟨_, rfl⟩
        rw [← hx] at d1 hx2
        have hjc : k % c < c := Nat.mod_lt _ hcp
        obtain ⟨b2, f2, rfl, hl2, hc2⟩ := HY.out.spot (k := k % c) (by rw [HYL.out]; exact hjc)
        have d2 := hc2 (k % c) (by rw [HYL.out]; exact hjc)
        have hy2 := cn_getD ys (k % c)
        obtain ⟨y, hy⟩ : ∃ y, y = ys.getD (k % c) 0 := ⟨_, rfl⟩
        rw [← hy] at d2 hy2
        have hm0 : (k : Int).tmod (c : Int) = ((k % c : Nat) : Int) := (Int.ofNat_tmod k c).symm
        have hc0 : ¬ c = 0 := by omega
        obtain ⟨j, hj⟩ : ∃ j, j = k % c := ⟨_, rfl⟩
        rw [← hj] at hjc d2 hm0
        have HJ := Lib.hid hj
        clear hj
        have KS : Hid (∀ W, Below w.heap.size w W → W.cell? ⟨ob, 2, none⟩ = some (.slice va k vc) → W.cell? ⟨g1, o1 + 1, none⟩ = some (.int .i64 c) ∧ W.cell? ⟨g1, o1 + 2, none⟩ = some (.slice (some ⟨b1, f1, none⟩) n c1) ∧ W.cell? ⟨b1, f1 + k, none⟩ = some (.float .f32 x) ∧ W.cell? ⟨b2, f2 + j, none⟩ = some (.float .f32 y) ∧ W.cell? ⟨ob, 2, none⟩ = some (.slice va k vc)) := Lib.hid (fun W hb ho => ⟨(hb.cell (p := ⟨g1, o1 + 1, none⟩) hg1).trans hP.1, (hb.cell (p := ⟨g1, o1 + 2, none⟩) hg1).trans hP.2.1, (hb.cell (p := ⟨b1, f1 + k, none⟩) hl1).trans d1, (hb.cell (p := ⟨b2, f2 + j, none⟩) hl2).trans d2, ho⟩)
        have HXY := Lib.hid (And.intro hx2 hy2)
        have HS := Lib.hid (KS.out wr HB.out.below HB.out.out.three.2.2.2.1)
        clear hc1 hx d1 hx2 hbb hP hc2 hy d2 hy2
        go_upto_region 5 with fail
        clear r1 r2
        refine wp_region_mix 22 [19, 20] (fun W => W.cell? ⟨g1, o1 + 1, none⟩ = some (.int .i64 c) ∧ W.cell? ⟨g1, o1 + 2, none⟩ = some (.slice (some ⟨b1, f1, none⟩) n c1) ∧ W.cell? ⟨b1, f1 + k, none⟩ = some (.float .f32 x) ∧ W.cell? ⟨b2, f2 + j, none⟩ = some (.float .f32 y) ∧ W.cell? ⟨ob, 2, none⟩ = some (.slice va k vc)) (fun _ _ _ => False) (fun _ _ _ _ _ => False) (by kernel_rfl) (by kernel_rfl) HS.out (fun W q h => by simpa using h) ?_
        iterate 18 (refine mwalk_plain (by rfl) HS.out (fun K hK W hW => ?_); obtain ⟨e0, e1, e2, e3, e4⟩ := hW; go_simp; refine hK _ ?_; clear hK K e0 e1 e2 e3 e4)
        refine mwalk_plain (by rfl) HS.out (fun K hK W hW => ?_)
        go_simp
        have hz := cn_fbits .add .f32 x y W
        have hzl := fbits_lt .add .f32 x y W
        generalize fbits .add .f32 x y W = z at hz hzl ⊢
        refine hK _ ?_
        have HZ2 := Lib.hid hz; have HZL := Lib.hid hzl
        clear hK K hW hz hzl
        refine mwalk_spec (by rfl) HS.out (fun K hK q => ?_)
        have hbq := below_drewN (Below.refl wr.heap.size wr) q
        go_simp
        have hbA : Below wr.heap.size wr ((wr.drewN q).alloc (.cells #[.float .f32 z] 33)) := hbq.alloc (by simp) _
        have hs1 := KS.out _ ((HB.out.below.trans (hbA.mono HB.out.below.size))) ((HB.out.move hbA).out.three.2.2.2.1)
        have HBA := Lib.hid hbA; have HS1 := Lib.hid hs1
        refine ⟨hs1, hK _ _ ?_⟩
        clear hK K hbq hbA hs1
        refine mwalk_spec (by rfl) HS1.out (fun K hK q2 => ?_)
        refine specRes_append rfl _ _ 25 rfl w.heap.size 33 i0 _ 1 4 Try.underlying25 hi0 hz0 hzs hz2 rfl (by decide) (.slice va k vc) k (zs.map (Value.float .f32)) rfl (HB.out.move (below_drewN HBA.out q2)).row ⟨wr.heap.size, 0, none⟩ 1 1 [.float .f32 z] rfl rfl (World.news_of_block (cs := #[.float .f32 z]) (t := 33) (fr := (0, 0)) (heap_alloc_new (wr.drewN q) _)) (by simp [Value.oneCell']) (by unfold maxLen; omega) (by omega) (Nat.le_trans HB.out.below.size (Nat.le_trans HBA.out.size (Nat.le_refl _))) ?_
        intro v' w9 ho9 hg9 hat9 hb9
        obtain ⟨va', vc', rfl, hc9, hf9, hbel9, hnew⟩ := HB.out.push (W := (wr.drewN q).drewN q2) HZL.out (below_drewN (below_drewN (Below.refl _ _) q) q2) ho9 hg9 (by simpa using hat9)
        have hs9 := KS.out w9 hbel9 hc9
        have HS9 := Lib.hid hs9; have HF9 := Lib.hid (And.intro hc9 hf9); have HN9 := Lib.hid hnew
        have HM9 := Lib.hid (map_push HZ.out (f := fun i => fop .add .f32 ((xs.map (cn .f32)).getD i 0) ((ys.map (cn .f32)).getD (i % c) 0)) (by rw [HZ2.out]; exact (by show _ = fop .add .f32 ((xs.map (cn .f32)).getD k 0) ((ys.map (cn .f32)).getD (k % c) 0); rw [HXY.out.1, HXY.out.2])))
        refine ⟨hs9, hK _ _ ?_⟩
        clear hK K ho9 hg9 hat9 hb9 hc9 hf9 hbel9 hnew hs9 HS1 HBA
        refine mwalk_plain (by rfl) HS9.out (fun K hK W hW => ?_)
        go_simp
        refine hK _ ?_
        clear hK K hW
        refine mwalk_nil (fun q3 => ?_)
        have hc9 : (w9.drewN q3).cell? ⟨ob, 2, none⟩ = some (.slice va k vc) := by simpa using HF9.out.1
        have hf9 : (w9.drewN q3).frozen? ⟨ob, 2, none⟩ = false := by simpa using HF9.out.2
        have HN := Lib.hid (HN9.out.move (below_drewN (Below.refl _ _) q3))
        clear HN9 HS9 HF9 HB HZ HS KS
        go_wp2
        go_roundw
        case rel => exact ⟨k + 1, by go_num, hlt, _, _, _, HN, HM9⟩
        case measure => simp [intOf]; omega
      · have hkn : k = n := by omega
        subst hkn
        obtain ⟨ol, t0, t1, t2, tf⟩ := HB.out.out.three
        obtain ⟨rl, u0, u1, u2, uf⟩ := HB.out.res.three
        have HFIN := Lib.hid HB.out.fin
        clear hbb hP r1
        go_wp2
        try simp only [Exit.inBlock, Exit.then]
        refine bodyPost_ret (v := .agg #[.int .i64 r, .int .i64 c, .slice va k vc]) (by simp [results, Try.results222, go_sem, u0, u1, u2]) rfl ⟨va, vc, zs, rfl, Lib.hid HFIN.out.1, HZ, HFIN.out.2⟩
set_option maxHeartbeats 8000000 in
set_option maxRecDepth 100000 in
theorem spec_l02MulRow (w : World) (g1 o1 : Nat) (r : Int) (c : Nat) (a1 a2 : Option Addr) (c1 c2 n : Nat) (xs ys : List Nat) (p0 : w.cell? ⟨g1, o1, none⟩ = some (.int .i64 r)) (p1 : w.cell? ⟨g1, o1 + 1, none⟩ = some (.int .i64 c)) (p2 : w.cell? ⟨g1, o1 + 2, none⟩ = some (.slice a1 n c1))
    (hx : F32s w a1 c1 xs) (hy : F32s w a2 c2 ys) (hxl : xs.length = n) (hyl : ys.length = c) (hn : n ≤ 256) (hcp : 1 ≤ c) (hcq : c ≤ 16) :
    Calls Try.prog 224 #[.pointer (some ⟨g1, o1, none⟩), .slice a2 c c2] w (TenPost r c n (rowE .mul (xs.map (cn .f32)) (ys.map (cn .f32)) c n) w) := by
  obtain ⟨i0, hi0, hz0, hzs, hz2⟩ := info_parts info_f32
  have HX := Lib.hid hx; have HXL := Lib.hid hxl
  have HY := Lib.hid hy; have HYL := Lib.hid hyl
  clear hy hyl
  clear hx hxl
  have hg1 := World.block_lt_of_cell? w _ p0
  simp only at hg1
  go_enter Try.func224, Try.ntmps224
  go_upto_region 1 with fail
  obtain ⟨W0, hW0⟩ : ∃ W, W = w.alloc (.cells #[.int .i64 0, .int .i64 0, .slice none 0 0] 27) := ⟨_, rfl⟩
  have k0 : W0.cell? ⟨g1, o1, none⟩ = some (.int .i64 r) := by rw [hW0]; go_simp
  have k1 : W0.cell? ⟨g1, o1 + 1, none⟩ = some (.int .i64 c) := by rw [hW0]; go_simp
  have HW0 := Lib.hid hW0
  have hs0 : W0.heap.size = w.heap.size + 1 := by rw [hW0]; simp
  rw [← hW0]
  have HP := Lib.hid (And.intro p1 (And.intro p2 trivial))
  clear hW0 p0 p1 p2
  go_cut [5] (fun p5 wx => ∃ ob va vc, p5 = .pointer (some ⟨ob, 0, none⟩) ∧ Hid (Bld w wx w.heap.size ob r c va 0 vc []))
  case first =>
    go_region_held3 (fun w' => w'.cell? ⟨g1, o1, none⟩ = some (.int .i64 r) ∧ w'.cell? ⟨g1, o1 + 1, none⟩ = some (.int .i64 c)) (go_keep) (first | fail)
    all_goals (try go_wp2_with fail)
    all_goals go_meet
    · exact ⟨_, _, _, rfl, Lib.hid (by rw [HW0.out]; exact (Bld.start1 w r c).move (Below.drew (Below.refl _ _)))⟩
    · exact ⟨_, _, _, rfl, Lib.hid (by rw [HW0.out]; exact (Bld.start2 w r c).move (Below.drew (Below.refl _ _)))⟩
  case rest =>
    obtain ⟨ob, va, vc, rfl, HB⟩ := hcut
    clear k0 k1 HW0 hs0
    go_wp2
    go_loopw [6] (fun i wt => ∃ k : Nat, i = .int .i64 k ∧ k ≤ n ∧ ∃ va vc zs, Hid (Bld w wt w.heap.size ob r c va k vc zs) ∧ Hid (zs.map (cn .f32) = rowE .mul (xs.map (cn .f32)) (ys.map (cn .f32)) c k)) (fun i _ => n - (intOf i).toNat)
    case atStart => exact ⟨0, rfl, Nat.zero_le _, va, vc, [], HB, Lib.hid rfl⟩
    case round =>
      clear HB
      obtain ⟨k, rfl, hk, va, vc, zs, HB, HZ⟩ := hrel
      have hbb := HB.out.below
      have hP := HP.out
      have r1 : wr.cell? ⟨g1, o1 + 1, none⟩ = some (.int .i64 c) := (hbb.cell (p := ⟨g1, o1 + 1, none⟩) hg1).trans hP.1
      have r2 : wr.cell? ⟨g1, o1 + 2, none⟩ = some (.slice a1 n c1) := (hbb.cell (p := ⟨g1, o1 + 2, none⟩) hg1).trans hP.2.1
      by_cases hlt : k < n
      · obtain ⟨b1, f1, rfl, hl1, hc1⟩ := HX.out.spot (k := k) (by rw [HXL.out]; exact hlt)
        have d1 := hc1 k (by rw [HXL.out]; exact hlt)
        have hx2 := cn_getD xs k
        obtain ⟨x, hx⟩ : ∃ x, x = xs.getD k 0 := ⟨_, rfl⟩
        rw [← hx] at d1 hx2
        have hjc : k % c < c := Nat.mod_lt _ hcp
        obtain ⟨b2, f2, rfl, hl2, hc2⟩ := HY.out.spot (k := k % c) (by rw [HYL.out]; exact hjc)
        have d2 := hc2 (k % c) (by rw [HYL.out]; exact hjc)
        have hy2 := cn_getD ys (k % c)
        obtain ⟨y, hy⟩ : ∃ y, y = ys.getD (k % c) 0 := ⟨_, rfl⟩
        rw [← hy] at d2 hy2
        have hm0 : (k : Int).tmod (c : Int) = ((k % c : Nat) : Int) := (Int.ofNat_tmod k c).symm
        have hc0 : ¬ c = 0 := by omega
        obtain ⟨j, hj⟩ : ∃ j, j = k % c := ⟨_, rfl⟩
        rw [← hj] at hjc d2 hm0
        have HJ := Lib.hid hj
        clear hj
        have KS : Hid (∀ W, Below w.heap.size w W → W.cell? ⟨ob, 2, none⟩ = some (.slice va k vc) → W.cell? ⟨g1, o1 + 1, none⟩ = some (.int .i64 c) ∧ W.cell? ⟨g1, o1 + 2, none⟩ = some (.slice (some ⟨b1, f1, none⟩) n c1) ∧ W.cell? ⟨b1, f1 + k, none⟩ = some (.float .f32 x) ∧ W.cell? ⟨b2, f2 + j, none⟩ = some (.float .f32 y) ∧ W.cell? ⟨ob, 2, none⟩ = some (.slice va k vc)) := Lib.hid (fun W hb ho => ⟨(hb.cell (p := ⟨g1, o1 + 1, none⟩) hg1).trans hP.1, (hb.cell (p := ⟨g1, o1 + 2, none⟩) hg1).trans hP.2.1, (hb.cell (p := ⟨b1, f1 + k, none⟩) hl1).trans d1, (hb.cell (p := ⟨b2, f2 + j, none⟩) hl2).trans d2, ho⟩)
        have HXY := Lib.hid (And.intro hx2 hy2)
        have HS := Lib.hid (KS.out wr HB.out.below HB.out.out.three.2.2.2.1)
        clear hc1 hx d1 hx2 hbb hP hc2 hy d2 hy2
        go_upto_region 5 with fail
        clear r1 r2
        refine wp_region_mix 22 [19, 20] (fun W => W.cell? ⟨g1, o1 + 1, none⟩ = some (.int .i64 c) ∧ W.cell? ⟨g1, o1 + 2, none⟩ = some (.slice (some ⟨b1, f1, none⟩) n c1) ∧ W.cell? ⟨b1, f1 + k, none⟩ = some (.float .f32 x) ∧ W.cell? ⟨b2, f2 + j, none⟩ = some (.float .f32 y) ∧ W.cell? ⟨ob, 2, none⟩ = some (.slice va k vc)) (fun _ _ _ => False) (fun _ _ _ _ _ => False) (by kernel_rfl) (by kernel_rfl) HS.out (fun W q h => by simpa using h) ?_
        iterate 18 (refine mwalk_plain (by rfl) HS.out (fun K hK W hW => ?_); obtain ⟨e0, e1, e2, e3, e4⟩ := hW; go_simp; refine hK _ ?_; clear hK K e0 e1 e2 e3 e4)
        refine mwalk_plain (by rfl) HS.out (fun K hK W hW => ?_)
        go_simp
        have hz := cn_fbits .mul .f32 x y W
        have hzl := fbits_lt .mul .f32 x y W
        generalize fbits .mul .f32 x y W = z at hz hzl ⊢
        refine hK _ ?_
        have HZ2 := Lib.hid hz; have HZL := Lib.hid hzl
        clear hK K hW hz hzl
        refine mwalk_spec (by rfl) HS.out (fun K hK q => ?_)
        have hbq := below_drewN (Below.refl wr.heap.size wr) q
        go_simp
        have hbA : Below wr.heap.size wr ((wr.drewN q).alloc (.cells #[.float .f32 z] 33)) := hbq.alloc (by simp) _
        have hs1 := KS.out _ ((HB.out.below.trans (hbA.mono HB.out.below.size))) ((HB.out.move hbA).out.three.2.2.2.1)
        have HBA := Lib.hid hbA; have HS1 := Lib.hid hs1
        refine ⟨hs1, hK _ _ ?_⟩
        clear hK K hbq hbA hs1
        refine mwalk_spec (by rfl) HS1.out (fun K hK q2 => ?_)
        refine specRes_append rfl _ _ 25 rfl w.heap.size 33 i0 _ 1 4 Try.underlying25 hi0 hz0 hzs hz2 rfl (by decide) (.slice va k vc) k (zs.map (Value.float .f32)) rfl (HB.out.move (below_drewN HBA.out q2)).row ⟨wr.heap.size, 0, none⟩ 1 1 [.float .f32 z] rfl rfl (World.news_of_block (cs := #[.float .f32 z]) (t := 33) (fr := (0, 0)) (heap_alloc_new (wr.drewN q) _)) (by simp [Value.oneCell']) (by unfold maxLen; omega) (by omega) (Nat.le_trans HB.out.below.size (Nat.le_trans HBA.out.size (Nat.le_refl _))) ?_
        intro v' w9 ho9 hg9 hat9 hb9
        obtain ⟨va', vc', rfl, hc9, hf9, hbel9, hnew⟩ := HB.out.push (W := (wr.drewN q).drewN q2) HZL.out (below_drewN (below_drewN (Below.refl _ _) q) q2) ho9 hg9 (by simpa using hat9)
        have hs9 := KS.out w9 hbel9 hc9
        have HS9 := Lib.hid hs9; have HF9 := Lib.hid (And.intro hc9 hf9); have HN9 := Lib.hid hnew
        have HM9 := Lib.hid (map_push HZ.out (f := fun i => fop .mul .f32 ((xs.map (cn .f32)).getD i 0) ((ys.map (cn .f32)).getD (i % c) 0)) (by rw [HZ2.out]; exact (by show _ = fop .mul .f32 ((xs.map (cn .f32)).getD k 0) ((ys.map (cn .f32)).getD (k % c) 0); rw [HXY.out.1, HXY.out.2])))
        refine ⟨hs9, hK _ _ ?_⟩
        clear hK K ho9 hg9 hat9 hb9 hc9 hf9 hbel9 hnew hs9 HS1 HBA
        refine mwalk_plain (by rfl) HS9.out (fun K hK W hW => ?_)
        go_simp
        refine hK _ ?_
        clear hK K hW
        refine mwalk_nil (fun q3 => ?_)
        have hc9 : (w9.drewN q3).cell? ⟨ob, 2, none⟩ = some (.slice va k vc) := by simpa using HF9.out.1
        have hf9 : (w9.drewN q3).frozen? ⟨ob, 2, none⟩ = false := by simpa using HF9.out.2
        have HN := Lib.hid (HN9.out.move (below_drewN (Below.refl _ _) q3))
        clear HN9 HS9 HF9 HB HZ HS KS
        go_wp2
        go_roundw
        case rel => exact ⟨k + 1, by go_num, hlt, _, _, _, HN, HM9⟩
        case measure => simp [intOf]; omega
      · have hkn : k = n := by omega
        subst hkn
        obtain ⟨ol, t0, t1, t2, tf⟩ := HB.out.out.three
        obtain ⟨rl, u0, u1, u2, uf⟩ := HB.out.res.three
        have HFIN := Lib.hid HB.out.fin
        clear hbb hP r1
        go_wp2
        try simp only [Exit.inBlock, Exit.then]
        refine bodyPost_ret (v := .agg #[.int .i64 r, .int .i64 c, .slice va k vc]) (by simp [results, Try.results224, go_sem, u0, u1, u2]) rfl ⟨va, vc, zs, rfl, Lib.hid HFIN.out.1, HZ, HFIN.out.2⟩
end Go.Proofs.Ytmkfcaahdmdpaaa
