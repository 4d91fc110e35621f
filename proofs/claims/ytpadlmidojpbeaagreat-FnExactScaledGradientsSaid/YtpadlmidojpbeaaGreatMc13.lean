/- Joined texts 13: Gr3 Gr5. Each is told at its own head. No condition. -/
import Derived.Test.YtpadlmidojpbeaaGreatMc2
import Derived.Test.YtpadlmidojpbeaaGreatMc8
import Derived.Test.YtpadlmidojpbeaaGreatMc12
set_option linter.unusedVariables false
set_option linter.unusedSimpArgs false
/- x -/
namespace Go.Proofs.YtpadlmidojpbeaaGreat
open Go Go.RowKit
structure Keep2 (g h : Nat) (w w' : World) : Prop where
  os : w'.os = w.os
  tape : w'.tape = w.tape
  output : w'.output = w.output
  size : w.heap.size ≤ w'.heap.size
  block : ∀ k, k < w.heap.size → k ≠ g → k ≠ h → w'.heap[k]? = w.heap[k]?
section
variable {g h : Nat} {w w' w2 : World}
theorem Keep2.refl (g h : Nat) (w : World) : Keep2 g h w w := ⟨rfl, rfl, rfl, Nat.le_refl _, fun _ _ _ _ => rfl⟩
theorem Keep2.trans (a : Keep2 g h w w') (b : Keep2 g h w' w2) : Keep2 g h w w2 :=
  ⟨b.os.trans a.os, b.tape.trans a.tape, b.output.trans a.output, Nat.le_trans a.size b.size, fun k hk h1 h2 => (b.block k (Nat.lt_of_lt_of_le hk a.size) h1 h2).trans (a.block k hk h1 h2)⟩
theorem Keep2.of_below (hb : Below w.heap.size w w') : Keep2 g h w w' := ⟨hb.os, hb.tape, hb.output, hb.size, fun k hk _ _ => hb.block k hk⟩
theorem Keep2.of_touch1 (ht : Touch g (g + 1) w w') : Keep2 g h w w' := ⟨ht.os, ht.tape, ht.output, ht.size, fun k hk h1 _ => ht.block k hk (by omega)⟩
theorem Keep2.of_touch2 (ht : Touch h (h + 1) w w') : Keep2 g h w w' := ⟨ht.os, ht.tape, ht.output, ht.size, fun k hk _ h2 => ht.block k hk (by omega)⟩
theorem Keep2.below {B : Nat} {w0 : World} (a : Keep2 g h w w') (hb : Below B w0 w) (hB : B ≤ w.heap.size) (h1 : B ≤ g) (h2 : B ≤ h) : Below B w0 w' :=
  ⟨a.os.trans hb.os, a.tape.trans hb.tape, a.output.trans hb.output, Nat.le_trans hb.size a.size, fun k hk => (a.block k (by omega) (by omega) (by omega)).trans (hb.block k hk)⟩
theorem F32s.keep {a : Option Addr} {k : Nat} {xs : List Nat} (hf : F32s w a k xs) (hk : Keep2 g h w w') (hne : ∀ b o, a = some ⟨b, o, none⟩ → b ≠ g ∧ b ≠ h) : F32s w' a k xs :=
  ⟨hf.len, hf.cap, hf.rd.kept hk.size (fun b off e hb => hk.block b hb (hne b off e).1 (hne b off e).2), hf.lt⟩
theorem BoxN.keep {b : Nat} {vs : List Value} (hx : BoxN w b vs) (hk : Keep2 g h w w') (h1 : b ≠ g) (h2 : b ≠ h) : BoxN w' b vs :=
  ⟨Nat.lt_of_lt_of_le hx.lt hk.size, fun j hj => (World.cell?_of_block (w := w) (hk.block b hx.lt h1 h2)).trans (hx.at' j hj), fun o => (World.frozen?_of_block (w := w) (hk.block b hx.lt h1 h2)).trans (hx.fz o)⟩
end
theorem BoxN.one {w : World} {g : Nat} {a : Value} (h : BoxN w g [a]) : g < w.heap.size ∧ w.cell? ⟨g, 0, none⟩ = some a ∧ (∀ o, w.frozen? ⟨g, o, none⟩ = false) := ⟨h.lt, h.at' 0 (by simp), h.fz⟩
theorem Dsc.At.keep {g h : Nat} {w w' : World} {t : Dsc} (ht : t.At w) (hk : Keep2 g h w w') (hne : ∀ b o, t.a = some ⟨b, o, none⟩ → b ≠ g ∧ b ≠ h) : t.At w' := ⟨ht.see.keep hk hne, ht.r1, ht.r2, ht.c1, ht.c2, ht.len⟩
def Dsc.ten (t : Dsc) : Ten := ⟨⟨t.r, t.c, t.xs⟩, t.a, t.k⟩
theorem ten_dsc {t : Ten} (h : okT t.toTenP.can) : ∃ d : Dsc, t = d.ten := by
  obtain ⟨⟨r, c, xs⟩, a, k⟩ := t
  obtain ⟨r', c', e1, e2, _⟩ := h.nat
  replace e1 : r = r' := e1
  replace e2 : c = c' := e2
  subst e1 e2
  exact ⟨⟨r', c', a, k, xs⟩, rfl⟩
theorem Dsc.at_of {t : Dsc} {w : World} (h : okT t.can) (hf : F32s w t.a t.k t.xs) : t.At w := by
  obtain ⟨r', c', e1, e2, h1, h2, h3⟩ := h.nat
  have e3 : ((t.r : Nat) : Int) = r' := e1
  have e4 : ((t.c : Nat) : Int) = c' := e2
  have e5 : (t.xs.map (cn .f32)).length = r' * c' := h3
  have e6 : t.r = r' := by omega
  have e7 : t.c = c' := by omega
  rw [List.length_map] at e5
  exact ⟨hf, by omega, by omega, by omega, by omega, by rw [e5, e6, e7]⟩
section
variable {w w1 : World} {B g n cp : Nat} {us : List Ten} {E : List RowD}
theorem gi_set (h : OwnX tenR w B w.heap.size (some ⟨g, 0, none⟩) n cp us E) (hB : B ≤ w.heap.size) (hb : Below w.heap.size w w1) {i : Nat} (hi : i < n) {t : Dsc} (hr : RepF w1 w.heap.size w1.heap.size t.a t.xs.length t.k t.xs) :
    OwnX tenR (setCs w1 g (i * 3) t.cells) B (setCs w1 g (i * 3) t.cells).heap.size (some ⟨g, 0, none⟩) n cp (us.set i t.ten) E := by
  have h1 := h.setNew (w1 := w1) (w2 := setCs w1 g (i * 3) t.cells) (hi1 := w1.heap.size) hB hb hi (a := t.ten) hr.okF hr.ownRow hb.size (fun M hM => setCs_own hM (i * 3) t.cells)
  exact h1.bounds (Nat.le_refl _) (by rw [setCs_size]; exact Nat.le_refl _)
theorem gi_ten (h : OwnX tenR w B w.heap.size (some ⟨g, 0, none⟩) n cp us E) {k : Nat} {t : Ten} (hk : us[k]? = some t) : (B ≤ g ∧ g < w.heap.size) ∧
    (w.cell? ⟨g, k * 3, none⟩ = some (.int .i64 t.r) ∧ w.cell? ⟨g, k * 3 + 1, none⟩ = some (.int .i64 t.c) ∧ w.cell? ⟨g, k * 3 + 2, none⟩ = some (.slice t.ad t.xs.length t.cap)) ∧
    (∀ j, w.frozen? ⟨g, j, none⟩ = false) ∧ F32s w t.ad t.cap t.xs := by
  obtain ⟨g', e, hr, hc, hf, hx⟩ := ten_own h.r hk
  cases e
  exact ⟨⟨hr.1, hr.2.2⟩, hc, hf, hx.arg⟩
end
theorem gi_apart {w : World} {B g h n m cp : Nat} {us : List Ten} {U : List Bool} {E : List RowD} (hx : OwnX tenR w B w.heap.size (some ⟨g, 0, none⟩) n cp us (uRow h m U :: E)) {k : Nat} {t : Ten} (hk : us[k]? = some t) (hl : 1 ≤ t.xs.length) : ∀ b o, t.ad = some ⟨b, o, none⟩ → b ≠ g ∧ b ≠ h := by
  intro b o e
  have hm : floatRow t.ad t.cap t.xs ∈ us.flatMap tenR.inn := List.mem_flatMap.2 ⟨t, List.mem_of_getElem? hk, List.mem_singleton.2 rfl⟩
  have hown := hx.own.row _ (List.mem_cons_of_mem _ (List.mem_append_left _ hm))
  have hob : (floatRow t.ad t.cap t.xs).val.ownBlock = some b := by
    rcases hown.own.2 with h2 | ⟨g', cap', cur, hv, _⟩
    · have : t.xs.length = 0 := by
        have h3 := hown.own.1
        have h4 := h2.2
        simpa [floatRow] using h4
      omega
    · have hv2 : Value.slice t.ad t.xs.length t.cap = .slice (some ⟨g', 0, none⟩) t.xs.length cap' := hv
      injection hv2 with h5 h6 h7
      rw [e] at h5
      cases h5
      show (Value.slice t.ad t.xs.length t.cap).ownBlock = _
      rw [e]; rfl
  refine ⟨fun e1 => ?_, fun e1 => ?_⟩
  · have h1 := hx.own.apart (List.mem_append_left _ hm) g rfl
    rw [e1] at hob
    exact h1 hob
  · subst e1
    have h1 := hx.own.sep
    rw [List.map_cons, List.pairwise_cons, List.map_append, List.pairwise_append] at h1
    exact h1.2.2.2 _ (List.mem_map_of_mem hm) _ (List.mem_map_of_mem (List.mem_cons_self ..)) b hob rfl

set_option maxHeartbeats 16000000 in
set_option maxRecDepth 100000 in
theorem impl_give (w : World) (B g h bo bh n cp : Nat) (us : List Ten) (U : List Bool) (hI : OwnX tenR w B w.heap.size (some ⟨g, 0, none⟩) n cp us [uRow h n U]) (hB : B ≤ w.heap.size) (hU : U.length = n) (hbo : BoxN w bo [.slice (some ⟨g, 0, none⟩) n cp]) (hbh : BoxN w bh [.slice (some ⟨h, 0, none⟩) n n])
    (hne : (bo ≠ g ∧ bo ≠ h) ∧ (bh ≠ g ∧ bh ≠ h)) (hn : n ≤ 48) (i : Nat) (hi : i < n) (t : Dsc) (ht : t.At w) (old : Ten) (ho : us[i]? = some old) (hold : U.getD i false = true → okT old.toTenP.can ∧ old.toTenP.can.sh = t.can.sh) :
    Calls Tryz.prog 93 #[.int .i64 i, t.val, .pointer (some ⟨bh, 0, none⟩), .pointer (some ⟨bo, 0, none⟩)] w fun e w' => e = .returned (.tuple #[]) ∧ Keep2 g h w w' ∧ ∃ t' : Dsc, Hid (OwnX tenR w' B w'.heap.size (some ⟨g, 0, none⟩) n cp (us.set i t'.ten) [uRow h n (U.set i true)]) ∧ t'.can = giveV (U.getD i false) old.toTenP.can t.can := by
  obtain ⟨tr, tc, ta, tk, tx⟩ := t
  obtain ⟨hhl, hhB, hhc, hhf⟩ := hI.u
  obtain ⟨⟨hgB, hgl⟩, ⟨hg0, hg1, hg2⟩, hgf, hgx⟩ := gi_ten hI ho
  have hgh : g ≠ h := by
    intro e
    have h1 := hI.own.sep
    rw [List.map_cons, List.pairwise_cons] at h1
    exact h1.1 _ (List.mem_map_of_mem (List.mem_append_right _ (List.mem_singleton.2 rfl))) g rfl (by rw [e]; rfl)
  show Calls Tryz.prog 93 #[.int .i64 i, .agg #[.int .i64 tr, .int .i64 tc, .slice ta tx.length tk], .pointer (some ⟨bh, 0, none⟩), .pointer (some ⟨bo, 0, none⟩)] w _
  have uh := hhc i (by rw [hU]; exact hi)
  have hb1 := below1 w (.cells #[.int .i64 tr, .int .i64 tc, .slice ta tx.length tk] 37)
  have PB := Lib.hid (BoxN.alloc w #[.int .i64 tr, .int .i64 tc, .slice ta tx.length tk] 37)
  have HBO := Lib.hid hbo; have HBH := Lib.hid hbh
  have HNE := Lib.hid hne; have HGH := Lib.hid hgh
  obtain ⟨-, bo0, bof⟩ := hbo.one
  obtain ⟨-, bh0, bhf⟩ := hbh.one
  clear bof bhf hbo hbh hne hgh
  have HI := Lib.hid hI; have HT := Lib.hid ht; have HOL := Lib.hid hold; have HO := Lib.hid ho
  have HC := Lib.hid (And.intro hg0 (And.intro hg1 (And.intro hg2 hgf)))
  have HL := Lib.hid (And.intro hhl (And.intro hhB (And.intro hgl hgB)))
  have HX := Lib.hid hgx
  have HHF := Lib.hid hhf
  have HB1 := Lib.hid hb1
  clear hI ht hold hg0 hg1 hg2 hgf hhc hgx hhf hb1 ho hhB hgB
  -- the end, from the world where the part is in its box
  cases hu : U.getD i false
  · as_aux_lemma =>
    have HV : Hid (Dsc.can ⟨tr, tc, ta, tk, tx⟩ = giveV false old.toTenP.can (Dsc.can ⟨tr, tc, ta, tk, tx⟩)) := Lib.hid rfl
    obtain ⟨pr, hpr⟩ : ∃ p, p = tr := ⟨_, rfl⟩
    obtain ⟨pc, hpc⟩ : ∃ p, p = tc := ⟨_, rfl⟩
    obtain ⟨pa, hpa⟩ : ∃ p, p = ta := ⟨_, rfl⟩
    obtain ⟨pk, hpk⟩ : ∃ p, p = tk := ⟨_, rfl⟩
    obtain ⟨px, hpx⟩ : ∃ p, p = tx := ⟨_, rfl⟩
    rw [← hpr, ← hpc, ← hpa, ← hpk, ← hpx] at HV HB1 PB HT ⊢
    clear hpr hpc hpa hpk hpx
    have uh' := (HB1.out.cell (p := ⟨h, i, none⟩) HL.out.1).trans uh
    rw [hu] at uh'
    have bh1 := (HBH.out.below HB1.out).one.2.1
    have HUH := Lib.hid hu
    clear uh hu HOL bo0 bh0
    go_enter Tryz.func93, Tryz.ntmps93
    go_upto_region 3 with fail
    clear uh' bh1
    have B3 := HB1; have P3 := PB
    have AT3 := Lib.hid (HT.out.below HB1.out)
    clear HB1 PB HT
    generalize w.alloc (.cells #[.int .i64 pr, .int .i64 pc, .slice pa px.length pk] 37) = w3 at B3 P3 AT3 ⊢
    have e0 := P3.out
    obtain ⟨-, p0, p1, p2, pf⟩ := P3.out.three
    obtain ⟨-, bo1, bof1⟩ := (HBO.out.below B3.out).one
    have S3 : Hid ((fun W => W.cell? ⟨bo, 0, none⟩ = some (.slice (some ⟨g, 0, none⟩) n cp) ∧ W.cell? ⟨w.heap.size, 0, none⟩ = some (.int .i64 pr) ∧ W.cell? ⟨w.heap.size, 1, none⟩ = some (.int .i64 pc) ∧ W.cell? ⟨w.heap.size, 2, none⟩ = some (.slice pa px.length pk)) w3) := Lib.hid ⟨bo1, p0, p1, p2⟩
    go_upto_region 3 with fail
    clear p0 p1 p2 pf bo1 bof1 e0
    refine wp_region_mix 5 [3] (fun W => W.cell? ⟨bo, 0, none⟩ = some (.slice (some ⟨g, 0, none⟩) n cp) ∧ W.cell? ⟨w.heap.size, 0, none⟩ = some (.int .i64 pr) ∧ W.cell? ⟨w.heap.size, 1, none⟩ = some (.int .i64 pc) ∧ W.cell? ⟨w.heap.size, 2, none⟩ = some (.slice pa px.length pk)) (fun _ _ _ => False) (fun f args w1 v w2 => RTen (Dsc.can ⟨pr, pc, pa, pk, px⟩) w1 v w2) (by kernel_rfl) (by kernel_rfl) S3.out (fun W q h => by simpa using h) ?_
    iterate 3 (refine mwalk_plain (by rfl) S3.out (fun K hK W hW => ?_); obtain ⟨e0, e1, e2, e3⟩ := hW; go_simp; refine hK _ ?_; clear hK K e0 e1 e2 e3)
    refine mwalk_spec (by rfl) S3.out (fun K hK q1 => ?_)
    go_simp
    have D1 := Lib.hid (below_drewN (Below.refl w3.heap.size w3) q1)
    refine ⟨(impl_copyTensorT _ pr pc pa pk px (AT3.out.below D1.out).see AT3.out.nil px.length rfl (by have := AT3.out.le; simp only at this; omega)).mono (fun e w2 hh => RTen.of hh rfl), ?_⟩
    rintro v w4 hd
    obtain ⟨⟨nr, nc, na, nk, nx⟩, rfl, he, hr, hb⟩ := hd
    have B4 := Lib.hid (bthen (bthen B3.out D1.out) hb)
    have P4 := Lib.hid (P3.out.below (bthen D1.out hb))
    have hs4 : (fun W => W.cell? ⟨bo, 0, none⟩ = some (.slice (some ⟨g, 0, none⟩) n cp) ∧ W.cell? ⟨w.heap.size, 0, none⟩ = some (.int .i64 pr) ∧ W.cell? ⟨w.heap.size, 1, none⟩ = some (.int .i64 pc) ∧ W.cell? ⟨w.heap.size, 2, none⟩ = some (.slice pa px.length pk)) w4 := ⟨(HBO.out.below B4.out).one.2.1, P4.out.three.2.1, P4.out.three.2.2.1, P4.out.three.2.2.2.1⟩
    have S4 := Lib.hid hs4
    refine ⟨hs4, hK _ _ ?_⟩
    have E4 := Lib.hid he; have R4 := Lib.hid hr
    clear hK K he hr hb hs4
    refine mwalk_plain (by rfl) S4.out (fun K hK W hW => ?_)
    obtain ⟨e0, e1, e2, e3⟩ := hW
    go_simp
    refine hK _ ?_
    clear hK K e0 e1 e2 e3
    refine mwalk_nil (fun q9 => ?_)
    have B5 := Lib.hid (below_drewN B4.out q9)
    have R5 : Hid (RepF (w4.drewN q9) w.heap.size (w4.drewN q9).heap.size na nx.length nk nx) := Lib.hid ((R4.out.below (below_drewN (Below.refl _ _) q9)).bounds (Nat.le_trans B3.out.size D1.out.size) (by simp))
    have c50 := (B5.out.cell (p := ⟨g, i * 3, none⟩) HL.out.2.2.1).trans HC.out.1
    have c51 := (B5.out.cell (p := ⟨g, i * 3 + 1, none⟩) HL.out.2.2.1).trans HC.out.2.1
    have c52 := (B5.out.cell (p := ⟨g, i * 3 + 2, none⟩) HL.out.2.2.1).trans HC.out.2.2.1
    have f5 : ∀ j, (w4.drewN q9).frozen? ⟨g, j, none⟩ = false := fun j => (B5.out.frozen (p := ⟨g, j, none⟩) HL.out.2.2.1).trans (HC.out.2.2.2 j)
    have H5 := Lib.hid (HBH.out.below B5.out)
    generalize w4.drewN q9 = w5 at B5 R5 c50 c51 c52 f5 H5 ⊢
    have f50 := f5 (i * 3); have f51 := f5 (i * 3 + 1); have f52 := f5 (i * 3 + 2)
    have X6 : Hid (OwnX tenR (setCs w5 g (i * 3) [.int .i64 nr, .int .i64 nc, .slice na nx.length nk]) B (setCs w5 g (i * 3) [.int .i64 nr, .int .i64 nc, .slice na nx.length nk]).heap.size (some ⟨g, 0, none⟩) n cp (us.set i (Dsc.ten ⟨nr, nc, na, nk, nx⟩)) [uRow h n U]) := Lib.hid (gi_set HI.out hB B5.out hi (t := ⟨nr, nc, na, nk, nx⟩) R5.out)
    have K6 : Hid (Keep2 g h w (setCs w5 g (i * 3) [.int .i64 nr, .int .i64 nc, .slice na nx.length nk])) := Lib.hid ((Keep2.of_below B5.out).trans (Keep2.of_touch1 (setCs_touch _ _ _ _)))
    have H6 := Lib.hid (H5.out.touch (setCs_touch w5 g (i * 3) [.int .i64 nr, .int .i64 nc, .slice na nx.length nk]) (by have := HNE.out.2.1; omega))
    clear f5 S3 S4 D1 B4 R4 P4 B5
    try unfold Dsc.val
    try simp only
    go_upto_region 4 with fail
    clear c50 c51 c52 f50 f51 f52
    change Code.wp _ _ _ _ (setCs w5 g (i * 3) [.int .i64 nr, .int .i64 nc, .slice na nx.length nk])
    generalize setCs w5 g (i * 3) [.int .i64 nr, .int .i64 nc, .slice na nx.length nk] = w6 at X6 K6 H6 ⊢
    obtain ⟨-, h60, h6f⟩ := H6.out.one
    obtain ⟨hl6, hB6, hc6, hf6⟩ := X6.out.u
    have u6 := hc6 i (by rw [hU]; exact hi)
    have v6 := hf6 i
    have X7 := Lib.hid (X6.out.setU i)
    have K7 : Hid (Keep2 g h w (w6.setCell ⟨h, i, none⟩ (.bool true))) := Lib.hid (K6.out.trans (Keep2.of_touch2 (setCs_touch w6 h i [.bool true])))
    clear hc6 hf6 h6f hB6
    go_wp2
    go_end0
    exact ⟨rfl, K7.out, ⟨nr, nc, na, nk, nx⟩, Lib.hid (by have := X7.out; exact this.bounds (Nat.le_refl _) (by simp [World.setCell])), by rw [E4.out]; exact HV.out⟩
  · as_aux_lemma =>
    obtain ⟨hok, hsh⟩ := HOL.out hu
    obtain ⟨d, rfl⟩ := ten_dsc hok
    obtain ⟨dr, dc, da, dk, dx⟩ := d
    have HSH : Hid (dr = tr ∧ dc = tc) := Lib.hid (by have : (((dr : Nat) : Int), ((dc : Nat) : Int)) = (((tr : Nat) : Int), ((tc : Nat) : Int)) := hsh; simp at this; omega)
    have DT : Hid (∀ W, Below w.heap.size w W → (⟨dr, dc, da, dk, dx⟩ : Dsc).At W) := Lib.hid (fun W hb => Dsc.at_of hok (HX.out.below hb))
    have HUH := Lib.hid hu
    have uh' := (HB1.out.cell (p := ⟨h, i, none⟩) HL.out.1).trans uh
    rw [hu] at uh'
    have bh1 := (HBH.out.below HB1.out).one.2.1
    clear uh hu HOL hok hsh bo0 bh0
    go_enter Tryz.func93, Tryz.ntmps93
    go_upto_region 2 with fail
    clear uh' bh1
    generalize w.alloc (.cells #[.int .i64 tr, .int .i64 tc, .slice ta tx.length tk] 37) = w1 at HB1 PB ⊢
    have KS : Hid (∀ W, Below w1.heap.size w1 W → (fun W => W.cell? ⟨bo, 0, none⟩ = some (.slice (some ⟨g, 0, none⟩) n cp) ∧ (W.cell? ⟨g, i * 3, none⟩ = some (.int .i64 dr) ∧ W.cell? ⟨g, i * 3 + 1, none⟩ = some (.int .i64 dc) ∧ W.cell? ⟨g, i * 3 + 2, none⟩ = some (.slice da dx.length dk)) ∧ (W.cell? ⟨w.heap.size, 0, none⟩ = some (.int .i64 tr) ∧ W.cell? ⟨w.heap.size, 1, none⟩ = some (.int .i64 tc) ∧ W.cell? ⟨w.heap.size, 2, none⟩ = some (.slice ta tx.length tk))) W) := Lib.hid (fun W hb => ⟨(HBO.out.below (bthen HB1.out hb)).one.2.1, ⟨((bthen HB1.out hb).cell (p := ⟨g, i * 3, none⟩) HL.out.2.2.1).trans HC.out.1, ((bthen HB1.out hb).cell (p := ⟨g, i * 3 + 1, none⟩) HL.out.2.2.1).trans HC.out.2.1, ((bthen HB1.out hb).cell (p := ⟨g, i * 3 + 2, none⟩) HL.out.2.2.1).trans HC.out.2.2.1⟩, (PB.out.below hb).three.2.imp_right (fun h => h.imp_right And.left)⟩)
    have S0 := Lib.hid (KS.out w1 (Below.refl _ _))
    refine wp_region_mix 6 [5] (fun W => W.cell? ⟨bo, 0, none⟩ = some (.slice (some ⟨g, 0, none⟩) n cp) ∧ (W.cell? ⟨g, i * 3, none⟩ = some (.int .i64 dr) ∧ W.cell? ⟨g, i * 3 + 1, none⟩ = some (.int .i64 dc) ∧ W.cell? ⟨g, i * 3 + 2, none⟩ = some (.slice da dx.length dk)) ∧ (W.cell? ⟨w.heap.size, 0, none⟩ = some (.int .i64 tr) ∧ W.cell? ⟨w.heap.size, 1, none⟩ = some (.int .i64 tc) ∧ W.cell? ⟨w.heap.size, 2, none⟩ = some (.slice ta tx.length tk))) (fun _ _ _ => False) DAll (by kernel_rfl) (by kernel_rfl) S0.out (fun W q h => by simpa using h) ?_
    iterate 5 (refine mwalk_plain (by rfl) S0.out (fun K hK W hW => ?_); obtain ⟨e0, ⟨e1, e2, e3⟩, e4, e5, e6⟩ := hW; go_simp; refine hK _ ?_; clear hK K e0 e1 e2 e3 e4 e5 e6)
    refine mwalk_spec (by rfl) S0.out (fun K hK q0 => ?_)
    go_simp
    have D0 := Lib.hid (below_drewN (Below.refl w1.heap.size w1) q0)
    have A1 := Lib.hid (DT.out _ (bthen HB1.out D0.out)); have A2 := Lib.hid (HT.out.below (bthen HB1.out D0.out))
    refine ⟨(call_addTensors (t := ⟨dr, dc, da, dk, dx⟩) (u := ⟨tr, tc, ta, tk, tx⟩) A1.out A2.out HSH.out.1 HSH.out.2), ?_⟩
    rintro v w2 hd
    obtain ⟨⟨pr, pc, pa, pk, px⟩, rfl, he, ha, hr, hb⟩ := (DAll.addTensors (t := ⟨dr, dc, da, dk, dx⟩) (u := ⟨tr, tc, ta, tk, tx⟩) hd A1.out A2.out).at' (addV_ok A1.out.okT).1
    have C2 := Lib.hid (bthen D0.out hb)
    have hs2 := KS.out w2 C2.out
    refine ⟨hs2, hK _ _ ?_⟩
    have HV : Hid (Dsc.can ⟨pr, pc, pa, pk, px⟩ = giveV true (Dsc.ten ⟨dr, dc, da, dk, dx⟩).toTenP.can (Dsc.can ⟨tr, tc, ta, tk, tx⟩)) := Lib.hid he
    have A4 := Lib.hid ha
    have RZ := Lib.hid hr
    have HZD : Hid (w1.heap.size ≤ (w1.drewN q0).heap.size) := Lib.hid D0.out.size
    clear hK K hd he ha hr hb hs2 A1 A2
    refine mwalk_nil (fun q1 => ?_)
    obtain ⟨-, p0, p1, p2, pf⟩ := (PB.out.below (bthen C2.out (below_drewN (Below.refl _ _) q1))).three
    have B2 := Lib.hid (bthen HB1.out (bthen C2.out (below_drewN (Below.refl _ _) q1)))
    have A5 := Lib.hid (RZ.out.below (below_drewN (Below.refl _ _) q1)); have P5 := Lib.hid (PB.out.below (bthen C2.out (below_drewN (Below.refl _ _) q1)))
    have HO5 := Lib.hid A4.out.okT
    have HZ5 := Lib.hid (show w2.heap.size ≤ (w2.drewN q1).heap.size by simp)
    generalize w2.drewN q1 = w2' at p0 p1 p2 pf B2 A5 P5 HZ5 ⊢
    have pf0 := pf 0; have pf1 := pf 1; have pf2 := pf 2
    clear pf
    try unfold Dsc.val
    try simp only
    go_upto_region 3 with fail
    change Code.wp _ _ _ _ (setCs w2' w.heap.size 0 [.int .i64 pr, .int .i64 pc, .slice pa px.length pk])
    have B3 : Hid (Below w.heap.size w (setCs w2' w.heap.size 0 [.int .i64 pr, .int .i64 pc, .slice pa px.length pk])) := Lib.hid (setCs_below B2.out (Nat.le_refl _) 0 _)
    have P3 : Hid (BoxN (setCs w2' w.heap.size 0 [.int .i64 pr, .int .i64 pc, .slice pa px.length pk]) w.heap.size [.int .i64 pr, .int .i64 pc, .slice pa px.length pk]) := Lib.hid P5.out.set3
    have AT3 : Hid ((⟨pr, pc, pa, pk, px⟩ : Dsc).At (setCs w2' w.heap.size 0 [.int .i64 pr, .int .i64 pc, .slice pa px.length pk])) := Lib.hid (Dsc.at_of HO5.out (A5.out.touch (setCs_touch w2' w.heap.size 0 _) (.inr (by have := HZD.out; have := PB.out.lt; omega))).arg)
    clear p0 p1 p2 pf0 pf1 pf2 B2 A5 P5 HZ5 A4 RZ HZD C2 D0 S0 KS HT DT HSH HB1 PB
    generalize setCs w2' w.heap.size 0 [.int .i64 pr, .int .i64 pc, .slice pa px.length pk] = w3 at B3 P3 AT3 ⊢
    have e0 := P3.out
    obtain ⟨-, p0, p1, p2, pf⟩ := P3.out.three
    obtain ⟨-, bo1, bof1⟩ := (HBO.out.below B3.out).one
    have S3 : Hid ((fun W => W.cell? ⟨bo, 0, none⟩ = some (.slice (some ⟨g, 0, none⟩) n cp) ∧ W.cell? ⟨w.heap.size, 0, none⟩ = some (.int .i64 pr) ∧ W.cell? ⟨w.heap.size, 1, none⟩ = some (.int .i64 pc) ∧ W.cell? ⟨w.heap.size, 2, none⟩ = some (.slice pa px.length pk)) w3) := Lib.hid ⟨bo1, p0, p1, p2⟩
    go_upto_region 3 with fail
    clear p0 p1 p2 pf bo1 bof1 e0
    refine wp_region_mix 5 [3] (fun W => W.cell? ⟨bo, 0, none⟩ = some (.slice (some ⟨g, 0, none⟩) n cp) ∧ W.cell? ⟨w.heap.size, 0, none⟩ = some (.int .i64 pr) ∧ W.cell? ⟨w.heap.size, 1, none⟩ = some (.int .i64 pc) ∧ W.cell? ⟨w.heap.size, 2, none⟩ = some (.slice pa px.length pk)) (fun _ _ _ => False) (fun f args w1 v w2 => RTen (Dsc.can ⟨pr, pc, pa, pk, px⟩) w1 v w2) (by kernel_rfl) (by kernel_rfl) S3.out (fun W q h => by simpa using h) ?_
    iterate 3 (refine mwalk_plain (by rfl) S3.out (fun K hK W hW => ?_); obtain ⟨e0, e1, e2, e3⟩ := hW; go_simp; refine hK _ ?_; clear hK K e0 e1 e2 e3)
    refine mwalk_spec (by rfl) S3.out (fun K hK q1 => ?_)
    go_simp
    have D1 := Lib.hid (below_drewN (Below.refl w3.heap.size w3) q1)
    refine ⟨(impl_copyTensorT _ pr pc pa pk px (AT3.out.below D1.out).see AT3.out.nil px.length rfl (by have := AT3.out.le; simp only at this; omega)).mono (fun e w2 hh => RTen.of hh rfl), ?_⟩
    rintro v w4 hd
    obtain ⟨⟨nr, nc, na, nk, nx⟩, rfl, he, hr, hb⟩ := hd
    have B4 := Lib.hid (bthen (bthen B3.out D1.out) hb)
    have P4 := Lib.hid (P3.out.below (bthen D1.out hb))
    have hs4 : (fun W => W.cell? ⟨bo, 0, none⟩ = some (.slice (some ⟨g, 0, none⟩) n cp) ∧ W.cell? ⟨w.heap.size, 0, none⟩ = some (.int .i64 pr) ∧ W.cell? ⟨w.heap.size, 1, none⟩ = some (.int .i64 pc) ∧ W.cell? ⟨w.heap.size, 2, none⟩ = some (.slice pa px.length pk)) w4 := ⟨(HBO.out.below B4.out).one.2.1, P4.out.three.2.1, P4.out.three.2.2.1, P4.out.three.2.2.2.1⟩
    have S4 := Lib.hid hs4
    refine ⟨hs4, hK _ _ ?_⟩
    have E4 := Lib.hid he; have R4 := Lib.hid hr
    clear hK K he hr hb hs4
    refine mwalk_plain (by rfl) S4.out (fun K hK W hW => ?_)
    obtain ⟨e0, e1, e2, e3⟩ := hW
    go_simp
    refine hK _ ?_
    clear hK K e0 e1 e2 e3
    refine mwalk_nil (fun q9 => ?_)
    have B5 := Lib.hid (below_drewN B4.out q9)
    have R5 : Hid (RepF (w4.drewN q9) w.heap.size (w4.drewN q9).heap.size na nx.length nk nx) := Lib.hid ((R4.out.below (below_drewN (Below.refl _ _) q9)).bounds (Nat.le_trans B3.out.size D1.out.size) (by simp))
    have c50 := (B5.out.cell (p := ⟨g, i * 3, none⟩) HL.out.2.2.1).trans HC.out.1
    have c51 := (B5.out.cell (p := ⟨g, i * 3 + 1, none⟩) HL.out.2.2.1).trans HC.out.2.1
    have c52 := (B5.out.cell (p := ⟨g, i * 3 + 2, none⟩) HL.out.2.2.1).trans HC.out.2.2.1
    have f5 : ∀ j, (w4.drewN q9).frozen? ⟨g, j, none⟩ = false := fun j => (B5.out.frozen (p := ⟨g, j, none⟩) HL.out.2.2.1).trans (HC.out.2.2.2 j)
    have H5 := Lib.hid (HBH.out.below B5.out)
    generalize w4.drewN q9 = w5 at B5 R5 c50 c51 c52 f5 H5 ⊢
    have f50 := f5 (i * 3); have f51 := f5 (i * 3 + 1); have f52 := f5 (i * 3 + 2)
    have X6 : Hid (OwnX tenR (setCs w5 g (i * 3) [.int .i64 nr, .int .i64 nc, .slice na nx.length nk]) B (setCs w5 g (i * 3) [.int .i64 nr, .int .i64 nc, .slice na nx.length nk]).heap.size (some ⟨g, 0, none⟩) n cp (us.set i (Dsc.ten ⟨nr, nc, na, nk, nx⟩)) [uRow h n U]) := Lib.hid (gi_set HI.out hB B5.out hi (t := ⟨nr, nc, na, nk, nx⟩) R5.out)
    have K6 : Hid (Keep2 g h w (setCs w5 g (i * 3) [.int .i64 nr, .int .i64 nc, .slice na nx.length nk])) := Lib.hid ((Keep2.of_below B5.out).trans (Keep2.of_touch1 (setCs_touch _ _ _ _)))
    have H6 := Lib.hid (H5.out.touch (setCs_touch w5 g (i * 3) [.int .i64 nr, .int .i64 nc, .slice na nx.length nk]) (by have := HNE.out.2.1; omega))
    clear f5 S3 S4 D1 B4 R4 P4 B5
    try unfold Dsc.val
    try simp only
    go_upto_region 4 with fail
    clear c50 c51 c52 f50 f51 f52
    change Code.wp _ _ _ _ (setCs w5 g (i * 3) [.int .i64 nr, .int .i64 nc, .slice na nx.length nk])
    generalize setCs w5 g (i * 3) [.int .i64 nr, .int .i64 nc, .slice na nx.length nk] = w6 at X6 K6 H6 ⊢
    obtain ⟨-, h60, h6f⟩ := H6.out.one
    obtain ⟨hl6, hB6, hc6, hf6⟩ := X6.out.u
    have u6 := hc6 i (by rw [hU]; exact hi)
    have v6 := hf6 i
    have X7 := Lib.hid (X6.out.setU i)
    have K7 : Hid (Keep2 g h w (w6.setCell ⟨h, i, none⟩ (.bool true))) := Lib.hid (K6.out.trans (Keep2.of_touch2 (setCs_touch w6 h i [.bool true])))
    clear hc6 hf6 h6f hB6
    go_wp2
    go_end0
    exact ⟨rfl, K7.out, ⟨nr, nc, na, nk, nx⟩, Lib.hid (by have := X7.out; exact this.bounds (Nat.le_refl _) (by simp [World.setCell])), by rw [E4.out]; exact HV.out⟩
end Go.Proofs.YtpadlmidojpbeaaGreat
/- x -/
namespace Go.Proofs.YtpadlmidojpbeaaGreat
open Go Go.RowKit
def GotL (T : TenP) (G : Dsc) (lo : Nat) (w' : World) (t : Dsc) : Prop := t.can = T ∧ (t = G ∨ RepF w' lo w'.heap.size t.a t.xs.length t.k t.xs)
theorem GotL.of {T : TenP} {G t : Dsc} {w w' : World} {lo : Nat} (h : GotOk T G w w' t) (hl : lo ≤ w.heap.size) : GotL T G lo w' t := ⟨h.1, h.2.imp id (fun h => h.bounds hl (Nat.le_refl _))⟩
theorem GotL.to {T : TenP} {G t : Dsc} {w w' : World} {lo : Nat} (h : GotL T G lo w' t) (hl : w.heap.size ≤ lo) : GotOk T G w w' t := ⟨h.1, h.2.imp id (fun h => h.bounds hl (Nat.le_refl _))⟩
theorem GotL.alloc {T : TenP} {G t : Dsc} {w : World} {lo : Nat} (h : GotL T G lo w t) (o : Obj) : GotL T G lo (w.alloc o) t := ⟨h.1, h.2.imp id (fun h => (h.below (below1 w o)).bounds (Nat.le_refl _) (by simp))⟩
def CutOk (wq : World) (T1 T2 : TenP) (G : Dsc) (two : Bool) (wz : World) (ba bb : Nat) (t u : Dsc) : Prop := (BoxN wz ba t.cells ∧ BoxN wz bb u.cells) ∧ (wq.heap.size ≤ ba ∧ wq.heap.size ≤ bb) ∧ Below wq.heap.size wq wz ∧ GotOk T1 G wq wz t ∧ (two = true → GotOk T2 G wq wz u)
theorem GotL.setCs {T : TenP} {G t : Dsc} {w : World} {lo g : Nat} (h : GotL T G lo w t) (k : Nat) (vs : List Value) (hg : g < lo) : GotL T G lo (setCs w g k vs) t := ⟨h.1, h.2.imp id (fun h => (h.touch (setCs_touch w g k vs) (.inr (by omega))).bounds (Nat.le_refl _) (by rw [setCs_size]; exact Nat.le_refl _))⟩
section
variable {wq w5 : World} {T1 T2 : TenP} {G : Dsc} {two : Bool} {tr tc tk ur uc uk : Nat} {ta ua : Option Addr} {tx ux : List Nat}
theorem leaf1 (hb : Below wq.heap.size wq w5) (ht : GotL T1 G wq.heap.size w5 ⟨tr, tc, ta, tk, tx⟩) (hu : two = true → GotL T2 G wq.heap.size w5 ⟨ur, uc, ua, uk, ux⟩) :
    CutOk wq T1 T2 G two ((w5.alloc (.cells #[.int .i64 tr, .int .i64 tc, .slice ta tx.length tk] 37)).alloc (.cells #[.int .i64 ur, .int .i64 uc, .slice ua ux.length uk] 37)) w5.heap.size (w5.heap.size + 1) ⟨tr, tc, ta, tk, tx⟩ ⟨ur, uc, ua, uk, ux⟩ :=
  ⟨⟨(BoxN.alloc w5 #[.int .i64 tr, .int .i64 tc, .slice ta tx.length tk] 37).below (below1 _ _), BoxN.alloc2 w5 _ #[.int .i64 ur, .int .i64 uc, .slice ua ux.length uk] 37⟩, ⟨hb.size, Nat.le_succ_of_le hb.size⟩, bthen hb (below2 w5 _ _), ((ht.alloc _).alloc _).to (Nat.le_refl _), fun h => (((hu h).alloc _).alloc _).to (Nat.le_refl _)⟩
theorem leaf2 (hb : Below wq.heap.size wq w5) (ht : GotL T1 G wq.heap.size w5 ⟨tr, tc, ta, tk, tx⟩) (hu : two = true → GotL T2 G wq.heap.size w5 ⟨ur, uc, ua, uk, ux⟩) :
    CutOk wq T1 T2 G two ((w5.alloc (.cells #[.int .i64 ur, .int .i64 uc, .slice ua ux.length uk] 37)).alloc (.cells #[.int .i64 tr, .int .i64 tc, .slice ta tx.length tk] 37)) (w5.heap.size + 1) w5.heap.size ⟨tr, tc, ta, tk, tx⟩ ⟨ur, uc, ua, uk, ux⟩ :=
  ⟨⟨BoxN.alloc2 w5 _ #[.int .i64 tr, .int .i64 tc, .slice ta tx.length tk] 37, (BoxN.alloc w5 #[.int .i64 ur, .int .i64 uc, .slice ua ux.length uk] 37).below (below1 _ _)⟩, ⟨Nat.le_succ_of_le hb.size, hb.size⟩, bthen hb (below2 w5 _ _), ((ht.alloc _).alloc _).to (Nat.le_refl _), fun h => (((hu h).alloc _).alloc _).to (Nat.le_refl _)⟩
theorem leaf4 (hb : Below wq.heap.size wq w5) (hz : BoxN w5 wq.heap.size [.int .i64 0, .int .i64 0, .slice none 0 0]) (ht : GotL T1 G (wq.heap.size + 1) w5 ⟨tr, tc, ta, tk, tx⟩) (hu : two = true → GotL T2 G (wq.heap.size + 1) w5 ⟨ur, uc, ua, uk, ux⟩) :
    CutOk wq T1 T2 G two ((((w5.setCell ⟨wq.heap.size, 0, none⟩ (.int .i64 tr)).setCell ⟨wq.heap.size, 1, none⟩ (.int .i64 tc)).setCell ⟨wq.heap.size, 2, none⟩ (.slice ta tx.length tk)).alloc (.cells #[.int .i64 ur, .int .i64 uc, .slice ua ux.length uk] 37)) wq.heap.size w5.heap.size ⟨tr, tc, ta, tk, tx⟩ ⟨ur, uc, ua, uk, ux⟩ := by
  show CutOk wq T1 T2 G two ((setCs w5 wq.heap.size 0 [.int .i64 tr, .int .i64 tc, .slice ta tx.length tk]).alloc (.cells #[.int .i64 ur, .int .i64 uc, .slice ua ux.length uk] 37)) _ _ _ _
  have h2 := BoxN.alloc (setCs w5 wq.heap.size 0 [.int .i64 tr, .int .i64 tc, .slice ta tx.length tk]) #[.int .i64 ur, .int .i64 uc, .slice ua ux.length uk] 37
  rw [setCs_size] at h2
  exact ⟨⟨(hz.set3 (x := .int .i64 tr) (y := .int .i64 tc) (z := .slice ta tx.length tk)).below (below1 _ _), h2⟩, ⟨Nat.le_refl _, hb.size⟩, bthen (setCs_below hb (Nat.le_refl _) 0 [.int .i64 tr, .int .i64 tc, .slice ta tx.length tk]) (below1 _ _), ((ht.setCs 0 [.int .i64 tr, .int .i64 tc, .slice ta tx.length tk] (Nat.lt_succ_self _)).alloc _).to (Nat.le_succ _), fun h => (((hu h).setCs 0 [.int .i64 tr, .int .i64 tc, .slice ta tx.length tk] (Nat.lt_succ_self _)).alloc _).to (Nat.le_succ _)⟩
theorem leaf6 (hb : Below wq.heap.size wq w5) (hz : BoxN w5 wq.heap.size [.int .i64 0, .int .i64 0, .slice none 0 0]) (ht : GotL T1 G (wq.heap.size + 1) w5 ⟨tr, tc, ta, tk, tx⟩) (hu : two = true → GotL T2 G (wq.heap.size + 1) w5 ⟨ur, uc, ua, uk, ux⟩) :
    CutOk wq T1 T2 G two ((((w5.setCell ⟨wq.heap.size, 0, none⟩ (.int .i64 ur)).setCell ⟨wq.heap.size, 1, none⟩ (.int .i64 uc)).setCell ⟨wq.heap.size, 2, none⟩ (.slice ua ux.length uk)).alloc (.cells #[.int .i64 tr, .int .i64 tc, .slice ta tx.length tk] 37)) w5.heap.size wq.heap.size ⟨tr, tc, ta, tk, tx⟩ ⟨ur, uc, ua, uk, ux⟩ := by
  show CutOk wq T1 T2 G two ((setCs w5 wq.heap.size 0 [.int .i64 ur, .int .i64 uc, .slice ua ux.length uk]).alloc (.cells #[.int .i64 tr, .int .i64 tc, .slice ta tx.length tk] 37)) _ _ _ _
  have h2 := BoxN.alloc (setCs w5 wq.heap.size 0 [.int .i64 ur, .int .i64 uc, .slice ua ux.length uk]) #[.int .i64 tr, .int .i64 tc, .slice ta tx.length tk] 37
  rw [setCs_size] at h2
  exact ⟨⟨h2, (hz.set3 (x := .int .i64 ur) (y := .int .i64 uc) (z := .slice ua ux.length uk)).below (below1 _ _)⟩, ⟨hb.size, Nat.le_refl _⟩, bthen (setCs_below hb (Nat.le_refl _) 0 [.int .i64 ur, .int .i64 uc, .slice ua ux.length uk]) (below1 _ _), ((ht.setCs 0 [.int .i64 ur, .int .i64 uc, .slice ua ux.length uk] (Nat.lt_succ_self _)).alloc _).to (Nat.le_succ _), fun h => (((hu h).setCs 0 [.int .i64 ur, .int .i64 uc, .slice ua ux.length uk] (Nat.lt_succ_self _)).alloc _).to (Nat.le_succ _)⟩
theorem leaf5 (hb : Below wq.heap.size wq w5) (hz : BoxN w5 wq.heap.size [.int .i64 0, .int .i64 0, .slice none 0 0]) (hy : BoxN w5 (wq.heap.size + 1) [.int .i64 0, .int .i64 0, .slice none 0 0]) (ht : GotL T1 G (wq.heap.size + 2) w5 ⟨tr, tc, ta, tk, tx⟩) (hu : two = true → GotL T2 G (wq.heap.size + 2) w5 ⟨ur, uc, ua, uk, ux⟩) :
    CutOk wq T1 T2 G two ((((((w5.setCell ⟨wq.heap.size, 0, none⟩ (.int .i64 tr)).setCell ⟨wq.heap.size, 1, none⟩ (.int .i64 tc)).setCell ⟨wq.heap.size, 2, none⟩ (.slice ta tx.length tk)).setCell ⟨wq.heap.size + 1, 0, none⟩ (.int .i64 ur)).setCell ⟨wq.heap.size + 1, 1, none⟩ (.int .i64 uc)).setCell ⟨wq.heap.size + 1, 2, none⟩ (.slice ua ux.length uk)) wq.heap.size (wq.heap.size + 1) ⟨tr, tc, ta, tk, tx⟩ ⟨ur, uc, ua, uk, ux⟩ := by
  show CutOk wq T1 T2 G two (setCs (setCs w5 wq.heap.size 0 [.int .i64 tr, .int .i64 tc, .slice ta tx.length tk]) (wq.heap.size + 1) 0 [.int .i64 ur, .int .i64 uc, .slice ua ux.length uk]) _ _ _ _
  have h1 := (hz.set3 (x := .int .i64 tr) (y := .int .i64 tc) (z := .slice ta tx.length tk)).touch (setCs_touch _ (wq.heap.size + 1) 0 [.int .i64 ur, .int .i64 uc, .slice ua ux.length uk]) (.inl (Nat.lt_succ_self _))
  have h2 := (hy.touch (setCs_touch w5 wq.heap.size 0 [.int .i64 tr, .int .i64 tc, .slice ta tx.length tk]) (.inr (Nat.le_refl _))).set3 (x := .int .i64 ur) (y := .int .i64 uc) (z := .slice ua ux.length uk)
  exact ⟨⟨h1, h2⟩, ⟨Nat.le_refl _, Nat.le_succ _⟩, setCs_below (setCs_below hb (Nat.le_refl _) 0 [.int .i64 tr, .int .i64 tc, .slice ta tx.length tk]) (Nat.le_succ _) 0 [.int .i64 ur, .int .i64 uc, .slice ua ux.length uk], ((ht.setCs 0 [.int .i64 tr, .int .i64 tc, .slice ta tx.length tk] (show wq.heap.size < _ by omega)).setCs 0 [.int .i64 ur, .int .i64 uc, .slice ua ux.length uk] (show wq.heap.size + 1 < _ by omega)).to (by omega), fun h => (((hu h).setCs 0 [.int .i64 tr, .int .i64 tc, .slice ta tx.length tk] (show wq.heap.size < _ by omega)).setCs 0 [.int .i64 ur, .int .i64 uc, .slice ua ux.length uk] (show wq.heap.size + 1 < _ by omega)).to (by omega)⟩
theorem leaf7 (hb : Below wq.heap.size wq w5) (hz : BoxN w5 wq.heap.size [.int .i64 0, .int .i64 0, .slice none 0 0]) (hy : BoxN w5 (wq.heap.size + 1) [.int .i64 0, .int .i64 0, .slice none 0 0]) (ht : GotL T1 G (wq.heap.size + 2) w5 ⟨tr, tc, ta, tk, tx⟩) (hu : two = true → GotL T2 G (wq.heap.size + 2) w5 ⟨ur, uc, ua, uk, ux⟩) :
    CutOk wq T1 T2 G two ((((((w5.setCell ⟨wq.heap.size + 1, 0, none⟩ (.int .i64 tr)).setCell ⟨wq.heap.size + 1, 1, none⟩ (.int .i64 tc)).setCell ⟨wq.heap.size + 1, 2, none⟩ (.slice ta tx.length tk)).setCell ⟨wq.heap.size, 0, none⟩ (.int .i64 ur)).setCell ⟨wq.heap.size, 1, none⟩ (.int .i64 uc)).setCell ⟨wq.heap.size, 2, none⟩ (.slice ua ux.length uk)) (wq.heap.size + 1) wq.heap.size ⟨tr, tc, ta, tk, tx⟩ ⟨ur, uc, ua, uk, ux⟩ := by
  show CutOk wq T1 T2 G two (setCs (setCs w5 (wq.heap.size + 1) 0 [.int .i64 tr, .int .i64 tc, .slice ta tx.length tk]) wq.heap.size 0 [.int .i64 ur, .int .i64 uc, .slice ua ux.length uk]) _ _ _ _
  have h1 := (hy.set3 (x := .int .i64 tr) (y := .int .i64 tc) (z := .slice ta tx.length tk)).touch (setCs_touch _ wq.heap.size 0 [.int .i64 ur, .int .i64 uc, .slice ua ux.length uk]) (.inr (Nat.le_refl _))
  have h2 := (hz.touch (setCs_touch w5 (wq.heap.size + 1) 0 [.int .i64 tr, .int .i64 tc, .slice ta tx.length tk]) (.inl (Nat.lt_succ_self _))).set3 (x := .int .i64 ur) (y := .int .i64 uc) (z := .slice ua ux.length uk)
  exact ⟨⟨h1, h2⟩, ⟨Nat.le_succ _, Nat.le_refl _⟩, setCs_below (setCs_below hb (Nat.le_succ _) 0 [.int .i64 tr, .int .i64 tc, .slice ta tx.length tk]) (Nat.le_refl _) 0 [.int .i64 ur, .int .i64 uc, .slice ua ux.length uk], ((ht.setCs 0 [.int .i64 tr, .int .i64 tc, .slice ta tx.length tk] (show wq.heap.size + 1 < _ by omega)).setCs 0 [.int .i64 ur, .int .i64 uc, .slice ua ux.length uk] (show wq.heap.size < _ by omega)).to (by omega), fun h => (((hu h).setCs 0 [.int .i64 tr, .int .i64 tc, .slice ta tx.length tk] (show wq.heap.size + 1 < _ by omega)).setCs 0 [.int .i64 ur, .int .i64 uc, .slice ua ux.length uk] (show wq.heap.size < _ by omega)).to (by omega)⟩
end
end Go.Proofs.YtpadlmidojpbeaaGreat
