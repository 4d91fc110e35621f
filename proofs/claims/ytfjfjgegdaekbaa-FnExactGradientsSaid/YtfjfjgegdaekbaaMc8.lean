/- Joined texts 8: Tv1 Tv2 Gr0 Col Dsc. Each is told at its own head. No condition. -/
import Derived.Deep.RegionHeld3
import Derived.Deep.CutRange
import Derived.Deep.DeepCutAuto
import Derived.Test.YtfjfjgegdaekbaaMc2
import Derived.Test.YtfjfjgegdaekbaaMc3
import Derived.Test.YtfjfjgegdaekbaaMc4
import Derived.Test.YtfjfjgegdaekbaaMc5
import Derived.Test.YtfjfjgegdaekbaaMc7
/- The value of an operation: the program. No condition. -/
namespace Go.Proofs.Ytfjfjgegdaekbaa
open Go Go.RowKit
set_option linter.unusedVariables false
set_option linter.unusedSimpArgs false
theorem ten_spot {w : World} {ad : Option Addr} {cap : Nat} {us : List Ten} (h : SeeR tenR w ad cap us) {k : Nat} {t : Ten} (hk : us[k]? = some t) : ∃ b off, ad = some ⟨b, off, none⟩ ∧ b < w.heap.size ∧
    (w.cell? ⟨b, off + k * 3, none⟩ = some (.int .i64 t.r) ∧ w.cell? ⟨b, off + k * 3 + 1, none⟩ = some (.int .i64 t.c) ∧ w.cell? ⟨b, off + k * 3 + 2, none⟩ = some (.slice t.ad t.xs.length t.cap)) ∧ F32s w t.ad t.cap t.xs := by
  obtain ⟨b, off, e, hb, hc⟩ := h.spot hk (by decide)
  have hm := List.mem_of_getElem? hk
  exact ⟨b, off, e, hb, ⟨hc 0 (by decide), hc 1 (by decide), hc 2 (by decide)⟩, (h.inn t hm _ (List.mem_singleton.2 rfl)).f32s (h.ok t hm)⟩
theorem vGet_map {us : List Ten} {V : List TenP} (hV : us.map (fun t => t.toTenP.can) = V) {k : Nat} {t : Ten} (hk : us[k]? = some t) : vGet V (k : Nat) = t.toTenP.can := by
  unfold vGet
  rw [← hV, show ((k : Nat) : Int).toNat = k by simp, List.getD_eq_getElem?_getD, List.getElem?_map, hk]; rfl
/-- the sides of a valid value are natural numbers -/
theorem okT.nat {t : TenP} (h : okT t) : ∃ r c : Nat, t.r = r ∧ t.c = c ∧ (1 ≤ r ∧ r ≤ 16) ∧ (1 ≤ c ∧ c ≤ 16) ∧ t.xs.length = r * c := by
  obtain ⟨h1, h2, h3, h4, h5⟩ := h
  exact ⟨t.r.toNat, t.c.toNat, by omega, by omega, by omega, by omega, h5⟩
set_option maxHeartbeats 64000000 in
set_option maxRecDepth 100000 in
theorem impl_value (w : World) (o : OpD) (ad : Option Addr) (cap : Nat) (us : List Ten) (hu : SeeR tenR w ad cap us) (V : List TenP) (hV : us.map (fun t => t.toTenP.can) = V) (hok : ∀ t ∈ V, okT t) (i : Nat) (hi : us.length = i) (hi2 : i ≤ 48) (hf : fitsB i o.toOpP = true) (hs : o.k ≠ 0 → ∃ s, shapeOf o.k (vGet V o.a).sh (vGet V o.b).sh = some s) (hx : F32s w o.ad o.cap o.xs) (hnil : o.ad = none → o.cap = 0) (hxl : o.xs.length ≤ 1048576) :
    Calls Try.prog 48 #[o.val, .slice ad i cap] w (TenPost (stepV V o.toOpP).r (stepV V o.toOpP).c (stepV V o.toOpP).xs.length (stepV V o.toOpP).xs w) := by
  by_cases h0 : o.k = 0
  · have hst : stepV V o.toOpP = ⟨o.r, o.c, o.xs.map (cn .f32)⟩ := by unfold stepV; rw [if_pos h0]
    rw [hst]
    show Calls Try.prog 48 _ w (TenPost o.r o.c (o.xs.map (cn .f32)).length (o.xs.map (cn .f32)) w)
    rw [List.length_map]
    obtain ⟨⟨kk, a, b', q, r, c, xs⟩, adx, capx⟩ := o
    have h0 : kk = 0 := h0
    subst h0
    show Calls Try.prog 48 #[.agg #[.int .i64 0, .int .i64 a, .int .i64 b', .float .f32 q, .int .i64 r, .int .i64 c, .slice adx xs.length capx], .slice ad i cap] w (TenPost r c xs.length (xs.map (cn .f32)) w)
    have hx : F32s w adx capx xs := hx
    have hnil : adx = none → capx = 0 := hnil
    have hxl : xs.length ≤ 1048576 := hxl
    obtain ⟨n, hN⟩ : ∃ n, n = xs.length := ⟨_, rfl⟩
    rw [← hN] at hxl ⊢
    have K := Lib.hid (fun W (hb : Below w.heap.size w W) => impl_copyTensorT W r c adx capx xs (hx.below hb) hnil n hN.symm hxl)
    have RB := Lib.hid (BoxN.alloc2 w (.cells #[.int .i64 0, .int .i64 a, .int .i64 b', .float .f32 q, .int .i64 r, .int .i64 c, .slice adx n capx] 46) #[.int .i64 0, .int .i64 0, .slice none 0 0] 44)
    have B := Lib.hid (below2 w (.cells #[.int .i64 0, .int .i64 a, .int .i64 b', .float .f32 q, .int .i64 r, .int .i64 c, .slice adx n capx] 46) (.cells #[.int .i64 0, .int .i64 0, .slice none 0 0] 44))
    clear hx hnil hu hV hok hs hf hN hst
    go_enter Try.func48, Try.ntmps48
    go_wp2_with fail
    refine (K.out _ B.out).mono ?_
    rintro e w' ⟨va, vc, zs, rfl, RO, RM, hb⟩
    obtain ⟨rl, r0, r1, r2, rf⟩ := (RB.out.below hb).three
    have hbw := bthen B.out hb
    have hz := hb.size
    simp at hz
    have hfin := setCs_repF (g := w.heap.size + 1) (lo' := w.heap.size) (i := 0) RO.out (by simp) (by simp; omega) (Nat.le_refl _) [.int .i64 r, .int .i64 c, .slice va n vc]
    have hbf := setCs_below hbw (g := w.heap.size + 1) (by omega) 0 [.int .i64 r, .int .i64 c, .slice va n vc]
    have HF := Lib.hid hfin; have HBF := Lib.hid hbf
    clear hfin hbf hbw hb
    go_wp2
    try simp only [Exit.inBlock, Exit.then]
    refine bodyPost_ret (v := .agg #[.int .i64 r, .int .i64 c, .slice va n vc]) (by simp [results, Try.results48, go_sem, r0, r1, r2]) rfl (ten_of rfl HF RM.out HBF.out)
  · have hst : stepV V o.toOpP = valV o.k (vGet V o.a) (vGet V o.b) (cn .f32 o.num) := by unfold stepV; rw [if_neg h0]
    obtain ⟨s, hs⟩ := hs h0
    have hk10 := fitsB_in hf
    have ha := fitsB_args hf h0
    obtain ⟨A, hA⟩ : ∃ A : Nat, o.a = A := ⟨o.a.toNat, by have := ha.1.1; omega⟩
    obtain ⟨B, hB⟩ : ∃ B : Nat, o.b = B := ⟨o.b.toNat, by have := ha.2.1.1; omega⟩
    have hAi : A < i := by have := ha.1.2; rw [show o.toOpP.a = o.a from rfl, hA] at this; omega
    have hBi : B < i := by have := ha.2.1.2; rw [show o.toOpP.b = o.b from rfl, hB] at this; omega
    obtain ⟨tv, htv⟩ := getElem?_lt (show A < us.length by omega)
    obtain ⟨tw, htw⟩ := getElem?_lt (show B < us.length by omega)
    rw [hA, hB, vGet_map hV htv, vGet_map hV htw] at hs hst
    have okv : okT tv.toTenP.can := hok _ (by rw [← hV]; exact List.mem_map_of_mem (List.mem_of_getElem? htv))
    have okw : okT tw.toTenP.can := hok _ (by rw [← hV]; exact List.mem_map_of_mem (List.mem_of_getElem? htw))
    rw [hst]
    obtain ⟨b, off, rfl, hbl, ⟨p0, p1, p2⟩, hxv⟩ := ten_spot hu htv
    obtain ⟨b2, off2, eq2, _, ⟨q0, q1, q2⟩, hxw⟩ := ten_spot hu htw
    cases eq2
    obtain ⟨⟨kk, a, b', q, r, c, xs⟩, adx, capx⟩ := o
    have hA : a = A := hA
    have hB : b' = B := hB
    subst hA hB
    obtain ⟨⟨rv0, cv0, xv⟩, av, kv⟩ := tv
    obtain ⟨⟨rw0, cw0, xw⟩, aw, kw⟩ := tw
    obtain ⟨rv, cv, e1, e2, hrv, hcv, hlv⟩ := okv.nat
    obtain ⟨rw', cw, e3, e4, hrw, hcw, hlw⟩ := okw.nat
    have e1 : rv0 = rv := e1
    have e2 : cv0 = cv := e2
    have e3 : rw0 = rw' := e3
    have e4 : cw0 = cw := e4
    subst e1 e2 e3 e4
    have hlv : (xv.map (cn .f32)).length = rv * cv := hlv
    have hlw : (xw.map (cn .f32)).length = rw' * cw := hlw
    have hk10 : 0 ≤ kk ∧ kk ≤ 10 := hk10
    have h0 : ¬ kk = 0 := h0
    have hs : shapeOf kk (((rv : Nat) : Int), ((cv : Nat) : Int)) (((rw' : Nat) : Int), ((cw : Nat) : Int)) = some s := hs
    show Calls Try.prog 48 #[.agg #[.int .i64 kk, .int .i64 A, .int .i64 B, .float .f32 q, .int .i64 r, .int .i64 c, .slice adx xs.length capx], .slice (some ⟨b, off, none⟩) i cap] w (TenPost (valV kk ⟨rv, cv, xv.map (cn .f32)⟩ ⟨rw', cw, xw.map (cn .f32)⟩ (cn .f32 q)).r (valV kk ⟨rv, cv, xv.map (cn .f32)⟩ ⟨rw', cw, xw.map (cn .f32)⟩ (cn .f32 q)).c (valV kk ⟨rv, cv, xv.map (cn .f32)⟩ ⟨rw', cw, xw.map (cn .f32)⟩ (cn .f32 q)).xs.length (valV kk ⟨rv, cv, xv.map (cn .f32)⟩ ⟨rw', cw, xw.map (cn .f32)⟩ (cn .f32 q)).xs w)
    rw [List.length_map] at hlv hlw
    simp only at p0 p1 p2 q0 q1 q2 hxv hxw
    obtain ⟨n1, hn1⟩ : ∃ n, n = xv.length := ⟨_, rfl⟩
    obtain ⟨n2, hn2⟩ : ∃ n, n = xw.length := ⟨_, rfl⟩
    rw [← hn1] at hlv p2
    rw [← hn2] at hlw q2
    obtain ⟨nx, hnx⟩ : ∃ n, n = xs.length := ⟨_, rfl⟩
    rw [← hnx]
    have hn256 : n1 ≤ 256 := by rw [hlv]; exact Nat.mul_le_mul hrv.2 hcv.2
    have HXV := Lib.hid hxv; have HXW := Lib.hid hxw; have HN1 := Lib.hid hn1; have HN2 := Lib.hid hn2; have HLV := Lib.hid hlv; have HLW := Lib.hid hlw; have HSH := Lib.hid hs
    have HRV := Lib.hid hrv; have HCV := Lib.hid hcv; have HRW := Lib.hid hrw; have HCW := Lib.hid hcw
    clear hxv hxw hn1 hn2 hlv hlw hnx hst htv htw okv okw hV hok hu hi hf hs hx hnil hxl ha hrv hcv hrw hcw
    have RB := Lib.hid (BoxN.alloc2 w (.cells #[.int .i64 kk, .int .i64 A, .int .i64 B, .float .f32 q, .int .i64 r, .int .i64 c, .slice adx nx capx] 46) #[.int .i64 0, .int .i64 0, .slice none 0 0] 44)
    have OB := Lib.hid ((BoxN.alloc w #[.int .i64 kk, .int .i64 A, .int .i64 B, .float .f32 q, .int .i64 r, .int .i64 c, .slice adx nx capx] 46).below (below1 _ (.cells #[.int .i64 0, .int .i64 0, .slice none 0 0] 44)))
    have B0 := Lib.hid (below2 w (.cells #[.int .i64 kk, .int .i64 A, .int .i64 B, .float .f32 q, .int .i64 r, .int .i64 c, .slice adx nx capx] 46) (.cells #[.int .i64 0, .int .i64 0, .slice none 0 0] 44))
    have HP := Lib.hid (And.intro p0 (And.intro p1 (And.intro p2 (And.intro q0 (And.intro q1 q2)))))
    clear p0 p1 p2 q0 q1 q2
    have hk0' : (kk == 0) = false := by simpa using h0
    go_enter Try.func48, Try.ntmps48
    go_upto_region 3 with fail
    obtain ⟨W1, hW1⟩ : ∃ W, W = ((w.alloc (.cells #[.int .i64 kk, .int .i64 A, .int .i64 B, .float .f32 q, .int .i64 r, .int .i64 c, .slice adx nx capx] 46)).alloc (.cells #[.int .i64 0, .int .i64 0, .slice none 0 0] 44)) := ⟨_, rfl⟩
    have hz1 : W1.heap.size = w.heap.size + 1 + 1 := by rw [hW1]; simp
    rw [← hW1] at RB OB B0 ⊢
    obtain ⟨-, x0, x1, x2, x3, x4, x5, x6, xf⟩ := OB.out.seven
    have c0 : W1.cell? ⟨b, off + A * 3, none⟩ = some (.int .i64 rv) := (B0.out.cell (p := ⟨b, off + A * 3, none⟩) hbl).trans HP.out.1
    have c1 : W1.cell? ⟨b, off + A * 3 + 1, none⟩ = some (.int .i64 cv) := (B0.out.cell (p := ⟨b, off + A * 3 + 1, none⟩) hbl).trans HP.out.2.1
    have c2 : W1.cell? ⟨b, off + A * 3 + 2, none⟩ = some (.slice av n1 kv) := (B0.out.cell (p := ⟨b, off + A * 3 + 2, none⟩) hbl).trans HP.out.2.2.1
    have d0 : W1.cell? ⟨b, off + B * 3, none⟩ = some (.int .i64 rw') := (B0.out.cell (p := ⟨b, off + B * 3, none⟩) hbl).trans HP.out.2.2.2.1
    have d1 : W1.cell? ⟨b, off + B * 3 + 1, none⟩ = some (.int .i64 cw) := (B0.out.cell (p := ⟨b, off + B * 3 + 1, none⟩) hbl).trans HP.out.2.2.2.2.1
    have d2 : W1.cell? ⟨b, off + B * 3 + 2, none⟩ = some (.slice aw n2 kw) := (B0.out.cell (p := ⟨b, off + B * 3 + 2, none⟩) hbl).trans HP.out.2.2.2.2.2
    have hbl1 : b < W1.heap.size := by omega
    have HZ1 := Lib.hid hz1
    clear HP hW1 x0 x3 x4 x5 x6 xf hz1
    go_cut [5, 6] (fun p7 p8 wx => ∃ g7 g8 : Nat, p7 = .pointer (some ⟨g7, 0, none⟩) ∧ p8 = .pointer (some ⟨g8, 0, none⟩) ∧ Hid (BoxN wx g7 [.int .i64 rv, .int .i64 cv, .slice av n1 kv] ∧ BoxN wx g8 [.int .i64 rw', .int .i64 cw, .slice aw n2 kw] ∧ Below W1.heap.size W1 wx))
    case first =>
      go_region_held3 (fun w' => (w'.cell? ⟨w.heap.size, 1, none⟩ = some (.int .i64 A) ∧ w'.cell? ⟨w.heap.size, 2, none⟩ = some (.int .i64 B)) ∧ (w'.cell? ⟨b, off + A * 3, none⟩ = some (.int .i64 rv) ∧ w'.cell? ⟨b, off + A * 3 + 1, none⟩ = some (.int .i64 cv) ∧ w'.cell? ⟨b, off + A * 3 + 2, none⟩ = some (.slice av n1 kv)) ∧ (w'.cell? ⟨b, off + B * 3, none⟩ = some (.int .i64 rw') ∧ w'.cell? ⟨b, off + B * 3 + 1, none⟩ = some (.int .i64 cw) ∧ w'.cell? ⟨b, off + B * 3 + 2, none⟩ = some (.slice aw n2 kw))) (go_keep) (first | fail)
      all_goals (try go_wp2_with fail)
      all_goals go_meet
      · exact ⟨_, _, rfl, rfl, Lib.hid ⟨((BoxN.alloc W1 #[.int .i64 rv, .int .i64 cv, .slice av n1 kv] 44).below (below1 _ _)).below (Below.drew (Below.refl _ _)), (BoxN.alloc2 W1 _ #[.int .i64 rw', .int .i64 cw, .slice aw n2 kw] 44).below (Below.drew (Below.refl _ _)), Below.drew (below2 _ _ _)⟩⟩
      · exact ⟨_, _, rfl, rfl, Lib.hid ⟨(BoxN.alloc2 W1 _ #[.int .i64 rv, .int .i64 cv, .slice av n1 kv] 44).below (Below.drew (Below.refl _ _)), ((BoxN.alloc W1 #[.int .i64 rw', .int .i64 cw, .slice aw n2 kw] 44).below (below1 _ _)).below (Below.drew (Below.refl _ _)), Below.drew (below2 _ _ _)⟩⟩
    case rest =>
      obtain ⟨g7, g8, rfl, rfl, HC⟩ := hcut
      obtain ⟨-, x0, x1, x2, x3, x4, x5, x6, xf⟩ := (OB.out.below HC.out.2.2).seven
      obtain ⟨-, y0, y1, y2, yf⟩ := HC.out.1.three
      obtain ⟨-, z0, z1, z2, zf⟩ := HC.out.2.1.three
      have RB2 := Lib.hid (RB.out.below HC.out.2.2)
      have BC := Lib.hid (bthen B0.out HC.out.2.2)
      have hzc : w.heap.size + 1 + 1 ≤ wc.heap.size := by have := HC.out.2.2.size; have := HZ1.out; omega
      have FV := Lib.hid (fun W (hb : Below wc.heap.size wc W) => HXV.out.below (bthen BC.out hb)); have FW := Lib.hid (fun W (hb : Below wc.heap.size wc W) => HXW.out.below (bthen BC.out hb))
      clear c0 c1 c2 d0 d1 d2 HXV HXW HC OB RB B0 x1 x2 x4 x5 x6 xf yf zf hbl hbl1
      have h1k : 1 ≤ kk := by omega
      rcases (by omega : kk = 1 ∨ kk = 2 ∨ kk = 3 ∨ kk = 4 ∨ kk = 5 ∨ kk = 6 ∨ kk = 7 ∨ kk = 8 ∨ kk = 9 ∨ kk = 10) with rfl | rfl | rfl | rfl | rfl | rfl | rfl | rfl | rfl | rfl
      · as_aux_lemma =>
          have HVV : Hid (valV 1 ⟨rv, cv, (xv.map (cn .f32))⟩ ⟨rw', cw, (xw.map (cn .f32))⟩ (cn .f32 q) = ⟨rv, cv, tenE .add (xv.map (cn .f32)) (xw.map (cn .f32)) n1⟩) := Lib.hid (by simp [valV, ← HN1.out])
          have HVL : Hid ((valV 1 ⟨rv, cv, (xv.map (cn .f32))⟩ ⟨rw', cw, (xw.map (cn .f32))⟩ (cn .f32 q)).xs.length = n1) := Lib.hid (by rw [HVV.out]; exact listOf_length _ _)
          have HVX : Hid ((valV 1 ⟨rv, cv, (xv.map (cn .f32))⟩ ⟨rw', cw, (xw.map (cn .f32))⟩ (cn .f32 q)).xs = tenE .add (xv.map (cn .f32)) (xw.map (cn .f32)) n1) := Lib.hid (by rw [HVV.out])
          have HVR : Hid ((valV 1 ⟨rv, cv, (xv.map (cn .f32))⟩ ⟨rw', cw, (xw.map (cn .f32))⟩ (cn .f32 q)).r = rv ∧ (valV 1 ⟨rv, cv, (xv.map (cn .f32))⟩ ⟨rw', cw, (xw.map (cn .f32))⟩ (cn .f32 q)).c = cv) := Lib.hid (by rw [HVV.out]; exact ⟨rfl, rfl⟩)
          have hsh : rv = rw' ∧ cv = cw := by have := HSH.out; simp [shapeOf] at this; omega
          obtain ⟨rfl, rfl⟩ := hsh
          have hnn : n1 = n2 := by rw [HLV.out, HLW.out]
          subst hnn
          go_wp2_with fail
          refine (impl_addTensors _ rv cv rv cv av aw kv kw n1 xv xw (FV.out _ (Below.refl _ _)) (FW.out _ (Below.refl _ _)) HN1.out.symm HN2.out.symm hn256).mono ?_
          rintro e w' ⟨va, vc, zs, rfl, RO, RM, hb⟩
          obtain ⟨rl, r0, r1, r2, rf⟩ := (RB2.out.below hb).three
          have hbw := bthen BC.out hb
          have hz := hb.size
          have hfin := setCs_repF (g := w.heap.size + 1) (lo' := w.heap.size) (i := 0) RO.out (by omega) (by omega) (Nat.le_refl _) [.int .i64 rv, .int .i64 cv, .slice va n1 vc]
          have hbf := setCs_below hbw (g := w.heap.size + 1) (by omega) 0 [.int .i64 rv, .int .i64 cv, .slice va n1 vc]
          have HF := Lib.hid hfin; have HBF := Lib.hid hbf
          clear hfin hbf hbw hb x0 x3 y0 y1 y2 z0 z1 z2 FV FW RB2 BC
          have hl9 := RO.out.len
          have hP : zs.map (cn .f32) = tenE .add (xv.map (cn .f32)) (xw.map (cn .f32)) n1 := RM.out
          go_wp2
          try simp only [Exit.inBlock, Exit.then]
          refine bodyPost_ret (v := .agg #[.int .i64 rv, .int .i64 cv, .slice va n1 vc]) (by simp [results, Try.results48, go_sem, r0, r1, r2]) rfl (ten_of (by rw [HVR.out.1, HVR.out.2, HVL.out]; try rfl) (by rw [HVL.out]; exact HF) (by rw [HVX.out]; exact hP) HBF.out)
      · as_aux_lemma =>
          have HVV : Hid (valV 2 ⟨rv, cv, (xv.map (cn .f32))⟩ ⟨rw', cw, (xw.map (cn .f32))⟩ (cn .f32 q) = ⟨rv, cv, rowE .add (xv.map (cn .f32)) (xw.map (cn .f32)) cv n1⟩) := Lib.hid (by simp [valV, ← HN1.out])
          have HVL : Hid ((valV 2 ⟨rv, cv, (xv.map (cn .f32))⟩ ⟨rw', cw, (xw.map (cn .f32))⟩ (cn .f32 q)).xs.length = n1) := Lib.hid (by rw [HVV.out]; exact listOf_length _ _)
          have HVX : Hid ((valV 2 ⟨rv, cv, (xv.map (cn .f32))⟩ ⟨rw', cw, (xw.map (cn .f32))⟩ (cn .f32 q)).xs = rowE .add (xv.map (cn .f32)) (xw.map (cn .f32)) cv n1) := Lib.hid (by rw [HVV.out])
          have HVR : Hid ((valV 2 ⟨rv, cv, (xv.map (cn .f32))⟩ ⟨rw', cw, (xw.map (cn .f32))⟩ (cn .f32 q)).r = rv ∧ (valV 2 ⟨rv, cv, (xv.map (cn .f32))⟩ ⟨rw', cw, (xw.map (cn .f32))⟩ (cn .f32 q)).c = cv) := Lib.hid (by rw [HVV.out]; exact ⟨rfl, rfl⟩)
          have hsh : rw' = 1 ∧ cv = cw := by have := HSH.out; simp [shapeOf] at this; omega
          obtain ⟨rfl, rfl⟩ := hsh
          have hnn : cv = n2 := by rw [HLW.out, Nat.one_mul]
          subst hnn
          go_wp2_with fail
          refine (impl_addRow _ rv cv av aw kv kw n1 xv xw (FV.out _ (Below.refl _ _)) (FW.out _ (Below.refl _ _)) HN1.out.symm HN2.out.symm hn256 HCV.out.1 HCV.out.2).mono ?_
          rintro e w' ⟨va, vc, zs, rfl, RO, RM, hb⟩
          obtain ⟨rl, r0, r1, r2, rf⟩ := (RB2.out.below hb).three
          have hbw := bthen BC.out hb
          have hz := hb.size
          have hfin := setCs_repF (g := w.heap.size + 1) (lo' := w.heap.size) (i := 0) RO.out (by omega) (by omega) (Nat.le_refl _) [.int .i64 rv, .int .i64 cv, .slice va n1 vc]
          have hbf := setCs_below hbw (g := w.heap.size + 1) (by omega) 0 [.int .i64 rv, .int .i64 cv, .slice va n1 vc]
          have HF := Lib.hid hfin; have HBF := Lib.hid hbf
          clear hfin hbf hbw hb x0 x3 y0 y1 y2 z0 z1 z2 FV FW RB2 BC
          have hl9 := RO.out.len
          have hP : zs.map (cn .f32) = rowE .add (xv.map (cn .f32)) (xw.map (cn .f32)) cv n1 := RM.out
          go_wp2
          try simp only [Exit.inBlock, Exit.then]
          refine bodyPost_ret (v := .agg #[.int .i64 rv, .int .i64 cv, .slice va n1 vc]) (by simp [results, Try.results48, go_sem, r0, r1, r2]) rfl (ten_of (by rw [HVR.out.1, HVR.out.2, HVL.out]; try rfl) (by rw [HVL.out]; exact HF) (by rw [HVX.out]; exact hP) HBF.out)
      · as_aux_lemma =>
          have HVV : Hid (valV 3 ⟨rv, cv, (xv.map (cn .f32))⟩ ⟨rw', cw, (xw.map (cn .f32))⟩ (cn .f32 q) = ⟨rv, cv, tenE .mul (xv.map (cn .f32)) (xw.map (cn .f32)) n1⟩) := Lib.hid (by simp [valV, ← HN1.out])
          have HVL : Hid ((valV 3 ⟨rv, cv, (xv.map (cn .f32))⟩ ⟨rw', cw, (xw.map (cn .f32))⟩ (cn .f32 q)).xs.length = n1) := Lib.hid (by rw [HVV.out]; exact listOf_length _ _)
          have HVX : Hid ((valV 3 ⟨rv, cv, (xv.map (cn .f32))⟩ ⟨rw', cw, (xw.map (cn .f32))⟩ (cn .f32 q)).xs = tenE .mul (xv.map (cn .f32)) (xw.map (cn .f32)) n1) := Lib.hid (by rw [HVV.out])
          have HVR : Hid ((valV 3 ⟨rv, cv, (xv.map (cn .f32))⟩ ⟨rw', cw, (xw.map (cn .f32))⟩ (cn .f32 q)).r = rv ∧ (valV 3 ⟨rv, cv, (xv.map (cn .f32))⟩ ⟨rw', cw, (xw.map (cn .f32))⟩ (cn .f32 q)).c = cv) := Lib.hid (by rw [HVV.out]; exact ⟨rfl, rfl⟩)
          have hsh : rv = rw' ∧ cv = cw := by have := HSH.out; simp [shapeOf] at this; omega
          obtain ⟨rfl, rfl⟩ := hsh
          have hnn : n1 = n2 := by rw [HLV.out, HLW.out]
          subst hnn
          go_wp2_with fail
          refine (impl_mulTensors _ rv cv rv cv av aw kv kw n1 xv xw (FV.out _ (Below.refl _ _)) (FW.out _ (Below.refl _ _)) HN1.out.symm HN2.out.symm hn256).mono ?_
          rintro e w' ⟨va, vc, zs, rfl, RO, RM, hb⟩
          obtain ⟨rl, r0, r1, r2, rf⟩ := (RB2.out.below hb).three
          have hbw := bthen BC.out hb
          have hz := hb.size
          have hfin := setCs_repF (g := w.heap.size + 1) (lo' := w.heap.size) (i := 0) RO.out (by omega) (by omega) (Nat.le_refl _) [.int .i64 rv, .int .i64 cv, .slice va n1 vc]
          have hbf := setCs_below hbw (g := w.heap.size + 1) (by omega) 0 [.int .i64 rv, .int .i64 cv, .slice va n1 vc]
          have HF := Lib.hid hfin; have HBF := Lib.hid hbf
          clear hfin hbf hbw hb x0 x3 y0 y1 y2 z0 z1 z2 FV FW RB2 BC
          have hl9 := RO.out.len
          have hP : zs.map (cn .f32) = tenE .mul (xv.map (cn .f32)) (xw.map (cn .f32)) n1 := RM.out
          go_wp2
          try simp only [Exit.inBlock, Exit.then]
          refine bodyPost_ret (v := .agg #[.int .i64 rv, .int .i64 cv, .slice va n1 vc]) (by simp [results, Try.results48, go_sem, r0, r1, r2]) rfl (ten_of (by rw [HVR.out.1, HVR.out.2, HVL.out]; try rfl) (by rw [HVL.out]; exact HF) (by rw [HVX.out]; exact hP) HBF.out)
      · as_aux_lemma =>
          have HVV : Hid (valV 4 ⟨rv, cv, (xv.map (cn .f32))⟩ ⟨rw', cw, (xw.map (cn .f32))⟩ (cn .f32 q) = ⟨rv, cv, rowE .mul (xv.map (cn .f32)) (xw.map (cn .f32)) cv n1⟩) := Lib.hid (by simp [valV, ← HN1.out])
          have HVL : Hid ((valV 4 ⟨rv, cv, (xv.map (cn .f32))⟩ ⟨rw', cw, (xw.map (cn .f32))⟩ (cn .f32 q)).xs.length = n1) := Lib.hid (by rw [HVV.out]; exact listOf_length _ _)
          have HVX : Hid ((valV 4 ⟨rv, cv, (xv.map (cn .f32))⟩ ⟨rw', cw, (xw.map (cn .f32))⟩ (cn .f32 q)).xs = rowE .mul (xv.map (cn .f32)) (xw.map (cn .f32)) cv n1) := Lib.hid (by rw [HVV.out])
          have HVR : Hid ((valV 4 ⟨rv, cv, (xv.map (cn .f32))⟩ ⟨rw', cw, (xw.map (cn .f32))⟩ (cn .f32 q)).r = rv ∧ (valV 4 ⟨rv, cv, (xv.map (cn .f32))⟩ ⟨rw', cw, (xw.map (cn .f32))⟩ (cn .f32 q)).c = cv) := Lib.hid (by rw [HVV.out]; exact ⟨rfl, rfl⟩)
          have hsh : rw' = 1 ∧ cv = cw := by have := HSH.out; simp [shapeOf] at this; omega
          obtain ⟨rfl, rfl⟩ := hsh
          have hnn : cv = n2 := by rw [HLW.out, Nat.one_mul]
          subst hnn
          go_wp2_with fail
          refine (impl_mulRow _ rv cv av aw kv kw n1 xv xw (FV.out _ (Below.refl _ _)) (FW.out _ (Below.refl _ _)) HN1.out.symm HN2.out.symm hn256 HCV.out.1 HCV.out.2).mono ?_
          rintro e w' ⟨va, vc, zs, rfl, RO, RM, hb⟩
          obtain ⟨rl, r0, r1, r2, rf⟩ := (RB2.out.below hb).three
          have hbw := bthen BC.out hb
          have hz := hb.size
          have hfin := setCs_repF (g := w.heap.size + 1) (lo' := w.heap.size) (i := 0) RO.out (by omega) (by omega) (Nat.le_refl _) [.int .i64 rv, .int .i64 cv, .slice va n1 vc]
          have hbf := setCs_below hbw (g := w.heap.size + 1) (by omega) 0 [.int .i64 rv, .int .i64 cv, .slice va n1 vc]
          have HF := Lib.hid hfin; have HBF := Lib.hid hbf
          clear hfin hbf hbw hb x0 x3 y0 y1 y2 z0 z1 z2 FV FW RB2 BC
          have hl9 := RO.out.len
          have hP : zs.map (cn .f32) = rowE .mul (xv.map (cn .f32)) (xw.map (cn .f32)) cv n1 := RM.out
          go_wp2
          try simp only [Exit.inBlock, Exit.then]
          refine bodyPost_ret (v := .agg #[.int .i64 rv, .int .i64 cv, .slice va n1 vc]) (by simp [results, Try.results48, go_sem, r0, r1, r2]) rfl (ten_of (by rw [HVR.out.1, HVR.out.2, HVL.out]; try rfl) (by rw [HVL.out]; exact HF) (by rw [HVX.out]; exact hP) HBF.out)
      · as_aux_lemma =>
          have HVV : Hid (valV 5 ⟨rv, cv, (xv.map (cn .f32))⟩ ⟨rw', cw, (xw.map (cn .f32))⟩ (cn .f32 q) = ⟨rv, cv, scaE (xv.map (cn .f32)) (cn .f32 q) n1⟩) := Lib.hid (by simp [valV, ← HN1.out])
          have HVL : Hid ((valV 5 ⟨rv, cv, (xv.map (cn .f32))⟩ ⟨rw', cw, (xw.map (cn .f32))⟩ (cn .f32 q)).xs.length = n1) := Lib.hid (by rw [HVV.out]; exact listOf_length _ _)
          have HVX : Hid ((valV 5 ⟨rv, cv, (xv.map (cn .f32))⟩ ⟨rw', cw, (xw.map (cn .f32))⟩ (cn .f32 q)).xs = scaE (xv.map (cn .f32)) (cn .f32 q) n1) := Lib.hid (by rw [HVV.out])
          have HVR : Hid ((valV 5 ⟨rv, cv, (xv.map (cn .f32))⟩ ⟨rw', cw, (xw.map (cn .f32))⟩ (cn .f32 q)).r = rv ∧ (valV 5 ⟨rv, cv, (xv.map (cn .f32))⟩ ⟨rw', cw, (xw.map (cn .f32))⟩ (cn .f32 q)).c = cv) := Lib.hid (by rw [HVV.out]; exact ⟨rfl, rfl⟩)
          go_wp2_with fail
          refine (impl_scaleTensorT _ rv cv av kv xv (FV.out _ (Below.refl _ _)) n1 HN1.out.symm hn256 q).mono ?_
          rintro e w' ⟨va, vc, zs, rfl, RO, RM, hb⟩
          obtain ⟨rl, r0, r1, r2, rf⟩ := (RB2.out.below hb).three
          have hbw := bthen BC.out hb
          have hz := hb.size
          have hfin := setCs_repF (g := w.heap.size + 1) (lo' := w.heap.size) (i := 0) RO.out (by omega) (by omega) (Nat.le_refl _) [.int .i64 rv, .int .i64 cv, .slice va n1 vc]
          have hbf := setCs_below hbw (g := w.heap.size + 1) (by omega) 0 [.int .i64 rv, .int .i64 cv, .slice va n1 vc]
          have HF := Lib.hid hfin; have HBF := Lib.hid hbf
          clear hfin hbf hbw hb x0 x3 y0 y1 y2 z0 z1 z2 FV FW RB2 BC
          have hl9 := RO.out.len
          have hP : zs.map (cn .f32) = scaE (xv.map (cn .f32)) (cn .f32 q) n1 := RM.out
          go_wp2
          try simp only [Exit.inBlock, Exit.then]
          refine bodyPost_ret (v := .agg #[.int .i64 rv, .int .i64 cv, .slice va n1 vc]) (by simp [results, Try.results48, go_sem, r0, r1, r2]) rfl (ten_of (by rw [HVR.out.1, HVR.out.2, HVL.out]; try rfl) (by rw [HVL.out]; exact HF) (by rw [HVX.out]; exact hP) HBF.out)
      · as_aux_lemma =>
          have HVV : Hid (valV 6 ⟨rv, cv, (xv.map (cn .f32))⟩ ⟨rw', cw, (xw.map (cn .f32))⟩ (cn .f32 q) = ⟨rv, cw, matE (xv.map (cn .f32)) (xw.map (cn .f32)) cv cw (rv * cw)⟩) := Lib.hid (by simp [valV, ← HN1.out])
          have HVL : Hid ((valV 6 ⟨rv, cv, (xv.map (cn .f32))⟩ ⟨rw', cw, (xw.map (cn .f32))⟩ (cn .f32 q)).xs.length = (rv * cw)) := Lib.hid (by rw [HVV.out]; exact listOf_length _ _)
          have HVX : Hid ((valV 6 ⟨rv, cv, (xv.map (cn .f32))⟩ ⟨rw', cw, (xw.map (cn .f32))⟩ (cn .f32 q)).xs = matE (xv.map (cn .f32)) (xw.map (cn .f32)) cv cw (rv * cw)) := Lib.hid (by rw [HVV.out])
          have HVR : Hid ((valV 6 ⟨rv, cv, (xv.map (cn .f32))⟩ ⟨rw', cw, (xw.map (cn .f32))⟩ (cn .f32 q)).r = rv ∧ (valV 6 ⟨rv, cv, (xv.map (cn .f32))⟩ ⟨rw', cw, (xw.map (cn .f32))⟩ (cn .f32 q)).c = cw) := Lib.hid (by rw [HVV.out]; exact ⟨rfl, rfl⟩)
          have hsh : cv = rw' := by have := HSH.out; simp [shapeOf] at this; omega
          subst hsh
          go_wp2_with fail
          refine (impl_matMul _ rv cv cw av aw kv kw n1 n2 xv xw (FV.out _ (Below.refl _ _)) (FW.out _ (Below.refl _ _)) HN1.out.symm HN2.out.symm HRV.out.1 HRV.out.2 HCV.out.1 HCV.out.2 HCW.out.1 HCW.out.2 HLV.out HLW.out).mono ?_
          rintro e w' ⟨va, vc, zs, rfl, RO, RM, hb⟩
          obtain ⟨rl, r0, r1, r2, rf⟩ := (RB2.out.below hb).three
          have hbw := bthen BC.out hb
          have hz := hb.size
          have hfin := setCs_repF (g := w.heap.size + 1) (lo' := w.heap.size) (i := 0) RO.out (by omega) (by omega) (Nat.le_refl _) [.int .i64 rv, .int .i64 cw, .slice va (rv * cw) vc]
          have hbf := setCs_below hbw (g := w.heap.size + 1) (by omega) 0 [.int .i64 rv, .int .i64 cw, .slice va (rv * cw) vc]
          have HF := Lib.hid hfin; have HBF := Lib.hid hbf
          clear hfin hbf hbw hb x0 x3 y0 y1 y2 z0 z1 z2 FV FW RB2 BC
          have hl9 := RO.out.len
          have hP : zs.map (cn .f32) = matE (xv.map (cn .f32)) (xw.map (cn .f32)) cv cw (rv * cw) := RM.out
          go_wp2
          try simp only [Exit.inBlock, Exit.then]
          refine bodyPost_ret (v := .agg #[.int .i64 rv, .int .i64 cw, .slice va (rv * cw) vc]) (by simp [results, Try.results48, go_sem, r0, r1, r2]) rfl (ten_of (by rw [HVR.out.1, HVR.out.2, HVL.out]; try rfl) (by rw [HVL.out]; exact HF) (by rw [HVX.out]; exact hP) HBF.out)
      · as_aux_lemma =>
          have HVV : Hid (valV 7 ⟨rv, cv, (xv.map (cn .f32))⟩ ⟨rw', cw, (xw.map (cn .f32))⟩ (cn .f32 q) = ⟨cv, rv, turnE (xv.map (cn .f32)) rv cv n1⟩) := Lib.hid (by simp [valV, ← HN1.out])
          have HVL : Hid ((valV 7 ⟨rv, cv, (xv.map (cn .f32))⟩ ⟨rw', cw, (xw.map (cn .f32))⟩ (cn .f32 q)).xs.length = n1) := Lib.hid (by rw [HVV.out]; exact listOf_length _ _)
          have HVX : Hid ((valV 7 ⟨rv, cv, (xv.map (cn .f32))⟩ ⟨rw', cw, (xw.map (cn .f32))⟩ (cn .f32 q)).xs = turnE (xv.map (cn .f32)) rv cv n1) := Lib.hid (by rw [HVV.out])
          have HVR : Hid ((valV 7 ⟨rv, cv, (xv.map (cn .f32))⟩ ⟨rw', cw, (xw.map (cn .f32))⟩ (cn .f32 q)).r = cv ∧ (valV 7 ⟨rv, cv, (xv.map (cn .f32))⟩ ⟨rw', cw, (xw.map (cn .f32))⟩ (cn .f32 q)).c = rv) := Lib.hid (by rw [HVV.out]; exact ⟨rfl, rfl⟩)
          go_wp2_with fail
          refine (impl_transposed _ rv cv av kv n1 xv (FV.out _ (Below.refl _ _)) HN1.out.symm HRV.out.1 HRV.out.2 HCV.out.1 HCV.out.2 HLV.out).mono ?_
          rintro e w' ⟨va, vc, zs, rfl, RO, RM, hb⟩
          obtain ⟨rl, r0, r1, r2, rf⟩ := (RB2.out.below hb).three
          have hbw := bthen BC.out hb
          have hz := hb.size
          have hfin := setCs_repF (g := w.heap.size + 1) (lo' := w.heap.size) (i := 0) RO.out (by omega) (by omega) (Nat.le_refl _) [.int .i64 cv, .int .i64 rv, .slice va n1 vc]
          have hbf := setCs_below hbw (g := w.heap.size + 1) (by omega) 0 [.int .i64 cv, .int .i64 rv, .slice va n1 vc]
          have HF := Lib.hid hfin; have HBF := Lib.hid hbf
          clear hfin hbf hbw hb x0 x3 y0 y1 y2 z0 z1 z2 FV FW RB2 BC
          have hl9 := RO.out.len
          have hP : zs.map (cn .f32) = turnE (xv.map (cn .f32)) rv cv n1 := RM.out
          go_wp2
          try simp only [Exit.inBlock, Exit.then]
          refine bodyPost_ret (v := .agg #[.int .i64 cv, .int .i64 rv, .slice va n1 vc]) (by simp [results, Try.results48, go_sem, r0, r1, r2]) rfl (ten_of (by rw [HVR.out.1, HVR.out.2, HVL.out]; try rfl) (by rw [HVL.out]; exact HF) (by rw [HVX.out]; exact hP) HBF.out)
      · as_aux_lemma =>
          have HVV : Hid (valV 8 ⟨rv, cv, (xv.map (cn .f32))⟩ ⟨rw', cw, (xw.map (cn .f32))⟩ (cn .f32 q) = ⟨rv, cv, relE (xv.map (cn .f32)) n1⟩) := Lib.hid (by simp [valV, ← HN1.out])
          have HVL : Hid ((valV 8 ⟨rv, cv, (xv.map (cn .f32))⟩ ⟨rw', cw, (xw.map (cn .f32))⟩ (cn .f32 q)).xs.length = n1) := Lib.hid (by rw [HVV.out]; exact listOf_length _ _)
          have HVX : Hid ((valV 8 ⟨rv, cv, (xv.map (cn .f32))⟩ ⟨rw', cw, (xw.map (cn .f32))⟩ (cn .f32 q)).xs = relE (xv.map (cn .f32)) n1) := Lib.hid (by rw [HVV.out])
          have HVR : Hid ((valV 8 ⟨rv, cv, (xv.map (cn .f32))⟩ ⟨rw', cw, (xw.map (cn .f32))⟩ (cn .f32 q)).r = rv ∧ (valV 8 ⟨rv, cv, (xv.map (cn .f32))⟩ ⟨rw', cw, (xw.map (cn .f32))⟩ (cn .f32 q)).c = cv) := Lib.hid (by rw [HVV.out]; exact ⟨rfl, rfl⟩)
          go_wp2_with fail
          refine (impl_reluTensorT _ rv cv av kv xv (FV.out _ (Below.refl _ _)) n1 HN1.out.symm hn256).mono ?_
          rintro e w' ⟨va, vc, zs, rfl, RO, RM, hb⟩
          obtain ⟨rl, r0, r1, r2, rf⟩ := (RB2.out.below hb).three
          have hbw := bthen BC.out hb
          have hz := hb.size
          have hfin := setCs_repF (g := w.heap.size + 1) (lo' := w.heap.size) (i := 0) RO.out (by omega) (by omega) (Nat.le_refl _) [.int .i64 rv, .int .i64 cv, .slice va n1 vc]
          have hbf := setCs_below hbw (g := w.heap.size + 1) (by omega) 0 [.int .i64 rv, .int .i64 cv, .slice va n1 vc]
          have HF := Lib.hid hfin; have HBF := Lib.hid hbf
          clear hfin hbf hbw hb x0 x3 y0 y1 y2 z0 z1 z2 FV FW RB2 BC
          have hl9 := RO.out.len
          have hP : zs.map (cn .f32) = relE (xv.map (cn .f32)) n1 := RM.out
          go_wp2
          try simp only [Exit.inBlock, Exit.then]
          refine bodyPost_ret (v := .agg #[.int .i64 rv, .int .i64 cv, .slice va n1 vc]) (by simp [results, Try.results48, go_sem, r0, r1, r2]) rfl (ten_of (by rw [HVR.out.1, HVR.out.2, HVL.out]; try rfl) (by rw [HVL.out]; exact HF) (by rw [HVX.out]; exact hP) HBF.out)
      · as_aux_lemma =>
          have HVV : Hid (valV 9 ⟨rv, cv, (xv.map (cn .f32))⟩ ⟨rw', cw, (xw.map (cn .f32))⟩ (cn .f32 q) = ⟨rv, cv, tenE .mul (xv.map (cn .f32)) (xv.map (cn .f32)) n1⟩) := Lib.hid (by simp [valV, ← HN1.out])
          have HVL : Hid ((valV 9 ⟨rv, cv, (xv.map (cn .f32))⟩ ⟨rw', cw, (xw.map (cn .f32))⟩ (cn .f32 q)).xs.length = n1) := Lib.hid (by rw [HVV.out]; exact listOf_length _ _)
          have HVX : Hid ((valV 9 ⟨rv, cv, (xv.map (cn .f32))⟩ ⟨rw', cw, (xw.map (cn .f32))⟩ (cn .f32 q)).xs = tenE .mul (xv.map (cn .f32)) (xv.map (cn .f32)) n1) := Lib.hid (by rw [HVV.out])
          have HVR : Hid ((valV 9 ⟨rv, cv, (xv.map (cn .f32))⟩ ⟨rw', cw, (xw.map (cn .f32))⟩ (cn .f32 q)).r = rv ∧ (valV 9 ⟨rv, cv, (xv.map (cn .f32))⟩ ⟨rw', cw, (xw.map (cn .f32))⟩ (cn .f32 q)).c = cv) := Lib.hid (by rw [HVV.out]; exact ⟨rfl, rfl⟩)
          go_wp2_with fail
          refine (impl_mulTensors _ rv cv rv cv av av kv kv n1 xv xv (FV.out _ (Below.refl _ _)) (FV.out _ (Below.refl _ _)) HN1.out.symm HN1.out.symm hn256).mono ?_
          rintro e w' ⟨va, vc, zs, rfl, RO, RM, hb⟩
          obtain ⟨rl, r0, r1, r2, rf⟩ := (RB2.out.below hb).three
          have hbw := bthen BC.out hb
          have hz := hb.size
          have hfin := setCs_repF (g := w.heap.size + 1) (lo' := w.heap.size) (i := 0) RO.out (by omega) (by omega) (Nat.le_refl _) [.int .i64 rv, .int .i64 cv, .slice va n1 vc]
          have hbf := setCs_below hbw (g := w.heap.size + 1) (by omega) 0 [.int .i64 rv, .int .i64 cv, .slice va n1 vc]
          have HF := Lib.hid hfin; have HBF := Lib.hid hbf
          clear hfin hbf hbw hb x0 x3 y0 y1 y2 z0 z1 z2 FV FW RB2 BC
          have hl9 := RO.out.len
          have hP : zs.map (cn .f32) = tenE .mul (xv.map (cn .f32)) (xv.map (cn .f32)) n1 := RM.out
          go_wp2
          try simp only [Exit.inBlock, Exit.then]
          refine bodyPost_ret (v := .agg #[.int .i64 rv, .int .i64 cv, .slice va n1 vc]) (by simp [results, Try.results48, go_sem, r0, r1, r2]) rfl (ten_of (by rw [HVR.out.1, HVR.out.2, HVL.out]; try rfl) (by rw [HVL.out]; exact HF) (by rw [HVX.out]; exact hP) HBF.out)
      · as_aux_lemma =>
          have HVV : Hid (valV 10 ⟨rv, cv, (xv.map (cn .f32))⟩ ⟨rw', cw, (xw.map (cn .f32))⟩ (cn .f32 q) = ⟨1, 1, filE (sumS (xv.map (cn .f32)) n1) 1⟩) := Lib.hid (by simp [valV, ← HN1.out])
          have HVL : Hid ((valV 10 ⟨rv, cv, (xv.map (cn .f32))⟩ ⟨rw', cw, (xw.map (cn .f32))⟩ (cn .f32 q)).xs.length = 1) := Lib.hid (by rw [HVV.out]; exact listOf_length _ _)
          have HVX : Hid ((valV 10 ⟨rv, cv, (xv.map (cn .f32))⟩ ⟨rw', cw, (xw.map (cn .f32))⟩ (cn .f32 q)).xs = filE (sumS (xv.map (cn .f32)) n1) 1) := Lib.hid (by rw [HVV.out])
          have HVR : Hid ((valV 10 ⟨rv, cv, (xv.map (cn .f32))⟩ ⟨rw', cw, (xw.map (cn .f32))⟩ (cn .f32 q)).r = 1 ∧ (valV 10 ⟨rv, cv, (xv.map (cn .f32))⟩ ⟨rw', cw, (xw.map (cn .f32))⟩ (cn .f32 q)).c = 1) := Lib.hid (by rw [HVV.out]; exact ⟨rfl, rfl⟩)
          have KSU := Lib.hid (impl_sumOf wc av kv xv (FV.out _ (Below.refl _ _)))
          rw [← HN1.out] at KSU
          go_wp2_with fail
          refine KSU.out.mono ?_
          rintro e w2 ⟨su, rfl, HSU, hd⟩
          have HDB := Lib.hid hd.below
          have HZ2 : wc.heap.size ≤ w2.heap.size := hd.below.size
          clear hd
          go_wp2_with fail
          refine (impl_filled _ 1 1 su HSU.out.2 (by decide) (by decide) (by decide) (by decide)).mono ?_
          rintro e w' ⟨va, vc, zs, rfl, RO, RM, hb⟩
          have RB2 := Lib.hid (RB2.out.below HDB.out)
          have BC := Lib.hid (bthen BC.out HDB.out)
          have RM : Hid (zs.map (cn .f32) = filE (sumS (xv.map (cn .f32)) n1) 1) := Lib.hid (by rw [RM.out, HSU.out.1])
          obtain ⟨rl, r0, r1, r2, rf⟩ := (RB2.out.below hb).three
          have hbw := bthen BC.out hb
          have hz := hb.size
          have hfin := setCs_repF (g := w.heap.size + 1) (lo' := w.heap.size) (i := 0) RO.out (by omega) (by omega) (Nat.le_refl _) [.int .i64 1, .int .i64 1, .slice va 1 vc]
          have hbf := setCs_below hbw (g := w.heap.size + 1) (by omega) 0 [.int .i64 1, .int .i64 1, .slice va 1 vc]
          have HF := Lib.hid hfin; have HBF := Lib.hid hbf
          clear hfin hbf hbw hb x0 x3 y0 y1 y2 z0 z1 z2 FV FW RB2 BC
          have hl9 := RO.out.len
          have hP : zs.map (cn .f32) = filE (sumS (xv.map (cn .f32)) n1) 1 := RM.out
          go_wp2
          try simp only [Exit.inBlock, Exit.then]
          refine bodyPost_ret (v := .agg #[.int .i64 1, .int .i64 1, .slice va 1 vc]) (by simp [results, Try.results48, go_sem, r0, r1, r2]) rfl (ten_of (by rw [HVR.out.1, HVR.out.2, HVL.out]; try rfl) (by rw [HVL.out]; exact HF) (by rw [HVX.out]; exact hP) HBF.out)
end Go.Proofs.Ytfjfjgegdaekbaa
/- All values of a tape: the program. No condition. -/
namespace Go.Proofs.Ytfjfjgegdaekbaa
open Go Go.RowKit
set_option linter.unusedVariables false
set_option linter.unusedSimpArgs false
theorem vGet_sh {V : List TenP} {S : List Sh} (h : V.map TenP.sh = S) {i : Int} (h0 : 0 ≤ i) (h1 : i ≤ V.length - 1) : (vGet V i).sh = shGet S i := by
  have hi : i.toNat < V.length := by omega
  have e1 : vGet V i = V[i.toNat] := by unfold vGet; rw [List.getD_eq_getElem?_getD, List.getElem?_eq_getElem hi]; rfl
  rw [e1]
  unfold shGet
  rw [← h, List.getD_eq_getElem?_getD, List.getElem?_map, List.getElem?_eq_getElem hi]; rfl
/-- what is known of a valid tape at an operation -/
theorem valid_round {P : List OpP} {S : List Sh} (h : shapesP P = some S) {k : Nat} {o : OpP} (ho : P[k]? = some o) :
    (valsN P k).length = k ∧ (∀ t ∈ valsN P k, okT t) ∧ fitsB k o = true ∧ (o.k ≠ 0 → ∃ s, shapeOf o.k (vGet (valsN P k) o.a).sh (vGet (valsN P k) o.b).sh = some s) := by
  have hk := (List.getElem?_eq_some_iff.1 ho).1
  have hp := shapesP_some h
  have hf := valid_fit h ho
  cases hSk : shapesN P k with
  | none =>
    have := shapesN_none hSk (Nat.le_of_lt hk) (Nat.le_refl _)
    rw [hp.2.1] at this; cases this
  | some Sk =>
    have h1 := valsN_ok (Nat.le_of_lt hk) hSk
    have hl := shapesN_length (Nat.le_of_lt hk) hSk
    have hVl : (valsN P k).length = k := by have := congrArg List.length h1.1; rw [List.length_map, hl] at this; exact this
    refine ⟨hVl, h1.2, hf, fun h0 => ?_⟩
    cases hS1 : shapesN P (k + 1) with
    | none =>
      have := shapesN_none hS1 hk (Nat.le_refl _)
      rw [hp.2.1] at this; cases this
    | some S1 =>
      rw [shapesN_succ ho, hSk] at hS1
      have hst : stepSh Sk o = some S1 := hS1
      unfold stepSh at hst
      rw [hl, if_pos hf, if_neg h0] at hst
      obtain ⟨s, hs, _⟩ := Option.map_eq_some_iff.1 hst
      have ha := fitsB_args hf h0
      refine ⟨s, ?_⟩
      rw [vGet_sh h1.1 ha.1.1 (by rw [hVl]; exact ha.1.2), vGet_sh h1.1 ha.2.1.1 (by rw [hVl]; exact ha.2.1.2)]
      exact hs
theorem ts_snoc {w W w9 : World} {B k cap : Nat} {ad : Option Addr} {S : List Ten} {s : Ten} {v' : Value} {o : Obj} (h : OwnR tenR w B w.heap.size ad k cap S) (hB : B ≤ w.heap.size) (hb : Below w.heap.size w W) {hi1 : Nat} (hr : RepF W w.heap.size hi1 s.ad s.xs.length s.cap s.xs) (hh : hi1 ≤ W.heap.size) (hh0 : w.heap.size ≤ hi1)
    (ho : w9.ownsRow B 44 3 v' (k + 1) (S.flatMap tenR.cells ++ s.cells)) (hg : (W.alloc o).grownBy w9 (Value.slice ad k cap).ownBlock) (hat : v'.ownBlock = (Value.slice ad k cap).ownBlock ∨ v'.ownBlock = some (W.heap.size + 1)) :
    ∃ ad' cap', v' = .slice ad' (k + 1) cap' ∧ OwnR tenR w9 B w9.heap.size ad' (k + 1) cap' (S ++ [s]) :=
  h.snoc hB hb hr.okF hr.ownRow hh hh0 ho hg hat
theorem ts_row {w W : World} {B k cap : Nat} {ad : Option Addr} {S : List Ten} (h : OwnR tenR w B w.heap.size ad k cap S) (hb : Below w.heap.size w W) : W.ownsRow B 44 3 (.slice ad k cap) k (S.flatMap tenR.cells) := (h.below hb).own.head.own
/-- values that are given -/
def TTOut (res : Option (List TenP)) (w w' : World) (ad : Option Addr) (n cap : Nat) (b : Bool) (us : List Ten) : Prop := (b = res.isSome ∧ us.map (fun t => t.toTenP.can) = res.getD []) ∧ OwnR tenR w' w.heap.size w'.heap.size ad n cap us
def TTPost (res : Option (List TenP)) (w : World) (e : Ending) (w' : World) : Prop := ∃ ad' n' cap' b us, e = .returned (.tuple #[.slice ad' n' cap', .bool b]) ∧ Hid (TTOut res w w' ad' n' cap' b us) ∧ Below w.heap.size w w'
/-- the values of a valid tape -/
def runP (os : List OpP) : Option (List TenP) := if (shapesP os).isSome = true then some (valsP os) else none
set_option maxHeartbeats 8000000 in
set_option maxRecDepth 100000 in
theorem impl_runTape (w : World) (ad : Option Addr) (cap : Nat) (os : List OpD) (h : SeeR opR w ad cap os) (hno : nilOK os) (S : List Sh) (hS : shapesP (os.map OpD.toOpP) = some S) (hi2 : ∀ o ∈ os, o.xs.length ≤ 1048576) :
    Calls Try.prog 20 #[.slice ad os.length cap] w fun e w' => ∃ ad' cap' us, e = .returned (.slice ad' os.length cap') ∧ Hid (OwnR tenR w' w.heap.size w'.heap.size ad' os.length cap' us ∧ us.map (fun t => t.toTenP.can) = valsP (os.map OpD.toOpP)) ∧ Below w.heap.size w w' := by
  obtain ⟨i0, hi0, hz0, hzs, hz2⟩ := info_parts info_ten
  have hp := shapesP_some hS
  rw [List.length_map] at hp
  obtain ⟨n, hN⟩ : ∃ n, n = os.length := ⟨_, rfl⟩
  rw [← hN] at hp ⊢
  have hn1 := hp.1.1; have hn2 := hp.1.2
  have HN := Lib.hid hN; have HI2 := Lib.hid hi2; have H := Lib.hid h; have HNO := Lib.hid hno; have HS := Lib.hid hS
  clear hN hi2 h hno hS hp
  go_enter Try.func20, Try.ntmps20
  go_wp2
  go_loopw [3, 9] (fun v i wt => ∃ k : Nat, i = .int .i64 k ∧ k ≤ n ∧ ∃ (ad' : Option Addr) (cap' : Nat) (us : List Ten), v = .slice ad' k cap' ∧ Hid (OwnR tenR wt w.heap.size wt.heap.size ad' k cap' us) ∧ Hid (us.map (fun t => t.toTenP.can) = valsN (os.map OpD.toOpP) k) ∧ Hid (Below w.heap.size w wt)) (fun _ i _ => n - (intOf i).toNat)
  case atStart => exact ⟨0, rfl, Nat.zero_le _, _, _, [], rfl, Lib.hid (OwnR.nil1 tenR w), Lib.hid rfl, Lib.hid (below1 _ _)⟩
  case round =>
    obtain ⟨k, rfl, hk, ad', cap', us, rfl, HR, HE, HB⟩ := hrel
    by_cases hlt : k < n
    · obtain ⟨o, ho⟩ := getElem?_lt (show k < os.length by rw [← HN.out]; exact hlt)
      have hop : (os.map OpD.toOpP)[k]? = some o.toOpP := by rw [List.getElem?_map, ho]; rfl
      obtain ⟨vl, vok, vf, vs⟩ := valid_round HS.out hop
      obtain ⟨b, off, rfl, hbl, ⟨p0, p1, p2, p3, p4, p5, p6⟩, hf, hok⟩ := op_spot (H.out.below HB.out) ho
      have hm := List.mem_of_getElem? ho
      have hul : us.length = k := HR.out.len
      have K := Lib.hid (fun W (hb : Below wr.heap.size wr W) => impl_value W o ad' cap' us (HR.out.see.below hb) _ HE.out vok k hul (by omega) vf vs (hf.below hb) (HNO.out o hm) (HI2.out o hm))
      have HST : Hid (valsN (os.map OpD.toOpP) (k + 1) = valsN (os.map OpD.toOpP) k ++ [stepV (valsN (os.map OpD.toOpP) k) o.toOpP]) := Lib.hid (valsN_succ hop)
      obtain ⟨T, hT⟩ : ∃ T, T = stepV (valsN (os.map OpD.toOpP) k) o.toOpP := ⟨_, rfl⟩
      rw [← hT] at K HST
      unfold OpD.val at K
      obtain ⟨m, hM⟩ : ∃ m, m = o.xs.length := ⟨_, rfl⟩
      rw [← hM] at K p6
      have HRW := Lib.hid (fun W hb => ts_row HR.out (W := W) hb)
      have hb1 := below1 wr (.cells #[.int .i64 o.k, .int .i64 o.a, .int .i64 o.b, .float .f32 o.num, .int .i64 o.r, .int .i64 o.c, .slice o.ad m o.cap] 46)
      have B1 := Lib.hid hb1
      clear hM ho hop vl vok vf vs hf hok hm hul hT hb1
      go_wp2_with fail
      refine (K.out _ B1.out).mono ?_
      rintro e w2 ⟨va, vc, zs, rfl, RO, RM, hb2⟩
      have HB2 := Lib.hid (bthen B1.out hb2)
      have hz2' := hb2.size
      simp at hz2'
      clear hb2 p0 p1 p2 p3 p4 p5 p6
      obtain ⟨tl, htl⟩ : ∃ tl, tl = T.xs.length := ⟨_, rfl⟩
      rw [← htl] at RO ⊢
      have HTL := Lib.hid htl
      clear htl
      go_wp2_with (at_builtin; refine wp_appA rfl _ _ 24 rfl w.heap.size i0 (.agg #[.int .i64 0, .int .i64 0, .slice none 0 0]) 3 40 Try.underlying24 hi0 hz0 hzs hz2 rfl (by decide) rfl (by intro u hu; simp at hu; rcases hu with rfl | rfl | rfl <;> rfl) _ _ _ rfl (HRW.out _ HB2.out) (by go_simp) ?c3 ?c4 ?c5 ?_)
      case c3 => unfold maxLen; omega
      case c4 => omega
      case c5 => exact Nat.le_trans HB.out.size HB2.out.size
      intro v' w9 ho9 hg9 hat9 hb9 hs9
      have hzl := RO.out.len
      obtain ⟨ad9, cap9, rfl, hown9⟩ := ts_snoc (s := ⟨⟨T.r, T.c, zs⟩, va, vc⟩) HR.out HB.out.size HB2.out (hi1 := w2.heap.size) (by show RepF w2 wr.heap.size w2.heap.size va zs.length vc zs; rw [hzl]; exact RO.out.bounds (by simp) (Nat.le_refl _)) (Nat.le_refl _) HB2.out.size (by show w9.ownsRow _ _ _ _ _ (_ ++ [Value.int .i64 T.r, .int .i64 T.c, .slice va zs.length vc]); rw [hzl]; exact ho9) hg9 (by simpa using hat9)
      have HO9 := Lib.hid hown9; have HB9 := Lib.hid ((HB.out.trans (HB2.out.mono HB.out.size)).trans hb9)
      have HE9 : Hid ((us ++ [(⟨⟨T.r, T.c, zs⟩, va, vc⟩ : Ten)]).map (fun t => t.toTenP.can) = valsN (os.map OpD.toOpP) (k + 1)) := Lib.hid (by
        rw [List.map_append, HE.out, HST.out]
        congr 1
        show [TenP.can ⟨T.r, T.c, zs⟩] = [T]
        unfold TenP.can
        rw [RM.out])
      clear ho9 hg9 hat9 hb9 hown9 HR HE HB HB2 HRW hzl
      go_wp2
      go_roundw
      case rel => exact ⟨k + 1, by go_num, hlt, _, _, _, rfl, HO9, HE9, HB9⟩
      case measure => simp [intOf]; omega
    · have hkn : k = n := by omega
      subst hkn
      have HA := Lib.hid (And.intro HR.out (show us.map (fun t => t.toTenP.can) = valsP (os.map OpD.toOpP) by rw [HE.out]; unfold valsP; rw [List.length_map, ← HN.out]))
      go_wp2
      go_ret
      exact ⟨_, _, us, rfl, HA, HB.out⟩
end Go.Proofs.Ytfjfjgegdaekbaa
/- The gradients of a tape. No condition. -/
namespace Go.Proofs.Ytfjfjgegdaekbaa
open Go Go.RowKit
set_option linter.unusedVariables false
set_option linter.unusedSimpArgs false
/-- sums of columns -/
def colG (X : List Nat) (c : Nat) : Nat → Nat → Nat
  | 0, _ => 0
  | k + 1, j => if j = k % c then fop .add .f32 (colG X c k j) (X.getD k 0) else colG X c k j
def addV (v w : TenP) : TenP := ⟨v.r, v.c, tenE .add v.xs w.xs v.xs.length⟩
def mulV (v w : TenP) : TenP := ⟨v.r, v.c, tenE .mul v.xs w.xs v.xs.length⟩
def colV (g : TenP) : TenP := ⟨1, g.c, listOf g.c.toNat (colG g.xs g.c.toNat g.xs.length)⟩
def filV (v : TenP) (y : Nat) : TenP := ⟨v.r, v.c, filE y v.xs.length⟩
def overW (x y : Nat) : Nat := if (FloatKind.f32.format.order x 0 == some .gt) = true then y else 0
def maskE (X G : List Nat) (n : Nat) : List Nat := listOf n fun i => overW (X.getD i 0) (G.getD i 0)
def turnV (v : TenP) : TenP := ⟨v.c, v.r, turnE v.xs v.r.toNat v.c.toNat v.xs.length⟩
def matV (v w : TenP) : TenP := ⟨v.r, w.c, matE v.xs w.xs v.c.toNat w.c.toNat (v.r.toNat * w.c.toNat)⟩
/-- what an operation gives to its A -/
def partA (k : Int) (g v w : TenP) (num : Nat) : TenP :=
  if k = 1 then g else
  if k = 2 then g else
  if k = 3 then mulV g w else
  if k = 4 then ⟨g.r, g.c, rowE .mul g.xs w.xs g.c.toNat g.xs.length⟩ else
  if k = 5 then ⟨g.r, g.c, scaE g.xs num g.xs.length⟩ else
  if k = 6 then matV g (turnV w) else
  if k = 7 then turnV g else
  if k = 8 then ⟨v.r, v.c, maskE v.xs g.xs v.xs.length⟩ else
  if k = 9 then mulV g (addV v v) else
  filV v (g.xs.getD 0 0)
/-- what an operation gives to its B -/
def partB (k : Int) (g v : TenP) : TenP :=
  if k = 1 then g else
  if k = 2 then colV g else
  if k = 3 then mulV g v else
  if k = 4 then colV (mulV g v) else
  matV (turnV v) g
def giveV (h : Bool) (old part : TenP) : TenP := if h = true then addV old part else part
def stepG (V : List TenP) (U : List Bool) (G : List TenP) (i : Nat) (o : OpP) : List TenP :=
  if U.getD i false = true ∧ o.k ≠ 0 then
    (if twoB o.k = true then
      ((G.set o.a.toNat (giveV (U.getD o.a.toNat false) (vGet G o.a) (partA o.k (vGet G i) (vGet V o.a) (vGet V o.b) (cn .f32 o.num)))).set o.b.toNat
        (giveV ((U.set o.a.toNat true).getD o.b.toNat false) (vGet (G.set o.a.toNat (giveV (U.getD o.a.toNat false) (vGet G o.a) (partA o.k (vGet G i) (vGet V o.a) (vGet V o.b) (cn .f32 o.num)))) o.b) (partB o.k (vGet G i) (vGet V o.a))))
    else G.set o.a.toNat (giveV (U.getD o.a.toNat false) (vGet G o.a) (partA o.k (vGet G i) (vGet V o.a) (vGet V o.b) (cn .f32 o.num))))
  else G
/-- behind the last m operations -/
def gradM (os : List OpP) (V : List TenP) : Nat → List TenP
  | 0 => (V.map fun v => filV v 0).set (os.length - 1) (filV (vGet V ((os.length - 1 : Nat) : Int)) 1065353216)
  | m + 1 => stepG V (usedM os m) (gradM os V m) (os.length - 1 - m) (opAtP os (os.length - 1 - m))
def gradP (os : List OpP) : List TenP := gradM os (valsP os) os.length
theorem colG_length (X : List Nat) (c n : Nat) : (listOf c (colG X c n)).length = c := listOf_length _ _
theorem maskE_length (X G : List Nat) (n : Nat) : (maskE X G n).length = n := listOf_length _ _
theorem filV_ok {v : TenP} (h : okT v) (y : Nat) : okT (filV v y) ∧ (filV v y).sh = v.sh := by
  obtain ⟨h1, h2, h3, h4, h5⟩ := h
  exact ⟨⟨h1, h2, h3, h4, by show (filE y v.xs.length).length = _; rw [filE_length]; exact h5⟩, rfl⟩
theorem addV_ok {v w : TenP} (h : okT v) : okT (addV v w) ∧ (addV v w).sh = v.sh := by
  obtain ⟨h1, h2, h3, h4, h5⟩ := h
  exact ⟨⟨h1, h2, h3, h4, by show (tenE .add v.xs w.xs v.xs.length).length = _; rw [tenE_length]; exact h5⟩, rfl⟩
theorem mulV_ok {v w : TenP} (h : okT v) : okT (mulV v w) ∧ (mulV v w).sh = v.sh := by
  obtain ⟨h1, h2, h3, h4, h5⟩ := h
  exact ⟨⟨h1, h2, h3, h4, by show (tenE .mul v.xs w.xs v.xs.length).length = _; rw [tenE_length]; exact h5⟩, rfl⟩
theorem turnV_ok {v : TenP} (h : okT v) : okT (turnV v) := by
  obtain ⟨h1, h2, h3, h4, h5⟩ := h
  exact ⟨h3, h4, h1, h2, by show (turnE v.xs v.r.toNat v.c.toNat v.xs.length).length = v.c.toNat * v.r.toNat; rw [turnE_length, h5, Nat.mul_comm]⟩
theorem colV_ok {v : TenP} (h : okT v) : okT (colV v) := by
  obtain ⟨h1, h2, h3, h4, h5⟩ := h
  exact ⟨by show (1 : Int) ≤ 1; decide, by show (1 : Int) ≤ 16; decide, h3, h4, by show (listOf v.c.toNat _).length = (1 : Int).toNat * v.c.toNat; rw [listOf_length]; show _ = 1 * _; rw [Nat.one_mul]⟩
theorem matV_ok {v w : TenP} (h : okT v) (h2 : okT w) : okT (matV v w) := by
  exact ⟨h.r1, h.r2, h2.c1, h2.c2, by show (matE _ _ _ _ _).length = v.r.toNat * w.c.toNat; rw [matE_length]⟩
theorem partA_ok {k : Int} {g v w : TenP} {num : Nat} {s : Sh} (hk : 1 ≤ k ∧ k ≤ 10) (hg : okT g) (hv : okT v) (hw : okT w) (h : shapeOf k v.sh w.sh = some s) (hs : g.sh = s) : okT (partA k g v w num) ∧ (partA k g v w num).sh = v.sh := by
  have hk2 : k = 1 ∨ k = 2 ∨ k = 3 ∨ k = 4 ∨ k = 5 ∨ k = 6 ∨ k = 7 ∨ k = 8 ∨ k = 9 ∨ k = 10 := by omega
  subst hs
  rcases hk2 with rfl | rfl | rfl | rfl | rfl | rfl | rfl | rfl | rfl | rfl
  · refine ⟨by simpa [partA] using hg, ?_⟩
    simp [shapeOf, TenP.sh] at h
    simp [partA, TenP.sh]; omega
  · refine ⟨by simpa [partA] using hg, ?_⟩
    simp [shapeOf, TenP.sh] at h
    simp [partA, TenP.sh]; omega
  · refine ⟨by simpa [partA] using (mulV_ok hg).1, ?_⟩
    simp [shapeOf, TenP.sh] at h
    simp [partA, TenP.sh, mulV]; omega
  · refine ⟨?_, ?_⟩
    · have e : partA 4 g v w num = ⟨g.r, g.c, rowE .mul g.xs w.xs g.c.toNat g.xs.length⟩ := by simp [partA]
      rw [e]
      exact ⟨hg.r1, hg.r2, hg.c1, hg.c2, by show (rowE _ _ _ _ _).length = _; rw [rowE_length]; exact hg.len⟩
    · simp [shapeOf, TenP.sh] at h
      simp [partA, TenP.sh]; omega
  · refine ⟨?_, ?_⟩
    · have e : partA 5 g v w num = ⟨g.r, g.c, scaE g.xs num g.xs.length⟩ := by simp [partA]
      rw [e]
      exact ⟨hg.r1, hg.r2, hg.c1, hg.c2, by show (scaE _ _ _).length = _; rw [scaE_length]; exact hg.len⟩
    · simp [shapeOf, TenP.sh] at h
      simp [partA, TenP.sh]; omega
  · refine ⟨by simpa [partA] using matV_ok hg (turnV_ok hw), ?_⟩
    simp only [shapeOf, TenP.sh] at h
    by_cases h6 : v.c = w.r <;> simp [h6] at h
    simp [partA, TenP.sh, matV, turnV]; omega
  · refine ⟨by simpa [partA] using turnV_ok hg, ?_⟩
    simp [shapeOf, TenP.sh] at h
    simp [partA, TenP.sh, turnV]; omega
  · have e : partA 8 g v w num = ⟨v.r, v.c, maskE v.xs g.xs v.xs.length⟩ := by simp [partA]
    rw [e]
    exact ⟨⟨hv.r1, hv.r2, hv.c1, hv.c2, by show (maskE _ _ _).length = _; rw [maskE_length]; exact hv.len⟩, rfl⟩
  · refine ⟨by simpa [partA] using (mulV_ok hg).1, ?_⟩
    simp [shapeOf, TenP.sh] at h
    simp [partA, TenP.sh, mulV]; omega
  · have e : partA 10 g v w num = filV v (g.xs.getD 0 0) := by simp [partA]
    rw [e]
    exact filV_ok hv _
theorem partB_ok {k : Int} {g v w : TenP} {s : Sh} (hk : twoB k = true) (hg : okT g) (hv : okT v) (hw : okT w) (h : shapeOf k v.sh w.sh = some s) (hs : g.sh = s) : okT (partB k g v) ∧ (partB k g v).sh = w.sh := by
  have hk2 : k = 1 ∨ k = 2 ∨ k = 3 ∨ k = 4 ∨ k = 6 := by
    unfold twoB at hk; simp at hk; omega
  subst hs
  rcases hk2 with rfl | rfl | rfl | rfl | rfl
  · refine ⟨by simpa [partB] using hg, ?_⟩
    simp [shapeOf, TenP.sh] at h
    simp [partB, TenP.sh]; omega
  · refine ⟨by simpa [partB] using colV_ok hg, ?_⟩
    simp [shapeOf, TenP.sh] at h
    simp [partB, TenP.sh, colV]; omega
  · refine ⟨by simpa [partB] using (mulV_ok hg).1, ?_⟩
    simp [shapeOf, TenP.sh] at h
    simp [partB, TenP.sh, mulV]; omega
  · refine ⟨by simpa [partB] using colV_ok (mulV_ok hg).1, ?_⟩
    simp [shapeOf, TenP.sh] at h
    simp [partB, TenP.sh, mulV, colV]; omega
  · refine ⟨by simpa [partB] using matV_ok (turnV_ok hv) hg, ?_⟩
    simp only [shapeOf, TenP.sh] at h
    by_cases h6 : v.c = w.r <;> simp [h6] at h
    simp [partB, TenP.sh, matV, turnV]; omega
theorem giveV_ok {h : Bool} {old part : TenP} {s : Sh} (ho : okT old) (hos : old.sh = s) (hp : okT part) (hps : part.sh = s) : okT (giveV h old part) ∧ (giveV h old part).sh = s := by
  unfold giveV
  split
  · exact ⟨(addV_ok ho).1, (addV_ok ho).2.trans hos⟩
  · exact ⟨hp, hps⟩
theorem vGet_nat {V : List TenP} {i : Nat} (h : i < V.length) : vGet V (i : Int) = V[i] := by
  unfold vGet
  rw [show ((i : Nat) : Int).toNat = i by simp, List.getD_eq_getElem?_getD, List.getElem?_eq_getElem h]; rfl
theorem stepG_length (V : List TenP) (U : List Bool) (G : List TenP) (i : Nat) (o : OpP) : (stepG V U G i o).length = G.length := by
  unfold stepG; split
  · split <;> simp
  · rfl
theorem gradM_length (os : List OpP) (V : List TenP) (hV : V.length = os.length) (m : Nat) : (gradM os V m).length = os.length := by
  induction m with
  | zero => simp [gradM, hV]
  | succ m ih => rw [gradM, stepG_length, ih]
theorem set_getD_true (U : List Bool) (i j : Nat) (h : U.getD j false = true) : (U.set i true).getD j false = true := by
  rw [List.getD_eq_getElem?_getD, List.getElem?_set]
  by_cases e : i = j
  · subst e
    rw [if_pos rfl]
    have : i < U.length := by
      rcases Nat.lt_or_ge i U.length with h2 | h2
      · exact h2
      · rw [List.getD_eq_getElem?_getD, List.getElem?_eq_none h2] at h; cases h
    rw [if_pos this]; rfl
  · rw [if_neg e, ← List.getD_eq_getElem?_getD]; exact h
/-- the gradients have the shapes of the values; those of what is not used are 0 -/
def OkG (V : List TenP) (U : List Bool) (G : List TenP) : Prop := G.length = V.length ∧ ∀ j, j < V.length → (okT (vGet G (j : Int)) ∧ (vGet G (j : Int)).sh = (vGet V (j : Int)).sh) ∧ (U.getD j false = false → vGet G (j : Int) = filV (vGet V (j : Int)) 0)
theorem vGet_set {G : List TenP} {i j : Nat} {t : TenP} (hi : i < G.length) : vGet (G.set i t) (j : Int) = if i = j then t else vGet G (j : Int) := by
  unfold vGet
  rw [show ((j : Nat) : Int).toNat = j by simp, List.getD_eq_getElem?_getD, List.getElem?_set]
  by_cases e : i = j
  · rw [if_pos e, if_pos hi, if_pos e]; rfl
  · rw [if_neg e, if_neg e, ← List.getD_eq_getElem?_getD]
theorem OkG.set {V : List TenP} {U : List Bool} {G : List TenP} (h : OkG V U G) {i : Nat} (hi : i < V.length) {t : TenP} (ht : okT t) (hs : t.sh = (vGet V (i : Int)).sh) (hU : U.length = V.length) : OkG V (U.set i true) (G.set i t) := by
  refine ⟨by rw [List.length_set]; exact h.1, fun j hj => ?_⟩
  rw [vGet_set (by rw [h.1]; exact hi)]
  by_cases e : i = j
  · subst e
    rw [if_pos rfl]
    refine ⟨⟨ht, hs⟩, fun h2 => ?_⟩
    rw [List.getD_eq_getElem?_getD, List.getElem?_set, if_pos rfl, if_pos (by rw [hU]; exact hi)] at h2
    cases h2
  · rw [if_neg e]
    refine ⟨(h.2 j hj).1, fun h2 => (h.2 j hj).2 ?_⟩
    rw [List.getD_eq_getElem?_getD, List.getElem?_set, if_neg e, ← List.getD_eq_getElem?_getD] at h2
    exact h2
/-- what is known of the round of an operation that is used -/
theorem OkG.give {V : List TenP} {U : List Bool} {G : List TenP} (h : OkG V U G) {i : Nat} (hi : i < V.length) {p : TenP} (hp : okT p) (hs : p.sh = (vGet V (i : Int)).sh) (hU : U.length = V.length) : OkG V (U.set i true) (G.set i (giveV (U.getD i false) (vGet G (i : Int)) p)) := by
  have := giveV_ok (h := U.getD i false) (h.2 i hi).1.1 (h.2 i hi).1.2 hp hs
  exact h.set hi this.1 this.2 hU
theorem OkG.init {os : List OpP} {V : List TenP} (hV : V.length = os.length) (hok : ∀ t ∈ V, okT t) (h1 : 1 ≤ os.length) : OkG V (usedM os 0) (gradM os V 0) := by
  have h0 : OkG V (List.replicate os.length false) (V.map fun v => filV v 0) := by
    refine ⟨by simp, fun j hj => ?_⟩
    rw [vGet_nat (V := V.map _) (by simpa using hj), vGet_nat hj, List.getElem_map]
    exact ⟨filV_ok (hok _ (List.getElem_mem hj)) 0, fun _ => rfl⟩
  have hl : os.length - 1 < V.length := by omega
  have hv : okT (vGet V ((os.length - 1 : Nat) : Int)) := by rw [vGet_nat hl]; exact hok _ (List.getElem_mem hl)
  exact h0.set hl (filV_ok hv 1065353216).1 (filV_ok hv 1065353216).2 (by simp [hV])
/-- what a valid tape's operation tells of its parts -/
theorem grad_round {os : List OpP} {S : List Sh} (hS : shapesP os = some S) {i : Nat} {o : OpP} (ho : os[i]? = some o) (h0 : o.k ≠ 0) : ∃ s, shapeOf o.k (vGet (valsP os) o.a).sh (vGet (valsP os) o.b).sh = some s ∧ (vGet (valsP os) (i : Int)).sh = s := by
  have hp := shapesP_some hS
  have hi := (List.getElem?_eq_some_iff.1 ho).1
  have hv := valsN_ok (Nat.le_refl _) hp.2.1
  have hf := valid_fit hS ho
  have ha := fitsB_args hf h0
  have hVl : (valsP os).length = os.length := by have := congrArg List.length hv.1; rw [List.length_map, hp.2.2.1] at this; exact this
  cases hSk : shapesN os i with
  | none =>
    have := shapesN_none hSk (Nat.le_of_lt hi) (Nat.le_refl _)
    rw [hp.2.1] at this; cases this
  | some Sk =>
    have hl := shapesN_length (Nat.le_of_lt hi) hSk
    cases hS1 : shapesN os (i + 1) with
    | none =>
      have := shapesN_none hS1 hi (Nat.le_refl _)
      rw [hp.2.1] at this; cases this
    | some S1 =>
      have hS1' := hS1
      rw [shapesN_succ ho, hSk] at hS1
      have hst : stepSh Sk o = some S1 := hS1
      unfold stepSh at hst
      rw [hl, if_pos hf, if_neg h0] at hst
      obtain ⟨s, hs, hs1⟩ := Option.map_eq_some_iff.1 hst
      have pre : ∀ m k Sm Sk, shapesN os k = some Sk → shapesN os m = some Sm → k ≤ m → m ≤ os.length → ∀ j : Nat, j < k → shGet Sm (j : Int) = shGet Sk (j : Int) := by
        intro m
        induction m with
        | zero =>
          intro k Sm Sk h1 h2 h3 h4 j hj
          omega
        | succ m ih =>
          intro k Sm Sk h1 h2 h3 h4 j hj
          by_cases e : k = m + 1
          · subst e; rw [h1] at h2; cases h2; rfl
          · obtain ⟨om, hom⟩ := getElem?_lt (show m < os.length by omega)
            rw [shapesN_succ hom] at h2
            obtain ⟨S0, hS0, hst0⟩ := Option.bind_eq_some_iff.1 h2
            rw [← ih k S0 Sk h1 hS0 (by omega) (by omega) j hj]
            have hl0 := shapesN_length (by omega) hS0
            have : ∃ s, Sm = S0 ++ [s] := by
              unfold stepSh at hst0
              split at hst0
              · split at hst0
                · cases hst0; exact ⟨_, rfl⟩
                · obtain ⟨s, _, e2⟩ := Option.map_eq_some_iff.1 hst0
                  exact ⟨s, e2.symm⟩
              · cases hst0
            obtain ⟨s, rfl⟩ := this
            unfold shGet
            rw [List.getD_eq_getElem?_getD, List.getD_eq_getElem?_getD, List.getElem?_append_left (by simp; omega)]
      have g1 : ∀ x : Int, 0 ≤ x → x ≤ (i : Int) - 1 → (vGet (valsP os) x).sh = shGet Sk x := by
        intro x hx0 hx1
        show (vGet (valsN os os.length) x).sh = _
        have hVl2 : (valsN os os.length).length = os.length := hVl
        rw [vGet_sh hv.1 hx0 (by rw [hVl2]; omega)]
        obtain ⟨n, rfl⟩ : ∃ n : Nat, x = n := ⟨x.toNat, by omega⟩
        exact pre os.length i S Sk hSk hp.2.1 (by omega) (Nat.le_refl _) n (by omega)
      refine ⟨s, ?_, ?_⟩
      · rw [g1 _ ha.1.1 ha.1.2, g1 _ ha.2.1.1 ha.2.1.2]; exact hs
      · show (vGet (valsN os os.length) (i : Int)).sh = _
        have hVl2 : (valsN os os.length).length = os.length := hVl
        rw [vGet_sh hv.1 (by omega) (by rw [hVl2]; omega), pre os.length (i + 1) S S1 hS1' hp.2.1 (by omega) (Nat.le_refl _) i (by omega), ← hs1]
        unfold shGet
        rw [show ((i : Nat) : Int).toNat = i by simp, List.getD_eq_getElem?_getD, List.getElem?_append_right (by omega), hl, Nat.sub_self]; rfl
theorem valsP_ok {os : List OpP} {S : List Sh} (hS : shapesP os = some S) : (valsP os).length = os.length ∧ ∀ t ∈ valsP os, okT t := by
  have hp := shapesP_some hS
  have hv := valsN_ok (Nat.le_refl _) hp.2.1
  exact ⟨by have := congrArg List.length hv.1; rw [List.length_map, hp.2.2.1] at this; exact this, hv.2⟩
theorem vGet_ok {V : List TenP} (h : ∀ t ∈ V, okT t) {i : Int} (h0 : 0 ≤ i) (h1 : i < V.length) : okT (vGet V i) := by
  obtain ⟨n, rfl⟩ : ∃ n : Nat, i = n := ⟨i.toNat, by omega⟩
  rw [vGet_nat (by omega)]; exact h _ (List.getElem_mem _)
/-- a step -/
theorem OkG.step {os : List OpP} {S : List Sh} (hS : shapesP os = some S) {U : List Bool} {G : List TenP} (h : OkG (valsP os) U G) (hU : U.length = os.length) {i : Nat} {o : OpP} (ho : os[i]? = some o) : OkG (valsP os) (stepU U i o) (stepG (valsP os) U G i o) := by
  have hi := (List.getElem?_eq_some_iff.1 ho).1
  obtain ⟨hVl, hok⟩ := valsP_ok hS
  unfold stepU stepG
  by_cases hc : U.getD i false = true ∧ o.k ≠ 0
  · rw [if_pos hc, if_pos hc]
    have hf := valid_fit hS ho
    have hk10 := fitsB_in hf
    have ha := fitsB_args hf hc.2
    obtain ⟨s, hs, hgs⟩ := grad_round hS ho hc.2
    have hkk : 1 ≤ o.k ∧ o.k ≤ 10 := ⟨by have := hc.2; omega, hk10.2⟩
    have okv := vGet_ok hok ha.1.1 (by omega)
    have okw := vGet_ok hok ha.2.1.1 (by omega)
    have hg := h.2 i (by omega)
    have hA := partA_ok (num := cn .f32 o.num) hkk hg.1.1 okv okw hs (hg.1.2.trans hgs)
    obtain ⟨a, haa⟩ : ∃ a : Nat, o.a = a := ⟨o.a.toNat, by omega⟩
    obtain ⟨b, hbb⟩ : ∃ b : Nat, o.b = b := ⟨o.b.toNat, by omega⟩
    have hai : a < (valsP os).length := by omega
    have hbi : b < (valsP os).length := by omega
    rw [haa] at hA
    have h1 := h.give hai hA.1 hA.2 (by omega)
    rw [haa, hbb, show ((a : Nat) : Int).toNat = a by simp, show ((b : Nat) : Int).toNat = b by simp]
    rw [hbb] at h1
    by_cases ht : twoB o.k = true
    · rw [if_pos ht, if_pos ht]
      have hB := partB_ok ht hg.1.1 okv okw hs (hg.1.2.trans hgs)
      rw [haa, hbb] at hB
      exact h1.give hbi hB.1 hB.2 (by simp; omega)
    · rw [if_neg ht, if_neg ht]; exact h1
  · rw [if_neg hc, if_neg hc]; exact h
theorem OkG.at {os : List OpP} {S : List Sh} (hS : shapesP os = some S) : ∀ m, m ≤ os.length → OkG (valsP os) (usedM os m) (gradM os (valsP os) m)
  | 0, _ => OkG.init (valsP_ok hS).1 (valsP_ok hS).2 (shapesP_some hS).1.1
  | m + 1, hm => by
    obtain ⟨o, ho⟩ := getElem?_lt (show os.length - 1 - m < os.length by omega)
    have h := OkG.step hS (OkG.at hS m (by omega)) (usedM_length os m) ho
    rw [← opAtP_some ho] at h
    exact h
theorem gradM_next {os : List OpP} {V : List TenP} {n i : Nat} {o : OpP} (hn : n = os.length) (hi : i < n) (ho : os[i]? = some o) : gradM os V (n - i) = stepG V (usedM os (n - (i + 1))) (gradM os V (n - (i + 1))) i o := by
  rw [show n - i = (n - (i + 1)) + 1 by omega, gradM, show os.length - 1 - (n - (i + 1)) = i by omega, opAtP_some ho]
theorem stepG_no {V : List TenP} {U : List Bool} {G : List TenP} {i : Nat} {o : OpP} (h : U.getD i false = false ∨ o.k = 0) : stepG V U G i o = G := by
  unfold stepG; rw [if_neg]; rintro ⟨h1, h2⟩; rcases h with h | h
  · rw [h] at h1; cases h1
  · exact h2 h
theorem stepU_not {U : List Bool} {i : Nat} {o : OpP} (h : U.getD i false = false ∨ o.k = 0) : stepU U i o = U := by
  unfold stepU; rw [if_neg]; rintro ⟨h1, h2⟩; rcases h with h | h
  · rw [h] at h1; cases h1
  · exact h2 h
theorem stepU_one1 {U : List Bool} {i : Nat} {o : OpP} (h : U.getD i false = true) (hk : o.k ≠ 0) (ht : twoB o.k = false) : stepU U i o = U.set o.a.toNat true := by
  unfold stepU; rw [if_pos ⟨h, hk⟩, if_neg (by rw [ht]; decide)]
theorem stepU_two1 {U : List Bool} {i : Nat} {o : OpP} (h : U.getD i false = true) (hk : o.k ≠ 0) (ht : twoB o.k = true) : stepU U i o = (U.set o.a.toNat true).set o.b.toNat true := by
  unfold stepU; rw [if_pos ⟨h, hk⟩, if_pos ht]
theorem usedM_next1 {os : List OpP} {n i : Nat} {o : OpP} (hn : n = os.length) (hi : i < n) (ho : os[i]? = some o) : usedM os (n - i) = stepU (usedM os (n - (i + 1))) i o := by
  rw [show n - i = (n - (i + 1)) + 1 by omega, usedM, show os.length - 1 - (n - (i + 1)) = i by omega, opAtP_some ho]
theorem stepG_one {V : List TenP} {U : List Bool} {G : List TenP} {i : Nat} {o : OpP} (h : U.getD i false = true) (hk : o.k ≠ 0) (ht : twoB o.k = false) : stepG V U G i o = G.set o.a.toNat (giveV (U.getD o.a.toNat false) (vGet G o.a) (partA o.k (vGet G i) (vGet V o.a) (vGet V o.b) (cn .f32 o.num))) := by
  unfold stepG; rw [if_pos ⟨h, hk⟩, if_neg (by rw [ht]; decide)]
theorem stepG_two {V : List TenP} {U : List Bool} {G G1 : List TenP} {i : Nat} {o : OpP} (h : U.getD i false = true) (hk : o.k ≠ 0) (ht : twoB o.k = true) (h1 : G1 = G.set o.a.toNat (giveV (U.getD o.a.toNat false) (vGet G o.a) (partA o.k (vGet G i) (vGet V o.a) (vGet V o.b) (cn .f32 o.num)))) : stepG V U G i o = G1.set o.b.toNat (giveV ((U.set o.a.toNat true).getD o.b.toNat false) (vGet G1 o.b) (partB o.k (vGet G i) (vGet V o.a))) := by
  subst h1
  unfold stepG; rw [if_pos ⟨h, hk⟩, if_pos ht]
end Go.Proofs.Ytfjfjgegdaekbaa
/- Sums of columns of a tensor: the program. No condition. -/
namespace Go.Proofs.Ytfjfjgegdaekbaa
open Go Go.RowKit
set_option linter.unusedVariables false
set_option linter.unusedSimpArgs false
theorem set_listOfG {n k : Nat} {f g : Nat → Nat} {y : Nat} {zs : List Nat} (h : zs.map (cn .f32) = listOf n f) (hy : cn .f32 y = g k) (hg : ∀ i, i ≠ k → g i = f i) : (zs.set k y).map (cn .f32) = listOf n g := by
  rw [List.map_set, h, hy]
  apply List.ext_getElem
  · simp [listOf]
  · intro i h1 h2
    simp only [List.getElem_set]
    split
    · next e => subst e; simp [listOf]
    · next e => simp [listOf, hg i (Ne.symm e)]
set_option maxRecDepth 100000 in
set_option maxHeartbeats 8000000 in
theorem impl_sumRowsG (w : World) (r c : Nat) (ad : Option Addr) (cap n : Nat) (xs : List Nat) (h : F32s w ad cap xs) (hx : xs.length = n) (hn6 : n ≤ 256) (hc1 : 1 ≤ c) (hc : c ≤ 16) :
    Calls Try.prog 64 #[.agg #[.int .i64 r, .int .i64 c, .slice ad n cap]] w fun e w' => ∃ ad' cap' zs, e = .returned (.slice ad' c cap') ∧ Hid (RepF w' w.heap.size w'.heap.size ad' c cap' zs) ∧ Hid (zs.map (cn .f32) = listOf c (colG (xs.map (cn .f32)) c n)) ∧ Below w.heap.size w w' := by
  obtain ⟨i0, hi0, hz0, hz1, hz2⟩ := info_parts info_f32
  obtain ⟨X, hX⟩ : ∃ X, X = xs.map (cn .f32) := ⟨_, rfl⟩
  rw [← hX]
  have HX := Lib.hid hX; have HXL := Lib.hid hx; have H0 := Lib.hid h
  have XB := Lib.hid (BoxN.alloc w #[.int .i64 r, .int .i64 c, .slice ad n cap] 44)
  have hB := below1 w (.cells #[.int .i64 r, .int .i64 c, .slice ad n cap] 44)
  have B := Lib.hid hB
  have hsz := hB.size
  clear hX hx h hB
  go_enter Try.func64, Try.ntmps64
  obtain ⟨w0, hw0⟩ : ∃ w0, w0 = w.alloc (.cells #[.int .i64 r, .int .i64 c, .slice ad n cap] 44) := ⟨_, rfl⟩
  rw [← hw0] at XB B hsz
  go_wp2_with (at_make; refine wpList_make_full _ rfl _ _ 36 rfl (w.heap.size + 1) 35 i0 (.float .f32 0) 1 Try.underlying36 hi0 hz0 hz1 .i64 .i64 _ _ c rfl rfl rfl rfl ?c1 ?c2 ?c3 ?_)
  case c1 => omega
  case c2 => unfold maxLen; omega
  intro w1 hown1 hg1
  rw [← hw0] at hg1
  have hw1 : w0.heap.size = w.heap.size + 1 := by rw [hw0]; simp
  have hb1 : Below (w.heap.size + 1) w0 w1 := (Below.refl _ _).grown hg1 (by omega) (fun k e => by cases e)
  have hs1 := hb1.size
  have hS := zeros_rep hown1
  have B0 := B
  have HW1 := Lib.hid hw1
  have hne : ¬ c = 0 := by omega
  clear hown1 hg1 hw0 B
  have XB1 := Lib.hid (XB.out.below (HW1.out.symm ▸ hb1))
  obtain ⟨-, y0, y1, y2, yf⟩ := XB1.out.three
  go_wp2
  go_loopw [13] (fun i wr => ∃ k : Nat, i = .int .i64 k ∧ k ≤ n ∧ ∃ zs : List Nat, RepF wr (w.heap.size + 1) w1.heap.size (some ⟨w.heap.size + 1, 0, none⟩) c c zs ∧ Hid (zs.map (cn .f32) = listOf c (colG X c k)) ∧ Below (w.heap.size + 1) w0 wr ∧ w1.heap.size ≤ wr.heap.size) (fun i _ => n - (intOf i).toNat)
  case atStart => exact ⟨0, rfl, Nat.zero_le _, _, hS, Lib.hid (by rw [zeros_listOf]; rfl), hb1, Nat.le_refl _⟩
  case round =>
    obtain ⟨k, rfl, hk, zs, hz, HZ, hb, hbs⟩ := hrel
    have hx := H0.out.below (bthen B0.out (HW1.out.symm ▸ hb))
    obtain ⟨-, x0, x1, x2, xf⟩ := (XB.out.below (HW1.out.symm ▸ hb)).three
    by_cases hlt : k < n
    · have hk1 : k < xs.length := by rw [HXL.out]; exact hlt
      obtain ⟨bx, offx, rfl, _, hqx⟩ := F32s.spot hx (k := k) hk1
      have hcx := hqx k hk1
      obtain ⟨x, px⟩ : ∃ x, x = xs.getD k 0 := ⟨_, rfl⟩
      rw [← px] at hcx
      have Px := Lib.hid px; clear px hqx hx
      have hmod : k % c < c := Nat.mod_lt _ hc1
      have ht : (k : Int).tmod (c : Int) = ((k % c : Nat) : Int) := (Int.ofNat_tmod k c).symm
      obtain ⟨j, hj⟩ : ∃ j, j = k % c := ⟨_, rfl⟩
      rw [← hj] at hmod ht
      have HJ := Lib.hid hj; clear hj
      obtain ⟨g, hg, hlo, hcell, hfr, _⟩ := hz.open (by omega)
      cases hg
      have hc2 := hcell j hmod
      have hf := hfr j
      obtain ⟨z, hzz⟩ : ∃ z, z = zs.getD j 0 := ⟨_, rfl⟩
      rw [← hzz] at hc2
      have HZZ := Lib.hid hzz
      clear hcell hfr hzz
      go_wp2
      go_roundw
      case rel =>
        refine ⟨k + 1, by go_num, hlt, zs.set j _, RepF.setAt (hz.below (below_drewN (Below.refl _ _) _)) j _ (fbits_lt _ .f32 _ _ _) (by omega), Lib.hid (set_listOfG HZ.out ?_ ?_), (below_drewN hb _).setCell (Nat.le_refl _) _, by simpa [World.setCell] using hbs⟩
        · rw [cn_fbits, HZZ.out, cn_at HZ.out hmod, Px.out, ← cn_getD, ← HX.out]
          show _ = if j = k % c then _ else _
          rw [if_pos HJ.out]
        · intro i hi
          show (if i = k % c then _ else _) = _
          rw [if_neg (by rw [← HJ.out]; exact hi)]
      case measure => simp [intOf]; omega
    · have hkn : k = n := by omega
      subst hkn
      go_wp2
      go_ret
      exact ⟨_, _, zs, rfl, Lib.hid (hz.bounds (by omega) hbs), HZ, bthen B0.out (HW1.out.symm ▸ hb)⟩
end Go.Proofs.Ytfjfjgegdaekbaa
/- Tensors that are told as data, and what calls give for them. No condition. -/
namespace Go.Proofs.Ytfjfjgegdaekbaa
open Go Go.RowKit
set_option linter.unusedVariables false
set_option linter.unusedSimpArgs false
theorem F32s.uniq {w : World} {a : Option Addr} {k : Nat} {xs ys : List Nat} (h1 : F32s w a k xs) (h2 : F32s w a k ys) (hl : xs.length = ys.length) : xs = ys := by
  refine List.ext_getElem hl fun i hi hj => ?_
  obtain ⟨b, o, e, _, hc⟩ := h1.spot (k := i) hi
  obtain ⟨b2, o2, e2, _, hc2⟩ := h2.spot (k := i) hj
  rw [e] at e2
  cases e2
  have e3 := (hc i hi).symm.trans (hc2 i hj)
  rw [List.getD_eq_getElem?_getD, List.getD_eq_getElem?_getD, List.getElem?_eq_getElem hi, List.getElem?_eq_getElem hj] at e3
  simpa using e3
structure Dsc where
  r : Nat
  c : Nat
  a : Option Addr
  k : Nat
  xs : List Nat
def Dsc.val (t : Dsc) : Value := .agg #[.int .i64 t.r, .int .i64 t.c, .slice t.a t.xs.length t.k]
def Dsc.cells (t : Dsc) : List Value := [.int .i64 t.r, .int .i64 t.c, .slice t.a t.xs.length t.k]
def Dsc.can (t : Dsc) : TenP := ⟨t.r, t.c, t.xs.map (cn .f32)⟩
structure Dsc.At (t : Dsc) (w : World) : Prop where
  see : F32s w t.a t.k t.xs
  r1 : 1 ≤ t.r
  r2 : t.r ≤ 16
  c1 : 1 ≤ t.c
  c2 : t.c ≤ 16
  len : t.xs.length = t.r * t.c
theorem Dsc.At.below {t : Dsc} {w w' : World} (h : t.At w) (hb : Below w.heap.size w w') : t.At w' := ⟨h.see.below hb, h.r1, h.r2, h.c1, h.c2, h.len⟩
theorem Dsc.At.le {t : Dsc} {w : World} (h : t.At w) : t.xs.length ≤ 256 := by rw [h.len]; exact Nat.mul_le_mul h.r2 h.c2
theorem Dsc.At.pos {t : Dsc} {w : World} (h : t.At w) : 1 ≤ t.xs.length := by rw [h.len]; exact Nat.mul_le_mul h.r1 h.c1
theorem Dsc.At.nil {t : Dsc} {w : World} (h : t.At w) : t.a = none → t.k = 0 := by
  intro e
  obtain ⟨b, o, e2, _, _⟩ := h.see.spot (k := 0) h.pos
  rw [e] at e2; cases e2
theorem Dsc.At.okT {t : Dsc} {w : World} (h : t.At w) : okT t.can := by
  have h1 := h.r1; have h2 := h.r2; have h3 := h.c1; have h4 := h.c2
  refine ⟨?_, ?_, ?_, ?_, ?_⟩ <;> show _
  · show (1 : Int) ≤ t.r; omega
  · show (t.r : Int) ≤ 16; omega
  · show (1 : Int) ≤ t.c; omega
  · show (t.c : Int) ≤ 16; omega
  · show (t.xs.map (cn .f32)).length = (t.r : Int).toNat * (t.c : Int).toNat
    rw [List.length_map, h.len]; simp
theorem Dsc.uniq {t u : Dsc} {w : World} (h1 : t.At w) (h2 : u.At w) (e : t.val = u.val) : t = u := by
  obtain ⟨r, c, a, k, xs⟩ := t
  obtain ⟨r2, c2, a2, k2, ys⟩ := u
  have e' : Value.agg #[.int .i64 (r : Int), .int .i64 (c : Int), .slice a xs.length k] = Value.agg #[.int .i64 (r2 : Int), .int .i64 (c2 : Int), .slice a2 ys.length k2] := e
  simp at e'
  obtain ⟨e1, e2, e3, e4, e5⟩ := e'
  subst e3 e5
  have h6 := F32s.uniq (xs := xs) (ys := ys) h1.see h2.see e4
  subst h6
  have e1 : r = r2 := by omega
  have e2 : c = c2 := by omega
  subst e1 e2
  rfl
/-- a tensor that a call gives -/
def RTen (T : TenP) (w1 : World) (v : Value) (w2 : World) : Prop := ∃ t : Dsc, v = t.val ∧ t.can = T ∧ RepF w2 w1.heap.size w2.heap.size t.a t.xs.length t.k t.xs ∧ Below w1.heap.size w1 w2
theorem RTen.at' {T : TenP} {w1 w2 : World} {v : Value} (h : RTen T w1 v w2) (hT : okT T) : ∃ t : Dsc, v = t.val ∧ t.can = T ∧ t.At w2 ∧ RepF w2 w1.heap.size w2.heap.size t.a t.xs.length t.k t.xs ∧ Below w1.heap.size w1 w2 := by
  obtain ⟨t, e1, e2, hr, hb⟩ := h
  subst e2
  refine ⟨t, e1, rfl, ⟨hr.arg, ?_, ?_, ?_, ?_, ?_⟩, hr, hb⟩
  · have h1 : (1 : Int) ≤ t.r := hT.r1; omega
  · have h1 : (t.r : Int) ≤ 16 := hT.r2; omega
  · have h1 : (1 : Int) ≤ t.c := hT.c1; omega
  · have h1 : (t.c : Int) ≤ 16 := hT.c2; omega
  · have h1 : (t.xs.map (cn .f32)).length = (t.r : Int).toNat * (t.c : Int).toNat := hT.len
    rw [List.length_map] at h1; simpa using h1
theorem RTen.of {r c n : Nat} {P : List Nat} {T : TenP} {w w' : World} {e : Ending} (h : TenPost r c n P w e w') (hT : T = ⟨r, c, P⟩) : ∃ v, e = .returned v ∧ RTen T w v w' := by
  obtain ⟨ad, cap, zs, he, hr, hm, hb⟩ := h
  have hl := hr.out.len
  subst hl
  subst hT
  exact ⟨_, he, ⟨r, c, ad, cap, zs⟩, rfl, by show (⟨_, _, _⟩ : TenP) = _; rw [hm.out], hr.out, hb⟩
/-- a row that a call gives -/
def RRow (L : List Nat) (w1 : World) (v : Value) (w2 : World) : Prop := ∃ (a : Option Addr) (k : Nat) (xs : List Nat), v = .slice a xs.length k ∧ xs.map (cn .f32) = L ∧ RepF w2 w1.heap.size w2.heap.size a xs.length k xs ∧ Below w1.heap.size w1 w2
/-- what the calls of an operation's parts give -/
def DAll (f : FuncId) (args : Array Value) (w1 : World) (v : Value) (w2 : World) : Prop :=
  (∃ t u : Dsc, f = 65 ∧ args = #[t.val, u.val] ∧ t.At w1 ∧ u.At w1 ∧ RTen (mulV t.can u.can) w1 v w2) ∨
  (∃ t u : Dsc, f = 43 ∧ args = #[t.val, u.val] ∧ t.At w1 ∧ u.At w1 ∧ RTen (addV t.can u.can) w1 v w2) ∨
  (∃ (t : Dsc) (a : Option Addr) (k : Nat) (ys : List Nat), f = 66 ∧ args = #[t.val, .slice a ys.length k] ∧ t.At w1 ∧ F32s w1 a k ys ∧ RTen ⟨t.r, t.c, rowE .mul t.can.xs (ys.map (cn .f32)) t.c t.xs.length⟩ w1 v w2) ∨
  (∃ t : Dsc, f = 69 ∧ args = #[t.val] ∧ t.At w1 ∧ RTen (turnV t.can) w1 v w2) ∨
  (∃ t u : Dsc, f = 68 ∧ args = #[t.val, u.val] ∧ t.At w1 ∧ u.At w1 ∧ RTen (matV t.can u.can) w1 v w2) ∨
  (∃ t : Dsc, f = 64 ∧ args = #[t.val] ∧ t.At w1 ∧ RRow (listOf t.c (colG t.can.xs t.c t.xs.length)) w1 v w2) ∨
  (∃ (a : Option Addr) (k : Nat) (ys : List Nat), f = 63 ∧ args = #[.slice a ys.length k] ∧ F32s w1 a k ys ∧ RTen ⟨1, ys.length, ys.map (cn .f32)⟩ w1 v w2)
theorem DAll.mulTensors {t u : Dsc} {w1 w2 : World} {v : Value} (h : DAll 65 #[t.val, u.val] w1 v w2) (ht : t.At w1) (hu : u.At w1) : RTen (mulV t.can u.can) w1 v w2 := by
  rcases h with ⟨t2, u2, hf, e, h1, h2, h3⟩ | ⟨t2, u2, hf, e, h1, h2, h3⟩ | ⟨t2, a2, k2, ys2, hf, e, h1, h2, h3⟩ | ⟨t2, hf, e, h1, h3⟩ | ⟨t2, u2, hf, e, h1, h2, h3⟩ | ⟨t2, hf, e, h1, h3⟩ | ⟨a2, k2, ys2, hf, e, h2, h3⟩
  · have e0 := congrArg Array.toList e
    injection e0 with e1 e0
    injection e0 with e2 e0
    cases Dsc.uniq ht h1 e1
    cases Dsc.uniq hu h2 e2
    exact h3
  · exact absurd hf (by decide)
  · exact absurd hf (by decide)
  · exact absurd hf (by decide)
  · exact absurd hf (by decide)
  · exact absurd hf (by decide)
  · exact absurd hf (by decide)
theorem DAll.addTensors {t u : Dsc} {w1 w2 : World} {v : Value} (h : DAll 43 #[t.val, u.val] w1 v w2) (ht : t.At w1) (hu : u.At w1) : RTen (addV t.can u.can) w1 v w2 := by
  rcases h with ⟨t2, u2, hf, e, h1, h2, h3⟩ | ⟨t2, u2, hf, e, h1, h2, h3⟩ | ⟨t2, a2, k2, ys2, hf, e, h1, h2, h3⟩ | ⟨t2, hf, e, h1, h3⟩ | ⟨t2, u2, hf, e, h1, h2, h3⟩ | ⟨t2, hf, e, h1, h3⟩ | ⟨a2, k2, ys2, hf, e, h2, h3⟩
  · exact absurd hf (by decide)
  · have e0 := congrArg Array.toList e
    injection e0 with e1 e0
    injection e0 with e2 e0
    cases Dsc.uniq ht h1 e1
    cases Dsc.uniq hu h2 e2
    exact h3
  · exact absurd hf (by decide)
  · exact absurd hf (by decide)
  · exact absurd hf (by decide)
  · exact absurd hf (by decide)
  · exact absurd hf (by decide)
theorem DAll.matMul {t u : Dsc} {w1 w2 : World} {v : Value} (h : DAll 68 #[t.val, u.val] w1 v w2) (ht : t.At w1) (hu : u.At w1) : RTen (matV t.can u.can) w1 v w2 := by
  rcases h with ⟨t2, u2, hf, e, h1, h2, h3⟩ | ⟨t2, u2, hf, e, h1, h2, h3⟩ | ⟨t2, a2, k2, ys2, hf, e, h1, h2, h3⟩ | ⟨t2, hf, e, h1, h3⟩ | ⟨t2, u2, hf, e, h1, h2, h3⟩ | ⟨t2, hf, e, h1, h3⟩ | ⟨a2, k2, ys2, hf, e, h2, h3⟩
  · exact absurd hf (by decide)
  · exact absurd hf (by decide)
  · exact absurd hf (by decide)
  · exact absurd hf (by decide)
  · have e0 := congrArg Array.toList e
    injection e0 with e1 e0
    injection e0 with e2 e0
    cases Dsc.uniq ht h1 e1
    cases Dsc.uniq hu h2 e2
    exact h3
  · exact absurd hf (by decide)
  · exact absurd hf (by decide)
theorem DAll.transposed {t : Dsc} {w1 w2 : World} {v : Value} (h : DAll 69 #[t.val] w1 v w2) (ht : t.At w1) : RTen (turnV t.can) w1 v w2 := by
  rcases h with ⟨t2, u2, hf, e, h1, h2, h3⟩ | ⟨t2, u2, hf, e, h1, h2, h3⟩ | ⟨t2, a2, k2, ys2, hf, e, h1, h2, h3⟩ | ⟨t2, hf, e, h1, h3⟩ | ⟨t2, u2, hf, e, h1, h2, h3⟩ | ⟨t2, hf, e, h1, h3⟩ | ⟨a2, k2, ys2, hf, e, h2, h3⟩
  · exact absurd hf (by decide)
  · exact absurd hf (by decide)
  · exact absurd hf (by decide)
  · have e0 := congrArg Array.toList e
    injection e0 with e1 e0
    cases Dsc.uniq ht h1 e1
    exact h3
  · exact absurd hf (by decide)
  · exact absurd hf (by decide)
  · exact absurd hf (by decide)
theorem DAll.sumRows {t : Dsc} {w1 w2 : World} {v : Value} (h : DAll 64 #[t.val] w1 v w2) (ht : t.At w1) : RRow (listOf t.c (colG t.can.xs t.c t.xs.length)) w1 v w2 := by
  rcases h with ⟨t2, u2, hf, e, h1, h2, h3⟩ | ⟨t2, u2, hf, e, h1, h2, h3⟩ | ⟨t2, a2, k2, ys2, hf, e, h1, h2, h3⟩ | ⟨t2, hf, e, h1, h3⟩ | ⟨t2, u2, hf, e, h1, h2, h3⟩ | ⟨t2, hf, e, h1, h3⟩ | ⟨a2, k2, ys2, hf, e, h2, h3⟩
  · exact absurd hf (by decide)
  · exact absurd hf (by decide)
  · exact absurd hf (by decide)
  · exact absurd hf (by decide)
  · exact absurd hf (by decide)
  · have e0 := congrArg Array.toList e
    injection e0 with e1 e0
    cases Dsc.uniq ht h1 e1
    exact h3
  · exact absurd hf (by decide)
theorem DAll.mulRow {t : Dsc} {a : Option Addr} {k : Nat} {ys : List Nat} {w1 w2 : World} {v : Value} (h : DAll 66 #[t.val, .slice a ys.length k] w1 v w2) (ht : t.At w1) (hy : F32s w1 a k ys) : RTen ⟨t.r, t.c, rowE .mul t.can.xs (ys.map (cn .f32)) t.c t.xs.length⟩ w1 v w2 := by
  rcases h with ⟨t2, u2, hf, e, h1, h2, h3⟩ | ⟨t2, u2, hf, e, h1, h2, h3⟩ | ⟨t2, a2, k2, ys2, hf, e, h1, h2, h3⟩ | ⟨t2, hf, e, h1, h3⟩ | ⟨t2, u2, hf, e, h1, h2, h3⟩ | ⟨t2, hf, e, h1, h3⟩ | ⟨a2, k2, ys2, hf, e, h2, h3⟩
  · exact absurd hf (by decide)
  · exact absurd hf (by decide)
  · have e0 := congrArg Array.toList e
    injection e0 with e1 e0
    injection e0 with e2 e0
    injection e2 with e4 e3 e5
    cases Dsc.uniq ht h1 e1
    subst e4 e5
    cases F32s.uniq hy h2 e3
    exact h3
  · exact absurd hf (by decide)
  · exact absurd hf (by decide)
  · exact absurd hf (by decide)
  · exact absurd hf (by decide)
theorem DAll.rowTensor {a : Option Addr} {k : Nat} {ys : List Nat} {w1 w2 : World} {v : Value} (h : DAll 63 #[.slice a ys.length k] w1 v w2) (hy : F32s w1 a k ys) : RTen ⟨1, ys.length, ys.map (cn .f32)⟩ w1 v w2 := by
  rcases h with ⟨t2, u2, hf, e, h1, h2, h3⟩ | ⟨t2, u2, hf, e, h1, h2, h3⟩ | ⟨t2, a2, k2, ys2, hf, e, h1, h2, h3⟩ | ⟨t2, hf, e, h1, h3⟩ | ⟨t2, u2, hf, e, h1, h2, h3⟩ | ⟨t2, hf, e, h1, h3⟩ | ⟨a2, k2, ys2, hf, e, h2, h3⟩
  · exact absurd hf (by decide)
  · exact absurd hf (by decide)
  · exact absurd hf (by decide)
  · exact absurd hf (by decide)
  · exact absurd hf (by decide)
  · exact absurd hf (by decide)
  · have e0 := congrArg Array.toList e
    injection e0 with e2 e0
    injection e2 with e4 e3 e5
    subst e4 e5
    cases F32s.uniq hy h2 e3
    exact h3
theorem call_mulTensors {t u : Dsc} {w : World} (ht : t.At w) (hu : u.At w) (h1 : t.r = u.r) (h2 : t.c = u.c) : Calls Try.prog 65 #[t.val, u.val] w fun e w' => ∃ v, e = .returned v ∧ DAll 65 #[t.val, u.val] w v w' := by
  have h0 : Calls Try.prog 65 #[t.val, u.val] w (TenPost t.r t.c t.xs.length (tenE .mul (t.xs.map (cn .f32)) (u.xs.map (cn .f32)) t.xs.length) w) := by
    show Calls Try.prog 65 #[.agg #[.int .i64 t.r, .int .i64 t.c, .slice t.a t.xs.length t.k], .agg #[.int .i64 u.r, .int .i64 u.c, .slice u.a u.xs.length u.k]] w _
    rw [show u.xs.length = t.xs.length by rw [ht.len, hu.len, h1, h2]]
    exact impl_mulTensors w t.r t.c u.r u.c t.a u.a t.k u.k t.xs.length t.xs u.xs ht.see hu.see rfl (by rw [ht.len, hu.len, h1, h2]) ht.le
  refine h0.mono fun e w' h => ?_
  obtain ⟨v, he, hr⟩ := RTen.of (T := mulV t.can u.can) h (by simp [mulV, addV, turnV, matV, Dsc.can])
  exact ⟨v, he, Or.inl ⟨t, u, rfl, rfl, ht, hu, hr⟩⟩
theorem call_addTensors {t u : Dsc} {w : World} (ht : t.At w) (hu : u.At w) (h1 : t.r = u.r) (h2 : t.c = u.c) : Calls Try.prog 43 #[t.val, u.val] w fun e w' => ∃ v, e = .returned v ∧ DAll 43 #[t.val, u.val] w v w' := by
  have h0 : Calls Try.prog 43 #[t.val, u.val] w (TenPost t.r t.c t.xs.length (tenE .add (t.xs.map (cn .f32)) (u.xs.map (cn .f32)) t.xs.length) w) := by
    show Calls Try.prog 43 #[.agg #[.int .i64 t.r, .int .i64 t.c, .slice t.a t.xs.length t.k], .agg #[.int .i64 u.r, .int .i64 u.c, .slice u.a u.xs.length u.k]] w _
    rw [show u.xs.length = t.xs.length by rw [ht.len, hu.len, h1, h2]]
    exact impl_addTensors w t.r t.c u.r u.c t.a u.a t.k u.k t.xs.length t.xs u.xs ht.see hu.see rfl (by rw [ht.len, hu.len, h1, h2]) ht.le
  refine h0.mono fun e w' h => ?_
  obtain ⟨v, he, hr⟩ := RTen.of (T := addV t.can u.can) h (by simp [mulV, addV, turnV, matV, Dsc.can])
  exact ⟨v, he, Or.inr (Or.inl ⟨t, u, rfl, rfl, ht, hu, hr⟩)⟩
theorem call_mulRow {t : Dsc} {a : Option Addr} {k : Nat} {ys : List Nat} {w : World} (ht : t.At w) (hy : F32s w a k ys) (hl : ys.length = t.c) : Calls Try.prog 66 #[t.val, .slice a ys.length k] w fun e w' => ∃ v, e = .returned v ∧ DAll 66 #[t.val, .slice a ys.length k] w v w' := by
  have h0 : Calls Try.prog 66 #[t.val, .slice a ys.length k] w (TenPost t.r t.c t.xs.length (rowE .mul (t.xs.map (cn .f32)) (ys.map (cn .f32)) t.c t.xs.length) w) := by
    show Calls Try.prog 66 #[.agg #[.int .i64 t.r, .int .i64 t.c, .slice t.a t.xs.length t.k], .slice a ys.length k] w _
    rw [hl]
    exact impl_mulRow w t.r t.c t.a a t.k k t.xs.length t.xs ys ht.see hy rfl hl ht.le ht.c1 ht.c2
  refine h0.mono fun e w' h => ?_
  obtain ⟨v, he, hr⟩ := RTen.of (T := ⟨t.r, t.c, rowE .mul t.can.xs (ys.map (cn .f32)) t.c t.xs.length⟩) h (by rfl)
  exact ⟨v, he, Or.inr (Or.inr (Or.inl ⟨t, a, k, ys, rfl, rfl, ht, hy, hr⟩))⟩
theorem call_transposed {t : Dsc} {w : World} (ht : t.At w) : Calls Try.prog 69 #[t.val] w fun e w' => ∃ v, e = .returned v ∧ DAll 69 #[t.val] w v w' := by
  refine (impl_transposed w t.r t.c t.a t.k t.xs.length t.xs ht.see rfl ht.r1 ht.r2 ht.c1 ht.c2 ht.len).mono fun e w' h => ?_
  obtain ⟨v, he, hr⟩ := RTen.of (T := turnV t.can) h (by simp [mulV, addV, turnV, matV, Dsc.can])
  exact ⟨v, he, Or.inr (Or.inr (Or.inr (Or.inl ⟨t, rfl, rfl, ht, hr⟩)))⟩
theorem call_matMul {t u : Dsc} {w : World} (ht : t.At w) (hu : u.At w) (h1 : t.c = u.r) : Calls Try.prog 68 #[t.val, u.val] w fun e w' => ∃ v, e = .returned v ∧ DAll 68 #[t.val, u.val] w v w' := by
  have h0 : Calls Try.prog 68 #[t.val, u.val] w (TenPost t.r u.c (t.r * u.c) (matE (t.xs.map (cn .f32)) (u.xs.map (cn .f32)) t.c u.c (t.r * u.c)) w) := by
    obtain ⟨ur, uc, ua, uk, us⟩ := u; replace h1 : t.c = ur := h1; subst h1; exact impl_matMul w t.r t.c uc t.a ua t.k uk t.xs.length us.length t.xs us ht.see hu.see rfl rfl ht.r1 ht.r2 ht.c1 ht.c2 hu.c1 hu.c2 ht.len hu.len
  refine h0.mono fun e w' h => ?_
  obtain ⟨v, he, hr⟩ := RTen.of (T := matV t.can u.can) h (by simp [mulV, addV, turnV, matV, Dsc.can])
  exact ⟨v, he, Or.inr (Or.inr (Or.inr (Or.inr (Or.inl ⟨t, u, rfl, rfl, ht, hu, hr⟩))))⟩
theorem call_rowTensor {a : Option Addr} {k : Nat} {ys : List Nat} {w : World} (hy : F32s w a k ys) (hl : 1 ≤ ys.length) (hl2 : ys.length ≤ 1048576) : Calls Try.prog 63 #[.slice a ys.length k] w fun e w' => ∃ v, e = .returned v ∧ DAll 63 #[.slice a ys.length k] w v w' := by
  refine (impl_rowTensor w a k ys.length ys hy (by intro e; obtain ⟨b, o, e2, _, _⟩ := hy.spot (k := 0) hl; rw [e] at e2; cases e2) rfl hl2).mono fun e w' h => ?_
  obtain ⟨v, he, hr⟩ := RTen.of (T := ⟨1, ys.length, ys.map (cn .f32)⟩) h (by simp [mulV, addV, turnV, matV, Dsc.can])
  exact ⟨v, he, Or.inr (Or.inr (Or.inr (Or.inr (Or.inr (Or.inr (⟨a, k, ys, rfl, rfl, hy, hr⟩))))))⟩
theorem call_sumRows {t : Dsc} {w : World} (ht : t.At w) : Calls Try.prog 64 #[t.val] w fun e w' => ∃ v, e = .returned v ∧ DAll 64 #[t.val] w v w' := by
  refine (impl_sumRowsG w t.r t.c t.a t.k t.xs.length t.xs ht.see rfl ht.le ht.c1 ht.c2).mono fun e w' h => ?_
  obtain ⟨ad, cap, zs, he, hr, hm, hb⟩ := h
  have hl := hr.out.len
  refine ⟨_, he, Or.inr (Or.inr (Or.inr (Or.inr (Or.inr (Or.inl ⟨t, rfl, rfl, ht, ad, cap, zs, by rw [hl], hm.out, ?_, hb⟩)))))⟩
  rw [hl]; exact hr.out
end Go.Proofs.Ytfjfjgegdaekbaa
