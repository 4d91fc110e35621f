/- Joined texts 5: Tu3 Tn1 Tn2 Tn3 Rp0 Rg3 Rg4 Rp3. Each is told at its own head. No condition. -/
import Derived.Deep.RegionHeld3
import Derived.WalkSmall
import Derived.Maps.AppendAt
import Derived.Deep.AppendLies
import Derived.Deep.CutRange
import Derived.Deep.DeepCutAuto
import Derived.Test.YtpemhiaeiecinaaMc0
import Derived.Test.YtpemhiaeiecinaaMc2
import Derived.Test.YtpemhiaeiecinaaMc3
import Derived.Test.YtpemhiaeiecinaaMc4
/- Which operations a tape's last value depends on: the program. No condition. -/
namespace Go.Proofs.Ytpemhiaeiecinaa
open Go Go.RowKit
set_option linter.unusedVariables false
set_option linter.unusedSimpArgs false
theorem impl_ValidTape (w : World) (ad : Option Addr) (cap : Nat) (os : List OpD) (h : SeeR opR w ad cap os) :
    Calls Try.prog 79 #[.slice ad os.length cap] w fun e w' => e = .returned (.bool (shapesP (os.map OpD.toOpP)).isSome) ∧ Below w.heap.size w w' := by
  have K := Lib.hid (impl_shapes w ad cap os h)
  clear h
  go_enter Try.func79, Try.ntmps79
  go_wp2_with fail
  refine K.out.mono ?_
  rintro e w1 ⟨v, b, rfl, hs, hb⟩
  have HS := Lib.hid hs.out.1
  clear hs
  go_wp2
  go_ret
  exact ⟨by rw [HS.out]; rfl, hb⟩
theorem RepU.low {w w' : World} {g n B : Nat} {U : List Bool} (h : RepU w g n U) (hb : Below B w w') (hg : g < B) : RepU w' g n U := by
  refine ⟨⟨h.own.1, ?_⟩, h.len⟩
  rcases h.own.2 with h2 | ⟨g', cap, cur, hv, hbg, hh, r⟩
  · exact .inl h2
  · have e : g = g' := by cases hv; rfl
    exact .inr ⟨g', cap, cur, hv, hbg, by rw [hb.block g' (by omega)]; exact hh, r⟩
set_option maxHeartbeats 8000000 in
set_option maxRecDepth 100000 in
theorem impl_UsedOps (w : World) (ad : Option Addr) (cap : Nat) (os : List OpD) (h : SeeR opR w ad cap os) :
    Calls Try.prog 85 #[.slice ad os.length cap] w fun e w' => ∃ ad' n' cap' b xs, e = .returned (.tuple #[.slice ad' n' cap', .bool b]) ∧ Hid (UsedOut (os.map OpD.toOpP) w w' ad' n' cap' b xs) ∧ Below w.heap.size w w' := by
  obtain ⟨i0, hi0, hz0, hz1, hz2⟩ := info_parts info_bool
  obtain ⟨j0, hj0, hy0, hy1, hy2⟩ := info_parts info_i64
  have K := Lib.hid (impl_ValidTape w ad cap os h)
  have hPl : (os.map OpD.toOpP).length = os.length := List.length_map _
  have hPo : ∀ {i : Nat} {o : OpD}, os[i]? = some o → (os.map OpD.toOpP)[i]? = some o.toOpP := fun {i o} h => by rw [List.getElem?_map, h]; rfl
  obtain ⟨P, hP⟩ : ∃ P, P = os.map OpD.toOpP := ⟨_, rfl⟩
  rw [← hP] at K hPl ⊢
  have HPO : Hid (∀ (i : Nat) (o : OpD), os[i]? = some o → P[i]? = some o.toOpP) := Lib.hid (fun i o h => by rw [hP]; exact hPo h)
  clear hP hPo
  have H := Lib.hid h; clear h
  cases hs : shapesP P with
  | none =>
    have HS := Lib.hid hs
    rw [hs] at K
    clear hs
    go_enter Try.func85, Try.ntmps85
    go_wp2_with fail
    refine K.out.mono ?_
    rintro e w1 ⟨rfl, hb⟩
    go_wp2
    go_ret2
    exact ⟨none, 0, 0, _, [], rfl, Lib.hid ⟨⟨by rw [HS.out]; rfl, by rw [HS.out]; rfl⟩, RepI.nil _ _ _⟩, hb⟩
  | some S =>
    rw [hs] at K
    have hp := shapesP_some hs
    have hfit := fun {i : Nat} {o : OpP} (ho : P[i]? = some o) => valid_fit hs ho
    have HFIT : Hid (∀ (i : Nat) (o : OpP), P[i]? = some o → fitsB i o = true) := Lib.hid (fun i o ho => hfit ho)
    obtain ⟨n, hN⟩ : ∃ n, n = os.length := ⟨_, rfl⟩
    have hn1 : 1 ≤ n := by have := hp.1.1; omega
    have hn2 : n ≤ 48 := by have := hp.1.2; omega
    rw [← hN] at K hPl ⊢
    have HN := Lib.hid hN; have HPL := Lib.hid hPl; have HS := Lib.hid hs
    clear hN hPl hp hfit hs
    have hni : (n : Int) - 1 = ((n - 1 : Nat) : Int) := by omega
    have hnl : n - 1 < n := by omega
    go_enter Try.func85, Try.ntmps85
    go_wp2_with fail
    refine K.out.mono ?_
    rintro e w1 ⟨rfl, hb⟩
    have HB := Lib.hid hb; clear hb
    go_wp2_with (at_make; refine wpList_make_full _ rfl _ _ 176 rfl w1.heap.size 4 i0 (.bool false) 1 Try.underlying176 hi0 hz0 hz1 .i64 .i64 _ _ n rfl rfl rfl rfl ?c1 ?c2 ?c3 ?_)
    case c1 => rw [hz2]; omega
    case c2 => unfold maxLen; omega
    case c3 => exact Nat.le_refl _
    intro w2 hown hg
    have hb2 : Below w1.heap.size w1 w2 := (Below.refl _ _).grown hg (Nat.le_refl _) (fun k e => by cases e)
    have hu0 : RepU w2 w1.heap.size n (List.replicate n false) := by
      refine ⟨?_, by simp⟩
      rw [toList_madeCells_one] at hown
      rw [List.map_replicate]; exact hown
    have hu1 := hu0.set (n - 1)
    have c0 := hu0.cell hnl
    have f0 := hu0.fz (n - 1)
    have hu2 : RepU (w2.setCell ⟨w1.heap.size, n - 1, none⟩ (.bool true)) w1.heap.size n (usedM P 0) := by
      have e : usedM P 0 = (List.replicate n false).set (n - 1) true := by unfold usedM; rw [HPL.out]
      rw [e]; exact hu1
    have HU := Lib.hid hu2
    have hb3 : Below w1.heap.size w1 (w2.setCell ⟨w1.heap.size, n - 1, none⟩ (.bool true)) := hb2.setCell (p := ⟨w1.heap.size, n - 1, none⟩) (Nat.le_refl _) _
    have HB3 := Lib.hid hb3
    have hl2 : w1.heap.size < w2.heap.size := hu0.lt
    clear hown hg hb2 hu0 hu1 hu2 hb3
    go_wp2
    go_loopw [5] (fun i wt => ∃ j : Nat, i = .int .i64 ((j : Int) - 1) ∧ j ≤ n ∧ Hid (RepU wt w1.heap.size n (usedM P (n - j))) ∧ Hid (Below w1.heap.size w1 wt)) (fun i _ => (intOf i + 1).toNat)
    case atStart => exact ⟨n, by go_num, Nat.le_refl _, by rw [Nat.sub_self]; exact HU, HB3⟩
    case round =>
      clear HU HB3 c0 f0 hl2
      obtain ⟨j, rfl, hj, HU, HB2⟩ := hrel
      rcases j with _ | i
      · rw [Nat.sub_zero] at HU
        have hgl := HU.out.lt
        obtain ⟨U, hU⟩ : ∃ U, U = usedM P n := ⟨_, rfl⟩
        rw [← hU] at HU
        have HUE := Lib.hid hU
        clear hU hj
        go_wp2
        go_loopw [7, 56] (fun v i wt => ∃ k : Nat, i = .int .i64 k ∧ k ≤ n ∧ Hid (wt.ownsRow (w1.heap.size + 1) 2 1 v (usedF U 0 k).length ((usedF U 0 k).map (Value.int .i64))) ∧ Hid (RepU wt w1.heap.size n U) ∧ Hid (Below w1.heap.size w1 wt)) (fun _ i _ => n - (intOf i).toNat)
        case atStart =>
          refine ⟨0, rfl, Nat.zero_le _, Lib.hid ?_, Lib.hid (HU.out.below (below1 _ _)), Lib.hid (HB2.out.alloc HB2.out.size _)⟩
          rw [usedF_nil]
          exact World.ownsRow_made _ _ _ hgl (Nat.zero_le _) rfl
        case round =>
          clear HU HB2 hgl
          obtain ⟨k, rfl, hk, HO, HU, HB2⟩ := hrel
          by_cases hlt : k < n
          · have hc := HU.out.cell hlt
            have hgl := HU.out.lt
            have hsn := usedF_snoc U k
            have hll := usedF_length U 0 k
            cases hu : U.getD k false
            · rw [hu] at hc hsn
              have hs2 : usedF U 0 (k + 1) = usedF U 0 k := by rw [hsn]; simp
              have HS2 := Lib.hid hs2
              clear hu hsn hs2
              go_wp2
              refine ⟨?rel, ?measure⟩
              case rel => exact ⟨k + 1, by go_num, hlt, by rw [HS2.out]; exact HO, HU, HB2⟩
              case measure => first | (simp [intOf]; done) | (simp [intOf]; omega)
            · rw [hu] at hc hsn
              have hs2 : usedF U 0 (k + 1) = usedF U 0 k ++ [(k : Int)] := hsn
              have HS2 := Lib.hid hs2
              clear hu hsn hs2
              go_wp2_with (at_builtin; refine wp_app rfl _ _ 44 rfl (w1.heap.size + 1) j0 (.int .i64 0) 1 8 Try.underlying44 hj0 hy0 hy1 hy2 rfl (by decide) rfl (one_cell _ rfl) _ _ _ rfl HO.out rfl ?c3 ?c4 ?c5 ?_)
              case c3 => unfold maxLen; omega
              case c4 => omega
              case c5 => exact hgl
              intro v2 w3 ho2 hb2 hs2
              have HO2 := Lib.hid ho2
              have HU2 := Lib.hid (HU.out.low hb2 (Nat.lt_succ_self _))
              have HB4 := Lib.hid (HB2.out.trans (hb2.mono (Nat.le_succ _)))
              clear ho2 hb2 HO HU HB2 hc
              go_wp2
              go_roundw
              case rel => (repeat apply Exists.intro); exact ⟨⟨k + 1, by go_num, hlt, Lib.hid (by rw [HS2.out, List.length_append, List.map_append]; exact HO2.out), HU2, HB4⟩, rfl⟩
              case measure => first | (simp [intOf]; done) | (simp [intOf]; omega)
          · have hkn : k = n := by omega
            obtain ⟨ad9, cap9, rfl, hr9⟩ := RepI.of_owns HO.out (by intro z hz; have := usedF_gt U 0 k z hz; obtain ⟨q, rfl⟩ : ∃ q : Nat, z = q := ⟨z.toNat, by omega⟩; exact nat_wf (by omega))
            have HR9 := Lib.hid hr9
            have hfin : usedF U 0 k = usedP P := by rw [usedP_eq, HPL.out, ← HUE.out, hkn]
            have HFIN := Lib.hid hfin
            clear hr9 hfin
            subst hkn
            go_wp2
            go_ret2
            exact ⟨_, _, _, _, _, rfl, Lib.hid ⟨⟨by rw [HS.out]; rfl, by rw [HS.out]; exact HFIN.out⟩, HR9.out.bounds (by have := HB.out.size; omega) (Nat.le_refl _)⟩, HB.out.trans (HB2.out.mono HB.out.size)⟩
      · have hi : i < n := by omega
        rw [show ((i + 1 : Nat) : Int) - 1 = (i : Int) by omega]
        obtain ⟨o, ho⟩ := getElem?_lt (show i < os.length by rw [← HN.out]; exact hi)
        obtain ⟨b, off, rfl, hbl, ⟨p0, p1, p2, p3, p4, p5, p6⟩, hf, hok⟩ := op_spot ((H.out.below HB.out).below HB2.out) ho
        have hop := HPO.out i o ho
        have hfit := HFIT.out i o.toOpP hop
        have hnext := usedM_next (os := P) (n := n) HPL.out.symm hi hop
        have hc := HU.out.cell hi
        obtain ⟨U, hU⟩ : ∃ U, U = usedM P (n - (i + 1)) := ⟨_, rfl⟩
        obtain ⟨V, hV⟩ : ∃ V, V = usedM P (n - i) := ⟨_, rfl⟩
        rw [← hU] at HU hnext hc
        rw [← hV] at hnext
        have HV := Lib.hid hV; have HNX := Lib.hid hnext; have HFT := Lib.hid hfit
        clear hU hV hnext hop hf hok ho hfit
        have hgl := HU.out.lt
        have HUB := Lib.hid (HU.out.below (below1 wr (.cells o.cells.toArray 102)))
        have HBB := Lib.hid (HB2.out.alloc HB2.out.size (.cells o.cells.toArray 102))
        cases hu : U.getD i false
        · rw [hu] at hc
          have hV2 : V = U := by rw [HNX.out]; exact stepU_no (.inl hu)
          clear hu HU HNX HFT
          go_wp2
          go_roundw
          case rel => exact ⟨i, rfl, by omega, by rw [← HV.out, hV2]; exact HUB, HBB⟩
          case measure => first | (simp [intOf]; done) | (simp [intOf]; omega)
        · rw [hu] at hc
          have HU0 := Lib.hid hu
          clear hu
          by_cases hk0 : o.k = 0
          · have HU4 : Hid (RepU (wr.alloc (.cells o.cells.toArray 102)) w1.heap.size n V) := by rw [HNX.out, stepU_no (.inr hk0)]; exact HUB
            have hk1 : (o.k == 0) = true := by simpa using hk0
            clear HU HNX hk0 HU0 HFT HUB
            go_wp2
            go_roundw
            case rel => exact ⟨i, rfl, by omega, by rw [← HV.out]; exact HU4, HBB⟩
            case measure => first | (simp [intOf]; done) | (simp [intOf]; omega)
          · have hk0' : (o.k == 0) = false := by simpa using hk0
            obtain ⟨⟨a1, a2⟩, ⟨b1, b2⟩, -⟩ := fitsB_args HFT.out hk0
            have KT := Lib.hid (fun W => impl_takesTwo o.k W)
            obtain ⟨A, hA⟩ : ∃ A : Nat, o.a = A := ⟨o.a.toNat, by omega⟩
            obtain ⟨B, hB⟩ : ∃ B : Nat, o.b = B := ⟨o.b.toNat, by omega⟩
            rw [hA] at p1 a2
            rw [hB] at p2 b2
            have hAn : A < n := by omega
            have hBn : B < n := by omega
            have cA := HU.out.cell hAn
            have fA := HU.out.fz A
            have cB := HU.out.cell hBn
            have fB := HU.out.fz B
            have HUA := Lib.hid (HU.out.set A)
            have HBA := Lib.hid (HB2.out.setCell (p := ⟨w1.heap.size, A, none⟩) (Nat.le_refl _) (.bool true))
            have hszA : (wr.setCell ⟨w1.heap.size, A, none⟩ (.bool true)).heap.size = wr.heap.size := by simp [World.setCell]
            cases hT : twoB o.k
            · rw [hT] at KT
              have HU4 : Hid (RepU ((wr.setCell ⟨w1.heap.size, A, none⟩ (.bool true)).alloc (.cells o.cells.toArray 102)) w1.heap.size n V) := by rw [HNX.out, stepU_one HU0.out hk0 hT, hA, Int.toNat_natCast]; exact Lib.hid (HUA.out.below (below1 _ _))
              have HB4 := Lib.hid (HBA.out.alloc HBA.out.size (.cells o.cells.toArray 102))
              unfold OpD.cells at HU4 HB4
              rw [hA, hB] at HU4 HB4
              clear HNX hk0 HU0 HFT HUA hT hA hB a1 a2 b1 b2 HUB HBB HU
              go_wp2_with fail
              refine (KT.out _).mono ?_
              rintro e w4 ⟨rfl, rfl⟩
              go_wp2
              go_roundw
              case rel => exact ⟨i, rfl, by omega, by rw [← HV.out]; exact HU4, HB4⟩
              case measure => first | (simp [intOf]; done) | (simp [intOf]; omega)
            · rw [hT] at KT
              have HU4 : Hid (RepU (((wr.setCell ⟨w1.heap.size, A, none⟩ (.bool true)).setCell ⟨w1.heap.size, B, none⟩ (.bool true)).alloc (.cells o.cells.toArray 102)) w1.heap.size n V) := by rw [HNX.out, stepU_two HU0.out hk0 hT, hA, hB, Int.toNat_natCast, Int.toNat_natCast]; exact Lib.hid ((HUA.out.set B).below (below1 _ _))
              have HBB2 := HBA.out.setCell (p := ⟨w1.heap.size, B, none⟩) (Nat.le_refl _) (.bool true)
              have HB4 := Lib.hid (HBB2.alloc HBB2.size (.cells o.cells.toArray 102))
              have hcB := HUA.out.cell hBn
              have hfB := HUA.out.fz B
              unfold OpD.cells at HU4 HB4
              rw [hA, hB] at HU4 HB4
              clear HNX hk0 HU0 HFT HUA hT hA hB a1 a2 b1 b2 HUB HBB HU HBB2
              go_wp2_with fail
              refine (KT.out _).mono ?_
              rintro e w4 ⟨rfl, rfl⟩
              go_wp2
              go_roundw
              case rel => exact ⟨i, rfl, by omega, by rw [← HV.out]; exact HU4, HB4⟩
              case measure => first | (simp [intOf]; done) | (simp [intOf]; omega)
end Go.Proofs.Ytpemhiaeiecinaa
/- Lists and tensors that are the same. No condition. -/
namespace Go.Proofs.Ytpemhiaeiecinaa
open Go Go.RowKit
set_option linter.unusedVariables false
set_option linter.unusedSimpArgs false
theorem eq_take_next {xs ys : List Nat} {k : Nat} (hx : k < xs.length) (hy : k < ys.length) (h : (xs.take k).map (cn .f32) = (ys.take k).map (cn .f32)) (he : cn .f32 (xs.getD k 0) = cn .f32 (ys.getD k 0)) : (xs.take (k + 1)).map (cn .f32) = (ys.take (k + 1)).map (cn .f32) := by
  rw [List.getD_eq_getElem?_getD, List.getD_eq_getElem?_getD, List.getElem?_eq_getElem hx, List.getElem?_eq_getElem hy] at he
  rw [List.take_succ_eq_append_getElem hx, List.take_succ_eq_append_getElem hy, List.map_append, List.map_append, h]
  simpa using he
set_option maxHeartbeats 2000000 in
theorem eq_func (w : World) (a b : Option Addr) (ca cb : Nat) (xs ys : List Nat) (hx : F32s w a ca xs) (hy : F32s w b cb ys) :
    Calls Try.prog 182 #[.slice a xs.length ca, .slice b ys.length cb, .func (.func 32) #[] #[]] w fun e w' => e = .returned (.bool (decide (xs.map (cn .f32) = ys.map (cn .f32)))) ∧ Dr w w' := by
  have mx := Nat.le_trans hx.len hx.cap
  have my := Nat.le_trans hy.len hy.cap
  unfold maxLen at mx my
  by_cases hl : xs.length = ys.length
  · have X := Lib.hid hx; have Y := Lib.hid hy
    obtain ⟨n, hn⟩ : ∃ n, n = xs.length := ⟨_, rfl⟩
    have hn2 : n = ys.length := hn.trans hl
    rw [← hn] at mx ⊢
    rw [← hn2]
    have NX := Lib.hid hn; have NY := Lib.hid hn2
    clear hx hy hl hn hn2 my
    go_enter Try.func182, Try.ntmps182
    go_wp2
    go_loopw [17, 7, 8, 9] (fun i _ _ _ wt => ∃ k : Nat, i = .int .i64 k ∧ k ≤ n ∧ Hid ((xs.take k).map (cn .f32) = (ys.take k).map (cn .f32)) ∧ Dr w wt) (fun i _ _ _ _ => n - (intOf i).toNat)
    case atStart => exact ⟨0, rfl, Nat.zero_le _, Lib.hid rfl, Dr.refl _⟩
    case round =>
      obtain ⟨k, rfl, hk, HE, hd⟩ := hrel
      have HD := Lib.hid hd; clear hd
      by_cases hlt : k < n
      · have kx : k < xs.length := by rw [← NX.out]; exact hlt
        have ky : k < ys.length := by rw [← NY.out]; exact hlt
        have x2 := X.out.below HD.out.below
        have y2 := Y.out.below HD.out.below
        obtain ⟨b1, o1, rfl, _, c1⟩ := x2.spot (k := k) kx
        obtain ⟨b2, o2, rfl, _, c2⟩ := y2.spot (k := k) ky
        have c1 := c1 k kx
        have c2 := c2 k ky
        have l1 := x2.lt _ (mem_getD kx)
        have l2 := y2.lt _ (mem_getD ky)
        have hnext := eq_take_next kx ky HE.out
        have hstop : cn .f32 (xs.getD k 0) ≠ cn .f32 (ys.getD k 0) → decide (xs.map (cn .f32) = ys.map (cn .f32)) = false := by
          intro h1
          rw [decide_eq_false]
          intro h2
          apply h1
          rw [← cn_getD, ← cn_getD, h2]
        obtain ⟨x, hxx⟩ : ∃ x, x = xs.getD k 0 := ⟨_, rfl⟩
        obtain ⟨y, hyy⟩ : ∃ y, y = ys.getD k 0 := ⟨_, rfl⟩
        rw [← hxx] at c1 l1 hnext hstop
        rw [← hyy] at c2 l2 hnext hstop
        have K := Lib.hid (fun W => impl_SameNumber x y l1 l2 W)
        have HN := Lib.hid hnext; have HS := Lib.hid hstop
        clear x2 y2 l1 l2 hnext hstop hxx hyy kx ky
        by_cases he : cn .f32 x = cn .f32 y
        · have k2 := K.out
          rw [decide_eq_true he] at k2
          have K2 := Lib.hid k2; have HX := Lib.hid (HN.out he)
          clear k2 K he
          go_wp2_with fail
          refine (K2.out _).mono ?_
          rintro e w2 ⟨rfl, hd⟩
          have HD2 := Lib.hid (HD.out.trans hd); clear hd c1 c2
          go_wp2
          refine ⟨?rel, ?measure⟩
          case rel => exact ⟨k + 1, by go_num, hlt, HX, HD2.out⟩
          case measure => simp [intOf]; omega
        · have k2 := K.out
          rw [decide_eq_false he] at k2
          have K2 := Lib.hid k2; have HX := Lib.hid (HS.out he)
          clear k2 K he
          go_wp2_with fail
          refine (K2.out _).mono ?_
          rintro e w2 ⟨rfl, hd⟩
          have HD2 := Lib.hid (HD.out.trans hd); clear hd c1 c2
          go_wp2
          go_ret
          exact ⟨by rw [HX.out]; rfl, HD2.out⟩
      · have hkn : k = n := by omega
        subst hkn
        have he : decide (xs.map (cn .f32) = ys.map (cn .f32)) = true := by
          have h1 := HE.out
          rw [List.take_of_length_le (by rw [← NX.out]; exact Nat.le_refl _), List.take_of_length_le (by rw [← NY.out]; exact Nat.le_refl _)] at h1
          exact decide_eq_true h1
        have HX := Lib.hid he; clear he
        go_wp2
        go_ret
        exact ⟨by rw [HX.out]; rfl, HD.out⟩
  · have he : decide (xs.map (cn .f32) = ys.map (cn .f32)) = false := by
      rw [decide_eq_false]
      intro h
      apply hl
      have := congrArg List.length h
      simpa using this
    rw [he]
    obtain ⟨n, hn⟩ : ∃ n, n = xs.length := ⟨_, rfl⟩
    obtain ⟨m, hm⟩ : ∃ m, m = ys.length := ⟨_, rfl⟩
    rw [← hn, ← hm] at hl ⊢
    have h1 : ((n : Int) != (m : Int)) = true := by simp; omega
    have h2 : ((n : Int) == (m : Int)) = false := by simp; omega
    clear hl he hn hm hx hy mx my
    go_enter Try.func182, Try.ntmps182
    go_wp2
    go_ret
    exact ⟨rfl, Dr.refl _⟩
theorem impl_sameLists (w : World) (a b : Option Addr) (ca cb : Nat) (xs ys : List Nat) (hx : F32s w a ca xs) (hy : F32s w b cb ys) :
    Calls Try.prog 111 #[.slice a xs.length ca, .slice b ys.length cb] w fun e w' => e = .returned (.bool (decide (xs.map (cn .f32) = ys.map (cn .f32)))) ∧ Dr w w' := by
  have K := Lib.hid (eq_func w a b ca cb xs ys hx hy)
  clear hx hy
  go_enter Try.func111, Try.ntmps111
  go_wp2_with fail
  refine K.out.mono ?_
  rintro e w1 ⟨rfl, hd⟩
  go_wp2
  go_ret
  exact ⟨rfl, hd⟩
end Go.Proofs.Ytpemhiaeiecinaa
/- Tensors that are the same; rows. No condition. -/
namespace Go.Proofs.Ytpemhiaeiecinaa
open Go Go.RowKit
set_option linter.unusedVariables false
set_option linter.unusedSimpArgs false
theorem below_dr {w w1 w2 : World} (h : Below w.heap.size w w1) (hd : Dr w1 w2) : Below w.heap.size w w2 := by obtain ⟨q, rfl⟩ := hd; exact below_drewN h q
set_option maxHeartbeats 2000000 in
theorem impl_SameTensors (w : World) (r c : Int) (a b : Option Addr) (ca cb : Nat) (xs ys : List Nat) (hx : F32s w a ca xs) (hy : F32s w b cb ys) (h1 : tenB r c xs.length = true) (h2 : tenB r c ys.length = true) :
    Calls Try.prog 22 #[.agg #[.int .i64 r, .int .i64 c, .slice a xs.length ca], .agg #[.int .i64 r, .int .i64 c, .slice b ys.length cb]] w fun e w' => e = .returned (.bool (decide (xs.map (cn .f32) = ys.map (cn .f32)))) ∧ Below w.heap.size w w' := by
  have mx := Nat.le_trans hx.len hx.cap
  have my := Nat.le_trans hy.len hy.cap
  have K1 := Lib.hid (fun W => impl_ValidTensor r c a xs.length ca mx W)
  have K2 := Lib.hid (fun W => impl_ValidTensor r c b ys.length cb my W)
  rw [h1] at K1
  rw [h2] at K2
  have K3 := Lib.hid (fun W => impl_sameShape r c r c (.slice a xs.length ca) (.slice b ys.length cb) W rfl rfl)
  rw [decide_eq_true rfl, decide_eq_true rfl] at K3
  have K4 := Lib.hid (fun W h1 h2 => impl_sameLists W a b ca cb xs ys h1 h2)
  obtain ⟨E, hE⟩ : ∃ E, E = decide (xs.map (cn .f32) = ys.map (cn .f32)) := ⟨_, rfl⟩
  rw [← hE] at K4 ⊢
  have X := Lib.hid hx; have Y := Lib.hid hy
  clear hE hx hy h1 h2 mx my
  have B1 := Lib.hid ((Box3.alloc w (.int .i64 r) (.int .i64 c) (.slice a xs.length ca) 27).below (below1 _ (.cells #[.int .i64 r, .int .i64 c, .slice b ys.length cb] 27)))
  have B2 := Lib.hid (Box3.alloc2 w (.cells #[.int .i64 r, .int .i64 c, .slice a xs.length ca] 27) (.int .i64 r) (.int .i64 c) (.slice b ys.length cb) 27)
  have B := Lib.hid (below2 w (.cells #[.int .i64 r, .int .i64 c, .slice a xs.length ca] 27) (.cells #[.int .i64 r, .int .i64 c, .slice b ys.length cb] 27))
  go_enter Try.func22, Try.ntmps22
  go_wp2_with fail
  refine (K1.out _).mono ?_
  rintro e w1 ⟨rfl, hb⟩
  have B := Lib.hid (bthen B.out hb); have B1 := Lib.hid (B1.out.below hb); have B2 := Lib.hid (B2.out.below hb); clear hb
  obtain ⟨-, p0, p1, p2, -⟩ := B1.out; obtain ⟨-, q0, q1, q2, -⟩ := B2.out
  go_wp2_with fail
  refine (K2.out _).mono ?_
  rintro e w2 ⟨rfl, hb⟩
  have B := Lib.hid (bthen B.out hb); have B1 := Lib.hid (B1.out.below hb); have B2 := Lib.hid (B2.out.below hb); clear hb p0 p1 p2 q0 q1 q2
  obtain ⟨-, p0, p1, p2, -⟩ := B1.out; obtain ⟨-, q0, q1, q2, -⟩ := B2.out
  go_wp2_with fail
  refine (K3.out _).mono ?_
  rintro e w3 ⟨rfl, hb⟩
  have B := Lib.hid (bthen B.out hb); have B1 := Lib.hid (B1.out.below hb); have B2 := Lib.hid (B2.out.below hb); clear hb p0 p1 p2 q0 q1 q2
  obtain ⟨-, p0, p1, p2, -⟩ := B1.out; obtain ⟨-, q0, q1, q2, -⟩ := B2.out
  go_wp2_with fail
  refine (K4.out _ (X.out.below B.out) (Y.out.below B.out)).mono ?_
  rintro e w4 ⟨rfl, hd⟩
  go_wp2
  go_ret
  exact ⟨rfl, below_dr B.out hd⟩
/-- a row of a tensor -/
theorem impl_row (w : World) (r c : Nat) (ad : Option Addr) (n cap : Nat) (hn : n = r * c) (hc1 : 1 ≤ c) (hc2 : c ≤ 16) (hr2 : r ≤ 16) (hcap : n ≤ cap) (i : Nat) (hi : i < r) (b off : Nat) (had : ad = some ⟨b, off, none⟩) :
    Calls Try.prog 123 #[.agg #[.int .i64 r, .int .i64 c, .slice ad n cap], .int .i64 i] w fun e w' => e = .returned (.slice (some ⟨b, off + i * c, none⟩) c (cap - i * c)) ∧ Below w.heap.size w w' := by
  subst had
  have h1 : i * c + c ≤ n := by
    rw [hn]
    have : (i + 1) * c ≤ r * c := Nat.mul_le_mul_right c (by omega)
    rw [Nat.succ_mul] at this; exact this
  have hnb : n ≤ 256 := by rw [hn]; exact Nat.le_trans (Nat.mul_le_mul hr2 hc2) (by decide)
  obtain ⟨p, hp⟩ : ∃ p, p = i * c := ⟨_, rfl⟩
  have e1 : ((i : Int) * (c : Int)) = (p : Int) := by rw [hp]; rfl
  have e2 : (((i : Int) + 1) * (c : Int)) = ((p + c : Nat) : Int) := by rw [hp, Int.add_mul, Int.one_mul]; rfl
  rw [← hp] at h1 ⊢
  clear hp hn
  go_enter Try.func123, Try.ntmps123
  go_wp2
  go_ret
  exact ⟨by rw [Nat.add_sub_cancel_left]; rfl, below1 _ _⟩
end Go.Proofs.Ytpemhiaeiecinaa
/- Rows of a tensor. No condition. -/
namespace Go.Proofs.Ytpemhiaeiecinaa
open Go Go.RowKit
set_option linter.unusedVariables false
set_option linter.unusedSimpArgs false
theorem slices_CloneF (w : World) (ad : Option Addr) (cap : Nat) (xs : List Nat) (h : F32s w ad cap xs) (hc : ad = none → cap = 0) (hn : xs.length ≤ 1048576) :
    Calls Try.prog 117 #[.slice ad xs.length cap] w fun e w' => ∃ ad' cap', e = .returned (.slice ad' xs.length cap') ∧ Hid (RepF w' w.heap.size w'.heap.size ad' xs.length cap' xs) ∧ Below w.heap.size w w' := by
  refine (slices_Clone w ad cap xs h hc hn).mono ?_
  rintro e w' ⟨v, rfl, ho, hb⟩
  obtain ⟨ad', cap', rfl, hr⟩ := RepF.of_owns ho h.lt
  exact ⟨ad', cap', rfl, Lib.hid hr, hb⟩
theorem wrap_ok {x : Int} (h1 : -1000000 ≤ x) (h2 : x ≤ 1000000) : IntKind.i64.wrap x = x := by rw [IntKind.wrap_i64]; omega
set_option maxHeartbeats 4000000 in
set_option maxRecDepth 100000 in
theorem impl_SliceRows (w : World) (r c : Nat) (ad : Option Addr) (cap : Nat) (xs : List Nat) (h : F32s w ad cap xs) (hr1 : 1 ≤ r) (hr2 : r ≤ 16) (hc1 : 1 ≤ c) (hc2 : c ≤ 16) (hl : xs.length = r * c) (f k : Nat) (hk : 1 ≤ k) (hfk : f + k ≤ r) :
    Calls Try.prog 25 #[.agg #[.int .i64 r, .int .i64 c, .slice ad xs.length cap], .int .i64 f, .int .i64 k] w fun e w' => ∃ ad' cap', e = .returned (.tuple #[.agg #[.int .i64 k, .int .i64 c, .slice ad' (k * c) cap'], .bool true]) ∧ Hid (RepF w' w.heap.size w'.heap.size ad' (k * c) cap' ((xs.drop (f * c)).take (k * c))) ∧ Below w.heap.size w w' := by
  have mx := Nat.le_trans h.len h.cap
  have hten : tenB r c xs.length = true := tenB_iff.2 ⟨⟨by omega, by omega⟩, ⟨by omega, by omega⟩, by rw [hl]; rfl⟩
  have K1 := Lib.hid (fun W => impl_ValidTensor r c ad xs.length cap mx W)
  rw [hten] at K1
  have K2 := Lib.hid (fun W => within_any f 0 ((r : Int) - 1) W)
  rw [inB_iff.2 ⟨by omega, by omega⟩] at K2
  have K3 := Lib.hid (fun W => within_any k 1 ((r : Int) - f) W)
  rw [inB_iff.2 ⟨by omega, by omega⟩] at K3
  have hle : f * c + k * c ≤ xs.length := by
    rw [hl, ← Nat.add_mul]; exact Nat.mul_le_mul_right c hfk
  have hkc : 1 ≤ k * c := Nat.mul_le_mul hk hc1
  have hrc : r * c ≤ 256 := Nat.mul_le_mul hr2 hc2
  obtain ⟨b, off, rfl, _, _⟩ := h.spot (k := 0) (by omega)
  have H1 := Lib.hid (((h.cut3 (f * c) (by omega)).2).cut3 (k * c) (by simp; omega)).1
  have hcl := h.len
  obtain ⟨n, hn⟩ : ∃ n, n = xs.length := ⟨_, rfl⟩
  obtain ⟨p, hp⟩ : ∃ p, p = f * c := ⟨_, rfl⟩
  obtain ⟨m, hm⟩ : ∃ m, m = k * c := ⟨_, rfl⟩
  have e1 : ((f : Int) * (c : Int)) = (p : Int) := by rw [hp]; rfl
  have e2 : (((f : Int) + (k : Int)) * (c : Int)) = (p : Int) + (m : Int) := by rw [hp, hm, Int.add_mul]; rfl
  have NX := Lib.hid hn
  rw [← hn] at K1 hle hcl ⊢
  rw [← hp, ← hm] at H1 ⊢
  rw [← hp, ← hm] at hle
  rw [← hm] at hkc
  have hn256 : n ≤ 256 := by rw [hn, hl]; exact hrc
  have B1 := Lib.hid ((Box3.alloc w (.int .i64 r) (.int .i64 c) (.slice (some ⟨b, off, none⟩) n cap) 27).below (below1 _ (.cells #[.int .i64 0, .int .i64 0, .slice none 0 0] 27)))
  have B2 := Lib.hid (Box3.alloc2 w (.cells #[.int .i64 r, .int .i64 c, .slice (some ⟨b, off, none⟩) n cap] 27) (.int .i64 0) (.int .i64 0) (.slice none 0 0) 27)
  have B := Lib.hid (below2 w (.cells #[.int .i64 r, .int .i64 c, .slice (some ⟨b, off, none⟩) n cap] 27) (.cells #[.int .i64 0, .int .i64 0, .slice none 0 0] 27))
  have t1 : IntKind.i64.wrap ((f : Int) + (k : Int)) = (f : Int) + (k : Int) := wrap_ok (by omega) (by omega)
  have t2 : IntKind.i64.wrap ((p : Int) + (m : Int)) = (p : Int) + (m : Int) := wrap_ok (by omega) (by omega)
  have t3 : IntKind.i64.wrap (p : Int) = (p : Int) := wrap_ok (by omega) (by omega)
  have t4 : (0 : Int) ≤ (p : Int) + (m : Int) := by omega
  have t5 : (p : Int) + (m : Int) ≤ (cap : Int) := by omega
  have t6 : (p : Int) ≤ max ((p : Int) + (m : Int)) 0 := by omega
  have t7 : ((p : Int) + (m : Int)).toNat = p + m := by omega
  have t8 : ¬ (cap = p) := by omega
  have t9 : p + m - p = m := by omega
  obtain ⟨ys, hys⟩ : ∃ ys, ys = (xs.drop p).take m := ⟨_, rfl⟩
  rw [← hys] at H1 ⊢
  have hyl : ys.length = m := by rw [hys, List.length_take, List.length_drop, ← NX.out]; omega
  clear hten hl hrc hn hp hm mx h hys
  go_enter Try.func25, Try.ntmps25
  go_wp2_with fail
  refine (K1.out _).mono ?_
  rintro e w1 ⟨rfl, hb⟩
  have B := Lib.hid (bthen B.out hb); have B1 := Lib.hid (B1.out.below hb); have B2 := Lib.hid (B2.out.below hb); clear hb
  obtain ⟨-, p0, p1, p2, -⟩ := B1.out; obtain ⟨-, q0, q1, q2, q4⟩ := B2.out
  go_wp2_with fail
  refine (K2.out _).mono ?_
  rintro e w2 ⟨rfl, rfl⟩
  go_wp2_with fail
  refine (K3.out _).mono ?_
  rintro e w2 ⟨rfl, rfl⟩
  have hbd : Below w1.heap.size w1 w1.drew := Below.drew (Below.refl _ _)
  have kc := slices_CloneF w1.drew _ _ ys ((H1.out.below B.out).below hbd) (fun h => nomatch h) (by omega)
  rw [hyl] at kc
  have KC := Lib.hid kc
  have YL := Lib.hid hyl
  have YB := Lib.hid H1.out.lt
  have BX1 := Lib.hid (B1.out.below hbd); have BX2 := Lib.hid (B2.out.below hbd)
  obtain ⟨hs1, -, -, -, -⟩ := B1.out
  obtain ⟨hs2, -, -, -, -⟩ := B2.out
  have hs1 : w.heap.size < w1.drew.heap.size := hs1
  have hs2 : w.heap.size + 1 < w1.drew.heap.size := hs2
  clear kc hyl hbd
  go_wp2
  go_region_held3 (fun w' => w'.cell? ⟨w.heap.size, 1, none⟩ = some (.int .i64 c) ∧ w'.cell? ⟨w.heap.size, 2, none⟩ = some (.slice (some ⟨b, off, none⟩) n cap)) (go_keep)
    (first
      | (go_at_call 117; with_reducible refine KC.out.mono ?_; rintro e w' ⟨ad2, cap2, rfl, RO, hb⟩; obtain ⟨-, u0, u1, u2, -⟩ := BX1.out.below hb; obtain ⟨-, u3, u4, u5, uf⟩ := BX2.out.below hb))
  have hbb := bthen (bthen B.out (Below.drew (Below.refl _ _))) hb
  have hbf : ∀ a b c : Value, Below w.heap.size w (((w'.setCell ⟨w.heap.size + 1, 0, none⟩ a).setCell ⟨w.heap.size + 1, 1, none⟩ b).setCell ⟨w.heap.size + 1, 2, none⟩ c) := fun a b c =>
    Below.setCell (p := ⟨w.heap.size + 1, 2, none⟩) (Below.setCell (p := ⟨w.heap.size + 1, 1, none⟩) (Below.setCell (p := ⟨w.heap.size + 1, 0, none⟩) hbb (by show w.heap.size ≤ w.heap.size + 1; omega) a) (by show w.heap.size ≤ w.heap.size + 1; omega) b) (by show w.heap.size ≤ w.heap.size + 1; omega) c
  have htf : ∀ a b c : Value, Touch (w.heap.size + 1) (w.heap.size + 2) w' (((w'.setCell ⟨w.heap.size + 1, 0, none⟩ a).setCell ⟨w.heap.size + 1, 1, none⟩ b).setCell ⟨w.heap.size + 1, 2, none⟩ c) := fun a b c =>
    ((Touch.setCell (Nat.le_refl _) (by omega)).trans (Touch.setCell (Nat.le_refl _) (by omega))).trans (Touch.setCell (Nat.le_refl _) (by omega))
  have HBF := Lib.hid hbf; have HTF := Lib.hid htf
  clear hbb hbf htf hb
  go_wp2
  try simp only [Exit.inBlock, Exit.then]
  refine bodyPost_ret (v := .tuple #[.agg #[.int .i64 k, .int .i64 c, .slice ad2 m cap2], .bool true]) (by simp [results, Try.results25, go_sem, u3, u4, u5]) rfl ⟨_, _, rfl, Lib.hid ?_, HBF.out _ _ _⟩
  have h1 := RO.out.touch (HTF.out (.int .i64 k) (.int .i64 c) (.slice ad2 m cap2)) (.inr (by omega))
  exact h1.bounds (by omega) (by simp [World.setCell])
end Go.Proofs.Ytpemhiaeiecinaa
/- Tapes that are copied by the program. No condition. -/
namespace Go.Proofs.Ytpemhiaeiecinaa
open Go Go.RowKit
set_option linter.unusedVariables false
set_option linter.unusedSimpArgs false
/-- operations, each with a mark that tells whether its numbers are the call's own -/
def optR : RecT (OpD × Bool) := ⟨102, 7, fun p => p.1.cells, fun p => if p.2 = true then [floatRow p.1.ad p.1.cap p.1.xs] else [], fun p => p.1.ok, fun _ => rfl⟩
theorem optR_cells (us : List (OpD × Bool)) : us.flatMap optR.cells = (us.map Prod.fst).flatMap opR.cells := by
  induction us with
  | nil => rfl
  | cons a us ih => rw [List.flatMap_cons, ih, List.map_cons, List.flatMap_cons]; rfl
theorem optR_inn (us : List (OpD × Bool)) (h : ∀ p ∈ us, p.2 = true) : us.flatMap optR.inn = (us.map Prod.fst).flatMap opR.inn := by
  induction us with
  | nil => rfl
  | cons a us ih =>
    rw [List.flatMap_cons, ih (fun p hp => h p (List.mem_cons_of_mem _ hp)), List.map_cons, List.flatMap_cons]
    have e : a.2 = true := h a (List.mem_cons_self ..)
    show (if a.2 = true then _ else _) ++ _ = _
    rw [if_pos e]; rfl
theorem optR_none (os : List OpD) : (os.map fun o => (o, false)).flatMap optR.inn = [] := by
  induction os with
  | nil => rfl
  | cons a us ih => rw [List.map_cons, List.flatMap_cons, ih]; rfl
theorem OwnR.ofOpt {w : World} {lo hi n cap : Nat} {ad : Option Addr} {us : List (OpD × Bool)} (h : OwnR optR w lo hi ad n cap us) (ht : ∀ p ∈ us, p.2 = true) : OwnR opR w lo hi ad n cap (us.map Prod.fst) := by
  refine ⟨?_, by rw [List.length_map]; exact h.len, fun o ho => ?_⟩
  · have h0 := h.own
    rw [optR_cells, optR_inn us ht] at h0
    exact h0
  · obtain ⟨p, hp, rfl⟩ := List.mem_map.1 ho
    exact h.ok p hp
/-- no list without a place has room -/
def nilOK (os : List OpD) : Prop := ∀ o ∈ os, o.ad = none → o.cap = 0
theorem OwnR.nilOK {w : World} {lo hi n cap : Nat} {ad : Option Addr} {us : List OpD} (h : OwnR opR w lo hi ad n cap us) : nilOK us := fun o ho =>
  (h.own.repF (List.mem_cons_of_mem _ (List.mem_flatMap.2 ⟨o, ho, List.mem_singleton.2 rfl⟩)) (h.ok o ho).1).nilcap
theorem OwnR.nilcap {α : Type} {R : RecT α} {w : World} {lo hi n cap : Nat} {ad : Option Addr} {us : List α} (h : OwnR R w lo hi ad n cap us) : ad = none → cap = 0 := by
  intro e
  subst e
  rcases h.own.head.own.2 with ⟨h1, _⟩ | ⟨g, cap', cur, h1, _⟩
  · unfold RowD.val at h1
    simp only at h1
    cases h1; rfl
  · unfold RowD.val at h1
    cases h1
theorem opd_cells_one (o : OpD) : ∀ u ∈ o.cells, u.oneCell' = true := by
  intro u hu
  unfold OpD.cells at hu
  simp at hu
  rcases hu with rfl | rfl | rfl | rfl | rfl | rfl | rfl <;> rfl
set_option maxRecDepth 100000 in
theorem slices_CloneO (w : World) (ad : Option Addr) (cap : Nat) (os : List OpD) (h : SeeR opR w ad cap os) (hc : ad = none → cap = 0) (hn : os.length ≤ 1048576) :
    Calls Try.prog 227 #[.slice ad os.length cap] w fun e w' => ∃ ad' cap', e = .returned (.slice ad' os.length cap') ∧ Hid (OwnR optR w' w.heap.size w'.heap.size ad' os.length cap' (os.map fun o => (o, false))) ∧ Below w.heap.size w w' := by
  obtain ⟨i0, hi, hz0, hz1, hz2⟩ := info_parts info_op
  obtain ⟨n, hN⟩ : ∃ n, n = os.length := ⟨_, rfl⟩
  have hr := h.rd
  have h1 : ∀ u ∈ os.flatMap opR.cells, u.oneCell' = true := by
    intro u hu
    obtain ⟨o, _, hu⟩ := List.mem_flatMap.1 hu
    exact opd_cells_one o u hu
  have hl : (os.flatMap opR.cells).length = n * 7 := by rw [flat_len, ← hN]; rfl
  have hfin : ∀ (W : World) (v : Value), w.heap.size ≤ W.heap.size → W.ownsRow w.heap.size 102 7 v n (os.flatMap opR.cells) → ∃ ad' cap', v = .slice ad' n cap' ∧ OwnR optR W w.heap.size W.heap.size ad' n cap' (os.map fun o => (o, false)) := by
    intro W v hs ho
    obtain ⟨ad', cap', rfl, _⟩ := Rd.of_owns ho
    refine ⟨ad', cap', rfl, ?_, by rw [List.length_map, hN], fun p hp => ?_⟩
    · rw [optR_none, optR_cells, List.map_map, show (Prod.fst ∘ fun o : OpD => (o, false)) = id from rfl, List.map_id]
      exact Own.one (Row.mk' ho)
    · obtain ⟨o, ho2, rfl⟩ := List.mem_map.1 hp
      exact h.ok o ho2
  rw [← hN] at hn ⊢
  have HL := Lib.hid hl; have HF := Lib.hid hfin; have H1 := Lib.hid h1; clear hl hfin h1
  cases ad with
  | none =>
    obtain rfl := hc rfl
    have h0 : os = [] := by
      rcases hr with hr | ⟨b, off, hb, _⟩
      · cases os with
        | nil => rfl
        | cons a os => rw [List.flatMap_cons] at hr; cases hr
      · cases hb
    subst h0
    obtain rfl : n = 0 := hN
    have he : ∀ w : World, (binOp .eql 66 (.slice none 0 0) (.slice none 0 0)).run Try.prog w = .ok (.bool true) w := fun _ => rfl
    go_enter Try.func227, Try.ntmps227
    go_wp2
    go_ret
    exact ⟨none, 0, rfl, Lib.hid ⟨Own.one (Row.mk' (World.ownsRow_nil _ _ _ _)), rfl, fun a ha => (nomatch ha)⟩, Below.refl _ _⟩
  | some p =>
    clear h hN
    have he : ∀ w : World, (binOp .eql 66 (.slice (some p) n cap) (.slice none 0 0)).run Try.prog w = .ok (.bool false) w := fun _ => rfl
    have hsee : ∀ (W : World), Below w.heap.size w W → ∀ (j : Nat) (u : Value), (os.flatMap opR.cells)[j]? = some u → W.cell? (p.add j) = some u := by
      intro W hb j u hj
      rcases (hr.below hb (Nat.le_refl _)) with hr | ⟨b, off, hb2, _, hcc⟩
      · rw [hr] at hj; cases hj
      · cases hb2
        rw [Addr.add_lit]; exact (hcc j (List.getElem?_eq_some_iff.1 hj).1).trans hj
    have HS := Lib.hid hsee; clear hsee hr hc
    go_enter Try.func227, Try.ntmps227
    go_wp2_with (at_builtin; refine wpList_append_own _ rfl _ _ 66 rfl w.heap.size 102 i0 (.agg #[.int .i64 0, .int .i64 0, .int .i64 0, .float .f32 0, .int .i64 0, .int .i64 0, .slice none 0 0]) 7 72 Try.underlying66 hi hz0 hz1 hz2 rfl (by decide) _ 0 [] rfl (World.ownsRow_made _ _ _ (Nat.le_refl _) (Nat.zero_le _) rfl) p n cap _ rfl HL.out (HS.out _ (below1 _ _)) H1.out ?c3 ?c4 ?c5 ?_)
    case c3 => unfold maxLen; omega
    case c4 => omega
    case c5 => simp
    intro v' w9 hown1 hg1 _
    have hb1 : Below w.heap.size w w9 := (below1 _ _).grown hg1 (by simp) (fun j hj => by cases hj; exact Nat.le_refl _)
    have hown2 : w9.ownsRow w.heap.size 102 7 v' n (os.flatMap opR.cells) := by simpa using hown1
    obtain ⟨ad', cap', rfl, hown3⟩ := HF.out w9 v' hb1.size hown2
    have HO := Lib.hid hown3; have HB := Lib.hid hb1
    clear hown1 hown2 hown3 hg1 hb1 HF HS H1
    go_wp2
    go_ret
    exact ⟨_, _, rfl, HO, HB.out⟩
set_option maxHeartbeats 2000000 in
theorem impl_copyTensor (w : World) (r c : Int) (ad : Option Addr) (cap : Nat) (xs : List Nat) (h : F32s w ad cap xs) (hc : ad = none → cap = 0) (hn : xs.length ≤ 1048576) :
    Calls Try.prog 175 #[.agg #[.int .i64 r, .int .i64 c, .slice ad xs.length cap]] w fun e w' => ∃ ad' cap', e = .returned (.agg #[.int .i64 r, .int .i64 c, .slice ad' xs.length cap']) ∧ Hid (RepF w' w.heap.size w'.heap.size ad' xs.length cap' xs) ∧ Below w.heap.size w w' := by
  have b2 := below2 w (.cells #[.int .i64 r, .int .i64 c, .slice ad xs.length cap] 27) (.cells #[.int .i64 0, .int .i64 0, .slice none 0 0] 27)
  have K := Lib.hid (slices_CloneF _ ad cap xs (h.below b2) hc hn)
  have XB := Lib.hid ((BoxN.alloc w #[.int .i64 r, .int .i64 c, .slice ad xs.length cap] 27).below (below1 _ (.cells #[.int .i64 0, .int .i64 0, .slice none 0 0] 27)))
  have RB := Lib.hid (BoxN.alloc2 w (.cells #[.int .i64 r, .int .i64 c, .slice ad xs.length cap] 27) #[.int .i64 0, .int .i64 0, .slice none 0 0] 27)
  have B := Lib.hid b2
  obtain ⟨n, hN⟩ : ∃ n, n = xs.length := ⟨_, rfl⟩
  rw [← hN] at K XB RB B ⊢
  clear b2 h hN hn hc
  go_enter Try.func175, Try.ntmps175
  go_wp2_with fail
  refine K.out.mono ?_
  rintro e w' ⟨a', c', rfl, HR, hb⟩
  obtain ⟨-, x0, x1, x2, xf⟩ := (XB.out.below hb).three
  obtain ⟨-, r0, r1, r2, rf⟩ := (RB.out.below hb).three
  have HB := Lib.hid (bthen B.out hb)
  have hz := hb.size
  simp at hz
  clear hb
  go_wp2
  refine bodyPost_ret (v := .agg #[.int .i64 r, .int .i64 c, .slice a' n c']) (by simp [results, Try.results175, go_sem, r0, r1, r2, x0, x1, x2]) rfl ⟨_, _, rfl, Lib.hid ?_, ?_⟩
  · have h1 := setCs_repF (g := w.heap.size) (lo' := w.heap.size + 2) (i := 2) HR.out (by simp; omega) (by simp) (Nat.le_refl _) [.slice a' n c']
    have h2 := setCs_repF (g := w.heap.size + 1) (lo' := w.heap.size) (i := 0) h1 (by omega) (by omega) (Nat.le_refl _) [.int .i64 r, .int .i64 c, .slice a' n c']
    exact h2
  · exact setCs_below (setCs_below HB.out (g := w.heap.size) (by omega) 2 [.slice a' n c']) (g := w.heap.size + 1) (by omega) 0 [.int .i64 r, .int .i64 c, .slice a' n c']
theorem setL_same {vs : List Value} {i : Nat} {cs : List Value} (h : ∀ j, j < cs.length → vs[i + j]? = cs[j]?) : setL vs i cs = vs := by
  induction cs generalizing i with
  | nil => rfl
  | cons c cs ih =>
    have h0 := h 0 (by simp)
    show setL (vs.set i c) (i + 1) cs = vs
    rw [set_same (by simpa using h0)]
    refine ih fun j hj => ?_
    have h1 := h (j + 1) (by simpa using hj)
    rw [show i + 1 + j = i + (j + 1) by omega, h1]; rfl
theorem RecT.tail {α : Type} (R : RecT α) {us : List α} {k : Nat} {p a : α} (hk : us[k]? = some p) (pre post : List Value) (ha : R.cells a = pre ++ post) (hp : ∀ j, j < pre.length → (R.cells p)[j]? = pre[j]?) :
    setL (us.flatMap R.cells) (k * R.size) (R.cells a) = setL (us.flatMap R.cells) (k * R.size + pre.length) post := by
  have hl := congrArg List.length ha
  rw [R.len, List.length_append] at hl
  have hs : setL (us.flatMap R.cells) (k * R.size) pre = us.flatMap R.cells := setL_same fun j hj => by
    rw [flat_at R us hk (by omega), hp j hj]
  rw [ha, setL_append, hs]
theorem opt_spot {w : World} {lo hi n cap : Nat} {ad : Option Addr} {us : List (OpD × Bool)} (h : OwnR optR w lo hi ad n cap us) {k : Nat} {p : OpD × Bool} (hk : us[k]? = some p) : ∃ g, ad = some ⟨g, 0, none⟩ ∧ (lo ≤ g ∧ g < hi ∧ g < w.heap.size) ∧
    (w.cell? ⟨g, k * 7 + 4, none⟩ = some (.int .i64 p.1.r) ∧ w.cell? ⟨g, k * 7 + 4 + 1, none⟩ = some (.int .i64 p.1.c) ∧ w.cell? ⟨g, k * 7 + 4 + 2, none⟩ = some (.slice p.1.ad p.1.xs.length p.1.cap)) ∧ (∀ j, w.frozen? ⟨g, j, none⟩ = false) := by
  obtain ⟨g, e, hr, hc, hf⟩ := h.spot hk (by decide)
  exact ⟨g, e, hr, ⟨hc 4 (by decide), hc 5 (by decide), hc 6 (by decide)⟩, hf⟩
/-- copied up to k -/
structure CopR (os : List OpD) (us : List (OpD × Bool)) (k : Nat) : Prop where
  eq : us.map (fun p => p.1.toOpP) = os.map OpD.toOpP
  rest : ∀ j, k ≤ j → us[j]? = os[j]?.map fun o => (o, false)
  own : ∀ j p, j < k → us[j]? = some p → p.2 = true
theorem CopR.start (os : List OpD) : CopR os (os.map fun o => (o, false)) 0 := ⟨by rw [List.map_map]; rfl, fun j _ => by rw [List.getElem?_map], fun j p hj => by omega⟩
theorem CopR.next {os : List OpD} {us : List (OpD × Bool)} {k : Nat} (h : CopR os us k) {o : OpD} (ho : os[k]? = some o) {o' : OpD} (he : o'.toOpP = o.toOpP) : CopR os (us.set k (o', true)) (k + 1) := by
  have hu : us[k]? = some (o, false) := by rw [h.rest k (Nat.le_refl _), ho]; rfl
  refine ⟨?_, fun j hj => ?_, fun j p hj hp => ?_⟩
  · rw [← h.eq]
    rw [List.map_set]
    refine set_same ?_
    rw [List.getElem?_map, hu]
    show some o.toOpP = some o'.toOpP
    rw [he]
  · rw [List.getElem?_set_ne (by omega), h.rest j (by omega)]
  · by_cases e : j = k
    · subst e
      rw [List.getElem?_set_self (List.getElem?_eq_some_iff.1 hu).1] at hp
      cases hp; rfl
    · rw [List.getElem?_set_ne (by omega)] at hp
      exact h.own j p (by omega) hp
set_option maxHeartbeats 4000000 in
set_option maxRecDepth 100000 in
theorem impl_copyTape (w : World) (ad : Option Addr) (cap : Nat) (os : List OpD) (h : SeeR opR w ad cap os) (hc : ad = none → cap = 0) (hno : nilOK os) (hn : os.length ≤ 1048576) (hi2 : ∀ o ∈ os, o.xs.length ≤ 1048576) :
    Calls Try.prog 174 #[.slice ad os.length cap] w fun e w' => ∃ ad' cap' us, e = .returned (.slice ad' os.length cap') ∧ Hid (OwnR opR w' w.heap.size w'.heap.size ad' os.length cap' us ∧ us.map OpD.toOpP = os.map OpD.toOpP) ∧ Below w.heap.size w w' := by
  have KC := Lib.hid (slices_CloneO w ad cap os h hc hn)
  obtain ⟨n, hN⟩ : ∃ n, n = os.length := ⟨_, rfl⟩
  rw [← hN] at hn KC ⊢
  have HN := Lib.hid hN; have HI2 := Lib.hid hi2; have H := Lib.hid h; have HNO := Lib.hid hno; clear hN hi2 h hno hc
  go_enter Try.func174, Try.ntmps174
  go_wp2_with fail
  refine KC.out.mono ?_
  rintro e w1 ⟨ad', cap', rfl, HR, hb1⟩
  have HB1 := Lib.hid hb1; clear hb1 KC
  go_wp2
  go_loopw [9] (fun i wt => ∃ k : Nat, i = .int .i64 k ∧ k ≤ n ∧ ∃ us : List (OpD × Bool), Hid (OwnR optR wt w.heap.size wt.heap.size ad' n cap' us) ∧ Hid (CopR os us k) ∧ Hid (Below w.heap.size w wt)) (fun i _ => n - (intOf i).toNat)
  case atStart => exact ⟨0, rfl, Nat.zero_le _, _, HR, Lib.hid (CopR.start os), HB1⟩
  case round =>
    clear HB1 HR
    obtain ⟨k, rfl, hk, us, HR, HC, HB⟩ := hrel
    by_cases hlt : k < n
    · obtain ⟨o, ho⟩ := getElem?_lt (show k < os.length by rw [← HN.out]; exact hlt)
      have hu : us[k]? = some (o, false) := by rw [HC.out.rest k (Nat.le_refl _), ho]; rfl
      have hm := List.mem_of_getElem? ho
      obtain ⟨-, -, -, -, -, hf, hok⟩ := op_spot (H.out.below HB.out) ho
      obtain ⟨g, rfl, hgr, ⟨p4, p5, p6⟩, hfz⟩ := opt_spot HR.out hu
      simp only at p4 p5 p6
      have K := Lib.hid (fun W hW => impl_copyTensor W o.r o.c o.ad o.cap o.xs hW (HNO.out o hm) (HI2.out o hm))
      have HF := Lib.hid hf; have HO := Lib.hid ho; have HK := Lib.hid hok; have HU := Lib.hid hu
      obtain ⟨m, hM⟩ : ∃ m, m = o.xs.length := ⟨_, rfl⟩
      rw [← hM] at K p6
      have HM := Lib.hid hM
      clear hM hf ho hok hu hm
      go_wp2_with fail
      refine (K.out _ HF.out).mono ?_
      rintro e w2 ⟨a2, c2, rfl, hr, hb2⟩
      obtain ⟨g', eg, hgr2, ⟨q4, q5, q6⟩, hfz2⟩ := opt_spot (HR.out.below hb2) HU.out
      cases eg
      have hs2 := hb2.size
      have hbs := HB.out.size
      have hr2 := hr.out
      rw [HM.out] at hr2
      have htl := RecT.tail optR HU.out (a := (⟨o.toOpP, a2, c2⟩, true)) [.int .i64 o.k, .int .i64 o.a, .int .i64 o.b, .float .f32 o.num] [.int .i64 o.r, .int .i64 o.c, .slice a2 o.xs.length c2] rfl (fun j hj => by
        rcases (by simp at hj; omega : j = 0 ∨ j = 1 ∨ j = 2 ∨ j = 3) with rfl | rfl | rfl | rfl <;> rfl)
      have hnew := OwnR.setNew (w2 := setCs w2 g (k * 7 + 4) [.int .i64 o.r, .int .i64 o.c, .slice a2 o.xs.length c2]) HR.out hbs hb2 hlt (a := (⟨o.toOpP, a2, c2⟩, true)) HK.out (hr2.ownRow) hs2 (fun M hM => by
        rw [htl]
        exact setCs_own hM (k * 7 + 4) _)
      have hbb := setCs_below (HB.out.trans (hb2.mono hbs)) hgr.1 (k * 7 + 4) [.int .i64 o.r, .int .i64 o.c, .slice a2 o.xs.length c2]
      rw [← HM.out] at hnew hbb
      have HW := Lib.hid hnew; have HBB := Lib.hid hbb; have HCC := Lib.hid (HC.out.next HO.out (o' := ⟨o.toOpP, a2, c2⟩) rfl)
      clear hnew hbb htl hr hr2 hb2 HU K HF HK hgr hgr2 hbs HC HR HB p4 p5 p6 HO HM
      go_wp2
      go_roundw
      case rel => exact ⟨k + 1, by go_num, hlt, _, Lib.hid (HW.out.bounds (Nat.le_refl _) (by simp [World.setCell])), HCC, HBB⟩
      case measure => simp [intOf]; omega
    · have hkn : k = n := by omega
      subst hkn
      have hall : ∀ p ∈ us, p.2 = true := fun p hp => by
        obtain ⟨j, hj, e⟩ := List.getElem_of_mem hp
        exact HC.out.own j p (by rw [← HR.out.len]; exact hj) (by rw [List.getElem?_eq_getElem hj, e])
      have HA := Lib.hid (And.intro (HR.out.ofOpt hall) (show (us.map Prod.fst).map OpD.toOpP = os.map OpD.toOpP by rw [List.map_map]; exact HC.out.eq))
      clear hall
      go_wp2
      go_ret
      exact ⟨_, _, _, rfl, HA, HB.out⟩
end Go.Proofs.Ytpemhiaeiecinaa
/- A region whose order is open, whose operations read old memory and make calls that leave the old memory: one walk in the order of the text serves every order. No condition. -/
namespace Go.Proofs.Ytpemhiaeiecinaa
open Go Go.RowKit
set_option linter.unusedVariables false
section
variable {P : Program} {ops : Array Oper} {C : World → Prop} {VC : FuncId → Array Value → Value → Prop} {Q : Act → Prop} {o : Oper} {rest : List Oper} {a : Act}
/-- what is asked of one operation in a world of the class: every value that it gives leads on -/
@[go_sem] def UponC (P : Program) (VC : FuncId → Array Value → Value → Prop) (C : World → Prop) (K : Value → Prop) : Result Next → Prop
  | .ok (.value v) w' => C w' ∧ K v
  | .ok .skip w' => C w' ∧ K undef
  | .ok (.enter f args) w' => C w' ∧ (Calls P f args w' fun e w'' => ∃ v, e = .returned v ∧ C w'' ∧ VC f args v) ∧ ∀ v, VC f args v → K v
  | _ => False
theorem cset_step {w0 : World} (h0 : C w0) (h : ∀ K : Act → Prop, (∀ a, WSet P ops C VC Q rest a → K a) → ∀ W : World, C W → if Region.wanted o (yielded ops a.tmps) then UponC P VC C (fun v => K (a.put o.dst v)) ((execOp a.eval o).run P W) else K (a.put o.dst undef)) :
    WSet P ops C VC Q (o :: rest) a := by
  have h := h _ (fun _ h => h)
  refine ⟨fun hw w' hC => ?_, fun v hv => ?_⟩
  · have := h w' hC
    rw [if_pos hw] at this
    revert this
    generalize (execOp a.eval o).run P w' = r
    intro this
    unfold UponC at this
    unfold FineRes
    split at this
    · exact this.1
    · exact this.1
    · exact ⟨this.1, this.2.1⟩
    · cases this
  · rcases hv with ⟨hw, w1, w2, hC, hv⟩ | ⟨hw, rfl⟩
    · have := h w1 hC
      rw [if_pos hw] at this
      unfold UponC at this
      rcases hv with hv | ⟨hv, rfl⟩ | ⟨f, args, hv, hvc⟩
      · rw [hv] at this; exact this.2
      · rw [hv] at this; exact this.2
      · rw [hv] at this; exact this.2.2 v hvc
    · have := h w0 h0
      rwa [if_neg (by rw [hw]; exact Bool.false_ne_true)] at this
theorem cset_nil (hq : Q a) : WSet P ops C VC Q [] a := hq
/-- what two functions give -/
def VC2 (fa : FuncId) (va : Value) (fb : FuncId) (vb : Value) (f : FuncId) (args : Array Value) (u : Value) : Prop := (f = fa → u = va) ∧ (f = fb → u = vb)
theorem VC2.one {fa fb : FuncId} {va vb : Value} {args : Array Value} (h : fa ≠ fb) : VC2 fa va fb vb fa args va := ⟨fun _ => rfl, fun e => absurd e h⟩
theorem VC2.two {fa fb : FuncId} {va vb : Value} {args : Array Value} (h : fb ≠ fa) : VC2 fa va fb vb fb args vb := ⟨fun e => absurd e h, fun _ => rfl⟩
def VC1 (va : Value) (f : FuncId) (args : Array Value) (u : Value) : Prop := u = va
/-- a world in which all old memory is as it was -/
def Low (w W : World) : Prop := Below w.heap.size w W
@[go_sem] theorem low_drawn {w W : World} (h : Low w W) (n : Nat) : Low w (W.drewN n) = True := by
  exact eq_true (below_drewN h n)
theorem low_self (w : World) : Low w w := Below.refl _ _
theorem low_drew1 (w : World) : Low w { w with drawn := w.drawn + 1 } := Below.drew (Below.refl _ _)
/-- **the region, by the walk in the order of the text, in worlds in which the old memory is as it was** -/
theorem wp_region_low {id : Nat} {Q : Exit → Act → World → Prop} {a : Act} {w : World} {l : List Oper} (VC : FuncId → Array Value → Value → Prop) (hm : P.follows .mixedOrders = true) (hB : Region.lexB .any l.toArray = true)
    (h : WSet P l.toArray (Low w) VC (fun a' => ∀ w', Low w w' → Q .normal a' w') l a) : (Code.region id l.toArray true).wp P Q a w :=
  wp_region_set (Low w) VC hm hB (low_drew1 w) h
end
end Go.Proofs.Ytpemhiaeiecinaa
/- A region whose order is open, with some operations (a literal laid, a call that makes memory, an append) that come one after another, between others that only read and draw: one walk in the order of the text serves every order. No condition. -/
namespace Go.Proofs.Ytpemhiaeiecinaa
open Go Go.RowKit
set_option linter.unusedVariables false
section
variable {P : Program} {ops : Array Oper} {S : World → Prop} {VC : FuncId → Array Value → Value → Prop} {D : FuncId → Array Value → World → Value → World → Prop} {sp : List Nat}
/-- an operation that only reads and draws goes through in every world of the class -/
def GoodM (P : Program) (ops : Array Oper) (S : World → Prop) (VC : FuncId → Array Value → Value → Prop) (o : Oper) (a : Act) : Prop := Region.wanted o (yielded ops a.tmps) = true → ∀ W, S W → FineRes P (Drawn W) VC ((execOp a.eval o).run P W)
/-- what is asked of one that changes the world -/
@[go_sem] def SpecRes (P : Program) (D : FuncId → Array Value → World → Value → World → Prop) (K : Value → World → Prop) : Result Next → Prop
  | .ok (.value v) w' => K v w'
  | .ok .skip w' => K undef w'
  | .ok (.enter f args) w' => (Calls P f args w' fun e w'' => ∃ v, e = .returned v ∧ D f args w' v w'') ∧ ∀ v w'', D f args w' v w'' → K v w''
  | _ => False
def SpecAt (P : Program) (ops : Array Oper) (D : FuncId → Array Value → World → Value → World → Prop) (o : Oper) (a : Act) (w : World) (K : Value → World → Prop) : Prop :=
  (Region.wanted o (yielded ops a.tmps) = true → ∀ n : Nat, SpecRes P D K ((execOp a.eval o).run P (w.drewN n))) ∧ (Region.wanted o (yielded ops a.tmps) = false → K undef w)
theorem SpecRes.mono {K K' : Value → World → Prop} {r : Result Next} (h : SpecRes P D K r) (hk : ∀ v w, K v w → K' v w) : SpecRes P D K' r := by
  revert h
  unfold SpecRes
  split
  · exact fun h => hk _ _ h
  · exact fun h => hk _ _ h
  · exact fun h => ⟨h.1, fun v w'' hd => hk _ _ (h.2 v w'' hd)⟩
  · exact fun h => h
theorem SpecRes.all {ι : Type} {V : ι → Prop} {K : ι → Value → World → Prop} {r : Result Next} (i0 : ι) (h0 : V i0) (h : ∀ i, V i → SpecRes P D (K i) r) : SpecRes P D (fun v w => ∀ i, V i → K i v w) r := by
  revert h
  unfold SpecRes
  split
  · exact fun h i hi => h i hi
  · exact fun h i hi => h i hi
  · exact fun h => ⟨(h i0 h0).1, fun v w'' hd i hi => (h i hi).2 v w'' hd⟩
  · exact fun h => h i0 h0
theorem SpecRes.some {K : Value → World → Prop} {r : Result Next} (h : SpecRes P D K r) : ∃ v w, K v w := by
  revert h
  unfold SpecRes
  split
  · exact fun h => ⟨_, _, h⟩
  · exact fun h => ⟨_, _, h⟩
  · intro h
    obtain ⟨e, w'', fr, ⟨v, _, hd⟩, _⟩ := h.1 []
    exact ⟨v, w'', h.2 v w'' hd⟩
  · exact fun h => h.elim
theorem SpecAt.mono {o : Oper} {a : Act} {w : World} {K K' : Value → World → Prop} (h : SpecAt P ops D o a w K) (hk : ∀ v w, K v w → K' v w) : SpecAt P ops D o a w K' :=
  ⟨fun hw n => (h.1 hw n).mono hk, fun hw => hk _ _ (h.2 hw)⟩
theorem SpecAt.all {o : Oper} {a : Act} {w : World} {ι : Type} {V : ι → Prop} {K : ι → Value → World → Prop} (i0 : ι) (h0 : V i0) (h : ∀ i, V i → SpecAt P ops D o a w (K i)) : SpecAt P ops D o a w (fun v w => ∀ i, V i → K i v w) :=
  ⟨fun hw n => SpecRes.all i0 h0 fun i hi => (h i hi).1 hw n, fun hw i hi => (h i hi).2 hw⟩
theorem SpecAt.some {o : Oper} {a : Act} {w : World} {K : Value → World → Prop} (h : SpecAt P ops D o a w K) : ∃ v w, K v w := by
  cases hw : Region.wanted o (yielded ops a.tmps)
  · exact ⟨_, _, h.2 hw⟩
  · exact (h.1 hw 0).some
theorem specAt_put {o : Oper} {a : Act} {d : Option Tmp} {u : Value} {w : World} {K : Value → World → Prop} (he : execOp (a.put d u).eval o = execOp a.eval o) (hw : Region.wanted o (yielded ops (a.put d u).tmps) = Region.wanted o (yielded ops a.tmps)) :
    SpecAt P ops D o (a.put d u) w K ↔ SpecAt P ops D o a w K := by
  unfold SpecAt
  rw [he, hw]
theorem goodM_put {o : Oper} {a : Act} {d : Option Tmp} {u : Value} (he : execOp (a.put d u).eval o = execOp a.eval o) (hw : Region.wanted o (yielded ops (a.put d u).tmps) = Region.wanted o (yielded ops a.tmps)) :
    GoodM P ops S VC o (a.put d u) ↔ GoodM P ops S VC o a := by
  unfold GoodM
  rw [he, hw]
theorem some_valM {o : Oper} {a : Act} {w0 : World} (h0 : S w0) (h : GoodM P ops S VC o a) : ∃ v, Vals P ops S VC o a v := by
  by_cases hw : Region.wanted o (yielded ops a.tmps) = true
  · have hf := h hw w0 h0
    unfold FineRes at hf
    split at hf
    · rename_i v w' he; exact ⟨v, .inl ⟨hw, w0, w', h0, .inl he⟩⟩
    · rename_i w' he; exact ⟨undef, .inl ⟨hw, w0, w', h0, .inr (.inl ⟨he, rfl⟩)⟩⟩
    · rename_i f args w' he
      obtain ⟨_, hc⟩ := hf
      obtain ⟨e, w'', fr, ⟨v, _, _, hv⟩, _⟩ := hc []
      exact ⟨v, .inl ⟨hw, w0, w', h0, .inr (.inr ⟨f, args, he, hv⟩)⟩⟩
    · cases hf
  · exact ⟨undef, .inr ⟨by simpa using hw, rfl⟩⟩
/-- the walk of every order up to 'n', then 'L' -/
def MSet (P : Program) (md : Region.Mode) (ops : Array Oper) (S : World → Prop) (VC : FuncId → Array Value → Value → Prop) (D : FuncId → Array Value → World → Value → World → Prop) (sp : List Nat) (n : Nat) (L : Array Bool → Act → World → Prop) : Nat → Array Bool → Act → World → Prop
  | 0, listed, a, w => L listed a w
  | fuel + 1, listed, a, w => Region.ready md ops listed ≠ [] ∧
    ∀ i ∈ Region.ready md ops listed, ∀ o, ops[i]? = some o → i < n ∧
      (sp.contains i = true → SpecAt P ops D o a w fun v w' => S w' ∧ MSet P md ops S VC D sp n L fuel (listed.setIfInBounds i true) (a.put o.dst v) w') ∧
      (sp.contains i = false → GoodM P ops S VC o a ∧ ∀ v, Vals P ops S VC o a v → MSet P md ops S VC D sp n L fuel (listed.setIfInBounds i true) (a.put o.dst v) w)
structure MInv (md : Region.Mode) (ops : Array Oper) (n : Nat) (listed : Array Bool) : Prop where
  inv : HInv md ops n listed
theorem mset_plain {md : Region.Mode} {n : Nat} {L : Array Bool → Act → World → Prop} {i : Nat} {oi : Oper} (hi : ops[i]? = some oi) (hsp : sp.contains i = false) (hsel : ∀ (j : Nat) (o : Oper) cs b, ops[j]? = some o → o.op ≠ .select cs b)
    (hlt : ∀ listed, HInv md ops n listed → listed.getD i true = false → ∀ j ∈ Region.ready md ops listed, j < n) (hdone : ∀ listed a w, L listed a w → ∀ j ∈ Region.ready md ops listed, n ≤ j) :
    ∀ (fuel : Nat) (listed : Array Bool) (a : Act) (w : World), S w → HInv md ops n listed →
      (∀ j oj, ops[j]? = some oj → j ≠ i → listed.getD j true = false → (∀ e ∈ oj.after, Region.binds md e = true → e.on ≠ i) → oi.apart ops oj = true) →
      i ∈ Region.ready md ops listed → GoodM P ops S VC oi a →
      (∀ v, Vals P ops S VC oi a v → MSet P md ops S VC D sp n L fuel (listed.setIfInBounds i true) (a.put oi.dst v) w) → MSet P md ops S VC D sp n L (fuel + 1) listed a w
  | 0, listed, a, w, h0, inv, _, hr, hg, H => by
    have hun := (mem_ready.1 hr).1
    refine ⟨fun e => (by rw [e] at hr; cases hr), fun j hj o ho => ?_⟩
    have hjn := hlt listed inv hun j hj
    by_cases hji : j = i
    · subst hji
      obtain rfl : oi = o := Option.some.inj (hi.symm.trans ho)
      exact ⟨hjn, fun h => (by rw [hsp] at h; cases h), fun _ => ⟨hg, H⟩⟩
    · exfalso
      obtain ⟨v, hv⟩ := some_valM h0 hg
      have := hdone _ _ _ (H v hv) j (ready_mono hj hji)
      omega
  | fuel + 1, listed, a, w, h0, inv, hfree, hr, hg, H => by
    have huni := (mem_ready.1 hr).1
    refine ⟨fun e => (by rw [e] at hr; cases hr), fun j hj oj hoj => ?_⟩
    have hjn := hlt listed inv huni j hj
    by_cases hji : j = i
    · subst hji
      obtain rfl : oi = oj := Option.some.inj (hi.symm.trans hoj)
      exact ⟨hjn, fun h => (by rw [hsp] at h; cases h), fun _ => ⟨hg, H⟩⟩
    · have hun : listed.getD j true = false := (mem_ready.1 hj).1
      have hno : ∀ e ∈ oj.after, Region.binds md e = true → e.on ≠ i := by
        intro e he hb hon
        obtain ⟨_, o', ho', hall⟩ := mem_ready.1 hj
        obtain rfl : oj = o' := Option.some.inj (hoj.symm.trans ho')
        have h1 := hall e he hb
        rw [hon, getD_two huni] at h1; cases h1
      obtain ⟨x1, x2, x3⟩ := Oper.apart_spec (hfree j oj hoj hji hun hno)
      have si := fun cs b => hsel i oi cs b hi
      have sj := fun cs b => hsel j oj cs b hoj
      have ej : ∀ v, execOp (a.put oi.dst v).eval oj = execOp a.eval oj := fun v => execOp_put oj sj a oi.dst v x1
      have wj : ∀ v, Region.wanted oj (yielded ops (a.put oi.dst v).tmps) = Region.wanted oj (yielded ops a.tmps) := fun v => wanted_put oj a oi.dst v x1
      have gi : ∀ u, (GoodM P ops S VC oi (a.put oj.dst u) ↔ GoodM P ops S VC oi a) := fun u => goodM_put (execOp_put oi si a oj.dst u x3) (wanted_put oi a oj.dst u x3)
      have vi : ∀ u v, (Vals P ops S VC oi (a.put oj.dst u) v ↔ Vals P ops S VC oi a v) := fun u v => vals_put (execOp_put oi si a oj.dst u x3) (wanted_put oi a oj.dst u x3)
      obtain ⟨v0, hv0⟩ := some_valM h0 hg
      have hj' := ready_mono hj hji
      have hfree' : ∀ k ok, ops[k]? = some ok → k ≠ i → (listed.setIfInBounds j true).getD k true = false → (∀ e ∈ ok.after, Region.binds md e = true → e.on ≠ i) → oi.apart ops ok = true := by
        intro k ok hk hki hun' hno'
        refine hfree k ok hk hki ?_ hno'
        by_cases hjk : j = k
        · subst hjk; exact hun
        · rw [getD_set_ne true hjk] at hun'; exact hun'
      refine ⟨hjn, fun hs => ?_, fun hs => ?_⟩
      · have h1 : ∀ v, Vals P ops S VC oi a v → SpecAt P ops D oj a w fun u w' => S w' ∧ MSet P md ops S VC D sp n L fuel ((listed.setIfInBounds i true).setIfInBounds j true) ((a.put oi.dst v).put oj.dst u) w' := fun v hv =>
          (specAt_put (ej v) (wj v)).1 (((H v hv).2 j hj' oj hoj).2.1 hs)
        refine (SpecAt.all v0 hv0 h1).mono fun u w' hK => ⟨(hK v0 hv0).1, ?_⟩
        refine mset_plain hi hsp hsel hlt hdone fuel (listed.setIfInBounds j true) (a.put oj.dst u) w' (hK v0 hv0).1 (inv.set hj hjn) hfree' (ready_mono hr (Ne.symm hji)) ((gi u).2 hg) fun v hv => ?_
        have := (hK v ((vi u v).1 hv)).2
        rw [Array.setIfInBounds_comm _ _ hji, ← Act.put_comm a v u x2]
        exact this
      · have gj : ∀ v, (GoodM P ops S VC oj (a.put oi.dst v) ↔ GoodM P ops S VC oj a) := fun v => goodM_put (ej v) (wj v)
        have vj : ∀ v u, (Vals P ops S VC oj (a.put oi.dst v) u ↔ Vals P ops S VC oj a u) := fun v u => vals_put (ej v) (wj v)
        refine ⟨(gj v0).1 (((H v0 hv0).2 j hj' oj hoj).2.2 hs).1, fun u hu => ?_⟩
        refine mset_plain hi hsp hsel hlt hdone fuel (listed.setIfInBounds j true) (a.put oj.dst u) w h0 (inv.set hj hjn) hfree' (ready_mono hr (Ne.symm hji)) ((gi u).2 hg) fun v hv => ?_
        have := (((H v ((vi u v).1 hv)).2 j hj' oj hoj).2.2 hs).2 u ((vj v u).2 hu)
        rw [Array.setIfInBounds_comm _ _ hji, ← Act.put_comm a v u x2]
        exact this
theorem mset_spec {md : Region.Mode} {n : Nat} {L : Array Bool → Act → World → Prop} {i : Nat} {oi : Oper} (hi : ops[i]? = some oi) (hsp : sp.contains i = true) (hsel : ∀ (j : Nat) (o : Oper) cs b, ops[j]? = some o → o.op ≠ .select cs b)
    (hlt : ∀ listed, HInv md ops n listed → listed.getD i true = false → ∀ j ∈ Region.ready md ops listed, j < n) (hdone : ∀ listed a w, L listed a w → ∀ j ∈ Region.ready md ops listed, n ≤ j)
    (hone : ∀ listed, HInv md ops n listed → (∀ j, j < i → listed.getD j false = true) → listed.getD i true = false → ∀ j ∈ Region.ready md ops listed, j ≠ i → sp.contains j = false) :
    ∀ (fuel : Nat) (listed : Array Bool) (a : Act) (w : World), S w → HInv md ops n listed → (∀ j, j < i → listed.getD j false = true) →
      (∀ j oj, ops[j]? = some oj → j ≠ i → listed.getD j true = false → (∀ e ∈ oj.after, Region.binds md e = true → e.on ≠ i) → oi.apart ops oj = true) →
      i ∈ Region.ready md ops listed →
      (SpecAt P ops D oi a w fun v w' => S w' ∧ MSet P md ops S VC D sp n L fuel (listed.setIfInBounds i true) (a.put oi.dst v) w') → MSet P md ops S VC D sp n L (fuel + 1) listed a w
  | 0, listed, a, w, h0, inv, hp, _, hr, H => by
    have hun := (mem_ready.1 hr).1
    refine ⟨fun e => (by rw [e] at hr; cases hr), fun j hj o ho => ?_⟩
    have hjn := hlt listed inv hun j hj
    by_cases hji : j = i
    · subst hji
      obtain rfl : oi = o := Option.some.inj (hi.symm.trans ho)
      exact ⟨hjn, fun _ => H, fun h => (by rw [hsp] at h; cases h)⟩
    · exfalso
      obtain ⟨v, w', _, hL⟩ := H.some
      have := hdone _ _ _ hL j (ready_mono hj hji)
      omega
  | fuel + 1, listed, a, w, h0, inv, hp, hfree, hr, H => by
    have huni := (mem_ready.1 hr).1
    refine ⟨fun e => (by rw [e] at hr; cases hr), fun j hj oj hoj => ?_⟩
    have hjn := hlt listed inv huni j hj
    by_cases hji : j = i
    · subst hji
      obtain rfl : oi = oj := Option.some.inj (hi.symm.trans hoj)
      exact ⟨hjn, fun _ => H, fun h => (by rw [hsp] at h; cases h)⟩
    · have hun : listed.getD j true = false := (mem_ready.1 hj).1
      have hjs := hone listed inv hp huni j hj hji
      have hno : ∀ e ∈ oj.after, Region.binds md e = true → e.on ≠ i := by
        intro e he hb hon
        obtain ⟨_, o', ho', hall⟩ := mem_ready.1 hj
        obtain rfl : oj = o' := Option.some.inj (hoj.symm.trans ho')
        have h1 := hall e he hb
        rw [hon, getD_two huni] at h1; cases h1
      obtain ⟨x1, x2, x3⟩ := Oper.apart_spec (hfree j oj hoj hji hun hno)
      have si := fun cs b => hsel i oi cs b hi
      have sj := fun cs b => hsel j oj cs b hoj
      have ej : ∀ v, execOp (a.put oi.dst v).eval oj = execOp a.eval oj := fun v => execOp_put oj sj a oi.dst v x1
      have wj : ∀ v, Region.wanted oj (yielded ops (a.put oi.dst v).tmps) = Region.wanted oj (yielded ops a.tmps) := fun v => wanted_put oj a oi.dst v x1
      have gj : ∀ v, (GoodM P ops S VC oj (a.put oi.dst v) ↔ GoodM P ops S VC oj a) := fun v => goodM_put (ej v) (wj v)
      have vj : ∀ v u, (Vals P ops S VC oj (a.put oi.dst v) u ↔ Vals P ops S VC oj a u) := fun v u => vals_put (ej v) (wj v)
      have hj' := ready_mono hj hji
      have hfree' : ∀ k ok, ops[k]? = some ok → k ≠ i → (listed.setIfInBounds j true).getD k true = false → (∀ e ∈ ok.after, Region.binds md e = true → e.on ≠ i) → oi.apart ops ok = true := by
        intro k ok hk hki hun' hno'
        refine hfree k ok hk hki ?_ hno'
        by_cases hjk : j = k
        · subst hjk; exact hun
        · rw [getD_set_ne true hjk] at hun'; exact hun'
      refine ⟨hjn, fun hs => (by rw [hjs] at hs; cases hs), fun hs => ?_⟩
      obtain ⟨v0, w0, _, hv0⟩ := H.some
      refine ⟨(gj v0).1 ((hv0.2 j hj' oj hoj).2.2 hs).1, fun u hu => ?_⟩
      refine mset_spec hi hsp hsel hlt hdone hone fuel (listed.setIfInBounds j true) (a.put oj.dst u) w h0 (inv.set hj hjn) (fun q hq => getD_set_true (hp q hq)) hfree' (ready_mono hr (Ne.symm hji)) ?_
      refine (specAt_put (execOp_put oi si a oj.dst u x3) (wanted_put oi a oj.dst u x3)).2 (H.mono fun v w' hK => ⟨hK.1, ?_⟩)
      have := ((hK.2.2 j hj' oj hoj).2.2 hs).2 u ((vj v u).2 hu)
      rw [Array.setIfInBounds_comm _ _ hji, ← Act.put_comm a v u x2]
      exact this
/-- the walk in the order of the text -/
def MWalk (P : Program) (ops : Array Oper) (S : World → Prop) (VC : FuncId → Array Value → Value → Prop) (D : FuncId → Array Value → World → Value → World → Prop) (sp : List Nat) (Q : Act → World → Prop) : Nat → List Oper → Act → World → Prop
  | _, [], a, w => Q a w
  | k, o :: rest, a, w =>
    (sp.contains k = true → SpecAt P ops D o a w fun v w' => S w' ∧ MWalk P ops S VC D sp Q (k + 1) rest (a.put o.dst v) w') ∧
    (sp.contains k = false → GoodM P ops S VC o a ∧ ∀ v, Vals P ops S VC o a v → MWalk P ops S VC D sp Q (k + 1) rest (a.put o.dst v) w)
/-- 't' waits for 'i' -/
def depB (md : Region.Mode) (ops : Array Oper) : Nat → Nat → Nat → Bool
  | 0, _, _ => false
  | f + 1, t, i => match ops[t]? with
    | none => false
    | some o => o.after.any fun e => Region.binds md e && (e.on == i || depB md ops f e.on i)
theorem depB_listed {md : Region.Mode} {n : Nat} {listed : Array Bool} (inv : HInv md ops n listed) {i : Nat} : ∀ (f t : Nat), listed.getD t false = true → depB md ops f t i = true → listed.getD i false = true
  | 0, _, _, h => by cases h
  | f + 1, t, ht, h => by
    unfold depB at h
    split at h
    · cases h
    · rename_i o ho
      obtain ⟨e, he, hb⟩ := Array.any_eq_true'.1 h
      simp only [Bool.and_eq_true, Bool.or_eq_true, beq_iff_eq] at hb
      have h1 := inv.closed t o ho ht e he hb.1
      rcases hb.2 with h2 | h2
      · rw [← h2]; exact h1
      · exact depB_listed inv f e.on h1 h2
theorem depB_ready {md : Region.Mode} {n : Nat} {listed : Array Bool} (inv : HInv md ops n listed) {i : Nat} (f t : Nat) (ht : t ∈ Region.ready md ops listed) (h : depB md ops f t i = true) : listed.getD i false = true := by
  cases f with
  | zero => cases h
  | succ f =>
    unfold depB at h
    obtain ⟨_, ot, hot, hall⟩ := mem_ready.1 ht
    rw [hot] at h
    obtain ⟨e, he, hb⟩ := Array.any_eq_true'.1 h
    simp only [Bool.and_eq_true, Bool.or_eq_true, beq_iff_eq] at hb
    have h1 := hall e he hb.1
    rcases hb.2 with h2 | h2
    · rw [← h2]; exact h1
    · exact depB_listed inv f e.on h1 h2
def specB (md : Region.Mode) (ops : Array Oper) (sp : List Nat) : Bool := sp.all fun i => sp.all fun j => decide (j ≤ i) || depB md ops ops.size j i
theorem one_of_specB {md : Region.Mode} {n i : Nat} (hB : specB md ops sp = true) (hi : sp.contains i = true) (listed : Array Bool) (inv : HInv md ops n listed) (hp : ∀ j, j < i → listed.getD j false = true) (hun : listed.getD i true = false) :
    ∀ j ∈ Region.ready md ops listed, j ≠ i → sp.contains j = false := by
  intro j hj hji
  cases hs : sp.contains j with
  | false => rfl
  | true =>
    exfalso
    have h1 := List.all_eq_true.1 (List.all_eq_true.1 hB i (by simpa using hi)) j (by simpa using hs)
    simp only [Bool.or_eq_true, decide_eq_true_eq] at h1
    rcases h1 with h1 | h1
    · have h2 := hp j (by omega)
      have h3 := getD_two (mem_ready.1 hj).1
      rw [h2] at h3; cases h3
    · have h2 := depB_ready inv _ j hj h1
      rw [getD_two hun] at h2; cases h2
theorem mset_lex {md : Region.Mode} {n : Nat} {L : Array Bool → Act → World → Prop} {Lq : Act → World → Prop} (hS : ∀ W q, S W → S (W.drewN q)) (hsel : Region.noSelect ops = true) (hB2 : specB md ops sp = true)
    (hlt : ∀ i, i < n → ∀ listed, HInv md ops n listed → listed.getD i true = false → ∀ j ∈ Region.ready md ops listed, j < n) (hdone : ∀ listed a w, L listed a w → ∀ j ∈ Region.ready md ops listed, n ≤ j)
    (lex : Nat → Nat → Array Bool → Bool) (hlex : ∀ len k listed, lex (len + 1) k listed = true → (Region.ready md ops listed).contains k = true ∧ Region.free md ops listed k = true ∧ lex len (k + 1) (listed.setIfInBounds k true) = true)
    (hend : ∀ listed a w, lex 0 n listed = true → Lq a w → L listed a w) :
    ∀ (l : List Oper) (k : Nat) (listed : Array Bool) (a : Act) (w : World), S w → (∀ j, j < l.length → l[j]? = ops[k + j]?) → k + l.length = n → HInv md ops n listed → (∀ j, j < k → listed.getD j false = true) →
    lex l.length k listed = true → MWalk P ops S VC D sp Lq k l a w → MSet P md ops S VC D sp n L l.length listed a w
  | [], k, listed, a, w, _, _, hk, _, _, hB, h => by
    have : k = n := by simpa using hk
    subst this
    exact hend listed a w hB h
  | o :: l, k, listed, a, w, h0, hl, hk, inv, hp, hB, h => by
    have hk0 : ops[k]? = some o := by simpa using (hl 0 (by simp)).symm
    obtain ⟨hr, hf, hB'⟩ := hlex _ _ _ hB
    have hkn : k < n := by simp only [List.length_cons] at hk; omega
    have hks : k < ops.size := (Array.getElem?_eq_some_iff.1 hk0).1
    have hr' : k ∈ Region.ready md ops listed := by simpa using hr
    have hl' : ∀ j, j < l.length → l[j]? = ops[k + 1 + j]? := fun j hj => by have := hl (j + 1) (by simp; omega); simpa [Nat.add_assoc, Nat.add_comm 1 j] using this
    have hkl : k + 1 + l.length = n := by simp only [List.length_cons] at hk; omega
    have hp' : ∀ j, j < k + 1 → (listed.setIfInBounds k true).getD j false = true := fun j hj => by
      by_cases e : j = k
      · subst e
        have : j < listed.size := by rw [inv.size]; exact hks
        simp [Array.getD_eq_getD_getElem?, this]
      · exact getD_set_true (hp j (by omega))
    cases hsp : sp.contains k with
    | true =>
      refine mset_spec hk0 hsp (Region.noSelect_spec hsel) (hlt k hkn) hdone (one_of_specB hB2 hsp) l.length listed a w h0 inv hp (Region.free_spec hk0 hf) hr' ?_
      exact (h.1 hsp).mono fun v w' hK => ⟨hK.1, mset_lex hS hsel hB2 hlt hdone lex hlex hend l (k + 1) _ _ w' hK.1 hl' hkl (inv.set hr' hkn) hp' hB' hK.2⟩
    | false =>
      refine mset_plain hk0 hsp (Region.noSelect_spec hsel) (hlt k hkn) hdone l.length listed a w h0 inv (Region.free_spec hk0 hf) hr' (h.2 hsp).1 fun v hv => ?_
      exact mset_lex hS hsel hB2 hlt hdone lex hlex hend l (k + 1) _ _ w h0 hl' hkl (inv.set hr' hkn) hp' hB' ((h.2 hsp).2 v hv)
theorem any_of_mset {md : Region.Mode} {n g : Nat} {L : Array Bool → Act → World → Prop} {Q' : Exit → Act → World → Prop} (hS : ∀ W q, S W → S (W.drewN q)) (hL : ∀ listed a w q, S w → L listed a w → wpAny P md ops Q' g listed a (w.drewN q)) :
    ∀ (fuel : Nat) (listed : Array Bool) (a : Act) (w : World) (q : Nat), S w → MSet P md ops S VC D sp n L fuel listed a w → wpAny P md ops Q' (fuel + g) listed a (w.drewN q)
  | 0, _, _, _, _, hw, h => by rw [Nat.zero_add]; exact hL _ _ _ _ hw h
  | fuel + 1, listed, a, w, q, hw, h => by
    rw [show fuel + 1 + g = (fuel + g) + 1 by omega]
    refine ⟨fun e => absurd e h.1, fun i hi => ?_⟩
    obtain ⟨_, o, ho, _⟩ := mem_ready.1 hi
    obtain ⟨_, h1, h2⟩ := h.2 i hi o ho
    unfold wpOp
    simp only [ho]
    cases hsp : sp.contains i with
    | true =>
      obtain ⟨h3, h4⟩ := h1 hsp
      by_cases hwant : Region.wanted o (yielded ops a.tmps) = true
      · rw [if_pos hwant]
        left
        have hf := h3 hwant q
        unfold Oper.wp
        unfold SpecRes at hf
        split at hf
        · rename_i v w' he
          rw [he]
          exact any_of_mset hS hL fuel _ _ w' 0 hf.1 hf.2
        · rename_i w' he
          rw [he]
          exact any_of_mset hS hL fuel _ _ w' 0 hf.1 hf.2
        · rename_i f args w' he
          rw [he]
          obtain ⟨hc, hk⟩ := hf
          refine hc.mono fun e w'' ⟨v, hev, hd⟩ => ?_
          subst hev
          exact any_of_mset hS hL fuel _ _ w'' 0 (hk v w'' hd).1 (hk v w'' hd).2
        · cases hf
      · have hwant' : Region.wanted o (yielded ops a.tmps) = false := by simpa using hwant
        rw [if_neg hwant]
        exact any_of_mset hS hL fuel _ _ w q (h4 hwant').1 (h4 hwant').2
    | false =>
      obtain ⟨hg, hv⟩ := h2 hsp
      have hSq := hS w q hw
      have hadd : ∀ m, (w.drewN q).drewN m = w.drewN (q + m) := fun m => by simp [World.drewN, Nat.add_assoc]
      by_cases hwant : Region.wanted o (yielded ops a.tmps) = true
      · rw [if_pos hwant]
        left
        have hf := hg hwant _ hSq
        unfold Oper.wp
        unfold FineRes at hf
        split at hf
        · rename_i v w' he
          rw [he]
          obtain ⟨m, rfl⟩ := hf
          have h5 := any_of_mset hS hL fuel _ _ w (q + m) hw (hv v (.inl ⟨hwant, _, _, hSq, .inl he⟩))
          rw [← hadd] at h5
          exact h5
        · rename_i w' he
          rw [he]
          obtain ⟨m, rfl⟩ := hf
          have h5 := any_of_mset hS hL fuel _ _ w (q + m) hw (hv undef (.inl ⟨hwant, _, _, hSq, .inr (.inl ⟨he, rfl⟩)⟩))
          rw [← hadd] at h5
          exact h5
        · rename_i f args w' he
          rw [he]
          obtain ⟨hC', hc⟩ := hf
          refine hc.mono fun e w'' ⟨v, hev, ⟨m, hm⟩, hvc⟩ => ?_
          subst hev
          subst hm
          have h5 := any_of_mset hS hL fuel _ _ w (q + m) hw (hv v (.inl ⟨hwant, _, _, hSq, .inr (.inr ⟨f, args, he, hvc⟩)⟩))
          rw [← hadd] at h5
          exact h5
        · cases hf
      · have hwant' : Region.wanted o (yielded ops a.tmps) = false := by simpa using hwant
        rw [if_neg hwant]
        exact any_of_mset hS hL fuel _ _ w q hw (hv undef (.inr ⟨hwant', rfl⟩))
def mixB (ops : Array Oper) (n : Nat) (sp : List Nat) : Bool :=
  Region.noSelect ops && decide (n < ops.size) && sinkP .any ops 0 n && chainP .any ops n && specB .any ops sp && Region.lexHead .any ops (ops.size - n) n 0 (Array.replicate ops.size false)
def mixB0 (ops : Array Oper) (sp : List Nat) : Bool := Region.noSelect ops && specB .any ops sp && Region.lexFrom .any ops ops.size 0 (Array.replicate ops.size false)
/-- **a region of readers and of operations, numbers 'sp', that come one after another; from 'n' on its operations wait for all others** -/
theorem wp_region_mix {id : Nat} {Q : Exit → Act → World → Prop} {a : Act} {w : World} {l : List Oper} (n : Nat) (sp : List Nat) (S : World → Prop) (VC : FuncId → Array Value → Value → Prop) (D : FuncId → Array Value → World → Value → World → Prop) (hm : P.follows .mixedOrders = true) (hB : mixB l.toArray n sp = true)
    (hS0 : S w) (hS : ∀ W q, S W → S (W.drewN q)) (h : MWalk P l.toArray S VC D sp (fun a' w1 => ∀ q, wpList P l.toArray Q (l.drop n) a' (w1.drewN q)) 0 (l.take n) a w) : (Code.region id l.toArray true).wp P Q a w := by
  simp only [mixB, Bool.and_eq_true, decide_eq_true_eq] at hB
  obtain ⟨⟨⟨⟨⟨hsel, hn⟩, hs⟩, hc⟩, hsp⟩, hlex⟩ := hB
  have hn' : n < l.length := by simpa using hn
  have htl : (l.take n).length = n := by simp; omega
  have hdl : (l.drop n).length = l.toArray.size - n := by simp
  have gf : ∀ i, (Array.replicate l.toArray.size false).getD i false = false := fun i => by
    simp only [Array.getD_eq_getD_getElem?, Array.getElem?_replicate]; split <;> rfl
  have inv0 : HInv .any l.toArray n (Array.replicate l.toArray.size false) :=
    ⟨by simp, fun j oj _ hl => (by rw [gf] at hl; cases hl), fun t _ ht => getD_in2 (by simpa using ht) (gf t)⟩
  have H := mset_lex (md := .any) (L := fun listed' a' w' => Region.seqB .any l.toArray (l.toArray.size - n) n listed' = true ∧ ∀ q, wpList P l.toArray Q (l.drop n) a' (w'.drewN q)) hS hsel hsp
    (fun i hi listed inv hun j hj => by
      rcases Nat.lt_or_ge j n with h | h
      · exact h
      · exact absurd hj (late hs hc hn inv (p := 0) (fun j hj => by omega) _ i rfl hi hun j h))
    (fun listed a w hL => seqB_ready hL.1) (fun len k listed => Region.lexHead .any l.toArray (l.toArray.size - n) len k listed)
    (fun len k listed h => by
      have h : Region.lexHead .any l.toArray (l.toArray.size - n) (len + 1) k listed = true := h
      simp only [Region.lexHead, Bool.and_eq_true] at h
      exact ⟨h.1.1, h.1.2, h.2⟩)
    (fun listed a w he hq => ⟨by simpa [Region.lexHead] using he, hq⟩)
    (l.take n) 0 _ a w hS0 (fun j hj => by
      have hj' : j < n := by rw [htl] at hj; exact hj
      simp [hj']) (by simpa using htl) inv0 (fun j hj => by omega) (by rw [htl]; exact hlex) h
  refine wp_region_any hm ?_
  have := any_of_mset (Q' := Q) (g := l.toArray.size - n) hS (fun listed a' w' q hw' hL => by
    have := wpAny_of_seq (md := .any) (Q' := Q) (l.drop n) n listed a' (w'.drewN q) (fun j => by simp [List.getElem?_drop]) (by rw [hdl]; exact hL.1) (hL.2 q)
    rwa [hdl] at this) _ _ _ _ 1 hS0 H
  rw [htl, show n + (l.toArray.size - n) = l.toArray.size by omega] at this
  exact this
/-- **the same without a tail** -/
theorem wp_region_mix0 {id : Nat} {Q : Exit → Act → World → Prop} {a : Act} {w : World} {l : List Oper} (sp : List Nat) (S : World → Prop) (VC : FuncId → Array Value → Value → Prop) (D : FuncId → Array Value → World → Value → World → Prop) (hm : P.follows .mixedOrders = true) (hB : mixB0 l.toArray sp = true)
    (hS0 : S w) (hS : ∀ W q, S W → S (W.drewN q)) (h : MWalk P l.toArray S VC D sp (fun a' w1 => ∀ q, Q .normal a' (w1.drewN q)) 0 l a w) : (Code.region id l.toArray true).wp P Q a w := by
  simp only [mixB0, Bool.and_eq_true] at hB
  obtain ⟨⟨hsel, hsp⟩, hlex⟩ := hB
  have gf : ∀ i, (Array.replicate l.toArray.size false).getD i false = false := fun i => by
    simp only [Array.getD_eq_getD_getElem?, Array.getElem?_replicate]; split <;> rfl
  have inv0 : HInv .any l.toArray l.length (Array.replicate l.toArray.size false) :=
    ⟨by simp, fun j oj _ hl => (by rw [gf] at hl; cases hl), fun t h1 ht => getD_in2 (by simpa using ht) (gf t)⟩
  have H := mset_lex (md := .any) (L := fun listed' a' w' => Region.ready .any l.toArray listed' = [] ∧ ∀ q, Q .normal a' (w'.drewN q)) hS hsel hsp
    (fun i hi listed inv hun j hj => by
      obtain ⟨_, oj, hoj, _⟩ := mem_ready.1 hj
      have := (Array.getElem?_eq_some_iff.1 hoj).1
      simpa using this)
    (fun listed a w hL j hj => by rw [hL.1] at hj; cases hj) (fun len k listed => Region.lexFrom .any l.toArray len k listed)
    (fun len k listed h => by
      have h : Region.lexFrom .any l.toArray (len + 1) k listed = true := h
      simp only [Region.lexFrom, Bool.and_eq_true] at h
      exact ⟨h.1.1, h.1.2, h.2⟩)
    (fun listed a w he hq => ⟨by simpa [Region.lexFrom] using he, hq⟩)
    l 0 _ a w hS0 (fun j hj => by simp) (by simp) inv0 (fun j hj => by omega) (by simpa using hlex) h
  refine wp_region_any hm ?_
  have := any_of_mset (Q' := Q) (g := 0) hS (fun listed a' w' q hw' hL => ⟨hL.1, hL.2 q⟩) _ _ _ _ 1 hS0 H
  rw [Nat.add_zero] at this
  exact this
/-! the steps of the walk -/
variable {Q : Act → World → Prop} {o : Oper} {rest : List Oper} {a : Act} {w : World} {k : Nat}
@[go_sem] theorem drawn_refl (w : World) : Drawn w w = True := eq_true ⟨0, rfl⟩
theorem mwalk_plain (hk : sp.contains k = false) (h0 : S w) (h : ∀ K : Act → Prop, (∀ a, MWalk P ops S VC D sp Q (k + 1) rest a w → K a) → ∀ W : World, S W → if Region.wanted o (yielded ops a.tmps) then UponC P VC (Drawn W) (fun v => K (a.put o.dst v)) ((execOp a.eval o).run P W) else K (a.put o.dst undef)) :
    MWalk P ops S VC D sp Q k (o :: rest) a w := by
  have h := h _ (fun _ h => h)
  refine ⟨fun e => (by rw [hk] at e; cases e), fun _ => ⟨fun hw W hW => ?_, fun v hv => ?_⟩⟩
  · have := h W hW
    rw [if_pos hw] at this
    revert this
    generalize (execOp a.eval o).run P W = r
    intro this
    unfold UponC at this
    unfold FineRes
    split at this
    · exact this.1
    · exact this.1
    · exact ⟨this.1, this.2.1⟩
    · cases this
  · rcases hv with ⟨hw, w1, w2, hS, hv⟩ | ⟨hw, rfl⟩
    · have := h w1 hS
      rw [if_pos hw] at this
      unfold UponC at this
      rcases hv with hv | ⟨hv, rfl⟩ | ⟨f, args, hv, hvc⟩
      · rw [hv] at this; exact this.2
      · rw [hv] at this; exact this.2
      · rw [hv] at this; exact this.2.2 v hvc
    · have := h w h0
      rwa [if_neg (by rw [hw]; exact Bool.false_ne_true)] at this
theorem mwalk_spec (hk : sp.contains k = true) (h0 : S w) (h : ∀ K : Act → World → Prop, (∀ a w', MWalk P ops S VC D sp Q (k + 1) rest a w' → K a w') → ∀ n : Nat, if Region.wanted o (yielded ops a.tmps) then SpecRes P D (fun v w' => S w' ∧ K (a.put o.dst v) w') ((execOp a.eval o).run P (w.drewN n)) else K (a.put o.dst undef) w) :
    MWalk P ops S VC D sp Q k (o :: rest) a w := by
  have h := h _ (fun _ _ h => h)
  refine ⟨fun _ => ⟨fun hw n => ?_, fun hw => ?_⟩, fun e => (by rw [hk] at e; cases e)⟩
  · have := h n
    rwa [if_pos hw] at this
  · have := h 0
    rw [if_neg (by rw [hw]; exact Bool.false_ne_true)] at this
    exact ⟨h0, this⟩
theorem mwalk_nil (hq : Q a w) : MWalk P ops S VC D sp Q k [] a w := hq
/-- an append, where the new list lies told -/
theorem specRes_append {K : Value → World → Prop} {E : Prop} (hgd : o.guard = none) (s x : Operand) (t : TypeId)
    (ho : o.op = .call { callee := .builtin .append, args := #[s, x], argTypes := #[t, t] })
    (base : Nat) (e : TypeId) (i : TypeInfo) (z : Value) (size bytes : Nat) (ht : P.underlying t = some (.slice e)) (hi : P.info? e = some i) (hz : i.zero = some z)
    (hsize : i.size = size) (hby : i.bytes = bytes) (hzs : z.cells.size = size) (hsz : 0 < size)
    (v : Value) (n : Nat) (xs : List Value) (hs : a.eval s = v) (hown : w.ownsRow base e size v n xs)
    (ad : Addr) (m c : Nat) (news : List Value) (hx : a.eval x = .slice (some ad) m c) (hl : news.length = m * size) (hnews : ∀ j u, news[j]? = some u → w.cell? (ad.add j) = some u) (h1 : ∀ u ∈ news, u.oneCell' = true)
    (h63 : n + m ≤ maxLen) (hbytes : (n + m) * bytes ≤ 140737488355328) (hbase : base ≤ w.heap.size)
    (h : ∀ v' w', w'.ownsRow base e size v' (n + m) (xs ++ news) → w.grownBy w' v.ownBlock → (v'.ownBlock = v.ownBlock ∨ v'.ownBlock = some w.heap.size) → Below base w w' → K v' w') :
    if Region.wanted o (yielded ops a.tmps) = true then SpecRes P D K ((execOp a.eval o).run P w) else E := by
  have hw : Region.wanted o (yielded ops a.tmps) = true := by simp [Region.wanted, hgd]
  rw [if_pos hw]
  obtain ⟨v', w', hr, h2, h3, _, h5⟩ := run_append_own_at (P := P) w base t o.type e i z size bytes ht hi hz hsize hby hzs hsz v n xs hown ad m c news hl hnews h1 h63 hbytes hbase
  unfold execOp
  simp only [ho, resolve, invoke, builtin, Sem.run_bind, Sem.run_pure, Result.andThen_ok, List.map_toArray, List.map_cons, List.map_nil, hs, hx, hr]
  exact h v' w' h2 h3 h5 ((Below.refl _ _).grown h3 hbase (fun j hj => (hown.lt j hj).1))
end
end Go.Proofs.Ytpemhiaeiecinaa
/- Tapes that are copied by the reference. No condition. -/
namespace Go.Proofs.Ytpemhiaeiecinaa
open Go Go.RowKit
set_option linter.unusedVariables false
set_option linter.unusedSimpArgs false
theorem spec_l02OwnF (w : World) (ad : Option Addr) (cap : Nat) (xs : List Nat) (h : F32s w ad cap xs) (hc : ad = none → cap = 0) (hn : xs.length ≤ 1048576) :
    Calls Try.prog 212 #[.slice ad xs.length cap] w fun e w' => ∃ ad' cap', e = .returned (.slice ad' xs.length cap') ∧ Hid (RepF w' w.heap.size w'.heap.size ad' xs.length cap' xs) ∧ Below w.heap.size w w' := by
  refine (spec_l02Own w ad cap xs h hc hn).mono ?_
  rintro e w' ⟨v, rfl, ho, hb⟩
  obtain ⟨ad', cap', rfl, hr⟩ := RepF.of_owns ho h.lt
  exact ⟨ad', cap', rfl, Lib.hid hr, hb⟩
theorem os_snoc {w W w9 : World} {B k cap : Nat} {ad : Option Addr} {S : List OpD} {s : OpD} {v' : Value} {o : Obj} (h : OwnR opR w B w.heap.size ad k cap S) (hB : B ≤ w.heap.size) (hb : Below w.heap.size w W) (hok : s.ok) {hi1 : Nat} (hr : RepF W w.heap.size hi1 s.ad s.xs.length s.cap s.xs) (hh : hi1 ≤ W.heap.size) (hh0 : w.heap.size ≤ hi1)
    (ho : w9.ownsRow B 102 7 v' (k + 1) (S.flatMap opR.cells ++ s.cells)) (hg : (W.alloc o).grownBy w9 (Value.slice ad k cap).ownBlock) (hat : v'.ownBlock = (Value.slice ad k cap).ownBlock ∨ v'.ownBlock = some (W.heap.size + 1)) :
    ∃ ad' cap', v' = .slice ad' (k + 1) cap' ∧ OwnR opR w9 B w9.heap.size ad' (k + 1) cap' (S ++ [s]) :=
  h.snoc hB hb hok hr.ownRow hh hh0 ho hg hat
theorem os_row {w W : World} {B k cap : Nat} {ad : Option Addr} {S : List OpD} (h : OwnR opR w B w.heap.size ad k cap S) (hb : Below w.heap.size w W) : W.ownsRow B 102 7 (.slice ad k cap) k (S.flatMap opR.cells) := (h.below hb).own.head.own
theorem OwnR.nil1 {α : Type} (R : RecT α) (w : World) : OwnR R (w.alloc (.cells #[] R.e)) w.heap.size (w.alloc (.cells #[] R.e)).heap.size (some ⟨w.heap.size, 0, none⟩) 0 0 [] :=
  ⟨Own.one (Row.mk' (World.ownsRow_made _ _ _ (Nat.le_refl _) (Nat.zero_le _) (by simp))), rfl, fun a ha => (nomatch ha)⟩
/-- what a call gives that copies a list -/
def OwnF (n : Nat) (xs : List Nat) (f : FuncId) (args : Array Value) (w1 : World) (v : Value) (w2 : World) : Prop := ∃ ad cap, v = .slice ad n cap ∧ RepF w2 w1.heap.size w2.heap.size ad n cap xs ∧ Below w1.heap.size w1 w2
end Go.Proofs.Ytpemhiaeiecinaa
