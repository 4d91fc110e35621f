/- The law of the functions, walked. No condition. -/
import Derived.Test.YtaocilimggpdjaaFnc
import Derived.Test.YtaocilimggpdjaaDrl
import Derived.Test.YtaocilimggpdjaaTen
namespace Go.Proofs.Ytaocilimggpdjaa
open Go Go.RowKit Ieee
set_option linter.unusedVariables false
set_option linter.unusedSimpArgs false
structure Facts (x E F P Q L : Nat) : Prop where
  lt : x < 4294967296
  n : isN .f32 x = false
  nn : isN .f32 (ng x) = false
  nlt : ng x < 4294967296
  eE : expW (wid x) = E
  eF : expW (wid (ng x)) = F
  eP : expW (fop .mul .f64 T64 (wid x)) = P
  eQ : expW (fop .mul .f64 T64 (wid (ng x))) = Q
  eL : logW (wid (nrw E)) = L
  bE : expOkB x E = true
  bF : expOkB (ng x) F = true
  bP : tanhOkB x P = true
  bQ : tanhOkB (ng x) Q = true
  p0 : 0 < nrw E
  p1 : nrw E < 2139095040
  l0 : 874 * B64 ≤ wid (nrw E)
  l1 : wid (nrw E) < 1152 * B64
  lo : cvWide .f64 L .f32 = false
  nL : isN .f32 (nrw L) = false
  nR : isN .f32 (rootE (fop .mul .f32 x x)) = false
  nS : isN .f32 (fop .mul .f32 x x) = false
  g1 : notO .f64 (gapW (fop .mul .f64 (wid (nrw E)) (wid (nrw F))) O64) 4517329193108106637 .gt = true
  g2 : notO .f64 (gapW (wid (nrw L)) (wid x)) 4532020583610935537 .gt = true
  g3 : notO .f64 (gapW (wid (nrw (tanhR P))) (Op.negFloat .f64 (wid (nrw (tanhR Q))))) 4517329193108106637 .gt = true
  n64 : isN .f64 (Op.negFloat .f64 (wid (nrw (tanhR Q)))) = false
  x9 : notO .f32 x c9 .gt = true
  xm9 : notO .f32 x cm9 .lt = true
  t1 : notO .f32 (nrw (tanhR P)) 1065353216 .gt = true
  t2 : notO .f32 (nrw (tanhR P)) 3212836864 .lt = true
  g4 : notO .f64 (gapW (wid (rootE (fop .mul .f32 x x))) (wid (absX x))) 4532020583610935537 .gt = true
theorem facts_of {p : FRow} (hp : p ∈ tab) : Facts p.x p.E p.F p.P p.Q p.L := by
  obtain ⟨h1, h2⟩ := tab_all p hp
  simp only [rowB, okB, Bool.and_eq_true, beq_iff_eq, decide_eq_true_eq] at h1 h2
  obtain ⟨⟨⟨⟨a1, a2⟩, a3⟩, a4⟩, a5⟩ := h1
  obtain ⟨⟨⟨⟨⟨⟨⟨⟨⟨⟨⟨⟨⟨⟨⟨⟨⟨⟨⟨⟨⟨⟨b1, b2⟩, b3⟩, b4⟩, b5⟩, b6⟩, b7⟩, b8⟩, b9⟩, b10⟩, b11⟩, b12⟩, b13⟩, b14⟩, b15⟩, b16⟩, b16a⟩, b17⟩, b18⟩, b19⟩, b20⟩, b21⟩, b22⟩ := h2
  have hn : isN .f32 p.x = false := not_true b10
  have hk := kf_neg b19
  have hnn : isN .f32 (ng p.x) = false := by
    have e := (isN_iff b19).1 hn
    exact (isN_iff hk.1).2 (by rw [hk.2]; omega)
  exact ⟨b19, hn, hnn, hk.1, a1, a2, a3, a4, a5, b1, b2, b3, b4, b5, b6, b7, b8, not_true b9, not_true b11, not_true b12, not_true b13, b14, b15, b16, not_true b16a, b17, b18, b20, b21, b22⟩
theorem cnC1 : cn .f64 4517329193108106637 = 4517329193108106637 := by decide +kernel
theorem cnC2 : cn .f64 4532020583610935537 = 4532020583610935537 := by decide +kernel
theorem isN_wid (w : World) {x : Nat} (h : isN .f32 x = false) : isN .f64 (wid x) = false := by rw [← wid_exact h w]; rw [isN_wide2]; exact h
theorem cn_wid (w : World) {x : Nat} (h : isN .f32 x = false) : cn .f64 (wid x) = wid x := cn_not (isN_wid w h)
theorem keep_dr {a w w' : World} {n : Nat} (h : Below a.heap.size a w) (hd : Dr (w.drewN n) w') : Below a.heap.size a w' := by
  obtain ⟨m, rfl⟩ := hd
  exact below_drewN (below_drewN h _) _
theorem isN_nrwE {x E : Nat} (h : expOkB x E = true) : isN .f32 (nrw E) = false := by
  unfold expOkB at h; simp only [Bool.and_eq_true] at h; exact not_true h.2
theorem isN_nrwP {x P : Nat} (h : tanhOkB x P = true) : isN .f32 (nrw (tanhR P)) = false := by
  unfold tanhOkB at h; simp only [Bool.and_eq_true] at h; exact not_true h.2
theorem order_pos0 {x : Nat} (h0 : 0 < x) (h1 : x < 2139095040) : FloatKind.f32.format.order x 0 = some .gt := by
  have e : FloatKind.f32.format.order x 0 = some (compare x 0) := order_pos single (by rw [s_ir]; exact h1) (by rw [s_ir]; decide)
  rw [e, Nat.compare_eq_gt.2 h0]
theorem order_le {a b : Nat} (ha : a < 2139095040) (hb : b < 2139095040) (h : a ≤ b) : (FloatKind.f32.format.order b a == some .lt) = false ∧ (FloatKind.f32.format.order a b == some .gt) = false := by
  have e1 : FloatKind.f32.format.order b a = some (compare b a) := order_pos single (by rw [s_ir]; exact hb) (by rw [s_ir]; exact ha)
  have e2 : FloatKind.f32.format.order a b = some (compare a b) := order_pos single (by rw [s_ir]; exact ha) (by rw [s_ir]; exact hb)
  rw [e1, e2]
  rcases Nat.lt_or_eq_of_le h with h | h
  · rw [Nat.compare_eq_gt.2 h, Nat.compare_eq_lt.2 h]; exact ⟨rfl, rfl⟩
  · subst h; rw [Nat.compare_eq_eq.2 rfl]; exact ⟨rfl, rfl⟩
theorem order_kf {x y : Nat} (hx : x < 4294967296) (hy : y < 4294967296) (nx : isN .f32 x = false) (ny : isN .f32 y = false) : (FloatKind.f32.format.order x y = some .gt → kf y < kf x) ∧ (FloatKind.f32.format.order x y = some .lt → kf x < kf y) ∧ (∃ q, FloatKind.f32.format.order x y = some q) := by
  have e := order_key hx hy nx ny
  rw [e]
  refine ⟨fun h => ?_, fun h => ?_, _, rfl⟩
  · have h2 : compare (kf x) (kf y) = .gt := by simpa using h
    rw [Int.compare_eq_gt] at h2; exact h2
  · have h2 : compare (kf x) (kf y) = .lt := by simpa using h
    rw [Int.compare_eq_lt] at h2; exact h2
theorem lastE : expW (wid 0) = 4607182418800017408 ∧ expOkB 0 4607182418800017408 = true ∧ nrw 4607182418800017408 = 1065353216 := by decide +kernel
theorem lastL : logW (wid 1065353216) = 0 ∧ 874 * B64 ≤ wid 1065353216 ∧ wid 1065353216 < 1152 * B64 ∧ cvWide .f64 0 .f32 = false ∧ isN .f32 (nrw 0) = false ∧ nrw 0 = 0 := by decide +kernel
theorem lastR : rootE 1082130432 = 1073741824 ∧ isN .f32 1082130432 = false ∧ isN .f32 1073741824 = false := by decide +kernel
set_option maxHeartbeats 16000000 in
set_option maxRecDepth 100000 in
theorem fnFunctions_walk (w : World) (a0 : Option Addr) (c0 : Nat) (l0 : List Int) (A0 : Ints .u8 w a0 c0 l0) (a1 : Option Addr) (c1 : Nat) (l1 : List Int) (A1 : Ints .u8 w a1 c1 l1) :
    Calls Try.prog 6 #[.slice a0 l0.length c0, .slice a1 l1.length c1] w fun e w' => e = .returned (.bool true) ∧ Below w.heap.size w w' := by
  by_cases hlong : l0.length ≤ 1048576 ∧ l1.length ≤ 1048576
  rotate_left
  · go_enter Try.func6, Try.ntmps6
    go_wp2_with fail
    refine (b10Long_yes _ _ _ _ _ _ _ hlong).mono ?_
    rintro e w1 ⟨rfl, rfl⟩
    go_wp2
    go_ret
    exact ⟨rfl, Below.refl _ _⟩
  obtain ⟨hl0, hl1⟩ := hlong
  have AA0 := Lib.hid A0; have AA1 := Lib.hid A1
  clear A0 A1
  go_enter Try.func6, Try.ntmps6
  go_wp2_with fail
  refine (b10Long_no _ _ _ _ _ _ _ hl0 hl1).mono ?_
  rintro e w1 ⟨rfl, rfl⟩
  clear hl0 hl1
  go_wp2_with fail
  refine (b10_plain _ _ _ _ AA0.out).mono ?_
  rintro e w1 ⟨x0, rfl, hpl, hb⟩
  obtain ⟨p, hp, hpx⟩ := tab_has hpl.out
  have fs := facts_of hp
  obtain ⟨x, hx⟩ : ∃ x, x = p.x := ⟨_, rfl⟩
  obtain ⟨Ev, hE⟩ : ∃ x, x = p.E := ⟨_, rfl⟩
  obtain ⟨Fv, hF⟩ : ∃ x, x = p.F := ⟨_, rfl⟩
  obtain ⟨Pv, hP⟩ : ∃ x, x = p.P := ⟨_, rfl⟩
  obtain ⟨Qv, hQ⟩ : ∃ x, x = p.Q := ⟨_, rfl⟩
  obtain ⟨Lv, hL⟩ : ∃ x, x = p.L := ⟨_, rfl⟩
  have MO := Lib.hid (fun (q : FRow) (hq : q ∈ tab) => And.intro (tab_mono hp hq) (tab_mono hq hp))
  rw [← hx, ← hE] at MO
  rw [← hx, ← hE, ← hF, ← hP, ← hQ, ← hL] at fs
  rw [← hx] at hpx
  have FS := Lib.hid fs
  have HD := Lib.hid hb
  have s1 := notO_b fs.x9; have s2 := notO_b fs.xm9
  unfold c9 at s1; unfold cm9 at s2
  -- the first number
  have hq0 : big9 x0 = true → ∀ w, fbits .quo .f32 x0 1082130432 w = x := by
    intro h w
    unfold adjW at hpx
    rw [if_pos h] at hpx
    rw [fbits_some (some_fop (by rw [← hpx]; exact fs.n)) w, ← hpx]
  have hx0 : big9 x0 = false → x0 = x := by
    intro h
    unfold adjW at hpx
    rw [if_neg (by rw [h]; decide)] at hpx
    exact hpx.symm
  have HQ0 := Lib.hid hq0; have HX0 := Lib.hid hx0
  clear hq0 hx0 hpx hx hE hF hP hQ hL fs hb hpl hp AA0
  -- what the calls return
  have kE := fun W => fn_exp FS.out.lt FS.out.n FS.out.eE FS.out.bE W
  have kF := fun W => fn_exp FS.out.nlt FS.out.nn FS.out.eF FS.out.bF W
  have kP := fun W => fn_tanh FS.out.n FS.out.eP FS.out.bP W
  have kQ := fun W => fn_tanh FS.out.nn FS.out.eQ FS.out.bQ W
  have kL := fun W => fn_log FS.out.p0 FS.out.p1 FS.out.eL FS.out.l0 FS.out.l1 FS.out.lo FS.out.nL W
  have hS2 := fun w => fbits_some (some_fop FS.out.nS) w
  have kR := fun W => fn_root (by have h := fbits_lt .mul .f32 x x W; rw [fbits_some (some_fop FS.out.nS)] at h; exact h) FS.out.nS FS.out.nR W
  obtain ⟨ev, he⟩ : ∃ v, v = nrw Ev := ⟨_, rfl⟩
  obtain ⟨fv, hf⟩ : ∃ v, v = nrw Fv := ⟨_, rfl⟩
  obtain ⟨lv, hl⟩ : ∃ v, v = nrw Lv := ⟨_, rfl⟩
  obtain ⟨tv, ht⟩ : ∃ v, v = nrw (tanhR Pv) := ⟨_, rfl⟩
  obtain ⟨uv, hu⟩ : ∃ v, v = nrw (tanhR Qv) := ⟨_, rfl⟩
  obtain ⟨sv, hs⟩ : ∃ v, v = fop .mul .f32 x x := ⟨_, rfl⟩
  obtain ⟨rv, hr⟩ : ∃ v, v = rootE sv := ⟨_, rfl⟩
  rw [← he] at kE kL MO
  rw [← hf] at kF
  rw [← hl] at kL
  rw [← ht] at kP
  rw [← hu] at kQ
  rw [← hs] at kR hS2
  rw [← hr] at kR
  have we := fun w => wid_exact (x := ev) (by rw [he]; exact isN_nrwE FS.out.bE) w
  have wf := fun w => wid_exact (x := fv) (by rw [hf]; exact isN_nrwE FS.out.bF) w
  have wl := fun w => wid_exact (x := lv) (by rw [hl]; exact FS.out.nL) w
  have wx := fun w => wid_exact (x := x) FS.out.n w
  have wt := fun w => wid_exact (x := tv) (by rw [ht]; exact isN_nrwP FS.out.bP) w
  have wu := fun w => wid_exact (x := uv) (by rw [hu]; exact isN_nrwP FS.out.bQ) w
  have wr := fun w => wid_exact (x := rv) (by rw [hr, hs]; exact FS.out.nR) w
  have eP0 : 0 < ev ∧ ev < 2139095040 := by rw [he]; exact ⟨FS.out.p0, FS.out.p1⟩
  have oe := order_pos0 eP0.1 eP0.2
  have ot1 := notO_b FS.out.t1; have ot2 := notO_b FS.out.t2
  rw [← ht] at ot1 ot2
  have G1 := Lib.hid (fun r (h : cn .f64 r = gapW (cn .f64 (fop .mul .f64 (wid ev) (wid fv))) (cn .f64 O64)) => gap_b (r := r) (by rw [h, cn_fop, cn_O64, he, hf]) cnC1 FS.out.g1)
  have G2 := Lib.hid (fun r (h : cn .f64 r = gapW (cn .f64 (wid lv)) (cn .f64 (wid x))) => gap_b (r := r) (by rw [h, cn_wid w (by rw [hl]; exact FS.out.nL), cn_wid w FS.out.n, hl]) cnC2 FS.out.g2)
  have G3 := Lib.hid (fun r (h : cn .f64 r = gapW (cn .f64 (wid tv)) (cn .f64 (Op.negFloat .f64 (wid uv)))) => gap_b (r := r) (by rw [h, cn_wid w (by rw [ht]; exact isN_nrwP FS.out.bP), cn_not (k := .f64) (x := Op.negFloat .f64 (wid uv)) (by rw [hu]; exact FS.out.n64), ht, hu]) cnC1 FS.out.g3)
  have nabs : isN .f32 (absX x) = false := by unfold absX; split; exact FS.out.nn; exact FS.out.n
  have G4 := Lib.hid (fun r (h : cn .f64 r = gapW (cn .f64 (wid rv)) (cn .f64 (wid (absX x)))) => gap_b (r := r) (by rw [h, cn_wid w (by rw [hr, hs]; exact FS.out.nR), cn_wid w nabs, hr, hs]) cnC2 FS.out.g4)
  have wa := fun w => wid_exact nabs w
  have sM : ∀ w, fbits .mul .f64 (wid ev) (wid fv) w = fop .mul .f64 (wid ev) (wid fv) ∨ True := fun _ => .inr trivial
  have abs1 : FloatKind.f32.format.order x 0 = some .lt → absX x = ng x := fun h => by unfold absX; rw [if_pos h]
  have abs2 : FloatKind.f32.format.order x 0 ≠ some .lt → absX x = x := fun h => by unfold absX; rw [if_neg h]
  have GM := Lib.hid (fun (w : World) => show cn .f64 (fbits .mul .f64 (wid ev) (wid fv) w) = cn .f64 (fop .mul .f64 (wid ev) (wid fv)) by rw [cn_fbits, cn_fop, fop_cn])
  obtain ⟨ax, hax⟩ : ∃ v, v = absX x := ⟨_, rfl⟩
  rw [← hax] at G4 wa abs1 abs2
  obtain ⟨We, hWe⟩ : ∃ v, v = wid ev := ⟨_, rfl⟩
  obtain ⟨Wf, hWf⟩ : ∃ v, v = wid fv := ⟨_, rfl⟩
  obtain ⟨Wl, hWl⟩ : ∃ v, v = wid lv := ⟨_, rfl⟩
  obtain ⟨Wx, hWx⟩ : ∃ v, v = wid x := ⟨_, rfl⟩
  obtain ⟨Wt, hWt⟩ : ∃ v, v = wid tv := ⟨_, rfl⟩
  obtain ⟨Wu, hWu⟩ : ∃ v, v = wid uv := ⟨_, rfl⟩
  obtain ⟨Wr, hWr⟩ : ∃ v, v = wid rv := ⟨_, rfl⟩
  obtain ⟨Wa, hWa⟩ : ∃ v, v = wid ax := ⟨_, rfl⟩
  rw [← hWe] at we G1 GM
  rw [← hWf] at wf G1 GM
  rw [← hWl] at wl G2
  rw [← hWx] at wx G2
  rw [← hWt] at wt G3
  rw [← hWu] at wu G3
  rw [← hWr] at wr G4
  rw [← hWa] at wa G4
  have KE := Lib.hid kE; have KF := Lib.hid kF; have KP := Lib.hid kP; have KQ := Lib.hid kQ; have KL := Lib.hid kL; have KR := Lib.hid kR
  have AB1 := Lib.hid abs1; have AB2 := Lib.hid abs2
  have XN := Lib.hid FS.out.n; have XL := Lib.hid FS.out.lt
  have EP := Lib.hid eP0
  unfold ng at AB1 KF KQ
  clear kE kF kP kQ kL kR hax hWe hWf hWl hWx hWt hWu hWr hWa he hf hl ht hu hs hr sM abs1 abs2 nabs FS eP0

  by_cases k1 : FloatKind.f32.format.order x0 1091567616 = some .gt
  · have hbig : big9 x0 = true := by unfold big9 c9; rw [k1]; rfl
    have hq := HQ0.out hbig
    clear HQ0 HX0 hbig
    go_wp2_with fail
    refine (KE.out _).mono ?_
    rintro e w2 ⟨rfl, hd⟩
    have HD := Lib.hid (by first | exact bthen HD.out hd.below | exact keep_dr HD.out hd)
    clear hd
    clear KE
    go_wp2_with fail
    refine (KF.out _).mono ?_
    rintro e w3 ⟨rfl, hd⟩
    have HD := Lib.hid (by first | exact bthen HD.out hd.below | exact keep_dr HD.out hd)
    clear hd
    clear KF
    go_wp2_with fail
    refine (KL.out _).mono ?_
    rintro e w4 ⟨rfl, hd⟩
    have HD := Lib.hid (by first | exact bthen HD.out hd.below | exact keep_dr HD.out hd)
    clear hd
    clear KL
    go_wp2_with fail
    refine (KR.out _).mono ?_
    rintro e w5 ⟨rfl, hd⟩
    have HD := Lib.hid (by first | exact bthen HD.out hd.below | exact keep_dr HD.out hd)
    clear hd
    clear KR
    go_wp2_with fail
    refine (KP.out _).mono ?_
    rintro e w6 ⟨rfl, hd⟩
    have HD := Lib.hid (by first | exact bthen HD.out hd.below | exact keep_dr HD.out hd)
    clear hd
    clear KP
    go_wp2_with fail
    refine (KQ.out _).mono ?_
    rintro e w7 ⟨rfl, hd⟩
    have HD := Lib.hid (by first | exact bthen HD.out hd.below | exact keep_dr HD.out hd)
    clear hd
    clear KQ
    go_wp2_with fail
    refine (b10_gap _ _ _).mono ?_
    rintro e w8 ⟨r1, rfl, hr, hd⟩
    have q1 := G1.out _ (by rw [hr.out, GM.out]; rfl)
    have HD := Lib.hid (by first | exact bthen HD.out hd.below | exact keep_dr HD.out hd)
    clear hd hr
    clear G1 GM we wf
    go_wp2_with fail
    refine (b10_gap _ _ _).mono ?_
    rintro e w9 ⟨r2, rfl, hr, hd⟩
    have q2 := G2.out _ hr.out
    have HD := Lib.hid (by first | exact bthen HD.out hd.below | exact keep_dr HD.out hd)
    clear hd hr
    clear G2 wl wx
    go_wp2_with fail
    refine (b10_gap _ _ _).mono ?_
    rintro e w10 ⟨r3, rfl, hr, hd⟩
    have q3 := G3.out _ hr.out
    have HD := Lib.hid (by first | exact bthen HD.out hd.below | exact keep_dr HD.out hd)
    clear hd hr
    clear G3 wt wu
    by_cases hneg : FloatKind.f32.format.order x 0 = some .lt
    · rw [AB1.out hneg] at wa
      clear AB1 AB2
      go_wp2_with fail
      refine (b10_gap _ _ _).mono ?_
      rintro e w11 ⟨r4, rfl, hr, hd⟩
      have q4 := G4.out _ hr.out
      have HD := Lib.hid (by first | exact bthen HD.out hd.below | exact keep_dr HD.out hd)
      clear hd hr
      clear G4 wa wr
      go_wp2_with fail
      refine (b10_plain _ _ _ _ (AA1.out.below (by first | exact HD.out | exact below_drewN HD.out _))).mono ?_
      rintro e w13 ⟨y, rfl, hpl, hb⟩
      have HD := Lib.hid (by first | exact bthen HD.out hb | exact bthen (below_drewN HD.out _) hb)
      clear hb AA1
      by_cases z1 : FloatKind.f32.format.order y 1091567616 = some .gt
      · go_wp2
        go_ret
        exact ⟨rfl, by first | exact HD.out | exact below_drewN HD.out _⟩
      have z1b : (FloatKind.f32.format.order y 1091567616 == some .gt) = false := by simpa using z1
      by_cases z2 : FloatKind.f32.format.order y 3239051264 = some .lt
      · go_wp2
        go_ret
        exact ⟨rfl, by first | exact HD.out | exact below_drewN HD.out _⟩
      have z2b : (FloatKind.f32.format.order y 3239051264 == some .lt) = false := by simpa using z2
      obtain ⟨p2, hp2, hpx2⟩ := tab_has hpl.out
      have hbig : big9 y = false := by unfold big9 c9 cm9; rw [z1b, z2b]; rfl
      unfold adjW at hpx2
      rw [if_neg (by rw [hbig]; decide)] at hpx2
      have f2 := facts_of hp2
      have m2 := MO.out p2 hp2
      rw [hpx2] at f2 m2
      have kY := fun W => fn_exp f2.lt f2.n f2.eE f2.bE W
      have ep2 : 0 < nrw p2.E ∧ nrw p2.E < 2139095040 := ⟨f2.p0, f2.p1⟩
      have oy := order_kf f2.lt XL.out f2.n XN.out
      obtain ⟨yv, hyv⟩ : ∃ v, v = nrw p2.E := ⟨_, rfl⟩
      rw [← hyv] at kY ep2 m2
      have KY := Lib.hid kY
      clear kY hyv hpx2 hp2 f2 hbig hpl z1 z2 MO
      obtain ⟨o, ho⟩ := oy.2.2
      cases o
      case lt =>
        have ov := (order_le ep2.2 EP.out.2 (m2.2 (oy.2.1 ho))).2
        clear m2 oy ep2
        go_wp2_with fail
        refine (KY.out _).mono ?_
        rintro e w14 ⟨rfl, hd⟩
        have HD := Lib.hid (by first | exact bthen HD.out hd.below | exact keep_dr HD.out hd)
        clear hd
        clear KY
        go_wp2_with fail
        refine (fn_exp (by decide) (by decide +kernel) lastE.1 lastE.2.1 _).mono ?_
        rw [lastE.2.2]
        rintro e w16 ⟨rfl, hd⟩
        have HD := Lib.hid (by first | exact bthen HD.out hd.below | exact keep_dr HD.out hd)
        clear hd
        have o11 : FloatKind.f32.format.order 1065353216 1065353216 = some .eq := by decide +kernel
        go_wp2_with fail
        refine (fn_log (by decide) (by decide) lastL.1 lastL.2.1 lastL.2.2.1 lastL.2.2.2.1 lastL.2.2.2.2.1 _).mono ?_
        rw [lastL.2.2.2.2.2]
        rintro e w17 ⟨rfl, hd⟩
        have HD := Lib.hid (by first | exact bthen HD.out hd.below | exact keep_dr HD.out hd)
        clear hd
        have o12 : FloatKind.f32.format.order 0 0 = some .eq := by decide +kernel
        go_wp2_with fail
        refine (fn_root (by decide) lastR.2.1 (by rw [lastR.1]; exact lastR.2.2) _).mono ?_
        rw [lastR.1]
        rintro e w18 ⟨rfl, hd⟩
        have HD := Lib.hid (by first | exact bthen HD.out hd.below | exact keep_dr HD.out hd)
        clear hd
        have o13 : FloatKind.f32.format.order 1073741824 1073741824 = some .eq := by decide +kernel
        go_wp2
        go_ret
        exact ⟨rfl, by first | exact HD.out | exact below_drewN HD.out _⟩
      case gt =>
        have ov := (order_le EP.out.2 ep2.2 (m2.1 (oy.1 ho))).1
        clear m2 oy ep2
        go_wp2_with fail
        refine (KY.out _).mono ?_
        rintro e w14 ⟨rfl, hd⟩
        have HD := Lib.hid (by first | exact bthen HD.out hd.below | exact keep_dr HD.out hd)
        clear hd
        clear KY
        go_wp2_with fail
        refine (fn_exp (by decide) (by decide +kernel) lastE.1 lastE.2.1 _).mono ?_
        rw [lastE.2.2]
        rintro e w16 ⟨rfl, hd⟩
        have HD := Lib.hid (by first | exact bthen HD.out hd.below | exact keep_dr HD.out hd)
        clear hd
        have o11 : FloatKind.f32.format.order 1065353216 1065353216 = some .eq := by decide +kernel
        go_wp2_with fail
        refine (fn_log (by decide) (by decide) lastL.1 lastL.2.1 lastL.2.2.1 lastL.2.2.2.1 lastL.2.2.2.2.1 _).mono ?_
        rw [lastL.2.2.2.2.2]
        rintro e w17 ⟨rfl, hd⟩
        have HD := Lib.hid (by first | exact bthen HD.out hd.below | exact keep_dr HD.out hd)
        clear hd
        have o12 : FloatKind.f32.format.order 0 0 = some .eq := by decide +kernel
        go_wp2_with fail
        refine (fn_root (by decide) lastR.2.1 (by rw [lastR.1]; exact lastR.2.2) _).mono ?_
        rw [lastR.1]
        rintro e w18 ⟨rfl, hd⟩
        have HD := Lib.hid (by first | exact bthen HD.out hd.below | exact keep_dr HD.out hd)
        clear hd
        have o13 : FloatKind.f32.format.order 1073741824 1073741824 = some .eq := by decide +kernel
        go_wp2
        go_ret
        exact ⟨rfl, by first | exact HD.out | exact below_drewN HD.out _⟩
      case eq =>
        clear m2 oy ep2
        go_wp2_with fail
        refine (fn_exp (by decide) (by decide +kernel) lastE.1 lastE.2.1 _).mono ?_
        rw [lastE.2.2]
        rintro e w16 ⟨rfl, hd⟩
        have HD := Lib.hid (by first | exact bthen HD.out hd.below | exact keep_dr HD.out hd)
        clear hd
        have o11 : FloatKind.f32.format.order 1065353216 1065353216 = some .eq := by decide +kernel
        go_wp2_with fail
        refine (fn_log (by decide) (by decide) lastL.1 lastL.2.1 lastL.2.2.1 lastL.2.2.2.1 lastL.2.2.2.2.1 _).mono ?_
        rw [lastL.2.2.2.2.2]
        rintro e w17 ⟨rfl, hd⟩
        have HD := Lib.hid (by first | exact bthen HD.out hd.below | exact keep_dr HD.out hd)
        clear hd
        have o12 : FloatKind.f32.format.order 0 0 = some .eq := by decide +kernel
        go_wp2_with fail
        refine (fn_root (by decide) lastR.2.1 (by rw [lastR.1]; exact lastR.2.2) _).mono ?_
        rw [lastR.1]
        rintro e w18 ⟨rfl, hd⟩
        have HD := Lib.hid (by first | exact bthen HD.out hd.below | exact keep_dr HD.out hd)
        clear hd
        have o13 : FloatKind.f32.format.order 1073741824 1073741824 = some .eq := by decide +kernel
        go_wp2
        go_ret
        exact ⟨rfl, by first | exact HD.out | exact below_drewN HD.out _⟩
    · have hnb : (FloatKind.f32.format.order x 0 == some .lt) = false := by simpa using hneg
      rw [AB2.out hneg] at wa
      clear AB1 AB2 hneg
      go_wp2_with fail
      refine (b10_gap _ _ _).mono ?_
      rintro e w11 ⟨r4, rfl, hr, hd⟩
      have q4 := G4.out _ hr.out
      have HD := Lib.hid (by first | exact bthen HD.out hd.below | exact keep_dr HD.out hd)
      clear hd hr
      clear G4 wa wr
      go_wp2_with fail
      refine (b10_plain _ _ _ _ (AA1.out.below (by first | exact HD.out | exact below_drewN HD.out _))).mono ?_
      rintro e w13 ⟨y, rfl, hpl, hb⟩
      have HD := Lib.hid (by first | exact bthen HD.out hb | exact bthen (below_drewN HD.out _) hb)
      clear hb AA1
      by_cases z1 : FloatKind.f32.format.order y 1091567616 = some .gt
      · go_wp2
        go_ret
        exact ⟨rfl, by first | exact HD.out | exact below_drewN HD.out _⟩
      have z1b : (FloatKind.f32.format.order y 1091567616 == some .gt) = false := by simpa using z1
      by_cases z2 : FloatKind.f32.format.order y 3239051264 = some .lt
      · go_wp2
        go_ret
        exact ⟨rfl, by first | exact HD.out | exact below_drewN HD.out _⟩
      have z2b : (FloatKind.f32.format.order y 3239051264 == some .lt) = false := by simpa using z2
      obtain ⟨p2, hp2, hpx2⟩ := tab_has hpl.out
      have hbig : big9 y = false := by unfold big9 c9 cm9; rw [z1b, z2b]; rfl
      unfold adjW at hpx2
      rw [if_neg (by rw [hbig]; decide)] at hpx2
      have f2 := facts_of hp2
      have m2 := MO.out p2 hp2
      rw [hpx2] at f2 m2
      have kY := fun W => fn_exp f2.lt f2.n f2.eE f2.bE W
      have ep2 : 0 < nrw p2.E ∧ nrw p2.E < 2139095040 := ⟨f2.p0, f2.p1⟩
      have oy := order_kf f2.lt XL.out f2.n XN.out
      obtain ⟨yv, hyv⟩ : ∃ v, v = nrw p2.E := ⟨_, rfl⟩
      rw [← hyv] at kY ep2 m2
      have KY := Lib.hid kY
      clear kY hyv hpx2 hp2 f2 hbig hpl z1 z2 MO
      obtain ⟨o, ho⟩ := oy.2.2
      cases o
      case lt =>
        have ov := (order_le ep2.2 EP.out.2 (m2.2 (oy.2.1 ho))).2
        clear m2 oy ep2
        go_wp2_with fail
        refine (KY.out _).mono ?_
        rintro e w14 ⟨rfl, hd⟩
        have HD := Lib.hid (by first | exact bthen HD.out hd.below | exact keep_dr HD.out hd)
        clear hd
        clear KY
        go_wp2_with fail
        refine (fn_exp (by decide) (by decide +kernel) lastE.1 lastE.2.1 _).mono ?_
        rw [lastE.2.2]
        rintro e w16 ⟨rfl, hd⟩
        have HD := Lib.hid (by first | exact bthen HD.out hd.below | exact keep_dr HD.out hd)
        clear hd
        have o11 : FloatKind.f32.format.order 1065353216 1065353216 = some .eq := by decide +kernel
        go_wp2_with fail
        refine (fn_log (by decide) (by decide) lastL.1 lastL.2.1 lastL.2.2.1 lastL.2.2.2.1 lastL.2.2.2.2.1 _).mono ?_
        rw [lastL.2.2.2.2.2]
        rintro e w17 ⟨rfl, hd⟩
        have HD := Lib.hid (by first | exact bthen HD.out hd.below | exact keep_dr HD.out hd)
        clear hd
        have o12 : FloatKind.f32.format.order 0 0 = some .eq := by decide +kernel
        go_wp2_with fail
        refine (fn_root (by decide) lastR.2.1 (by rw [lastR.1]; exact lastR.2.2) _).mono ?_
        rw [lastR.1]
        rintro e w18 ⟨rfl, hd⟩
        have HD := Lib.hid (by first | exact bthen HD.out hd.below | exact keep_dr HD.out hd)
        clear hd
        have o13 : FloatKind.f32.format.order 1073741824 1073741824 = some .eq := by decide +kernel
        go_wp2
        go_ret
        exact ⟨rfl, by first | exact HD.out | exact below_drewN HD.out _⟩
      case gt =>
        have ov := (order_le EP.out.2 ep2.2 (m2.1 (oy.1 ho))).1
        clear m2 oy ep2
        go_wp2_with fail
        refine (KY.out _).mono ?_
        rintro e w14 ⟨rfl, hd⟩
        have HD := Lib.hid (by first | exact bthen HD.out hd.below | exact keep_dr HD.out hd)
        clear hd
        clear KY
        go_wp2_with fail
        refine (fn_exp (by decide) (by decide +kernel) lastE.1 lastE.2.1 _).mono ?_
        rw [lastE.2.2]
        rintro e w16 ⟨rfl, hd⟩
        have HD := Lib.hid (by first | exact bthen HD.out hd.below | exact keep_dr HD.out hd)
        clear hd
        have o11 : FloatKind.f32.format.order 1065353216 1065353216 = some .eq := by decide +kernel
        go_wp2_with fail
        refine (fn_log (by decide) (by decide) lastL.1 lastL.2.1 lastL.2.2.1 lastL.2.2.2.1 lastL.2.2.2.2.1 _).mono ?_
        rw [lastL.2.2.2.2.2]
        rintro e w17 ⟨rfl, hd⟩
        have HD := Lib.hid (by first | exact bthen HD.out hd.below | exact keep_dr HD.out hd)
        clear hd
        have o12 : FloatKind.f32.format.order 0 0 = some .eq := by decide +kernel
        go_wp2_with fail
        refine (fn_root (by decide) lastR.2.1 (by rw [lastR.1]; exact lastR.2.2) _).mono ?_
        rw [lastR.1]
        rintro e w18 ⟨rfl, hd⟩
        have HD := Lib.hid (by first | exact bthen HD.out hd.below | exact keep_dr HD.out hd)
        clear hd
        have o13 : FloatKind.f32.format.order 1073741824 1073741824 = some .eq := by decide +kernel
        go_wp2
        go_ret
        exact ⟨rfl, by first | exact HD.out | exact below_drewN HD.out _⟩
      case eq =>
        clear m2 oy ep2
        go_wp2_with fail
        refine (fn_exp (by decide) (by decide +kernel) lastE.1 lastE.2.1 _).mono ?_
        rw [lastE.2.2]
        rintro e w16 ⟨rfl, hd⟩
        have HD := Lib.hid (by first | exact bthen HD.out hd.below | exact keep_dr HD.out hd)
        clear hd
        have o11 : FloatKind.f32.format.order 1065353216 1065353216 = some .eq := by decide +kernel
        go_wp2_with fail
        refine (fn_log (by decide) (by decide) lastL.1 lastL.2.1 lastL.2.2.1 lastL.2.2.2.1 lastL.2.2.2.2.1 _).mono ?_
        rw [lastL.2.2.2.2.2]
        rintro e w17 ⟨rfl, hd⟩
        have HD := Lib.hid (by first | exact bthen HD.out hd.below | exact keep_dr HD.out hd)
        clear hd
        have o12 : FloatKind.f32.format.order 0 0 = some .eq := by decide +kernel
        go_wp2_with fail
        refine (fn_root (by decide) lastR.2.1 (by rw [lastR.1]; exact lastR.2.2) _).mono ?_
        rw [lastR.1]
        rintro e w18 ⟨rfl, hd⟩
        have HD := Lib.hid (by first | exact bthen HD.out hd.below | exact keep_dr HD.out hd)
        clear hd
        have o13 : FloatKind.f32.format.order 1073741824 1073741824 = some .eq := by decide +kernel
        go_wp2
        go_ret
        exact ⟨rfl, by first | exact HD.out | exact below_drewN HD.out _⟩
  have k1b : (FloatKind.f32.format.order x0 1091567616 == some .gt) = false := by simpa using k1
  by_cases k2 : FloatKind.f32.format.order x0 3239051264 = some .lt
  · have hbig : big9 x0 = true := by unfold big9 c9 cm9; rw [k1b, k2]; rfl
    have hq := HQ0.out hbig
    clear HQ0 HX0 hbig k1
    go_wp2_with fail
    refine (KE.out _).mono ?_
    rintro e w2 ⟨rfl, hd⟩
    have HD := Lib.hid (by first | exact bthen HD.out hd.below | exact keep_dr HD.out hd)
    clear hd
    clear KE
    go_wp2_with fail
    refine (KF.out _).mono ?_
    rintro e w3 ⟨rfl, hd⟩
    have HD := Lib.hid (by first | exact bthen HD.out hd.below | exact keep_dr HD.out hd)
    clear hd
    clear KF
    go_wp2_with fail
    refine (KL.out _).mono ?_
    rintro e w4 ⟨rfl, hd⟩
    have HD := Lib.hid (by first | exact bthen HD.out hd.below | exact keep_dr HD.out hd)
    clear hd
    clear KL
    go_wp2_with fail
    refine (KR.out _).mono ?_
    rintro e w5 ⟨rfl, hd⟩
    have HD := Lib.hid (by first | exact bthen HD.out hd.below | exact keep_dr HD.out hd)
    clear hd
    clear KR
    go_wp2_with fail
    refine (KP.out _).mono ?_
    rintro e w6 ⟨rfl, hd⟩
    have HD := Lib.hid (by first | exact bthen HD.out hd.below | exact keep_dr HD.out hd)
    clear hd
    clear KP
    go_wp2_with fail
    refine (KQ.out _).mono ?_
    rintro e w7 ⟨rfl, hd⟩
    have HD := Lib.hid (by first | exact bthen HD.out hd.below | exact keep_dr HD.out hd)
    clear hd
    clear KQ
    go_wp2_with fail
    refine (b10_gap _ _ _).mono ?_
    rintro e w8 ⟨r1, rfl, hr, hd⟩
    have q1 := G1.out _ (by rw [hr.out, GM.out]; rfl)
    have HD := Lib.hid (by first | exact bthen HD.out hd.below | exact keep_dr HD.out hd)
    clear hd hr
    clear G1 GM we wf
    go_wp2_with fail
    refine (b10_gap _ _ _).mono ?_
    rintro e w9 ⟨r2, rfl, hr, hd⟩
    have q2 := G2.out _ hr.out
    have HD := Lib.hid (by first | exact bthen HD.out hd.below | exact keep_dr HD.out hd)
    clear hd hr
    clear G2 wl wx
    go_wp2_with fail
    refine (b10_gap _ _ _).mono ?_
    rintro e w10 ⟨r3, rfl, hr, hd⟩
    have q3 := G3.out _ hr.out
    have HD := Lib.hid (by first | exact bthen HD.out hd.below | exact keep_dr HD.out hd)
    clear hd hr
    clear G3 wt wu
    by_cases hneg : FloatKind.f32.format.order x 0 = some .lt
    · rw [AB1.out hneg] at wa
      clear AB1 AB2
      go_wp2_with fail
      refine (b10_gap _ _ _).mono ?_
      rintro e w11 ⟨r4, rfl, hr, hd⟩
      have q4 := G4.out _ hr.out
      have HD := Lib.hid (by first | exact bthen HD.out hd.below | exact keep_dr HD.out hd)
      clear hd hr
      clear G4 wa wr
      go_wp2_with fail
      refine (b10_plain _ _ _ _ (AA1.out.below (by first | exact HD.out | exact below_drewN HD.out _))).mono ?_
      rintro e w13 ⟨y, rfl, hpl, hb⟩
      have HD := Lib.hid (by first | exact bthen HD.out hb | exact bthen (below_drewN HD.out _) hb)
      clear hb AA1
      by_cases z1 : FloatKind.f32.format.order y 1091567616 = some .gt
      · go_wp2
        go_ret
        exact ⟨rfl, by first | exact HD.out | exact below_drewN HD.out _⟩
      have z1b : (FloatKind.f32.format.order y 1091567616 == some .gt) = false := by simpa using z1
      by_cases z2 : FloatKind.f32.format.order y 3239051264 = some .lt
      · go_wp2
        go_ret
        exact ⟨rfl, by first | exact HD.out | exact below_drewN HD.out _⟩
      have z2b : (FloatKind.f32.format.order y 3239051264 == some .lt) = false := by simpa using z2
      obtain ⟨p2, hp2, hpx2⟩ := tab_has hpl.out
      have hbig : big9 y = false := by unfold big9 c9 cm9; rw [z1b, z2b]; rfl
      unfold adjW at hpx2
      rw [if_neg (by rw [hbig]; decide)] at hpx2
      have f2 := facts_of hp2
      have m2 := MO.out p2 hp2
      rw [hpx2] at f2 m2
      have kY := fun W => fn_exp f2.lt f2.n f2.eE f2.bE W
      have ep2 : 0 < nrw p2.E ∧ nrw p2.E < 2139095040 := ⟨f2.p0, f2.p1⟩
      have oy := order_kf f2.lt XL.out f2.n XN.out
      obtain ⟨yv, hyv⟩ : ∃ v, v = nrw p2.E := ⟨_, rfl⟩
      rw [← hyv] at kY ep2 m2
      have KY := Lib.hid kY
      clear kY hyv hpx2 hp2 f2 hbig hpl z1 z2 MO
      obtain ⟨o, ho⟩ := oy.2.2
      cases o
      case lt =>
        have ov := (order_le ep2.2 EP.out.2 (m2.2 (oy.2.1 ho))).2
        clear m2 oy ep2
        go_wp2_with fail
        refine (KY.out _).mono ?_
        rintro e w14 ⟨rfl, hd⟩
        have HD := Lib.hid (by first | exact bthen HD.out hd.below | exact keep_dr HD.out hd)
        clear hd
        clear KY
        go_wp2_with fail
        refine (fn_exp (by decide) (by decide +kernel) lastE.1 lastE.2.1 _).mono ?_
        rw [lastE.2.2]
        rintro e w16 ⟨rfl, hd⟩
        have HD := Lib.hid (by first | exact bthen HD.out hd.below | exact keep_dr HD.out hd)
        clear hd
        have o11 : FloatKind.f32.format.order 1065353216 1065353216 = some .eq := by decide +kernel
        go_wp2_with fail
        refine (fn_log (by decide) (by decide) lastL.1 lastL.2.1 lastL.2.2.1 lastL.2.2.2.1 lastL.2.2.2.2.1 _).mono ?_
        rw [lastL.2.2.2.2.2]
        rintro e w17 ⟨rfl, hd⟩
        have HD := Lib.hid (by first | exact bthen HD.out hd.below | exact keep_dr HD.out hd)
        clear hd
        have o12 : FloatKind.f32.format.order 0 0 = some .eq := by decide +kernel
        go_wp2_with fail
        refine (fn_root (by decide) lastR.2.1 (by rw [lastR.1]; exact lastR.2.2) _).mono ?_
        rw [lastR.1]
        rintro e w18 ⟨rfl, hd⟩
        have HD := Lib.hid (by first | exact bthen HD.out hd.below | exact keep_dr HD.out hd)
        clear hd
        have o13 : FloatKind.f32.format.order 1073741824 1073741824 = some .eq := by decide +kernel
        go_wp2
        go_ret
        exact ⟨rfl, by first | exact HD.out | exact below_drewN HD.out _⟩
      case gt =>
        have ov := (order_le EP.out.2 ep2.2 (m2.1 (oy.1 ho))).1
        clear m2 oy ep2
        go_wp2_with fail
        refine (KY.out _).mono ?_
        rintro e w14 ⟨rfl, hd⟩
        have HD := Lib.hid (by first | exact bthen HD.out hd.below | exact keep_dr HD.out hd)
        clear hd
        clear KY
        go_wp2_with fail
        refine (fn_exp (by decide) (by decide +kernel) lastE.1 lastE.2.1 _).mono ?_
        rw [lastE.2.2]
        rintro e w16 ⟨rfl, hd⟩
        have HD := Lib.hid (by first | exact bthen HD.out hd.below | exact keep_dr HD.out hd)
        clear hd
        have o11 : FloatKind.f32.format.order 1065353216 1065353216 = some .eq := by decide +kernel
        go_wp2_with fail
        refine (fn_log (by decide) (by decide) lastL.1 lastL.2.1 lastL.2.2.1 lastL.2.2.2.1 lastL.2.2.2.2.1 _).mono ?_
        rw [lastL.2.2.2.2.2]
        rintro e w17 ⟨rfl, hd⟩
        have HD := Lib.hid (by first | exact bthen HD.out hd.below | exact keep_dr HD.out hd)
        clear hd
        have o12 : FloatKind.f32.format.order 0 0 = some .eq := by decide +kernel
        go_wp2_with fail
        refine (fn_root (by decide) lastR.2.1 (by rw [lastR.1]; exact lastR.2.2) _).mono ?_
        rw [lastR.1]
        rintro e w18 ⟨rfl, hd⟩
        have HD := Lib.hid (by first | exact bthen HD.out hd.below | exact keep_dr HD.out hd)
        clear hd
        have o13 : FloatKind.f32.format.order 1073741824 1073741824 = some .eq := by decide +kernel
        go_wp2
        go_ret
        exact ⟨rfl, by first | exact HD.out | exact below_drewN HD.out _⟩
      case eq =>
        clear m2 oy ep2
        go_wp2_with fail
        refine (fn_exp (by decide) (by decide +kernel) lastE.1 lastE.2.1 _).mono ?_
        rw [lastE.2.2]
        rintro e w16 ⟨rfl, hd⟩
        have HD := Lib.hid (by first | exact bthen HD.out hd.below | exact keep_dr HD.out hd)
        clear hd
        have o11 : FloatKind.f32.format.order 1065353216 1065353216 = some .eq := by decide +kernel
        go_wp2_with fail
        refine (fn_log (by decide) (by decide) lastL.1 lastL.2.1 lastL.2.2.1 lastL.2.2.2.1 lastL.2.2.2.2.1 _).mono ?_
        rw [lastL.2.2.2.2.2]
        rintro e w17 ⟨rfl, hd⟩
        have HD := Lib.hid (by first | exact bthen HD.out hd.below | exact keep_dr HD.out hd)
        clear hd
        have o12 : FloatKind.f32.format.order 0 0 = some .eq := by decide +kernel
        go_wp2_with fail
        refine (fn_root (by decide) lastR.2.1 (by rw [lastR.1]; exact lastR.2.2) _).mono ?_
        rw [lastR.1]
        rintro e w18 ⟨rfl, hd⟩
        have HD := Lib.hid (by first | exact bthen HD.out hd.below | exact keep_dr HD.out hd)
        clear hd
        have o13 : FloatKind.f32.format.order 1073741824 1073741824 = some .eq := by decide +kernel
        go_wp2
        go_ret
        exact ⟨rfl, by first | exact HD.out | exact below_drewN HD.out _⟩
    · have hnb : (FloatKind.f32.format.order x 0 == some .lt) = false := by simpa using hneg
      rw [AB2.out hneg] at wa
      clear AB1 AB2 hneg
      go_wp2_with fail
      refine (b10_gap _ _ _).mono ?_
      rintro e w11 ⟨r4, rfl, hr, hd⟩
      have q4 := G4.out _ hr.out
      have HD := Lib.hid (by first | exact bthen HD.out hd.below | exact keep_dr HD.out hd)
      clear hd hr
      clear G4 wa wr
      go_wp2_with fail
      refine (b10_plain _ _ _ _ (AA1.out.below (by first | exact HD.out | exact below_drewN HD.out _))).mono ?_
      rintro e w13 ⟨y, rfl, hpl, hb⟩
      have HD := Lib.hid (by first | exact bthen HD.out hb | exact bthen (below_drewN HD.out _) hb)
      clear hb AA1
      by_cases z1 : FloatKind.f32.format.order y 1091567616 = some .gt
      · go_wp2
        go_ret
        exact ⟨rfl, by first | exact HD.out | exact below_drewN HD.out _⟩
      have z1b : (FloatKind.f32.format.order y 1091567616 == some .gt) = false := by simpa using z1
      by_cases z2 : FloatKind.f32.format.order y 3239051264 = some .lt
      · go_wp2
        go_ret
        exact ⟨rfl, by first | exact HD.out | exact below_drewN HD.out _⟩
      have z2b : (FloatKind.f32.format.order y 3239051264 == some .lt) = false := by simpa using z2
      obtain ⟨p2, hp2, hpx2⟩ := tab_has hpl.out
      have hbig : big9 y = false := by unfold big9 c9 cm9; rw [z1b, z2b]; rfl
      unfold adjW at hpx2
      rw [if_neg (by rw [hbig]; decide)] at hpx2
      have f2 := facts_of hp2
      have m2 := MO.out p2 hp2
      rw [hpx2] at f2 m2
      have kY := fun W => fn_exp f2.lt f2.n f2.eE f2.bE W
      have ep2 : 0 < nrw p2.E ∧ nrw p2.E < 2139095040 := ⟨f2.p0, f2.p1⟩
      have oy := order_kf f2.lt XL.out f2.n XN.out
      obtain ⟨yv, hyv⟩ : ∃ v, v = nrw p2.E := ⟨_, rfl⟩
      rw [← hyv] at kY ep2 m2
      have KY := Lib.hid kY
      clear kY hyv hpx2 hp2 f2 hbig hpl z1 z2 MO
      obtain ⟨o, ho⟩ := oy.2.2
      cases o
      case lt =>
        have ov := (order_le ep2.2 EP.out.2 (m2.2 (oy.2.1 ho))).2
        clear m2 oy ep2
        go_wp2_with fail
        refine (KY.out _).mono ?_
        rintro e w14 ⟨rfl, hd⟩
        have HD := Lib.hid (by first | exact bthen HD.out hd.below | exact keep_dr HD.out hd)
        clear hd
        clear KY
        go_wp2_with fail
        refine (fn_exp (by decide) (by decide +kernel) lastE.1 lastE.2.1 _).mono ?_
        rw [lastE.2.2]
        rintro e w16 ⟨rfl, hd⟩
        have HD := Lib.hid (by first | exact bthen HD.out hd.below | exact keep_dr HD.out hd)
        clear hd
        have o11 : FloatKind.f32.format.order 1065353216 1065353216 = some .eq := by decide +kernel
        go_wp2_with fail
        refine (fn_log (by decide) (by decide) lastL.1 lastL.2.1 lastL.2.2.1 lastL.2.2.2.1 lastL.2.2.2.2.1 _).mono ?_
        rw [lastL.2.2.2.2.2]
        rintro e w17 ⟨rfl, hd⟩
        have HD := Lib.hid (by first | exact bthen HD.out hd.below | exact keep_dr HD.out hd)
        clear hd
        have o12 : FloatKind.f32.format.order 0 0 = some .eq := by decide +kernel
        go_wp2_with fail
        refine (fn_root (by decide) lastR.2.1 (by rw [lastR.1]; exact lastR.2.2) _).mono ?_
        rw [lastR.1]
        rintro e w18 ⟨rfl, hd⟩
        have HD := Lib.hid (by first | exact bthen HD.out hd.below | exact keep_dr HD.out hd)
        clear hd
        have o13 : FloatKind.f32.format.order 1073741824 1073741824 = some .eq := by decide +kernel
        go_wp2
        go_ret
        exact ⟨rfl, by first | exact HD.out | exact below_drewN HD.out _⟩
      case gt =>
        have ov := (order_le EP.out.2 ep2.2 (m2.1 (oy.1 ho))).1
        clear m2 oy ep2
        go_wp2_with fail
        refine (KY.out _).mono ?_
        rintro e w14 ⟨rfl, hd⟩
        have HD := Lib.hid (by first | exact bthen HD.out hd.below | exact keep_dr HD.out hd)
        clear hd
        clear KY
        go_wp2_with fail
        refine (fn_exp (by decide) (by decide +kernel) lastE.1 lastE.2.1 _).mono ?_
        rw [lastE.2.2]
        rintro e w16 ⟨rfl, hd⟩
        have HD := Lib.hid (by first | exact bthen HD.out hd.below | exact keep_dr HD.out hd)
        clear hd
        have o11 : FloatKind.f32.format.order 1065353216 1065353216 = some .eq := by decide +kernel
        go_wp2_with fail
        refine (fn_log (by decide) (by decide) lastL.1 lastL.2.1 lastL.2.2.1 lastL.2.2.2.1 lastL.2.2.2.2.1 _).mono ?_
        rw [lastL.2.2.2.2.2]
        rintro e w17 ⟨rfl, hd⟩
        have HD := Lib.hid (by first | exact bthen HD.out hd.below | exact keep_dr HD.out hd)
        clear hd
        have o12 : FloatKind.f32.format.order 0 0 = some .eq := by decide +kernel
        go_wp2_with fail
        refine (fn_root (by decide) lastR.2.1 (by rw [lastR.1]; exact lastR.2.2) _).mono ?_
        rw [lastR.1]
        rintro e w18 ⟨rfl, hd⟩
        have HD := Lib.hid (by first | exact bthen HD.out hd.below | exact keep_dr HD.out hd)
        clear hd
        have o13 : FloatKind.f32.format.order 1073741824 1073741824 = some .eq := by decide +kernel
        go_wp2
        go_ret
        exact ⟨rfl, by first | exact HD.out | exact below_drewN HD.out _⟩
      case eq =>
        clear m2 oy ep2
        go_wp2_with fail
        refine (fn_exp (by decide) (by decide +kernel) lastE.1 lastE.2.1 _).mono ?_
        rw [lastE.2.2]
        rintro e w16 ⟨rfl, hd⟩
        have HD := Lib.hid (by first | exact bthen HD.out hd.below | exact keep_dr HD.out hd)
        clear hd
        have o11 : FloatKind.f32.format.order 1065353216 1065353216 = some .eq := by decide +kernel
        go_wp2_with fail
        refine (fn_log (by decide) (by decide) lastL.1 lastL.2.1 lastL.2.2.1 lastL.2.2.2.1 lastL.2.2.2.2.1 _).mono ?_
        rw [lastL.2.2.2.2.2]
        rintro e w17 ⟨rfl, hd⟩
        have HD := Lib.hid (by first | exact bthen HD.out hd.below | exact keep_dr HD.out hd)
        clear hd
        have o12 : FloatKind.f32.format.order 0 0 = some .eq := by decide +kernel
        go_wp2_with fail
        refine (fn_root (by decide) lastR.2.1 (by rw [lastR.1]; exact lastR.2.2) _).mono ?_
        rw [lastR.1]
        rintro e w18 ⟨rfl, hd⟩
        have HD := Lib.hid (by first | exact bthen HD.out hd.below | exact keep_dr HD.out hd)
        clear hd
        have o13 : FloatKind.f32.format.order 1073741824 1073741824 = some .eq := by decide +kernel
        go_wp2
        go_ret
        exact ⟨rfl, by first | exact HD.out | exact below_drewN HD.out _⟩
  have k2b : (FloatKind.f32.format.order x0 3239051264 == some .lt) = false := by simpa using k2
  have hbig : big9 x0 = false := by unfold big9 c9 cm9; rw [k1b, k2b]; rfl
  have hxx := (HX0.out hbig).symm
  subst hxx
  clear HQ0 HX0 hbig k1 k2 k1b k2b
  go_wp2_with fail
  refine (KE.out _).mono ?_
  rintro e w2 ⟨rfl, hd⟩
  have HD := Lib.hid (by first | exact bthen HD.out hd.below | exact keep_dr HD.out hd)
  clear hd
  clear KE
  go_wp2_with fail
  refine (KF.out _).mono ?_
  rintro e w3 ⟨rfl, hd⟩
  have HD := Lib.hid (by first | exact bthen HD.out hd.below | exact keep_dr HD.out hd)
  clear hd
  clear KF
  go_wp2_with fail
  refine (KL.out _).mono ?_
  rintro e w4 ⟨rfl, hd⟩
  have HD := Lib.hid (by first | exact bthen HD.out hd.below | exact keep_dr HD.out hd)
  clear hd
  clear KL
  go_wp2_with fail
  refine (KR.out _).mono ?_
  rintro e w5 ⟨rfl, hd⟩
  have HD := Lib.hid (by first | exact bthen HD.out hd.below | exact keep_dr HD.out hd)
  clear hd
  clear KR
  go_wp2_with fail
  refine (KP.out _).mono ?_
  rintro e w6 ⟨rfl, hd⟩
  have HD := Lib.hid (by first | exact bthen HD.out hd.below | exact keep_dr HD.out hd)
  clear hd
  clear KP
  go_wp2_with fail
  refine (KQ.out _).mono ?_
  rintro e w7 ⟨rfl, hd⟩
  have HD := Lib.hid (by first | exact bthen HD.out hd.below | exact keep_dr HD.out hd)
  clear hd
  clear KQ
  go_wp2_with fail
  refine (b10_gap _ _ _).mono ?_
  rintro e w8 ⟨r1, rfl, hr, hd⟩
  have q1 := G1.out _ (by rw [hr.out, GM.out]; rfl)
  have HD := Lib.hid (by first | exact bthen HD.out hd.below | exact keep_dr HD.out hd)
  clear hd hr
  clear G1 GM we wf
  go_wp2_with fail
  refine (b10_gap _ _ _).mono ?_
  rintro e w9 ⟨r2, rfl, hr, hd⟩
  have q2 := G2.out _ hr.out
  have HD := Lib.hid (by first | exact bthen HD.out hd.below | exact keep_dr HD.out hd)
  clear hd hr
  clear G2 wl wx
  go_wp2_with fail
  refine (b10_gap _ _ _).mono ?_
  rintro e w10 ⟨r3, rfl, hr, hd⟩
  have q3 := G3.out _ hr.out
  have HD := Lib.hid (by first | exact bthen HD.out hd.below | exact keep_dr HD.out hd)
  clear hd hr
  clear G3 wt wu
  by_cases hneg : FloatKind.f32.format.order x 0 = some .lt
  · rw [AB1.out hneg] at wa
    clear AB1 AB2
    go_wp2_with fail
    refine (b10_gap _ _ _).mono ?_
    rintro e w11 ⟨r4, rfl, hr, hd⟩
    have q4 := G4.out _ hr.out
    have HD := Lib.hid (by first | exact bthen HD.out hd.below | exact keep_dr HD.out hd)
    clear hd hr
    clear G4 wa wr
    go_wp2_with fail
    refine (b10_plain _ _ _ _ (AA1.out.below (by first | exact HD.out | exact below_drewN HD.out _))).mono ?_
    rintro e w13 ⟨y, rfl, hpl, hb⟩
    have HD := Lib.hid (by first | exact bthen HD.out hb | exact bthen (below_drewN HD.out _) hb)
    clear hb AA1
    by_cases z1 : FloatKind.f32.format.order y 1091567616 = some .gt
    · go_wp2
      go_ret
      exact ⟨rfl, by first | exact HD.out | exact below_drewN HD.out _⟩
    have z1b : (FloatKind.f32.format.order y 1091567616 == some .gt) = false := by simpa using z1
    by_cases z2 : FloatKind.f32.format.order y 3239051264 = some .lt
    · go_wp2
      go_ret
      exact ⟨rfl, by first | exact HD.out | exact below_drewN HD.out _⟩
    have z2b : (FloatKind.f32.format.order y 3239051264 == some .lt) = false := by simpa using z2
    obtain ⟨p2, hp2, hpx2⟩ := tab_has hpl.out
    have hbig : big9 y = false := by unfold big9 c9 cm9; rw [z1b, z2b]; rfl
    unfold adjW at hpx2
    rw [if_neg (by rw [hbig]; decide)] at hpx2
    have f2 := facts_of hp2
    have m2 := MO.out p2 hp2
    rw [hpx2] at f2 m2
    have kY := fun W => fn_exp f2.lt f2.n f2.eE f2.bE W
    have ep2 : 0 < nrw p2.E ∧ nrw p2.E < 2139095040 := ⟨f2.p0, f2.p1⟩
    have oy := order_kf f2.lt XL.out f2.n XN.out
    obtain ⟨yv, hyv⟩ : ∃ v, v = nrw p2.E := ⟨_, rfl⟩
    rw [← hyv] at kY ep2 m2
    have KY := Lib.hid kY
    clear kY hyv hpx2 hp2 f2 hbig hpl z1 z2 MO
    obtain ⟨o, ho⟩ := oy.2.2
    cases o
    case lt =>
      have ov := (order_le ep2.2 EP.out.2 (m2.2 (oy.2.1 ho))).2
      clear m2 oy ep2
      go_wp2_with fail
      refine (KY.out _).mono ?_
      rintro e w14 ⟨rfl, hd⟩
      have HD := Lib.hid (by first | exact bthen HD.out hd.below | exact keep_dr HD.out hd)
      clear hd
      clear KY
      go_wp2_with fail
      refine (fn_exp (by decide) (by decide +kernel) lastE.1 lastE.2.1 _).mono ?_
      rw [lastE.2.2]
      rintro e w16 ⟨rfl, hd⟩
      have HD := Lib.hid (by first | exact bthen HD.out hd.below | exact keep_dr HD.out hd)
      clear hd
      have o11 : FloatKind.f32.format.order 1065353216 1065353216 = some .eq := by decide +kernel
      go_wp2_with fail
      refine (fn_log (by decide) (by decide) lastL.1 lastL.2.1 lastL.2.2.1 lastL.2.2.2.1 lastL.2.2.2.2.1 _).mono ?_
      rw [lastL.2.2.2.2.2]
      rintro e w17 ⟨rfl, hd⟩
      have HD := Lib.hid (by first | exact bthen HD.out hd.below | exact keep_dr HD.out hd)
      clear hd
      have o12 : FloatKind.f32.format.order 0 0 = some .eq := by decide +kernel
      go_wp2_with fail
      refine (fn_root (by decide) lastR.2.1 (by rw [lastR.1]; exact lastR.2.2) _).mono ?_
      rw [lastR.1]
      rintro e w18 ⟨rfl, hd⟩
      have HD := Lib.hid (by first | exact bthen HD.out hd.below | exact keep_dr HD.out hd)
      clear hd
      have o13 : FloatKind.f32.format.order 1073741824 1073741824 = some .eq := by decide +kernel
      go_wp2
      go_ret
      exact ⟨rfl, by first | exact HD.out | exact below_drewN HD.out _⟩
    case gt =>
      have ov := (order_le EP.out.2 ep2.2 (m2.1 (oy.1 ho))).1
      clear m2 oy ep2
      go_wp2_with fail
      refine (KY.out _).mono ?_
      rintro e w14 ⟨rfl, hd⟩
      have HD := Lib.hid (by first | exact bthen HD.out hd.below | exact keep_dr HD.out hd)
      clear hd
      clear KY
      go_wp2_with fail
      refine (fn_exp (by decide) (by decide +kernel) lastE.1 lastE.2.1 _).mono ?_
      rw [lastE.2.2]
      rintro e w16 ⟨rfl, hd⟩
      have HD := Lib.hid (by first | exact bthen HD.out hd.below | exact keep_dr HD.out hd)
      clear hd
      have o11 : FloatKind.f32.format.order 1065353216 1065353216 = some .eq := by decide +kernel
      go_wp2_with fail
      refine (fn_log (by decide) (by decide) lastL.1 lastL.2.1 lastL.2.2.1 lastL.2.2.2.1 lastL.2.2.2.2.1 _).mono ?_
      rw [lastL.2.2.2.2.2]
      rintro e w17 ⟨rfl, hd⟩
      have HD := Lib.hid (by first | exact bthen HD.out hd.below | exact keep_dr HD.out hd)
      clear hd
      have o12 : FloatKind.f32.format.order 0 0 = some .eq := by decide +kernel
      go_wp2_with fail
      refine (fn_root (by decide) lastR.2.1 (by rw [lastR.1]; exact lastR.2.2) _).mono ?_
      rw [lastR.1]
      rintro e w18 ⟨rfl, hd⟩
      have HD := Lib.hid (by first | exact bthen HD.out hd.below | exact keep_dr HD.out hd)
      clear hd
      have o13 : FloatKind.f32.format.order 1073741824 1073741824 = some .eq := by decide +kernel
      go_wp2
      go_ret
      exact ⟨rfl, by first | exact HD.out | exact below_drewN HD.out _⟩
    case eq =>
      clear m2 oy ep2
      go_wp2_with fail
      refine (fn_exp (by decide) (by decide +kernel) lastE.1 lastE.2.1 _).mono ?_
      rw [lastE.2.2]
      rintro e w16 ⟨rfl, hd⟩
      have HD := Lib.hid (by first | exact bthen HD.out hd.below | exact keep_dr HD.out hd)
      clear hd
      have o11 : FloatKind.f32.format.order 1065353216 1065353216 = some .eq := by decide +kernel
      go_wp2_with fail
      refine (fn_log (by decide) (by decide) lastL.1 lastL.2.1 lastL.2.2.1 lastL.2.2.2.1 lastL.2.2.2.2.1 _).mono ?_
      rw [lastL.2.2.2.2.2]
      rintro e w17 ⟨rfl, hd⟩
      have HD := Lib.hid (by first | exact bthen HD.out hd.below | exact keep_dr HD.out hd)
      clear hd
      have o12 : FloatKind.f32.format.order 0 0 = some .eq := by decide +kernel
      go_wp2_with fail
      refine (fn_root (by decide) lastR.2.1 (by rw [lastR.1]; exact lastR.2.2) _).mono ?_
      rw [lastR.1]
      rintro e w18 ⟨rfl, hd⟩
      have HD := Lib.hid (by first | exact bthen HD.out hd.below | exact keep_dr HD.out hd)
      clear hd
      have o13 : FloatKind.f32.format.order 1073741824 1073741824 = some .eq := by decide +kernel
      go_wp2
      go_ret
      exact ⟨rfl, by first | exact HD.out | exact below_drewN HD.out _⟩
  · have hnb : (FloatKind.f32.format.order x 0 == some .lt) = false := by simpa using hneg
    rw [AB2.out hneg] at wa
    clear AB1 AB2 hneg
    go_wp2_with fail
    refine (b10_gap _ _ _).mono ?_
    rintro e w11 ⟨r4, rfl, hr, hd⟩
    have q4 := G4.out _ hr.out
    have HD := Lib.hid (by first | exact bthen HD.out hd.below | exact keep_dr HD.out hd)
    clear hd hr
    clear G4 wa wr
    go_wp2_with fail
    refine (b10_plain _ _ _ _ (AA1.out.below (by first | exact HD.out | exact below_drewN HD.out _))).mono ?_
    rintro e w13 ⟨y, rfl, hpl, hb⟩
    have HD := Lib.hid (by first | exact bthen HD.out hb | exact bthen (below_drewN HD.out _) hb)
    clear hb AA1
    by_cases z1 : FloatKind.f32.format.order y 1091567616 = some .gt
    · go_wp2
      go_ret
      exact ⟨rfl, by first | exact HD.out | exact below_drewN HD.out _⟩
    have z1b : (FloatKind.f32.format.order y 1091567616 == some .gt) = false := by simpa using z1
    by_cases z2 : FloatKind.f32.format.order y 3239051264 = some .lt
    · go_wp2
      go_ret
      exact ⟨rfl, by first | exact HD.out | exact below_drewN HD.out _⟩
    have z2b : (FloatKind.f32.format.order y 3239051264 == some .lt) = false := by simpa using z2
    obtain ⟨p2, hp2, hpx2⟩ := tab_has hpl.out
    have hbig : big9 y = false := by unfold big9 c9 cm9; rw [z1b, z2b]; rfl
    unfold adjW at hpx2
    rw [if_neg (by rw [hbig]; decide)] at hpx2
    have f2 := facts_of hp2
    have m2 := MO.out p2 hp2
    rw [hpx2] at f2 m2
    have kY := fun W => fn_exp f2.lt f2.n f2.eE f2.bE W
    have ep2 : 0 < nrw p2.E ∧ nrw p2.E < 2139095040 := ⟨f2.p0, f2.p1⟩
    have oy := order_kf f2.lt XL.out f2.n XN.out
    obtain ⟨yv, hyv⟩ : ∃ v, v = nrw p2.E := ⟨_, rfl⟩
    rw [← hyv] at kY ep2 m2
    have KY := Lib.hid kY
    clear kY hyv hpx2 hp2 f2 hbig hpl z1 z2 MO
    obtain ⟨o, ho⟩ := oy.2.2
    cases o
    case lt =>
      have ov := (order_le ep2.2 EP.out.2 (m2.2 (oy.2.1 ho))).2
      clear m2 oy ep2
      go_wp2_with fail
      refine (KY.out _).mono ?_
      rintro e w14 ⟨rfl, hd⟩
      have HD := Lib.hid (by first | exact bthen HD.out hd.below | exact keep_dr HD.out hd)
      clear hd
      clear KY
      go_wp2_with fail
      refine (fn_exp (by decide) (by decide +kernel) lastE.1 lastE.2.1 _).mono ?_
      rw [lastE.2.2]
      rintro e w16 ⟨rfl, hd⟩
      have HD := Lib.hid (by first | exact bthen HD.out hd.below | exact keep_dr HD.out hd)
      clear hd
      have o11 : FloatKind.f32.format.order 1065353216 1065353216 = some .eq := by decide +kernel
      go_wp2_with fail
      refine (fn_log (by decide) (by decide) lastL.1 lastL.2.1 lastL.2.2.1 lastL.2.2.2.1 lastL.2.2.2.2.1 _).mono ?_
      rw [lastL.2.2.2.2.2]
      rintro e w17 ⟨rfl, hd⟩
      have HD := Lib.hid (by first | exact bthen HD.out hd.below | exact keep_dr HD.out hd)
      clear hd
      have o12 : FloatKind.f32.format.order 0 0 = some .eq := by decide +kernel
      go_wp2_with fail
      refine (fn_root (by decide) lastR.2.1 (by rw [lastR.1]; exact lastR.2.2) _).mono ?_
      rw [lastR.1]
      rintro e w18 ⟨rfl, hd⟩
      have HD := Lib.hid (by first | exact bthen HD.out hd.below | exact keep_dr HD.out hd)
      clear hd
      have o13 : FloatKind.f32.format.order 1073741824 1073741824 = some .eq := by decide +kernel
      go_wp2
      go_ret
      exact ⟨rfl, by first | exact HD.out | exact below_drewN HD.out _⟩
    case gt =>
      have ov := (order_le EP.out.2 ep2.2 (m2.1 (oy.1 ho))).1
      clear m2 oy ep2
      go_wp2_with fail
      refine (KY.out _).mono ?_
      rintro e w14 ⟨rfl, hd⟩
      have HD := Lib.hid (by first | exact bthen HD.out hd.below | exact keep_dr HD.out hd)
      clear hd
      clear KY
      go_wp2_with fail
      refine (fn_exp (by decide) (by decide +kernel) lastE.1 lastE.2.1 _).mono ?_
      rw [lastE.2.2]
      rintro e w16 ⟨rfl, hd⟩
      have HD := Lib.hid (by first | exact bthen HD.out hd.below | exact keep_dr HD.out hd)
      clear hd
      have o11 : FloatKind.f32.format.order 1065353216 1065353216 = some .eq := by decide +kernel
      go_wp2_with fail
      refine (fn_log (by decide) (by decide) lastL.1 lastL.2.1 lastL.2.2.1 lastL.2.2.2.1 lastL.2.2.2.2.1 _).mono ?_
      rw [lastL.2.2.2.2.2]
      rintro e w17 ⟨rfl, hd⟩
      have HD := Lib.hid (by first | exact bthen HD.out hd.below | exact keep_dr HD.out hd)
      clear hd
      have o12 : FloatKind.f32.format.order 0 0 = some .eq := by decide +kernel
      go_wp2_with fail
      refine (fn_root (by decide) lastR.2.1 (by rw [lastR.1]; exact lastR.2.2) _).mono ?_
      rw [lastR.1]
      rintro e w18 ⟨rfl, hd⟩
      have HD := Lib.hid (by first | exact bthen HD.out hd.below | exact keep_dr HD.out hd)
      clear hd
      have o13 : FloatKind.f32.format.order 1073741824 1073741824 = some .eq := by decide +kernel
      go_wp2
      go_ret
      exact ⟨rfl, by first | exact HD.out | exact below_drewN HD.out _⟩
    case eq =>
      clear m2 oy ep2
      go_wp2_with fail
      refine (fn_exp (by decide) (by decide +kernel) lastE.1 lastE.2.1 _).mono ?_
      rw [lastE.2.2]
      rintro e w16 ⟨rfl, hd⟩
      have HD := Lib.hid (by first | exact bthen HD.out hd.below | exact keep_dr HD.out hd)
      clear hd
      have o11 : FloatKind.f32.format.order 1065353216 1065353216 = some .eq := by decide +kernel
      go_wp2_with fail
      refine (fn_log (by decide) (by decide) lastL.1 lastL.2.1 lastL.2.2.1 lastL.2.2.2.1 lastL.2.2.2.2.1 _).mono ?_
      rw [lastL.2.2.2.2.2]
      rintro e w17 ⟨rfl, hd⟩
      have HD := Lib.hid (by first | exact bthen HD.out hd.below | exact keep_dr HD.out hd)
      clear hd
      have o12 : FloatKind.f32.format.order 0 0 = some .eq := by decide +kernel
      go_wp2_with fail
      refine (fn_root (by decide) lastR.2.1 (by rw [lastR.1]; exact lastR.2.2) _).mono ?_
      rw [lastR.1]
      rintro e w18 ⟨rfl, hd⟩
      have HD := Lib.hid (by first | exact bthen HD.out hd.below | exact keep_dr HD.out hd)
      clear hd
      have o13 : FloatKind.f32.format.order 1073741824 1073741824 = some .eq := by decide +kernel
      go_wp2
      go_ret
      exact ⟨rfl, by first | exact HD.out | exact below_drewN HD.out _⟩
end Go.Proofs.Ytaocilimggpdjaa
