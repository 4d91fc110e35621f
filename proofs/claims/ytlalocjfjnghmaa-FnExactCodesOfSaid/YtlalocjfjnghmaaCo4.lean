/- What the codes of numbers by chances are. No condition. -/
import Derived.Test.YtlalocjfjnghmaaCo3
namespace Go.Proofs.Ytlalocjfjnghmaa
open Go Go.RowKit Ieee
set_option linter.unusedVariables false
set_option linter.unusedSimpArgs false
def chOk (ch : List Int) : Bool := !(ch.any fun n => !(inB n 0 255))
def byOk (xs : List Nat) (sp : Nat) (ch : List Int) : Bool := cdOk xs sp && (decide (ch.length = xs.length) && chOk ch)
theorem impl_CodesBy_1 (n : Int) (w : World) : Calls Try.prog 70 #[.int .i64 n] w fun e w' => e = .returned (.bool !(inB n 0 255)) ∧ w = w' := by
  go_enter Try.func70, Try.ntmps70
  go_wp2_with (go_at_call 58; refine (within_any _ _ _ _).mono ?_; rintro e w' ⟨rfl, rfl⟩)
  go_ret
  exact ⟨rfl, rfl⟩
theorem impl_CodesBy_no (w : World) (a1 : Option Addr) (c1 : Nat) (xs : List Nat) (h1 : F32s w a1 c1 xs) (sp : Nat) (hsp : sp < 4294967296) (a2 : Option Addr) (c2 : Nat) (ch : List Int) (h2 : Ints .i64 w a2 c2 ch) (hl : ch.length ≤ 1048576) (hok : byOk xs sp ch = false) :
    Calls Try.prog 27 #[.slice a1 xs.length c1, .float .f32 sp, .slice a2 ch.length c2] w fun e w' => e = .returned (.tuple #[.slice none 0 0, .bool false]) ∧ Below w.heap.size w w' := by
  have k1 := fun W hW => impl_areFew W a1 c1 xs hW
  have k2 := fun W => impl_isSpread sp hsp W
  have k3 := fun W hW => contains_any W a2 c2 ch hW hl 70 #[] (fun n => !(inB n 0 255)) (fun args W => by kernel_rfl) (fun W n => impl_CodesBy_1 n W)
  have J1 := Lib.hid h1; have J2 := Lib.hid h2; have C1 := Lib.hid k1; have C2 := Lib.hid k2; have C3 := Lib.hid k3
  obtain ⟨n, e1⟩ : ∃ n, n = xs.length := ⟨_, rfl⟩
  obtain ⟨m, e2⟩ : ∃ n, n = ch.length := ⟨_, rfl⟩
  unfold byOk cdOk at hok
  rw [← e1, ← e2] at hok
  rw [← e2] at C3 hl
  rw [← e1] at C1
  rw [← e1, ← e2]
  clear k1 k2 k3 h1 h2 e1 e2
  cases b1 : fewFin xs
  · clear hok
    go_enter Try.func27, Try.ntmps27
    go_wp2_with fail
    refine (C1.out _ (J1.out.below (below1 _ _))).mono ?_
    rintro e w1 ⟨rfl, q, rfl⟩
    go_wp2
    go_ret2
    exact ⟨rfl, below_drewN (below1 _ _) _⟩
  cases b2 : spreadOk sp
  · clear hok
    go_enter Try.func27, Try.ntmps27
    go_wp2_with fail
    refine (C1.out _ (J1.out.below (below1 _ _))).mono ?_
    rintro e w1 ⟨rfl, q, rfl⟩
    go_wp2_with fail
    refine (C2.out _).mono ?_
    rintro e w1 ⟨rfl, ⟨q, rfl⟩⟩
    go_wp2
    go_ret2
    exact ⟨rfl, below_drewN (below1 _ _) _⟩
  by_cases b3 : m = n
  · have b4 : chOk ch = false := by simpa [b1, b2, b3] using hok
    have b4 : (ch.any fun n => !(inB n 0 255)) = true := by simpa [chOk] using b4
    subst b3
    clear hok
    have B4 := Lib.hid b4; clear b4
    go_enter Try.func27, Try.ntmps27
    go_wp2_with fail
    refine (C1.out _ (J1.out.below (below1 _ _))).mono ?_
    rintro e w1 ⟨rfl, q, rfl⟩
    go_wp2_with fail
    refine (C2.out _).mono ?_
    rintro e w1 ⟨rfl, ⟨q, rfl⟩⟩
    go_wp2_with fail
    refine (C3.out _ (J2.out.below (below_drewN (below1 _ _) _))).mono ?_
    rintro e w1 ⟨rfl, rfl⟩
    rw [B4.out]
    go_wp2
    go_ret2
    exact ⟨rfl, below_drewN (below1 _ _) _⟩
  · clear hok
    have b3' : ((m : Int) != (n : Int)) = true := by simp; omega
    go_enter Try.func27, Try.ntmps27
    go_wp2_with fail
    refine (C1.out _ (J1.out.below (below1 _ _))).mono ?_
    rintro e w1 ⟨rfl, q, rfl⟩
    go_wp2_with fail
    refine (C2.out _).mono ?_
    rintro e w1 ⟨rfl, ⟨q, rfl⟩⟩
    go_wp2
    go_ret2
    exact ⟨rfl, below_drewN (below1 _ _) _⟩
theorem impl_CodesBy_yes (w : World) (a1 : Option Addr) (c1 : Nat) (xs : List Nat) (h1 : F32s w a1 c1 xs) (sp : Nat) (hsp : sp < 4294967296) (a2 : Option Addr) (c2 : Nat) (ch : List Int) (h2 : Ints .i64 w a2 c2 ch) (hl : ch.length ≤ 1048576) (hok : byOk xs sp ch = true) :
    Calls Try.prog 27 #[.slice a1 xs.length c1, .float .f32 sp, .slice a2 ch.length c2] w fun e w' => ∃ (v : Value), e = .returned (.tuple #[v, .bool true]) ∧
      w'.ownsRow w.heap.size 2 1 v xs.length ((lsI xs.length (codeE (WBy ch) xs sp)).map (Value.int .i64)) ∧ Below w.heap.size w w' := by
  have k1 := fun W hW => impl_areFew W a1 c1 xs hW
  have k2 := fun W => impl_isSpread sp hsp W
  have k3 := fun W hW => contains_any W a2 c2 ch hW hl 70 #[] (fun n => !(inB n 0 255)) (fun args W => by kernel_rfl) (fun W n => impl_CodesBy_1 n W)
  simp only [byOk, cdOk, Bool.and_eq_true, decide_eq_true_eq] at hok
  obtain ⟨⟨b1, b2⟩, b3, b4⟩ := hok
  have b4 : (ch.any fun n => !(inB n 0 255)) = false := by simpa [chOk] using b4
  have k4 := fun W hW g (hg : W.cell? ⟨g, 0, none⟩ = some (.slice a2 ch.length c2)) (hch : Ints .i64 W a2 c2 ch) (hgl : g < W.heap.size) => impl_coded W a1 c1 xs hW sp hsp b2 b1 71 #[.pointer (some ⟨g, 0, none⟩)] (WBy ch) (fun args W => by kernel_rfl) (fun i q hq => WBy_ok hq) (fun W' i q hi hq hb => impl_CodesBy_2 W' g a2 c2 ch (hch.below hb) (((bcell hb).1 g 0 hgl).trans hg) i (by omega) q hq)
  have J1 := Lib.hid h1; have J2 := Lib.hid h2; have C1 := Lib.hid k1; have C2 := Lib.hid k2; have C3 := Lib.hid k3; have C4 := Lib.hid k4
  obtain ⟨n, e1⟩ : ∃ n, n = xs.length := ⟨_, rfl⟩
  rw [b3] at C3 C4 hl
  rw [← e1] at C1 C3 C4 hl
  rw [b3, ← e1]
  clear k1 k2 k3 k4 h1 h2 e1 b3
  have B4 := Lib.hid b4; clear b4
  go_enter Try.func27, Try.ntmps27
  go_wp2_with fail
  refine (C1.out _ (J1.out.below (below1 _ _))).mono ?_
  rintro e w1 ⟨rfl, q, rfl⟩
  go_wp2_with fail
  refine (C2.out _).mono ?_
  rintro e w1 ⟨rfl, ⟨q, rfl⟩⟩
  go_wp2_with fail
  refine (C3.out _ (J2.out.below (below_drewN (below1 _ _) _))).mono ?_
  rintro e w1 ⟨rfl, rfl⟩
  rw [B4.out]
  go_wp2_with fail
  refine (C4.out _ (J1.out.below (below_drewN (below1 _ _) _)) w.heap.size (by simp) (J2.out.below (below_drewN (below1 _ _) _)) (by simp)).mono ?_
  rintro e w1 ⟨v, rfl, ho, hb⟩
  go_wp2
  go_ret2
  exact ⟨_, rfl, ((Row.mk' ho).bounds (by simp) (Nat.le_refl _)).own, bthen (below_drewN (below1 _ _) _) hb⟩
theorem spec_CodesBy_no (w : World) (a1 : Option Addr) (c1 : Nat) (xs : List Nat) (h1 : F32s w a1 c1 xs) (sp : Nat) (hsp : sp < 4294967296) (a2 : Option Addr) (c2 : Nat) (ch : List Int) (h2 : Ints .i64 w a2 c2 ch) (hl : ch.length ≤ 1048576) (hok : (cdOk xs sp && decide (ch.length = xs.length)) = false) :
    Calls Try.prog 25 #[.slice a1 xs.length c1, .float .f32 sp, .slice a2 ch.length c2] w fun e w' => e = .returned (.tuple #[.slice none 0 0, .bool false]) ∧ Below w.heap.size w w' := by
  have k1 := fun W hW => spec_l06List W a1 c1 xs hW
  have k2 := fun W => spec_l06Spread sp hsp W
  have J1 := Lib.hid h1; have J2 := Lib.hid h2; have C1 := Lib.hid k1; have C2 := Lib.hid k2
  have hm := Nat.le_trans h1.len h1.cap
  unfold maxLen at hm
  obtain ⟨n, e1⟩ : ∃ n, n = xs.length := ⟨_, rfl⟩
  obtain ⟨m, e2⟩ : ∃ n, n = ch.length := ⟨_, rfl⟩
  unfold cdOk at hok
  rw [← e1, ← e2] at hok
  rw [← e2] at hl
  rw [← e1] at C1 hm
  rw [← e1, ← e2]
  clear k1 k2 h1 h2 e1 e2
  cases b1 : fewFin xs
  · clear hok
    go_enter Try.func25, Try.ntmps25
    go_wp2_with fail
    refine (C1.out _ J1.out).mono ?_
    rintro e w1 ⟨rfl, q, rfl⟩
    go_wp2
    go_ret2
    exact ⟨rfl, below_drewN (Below.refl _ _) _⟩
  cases b2 : spreadOk sp
  · clear hok
    go_enter Try.func25, Try.ntmps25
    go_wp2_with fail
    refine (C1.out _ J1.out).mono ?_
    rintro e w1 ⟨rfl, q, rfl⟩
    go_wp2_with fail
    refine (C2.out _).mono ?_
    rintro e w1 ⟨rfl, ⟨q, rfl⟩⟩
    go_wp2
    go_ret2
    exact ⟨rfl, below_drewN (Below.refl _ _) _⟩
  have b3 : ¬ m = n := by simpa [b1, b2] using hok
  clear hok
  have b3' : ((m : Int) != (n : Int)) = true := by simp; omega
  go_enter Try.func25, Try.ntmps25
  go_wp2_with fail
  refine (C1.out _ J1.out).mono ?_
  rintro e w1 ⟨rfl, q, rfl⟩
  go_wp2_with fail
  refine (C2.out _).mono ?_
  rintro e w1 ⟨rfl, ⟨q, rfl⟩⟩
  go_wp2
  go_ret2
  exact ⟨rfl, below_drewN (Below.refl _ _) _⟩
theorem any_next {xs : List Int} {k : Nat} {p : Int → Bool} {x : Int} (h : (xs.take k).any p = false) (hk : k < xs.length) (hx : x = xs.getD k 0) (hp : p x = false) : (xs.take (k + 1)).any p = false := by
  rw [List.take_succ_eq_append_getElem hk, List.any_append, h]
  have : xs[k] = x := by rw [hx, List.getD_eq_getElem?_getD, List.getElem?_eq_getElem hk]; rfl
  simp [this, hp]
theorem any_at {xs : List Int} {k : Nat} {p : Int → Bool} {x : Int} (hk : k < xs.length) (hx : x = xs.getD k 0) (hp : p x = true) : xs.any p = true := by
  rw [List.any_eq_true]
  exact ⟨xs.getD k 0, by rw [List.getD_eq_getElem?_getD, List.getElem?_eq_getElem hk]; exact List.getElem_mem hk, by rw [← hx, hp]⟩
def ByPost (w : World) (xs : List Nat) (sp : Nat) (ch : List Int) (e : Ending) (w' : World) : Prop :=
  (chOk ch = false ∧ e = .returned (.tuple #[.slice none 0 0, .bool false]) ∧ Below w.heap.size w w') ∨
  (chOk ch = true ∧ ∃ (v : Value), e = .returned (.tuple #[v, .bool true]) ∧ w'.ownsRow w.heap.size 2 1 v xs.length ((lsI xs.length (codeE (WBy ch) xs sp)).map (Value.int .i64)) ∧ Below w.heap.size w w')
set_option maxRecDepth 100000 in
set_option maxHeartbeats 4000000 in
theorem spec_CodesBy_go (w : World) (a1 : Option Addr) (c1 : Nat) (xs : List Nat) (h1 : F32s w a1 c1 xs) (sp : Nat) (hs : sp < 4294967296) (a2 : Option Addr) (c2 : Nat) (ch : List Int) (h2 : Ints .i64 w a2 c2 ch) (hlc : ch.length = xs.length) (hok : cdOk xs sp = true) :
    Calls Try.prog 25 #[.slice a1 xs.length c1, .float .f32 sp, .slice a2 ch.length c2] w (ByPost w xs sp ch) := by
  obtain ⟨i0, hi, hz0, hz1, hz2⟩ := info_parts info_i64
  have k1 := fun W hW => spec_l06List W a1 c1 xs hW
  have k2 := fun W => spec_l06Spread sp hs W
  simp only [cdOk, Bool.and_eq_true] at hok
  obtain ⟨hfew, hsp⟩ := hok
  have C1 := Lib.hid k1; have C2 := Lib.hid k2
  clear k1 k2
  obtain ⟨hn, hfin⟩ := few_of hfew
  have hq := fun i (hi : i < xs.length) (h0 : 0 < sp) => quo_at (x := xs.getD i 0) (h1.lt _ (by rw [List.getD_eq_getElem?_getD, List.getElem?_eq_getElem hi]; exact List.getElem_mem hi)) (hfin _ (by rw [List.getD_eq_getElem?_getD, List.getElem?_eq_getElem hi]; exact List.getElem_mem hi)) hs hsp h0
  have hpos := spread_pos hs hsp
  obtain ⟨n, e1⟩ : ∃ n, n = xs.length := ⟨_, rfl⟩
  rw [hlc]
  rw [← e1] at hn C1 ⊢
  have E2 : Hid (n = ch.length) := Lib.hid (by omega)
  have E1 := Lib.hid e1; have HQ := Lib.hid hq; have H1 := Lib.hid h1; have H2 := Lib.hid h2; have HPOS := Lib.hid hpos; have HF := Lib.hid hfew; have HSP := Lib.hid hsp
  clear e1 hq h1 h2 hpos hfin hfew hsp hs hlc
  go_enter Try.func25, Try.ntmps25
  go_wp2_with fail
  refine (C1.out _ H1.out).mono ?_
  rintro e w1 ⟨rfl, hd1⟩
  have hb1 := hd1.below
  have hf := HF.out
  go_wp2_with fail
  refine (C2.out _).mono ?_
  rintro e w2 ⟨rfl, hd2⟩
  have hb2 := bthen hb1 hd2.below
  have hsp := HSP.out
  have hws := hb2.size
  have H1 := Lib.hid (H1.out.below hb2)
  have H2 := Lib.hid (H2.out.below hb2)
  clear hd1 hd2 hb1
  go_wp2
  clear hf hsp
  go_loopw [8, 9] (fun v i wr => ∃ k : Nat, i = .int .i64 k ∧ k ≤ n ∧ wr.ownsRow w2.heap.size 2 1 v k ((lsI k (codeE (WBy ch) xs sp)).map (Value.int .i64)) ∧ Below w2.heap.size w2 wr ∧ w2.heap.size ≤ wr.heap.size ∧ (ch.take k).any (fun n => !(inB n 0 255)) = false) (fun _ i _ => n - (intOf i).toNat)
  case atStart => exact ⟨0, rfl, Nat.zero_le _, World.ownsRow_made _ _ _ (Nat.le_refl _) (Nat.zero_le _) rfl, below1 _ _, by simp, rfl⟩
  case round =>
    obtain ⟨k, rfl, hk, hown, hb, hbs, hno⟩ := hrel
    have HO := Lib.hid hno; clear hno
    by_cases hlt : k < n
    · have hkx : k < xs.length := by rw [← E1.out]; exact hlt
      have hky : k < ch.length := by rw [← E2.out]; exact hlt
      have h1 := H1.out.below hb
      obtain ⟨b, off, rfl, _, hq⟩ := h1.spot (k := k) hkx
      have hc := hq k hkx
      obtain ⟨x1, px⟩ : ∃ x, x = xs.getD k 0 := ⟨_, rfl⟩
      rw [← px] at hc
      have PX := Lib.hid px
      have h2 := H2.out.below hb
      obtain ⟨b2, off2, rfl, _, hq2⟩ := h2.spot (i := k) hky
      have hcc := hq2 k hky
      obtain ⟨y1, py⟩ : ∃ x, x = ch.getD k 0 := ⟨_, rfl⟩
      rw [← py] at hcc
      have PY := Lib.hid py
      clear px hq h1 py hq2 h2
      cases hin : inB y1 0 255
      · have hbad := any_at hky PY.out (p := fun n => !(inB n 0 255)) (by simp [hin])
        have HB := Lib.hid hbad; have HIN := Lib.hid hin; clear hbad hin
        go_wp2_with fail
        refine (l00In_any _ _ _ _).mono ?_
        rintro e w3 ⟨rfl, rfl⟩
        have hin := HIN.out
        go_wp2
        go_ret2
        exact .inl ⟨by unfold chOk; rw [HB.out]; rfl, rfl, hb2.trans (hb.mono hws)⟩
      have hnx := any_next HO.out hky PY.out (p := fun n => !(inB n 0 255)) (by simp [hin])
      have HNX := Lib.hid hnx; have HIN := Lib.hid hin; clear hnx hin
      by_cases h0 : sp = 0
      · subst h0
        have hz : FloatKind.f32.format.order 0 0 = some .eq := by decide +kernel
        have hcd : codeE (WBy ch) xs 0 k = 0 := by unfold codeE; rw [if_pos rfl]
        have HCD := Lib.hid hcd; clear hcd
        go_wp2_with fail
        refine (l00In_any _ _ _ _).mono ?_
        rintro e w3 ⟨rfl, rfl⟩
        have hin := HIN.out
        go_wp2_with (at_builtin; refine wp_app rfl _ _ 34 rfl w2.heap.size i0 (.int .i64 0) 1 8 Try.underlying34 hi hz0 hz1 hz2 rfl (by decide) rfl (one_cell _ rfl) _ _ _ rfl hown rfl ?c3 ?c4 ?c5 ?_)
        case c3 => unfold maxLen; omega
        case c4 => omega
        case c5 => exact hbs
        intro v' w9 hown1 hb1 hbs1
        have hb1 := hb.trans hb1
        clear hown hb hbs
        go_wp2
        go_roundw
        case rel => exact ⟨k + 1, by go_num, hlt, by rw [lsI_succ, HCD.out]; simpa using hown1, hb1, hbs1, HNX.out⟩
        case measure => simp [intOf]; omega
      · have h0 : 0 < sp := by omega
        have hz := order_zero_pos h0 HPOS.out
        obtain ⟨hq1, hq2, hq3⟩ := HQ.out k hkx h0
        rw [← PX.out] at hq1 hq2 hq3
        have hcd : codeE (WBy ch) xs sp k = clampI (WBy ch k (qE x1 sp)) := by unfold codeE; rw [if_neg (by omega), PX.out]
        have hl := fun W => spec_l06Limit (WBy ch k (qE x1 sp)) (WBy_ok hq2).1 (WBy_ok hq2).2 W
        have hfl := fun W => math_Floor (qE x1 sp) hq2 W
        rw [← hcd] at hl
        obtain ⟨r, hr⟩ := one_some (whole_not .down hq2)
        have hadd := fun w => fbits_some hr w
        have hadd0 := fdr_some hr
        have hz0' := World.drewN_none
        have er : fop .add .f64 (whole .down (qE x1 sp)) 4607182418800017408 = r := by unfold fop; rw [hr]; rfl
        obtain ⟨f, hf⟩ : ∃ f, f = whole .down (qE x1 sp) := ⟨_, rfl⟩
        have hcmp := by_cmp (qE x1 sp) f y1
        have hWq : WBy ch k (qE x1 sp) = if FloatKind.f64.format.order (fop .mul .f64 (fop .sub .f64 (qE x1 sp) f) 4643211215818981376) (floatOfInt .f64 y1) = some .gt then r else f := by unfold WBy; rw [← hf, ← PY.out]; rw [← hf] at er; rw [er]
        rw [hWq] at hl
        rw [← hf] at hfl hadd hadd0
        obtain ⟨D, hD⟩ : ∃ D, D = FloatKind.f64.format.order (fop .mul .f64 (fop .sub .f64 (qE x1 sp) f) 4643211215818981376) (floatOfInt .f64 y1) := ⟨_, rfl⟩
        rw [← hD] at hcmp hl
        have HFL := Lib.hid hfl
        clear hcd hq2 hq3 hWq hr er hf hfl hD
        by_cases hgt : D = some .gt
        · subst hgt
          rw [if_pos rfl] at hl
          have HL := Lib.hid hl; clear hl
          go_wp2_with fail
          refine (l00In_any _ _ _ _).mono ?_
          rintro e w3 ⟨rfl, rfl⟩
          have hin := HIN.out
          go_wp2_with fail
          refine (HFL.out _).mono ?_
          rintro e w3 ⟨rfl, rfl⟩
          go_wp2_with fail
          refine (HL.out _).mono ?_
          rintro e w3 ⟨rfl, rfl⟩
          go_wp2_with (at_builtin; refine wp_app rfl _ _ 34 rfl w2.heap.size i0 (.int .i64 0) 1 8 Try.underlying34 hi hz0 hz1 hz2 rfl (by decide) rfl (one_cell _ rfl) _ _ _ rfl hown rfl ?c3 ?c4 ?c5 ?_)
          case c3 => unfold maxLen; omega
          case c4 => omega
          case c5 => exact hbs
          intro v' w9 hown1 hb1 hbs1
          have hb1 := (below_drewN hb _).trans hb1
          clear hown hb hbs
          go_wp2
          go_roundw
          case rel => exact ⟨k + 1, by go_num, hlt, by rw [lsI_succ]; simpa using hown1, hb1, hbs1, HNX.out⟩
          case measure => simp [intOf]; omega
        · rw [if_neg hgt] at hl
          have hgt2 : (D == some .gt) = false := by simpa using hgt
          have HL := Lib.hid hl; clear hl hgt
          go_wp2_with fail
          refine (l00In_any _ _ _ _).mono ?_
          rintro e w3 ⟨rfl, rfl⟩
          have hin := HIN.out
          go_wp2_with fail
          refine (HFL.out _).mono ?_
          rintro e w3 ⟨rfl, rfl⟩
          go_wp2_with fail
          refine (HL.out _).mono ?_
          rintro e w3 ⟨rfl, rfl⟩
          go_wp2_with (at_builtin; refine wp_app rfl _ _ 34 rfl w2.heap.size i0 (.int .i64 0) 1 8 Try.underlying34 hi hz0 hz1 hz2 rfl (by decide) rfl (one_cell _ rfl) _ _ _ rfl hown rfl ?c3 ?c4 ?c5 ?_)
          case c3 => unfold maxLen; omega
          case c4 => omega
          case c5 => exact hbs
          intro v' w9 hown1 hb1 hbs1
          have hb1 := (below_drewN hb _).trans hb1
          clear hown hb hbs
          go_wp2
          go_roundw
          case rel => exact ⟨k + 1, by go_num, hlt, by rw [lsI_succ]; simpa using hown1, hb1, hbs1, HNX.out⟩
          case measure => simp [intOf]; omega
    · have hkn : k = n := by omega
      subst hkn
      go_wp2
      go_ret2
      refine .inr ⟨?_, _, rfl, ?_, hb2.trans (hb.mono hws)⟩
      · have := HO.out
        rw [E2.out, List.take_length] at this
        unfold chOk; rw [this]; rfl
      · rw [← E1.out]; exact ((Row.mk' hown).bounds hws (Nat.le_refl _)).own
theorem impl_CodesBy (w : World) (a1 : Option Addr) (c1 : Nat) (xs : List Nat) (h1 : F32s w a1 c1 xs) (sp : Nat) (a2 : Option Addr) (c2 : Nat) (ch : List Int) (h2 : Ints .i64 w a2 c2 ch) (hsp : sp < 4294967296) (hl : ch.length ≤ 1048576) :
    Calls Try.prog 27 #[.slice a1 xs.length c1, .float .f32 sp, .slice a2 ch.length c2] w fun e w' => ∃ (ad : Option Addr) (n cap : Nat) (ys : List Int) (b : Bool), e = .returned (.tuple #[.slice ad n cap, .bool b]) ∧
      RepI w' w.heap.size w'.heap.size ad n cap ys ∧ ys = (if byOk xs sp ch = true then lsI xs.length (codeE (WBy ch) xs sp) else []) ∧ n ≤ 1048576 ∧ b = byOk xs sp ch ∧ Below w.heap.size w w' := by
  cases hok : byOk xs sp ch
  · exact (impl_CodesBy_no w a1 c1 xs h1 sp hsp a2 c2 ch h2 hl hok).mono fun e w' ⟨he, hb⟩ => ⟨none, 0, 0, [], false, he, RepI.nil _ _ _, rfl, by omega, rfl, hb⟩
  · refine (impl_CodesBy_yes w a1 c1 xs h1 sp hsp a2 c2 ch h2 hl hok).mono fun e w' ⟨v, he, ho, hb⟩ => ?_
    exact codes_rep (by simp only [byOk, Bool.and_eq_true] at hok; exact hok.1) hsp h1.lt (fun i q hq => WBy_ok hq) he ho hb
theorem spec_CodesBy (w : World) (a1 : Option Addr) (c1 : Nat) (xs : List Nat) (h1 : F32s w a1 c1 xs) (sp : Nat) (a2 : Option Addr) (c2 : Nat) (ch : List Int) (h2 : Ints .i64 w a2 c2 ch) (hsp : sp < 4294967296) (hl : ch.length ≤ 1048576) :
    Calls Try.prog 25 #[.slice a1 xs.length c1, .float .f32 sp, .slice a2 ch.length c2] w fun e w' => ∃ (ad : Option Addr) (n cap : Nat) (ys : List Int) (b : Bool), e = .returned (.tuple #[.slice ad n cap, .bool b]) ∧
      RepI w' w.heap.size w'.heap.size ad n cap ys ∧ ys = (if byOk xs sp ch = true then lsI xs.length (codeE (WBy ch) xs sp) else []) ∧ n ≤ 1048576 ∧ b = byOk xs sp ch ∧ Below w.heap.size w w' := by
  cases h3 : (cdOk xs sp && decide (ch.length = xs.length))
  · have hok : byOk xs sp ch = false := by
      unfold byOk
      cases h4 : cdOk xs sp <;> simp [h4] at h3 ⊢
      intro h5; exact absurd h5 h3
    rw [hok]
    exact (spec_CodesBy_no w a1 c1 xs h1 sp hsp a2 c2 ch h2 hl h3).mono fun e w' ⟨he, hb⟩ => ⟨none, 0, 0, [], false, he, RepI.nil _ _ _, rfl, by omega, rfl, hb⟩
  · simp only [Bool.and_eq_true, decide_eq_true_eq] at h3
    refine (spec_CodesBy_go w a1 c1 xs h1 sp hsp a2 c2 ch h2 h3.2 h3.1).mono fun e w' hp => ?_
    have hby : byOk xs sp ch = chOk ch := by unfold byOk; rw [h3.1, decide_eq_true h3.2]; rfl
    rw [hby]
    rcases hp with ⟨hc, he, hb⟩ | ⟨hc, v, he, ho, hb⟩
    · rw [hc]; exact ⟨none, 0, 0, [], false, he, RepI.nil _ _ _, rfl, by omega, rfl, hb⟩
    · rw [hc]; exact codes_rep h3.1 hsp h1.lt (fun i q hq => WBy_ok hq) he ho hb
end Go.Proofs.Ytlalocjfjnghmaa
