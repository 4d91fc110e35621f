/- What the codes of numbers are. No condition. -/
import Derived.Test.YtaocilimggpdjaaQb
import Derived.Test.YtaocilimggpdjaaSlI
import Derived.Test.YtaocilimggpdjaaSpr
namespace Go.Proofs.Ytaocilimggpdjaa
open Go Go.RowKit Ieee
set_option linter.unusedVariables false
set_option linter.unusedSimpArgs false
def lsI (n : Nat) (f : Nat → Int) : List Int := (List.range n).map f
theorem lsI_succ (k : Nat) (f : Nat → Int) : lsI (k + 1) f = lsI k f ++ [f k] := by simp [lsI, List.range_succ]
theorem lsI_length (n : Nat) (f : Nat → Int) : (lsI n f).length = n := by simp [lsI]
/-- the quotient of two numbers as 64-bit numbers -/
def qE (x sp : Nat) : Nat := fop .quo .f64 (fcv .f32 x .f64) (fcv .f32 sp .f64)
theorem spread_pos {sp : Nat} (hs : sp < 4294967296) (h : spreadOk sp = true) : sp < single.infRung := by
  unfold spreadOk at h
  simp only [Bool.and_eq_true, decide_eq_true_eq] at h
  have h1 := ge_zero_sign hs h.1.2
  rw [decide_eq_true h.2] at h1
  have h2 : sp < 2147483648 := of_decide_eq_true h1
  have := fin_rung (neg := false) (r := sp) (by rw [s_sw]; exact h2) h.1.1
  exact this
theorem fcv_word (s : Bool) {r : Nat} (hr : r < single.infRung) : ∃ q, q < double.infRung ∧ (∀ w, cvbits .f32 (single.word s r) .f64 w = double.word s q) ∧ fcv .f32 (single.word s r) .f64 = double.word s q ∧ nval double q = nval single r * 2 ^ 925 := by
  obtain ⟨q, h1, h2, h3⟩ := wide_fin s hr
  refine ⟨q, h1, h2, ?_, h3⟩
  have hn : isN .f32 (single.word s r) = false := read_word_le single s (by omega)
  have e := cn_wide (single.word s r) (default : World)
  rw [cn_not hn, h2, cn_not (show isN .f64 (double.word s q) = false from read_word_le double s (by omega))] at e
  exact e.symm
theorem quo_some {s t : Bool} {a b : Nat} (ha : a < double.infRung) (hb : b < double.infRung) (h0 : b ≠ 0) : ∃ r, floatBits .quo .f64 (double.word s a) (double.word t b) = some r := by
  obtain ⟨m, p, h1, h2, h3⟩ := read_fin double s ha
  obtain ⟨n, q, k1, k2, k3⟩ := read_fin double t hb
  have hn : n ≠ 0 := by
    intro e
    subst e
    have := nval_lt (f := double) (show 0 < b by omega)
    rw [nval_zero, ← k3] at this
    simp at this
  unfold floatBits
  simp only
  show ∃ r, ((double.read (double.word s a)).quotient _ (double.read (double.word t b))).map _ = some r
  rw [h1, k1]
  unfold Datum.quotient
  simp only [if_neg hn]
  exact ⟨_, rfl⟩
set_option exponentiation.threshold 2000 in
theorem quo_at {x sp : Nat} (hx : x < 4294967296) (hf : finB x = true) (hs : sp < 4294967296) (hsp : spreadOk sp = true) (h0 : 0 < sp) :
    (∀ w1 w2 w3, fbits .quo .f64 (cvbits .f32 x .f64 w1) (cvbits .f32 sp .f64 w2) w3 = qE x sp) ∧ isN .f64 (qE x sp) = false ∧ qE x sp < 18446744073709551616 := by
  obtain ⟨s, r, e, hr⟩ := word_of single (x := x) (by rw [s_sw]; omega)
  rw [e] at hf
  have hr2 := fin_rung hr hf
  obtain ⟨a, ha, ha1, ha2, _⟩ := fcv_word s hr2
  obtain ⟨b, hb, hb1, hb2, hb3⟩ := fcv_word false (spread_pos hs hsp)
  have hb0 : b ≠ 0 := by
    intro e0
    subst e0
    have := nval_lt (f := single) h0
    rw [nval_zero] at this hb3
    have : 0 < nval single sp * 2 ^ 925 := Nat.mul_pos this (Nat.two_pow_pos _)
    omega
  obtain ⟨q, hq⟩ := quo_some (s := s) (t := false) ha hb hb0
  have e1 : ∀ w, cvbits .f32 sp .f64 w = double.word false b := hb1
  have e2 : fcv .f32 sp .f64 = double.word false b := hb2
  have e3 : qE x sp = q := by unfold qE fop; rw [e, ha2, e2, hq]; rfl
  refine ⟨fun w1 w2 w3 => ?_, by rw [e3]; exact (bits_not hq).2.2, ?_⟩
  · rw [e, ha1, e1, fbits_some hq, ← e3, e]
  · rw [e3]
    have := floatBits_wf hq
    simpa [Lit.wf] using this
def WOf (_ : Nat) (q : Nat) : Nat := whole .even q
def WBy (ch : List Int) (i q : Nat) : Nat :=
  if FloatKind.f64.format.order (fop .mul .f64 (fop .sub .f64 q (whole .down q)) 4643211215818981376) (floatOfInt .f64 (ch.getD i 0)) = some .gt then fop .add .f64 (whole .down q) 4607182418800017408 else whole .down q
theorem whole_lt (way : Toward) {q : Nat} (h : isN .f64 q = false) : whole way q < 18446744073709551616 := by
  unfold whole
  cases hr : double.read q with
  | nan s t => unfold isN at h; rw [show FloatKind.f64.format.read q = _ from hr] at h; cases h
  | infinity s => cases way <;> cases s <;> decide +kernel
  | number s m p => exact Nat.lt_of_lt_of_le (double.nearest_lt _ _ _) (by decide +kernel)
theorem one_some {n : Nat} (h : isN .f64 n = false) : ∃ r, floatBits .add .f64 n 4607182418800017408 = some r := by
  unfold floatBits
  simp only
  show ∃ r, ((double.read n).sum (double.read 4607182418800017408)).map _ = some r
  have h1 : double.read 4607182418800017408 = .number false (2 ^ 52) (-52) := by decide +kernel
  rw [h1]
  cases hr : double.read n with
  | nan s t => unfold isN at h; rw [show FloatKind.f64.format.read n = _ from hr] at h; cases h
  | infinity s => exact ⟨_, rfl⟩
  | number s m p => exact ⟨_, rfl⟩
theorem WOf_ok {i q : Nat} (h : isN .f64 q = false) : isN .f64 (WOf i q) = false ∧ WOf i q < 18446744073709551616 := ⟨whole_not .even h, whole_lt .even h⟩
theorem WBy_ok {ch : List Int} {i q : Nat} (h : isN .f64 q = false) : isN .f64 (WBy ch i q) = false ∧ WBy ch i q < 18446744073709551616 := by
  unfold WBy
  split
  · obtain ⟨r, hr⟩ := one_some (whole_not .down h)
    have e : fop .add .f64 (whole .down q) 4607182418800017408 = r := by unfold fop; rw [hr]; rfl
    rw [e]
    have := floatBits_wf hr
    exact ⟨(bits_not hr).2.2, by simpa [Lit.wf] using this⟩
  · exact ⟨whole_not .down h, whole_lt .down h⟩
theorem by_cmp (q f : Nat) (y : Int) : ∀ w1 w2, FloatKind.f64.format.order (fbits .mul .f64 (fbits .sub .f64 q f w1) 4643211215818981376 w2) (floatOfInt .f64 y) = FloatKind.f64.format.order (fop .mul .f64 (fop .sub .f64 q f) 4643211215818981376) (floatOfInt .f64 y) := by
  intro w1 w2
  have e1 : cn .f64 (fbits .mul .f64 (fbits .sub .f64 q f w1) 4643211215818981376 w2) = fop .mul .f64 (fop .sub .f64 (cn .f64 q) (cn .f64 f)) (cn .f64 4643211215818981376) := by rw [cn_fbits, cn_fbits]
  have e2 : cn .f64 (fop .mul .f64 (fop .sub .f64 q f) 4643211215818981376) = fop .mul .f64 (fop .sub .f64 q f) 4643211215818981376 := cn_fop _ _ _ _
  have e3 : fop .mul .f64 (fop .sub .f64 (cn .f64 q) (cn .f64 f)) (cn .f64 4643211215818981376) = fop .mul .f64 (fop .sub .f64 q f) 4643211215818981376 := by
    rw [fop_cn .sub]
    conv => lhs; rw [← cn_fop .sub, fop_cn]
  rw [← order_cn, e1, e3, ← order_cn .f64 (fop _ _ _ _), e2, cn_floatOfInt, cn_floatOfInt]
/-- the code of a number -/
def codeE (Wf : Nat → Nat → Nat) (xs : List Nat) (sp i : Nat) : Int := if sp = 0 then 0 else clampI (Wf i (qE (xs.getD i 0) sp))
theorem codeE_bd {Wf : Nat → Nat → Nat} (hW : ∀ i q, isN .f64 q = false → isN .f64 (Wf i q) = false ∧ Wf i q < 18446744073709551616) {xs : List Nat} {sp : Nat} (hs : sp < 4294967296) (hsp : spreadOk sp = true) (hx : ∀ x ∈ xs, x < 4294967296) (hf : ∀ x ∈ xs, finB x = true) {i : Nat} (hi : i < xs.length) :
    -127 ≤ codeE Wf xs sp i ∧ codeE Wf xs sp i ≤ 127 := by
  unfold codeE
  split
  · decide
  · rename_i h0
    have hm : xs.getD i 0 ∈ xs := by rw [List.getD_eq_getElem?_getD, List.getElem?_eq_getElem hi]; exact List.getElem_mem hi
    have hq := (quo_at (hx _ hm) (hf _ hm) hs hsp (by omega)).2.1
    obtain ⟨_, _, _, _, _, h1, h2⟩ := clamp_ok (hW i _ hq).1 (hW i _ hq).2
    exact ⟨h1, h2⟩
theorem wf_code {n : Int} (h : -127 ≤ n ∧ n ≤ 127) : (Lit.int .i64 n).wf = true := by
  simp [Lit.wf, IntKind.min, IntKind.max, IntKind.signed, IntKind.bits]; omega
theorem run_even_ext (x : Nat) (hx : isN .f64 x = false) (w : World) : (callFunc 116 #[.float .f64 x]).run Try.prog w = .ok (.value (.float .f64 (whole .even x))) w := by
  rw [run_callFunc_extern (show Try.prog.funcs[116]? = some Try.f116 by kernel_rfl) (by kernel_rfl) (by kernel_rfl) (by kernel_rfl) (e := Extern.MathFloor.toIntegral "math.RoundToEven" .even) (by kernel_rfl), run_whole _ _ _ _ hx]
  rfl
theorem run_floor_ext (x : Nat) (hx : isN .f64 x = false) (w : World) : (callFunc 157 #[.float .f64 x]).run Try.prog w = .ok (.value (.float .f64 (whole .down x))) w := by
  rw [run_callFunc_extern (show Try.prog.funcs[157]? = some Try.f157 by kernel_rfl) (by kernel_rfl) (by kernel_rfl) (by kernel_rfl) (e := Extern.MathFloor.toIntegral "math.archFloor" .down) (by kernel_rfl), run_whole _ _ _ _ hx]
  rfl
theorem math_Floor (x : Nat) (hx : isN .f64 x = false) (w : World) : Calls Try.prog 127 #[.float .f64 x] w fun e w' => e = .returned (.float .f64 (whole .down x)) ∧ w = w' := by
  have hd := run_floor_ext x hx
  have HX := Lib.hid hx; clear hx
  go_enter Try.func127, Try.ntmps127
  go_wp2
  go_ret
  exact ⟨rfl, rfl⟩
theorem impl_CodesOf_1 (i : Int) (q : Nat) (hq : isN .f64 q = false) (w : World) : Calls Try.prog 115 #[.int .i64 i, .float .f64 q] w fun e w' => e = .returned (.float .f64 (whole .even q)) ∧ Dr w w' := by
  have hd := run_even_ext q hq
  have HQ := Lib.hid hq; clear hq
  go_enter Try.func115, Try.ntmps115
  go_wp2
  go_ret
  exact ⟨rfl, Dr.refl _⟩
theorem impl_CodesBy_2 (w : World) (g : Nat) (ad : Option Addr) (cap : Nat) (ch : List Int) (h : Ints .i64 w ad cap ch) (hg : w.cell? ⟨g, 0, none⟩ = some (.slice ad ch.length cap)) (i : Nat) (hi : i < ch.length) (q : Nat) (hq : isN .f64 q = false) :
    Calls Try.prog 126 #[.int .i64 i, .float .f64 q, .pointer (some ⟨g, 0, none⟩)] w fun e w' => e = .returned (.float .f64 (WBy ch i q)) ∧ Dr w w' := by
  obtain ⟨b, off, rfl, _, hc⟩ := h.spot (i := i) hi
  have hcell := hc i hi
  have hm := Nat.le_trans h.len h.cap
  unfold maxLen at hm
  obtain ⟨r, hr⟩ := one_some (whole_not .down hq)
  have hadd := fun w => fbits_some hr w
  have hadd0 := fdr_some hr
  have hz := World.drewN_none
  have er : fop .add .f64 (whole .down q) 4607182418800017408 = r := by unfold fop; rw [hr]; rfl
  obtain ⟨f, hf⟩ : ∃ f, f = whole .down q := ⟨_, rfl⟩
  have hfl := fun W => math_Floor q hq W
  have hcmp : ∀ w1 w2, FloatKind.f64.format.order (fbits .mul .f64 (fbits .sub .f64 q f w1) 4643211215818981376 w2) (floatOfInt .f64 (ch.getD i 0)) = FloatKind.f64.format.order (fop .mul .f64 (fop .sub .f64 q f) 4643211215818981376) (floatOfInt .f64 (ch.getD i 0)) := by
    intro w1 w2
    have e1 : cn .f64 (fbits .mul .f64 (fbits .sub .f64 q f w1) 4643211215818981376 w2) = fop .mul .f64 (fop .sub .f64 (cn .f64 q) (cn .f64 f)) (cn .f64 4643211215818981376) := by rw [cn_fbits, cn_fbits]
    have e2 : cn .f64 (fop .mul .f64 (fop .sub .f64 q f) 4643211215818981376) = fop .mul .f64 (fop .sub .f64 q f) 4643211215818981376 := cn_fop _ _ _ _
    have e3 : fop .mul .f64 (fop .sub .f64 (cn .f64 q) (cn .f64 f)) (cn .f64 4643211215818981376) = fop .mul .f64 (fop .sub .f64 q f) 4643211215818981376 := by
      rw [fop_cn .sub]
      conv => lhs; rw [← cn_fop .sub, fop_cn]
    rw [← order_cn, e1, e3, ← order_cn .f64 (fop _ _ _ _), e2, cn_floatOfInt, cn_floatOfInt]
  have hW : WBy ch i q = if FloatKind.f64.format.order (fop .mul .f64 (fop .sub .f64 q f) 4643211215818981376) (floatOfInt .f64 (ch.getD i 0)) = some .gt then r else f := by unfold WBy; rw [← hf]; rw [← hf] at er; rw [er]
  rw [← hf] at hfl hadd hadd0
  obtain ⟨cc, hcc⟩ : ∃ cc, cc = ch.getD i 0 := ⟨_, rfl⟩
  rw [← hcc] at hcell hcmp hW
  obtain ⟨n, hn⟩ : ∃ n, n = ch.length := ⟨_, rfl⟩
  rw [← hn] at hi hm hg
  obtain ⟨D, hD⟩ : ∃ D, D = FloatKind.f64.format.order (fop .mul .f64 (fop .sub .f64 q f) 4643211215818981376) (floatOfInt .f64 cc) := ⟨_, rfl⟩
  rw [← hD] at hcmp hW
  have HW := Lib.hid hW; have HF := Lib.hid hfl
  clear hW hD hn hcc hf er hr hq h hc hfl
  by_cases hgt : D = some .gt
  · subst hgt
    go_enter Try.func126, Try.ntmps126
    go_wp2_with fail
    refine (HF.out _).mono ?_
    rintro e w1 ⟨rfl, rfl⟩
    go_wp2
    go_ret
    exact ⟨by rw [HW.out]; simp, _, rfl⟩
  · have hgt2 : (D == some .gt) = false := by simpa using hgt
    go_enter Try.func126, Try.ntmps126
    go_wp2_with fail
    refine (HF.out _).mono ?_
    rintro e w1 ⟨rfl, rfl⟩
    go_wp2
    go_ret
    exact ⟨by rw [HW.out, if_neg hgt]; rfl, _, rfl⟩
end Go.Proofs.Ytaocilimggpdjaa
