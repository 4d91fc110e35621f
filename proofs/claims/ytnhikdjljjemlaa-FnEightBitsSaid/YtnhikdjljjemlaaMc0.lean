/- Joined texts 0: Flt Fl2 Fl3 Fl4 Fl5 Fl6 Qa Qc Qd. Each is told at its own head. No condition. -/
import Derived.WalkLawsBesides
import Derived.Laws.EntriesVeiled
import Derived.Deep.Draws
import Derived.Laws.BitsAllLaws
import Derived.Laws.Runes
/- Plain laws of floats: a number up to which NaN it is ('cn'), the four operations, conversions and comparisons on such numbers. No condition. -/
namespace Go.Proofs.Ytnhikdjljjemlaa
open Go Ieee

def nanOf : FloatKind → Nat
  | .f32 => 2143289344
  | .f64 => 9221120237041090560
def isN (k : FloatKind) (x : Nat) : Bool := (k.format.read x).isNaN
/-- a number, all NaNs being one -/
def cn (k : FloatKind) (x : Nat) : Nat := if isN k x = true then nanOf k else x

def fop (op : BinOp) (k : FloatKind) (x y : Nat) : Nat := (floatBits op k x y).getD (nanOf k)
def fbits (op : BinOp) (k : FloatKind) (x y : Nat) (w : World) : Nat := (floatBits op k x y).getD ((Question.nanBits k x y).cut (w.tape w.drawn (.nanBits k x y)))
def fdr (op : BinOp) (k : FloatKind) (x y : Nat) : Nat := if (floatBits op k x y).isSome then 0 else 1

theorem World.drewN_none (w : World) : w.drewN 0 = w := rfl

theorem run_fl {P : Program} (w : World) (op : BinOp) (t : TypeId) (k : FloatKind) (x y : Nat) (ho : op = .add ∨ op = .sub ∨ op = .mul ∨ op = .quo) :
    (binOp op t (.float k x) (.float k y)).run P w = .ok (.float k (fbits op k x y w)) (w.drewN (fdr op k x y)) := by
  cases h : floatBits op k x y with
  | some r => simp only [fbits, fdr, h, Option.getD_some, Option.isSome_some, if_true]; exact run_float_arith w op t k x y r h
  | none =>
    simp only [fbits, fdr, h, Option.getD_none, Option.isSome_none]
    unfold floatBits at h
    rcases ho with rfl | rfl | rfl | rfl
    all_goals
      simp only at h
      simp [binOp, Op.floatArith, h, choose, Sem.run, Question.forced, World.drewN]

section
variable {P : Program} (w : World) (t : TypeId) (k : FloatKind) (x y : Nat)
@[go_sem] theorem run_fl_add : (binOp .add t (.float k x) (.float k y)).run P w = .ok (.float k (fbits .add k x y w)) (w.drewN (fdr .add k x y)) := run_fl w _ t k x y (by simp)
@[go_sem] theorem run_fl_sub : (binOp .sub t (.float k x) (.float k y)).run P w = .ok (.float k (fbits .sub k x y w)) (w.drewN (fdr .sub k x y)) := run_fl w _ t k x y (by simp)
@[go_sem] theorem run_fl_mul : (binOp .mul t (.float k x) (.float k y)).run P w = .ok (.float k (fbits .mul k x y w)) (w.drewN (fdr .mul k x y)) := run_fl w _ t k x y (by simp)
@[go_sem] theorem run_fl_quo : (binOp .quo t (.float k x) (.float k y)).run P w = .ok (.float k (fbits .quo k x y w)) (w.drewN (fdr .quo k x y)) := run_fl w _ t k x y (by simp)
end

@[go_sem] theorem run_store_float (P : Program) (w : World) (a : Addr) (m : Mode) (k : FloatKind) (n : Nat) : (store a (.float k n) m).run P w = stored P w a (.float k n) m := run_store P w a _ m rfl

/-! what a word reads as -/
theorem word_div (f : Format) (neg : Bool) {r : Nat} (h : r < f.signWeight) : f.word neg r / f.signWeight % 2 = neg.toNat := by
  have hp : 0 < f.signWeight := Nat.two_pow_pos _
  unfold Format.word
  cases neg
  · simp [Nat.div_eq_of_lt h]
  · simp only [if_true, Bool.toNat_true]
    rw [Nat.add_div_left _ hp, Nat.div_eq_of_lt h]
theorem word_mod (f : Format) (neg : Bool) {r : Nat} (h : r < f.signWeight) : f.word neg r % f.signWeight = r := by
  unfold Format.word
  cases neg
  · simp [Nat.mod_eq_of_lt h]
  · simp only [if_true]
    rw [Nat.add_mod_left, Nat.mod_eq_of_lt h]
theorem read_word (f : Format) (neg : Bool) {r : Nat} (h : r < f.signWeight) : f.read (f.word neg r) =
    if r < f.binade then .number neg r f.leastPlace
    else if r < f.infRung then .number neg (f.binade + r % f.binade) (f.leastPlace + (r / f.binade - 1 : Nat))
    else if r = f.infRung then .infinity neg
    else .nan neg (r - f.infRung) := by
  unfold Format.read
  simp only [word_div f neg h, word_mod f neg h]
  cases neg <;> rfl
theorem read_word_le (f : Format) (neg : Bool) {r : Nat} (h : r ≤ f.infRung) : (f.read (f.word neg r)).isNaN = false := by
  rw [read_word f neg (Nat.lt_of_le_of_lt h f.infRung_lt)]
  split
  · rfl
  · split
    · rfl
    · rw [if_pos (by omega)]; rfl
theorem nearest_not (f : Format) (neg : Bool) (m : Nat) (p : Int) : (f.read (f.nearest neg m p)).isNaN = false := by
  unfold Format.nearest
  split
  · exact read_word_le f neg (Nat.zero_le _)
  · exact read_word_le f neg (Nat.min_le_right ..)
theorem write_not (f : Format) {d : Datum} (h : d.isNaN = false) : (f.read (f.write d)).isNaN = false := by
  cases d with
  | number s m p => exact nearest_not f s m p
  | infinity s => exact read_word_le f s (Nat.le_refl _)
  | nan s t => simp [Datum.isNaN] at h

theorem sum_not {a b d : Datum} (h : a.sum b = some d) : a.isNaN = false ∧ b.isNaN = false ∧ d.isNaN = false := by
  cases a <;> cases b <;> simp [Datum.sum, Datum.isNaN] at h ⊢
  all_goals first | (obtain ⟨_, h⟩ := h; subst h; rfl) | (subst h; rfl)
theorem opposite_not (a : Datum) : a.opposite.isNaN = a.isNaN := by cases a <;> rfl
theorem product_not {a b d : Datum} (h : a.product b = some d) : a.isNaN = false ∧ b.isNaN = false ∧ d.isNaN = false := by
  cases a <;> cases b <;> simp [Datum.product, Datum.isNaN] at h ⊢ <;> first | (obtain ⟨_, h⟩ := h; subst h; rfl) | (subst h; rfl)
theorem quotient_not {n : Nat} {a b d : Datum} (h : a.quotient n b = some d) : a.isNaN = false ∧ b.isNaN = false ∧ d.isNaN = false := by
  cases a <;> cases b <;> simp [Datum.quotient, Datum.isNaN] at h ⊢
  all_goals first | (subst h; rfl) | skip
  split at h
  · split at h
    · cases h
    · cases h; rfl
  · cases h; rfl
theorem map_write_not (f : Format) {o : Option Datum} {r : Nat} (ho : ∀ d, o = some d → d.isNaN = false) (h : o.map f.write = some r) : (f.read r).isNaN = false := by
  cases o with
  | none => cases h
  | some d => cases h; exact write_not f (ho d rfl)
theorem bits_not {op : BinOp} {k : FloatKind} {x y r : Nat} (h : floatBits op k x y = some r) : isN k x = false ∧ isN k y = false ∧ isN k r = false := by
  unfold floatBits at h
  have key : ∀ (o : Option Datum), o.map k.format.write = some r → ∃ d, o = some d := fun o ho => by cases o with | none => cases ho | some d => exact ⟨d, rfl⟩
  split at h
  · obtain ⟨d, hd⟩ := key _ h; obtain ⟨h1, h2, h3⟩ := sum_not hd
    exact ⟨h1, h2, map_write_not _ (fun d' e => by rw [hd] at e; cases e; exact h3) h⟩
  · obtain ⟨d, hd⟩ := key _ h; obtain ⟨h1, h2, h3⟩ := sum_not hd
    exact ⟨h1, by rw [opposite_not] at h2; exact h2, map_write_not _ (fun d' e => by rw [hd] at e; cases e; exact h3) h⟩
  · obtain ⟨d, hd⟩ := key _ h; obtain ⟨h1, h2, h3⟩ := product_not hd
    exact ⟨h1, h2, map_write_not _ (fun d' e => by rw [hd] at e; cases e; exact h3) h⟩
  · obtain ⟨d, hd⟩ := key _ h; obtain ⟨h1, h2, h3⟩ := quotient_not hd
    exact ⟨h1, h2, map_write_not _ (fun d' e => by rw [hd] at e; cases e; exact h3) h⟩
  · cases h

theorem cn_not {k : FloatKind} {x : Nat} (h : isN k x = false) : cn k x = x := by simp [cn, h]
theorem cn_nan {k : FloatKind} {x : Nat} (h : isN k x = true) : cn k x = nanOf k := by simp [cn, h]
theorem isN_nanOf (k : FloatKind) : isN k (nanOf k) = true := by cases k <;> decide +kernel
theorem isN_cn (k : FloatKind) (x : Nat) : isN k (cn k x) = isN k x := by
  cases h : isN k x
  · rw [cn_not h, h]
  · rw [cn_nan h, isN_nanOf]
theorem cn_cn (k : FloatKind) (x : Nat) : cn k (cn k x) = cn k x := by
  cases h : isN k x
  · rw [cn_not h, cn_not h]
  · rw [cn_nan h, cn_nan (isN_nanOf k)]
theorem cn_nanOf (k : FloatKind) : cn k (nanOf k) = nanOf k := cn_nan (isN_nanOf k)

theorem bits_none_left {op : BinOp} {k : FloatKind} {x y : Nat} (h : isN k x = true) : floatBits op k x y = none := by
  cases e : floatBits op k x y with
  | none => rfl
  | some r => have := (bits_not e).1; rw [h] at this; cases this
theorem bits_none_right {op : BinOp} {k : FloatKind} {x y : Nat} (h : isN k y = true) : floatBits op k x y = none := by
  cases e : floatBits op k x y with
  | none => rfl
  | some r => have := (bits_not e).2.1; rw [h] at this; cases this
theorem bits_cn (op : BinOp) (k : FloatKind) (x y : Nat) : floatBits op k (cn k x) (cn k y) = floatBits op k x y := by
  cases hx : isN k x
  · cases hy : isN k y
    · rw [cn_not hx, cn_not hy]
    · rw [bits_none_right hy, bits_none_right (by rw [isN_cn, hy])]
  · rw [bits_none_left hx, bits_none_left (by rw [isN_cn, hx])]
theorem fop_cn (op : BinOp) (k : FloatKind) (x y : Nat) : fop op k (cn k x) (cn k y) = fop op k x y := by unfold fop; rw [bits_cn]
theorem cn_fop (op : BinOp) (k : FloatKind) (x y : Nat) : cn k (fop op k x y) = fop op k x y := by
  unfold fop
  cases h : floatBits op k x y with
  | none => exact cn_nanOf k
  | some r => exact cn_not (bits_not h).2.2

theorem read_high (f : Format) (hb : f.binade ≤ f.infRung) (neg : Bool) (r : Nat) (h1 : f.infRung < r) (h2 : r < f.signWeight) : (f.read (f.word neg r)).isNaN = true := by
  rw [read_word f _ h2, if_neg (by omega), if_neg (by omega), if_neg (by omega)]; rfl
theorem drawn_nan (k : FloatKind) (x y t : Nat) : isN k ((Question.nanBits k x y).cut t) = true := by
  cases k
  · have h2 := Nat.mod_lt (t / 2) (show 0 < 2 ^ 23 - 1 by omega)
    have e1 : single.infRung = 0x7f800000 := by decide +kernel
    have e2 : single.signWeight = 2 ^ 31 := by decide +kernel
    have e3 : single.binade = 2 ^ 23 := by decide +kernel
    have key := read_high single (by omega) (t % 2 == 1) (0x7f800000 + 1 + (t / 2) % (2 ^ 23 - 1)) (by omega) (by omega)
    have e : single.word (t % 2 == 1) (0x7f800000 + 1 + (t / 2) % (2 ^ 23 - 1)) = (Question.nanBits .f32 x y).cut t := by
      unfold Format.word
      simp only [Question.cut, e2]
      have := Nat.mod_two_eq_zero_or_one t
      rcases this with h | h <;> simp [h] <;> omega
    rw [e] at key; exact key
  · have h2 := Nat.mod_lt (t / 2) (show 0 < 2 ^ 52 - 1 by omega)
    have e1 : double.infRung = 0x7ff0000000000000 := by decide +kernel
    have e2 : double.signWeight = 2 ^ 63 := by decide +kernel
    have e3 : double.binade = 2 ^ 52 := by decide +kernel
    have key := read_high double (by omega) (t % 2 == 1) (0x7ff0000000000000 + 1 + (t / 2) % (2 ^ 52 - 1)) (by omega) (by omega)
    have e : double.word (t % 2 == 1) (0x7ff0000000000000 + 1 + (t / 2) % (2 ^ 52 - 1)) = (Question.nanBits .f64 x y).cut t := by
      unfold Format.word
      simp only [Question.cut, e2]
      have := Nat.mod_two_eq_zero_or_one t
      rcases this with h | h <;> simp [h] <;> omega
    rw [e] at key; exact key

/-- what an operation leaves, up to which NaN -/
theorem cn_fbits (op : BinOp) (k : FloatKind) (x y : Nat) (w : World) : cn k (fbits op k x y w) = fop op k (cn k x) (cn k y) := by
  rw [fop_cn]
  unfold fbits fop
  cases h : floatBits op k x y with
  | none => exact cn_nan (drawn_nan k x y _)
  | some r => exact cn_not (bits_not h).2.2

theorem drawn_lt (k : FloatKind) (x y t : Nat) : (Question.nanBits k x y).cut t < 2 ^ k.format.width := by
  cases k
  · simp only [Question.cut]
    have h1 := Nat.mod_lt t (show 0 < 2 by omega)
    have h2 := Nat.mod_lt (t / 2) (show 0 < 2 ^ 23 - 1 by omega)
    show _ < 2 ^ 32
    omega
  · simp only [Question.cut]
    have h1 := Nat.mod_lt t (show 0 < 2 by omega)
    have h2 := Nat.mod_lt (t / 2) (show 0 < 2 ^ 52 - 1 by omega)
    show _ < 2 ^ 64
    omega
theorem fbits_lt (op : BinOp) (k : FloatKind) (x y : Nat) (w : World) : fbits op k x y w < 2 ^ k.format.width := by
  unfold fbits
  cases h : floatBits op k x y with
  | none => exact drawn_lt k x y _
  | some r =>
    have := floatBits_wf h
    cases k
    · show r < 2 ^ 32
      simpa [Lit.wf] using this
    · show r < 2 ^ 64
      simpa [Lit.wf] using this

/-! comparisons -/
theorem order_none {k : FloatKind} {x y : Nat} (h : isN k x = true ∨ isN k y = true) : k.format.order x y = none := by
  unfold Format.order
  unfold isN at h
  cases hx : k.format.read x <;> cases hy : k.format.read y <;> simp [hx, hy, Datum.isNaN] at h <;> rfl
theorem order_cn (k : FloatKind) (x y : Nat) : k.format.order (cn k x) (cn k y) = k.format.order x y := by
  cases hx : isN k x
  · cases hy : isN k y
    · rw [cn_not hx, cn_not hy]
    · rw [order_none (.inr hy), order_none (.inr (by rw [isN_cn, hy]))]
  · rw [order_none (.inl hx), order_none (.inl (by rw [isN_cn, hx]))]
theorem order_self (k : FloatKind) (x : Nat) : k.format.order x x = if isN k x = true then none else some .eq := by
  unfold Format.order isN
  cases h : k.format.read x with
  | nan s t => rfl
  | infinity s => simp [Datum.order, Datum.isNaN]
  | number s m p => simp [Datum.order, Datum.isNaN]

/-! conversions between the two kinds -/
def cvbits (src : FloatKind) (b : Nat) (dst : FloatKind) (w : World) : Nat :=
  if src = dst then b else
  match src.decode b with
  | .nan _ _ => (Question.nanConv dst b).cut (w.tape w.drawn (.nanConv dst b))
  | .infinity s => dst.encode (.infinity s)
  | .number s m e => if (dst.decode (dst.encode (.number s m e))).isInfinity then (Question.floatToFloat b).cut (w.tape w.drawn (.floatToFloat b)) else dst.encode (.number s m e)
def cvdr (src : FloatKind) (b : Nat) (dst : FloatKind) : Nat := if (floatToFloatBits src b dst).isSome then 0 else 1
/-- the same as a function; where the language fixes no value: 0 -/
def fcv (src : FloatKind) (b : Nat) (dst : FloatKind) : Nat :=
  if src = dst then cn dst b else
  match src.decode b with
  | .nan _ _ => nanOf dst
  | d => dst.encode d
/-- a finite number that the narrower kind has not -/
def cvWide (src : FloatKind) (b : Nat) (dst : FloatKind) : Bool :=
  if src = dst then false else
  match src.decode b with
  | .number s m e => (dst.decode (dst.encode (.number s m e))).isInfinity
  | _ => false

@[go_sem] theorem run_cv {P : Program} (w : World) (src dst : TypeId) (s k : FloatKind) (b : Nat) (hs : (P.underlying src).isSome = true) (hd : P.underlying dst = some (.float k)) :
    (convert src dst (.float s b)).run P w = .ok (.float k (cvbits s b k w)) (w.drewN (cvdr s b k)) := by
  cases h : floatToFloatBits s b k with
  | some r =>
    have hr := run_convert_float_float (P := P) w src dst s k b r hs hd h
    rw [hr]
    have e1 : cvdr s b k = 0 := by simp [cvdr, h]
    have e2 : cvbits s b k w = r := by
      unfold floatToFloatBits at h
      unfold cvbits
      split at h
      · rename_i e; rw [if_pos e]; exact Option.some.inj h
      · rename_i e; rw [if_neg e]
        split at h
        · cases h
        · rename_i sg he; simp only [he]; exact Option.some.inj h
        · rename_i sg m ex he
          split at h
          · cases h
          · rename_i ho; simp only [he]; rw [if_neg ho]; exact Option.some.inj h
    rw [e1, e2]; rfl
  | none =>
    obtain ⟨u, hs'⟩ := Option.isSome_iff_exists.1 hs
    have e1 : cvdr s b k = 1 := by simp [cvdr, h]
    rw [e1]
    unfold floatToFloatBits at h
    unfold cvbits
    split at h
    · cases h
    · rename_i ne
      rw [if_neg ne]
      split at h
      · rename_i sg fr he
        simp only [he]
        cases u <;> simp [convert, run_underlying hs', run_underlying hd, Conv.floatToFloat, ne, he, choose, Sem.run, Question.forced, World.drewN]
      · cases h
      · rename_i sg m ex he
        split at h
        · rename_i ho
          simp only [he]
          rw [if_pos ho]
          cases u <;> simp [convert, run_underlying hs', run_underlying hd, Conv.floatToFloat, ne, he, ho, choose, Sem.run, Question.forced, World.drewN]
        · cases h

theorem drawn_nan_cv (k : FloatKind) (b t : Nat) : isN k ((Question.nanConv k b).cut t) = true := by
  have := drawn_nan k 0 0 t
  cases k <;> exact this
theorem cn_cvbits {s : FloatKind} {b : Nat} {k : FloatKind} (w : World) (h : cvWide s b k = false) : cn k (cvbits s b k w) = fcv s (cn s b) k := by
  unfold cvbits fcv
  unfold cvWide at h
  by_cases e : s = k
  · subst e
    rw [if_pos rfl, if_pos rfl, cn_cn]
  · rw [if_neg e, if_neg e]
    rw [if_neg e] at h
    cases hd : s.decode b with
    | nan sg fr =>
      have hn : isN s b = true := by unfold isN; rw [show s.format.read b = _ from hd]; rfl
      rw [cn_nan hn]
      have := isN_nanOf s
      unfold isN at this
      cases hz : s.decode (nanOf s) with
      | nan => exact cn_nan (drawn_nan_cv k b _)
      | infinity sg => rw [show s.format.read (nanOf s) = _ from hz] at this; cases this
      | number sg m e => rw [show s.format.read (nanOf s) = _ from hz] at this; cases this
    | infinity sg =>
      have hn : isN s b = false := by unfold isN; rw [show s.format.read b = _ from hd]; rfl
      rw [cn_not hn, hd]
      exact cn_not (write_not k.format rfl)
    | number sg m e =>
      have hn : isN s b = false := by unfold isN; rw [show s.format.read b = _ from hd]; rfl
      rw [hd] at h
      simp only at h
      rw [cn_not hn, hd]
      simp only [h, Bool.false_eq_true, if_false]
      exact cn_not (write_not k.format rfl)
theorem cvWide_cn (s : FloatKind) (b : Nat) (k : FloatKind) : cvWide s (cn s b) k = cvWide s b k := by
  cases h : isN s b
  · rw [cn_not h]
  · rw [cn_nan h]
    unfold cvWide
    have h1 := isN_nanOf s
    unfold isN at h h1
    cases hz : s.decode (nanOf s) with
    | nan =>
      cases hd : s.decode b with
      | nan => rfl
      | infinity => rfl
      | number => rw [show s.format.read b = _ from hd] at h; cases h
    | infinity sg => rw [show s.format.read (nanOf s) = _ from hz] at h1; cases h1
    | number sg m e => rw [show s.format.read (nanOf s) = _ from hz] at h1; cases h1
end Go.Proofs.Ytnhikdjljjemlaa
/- Plain laws of floats, continued: a 32-bit number made wider, numbers of integers. No condition. -/
namespace Go.Proofs.Ytnhikdjljjemlaa
open Go Ieee
set_option linter.unusedVariables false
theorem isN_floatOfInt (k : FloatKind) (n : Int) : isN k (floatOfInt k n) = false := nearest_not k.format _ _ _
theorem cn_floatOfInt (k : FloatKind) (n : Int) : cn k (floatOfInt k n) = floatOfInt k n := cn_not (isN_floatOfInt k n)

/-- what a 32-bit number reads as -/
theorem read_single {b : Nat} {s : Bool} {m : Nat} {e : Int} (h : single.read b = .number s m e) : m < 2 ^ 24 ∧ -149 ≤ e ∧ e ≤ 104 := by
  have h1 : single.binade = 2 ^ 23 := by decide +kernel
  have h2 : single.infRung = 255 * 2 ^ 23 := by decide +kernel
  have h3 : single.leastPlace = -149 := by decide +kernel
  unfold Format.read at h
  simp only at h
  split at h
  · rename_i hlt
    cases h
    rw [h1] at hlt; rw [h3]
    omega
  · split at h
    · rename_i hlt
      cases h
      rw [h1] at *; rw [h2] at hlt; rw [h3]
      have := Nat.mod_lt (b % single.signWeight) (show 0 < 2 ^ 23 by omega)
      have hq : b % single.signWeight / 2 ^ 23 < 255 := by rw [Nat.div_lt_iff_lt_mul (by omega)]; exact hlt
      omega
    · split at h <;> cases h

theorem cut_zero (way : Toward) (neg : Bool) (n : Nat) : way.cut neg n 0 = n := by
  unfold Toward.cut
  simp only [Nat.zero_min, Nat.shiftLeft_zero, Nat.div_one, Nat.mod_one]
  cases way <;> simp

/-- a number of few digits within the wider kind's range is written as it is -/
theorem nearest_double {neg : Bool} {m : Nat} {e : Int} (hm : m ≠ 0) (h24 : m < 2 ^ 24) (h1 : -149 ≤ e) (h2 : e ≤ 104) :
    double.nearest neg m e = double.word neg ((e + m.log2 - 52 + 1074).toNat * 2 ^ 52 + m * 2 ^ (52 - m.log2)) ∧ (e + m.log2 - 52 + 1074).toNat * 2 ^ 52 + m * 2 ^ (52 - m.log2) < double.infRung := by
  have hl : m.log2 ≤ 23 := by have := (Nat.log2_lt hm (k := 24)).2 h24; omega
  have b1 : double.binade = 2 ^ 52 := by decide +kernel
  have b2 : double.infRung = 2047 * 2 ^ 52 := by decide +kernel
  have b3 : double.leastPlace = -1074 := by decide +kernel
  have b4 : double.fractionBits = 52 := rfl
  have hlast : max (e + m.log2 - (double.fractionBits : Nat)) double.leastPlace = e + m.log2 - 52 := by rw [b4, b3]; omega
  have hk : m * 2 ^ (52 - m.log2) < 2 ^ 53 := by
    have h := Nat.lt_log2_self (n := m)
    have : m * 2 ^ (52 - m.log2) < 2 ^ (m.log2 + 1) * 2 ^ (52 - m.log2) := Nat.mul_lt_mul_of_pos_right h (Nat.two_pow_pos _)
    rw [← Nat.pow_add] at this
    rwa [show m.log2 + 1 + (52 - m.log2) = 53 by omega] at this
  have hrung : (e + m.log2 - 52 + 1074).toNat * 2 ^ 52 + m * 2 ^ (52 - m.log2) < double.infRung := by
    rw [b2]
    have : (e + m.log2 - 52 + 1074).toNat ≤ 1149 := by omega
    have := Nat.mul_le_mul_right (2 ^ 52) this
    omega
  refine ⟨?_, hrung⟩
  unfold Format.nearest
  rw [if_neg hm]
  simp only [hlast]
  rw [show (e + (m.log2 : Int) - 52 - e).toNat = 0 by omega, show (e - (e + (m.log2 : Int) - 52)).toNat = 52 - m.log2 by omega, cut_zero, Nat.shiftLeft_eq, b1, b3]
  rw [show e + (m.log2 : Int) - 52 - -1074 = e + m.log2 - 52 + 1074 by omega, Nat.min_eq_left (Nat.le_of_lt hrung)]

theorem not_inf_of_lt (f : Format) (neg : Bool) {r : Nat} (h : r < f.infRung) : (f.read (f.word neg r)).isInfinity = false := by
  rw [read_word f neg (Nat.lt_trans h f.infRung_lt)]
  split <;> rfl

/-- a 32-bit number is never too great for 64 bits -/
theorem wide_ok (b : Nat) : cvWide .f32 b .f64 = false := by
  unfold cvWide
  rw [if_neg (by decide)]
  split
  · rename_i s m e h
    obtain ⟨h1, h2, h3⟩ := read_single h
    show (double.read (double.nearest s m e)).isInfinity = false
    by_cases hm : m = 0
    · subst hm
      unfold Format.nearest
      rw [if_pos rfl]
      exact not_inf_of_lt _ _ (by decide +kernel)
    · obtain ⟨e1, e2⟩ := nearest_double (neg := s) hm h1 h2 h3
      rw [e1]
      exact not_inf_of_lt _ _ e2
  · rfl
theorem cn_wide (b : Nat) (w : World) : cn .f64 (cvbits .f32 b .f64 w) = fcv .f32 (cn .f32 b) .f64 := cn_cvbits w (wide_ok b)

/-- 1 divided by what is a number -/
theorem one_over {a : Nat} (h : isN .f64 a = false) : ∃ r, floatBits .quo .f64 4607182418800017408 a = some r := by
  show ∃ r, ((double.read 4607182418800017408).quotient (double.fractionBits + 2) (double.read a)).map double.write = some r
  have e1 : double.read 4607182418800017408 = .number false 4503599627370496 (-52) := by decide +kernel
  rw [e1]
  unfold isN at h
  have h' : (double.read a).isNaN = false := h
  cases hd : double.read a with
  | nan s t => rw [hd] at h'; cases h'
  | infinity s => exact ⟨_, rfl⟩
  | number s m p =>
    by_cases hm : m = 0
    · subst hm; exact ⟨_, by simp [Datum.quotient]; rfl⟩
    · refine ⟨_, by simp only [Datum.quotient, if_neg hm]; rfl⟩
theorem fbits_some {op : BinOp} {k : FloatKind} {x y r : Nat} (h : floatBits op k x y = some r) (w : World) : fbits op k x y w = r := by simp [fbits, h]
theorem fdr_some {op : BinOp} {k : FloatKind} {x y r : Nat} (h : floatBits op k x y = some r) : fdr op k x y = 0 := by simp [fdr, h]
theorem isN_of_cn {k : FloatKind} {a b : Nat} (h : cn k a = cn k b) : isN k a = isN k b := by rw [← isN_cn k a, h, isN_cn]
theorem eq_of_cn {k : FloatKind} {a b : Nat} (h : cn k a = cn k b) (ha : isN k a = false) : a = b := by
  have hb : isN k b = false := by rw [← isN_of_cn h]; exact ha
  rwa [cn_not ha, cn_not hb] at h
end Go.Proofs.Ytnhikdjljjemlaa
/- Plain laws of floats, continued: the order of numbers is that of their words. No condition. -/
namespace Go.Proofs.Ytnhikdjljjemlaa
open Go Ieee
set_option linter.unusedVariables false
/-- the magnitude of a rung, in units of the least place -/
def nval (f : Format) (r : Nat) : Nat := if r < f.binade then r else (f.binade + r % f.binade) * 2 ^ (r / f.binade - 1)
theorem nval_succ (f : Format) (r : Nat) : nval f r < nval f (r + 1) := by
  have hb : 0 < f.binade := Nat.two_pow_pos _
  unfold nval
  by_cases h1 : r + 1 < f.binade
  · rw [if_pos (by omega), if_pos h1]; omega
  · rw [if_neg h1]
    by_cases h2 : r < f.binade
    · rw [if_pos h2]
      have e : r + 1 = f.binade := by omega
      rw [e, Nat.mod_self, Nat.div_self hb]
      simp; omega
    · rw [if_neg h2]
      have hd := Nat.div_add_mod r f.binade
      have hm := Nat.mod_lt r hb
      have hq : 1 ≤ r / f.binade := (Nat.le_div_iff_mul_le hb).2 (by omega)
      by_cases h3 : r % f.binade + 1 < f.binade
      · have e1 : (r + 1) / f.binade = r / f.binade := by
          rw [Nat.div_eq_iff (by omega)]
          have : r / f.binade * f.binade = f.binade * (r / f.binade) := Nat.mul_comm _ _
          constructor <;> omega
        have e2 : (r + 1) % f.binade = r % f.binade + 1 := by
          have := Nat.div_add_mod (r + 1) f.binade
          rw [e1] at this; omega
        rw [e1, e2]
        exact Nat.mul_lt_mul_of_pos_right (by omega) (Nat.two_pow_pos _)
      · have e0 : r % f.binade = f.binade - 1 := by omega
        have e1 : (r + 1) / f.binade = r / f.binade + 1 := by
          rw [Nat.div_eq_iff (by omega), Nat.add_mul]
          have : r / f.binade * f.binade = f.binade * (r / f.binade) := Nat.mul_comm _ _
          constructor <;> omega
        have e2 : (r + 1) % f.binade = 0 := by
          have := Nat.div_add_mod (r + 1) f.binade
          rw [e1, Nat.mul_add] at this; omega
        rw [e1, e2, e0, show r / f.binade + 1 - 1 = (r / f.binade - 1) + 1 by omega, Nat.pow_succ]
        have hp := Nat.two_pow_pos (r / f.binade - 1)
        rw [Nat.add_zero, Nat.mul_comm (2 ^ (r / f.binade - 1)) 2, ← Nat.mul_assoc]
        exact Nat.mul_lt_mul_of_pos_right (by omega) hp
theorem nval_lt {f : Format} {x y : Nat} (h : x < y) : nval f x < nval f y := by
  induction y with
  | zero => omega
  | succ y ih =>
    by_cases e : x = y
    · subst e; exact nval_succ f x
    · exact Nat.lt_trans (ih (by omega)) (nval_succ f y)
theorem nval_lt_iff {f : Format} {x y : Nat} : nval f x < nval f y ↔ x < y := by
  constructor
  · intro h
    rcases Nat.lt_trichotomy x y with h1 | h1 | h1
    · exact h1
    · subst h1; omega
    · have := nval_lt (f := f) h1; omega
  · exact nval_lt
theorem nval_inj {f : Format} {x y : Nat} (h : nval f x = nval f y) : x = y := by
  rcases Nat.lt_trichotomy x y with h1 | h1 | h1
  · have := nval_lt (f := f) h1; omega
  · exact h1
  · have := nval_lt (f := f) h1; omega
theorem nval_zero (f : Format) : nval f 0 = 0 := by unfold nval; rw [if_pos (show 0 < f.binade from Nat.two_pow_pos _)]

/-- a finite word, read -/
theorem read_fin (f : Format) (neg : Bool) {r : Nat} (h : r < f.infRung) : ∃ m p, f.read (f.word neg r) = .number neg m p ∧ f.leastPlace ≤ p ∧ m <<< (p - f.leastPlace).toNat = nval f r := by
  rw [read_word f neg (Nat.lt_trans h f.infRung_lt)]
  unfold nval
  by_cases h1 : r < f.binade
  · rw [if_pos h1, if_pos h1]
    exact ⟨r, f.leastPlace, rfl, Int.le_refl _, by simp⟩
  · rw [if_neg h1, if_pos h, if_neg h1]
    refine ⟨_, _, rfl, by omega, ?_⟩
    rw [Nat.shiftLeft_eq]
    congr 2
    omega
theorem read_inf (f : Format) (hb : f.binade ≤ f.infRung) (neg : Bool) : f.read (f.word neg f.infRung) = .infinity neg := by
  rw [read_word f neg f.infRung_lt, if_neg (by omega), if_neg (by omega), if_pos rfl]

theorem signed_scale (s : Bool) (m k : Nat) (d : Nat) : signed s m (k + d) = signed s m k * (2 ^ d : Nat) := by
  unfold signed
  simp only [Nat.shiftLeft_eq, Nat.pow_add]
  split <;> simp [← Nat.mul_assoc, Int.neg_mul]
theorem signed_eq (s : Bool) (m k : Nat) : signed s m k = if s = true then -((m <<< k : Nat) : Int) else ((m <<< k : Nat) : Int) := by
  unfold signed; cases s <;> simp
theorem compare_scale (a b : Int) (d : Nat) : compare (a * (2 ^ d : Nat)) (b * (2 ^ d : Nat)) = compare a b := by
  have hp : (0 : Int) < ((2 ^ d : Nat) : Int) := by exact_mod_cast Nat.two_pow_pos d
  simp only [compare, compareOfLessAndEq]
  have h1 : a * ((2 ^ d : Nat) : Int) < b * ((2 ^ d : Nat) : Int) ↔ a < b := ⟨fun h => Int.lt_of_mul_lt_mul_right h (Int.le_of_lt hp), fun h => Int.mul_lt_mul_of_pos_right h hp⟩
  have h2 : a * ((2 ^ d : Nat) : Int) = b * ((2 ^ d : Nat) : Int) ↔ a = b := ⟨fun h => Int.eq_of_mul_eq_mul_right (by omega) h, fun h => by rw [h]⟩
  simp only [h1, h2]
/-- two numbers, in units of a place below both -/
theorem order_numbers {s t : Bool} {m n : Nat} {p q l : Int} (hp : l ≤ p) (hq : l ≤ q) :
    (Datum.number s m p).order (.number t n q) = some (compare (signed s m (p - l).toNat) (signed t n (q - l).toNat)) := by
  simp only [Datum.order]
  congr 1
  have hb : l ≤ min p q := by omega
  have e1 : (p - l).toNat = (p - min p q).toNat + (min p q - l).toNat := by omega
  have e2 : (q - l).toNat = (q - min p q).toNat + (min p q - l).toNat := by omega
  rw [e1, e2, signed_scale, signed_scale, compare_scale]
/-- the value of a finite word in units of the least place -/
def sval (f : Format) (neg : Bool) (r : Nat) : Int := if neg = true then -(nval f r : Int) else (nval f r : Int)
theorem order_fin (f : Format) (s t : Bool) {x y : Nat} (hx : x < f.infRung) (hy : y < f.infRung) : f.order (f.word s x) (f.word t y) = some (compare (sval f s x) (sval f t y)) := by
  obtain ⟨m, p, e1, e2, e3⟩ := read_fin f s hx
  obtain ⟨n, q, e4, e5, e6⟩ := read_fin f t hy
  unfold Format.order
  rw [e1, e4, order_numbers e2 e5, signed_eq, signed_eq, e3, e6]
  rfl
theorem compare_nat (a b : Nat) : compare (a : Int) (b : Int) = compare a b := by
  simp only [compare, compareOfLessAndEq, Int.ofNat_lt, Int.natCast_inj]
/-- positive numbers stand as their words do -/
theorem order_pos (f : Format) {x y : Nat} (hx : x < f.infRung) (hy : y < f.infRung) : f.order x y = some (compare x y) := by
  have := order_fin f false false hx hy
  have e1 : f.word false x = x := rfl
  have e2 : f.word false y = y := rfl
  rw [e1, e2] at this
  rw [this]
  simp only [sval, Bool.false_eq_true, if_false]
  rw [compare_nat]
  congr 1
  have h1 : (nval f x < nval f y) = (x < y) := propext nval_lt_iff
  have h2 : (nval f x = nval f y) = (x = y) := propext ⟨nval_inj, fun e => by rw [e]⟩
  show compareOfLessAndEq _ _ = compareOfLessAndEq _ _
  unfold compareOfLessAndEq
  simp only [h1, h2]
/-! the greater and the less of two numbers -/
def maxF (k : FloatKind) (x y : Nat) : Option Nat := match k.format.order x y with
  | none => none
  | some .lt => some y
  | some .gt => some x
  | some .eq => some (if (k.decode x).neg = true then y else x)
def minF (k : FloatKind) (x y : Nat) : Option Nat := match k.format.order x y with
  | none => none
  | some .lt => some x
  | some .gt => some y
  | some .eq => some (if (k.decode x).neg = true then x else y)
theorem run_max_f {P : Program} (w : World) (A : Array TypeId) (T : TypeId) (k : FloatKind) (x y z : Nat) (h : maxF k x y = some z) : (Builtin.max_ A T #[.float k x, .float k y]).run P w = .ok (.float k z) w := by
  unfold maxF at h
  cases ho : k.format.order x y with
  | none => rw [ho] at h; cases h
  | some c => cases c <;> (rw [ho] at h; simp only [Option.some.injEq] at h; subst h; simp [Builtin.max_, Builtin.max2, ho])
theorem run_min_f {P : Program} (w : World) (A : Array TypeId) (T : TypeId) (k : FloatKind) (x y z : Nat) (h : minF k x y = some z) : (Builtin.min_ A T #[.float k x, .float k y]).run P w = .ok (.float k z) w := by
  unfold minF at h
  cases ho : k.format.order x y with
  | none => rw [ho] at h; cases h
  | some c => cases c <;> (rw [ho] at h; simp only [Option.some.injEq] at h; subst h; simp [Builtin.min_, Builtin.min2, ho])

theorem neg_word (f : Format) (neg : Bool) {r : Nat} (h : r ≤ f.infRung) : (f.read (f.word neg r)).neg = neg := by
  rw [read_word f neg (Nat.lt_of_le_of_lt h f.infRung_lt)]
  split
  · rfl
  · split
    · rfl
    · rw [if_pos (by omega)]; rfl
theorem nearest_word (f : Format) (neg : Bool) (m : Nat) (p : Int) : ∃ r, f.nearest neg m p = f.word neg r ∧ r ≤ f.infRung := by
  unfold Format.nearest
  split
  · exact ⟨0, rfl, Nat.zero_le _⟩
  · exact ⟨_, rfl, Nat.min_le_right ..⟩
/-- a word is a sign and a rung -/
theorem word_of (f : Format) {x : Nat} (h : x < 2 * f.signWeight) : ∃ neg r, x = f.word neg r ∧ r < f.signWeight := by
  by_cases hx : x < f.signWeight
  · exact ⟨false, x, rfl, hx⟩
  · exact ⟨true, x - f.signWeight, by unfold Format.word; simp; omega, by omega⟩
theorem nan_word (f : Format) (hb : f.binade ≤ f.infRung) (neg : Bool) {r : Nat} (h1 : f.infRung < r) (h2 : r < f.signWeight) : (f.read (f.word neg r)).isNaN = true := read_high f hb neg r h1 h2
theorem single_binade : single.binade ≤ single.infRung := by decide +kernel
theorem double_binade : double.binade ≤ double.infRung := by decide +kernel
/-- what lies between two positive numbers is a word between theirs -/
theorem between {s a b : Nat} (hs : s < 4294967296) (ha : 0 < a) (ha2 : a < single.infRung) (hb2 : b < single.infRung)
    (h1 : single.order s a = some .gt ∨ single.order s a = some .eq) (h2 : single.order s b = some .lt ∨ single.order s b = some .eq) : a ≤ s ∧ s ≤ b := by
  obtain ⟨neg, r, rfl, hr⟩ := word_of single (x := s) (by have : single.signWeight = 2147483648 := by decide +kernel
                                                          omega)
  by_cases hfin : r < single.infRung
  · cases neg
    · have e : single.word false r = r := rfl
      rw [e] at h1 h2 ⊢
      rw [order_pos single hfin ha2] at h1
      rw [order_pos single hfin hb2] at h2
      constructor
      · rcases h1 with h1 | h1
        · have := Nat.compare_eq_gt.1 (Option.some.inj h1); omega
        · have := Nat.compare_eq_eq.1 (Option.some.inj h1); omega
      · rcases h2 with h2 | h2
        · have := Nat.compare_eq_lt.1 (Option.some.inj h2); omega
        · have := Nat.compare_eq_eq.1 (Option.some.inj h2); omega
    · exfalso
      have := order_fin single true false hfin ha2
      have e : single.word false a = a := rfl
      rw [e] at this
      rw [this] at h1
      simp only [sval, if_true, Bool.false_eq_true, if_false] at h1
      have hp : 0 < nval single a := by have := nval_lt (f := single) ha; rw [nval_zero] at this; exact this
      have hlt : -(nval single r : Int) < (nval single a : Int) := by omega
      rw [show compare (-(nval single r : Int)) (nval single a : Int) = .lt from by simp [compare, compareOfLessAndEq, hlt]] at h1
      rcases h1 with h1 | h1 <;> cases h1
  · by_cases hinf : r = single.infRung
    · subst hinf
      have e1 := read_inf single single_binade neg
      obtain ⟨m, p, e2, _⟩ := read_fin single false ha2
      obtain ⟨m', p', e3, _⟩ := read_fin single false hb2
      have e4 : single.word false a = a := rfl
      have e5 : single.word false b = b := rfl
      rw [e4] at e2; rw [e5] at e3
      unfold Format.order at h1 h2
      rw [e1, e2] at h1
      rw [e1, e3] at h2
      cases neg
      · simp [Datum.order] at h2
      · simp [Datum.order] at h1
    · exfalso
      have := nan_word single single_binade neg (by omega) hr
      have hn : isN .f32 (single.word neg r) = true := this
      rw [show single.order (single.word neg r) a = none from order_none (k := .f32) (.inl hn)] at h1
      rcases h1 with h1 | h1 <;> cases h1
/-- half of a positive number, and twice one -/
theorem half_pos {s : Nat} (h0 : 0 < s) (h1 : s < single.infRung) : ∃ r, floatBits .quo .f32 s 1073741824 = some r ∧ (single.read r).neg = false ∧ isN .f32 r = false := by
  obtain ⟨m, p, e1, _, e3⟩ := read_fin single false h1
  have e0 : single.word false s = s := rfl
  rw [e0] at e1
  have e2 : single.read 1073741824 = .number false 8388608 (-22) := by decide +kernel
  have hm : m ≠ 0 := by
    intro e; subst e
    have := nval_lt (f := single) h0
    rw [nval_zero, ← e3] at this; simp at this
  have : ∃ m' p', floatBits .quo .f32 s 1073741824 = some (single.nearest false m' p') := by
    show ∃ m' p', ((single.read s).quotient (single.fractionBits + 2) (single.read 1073741824)).map single.write = some _
    rw [e1, e2]
    exact ⟨_, _, rfl⟩
  obtain ⟨m', p', e⟩ := this
  obtain ⟨r, hr, hle⟩ := nearest_word single false m' p'
  exact ⟨_, e, by rw [hr]; exact neg_word single false hle, nearest_not single false m' p'⟩
theorem twice_pos {s : Nat} (h0 : 0 < s) (h1 : s < single.infRung) : ∃ r, floatBits .mul .f32 1073741824 s = some r ∧ floatBits .mul .f32 s 1073741824 = some r ∧ r ≤ single.infRung := by
  obtain ⟨m, p, e1, _, e3⟩ := read_fin single false h1
  have e0 : single.word false s = s := rfl
  rw [e0] at e1
  have e2 : single.read 1073741824 = .number false 8388608 (-22) := by decide +kernel
  have h3 : floatBits .mul .f32 1073741824 s = some (single.nearest false (8388608 * m) (-22 + p)) := by
    show ((single.read 1073741824).product (single.read s)).map single.write = some _
    rw [e1, e2]; rfl
  have h4 : floatBits .mul .f32 s 1073741824 = some (single.nearest false (8388608 * m) (-22 + p)) := by
    show ((single.read s).product (single.read 1073741824)).map single.write = some _
    rw [e1, e2, Nat.mul_comm 8388608 m, Int.add_comm (-22) p]; rfl
  obtain ⟨r, hr, hle⟩ := nearest_word single false (8388608 * m) (-22 + p)
  rw [hr] at h3 h4
  exact ⟨_, h3, h4, hle⟩
theorem eq_of_order {x y : Nat} (hx : x ≤ single.infRung) (hy : y < single.infRung) (h : single.order x y = some .eq) : x = y := by
  by_cases hfin : x < single.infRung
  · rw [order_pos single hfin hy] at h
    exact Nat.compare_eq_eq.1 (Option.some.inj h)
  · exfalso
    obtain rfl : x = single.infRung := by omega
    have e1 := read_inf single single_binade false
    obtain ⟨m, p, e2, _⟩ := read_fin single false hy
    have e4 : single.word false y = y := rfl
    have e5 : single.word false single.infRung = single.infRung := rfl
    rw [e4] at e2; rw [e5] at e1
    unfold Format.order at h
    rw [e1, e2] at h
    simp [Datum.order] at h
theorem neg_le_inf {x : Nat} (hx : x ≤ single.infRung) : (single.read x).neg = false := neg_word single false hx
end Go.Proofs.Ytnhikdjljjemlaa
/- Plain laws of floats, continued: what a format has exactly is written as it is. No condition. -/
namespace Go.Proofs.Ytnhikdjljjemlaa
open Go Ieee
set_option linter.unusedVariables false
theorem cut_exact (neg : Bool) {n low d : Nat} (h : n = low * 2 ^ d) : Toward.even.cut neg n d = low := by
  unfold Toward.cut
  have hg : ∃ g, 1 <<< min d (n.log2 + 2) = g ∧ n / g = low ∧ n % g = 0 ∧ 0 < g := by
    by_cases h0 : n = 0
    · have hl : low = 0 := by
        rcases Nat.eq_zero_or_pos low with e | e
        · exact e
        · have := Nat.mul_pos e (Nat.two_pow_pos d); omega
      subst h0
      exact ⟨_, rfl, by rw [hl]; simp, by simp, by rw [Nat.shiftLeft_eq]; have := Nat.two_pow_pos (min d (Nat.log2 0 + 2)); omega⟩
    · have hd : d ≤ n.log2 + 2 := by
        have hl : 1 ≤ low := by
          rcases Nat.eq_zero_or_pos low with e | e
          · subst e; simp at h; exact absurd h h0
          · exact e
        have h1 : 2 ^ d ≤ n := by rw [h]; exact Nat.le_mul_of_pos_left _ hl
        have h2 := (Nat.le_log2 h0).2 h1
        omega
      refine ⟨2 ^ d, by rw [Nat.min_eq_left hd, Nat.shiftLeft_eq, Nat.one_mul], ?_, ?_, Nat.two_pow_pos d⟩
      · rw [h, Nat.mul_div_cancel _ (Nat.two_pow_pos d)]
      · rw [h, Nat.mul_mod_left]
  obtain ⟨g, e1, e2, e3, e4⟩ := hg
  simp only [e1, e2, e3]
  have : ¬ (g < 2 * 0) := by omega
  have h2 : (g == 2 * 0) = false := by simp; omega
  simp [h2]
theorem log2_mul_pow {m a : Nat} (hm : m ≠ 0) : (m * 2 ^ a).log2 = m.log2 + a := by
  have hp := Nat.two_pow_pos a
  have hne : m * 2 ^ a ≠ 0 := Nat.mul_ne_zero hm (by omega)
  apply Nat.le_antisymm
  · have : (m * 2 ^ a).log2 < m.log2 + a + 1 := (Nat.log2_lt hne).2 (by
      have := Nat.lt_log2_self (n := m)
      rw [show m.log2 + a + 1 = (m.log2 + 1) + a by omega, Nat.pow_add]
      exact Nat.mul_lt_mul_of_pos_right this hp)
    omega
  · refine (Nat.le_log2 hne).2 ?_
    rw [Nat.pow_add]
    exact Nat.mul_le_mul_right _ (Nat.log2_self_le hm)
/-- what a rung stands for, is written as this rung: m * 2 ^ p is nval r * 2 ^ leastPlace -/
theorem nearest_val (f : Format) (neg : Bool) {m r a b : Nat} {p : Int} (hr : r < f.infRung) (hv : m * 2 ^ a = nval f r * 2 ^ b) (hp : (a : Int) - b = p - f.leastPlace) : f.nearest neg m p = f.word neg r := by
  have hB : f.binade = 2 ^ f.fractionBits := rfl
  have hBp : 0 < f.binade := Nat.two_pow_pos _
  by_cases hm : m = 0
  · subst hm
    have h0 : nval f r = 0 := by
      rcases Nat.eq_zero_or_pos (nval f r) with e | e
      · exact e
      · have := Nat.mul_pos e (Nat.two_pow_pos b); rw [Nat.zero_mul] at hv; omega
    have : r = 0 := nval_inj (f := f) (by rw [h0, nval_zero])
    subst this
    unfold Format.nearest
    rw [if_pos rfl]
  have hN : nval f r ≠ 0 := by
    intro e; rw [e, Nat.zero_mul] at hv
    have := Nat.mul_pos (Nat.pos_of_ne_zero hm) (Nat.two_pow_pos a); omega
  have hlog : m.log2 + a = (nval f r).log2 + b := by rw [← log2_mul_pow hm, ← log2_mul_pow hN, hv]
  -- the kept digits and the place of the last
  have hK : ∃ K s : Nat, nval f r = K * 2 ^ s ∧ s * f.binade + K = r ∧ max (f.leastPlace + (nval f r).log2 - (f.fractionBits : Nat)) f.leastPlace = f.leastPlace + s := by
    by_cases h1 : r < f.binade
    · have e : nval f r = r := by unfold nval; rw [if_pos h1]
      refine ⟨r, 0, by rw [e]; simp, by simp, ?_⟩
      rw [e]
      have : r.log2 < f.fractionBits := (Nat.log2_lt (by rw [e] at hN; exact hN)).2 (by rw [← hB]; exact h1)
      omega
    · have e : nval f r = (f.binade + r % f.binade) * 2 ^ (r / f.binade - 1) := by unfold nval; rw [if_neg h1]
      have hq : 1 ≤ r / f.binade := (Nat.le_div_iff_mul_le hBp).2 (by omega)
      have hd := Nat.div_add_mod r f.binade
      have hmod := Nat.mod_lt r hBp
      refine ⟨_, _, e, ?_, ?_⟩
      · have h2 : (r / f.binade - 1) * f.binade + f.binade = f.binade * (r / f.binade) := by
          rw [Nat.mul_comm f.binade, ← Nat.succ_mul]; congr 1; omega
        omega
      · have hne : f.binade + r % f.binade ≠ 0 := by omega
        have hl : (f.binade + r % f.binade).log2 = f.fractionBits := by
          apply Nat.le_antisymm
          · have : (f.binade + r % f.binade).log2 < f.fractionBits + 1 := (Nat.log2_lt hne).2 (by rw [Nat.pow_succ, ← hB]; omega)
            omega
          · exact (Nat.le_log2 hne).2 (by rw [← hB]; omega)
        rw [e, log2_mul_pow hne, hl]
        omega
  obtain ⟨K, s, hK1, hK2, hK3⟩ := hK
  have hlast : max (p + m.log2 - (f.fractionBits : Nat)) f.leastPlace = f.leastPlace + s := by
    rw [← hK3]
    congr 1
    omega
  unfold Format.nearest
  rw [if_neg hm]
  simp only [hlast]
  have hv2 : m * 2 ^ a = K * 2 ^ (s + b) := by rw [hv, hK1, Nat.pow_add, Nat.mul_assoc]
  have hcut : Toward.even.cut neg (m <<< (p - (f.leastPlace + (s : Int))).toNat) (f.leastPlace + (s : Int) - p).toNat = K := by
    apply cut_exact
    rw [Nat.shiftLeft_eq]
    apply Nat.eq_of_mul_eq_mul_right (Nat.two_pow_pos (s + b))
    by_cases h : s + b ≤ a
    · have e1 : (p - (f.leastPlace + (s : Int))).toNat = a - (s + b) := by omega
      have e2 : (f.leastPlace + (s : Int) - p).toNat = 0 := by omega
      rw [e1, e2, Nat.pow_zero, Nat.mul_one, Nat.mul_assoc, ← Nat.pow_add, show a - (s + b) + (s + b) = a by omega, hv2]
    · have e1 : (p - (f.leastPlace + (s : Int))).toNat = 0 := by omega
      have e2 : (f.leastPlace + (s : Int) - p).toNat = s + b - a := by omega
      rw [e1, e2, Nat.pow_zero, Nat.mul_one, Nat.mul_assoc]
      have : m * 2 ^ (s + b) = m * 2 ^ a * 2 ^ (s + b - a) := by rw [Nat.mul_assoc, ← Nat.pow_add, show a + (s + b - a) = s + b by omega]
      rw [this, hv2, Nat.mul_assoc, Nat.mul_comm (2 ^ (s + b)) (2 ^ (s + b - a))]
  rw [hcut, show (f.leastPlace + (s : Int) - f.leastPlace).toNat = s by omega, hK2, Nat.min_eq_left (Nat.le_of_lt hr)]
end Go.Proofs.Ytnhikdjljjemlaa
/- Plain laws of floats, continued: a number made wider and narrower again, and absolute values. No condition. -/
namespace Go.Proofs.Ytnhikdjljjemlaa
open Go Ieee
set_option linter.unusedVariables false
set_option linter.unusedSimpArgs false
theorem s_lp : single.leastPlace = -149 := by decide +kernel
theorem d_lp : double.leastPlace = -1074 := by decide +kernel
theorem s_sw : single.signWeight = 2147483648 := by decide +kernel
theorem d_sw : double.signWeight = 9223372036854775808 := by decide +kernel
theorem s_ir : single.infRung = 2139095040 := by decide +kernel
theorem d_ir : double.infRung = 9218868437227405312 := by decide +kernel
theorem d_bin : double.binade = 2 ^ 52 := by decide +kernel
theorem cv_num {k k2 : FloatKind} {b : Nat} {s : Bool} {m : Nat} {e : Int} (hd : k.decode b = .number s m e) (hne : k ≠ k2) (hi : cvWide k b k2 = false) (w : World) : cvbits k b k2 w = k2.format.nearest s m e := by
  unfold cvWide at hi
  rw [if_neg hne, hd] at hi
  simp only at hi
  unfold cvbits
  rw [if_neg hne, hd]
  simp only
  rw [hi]
  rfl
/-- a wide rung with the same value as a narrow one -/
theorem wide_rung {m : Nat} {e : Int} (hm : m ≠ 0) (h24 : m < 2 ^ 24) (h1 : -149 ≤ e) (h2 : e ≤ 104) :
    ∃ q, (∀ s, double.nearest s m e = double.word s q) ∧ q < double.infRung ∧ nval double q = m * 2 ^ (e + 1074).toNat := by
  refine ⟨(e + m.log2 - 52 + 1074).toNat * 2 ^ 52 + m * 2 ^ (52 - m.log2), fun s => (nearest_double hm h24 h1 h2).1, (nearest_double (neg := false) hm h24 h1 h2).2, ?_⟩
  have hl : m.log2 ≤ 23 := by have := (Nat.log2_lt hm (k := 24)).2 h24; omega
  have k1 : 2 ^ 52 ≤ m * 2 ^ (52 - m.log2) := by
    have := Nat.mul_le_mul_right (2 ^ (52 - m.log2)) (Nat.log2_self_le hm)
    rwa [← Nat.pow_add, show m.log2 + (52 - m.log2) = 52 by omega] at this
  have k2 : m * 2 ^ (52 - m.log2) < 2 ^ 53 := by
    have h := Nat.lt_log2_self (n := m)
    have : m * 2 ^ (52 - m.log2) < 2 ^ (m.log2 + 1) * 2 ^ (52 - m.log2) := Nat.mul_lt_mul_of_pos_right h (Nat.two_pow_pos _)
    rw [← Nat.pow_add] at this
    rwa [show m.log2 + 1 + (52 - m.log2) = 53 by omega] at this
  obtain ⟨K, hK⟩ : ∃ K, K = m * 2 ^ (52 - m.log2) := ⟨_, rfl⟩
  obtain ⟨E, hE⟩ : ∃ E, E = (e + m.log2 - 52 + 1074).toNat := ⟨_, rfl⟩
  rw [← hK, ← hE]
  rw [← hK] at k1 k2
  unfold nval
  rw [d_bin, if_neg (by omega)]
  have e1 : (E * 2 ^ 52 + K) / 2 ^ 52 = E + 1 := by omega
  have e2 : (E * 2 ^ 52 + K) % 2 ^ 52 = K - 2 ^ 52 := by omega
  rw [e1, e2, show 2 ^ 52 + (K - 2 ^ 52) = K by omega, show E + 1 - 1 = E by omega, hK, Nat.mul_assoc, ← Nat.pow_add]
  congr 2
  omega
set_option exponentiation.threshold 2000 in
theorem wide_fin (s : Bool) {r : Nat} (hr : r < single.infRung) : ∃ q, q < double.infRung ∧ (∀ w, cvbits .f32 (single.word s r) .f64 w = double.word s q) ∧ nval double q = nval single r * 2 ^ 925 := by
  obtain ⟨m, p, e1, hp, e3⟩ := read_fin single s hr
  rw [s_lp] at hp e3
  have hb := read_single e1
  rw [Nat.shiftLeft_eq] at e3
  by_cases hm : m = 0
  · subst hm
    refine ⟨0, by rw [d_ir]; omega, fun w => ?_, ?_⟩
    · rw [cv_num (k := .f32) (k2 := .f64) e1 (by decide) (wide_ok _) w]
      show double.nearest s 0 p = _
      unfold Format.nearest
      rw [if_pos rfl]
    · rw [nval_zero, ← e3]; simp
  · obtain ⟨q, hq1, hq2, hq3⟩ := wide_rung hm hb.1 hb.2.1 hb.2.2
    refine ⟨q, hq2, fun w => ?_, ?_⟩
    · rw [cv_num (k := .f32) (k2 := .f64) e1 (by decide) (wide_ok _) w]
      exact hq1 s
    · rw [hq3, ← e3, Nat.mul_assoc, ← Nat.pow_add]
      congr 2
      omega
set_option exponentiation.threshold 2000 in
theorem narrow_fin (s : Bool) {r q : Nat} (hr : r < single.infRung) (hq : q < double.infRung) (hv : nval double q = nval single r * 2 ^ 925) (w : World) : cvbits .f64 (double.word s q) .f32 w = single.word s r ∧ cvWide .f64 (double.word s q) .f32 = false := by
  obtain ⟨m, p, e1, hp, e3⟩ := read_fin double s hq
  rw [d_lp] at hp e3
  rw [Nat.shiftLeft_eq, hv] at e3
  have hn : single.nearest s m p = single.word s r := nearest_val single s hr e3 (by rw [s_lp]; omega)
  have hw : cvWide .f64 (double.word s q) .f32 = false := by
    unfold cvWide
    rw [if_neg (by decide), show FloatKind.f64.decode (double.word s q) = _ from e1]
    show (single.read (single.nearest s m p)).isInfinity = false
    rw [hn]
    exact not_inf_of_lt _ _ hr
  exact ⟨by rw [cv_num (k := .f64) (k2 := .f32) e1 (by decide) hw w]; exact hn, hw⟩
end Go.Proofs.Ytnhikdjljjemlaa
/- Plain laws of floats, continued: absolute values. No condition. -/
namespace Go.Proofs.Ytnhikdjljjemlaa
open Go Go.RowKit Ieee
set_option linter.unusedVariables false
set_option linter.unusedSimpArgs false
@[go_sem] theorem run_neg_f {P : Program} (w : World) (k : FloatKind) (b : Nat) : (Op.unary .neg (.float k b)).run P w = .ok (.float k (Op.negFloat k b)) w := rfl
theorem word_lt (f : Format) (neg : Bool) {r : Nat} (h : r < f.signWeight) : f.word neg r < 2 * f.signWeight := by
  unfold Format.word; split <;> omega
/-- a conversion that does not fall out of the range gives a word of the kind -/
theorem cv_lt32 {b : Nat} (w : World) (h : cvWide .f64 b .f32 = false) : cvbits .f64 b .f32 w < 4294967296 := by
  have hk : 2 * single.signWeight = 4294967296 := by decide +kernel
  cases hd : FloatKind.f64.decode b with
  | nan s t =>
    unfold cvbits
    rw [if_neg (by decide), hd]
    exact drawn_lt .f32 0 0 _
  | infinity s =>
    unfold cvbits
    rw [if_neg (by decide), hd]
    show FloatKind.f32.encode (.infinity s) < _
    cases s <;> decide +kernel
  | number s m e =>
    rw [cv_num (k := .f64) (k2 := .f32) hd (by decide) h w]
    obtain ⟨q, hq, hle⟩ := nearest_word single s m e
    rw [show FloatKind.f32.format.nearest s m e = _ from hq, ← hk]
    exact word_lt single s (Nat.lt_of_le_of_lt hle single.infRung_lt)
theorem isN_mod (d : Nat) : isN .f64 (d % 9223372036854775808) = isN .f64 d := by
  have hs : double.signWeight = 9223372036854775808 := by decide +kernel
  unfold isN
  show (double.read (d % 9223372036854775808)).isNaN = (double.read d).isNaN
  rw [← hs]
  simp only [Format.read, Nat.mod_mod]
  split
  · rfl
  · split
    · rfl
    · split <;> rfl
theorem isN_mod32 (d : Nat) : isN .f32 (d % 2147483648) = isN .f32 d := by
  have hs : single.signWeight = 2147483648 := by decide +kernel
  unfold isN
  show (single.read (d % 2147483648)).isNaN = (single.read d).isNaN
  rw [← hs]
  simp only [Format.read, Nat.mod_mod]
  split
  · rfl
  · split
    · rfl
    · split <;> rfl
theorem isN_wide (x : Nat) (w : World) (h : isN .f32 x = true) : isN .f64 (cvbits .f32 x .f64 w) = true := by
  have := isN_of_cn ((cn_wide x w).trans (show fcv .f32 (cn .f32 x) .f64 = cn .f64 (nanOf .f64) by rw [cn_nan h]; decide +kernel))
  rw [this]; exact isN_nanOf .f64
theorem wide_nan {b : Nat} (h : isN .f64 b = true) : cvWide .f64 b .f32 = false := by
  unfold cvWide
  rw [if_neg (by decide)]
  unfold isN at h
  cases hd : FloatKind.f64.decode b with
  | nan s t => rfl
  | infinity s => rfl
  | number s m e => rw [show FloatKind.f64.format.read b = _ from hd] at h; cases h
/-- the absolute value, NaNs made one -/
def absW (c : Nat) : Nat := if isN .f32 c = true then nanOf .f32 else c % 2147483648
theorem word_mod32 (s : Bool) {r : Nat} (h : r < single.signWeight) : single.word s r % 2147483648 = r := by
  rw [← s_sw]; exact word_mod single s h
theorem abs_round {x : Nat} (hx : x < 4294967296) (w w' : World) : cvWide .f64 (cvbits .f32 x .f64 w % 9223372036854775808) .f32 = false ∧ cn .f32 (cvbits .f64 (cvbits .f32 x .f64 w % 9223372036854775808) .f32 w') = absW (cn .f32 x) := by
  cases hN : isN .f32 x
  · rw [cn_not hN]
    unfold absW
    rw [if_neg (by rw [hN]; decide)]
    obtain ⟨s, r, rfl, hr⟩ := word_of single (x := x) (by rw [s_sw]; omega)
    rw [word_mod32 s hr]
    rcases Nat.lt_trichotomy r single.infRung with h | h | h
    · obtain ⟨q, hq, hw, hv⟩ := wide_fin s h
      rw [hw w, ← d_sw, word_mod double s (Nat.lt_trans hq double.infRung_lt)]
      have hn := narrow_fin false h hq hv w'
      have e1 : double.word false q = q := rfl
      have e2 : single.word false r = r := rfl
      rw [e1, e2] at hn
      refine ⟨hn.2, ?_⟩
      rw [hn.1]
      exact cn_not (read_word_le single false (Nat.le_of_lt h))
    · subst h
      have e1 : cvbits .f32 (single.word s single.infRung) .f64 w = double.word s double.infRung := by
        unfold cvbits
        rw [if_neg (by decide), show FloatKind.f32.decode (single.word s single.infRung) = _ from read_inf single single_binade s]
        rfl
      rw [e1, ← d_sw, word_mod double s double.infRung_lt]
      have e2 : FloatKind.f64.decode double.infRung = .infinity false := read_inf double double_binade false
      refine ⟨by unfold cvWide; rw [if_neg (by decide), e2], ?_⟩
      have e3 : cvbits .f64 double.infRung .f32 w' = single.infRung := by
        unfold cvbits
        rw [if_neg (by decide), e2]
        rfl
      rw [e3]
      exact cn_not (read_word_le single false (Nat.le_refl _))
    · have := nan_word single single_binade s h hr
      have h2 : isN .f32 (single.word s r) = true := this
      rw [hN] at h2; cases h2
  · have h1 : isN .f64 (cvbits .f32 x .f64 w % 9223372036854775808) = true := by rw [isN_mod]; exact isN_wide x w hN
    refine ⟨wide_nan h1, ?_⟩
    rw [cn_cvbits w' (wide_nan h1), cn_nan h1, cn_nan hN]
    decide +kernel
theorem and_63 (b : Nat) (hb : b < 18446744073709551616) : bits .andNot .u64 (b : Int) 9223372036854775808 = ((b % 9223372036854775808 : Nat) : Int) := by
  have := u64_andNot_nat b 9223372036854775808 hb (by decide)
  rw [show ((9223372036854775808 : Nat) : Int) = 9223372036854775808 from rfl] at this
  rw [this, show 18446744073709551615 - 9223372036854775808 = 2 ^ 63 - 1 by decide, Nat.and_two_pow_sub_one_eq_mod]
theorem and_31 (a : Nat) (ha : a < 4294967296) : bits .andNot .i64 (a : Int) 2147483648 = ((a % 2147483648 : Nat) : Int) := by
  show IntKind.i64.wrap ((BitVec.ofInt 64 (a : Int) &&& ~~~BitVec.ofInt 64 2147483648).toNat : Int) = _
  have h1 : (BitVec.ofInt 64 2147483648).toNat = 2147483648 := by decide
  have h2 : (BitVec.ofInt 64 (a : Int)).toNat = a := by
    rw [BitVec.toNat_ofInt]; omega
  rw [BitVec.toNat_and, BitVec.toNat_not, h1, h2]
  have h3 : a &&& (2 ^ 64 - 1 - 2147483648) = a % 2147483648 := by
    apply Nat.eq_of_testBit_eq
    intro i
    rw [show 2 ^ 64 - 1 - 2147483648 = 2 ^ 64 - (2 ^ 31 + 1) by decide, show 2147483648 = 2 ^ 31 by decide, Nat.testBit_and, Nat.testBit_mod_two_pow, Nat.testBit_two_pow_sub_succ (by decide), Nat.testBit_two_pow]
    by_cases h : i < 32
    · by_cases h31 : i = 31
      · subst h31; simp
      · have : i < 31 := by omega
        have h64 : i < 64 := by omega
        have hne : ¬ (31 = i) := by omega
        simp [this, h64, hne]
    · have : a.testBit i = false := Nat.testBit_lt_two_pow (Nat.lt_of_lt_of_le (by omega : a < 2 ^ 32) (Nat.pow_le_pow_right (by decide) (by omega)))
      simp [this]
  rw [h3]
  have : ((a % 2147483648 : Nat) : Int) < 9223372036854775808 := by omega
  exact wrap_small _ (by omega) this
theorem cn_lt {x : Nat} (hx : x < 4294967296) : cn .f32 x < 4294967296 := by
  unfold cn; split
  · decide
  · exact hx
end Go.Proofs.Ytnhikdjljjemlaa
/- Plain laws of floats as rational numbers: what a datum is worth, and orders. No condition. -/
namespace Go.Proofs.Ytnhikdjljjemlaa
open Go Go.RowKit Ieee
set_option linter.unusedVariables false
set_option linter.unusedSimpArgs false
def sg (s : Bool) : Rat := if s = true then -1 else 1
def num (s : Bool) (m : Nat) (p : Int) : Rat := sg s * (m : Rat) * (2 : Rat) ^ p
/-- what a datum is worth -/
def rv : Datum → Rat
  | .number s m p => num s m p
  | _ => 0
theorem two_ne : (2 : Rat) ≠ 0 := by decide
theorem pw_pos (p : Int) : (0 : Rat) < (2 : Rat) ^ p := Rat.zpow_pos (by decide)
theorem pw_add (p q : Int) : (2 : Rat) ^ (p + q) = (2 : Rat) ^ p * (2 : Rat) ^ q := Rat.zpow_add two_ne p q
theorem pw_nat (n : Nat) : (2 : Rat) ^ (n : Int) = ((2 ^ n : Nat) : Rat) := by rw [Rat.zpow_natCast, Rat.natCast_pow]; rfl
theorem pw_zero : (2 : Rat) ^ (0 : Int) = 1 := by decide +kernel
theorem signed_rv (s : Bool) (m k : Nat) : ((signed s m k : Int) : Rat) = sg s * (m : Rat) * (2 : Rat) ^ (k : Int) := by
  rw [pw_nat]
  unfold signed sg
  rw [Nat.shiftLeft_eq]
  cases s
  · simp only [Bool.false_eq_true, if_false]
    rw [Rat.intCast_natCast, Rat.natCast_mul]
    grind
  · simp only [if_true]
    rw [Rat.intCast_neg, Rat.intCast_natCast, Rat.natCast_mul]
    grind
theorem num_base {s : Bool} {m : Nat} {p b : Int} (h : b ≤ p) : num s m p = ((signed s m (p - b).toNat : Int) : Rat) * (2 : Rat) ^ b := by
  rw [signed_rv, show (((p - b).toNat : Nat) : Int) = p - b by omega]
  unfold num
  have := pw_add (p - b) b
  rw [show p - b + b = p by omega] at this
  rw [this]
  grind
theorem order_num (s t : Bool) (m n : Nat) (p q : Int) :
    ((Datum.number s m p).order (.number t n q) = some .lt ↔ num s m p < num t n q) ∧ ((Datum.number s m p).order (.number t n q) = some .gt ↔ num t n q < num s m p) ∧ ((Datum.number s m p).order (.number t n q) = some .eq ↔ num s m p = num t n q) := by
  obtain ⟨b, hb⟩ : ∃ b, b = min p q := ⟨_, rfl⟩
  have e1 := num_base (s := s) (m := m) (show b ≤ p by omega)
  have e2 := num_base (s := t) (m := n) (show b ≤ q by omega)
  have hp := pw_pos b
  simp only [Datum.order, ← hb, Option.some.injEq]
  generalize signed s m (p - b).toNat = A at e1 ⊢
  generalize signed t n (q - b).toNat = B at e2 ⊢
  generalize (2 : Rat) ^ b = c at *
  rw [e1, e2]
  have k1 : (A : Rat) * c < B * c ↔ A < B := by
    rw [Rat.mul_lt_mul_right hp, Rat.intCast_lt_intCast]
  have k2 : (B : Rat) * c < A * c ↔ B < A := by
    rw [Rat.mul_lt_mul_right hp, Rat.intCast_lt_intCast]
  refine ⟨?_, ?_, ?_⟩
  · rw [k1, Int.compare_eq_lt]
  · rw [k2, Int.compare_eq_gt]
  · rw [Int.compare_eq_eq]
    constructor
    · intro h; rw [h]
    · intro h
      have h1 : ¬ A < B := by rw [← k1, h]; exact Rat.lt_irrefl
      have h2 : ¬ B < A := by rw [← k2, h]; exact Rat.lt_irrefl
      omega
end Go.Proofs.Ytnhikdjljjemlaa
/- Plain laws of floats as rational numbers: what rounding leaves. No condition. -/
namespace Go.Proofs.Ytnhikdjljjemlaa
open Go Go.RowKit Ieee
set_option linter.unusedVariables false
set_option linter.unusedSimpArgs false
/-- 'r' is the rung nearest to 'V' (in units of the least place), the even one in the middle -/
structure Mid (f : Format) (V : Rat) (r : Nat) : Prop where
  le : r ≤ f.infRung
  low : r = 0 ∨ ((nval f (r - 1) : Rat) + nval f r ≤ 2 * V ∧ (r % 2 = 1 → (nval f (r - 1) : Rat) + nval f r < 2 * V))
  high : r = f.infRung ∨ (2 * V ≤ (nval f r : Rat) + nval f (r + 1) ∧ (r % 2 = 1 → 2 * V < (nval f r : Rat) + nval f (r + 1)))
theorem nat_rat_le {a b : Nat} (h : a ≤ b) : (a : Rat) ≤ b := Rat.natCast_le_natCast.2 h
theorem nat_rat_lt {a b : Nat} (h : a < b) : (a : Rat) < b := Rat.natCast_lt_natCast.2 h
theorem nval_le {f : Format} {x y : Nat} (h : x ≤ y) : nval f x ≤ nval f y := by
  rcases Nat.lt_or_ge x y with h1 | h1
  · exact Nat.le_of_lt (nval_lt h1)
  · have : x = y := by omega
    rw [this]; exact Nat.le_refl _
theorem Mid.mono {f : Format} {V W : Rat} {r s : Nat} (h : Mid f V r) (k : Mid f W s) (hv : V ≤ W) : r ≤ s := by
  rcases Nat.lt_or_ge s r with hlt | hge
  · exfalso
    have hr0 : r ≠ 0 := by omega
    have hs : s ≠ f.infRung := by have := h.le; omega
    obtain ⟨l1, l2⟩ := h.low.resolve_left hr0
    obtain ⟨u1, u2⟩ := k.high.resolve_left hs
    have a1 : (nval f s : Rat) ≤ nval f (r - 1) := nat_rat_le (nval_le (by omega))
    have a2 : (nval f (s + 1) : Rat) ≤ nval f r := nat_rat_le (nval_le (by omega))
    rcases Nat.lt_or_ge (s + 1) r with h2 | h2
    · have a3 : (nval f (s + 1) : Rat) < nval f r := nat_rat_lt (nval_lt h2)
      grind
    · have e : r = s + 1 := by omega
      subst e
      rcases Nat.mod_two_eq_zero_or_one s with h3 | h3
      · have := l2 (by omega)
        simp only [Nat.add_sub_cancel] at this l1
        grind
      · have := u2 h3
        simp only [Nat.add_sub_cancel] at l1
        grind
  · exact hge
theorem Mid.unique {f : Format} {V : Rat} {r s : Nat} (h : Mid f V r) (k : Mid f V s) : r = s :=
  Nat.le_antisymm (h.mono k Rat.le_refl) (k.mono h Rat.le_refl)
/-- what a number is exactly -/
theorem Mid.exact {f : Format} {r : Nat} (hr : r ≤ f.infRung) : Mid f (nval f r : Rat) r := by
  refine ⟨hr, ?_, ?_⟩
  · rcases Nat.eq_zero_or_pos r with h | h
    · exact .inl h
    · right
      have : (nval f (r - 1) : Rat) < nval f r := nat_rat_lt (nval_lt (by omega))
      constructor
      · grind
      · intro _; grind
  · right
    have : (nval f r : Rat) < nval f (r + 1) := nat_rat_lt (nval_lt (by omega))
    constructor
    · grind
    · intro _; grind
theorem Mid.half_even {f : Format} {r : Nat} (hr : r < f.infRung) {V : Rat} (hV : 2 * V = (nval f r : Rat) + nval f (r + 1)) : Mid f V (if r % 2 = 0 then r else r + 1) := by
  by_cases h : r % 2 = 0
  · rw [if_pos h]
    refine ⟨by omega, ?_, .inr ⟨by grind, fun h1 => by omega⟩⟩
    rcases Nat.eq_zero_or_pos r with h2 | h2
    · exact .inl h2
    · right
      have : (nval f (r - 1) : Rat) ≤ nval f (r + 1) := nat_rat_le (nval_le (by omega))
      exact ⟨by grind, fun h1 => by omega⟩
  · rw [if_neg h]
    refine ⟨by omega, .inr ⟨?_, fun h1 => by omega⟩, .inr ⟨?_, fun h1 => by omega⟩⟩
    · simp only [Nat.add_sub_cancel]; grind
    · have : (nval f r : Rat) ≤ nval f (r + 1 + 1) := nat_rat_le (nval_le (by omega))
      grind
/-- an integer nearest to a number -/
theorem cut_even (neg : Bool) (N d : Nat) : (2 * (Toward.even.cut neg N d : Rat) - 1) * (2 : Rat) ^ d ≤ 2 * N ∧ 2 * (N : Rat) ≤ (2 * (Toward.even.cut neg N d : Rat) + 1) * (2 : Rat) ^ d ∧
    ((Toward.even.cut neg N d) % 2 = 1 → (2 * (Toward.even.cut neg N d : Rat) - 1) * (2 : Rat) ^ d < 2 * N ∧ 2 * (N : Rat) < (2 * (Toward.even.cut neg N d : Rat) + 1) * (2 : Rat) ^ d) := by
  have hp : ∀ n : Nat, ((2 ^ n : Nat) : Rat) = (2 : Rat) ^ n := fun n => by rw [Rat.natCast_pow]; rfl
  unfold Toward.cut
  simp only [Nat.shiftLeft_eq, Nat.one_mul]
  by_cases h : d ≤ N.log2 + 2
  · rw [Nat.min_eq_left h]
    obtain ⟨g, hg⟩ : ∃ g, g = 2 ^ d := ⟨_, rfl⟩
    have hgp : 0 < g := by rw [hg]; exact Nat.two_pow_pos _
    rw [← hp, ← hg]
    have hdiv := Nat.div_add_mod N g
    have hmod := Nat.mod_lt N hgp
    generalize N / g = q at *
    generalize N % g = t at *
    obtain ⟨M, hM⟩ : ∃ M, M = g * q := ⟨_, rfl⟩
    have hN : (N : Rat) = (g : Rat) * q + t := by rw [← hdiv, Rat.natCast_add, Rat.natCast_mul]
    have ht0 : (0 : Rat) ≤ t := Rat.natCast_nonneg
    have htg : (t : Rat) < g := nat_rat_lt hmod
    have hg0 : (0 : Rat) < g := by have := nat_rat_lt hgp; simpa using this
    rw [hN]
    by_cases h1 : g < 2 * t
    · have h1r : (g : Rat) < 2 * t := by have := nat_rat_lt h1; rw [Rat.natCast_mul] at this; simpa using this
      simp only [h1, decide_true, Bool.true_or, Bool.toNat_true]
      rw [Rat.natCast_add]
      refine ⟨by grind, by grind, fun _ => ⟨by grind, by grind⟩⟩
    · by_cases h2 : g = 2 * t
      · have h2r : (g : Rat) = 2 * t := by rw [h2, Rat.natCast_mul]; rfl
        by_cases h3 : q % 2 = 1
        · have e : (decide (g < 2 * t) || (g == 2 * t && q % 2 == 1)) = true := by simp [h1, ← h2, h3]
          rw [e]
          simp only [Bool.toNat_true]
          rw [Rat.natCast_add]
          refine ⟨by grind, by grind, fun h4 => by omega⟩
        · have e : (decide (g < 2 * t) || (g == 2 * t && q % 2 == 1)) = false := by simp [h1, h3]
          rw [e]
          simp only [Bool.toNat_false, Nat.add_zero]
          refine ⟨by grind, by grind, fun h4 => by omega⟩
      · have h4 : 2 * t < g := by omega
        have h4r : 2 * (t : Rat) < g := by have := nat_rat_lt h4; rw [Rat.natCast_mul] at this; simpa using this
        have e : (decide (g < 2 * t) || (g == 2 * t && q % 2 == 1)) = false := by simp [h1, h2]
        rw [e]
        simp only [Bool.toNat_false, Nat.add_zero]
        refine ⟨by grind, by grind, fun _ => ⟨by grind, by grind⟩⟩
  · rw [Nat.min_eq_right (by omega)]
    have hlt : N < 2 ^ (N.log2 + 1) := Nat.lt_log2_self
    have h2 : 2 ^ (N.log2 + 2) = 2 * 2 ^ (N.log2 + 1) := by rw [Nat.pow_succ]; omega
    have e1 : N / 2 ^ (N.log2 + 2) = 0 := Nat.div_eq_of_lt (by omega)
    have e2 : N % 2 ^ (N.log2 + 2) = N := Nat.mod_eq_of_lt (by omega)
    rw [e1, e2]
    have e3 : (decide (2 ^ (N.log2 + 2) < 2 * N) || (2 ^ (N.log2 + 2) == 2 * N && 0 % 2 == 1)) = false := by
      simp; omega
    rw [e3]
    simp only [Bool.toNat_false, Nat.add_zero]
    have h5 : 2 * N < 2 ^ d := by
      have : 2 ^ (N.log2 + 2) ≤ 2 ^ d := Nat.pow_le_pow_right (by decide) (by omega)
      omega
    have h5r : 2 * (N : Rat) < (2 : Rat) ^ d := by have := nat_rat_lt h5; rw [hp, Rat.natCast_mul] at this; simpa using this
    have h6 : (0 : Rat) ≤ N := Rat.natCast_nonneg
    have h7 : (0 : Rat) < (2 : Rat) ^ d := by rw [← hp]; have := nat_rat_lt (Nat.two_pow_pos d); simpa using this
    refine ⟨by grind, by grind, fun h8 => by omega⟩
theorem binade_pos (f : Format) : 0 < f.binade := Nat.two_pow_pos _
/-- the rungs of one binade -/
theorem nval_rung (f : Format) (e k : Nat) (h1 : e = 0 ∨ f.binade ≤ k) (h2 : k ≤ 2 * f.binade) : nval f (e * f.binade + k) = k * 2 ^ e := by
  have hB := binade_pos f
  unfold nval
  rcases Nat.lt_or_ge k f.binade with hk | hk
  · have he : e = 0 := by omega
    subst he
    rw [if_pos (by omega)]; simp
  · rw [if_neg (by have := Nat.zero_le (e * f.binade); omega)]
    rcases Nat.lt_or_ge k (2 * f.binade) with hk2 | hk2
    · have e1 : (e * f.binade + k) / f.binade = e + 1 := by
        rw [Nat.add_comm, Nat.add_mul_div_right _ _ hB]
        have : k / f.binade = 1 := by
          rw [Nat.div_eq_iff hB]; omega
        omega
      have e2 : (e * f.binade + k) % f.binade = k - f.binade := by
        rw [Nat.add_comm, Nat.add_mul_mod_self_right, Nat.mod_eq_sub_mod hk, Nat.mod_eq_of_lt (by omega)]
      rw [e1, e2]
      congr 1; omega
    · have hke : k = 2 * f.binade := by omega
      subst hke
      have e0 : e * f.binade + 2 * f.binade = (e + 2) * f.binade := by rw [Nat.add_mul]
      rw [e0, Nat.mul_div_cancel _ hB, Nat.mul_mod_left]
      simp only [Nat.add_zero]
      rw [show e + 2 - 1 = e + 1 by omega, Nat.pow_succ]
      rw [Nat.mul_comm (2 ^ e) 2, ← Nat.mul_assoc, Nat.mul_comm f.binade 2]
theorem binade_even (f : Format) (hF : 1 ≤ f.fractionBits) (e k : Nat) : (e * f.binade + k) % 2 = k % 2 := by
  have : f.binade % 2 = 0 := by
    unfold Format.binade
    obtain ⟨n, hn⟩ : ∃ n, f.fractionBits = n + 1 := ⟨f.fractionBits - 1, by omega⟩
    rw [hn, Nat.pow_succ]; omega
  rw [Nat.add_mod, Nat.mul_mod, this]; simp
/-- what the format writes is nearest -/
theorem near_mid (f : Format) (hF : 1 ≤ f.fractionBits) (neg : Bool) (m : Nat) (p : Int) : ∃ r, f.nearest neg m p = f.word neg r ∧ Mid f ((m : Rat) * (2 : Rat) ^ (p - f.leastPlace)) r := by
  have hB := binade_pos f
  by_cases hm : m = 0
  · subst hm
    refine ⟨0, by unfold Format.nearest; rw [if_pos rfl], Nat.zero_le _, .inl rfl, .inr ?_⟩
    have h1 : (0 : Rat) ≤ nval f 0 := Rat.natCast_nonneg
    have h2 : (nval f 0 : Rat) < nval f (0 + 1) := nat_rat_lt (nval_lt (by omega))
    have h3 : ((0 : Nat) : Rat) = 0 := rfl
    rw [h3, Rat.zero_mul]
    exact ⟨by grind, fun h => by omega⟩
  unfold Format.nearest
  rw [if_neg hm]
  obtain ⟨last, hlast⟩ : ∃ last, last = max (p + m.log2 - f.fractionBits) f.leastPlace := ⟨_, rfl⟩
  simp only [← hlast]
  obtain ⟨e, he⟩ : ∃ e : Nat, last - f.leastPlace = e := ⟨(last - f.leastPlace).toNat, by omega⟩
  rw [he]
  obtain ⟨k, hk⟩ : ∃ k, k = Toward.even.cut neg (m <<< (p - last).toNat) (last - p).toNat := ⟨_, rfl⟩
  rw [← hk]
  obtain ⟨c1, c2, c3⟩ := cut_even neg (m <<< (p - last).toNat) (last - p).toNat
  rw [← hk] at c1 c2 c3
  -- the number in units of its last place
  obtain ⟨W, hW⟩ : ∃ W : Rat, W = (m : Rat) * (2 : Rat) ^ (p - last) := ⟨_, rfl⟩
  have hpd : (0 : Rat) < (2 : Rat) ^ (last - p).toNat := Rat.pow_pos (by decide)
  have hWN : ((m <<< (p - last).toNat : Nat) : Rat) = W * (2 : Rat) ^ (last - p).toNat := by
    rw [hW, Nat.shiftLeft_eq, Rat.natCast_mul, ← pw_nat]
    have e1 : (2 : Rat) ^ (p - last) * (2 : Rat) ^ (last - p).toNat = (2 : Rat) ^ (((p - last).toNat : Nat) : Int) := by
      rw [← Rat.zpow_natCast (2 : Rat) (last - p).toNat, ← pw_add]; congr 1; omega
    rw [← e1]; grind
  rw [hWN] at c1 c2 c3
  have d1 : 2 * (k : Rat) - 1 ≤ 2 * W := by
    apply Rat.le_of_mul_le_mul_right _ hpd; grind
  have d2 : 2 * W ≤ 2 * (k : Rat) + 1 := by
    apply Rat.le_of_mul_le_mul_right _ hpd; grind
  have d3 : k % 2 = 1 → 2 * (k : Rat) - 1 < 2 * W ∧ 2 * W < 2 * (k : Rat) + 1 := by
    intro h
    obtain ⟨x1, x2⟩ := c3 h
    constructor
    · rw [← Rat.not_le]; intro h; have := Rat.mul_le_mul_of_nonneg_right h (Rat.le_of_lt hpd); grind
    · rw [← Rat.not_le]; intro h; have := Rat.mul_le_mul_of_nonneg_right h (Rat.le_of_lt hpd); grind
  clear c1 c2 c3 hWN hpd
  have hVW : (m : Rat) * (2 : Rat) ^ (p - f.leastPlace) = W * (2 : Rat) ^ e := by
    rw [hW, ← Rat.zpow_natCast (2 : Rat) e]
    have : (2 : Rat) ^ (p - f.leastPlace) = (2 : Rat) ^ (p - last) * (2 : Rat) ^ (e : Int) := by rw [← pw_add]; congr 1; omega
    rw [this]; grind
  rw [hVW]
  -- the size of it
  have hlog1 := Nat.log2_self_le hm
  have hlog2 : m < 2 ^ (m.log2 + 1) := Nat.lt_log2_self
  have hBF : (f.binade : Rat) = (2 : Rat) ^ (f.fractionBits : Int) := by rw [pw_nat]; rfl
  have hW2 : W < 2 * f.binade := by
    have h1 : (m : Rat) < (2 : Rat) ^ ((m.log2 + 1 : Nat) : Int) := by rw [pw_nat]; exact nat_rat_lt hlog2
    have h2 : W < (2 : Rat) ^ ((m.log2 + 1 : Nat) : Int) * (2 : Rat) ^ (p - last) := by
      rw [hW]; exact Rat.mul_lt_mul_of_pos_right h1 (pw_pos _)
    have h3 : (2 : Rat) ^ ((m.log2 + 1 : Nat) : Int) * (2 : Rat) ^ (p - last) ≤ 2 * f.binade := by
      rw [← pw_add, hBF]
      have e21 : (2 : Rat) ^ (1 : Int) = 2 := by decide +kernel
      have h4 : (2 : Rat) * (2 : Rat) ^ (f.fractionBits : Int) = (2 : Rat) ^ ((f.fractionBits : Int) + 1) := by rw [pw_add, e21]; grind
      rw [h4]
      have h5 : ((m.log2 + 1 : Nat) : Int) + (p - last) ≤ (f.fractionBits : Int) + 1 := by omega
      obtain ⟨n, hn⟩ : ∃ n : Nat, (f.fractionBits : Int) + 1 = ((m.log2 + 1 : Nat) : Int) + (p - last) + n := ⟨((f.fractionBits : Int) + 1 - (((m.log2 + 1 : Nat) : Int) + (p - last))).toNat, by omega⟩
      rw [hn, pw_add _ (n : Int)]
      have h6 : (1 : Rat) ≤ (2 : Rat) ^ (n : Int) := by rw [pw_nat]; have := nat_rat_le (Nat.one_le_two_pow (n := n)); simpa using this
      have h7 := pw_pos (((m.log2 + 1 : Nat) : Int) + (p - last))
      have := Rat.mul_le_mul_of_nonneg_left h6 (Rat.le_of_lt h7)
      grind
    grind
  have hW1 : e = 0 ∨ (f.binade : Rat) ≤ W := by
    rcases Nat.eq_zero_or_pos e with h0 | h0
    · exact .inl h0
    · right
      have hl : last = p + m.log2 - f.fractionBits := by omega
      have h1 : (2 : Rat) ^ ((m.log2 : Nat) : Int) ≤ (m : Rat) := by rw [pw_nat]; exact nat_rat_le hlog1
      have h2 : (2 : Rat) ^ ((m.log2 : Nat) : Int) * (2 : Rat) ^ (p - last) ≤ W := by
        rw [hW]; exact Rat.mul_le_mul_of_nonneg_right h1 (Rat.le_of_lt (pw_pos _))
      rw [← pw_add] at h2
      have h3 : ((m.log2 : Nat) : Int) + (p - last) = f.fractionBits := by omega
      rw [h3, ← hBF] at h2
      exact h2
  have hW0 : 0 ≤ W := by rw [hW]; exact Rat.mul_nonneg Rat.natCast_nonneg (Rat.le_of_lt (pw_pos _))
  have hk2 : k ≤ 2 * f.binade := by
    have h1 : (2 * k : Nat) < 4 * f.binade + 2 := by
      have : ((2 * k : Nat) : Rat) < ((4 * f.binade + 2 : Nat) : Rat) := by
        rw [Rat.natCast_mul, Rat.natCast_add, Rat.natCast_mul]
        have e2 : ((2 : Nat) : Rat) = 2 := rfl
        have e4 : ((4 : Nat) : Rat) = 4 := rfl
        rw [e2, e4]; grind
      exact Rat.natCast_lt_natCast.1 this
    omega
  have hk1 : e = 0 ∨ f.binade ≤ k := by
    rcases hW1 with h | h
    · exact .inl h
    · right
      have : (2 * f.binade : Nat) < 2 * k + 2 := by
        have : ((2 * f.binade : Nat) : Rat) < ((2 * k + 2 : Nat) : Rat) := by
          rw [Rat.natCast_mul, Rat.natCast_add, Rat.natCast_mul]
          have e2 : ((2 : Nat) : Rat) = 2 := rfl
          rw [e2]; grind
        exact Rat.natCast_lt_natCast.1 this
      omega
  have hE : (0 : Rat) < (2 : Rat) ^ e := Rat.pow_pos (by decide)
  have hEn : ∀ j : Nat, ((j * 2 ^ e : Nat) : Rat) = (j : Rat) * (2 : Rat) ^ e := fun j => by rw [Rat.natCast_mul, Rat.natCast_pow]; rfl
  obtain ⟨R, hR⟩ : ∃ R, R = e * f.binade + k := ⟨_, rfl⟩
  have hnR : (nval f R : Rat) = (k : Rat) * (2 : Rat) ^ e := by rw [hR, nval_rung f e k hk1 hk2, hEn]
  have hpar : R % 2 = k % 2 := by rw [hR]; exact binade_even f hF e k
  -- below
  have hlow : R = 0 ∨ ((nval f (R - 1) : Rat) + nval f R ≤ 2 * (W * (2 : Rat) ^ e) ∧ (R % 2 = 1 → (nval f (R - 1) : Rat) + nval f R < 2 * (W * (2 : Rat) ^ e))) := by
    rcases Nat.eq_zero_or_pos R with h0 | h0
    · exact .inl h0
    · right
      by_cases hkb : e = 0 ∨ f.binade + 1 ≤ k
      · have hk0 : 1 ≤ k := by
          rcases hkb with h | h
          · subst h; omega
          · omega
        have hprev : (nval f (R - 1) : Rat) = ((k : Rat) - 1) * (2 : Rat) ^ e := by
          have : R - 1 = e * f.binade + (k - 1) := by omega
          rw [this, nval_rung f e (k - 1) (by omega) (by omega), hEn]
          congr 1
          have : ((k - 1 + 1 : Nat) : Rat) = (k : Rat) := by congr 1; omega
          rw [Rat.natCast_add] at this
          have e1 : ((1 : Nat) : Rat) = 1 := rfl
          rw [e1] at this; grind
        rw [hprev, hnR]
        have g1 := Rat.mul_le_mul_of_nonneg_right d1 (Rat.le_of_lt hE)
        refine ⟨by grind, fun h => ?_⟩
        have g2 := Rat.mul_lt_mul_of_pos_right (d3 (by omega)).1 hE
        grind
      · have he1 : e ≠ 0 := fun h => hkb (.inl h)
        have hke : k = f.binade := by have := hk1.resolve_left he1; omega
        have hWb := hW1.resolve_left he1
        have hprev : (nval f (R - 1) : Rat) < nval f R := nat_rat_lt (nval_lt (by omega))
        have g1 := Rat.mul_le_mul_of_nonneg_right hWb (Rat.le_of_lt hE)
        rw [hnR] at hprev ⊢
        have hkr : (k : Rat) = f.binade := by rw [hke]
        rw [hkr] at hprev ⊢
        exact ⟨by grind, fun _ => by grind⟩
  -- above
  have hhigh : 2 * (W * (2 : Rat) ^ e) ≤ (nval f R : Rat) + nval f (R + 1) ∧ (R % 2 = 1 → 2 * (W * (2 : Rat) ^ e) < (nval f R : Rat) + nval f (R + 1)) := by
    by_cases hkb : k + 1 ≤ 2 * f.binade
    · have hnext : (nval f (R + 1) : Rat) = ((k : Rat) + 1) * (2 : Rat) ^ e := by
        have : R + 1 = e * f.binade + (k + 1) := by omega
        rw [this, nval_rung f e (k + 1) (by omega) hkb, hEn, Rat.natCast_add]; rfl
      rw [hnext, hnR]
      have g1 := Rat.mul_le_mul_of_nonneg_right d2 (Rat.le_of_lt hE)
      refine ⟨by grind, fun h => ?_⟩
      have g2 := Rat.mul_lt_mul_of_pos_right (d3 (by omega)).2 hE
      grind
    · have hke : k = 2 * f.binade := by omega
      have hnext : (nval f R : Rat) < nval f (R + 1) := nat_rat_lt (nval_lt (by omega))
      have g1 := Rat.mul_lt_mul_of_pos_right hW2 hE
      rw [hnR] at hnext ⊢
      have hkr : (k : Rat) = 2 * f.binade := by rw [hke, Rat.natCast_mul]; rfl
      rw [hkr] at hnext ⊢
      exact ⟨by grind, fun _ => by grind⟩
  rw [Int.toNat_natCast, ← hR]
  refine ⟨min R f.infRung, rfl, Nat.min_le_right _ _, ?_, ?_⟩
  · rcases Nat.lt_or_ge f.infRung R with h | h
    · rw [Nat.min_eq_right (by omega)]
      rcases Nat.eq_zero_or_pos f.infRung with h0 | h0
      · exact .inl h0
      · right
        have hev : f.infRung % 2 = 0 := by
          unfold Format.infRung
          have := binade_even f hF (2 ^ f.exponentBits - 1) 0
          simpa using this
        obtain ⟨l1, _⟩ := hlow.resolve_left (by omega)
        have a1 : (nval f (f.infRung - 1) : Rat) ≤ nval f (R - 1) := nat_rat_le (nval_le (by omega))
        have a2 : (nval f f.infRung : Rat) ≤ nval f R := nat_rat_le (nval_le (by omega))
        exact ⟨by grind, fun h => by omega⟩
    · rw [Nat.min_eq_left h]; exact hlow
  · rcases Nat.lt_or_ge R f.infRung with h | h
    · rw [Nat.min_eq_left (by omega)]; exact .inr hhigh
    · rw [Nat.min_eq_right h]; exact .inl rfl
end Go.Proofs.Ytnhikdjljjemlaa
/- Plain laws of floats as rational numbers: each operation leaves the nearest number. No condition. -/
namespace Go.Proofs.Ytnhikdjljjemlaa
open Go Go.RowKit Ieee
set_option linter.unusedVariables false
set_option linter.unusedSimpArgs false
theorem rat_tri (a b : Rat) : a < b ∨ a = b ∨ b < a := by grind
def rabs (q : Rat) : Rat := if q < 0 then -q else q
theorem rabs_nonneg (q : Rat) : 0 ≤ rabs q := by unfold rabs; split <;> grind
theorem rabs_pos {q : Rat} (h : 0 ≤ q) : rabs q = q := by unfold rabs; rw [if_neg (by grind)]
theorem rabs_neg {q : Rat} (h : q ≤ 0) : rabs q = -q := by unfold rabs; split <;> grind
theorem sg_abs (s : Bool) {v : Rat} (hv : 0 ≤ v) : rabs (sg s * v) = v := by
  unfold sg
  cases s
  · simp only [Bool.false_eq_true, if_false]; rw [Rat.one_mul, rabs_pos hv]
  · simp only [if_true]; rw [rabs_neg (by grind)]; grind
/-- the word of the number nearest to 'q' -/
def Near (f : Format) (q : Rat) (w : Nat) : Prop :=
  ∃ s r, w = f.word s r ∧ Mid f (rabs q * (2 : Rat) ^ (-f.leastPlace)) r ∧ (q < 0 → s = true) ∧ (0 < q → s = false)
/-- a finite word -/
def Fin (f : Format) (w : Nat) : Prop := ∃ s r, w = f.word s r ∧ r < f.infRung
/-- what a word is worth -/
def val (f : Format) (w : Nat) : Rat := rv (f.read w)
theorem read_num (f : Format) (s : Bool) {r : Nat} (hr : r < f.infRung) : ∃ m p, f.read (f.word s r) = .number s m p ∧ (m : Rat) * (2 : Rat) ^ p = (nval f r : Rat) * (2 : Rat) ^ f.leastPlace := by
  obtain ⟨m, p, h1, h2, h3⟩ := read_fin f s hr
  refine ⟨m, p, h1, ?_⟩
  rw [← h3, Nat.shiftLeft_eq, Rat.natCast_mul, ← pw_nat]
  have : (2 : Rat) ^ p = (2 : Rat) ^ (((p - f.leastPlace).toNat : Nat) : Int) * (2 : Rat) ^ f.leastPlace := by rw [← pw_add]; congr 1; omega
  rw [this]; grind
theorem val_word (f : Format) (s : Bool) {r : Nat} (hr : r < f.infRung) : val f (f.word s r) = sg s * ((nval f r : Rat) * (2 : Rat) ^ f.leastPlace) := by
  obtain ⟨m, p, h1, h2⟩ := read_num f s hr
  unfold val
  rw [h1]
  unfold rv num
  rw [← h2]; grind
theorem pw_cancel (p : Int) : (2 : Rat) ^ p * (2 : Rat) ^ (-p) = 1 := by
  rw [← pw_add, show p + -p = 0 by omega, pw_zero]
theorem units (f : Format) (v : Rat) : v * (2 : Rat) ^ f.leastPlace * (2 : Rat) ^ (-f.leastPlace) = v := by
  rw [Rat.mul_assoc, pw_cancel]; grind
theorem units' (f : Format) (v : Rat) : v * (2 : Rat) ^ (-f.leastPlace) * (2 : Rat) ^ f.leastPlace = v := by
  rw [Rat.mul_assoc, Rat.mul_comm ((2 : Rat) ^ (-f.leastPlace)), pw_cancel]; grind
theorem word_inj {f : Format} {s t : Bool} {r q : Nat} (hr : r < f.signWeight) (hq : q < f.signWeight) (h : f.word s r = f.word t q) : s = t ∧ r = q := by
  unfold Format.word at h
  cases s <;> cases t <;> simp at h ⊢ <;> omega
/-- a number of the format is what is nearest to itself -/
theorem Near.exact {f : Format} {w : Nat} (h : Fin f w) {q : Rat} (hq : q = val f w) (h0 : q ≠ 0) {w' : Nat} (hn : Near f q w') : w' = w := by
  obtain ⟨s, r, rfl, hr⟩ := h
  obtain ⟨t, r', rfl, hm, h1, h2⟩ := hn
  rw [val_word f s hr] at hq
  have hp := pw_pos f.leastPlace
  have hn0 : (0 : Rat) ≤ nval f r := Rat.natCast_nonneg
  have hv0 : (0 : Rat) ≤ (nval f r : Rat) * (2 : Rat) ^ f.leastPlace := Rat.mul_nonneg hn0 (Rat.le_of_lt hp)
  have ha : rabs q = (nval f r : Rat) * (2 : Rat) ^ f.leastPlace := by rw [hq]; exact sg_abs s hv0
  rw [ha, units] at hm
  have e := hm.unique (Mid.exact (Nat.le_of_lt hr))
  subst e
  have : t = s := by
    unfold sg at hq
    cases s
    · simp only [Bool.false_eq_true, if_false] at hq
      rw [Rat.one_mul] at hq
      exact h2 (by grind)
    · simp only [if_true] at hq
      exact h1 (by grind)
  rw [this]
/-- the same where zeros are not told apart -/
theorem Near.val_exact {f : Format} {w : Nat} (h : Fin f w) {q : Rat} (hq : q = val f w) {w' : Nat} (hn : Near f q w') : Fin f w' ∧ val f w' = q := by
  by_cases h0 : q = 0
  · obtain ⟨t, r', rfl, hm, h1, h2⟩ := hn
    obtain ⟨s, r, rfl, hr⟩ := h
    have : Mid f (rabs q * (2 : Rat) ^ (-f.leastPlace)) 0 := by
      rw [h0, rabs_pos Rat.le_refl, Rat.zero_mul]
      have := Mid.exact (f := f) (r := 0) (Nat.zero_le _)
      rw [nval_zero] at this; exact this
    have e := hm.unique this
    subst e
    have hi : 0 < f.infRung := by omega
    refine ⟨⟨t, 0, rfl, hi⟩, ?_⟩
    rw [val_word f t hi, nval_zero, h0]
    have e0 : ((0 : Nat) : Rat) = 0 := rfl
    rw [e0]; grind
  · have := hn.exact h hq h0
    subst this
    exact ⟨h, hq.symm⟩
theorem abs_val (f : Format) (s : Bool) {r : Nat} (hr : r < f.infRung) : rabs (val f (f.word s r)) * (2 : Rat) ^ (-f.leastPlace) = nval f r := by
  rw [val_word f s hr, sg_abs s (Rat.mul_nonneg Rat.natCast_nonneg (Rat.le_of_lt (pw_pos _))), units]
/-- nearest numbers stand as the numbers do -/
theorem Near.mono {f : Format} {q q' : Rat} {w w' : Nat} (h : Near f q w) (h' : Near f q' w') (hw : Fin f w) (hw' : Fin f w') (hI : f.infRung < f.signWeight) (hq : q ≤ q') : val f w ≤ val f w' := by
  obtain ⟨s, r, rfl, hm, h1, h2⟩ := h
  obtain ⟨t, r', rfl, hm', h1', h2'⟩ := h'
  obtain ⟨s0, r0, e0, hr⟩ := hw
  obtain ⟨t0, r0', e0', hr'⟩ := hw'
  obtain ⟨rfl, rfl⟩ := word_inj (by have := hm.le; omega) (by omega) e0
  obtain ⟨rfl, rfl⟩ := word_inj (by have := hm'.le; omega) (by omega) e0'
  rw [val_word f _ hr, val_word f _ hr']
  have hp := pw_pos f.leastPlace
  have hpn := pw_pos (-f.leastPlace)
  have n0 : (0 : Rat) ≤ (nval f r : Rat) * (2 : Rat) ^ f.leastPlace := Rat.mul_nonneg Rat.natCast_nonneg (Rat.le_of_lt hp)
  have n1 : (0 : Rat) ≤ (nval f r' : Rat) * (2 : Rat) ^ f.leastPlace := Rat.mul_nonneg Rat.natCast_nonneg (Rat.le_of_lt hp)
  have zero : ∀ {x : Rat} {k : Nat}, x = 0 → Mid f (rabs x * (2 : Rat) ^ (-f.leastPlace)) k → k = 0 := by
    intro x k hx hk
    rw [hx, rabs_pos Rat.le_refl, Rat.zero_mul] at hk
    have := Mid.exact (f := f) (r := 0) (Nat.zero_le _)
    rw [nval_zero] at this
    exact hk.unique this
  have z0 : (nval f 0 : Rat) = 0 := by rw [nval_zero]; rfl
  unfold sg
  rcases rat_tri q 0 with a | a | a
  · rw [h1 a]
    rcases rat_tri q' 0 with b | b | b
    · rw [h1' b]
      have hle : rabs q' * (2 : Rat) ^ (-f.leastPlace) ≤ rabs q * (2 : Rat) ^ (-f.leastPlace) := by
        apply Rat.mul_le_mul_of_nonneg_right _ (Rat.le_of_lt hpn)
        rw [rabs_neg (Rat.le_of_lt a), rabs_neg (Rat.le_of_lt b)]; grind
      have := nat_rat_le (nval_le (f := f) (hm'.mono hm hle))
      have := Rat.mul_le_mul_of_nonneg_right this (Rat.le_of_lt hp)
      simp only [if_true]; grind
    · have := zero b hm'
      subst this
      rw [z0]
      simp only [if_true]; grind
    · rw [h2' b]
      simp only [if_true, Bool.false_eq_true, if_false]; grind
  · have := zero a hm
    subst this
    rw [z0]
    rcases rat_tri q' 0 with b | b | b
    · grind
    · have := zero b hm'
      subst this
      rw [z0]; grind
    · rw [h2' b]
      simp only [Bool.false_eq_true, if_false]; grind
  · rw [h2 a, h2' (by grind)]
    have hle : rabs q * (2 : Rat) ^ (-f.leastPlace) ≤ rabs q' * (2 : Rat) ^ (-f.leastPlace) := by
      apply Rat.mul_le_mul_of_nonneg_right _ (Rat.le_of_lt hpn)
      rw [rabs_pos (Rat.le_of_lt a), rabs_pos (by grind)]; exact hq
    have := nat_rat_le (nval_le (f := f) (hm.mono hm' hle))
    have := Rat.mul_le_mul_of_nonneg_right this (Rat.le_of_lt hp)
    simp only [Bool.false_eq_true, if_false]; grind
/-- what is written for a number -/
theorem near_num (f : Format) (hF : 1 ≤ f.fractionBits) (s : Bool) (m : Nat) (p : Int) : Near f (num s m p) (f.nearest s m p) := by
  obtain ⟨r, h1, h2⟩ := near_mid f hF s m p
  have hp := pw_pos p
  have hm : (0 : Rat) ≤ m := Rat.natCast_nonneg
  have hv : (0 : Rat) ≤ (m : Rat) * (2 : Rat) ^ p := Rat.mul_nonneg hm (Rat.le_of_lt hp)
  refine ⟨s, r, h1, ?_, ?_, ?_⟩
  · have e : num s m p = sg s * ((m : Rat) * (2 : Rat) ^ p) := by unfold num; grind
    rw [e, sg_abs s hv]
    have : (2 : Rat) ^ (p - f.leastPlace) = (2 : Rat) ^ p * (2 : Rat) ^ (-f.leastPlace) := by rw [← pw_add]; congr 1
    rw [this] at h2
    rw [Rat.mul_assoc]; exact h2
  · intro h
    unfold num sg at h
    cases s
    · simp only [Bool.false_eq_true, if_false] at h
      grind
    · rfl
  · intro h
    unfold num sg at h
    cases s
    · rfl
    · simp only [if_true] at h
      grind
end Go.Proofs.Ytnhikdjljjemlaa
