/- Plain laws of floats: a number up to which NaN it is ('cn'), the four operations, conversions and comparisons on such numbers. No condition. -/
import Derived.WalkLawsBesides
import Derived.Laws.EntriesVeiled
import Derived.Deep.Draws
namespace Go.Proofs.Ytaocilimggpdjaa
open Go Ieee

def nanOf : FloatKind → Nat
  | .f32 => 2143289344
  | .f64 => 9221120237041090560
def isN (k : FloatKind) (x : Nat) : Bool := (k.format.read x).isNaN
/-- a number, all NaNs being one -/
def cn (k : FloatKind) (x : Nat) : Nat := if isN k x = true then nanOf k else x

def fop (op : BinOp) (k : FloatKind) (x y : Nat) : Nat := (floatBits op k x y).getD (nanOf k)
def fbits (op : BinOp) (k : FloatKind) (x y : Nat) (w : World) : Nat := (floatBits op k x y).getD ((Question.nanBits k x y).cut (w.tape w.drawn (.nanBits k x y)))
def fdr (op : BinOp) (k : FloatKind) (x y : Nat) : Nat := if (floatBits op k x y).isSome then 0 else 1

theorem World.drewN_none (w : World) : w.drewN 0 = w := rfl

theorem run_fl {P : Program} (w : World) (op : BinOp) (t : TypeId) (k : FloatKind) (x y : Nat) (ho : op = .add ∨ op = .sub ∨ op = .mul ∨ op = .quo) :
    (binOp op t (.float k x) (.float k y)).run P w = .ok (.float k (fbits op k x y w)) (w.drewN (fdr op k x y)) := by
  cases h : floatBits op k x y with
  | some r => simp only [fbits, fdr, h, Option.getD_some, Option.isSome_some, if_true]; exact run_float_arith w op t k x y r h
  | none =>
    simp only [fbits, fdr, h, Option.getD_none, Option.isSome_none]
    unfold floatBits at h
    rcases ho with rfl | rfl | rfl | rfl
    all_goals
      simp only at h
      simp [binOp, Op.floatArith, h, choose, Sem.run, Question.forced, World.drewN]

section
variable {P : Program} (w : World) (t : TypeId) (k : FloatKind) (x y : Nat)
@[go_sem] theorem run_fl_add : (binOp .add t (.float k x) (.float k y)).run P w = .ok (.float k (fbits .add k x y w)) (w.drewN (fdr .add k x y)) := run_fl w _ t k x y (by simp)
@[go_sem] theorem run_fl_sub : (binOp .sub t (.float k x) (.float k y)).run P w = .ok (.float k (fbits .sub k x y w)) (w.drewN (fdr .sub k x y)) := run_fl w _ t k x y (by simp)
@[go_sem] theorem run_fl_mul : (binOp .mul t (.float k x) (.float k y)).run P w = .ok (.float k (fbits .mul k x y w)) (w.drewN (fdr .mul k x y)) := run_fl w _ t k x y (by simp)
@[go_sem] theorem run_fl_quo : (binOp .quo t (.float k x) (.float k y)).run P w = .ok (.float k (fbits .quo k x y w)) (w.drewN (fdr .quo k x y)) := run_fl w _ t k x y (by simp)
end

@[go_sem] theorem run_store_float (P : Program) (w : World) (a : Addr) (m : Mode) (k : FloatKind) (n : Nat) : (store a (.float k n) m).run P w = stored P w a (.float k n) m := run_store P w a _ m rfl

/-! what a word reads as -/
theorem word_div (f : Format) (neg : Bool) {r : Nat} (h : r < f.signWeight) : f.word neg r / f.signWeight % 2 = neg.toNat := by
  have hp : 0 < f.signWeight := Nat.two_pow_pos _
  unfold Format.word
  cases neg
  · simp [Nat.div_eq_of_lt h]
  · simp only [if_true, Bool.toNat_true]
    rw [Nat.add_div_left _ hp, Nat.div_eq_of_lt h]
theorem word_mod (f : Format) (neg : Bool) {r : Nat} (h : r < f.signWeight) : f.word neg r % f.signWeight = r := by
  unfold Format.word
  cases neg
  · simp [Nat.mod_eq_of_lt h]
  · simp only [if_true]
    rw [Nat.add_mod_left, Nat.mod_eq_of_lt h]
theorem read_word (f : Format) (neg : Bool) {r : Nat} (h : r < f.signWeight) : f.read (f.word neg r) =
    if r < f.binade then .number neg r f.leastPlace
    else if r < f.infRung then .number neg (f.binade + r % f.binade) (f.leastPlace + (r / f.binade - 1 : Nat))
    else if r = f.infRung then .infinity neg
    else .nan neg (r - f.infRung) := by
  unfold Format.read
  simp only [word_div f neg h, word_mod f neg h]
  cases neg <;> rfl
theorem read_word_le (f : Format) (neg : Bool) {r : Nat} (h : r ≤ f.infRung) : (f.read (f.word neg r)).isNaN = false := by
  rw [read_word f neg (Nat.lt_of_le_of_lt h f.infRung_lt)]
  split
  · rfl
  · split
    · rfl
    · rw [if_pos (by omega)]; rfl
theorem nearest_not (f : Format) (neg : Bool) (m : Nat) (p : Int) : (f.read (f.nearest neg m p)).isNaN = false := by
  unfold Format.nearest
  split
  · exact read_word_le f neg (Nat.zero_le _)
  · exact read_word_le f neg (Nat.min_le_right ..)
theorem write_not (f : Format) {d : Datum} (h : d.isNaN = false) : (f.read (f.write d)).isNaN = false := by
  cases d with
  | number s m p => exact nearest_not f s m p
  | infinity s => exact read_word_le f s (Nat.le_refl _)
  | nan s t => simp [Datum.isNaN] at h

theorem sum_not {a b d : Datum} (h : a.sum b = some d) : a.isNaN = false ∧ b.isNaN = false ∧ d.isNaN = false := by
  cases a <;> cases b <;> simp [Datum.sum, Datum.isNaN] at h ⊢
  all_goals first | (obtain ⟨_, h⟩ := h; subst h; rfl) | (subst h; rfl)
theorem opposite_not (a : Datum) : a.opposite.isNaN = a.isNaN := by cases a <;> rfl
theorem product_not {a b d : Datum} (h : a.product b = some d) : a.isNaN = false ∧ b.isNaN = false ∧ d.isNaN = false := by
  cases a <;> cases b <;> simp [Datum.product, Datum.isNaN] at h ⊢ <;> first | (obtain ⟨_, h⟩ := h; subst h; rfl) | (subst h; rfl)
theorem quotient_not {n : Nat} {a b d : Datum} (h : a.quotient n b = some d) : a.isNaN = false ∧ b.isNaN = false ∧ d.isNaN = false := by
  cases a <;> cases b <;> simp [Datum.quotient, Datum.isNaN] at h ⊢
  all_goals first | (subst h; rfl) | skip
  split at h
  · split at h
    · cases h
    · cases h; rfl
  · cases h; rfl
theorem map_write_not (f : Format) {o : Option Datum} {r : Nat} (ho : ∀ d, o = some d → d.isNaN = false) (h : o.map f.write = some r) : (f.read r).isNaN = false := by
  cases o with
  | none => cases h
  | some d => cases h; exact write_not f (ho d rfl)
theorem bits_not {op : BinOp} {k : FloatKind} {x y r : Nat} (h : floatBits op k x y = some r) : isN k x = false ∧ isN k y = false ∧ isN k r = false := by
  unfold floatBits at h
  have key : ∀ (o : Option Datum), o.map k.format.write = some r → ∃ d, o = some d := fun o ho => by cases o with | none => cases ho | some d => exact ⟨d, rfl⟩
  split at h
  · obtain ⟨d, hd⟩ := key _ h; obtain ⟨h1, h2, h3⟩ := sum_not hd
    exact ⟨h1, h2, map_write_not _ (fun d' e => by rw [hd] at e; cases e; exact h3) h⟩
  · obtain ⟨d, hd⟩ := key _ h; obtain ⟨h1, h2, h3⟩ := sum_not hd
    exact ⟨h1, by rw [opposite_not] at h2; exact h2, map_write_not _ (fun d' e => by rw [hd] at e; cases e; exact h3) h⟩
  · obtain ⟨d, hd⟩ := key _ h; obtain ⟨h1, h2, h3⟩ := product_not hd
    exact ⟨h1, h2, map_write_not _ (fun d' e => by rw [hd] at e; cases e; exact h3) h⟩
  · obtain ⟨d, hd⟩ := key _ h; obtain ⟨h1, h2, h3⟩ := quotient_not hd
    exact ⟨h1, h2, map_write_not _ (fun d' e => by rw [hd] at e; cases e; exact h3) h⟩
  · cases h

theorem cn_not {k : FloatKind} {x : Nat} (h : isN k x = false) : cn k x = x := by simp [cn, h]
theorem cn_nan {k : FloatKind} {x : Nat} (h : isN k x = true) : cn k x = nanOf k := by simp [cn, h]
theorem isN_nanOf (k : FloatKind) : isN k (nanOf k) = true := by cases k <;> decide +kernel
theorem isN_cn (k : FloatKind) (x : Nat) : isN k (cn k x) = isN k x := by
  cases h : isN k x
  · rw [cn_not h, h]
  · rw [cn_nan h, isN_nanOf]
theorem cn_cn (k : FloatKind) (x : Nat) : cn k (cn k x) = cn k x := by
  cases h : isN k x
  · rw [cn_not h, cn_not h]
  · rw [cn_nan h, cn_nan (isN_nanOf k)]
theorem cn_nanOf (k : FloatKind) : cn k (nanOf k) = nanOf k := cn_nan (isN_nanOf k)

theorem bits_none_left {op : BinOp} {k : FloatKind} {x y : Nat} (h : isN k x = true) : floatBits op k x y = none := by
  cases e : floatBits op k x y with
  | none => rfl
  | some r => have := (bits_not e).1; rw [h] at this; cases this
theorem bits_none_right {op : BinOp} {k : FloatKind} {x y : Nat} (h : isN k y = true) : floatBits op k x y = none := by
  cases e : floatBits op k x y with
  | none => rfl
  | some r => have := (bits_not e).2.1; rw [h] at this; cases this
theorem bits_cn (op : BinOp) (k : FloatKind) (x y : Nat) : floatBits op k (cn k x) (cn k y) = floatBits op k x y := by
  cases hx : isN k x
  · cases hy : isN k y
    · rw [cn_not hx, cn_not hy]
    · rw [bits_none_right hy, bits_none_right (by rw [isN_cn, hy])]
  · rw [bits_none_left hx, bits_none_left (by rw [isN_cn, hx])]
theorem fop_cn (op : BinOp) (k : FloatKind) (x y : Nat) : fop op k (cn k x) (cn k y) = fop op k x y := by unfold fop; rw [bits_cn]
theorem cn_fop (op : BinOp) (k : FloatKind) (x y : Nat) : cn k (fop op k x y) = fop op k x y := by
  unfold fop
  cases h : floatBits op k x y with
  | none => exact cn_nanOf k
  | some r => exact cn_not (bits_not h).2.2

theorem read_high (f : Format) (hb : f.binade ≤ f.infRung) (neg : Bool) (r : Nat) (h1 : f.infRung < r) (h2 : r < f.signWeight) : (f.read (f.word neg r)).isNaN = true := by
  rw [read_word f _ h2, if_neg (by omega), if_neg (by omega), if_neg (by omega)]; rfl
theorem drawn_nan (k : FloatKind) (x y t : Nat) : isN k ((Question.nanBits k x y).cut t) = true := by
  cases k
  · have h2 := Nat.mod_lt (t / 2) (show 0 < 2 ^ 23 - 1 by omega)
    have e1 : single.infRung = 0x7f800000 := by decide +kernel
    have e2 : single.signWeight = 2 ^ 31 := by decide +kernel
    have e3 : single.binade = 2 ^ 23 := by decide +kernel
    have key := read_high single (by omega) (t % 2 == 1) (0x7f800000 + 1 + (t / 2) % (2 ^ 23 - 1)) (by omega) (by omega)
    have e : single.word (t % 2 == 1) (0x7f800000 + 1 + (t / 2) % (2 ^ 23 - 1)) = (Question.nanBits .f32 x y).cut t := by
      unfold Format.word
      simp only [Question.cut, e2]
      have := Nat.mod_two_eq_zero_or_one t
      rcases this with h | h <;> simp [h] <;> omega
    rw [e] at key; exact key
  · have h2 := Nat.mod_lt (t / 2) (show 0 < 2 ^ 52 - 1 by omega)
    have e1 : double.infRung = 0x7ff0000000000000 := by decide +kernel
    have e2 : double.signWeight = 2 ^ 63 := by decide +kernel
    have e3 : double.binade = 2 ^ 52 := by decide +kernel
    have key := read_high double (by omega) (t % 2 == 1) (0x7ff0000000000000 + 1 + (t / 2) % (2 ^ 52 - 1)) (by omega) (by omega)
    have e : double.word (t % 2 == 1) (0x7ff0000000000000 + 1 + (t / 2) % (2 ^ 52 - 1)) = (Question.nanBits .f64 x y).cut t := by
      unfold Format.word
      simp only [Question.cut, e2]
      have := Nat.mod_two_eq_zero_or_one t
      rcases this with h | h <;> simp [h] <;> omega
    rw [e] at key; exact key

/-- what an operation leaves, up to which NaN -/
theorem cn_fbits (op : BinOp) (k : FloatKind) (x y : Nat) (w : World) : cn k (fbits op k x y w) = fop op k (cn k x) (cn k y) := by
  rw [fop_cn]
  unfold fbits fop
  cases h : floatBits op k x y with
  | none => exact cn_nan (drawn_nan k x y _)
  | some r => exact cn_not (bits_not h).2.2

theorem drawn_lt (k : FloatKind) (x y t : Nat) : (Question.nanBits k x y).cut t < 2 ^ k.format.width := by
  cases k
  · simp only [Question.cut]
    have h1 := Nat.mod_lt t (show 0 < 2 by omega)
    have h2 := Nat.mod_lt (t / 2) (show 0 < 2 ^ 23 - 1 by omega)
    show _ < 2 ^ 32
    omega
  · simp only [Question.cut]
    have h1 := Nat.mod_lt t (show 0 < 2 by omega)
    have h2 := Nat.mod_lt (t / 2) (show 0 < 2 ^ 52 - 1 by omega)
    show _ < 2 ^ 64
    omega
theorem fbits_lt (op : BinOp) (k : FloatKind) (x y : Nat) (w : World) : fbits op k x y w < 2 ^ k.format.width := by
  unfold fbits
  cases h : floatBits op k x y with
  | none => exact drawn_lt k x y _
  | some r =>
    have := floatBits_wf h
    cases k
    · show r < 2 ^ 32
      simpa [Lit.wf] using this
    · show r < 2 ^ 64
      simpa [Lit.wf] using this

/-! comparisons -/
theorem order_none {k : FloatKind} {x y : Nat} (h : isN k x = true ∨ isN k y = true) : k.format.order x y = none := by
  unfold Format.order
  unfold isN at h
  cases hx : k.format.read x <;> cases hy : k.format.read y <;> simp [hx, hy, Datum.isNaN] at h <;> rfl
theorem order_cn (k : FloatKind) (x y : Nat) : k.format.order (cn k x) (cn k y) = k.format.order x y := by
  cases hx : isN k x
  · cases hy : isN k y
    · rw [cn_not hx, cn_not hy]
    · rw [order_none (.inr hy), order_none (.inr (by rw [isN_cn, hy]))]
  · rw [order_none (.inl hx), order_none (.inl (by rw [isN_cn, hx]))]
theorem order_self (k : FloatKind) (x : Nat) : k.format.order x x = if isN k x = true then none else some .eq := by
  unfold Format.order isN
  cases h : k.format.read x with
  | nan s t => rfl
  | infinity s => simp [Datum.order, Datum.isNaN]
  | number s m p => simp [Datum.order, Datum.isNaN]

/-! conversions between the two kinds -/
def cvbits (src : FloatKind) (b : Nat) (dst : FloatKind) (w : World) : Nat :=
  if src = dst then b else
  match src.decode b with
  | .nan _ _ => (Question.nanConv dst b).cut (w.tape w.drawn (.nanConv dst b))
  | .infinity s => dst.encode (.infinity s)
  | .number s m e => if (dst.decode (dst.encode (.number s m e))).isInfinity then (Question.floatToFloat b).cut (w.tape w.drawn (.floatToFloat b)) else dst.encode (.number s m e)
def cvdr (src : FloatKind) (b : Nat) (dst : FloatKind) : Nat := if (floatToFloatBits src b dst).isSome then 0 else 1
/-- the same as a function; where the language fixes no value: 0 -/
def fcv (src : FloatKind) (b : Nat) (dst : FloatKind) : Nat :=
  if src = dst then cn dst b else
  match src.decode b with
  | .nan _ _ => nanOf dst
  | d => dst.encode d
/-- a finite number that the narrower kind has not -/
def cvWide (src : FloatKind) (b : Nat) (dst : FloatKind) : Bool :=
  if src = dst then false else
  match src.decode b with
  | .number s m e => (dst.decode (dst.encode (.number s m e))).isInfinity
  | _ => false

@[go_sem] theorem run_cv {P : Program} (w : World) (src dst : TypeId) (s k : FloatKind) (b : Nat) (hs : (P.underlying src).isSome = true) (hd : P.underlying dst = some (.float k)) :
    (convert src dst (.float s b)).run P w = .ok (.float k (cvbits s b k w)) (w.drewN (cvdr s b k)) := by
  cases h : floatToFloatBits s b k with
  | some r =>
    have hr := run_convert_float_float (P := P) w src dst s k b r hs hd h
    rw [hr]
    have e1 : cvdr s b k = 0 := by simp [cvdr, h]
    have e2 : cvbits s b k w = r := by
      unfold floatToFloatBits at h
      unfold cvbits
      split at h
      · rename_i e; rw [if_pos e]; exact Option.some.inj h
      · rename_i e; rw [if_neg e]
        split at h
        · cases h
        · rename_i sg he; simp only [he]; exact Option.some.inj h
        · rename_i sg m ex he
          split at h
          · cases h
          · rename_i ho; simp only [he]; rw [if_neg ho]; exact Option.some.inj h
    rw [e1, e2]; rfl
  | none =>
    obtain ⟨u, hs'⟩ := Option.isSome_iff_exists.1 hs
    have e1 : cvdr s b k = 1 := by simp [cvdr, h]
    rw [e1]
    unfold floatToFloatBits at h
    unfold cvbits
    split at h
    · cases h
    · rename_i ne
      rw [if_neg ne]
      split at h
      · rename_i sg fr he
        simp only [he]
        cases u <;> simp [convert, run_underlying hs', run_underlying hd, Conv.floatToFloat, ne, he, choose, Sem.run, Question.forced, World.drewN]
      · cases h
      · rename_i sg m ex he
        split at h
        · rename_i ho
          simp only [he]
          rw [if_pos ho]
          cases u <;> simp [convert, run_underlying hs', run_underlying hd, Conv.floatToFloat, ne, he, ho, choose, Sem.run, Question.forced, World.drewN]
        · cases h

theorem drawn_nan_cv (k : FloatKind) (b t : Nat) : isN k ((Question.nanConv k b).cut t) = true := by
  have := drawn_nan k 0 0 t
  cases k <;> exact this
theorem cn_cvbits {s : FloatKind} {b : Nat} {k : FloatKind} (w : World) (h : cvWide s b k = false) : cn k (cvbits s b k w) = fcv s (cn s b) k := by
  unfold cvbits fcv
  unfold cvWide at h
  by_cases e : s = k
  · subst e
    rw [if_pos rfl, if_pos rfl, cn_cn]
  · rw [if_neg e, if_neg e]
    rw [if_neg e] at h
    cases hd : s.decode b with
    | nan sg fr =>
      have hn : isN s b = true := by unfold isN; rw [show s.format.read b = _ from hd]; rfl
      rw [cn_nan hn]
      have := isN_nanOf s
      unfold isN at this
      cases hz : s.decode (nanOf s) with
      | nan => exact cn_nan (drawn_nan_cv k b _)
      | infinity sg => rw [show s.format.read (nanOf s) = _ from hz] at this; cases this
      | number sg m e => rw [show s.format.read (nanOf s) = _ from hz] at this; cases this
    | infinity sg =>
      have hn : isN s b = false := by unfold isN; rw [show s.format.read b = _ from hd]; rfl
      rw [cn_not hn, hd]
      exact cn_not (write_not k.format rfl)
    | number sg m e =>
      have hn : isN s b = false := by unfold isN; rw [show s.format.read b = _ from hd]; rfl
      rw [hd] at h
      simp only at h
      rw [cn_not hn, hd]
      simp only [h, Bool.false_eq_true, if_false]
      exact cn_not (write_not k.format rfl)
theorem cvWide_cn (s : FloatKind) (b : Nat) (k : FloatKind) : cvWide s (cn s b) k = cvWide s b k := by
  cases h : isN s b
  · rw [cn_not h]
  · rw [cn_nan h]
    unfold cvWide
    have h1 := isN_nanOf s
    unfold isN at h h1
    cases hz : s.decode (nanOf s) with
    | nan =>
      cases hd : s.decode b with
      | nan => rfl
      | infinity => rfl
      | number => rw [show s.format.read b = _ from hd] at h; cases h
    | infinity sg => rw [show s.format.read (nanOf s) = _ from hz] at h1; cases h1
    | number sg m e => rw [show s.format.read (nanOf s) = _ from hz] at h1; cases h1
end Go.Proofs.Ytaocilimggpdjaa
