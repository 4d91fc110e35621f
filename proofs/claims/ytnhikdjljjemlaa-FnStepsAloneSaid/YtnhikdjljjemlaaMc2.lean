/- Joined texts 2: FF FG Fl7 Fl8 Bf Gat Emp FH WEmp Hub Clp Sta Rate. Each is told at its own head. No condition. -/
import GoSem.Extern.MathSqrt
import Derived.Deep.RegionWith
import Derived.Laws.AppendOwnNone
import Derived.Lib.Hide
import Derived.Test.YtnhikdjljjemlaaMc0
import Derived.Test.YtnhikdjljjemlaaMc1
/- What comparing, marking slices of slices of numbers does. No condition. -/
namespace Go.Proofs.Ytnhikdjljjemlaa
open Go Go.RowKit
set_option linter.unusedVariables false
set_option linter.unusedSimpArgs false
theorem info_f32s : (Try.prog.info? 29).map (fun i => (i.zero, i.size, i.bytes)) = some (some (.slice none 0 0), 1, 24) := by kernel_rfl
/-- a slice of slices of 32-bit numbers that is read -/
structure SeeFF (w : World) (ad : Option Addr) (cap : Nat) (vs : List Value) (Xs : List (List Nat)) : Prop where
  len : vs.length = Xs.length
  le : vs.length ≤ cap
  cap : cap ≤ maxLen
  rd : Rd w ad vs
  inn : ∀ i, i < Xs.length → ∃ ai ci, vs.getD i (.slice none 0 0) = .slice ai (Xs.getD i []).length ci ∧ F32s w ai ci (Xs.getD i [])
theorem SeeFF.below {w w' : World} {ad : Option Addr} {cap : Nat} {vs : List Value} {Xs : List (List Nat)} (h : SeeFF w ad cap vs Xs) (hb : Below w.heap.size w w') : SeeFF w' ad cap vs Xs :=
  ⟨h.len, h.le, h.cap, h.rd.below hb (Nat.le_refl _), fun i hi => by obtain ⟨ai, ci, e, hf⟩ := h.inn i hi; exact ⟨ai, ci, e, hf.below hb⟩⟩
theorem SeeFF.spot {w : World} {ad : Option Addr} {cap : Nat} {vs : List Value} {Xs : List (List Nat)} (h : SeeFF w ad cap vs Xs) {k : Nat} (hk : k < Xs.length) :
    ∃ b off ai ci, ad = some ⟨b, off, none⟩ ∧ b < w.heap.size ∧ w.cell? ⟨b, off + k, none⟩ = some (.slice ai (Xs.getD k []).length ci) ∧ F32s w ai ci (Xs.getD k []) := by
  obtain ⟨b, off, e, hb, hc⟩ := h.rd.spot (i := k) (by rw [h.len]; exact hk)
  obtain ⟨ai, ci, e2, hf⟩ := h.inn k hk
  refine ⟨b, off, ai, ci, e, hb, ?_, hf⟩
  rw [hc k (by rw [h.len]; exact hk)]
  rw [List.getD_eq_getElem?_getD, List.getElem?_eq_getElem (by rw [h.len]; exact hk)] at e2
  rw [List.getElem?_eq_getElem (by rw [h.len]; exact hk)]
  simpa using e2
/-- a slice of slices of 32-bit numbers that the call owns -/
structure RepFF (w : World) (lo hi : Nat) (ad : Option Addr) (n cap : Nat) (vs : List Value) (Xs : List (List Nat)) : Prop where
  row : Row w 29 1 lo hi (.slice ad n cap) n vs
  len : Xs.length = n
  inn : ∀ i, i < n → ∃ ai ci, vs.getD i (.slice none 0 0) = .slice ai (Xs.getD i []).length ci ∧ RepF w lo hi ai (Xs.getD i []).length ci (Xs.getD i [])
  sep : ∀ i j, i < n → j < n → i ≠ j → ∀ g, (vs.getD i (.slice none 0 0)).ownBlock = some g → (vs.getD j (.slice none 0 0)).ownBlock ≠ some g
theorem RepFF.vlen {w : World} {lo hi : Nat} {ad : Option Addr} {n cap : Nat} {vs : List Value} {Xs : List (List Nat)} (h : RepFF w lo hi ad n cap vs Xs) : vs.length = n := by have := h.row.own.1; omega
theorem RepFF.see {w : World} {lo hi : Nat} {ad : Option Addr} {n cap : Nat} {vs : List Value} {Xs : List (List Nat)} (h : RepFF w lo hi ad n cap vs Xs) : SeeFF w ad cap vs Xs := by
  obtain ⟨ad', cap', e1, e2, e3, e4, _⟩ := Rd.of_owns h.row.own
  cases e1
  have hv := h.vlen
  exact ⟨by rw [hv, h.len], by omega, e3, e4, fun i hi => by obtain ⟨ai, ci, e, hf⟩ := h.inn i (by rw [← h.len]; exact hi); exact ⟨ai, ci, e, hf.arg⟩⟩
theorem RepFF.below {w w' : World} {lo hi : Nat} {ad : Option Addr} {n cap : Nat} {vs : List Value} {Xs : List (List Nat)} (h : RepFF w lo hi ad n cap vs Xs) (hb : Below w.heap.size w w') : RepFF w' lo hi ad n cap vs Xs :=
  ⟨h.row.below hb, h.len, fun i hi => by obtain ⟨ai, ci, e, hf⟩ := h.inn i hi; exact ⟨ai, ci, e, hf.below hb⟩, h.sep⟩
theorem RepFF.touch {w w' : World} {lo hi lo2 hi2 : Nat} {ad : Option Addr} {n cap : Nat} {vs : List Value} {Xs : List (List Nat)} (h : RepFF w lo hi ad n cap vs Xs) (ht : Touch lo2 hi2 w w') (hd : hi ≤ lo2 ∨ hi2 ≤ lo) : RepFF w' lo hi ad n cap vs Xs :=
  ⟨h.row.touch ht hd, h.len, fun i hi => by obtain ⟨ai, ci, e, hf⟩ := h.inn i hi; exact ⟨ai, ci, e, hf.touch ht hd⟩, h.sep⟩
theorem RepFF.bounds {w : World} {lo hi lo' hi' : Nat} {ad : Option Addr} {n cap : Nat} {vs : List Value} {Xs : List (List Nat)} (h : RepFF w lo hi ad n cap vs Xs) (h1 : lo' ≤ lo) (h2 : hi ≤ hi') : RepFF w lo' hi' ad n cap vs Xs :=
  ⟨h.row.bounds h1 h2, h.len, fun i hi => by obtain ⟨ai, ci, e, hf⟩ := h.inn i hi; exact ⟨ai, ci, e, hf.bounds h1 h2⟩, h.sep⟩
theorem RepFF.nil (w : World) (lo hi : Nat) : RepFF w lo hi none 0 0 [] [] := ⟨Row.nil _ _ _ _, rfl, fun i hi => by omega, fun i j hi => by omega⟩
/-- another block is written -/
theorem RepF.grown {w w' : World} {lo hi : Nat} {ad : Option Addr} {n cap : Nat} {xs : List Nat} {ob : Option Nat} (h : RepF w lo hi ad n cap xs) (hg : w.grownBy w' ob) (hd : ∀ g, (Value.slice ad n cap).ownBlock = some g → ob ≠ some g) : RepF w' lo hi ad n cap xs :=
  ⟨⟨h.row.own.kept hg (by
    cases e : (Value.slice ad n cap).ownBlock with
    | none => exact .inl rfl
    | some g => exact .inr (fun e2 => hd g e e2.symm)), h.row.top⟩, h.len, h.lt⟩
theorem ownBlock_some {ad : Option Addr} {n cap g : Nat} (h : (Value.slice ad n cap).ownBlock = some g) : ∃ off s, ad = some ⟨g, off, s⟩ := by
  cases ad with
  | none => cases h
  | some a => obtain ⟨b, off, s⟩ := a; cases h; exact ⟨off, s, rfl⟩
/-- the outer row and an inner one lie in blocks of different kinds -/
theorem row_kinds {w : World} {e e2 : TypeId} {s s2 lo hi lo2 hi2 n n2 : Nat} {v v2 : Value} {cs cs2 : List Value} (h : Row w e s lo hi v n cs) (h2 : Row w e2 s2 lo2 hi2 v2 n2 cs2) (hne : e ≠ e2) : ∀ g, v.ownBlock = some g → v2.ownBlock ≠ some g := by
  intro g hg hg2
  rcases h.own.2 with ⟨h3, _⟩ | ⟨g', cap, cur, hv, _, hh, r⟩
  · rw [h3] at hg; cases hg
  · rcases h2.own.2 with ⟨h3, _⟩ | ⟨g2', cap2, cur2, hv2, _, hh2, r2⟩
    · rw [h3] at hg2; cases hg2
    · rw [hv] at hg; rw [hv2] at hg2
      cases hg; cases hg2
      rw [hh] at hh2
      cases hh2
      exact hne rfl
end Go.Proofs.Ytnhikdjljjemlaa
/- What comparing, marking slices of slices of numbers does: the walks. No condition. -/
namespace Go.Proofs.Ytnhikdjljjemlaa
open Go Go.RowKit
set_option linter.unusedVariables false
set_option linter.unusedSimpArgs false
/-- how many numbers the first rows have -/
def cum (Xs : List (List Nat)) (k : Nat) : Nat := ((Xs.take k).map List.length).sum
theorem cum_succ (Xs : List (List Nat)) {k : Nat} (h : k < Xs.length) : cum Xs (k + 1) = cum Xs k + (Xs.getD k []).length := by
  unfold cum
  rw [List.take_succ_eq_append_getElem h, List.map_append, List.sum_append, List.getD_eq_getElem?_getD, List.getElem?_eq_getElem h]
  simp
theorem cum_le (Xs : List (List Nat)) {k n : Nat} (h : k ≤ n) : cum Xs k ≤ cum Xs n := by
  unfold cum
  have : Xs.take n = Xs.take k ++ (Xs.take n).drop k := by
    have := (List.take_append_drop k (Xs.take n)).symm
    rwa [List.take_take, Nat.min_eq_left h] at this
  rw [this, List.map_append, List.sum_append]; omega
theorem getD_set {α : Type} (l : List α) (k i : Nat) (x d : α) (hk : k < l.length) : (l.set k x).getD i d = if i = k then x else l.getD i d := by
  rw [List.getD_eq_getElem?_getD, List.getElem?_set]
  by_cases h : i = k
  · subst h; rw [if_pos rfl, if_pos rfl, if_pos hk]; rfl
  · rw [if_neg (by omega), if_neg h, List.getD_eq_getElem?_getD]
/-- the marks of a slice of slices -/
def Marked (k0 n : Nat) (Xs Ys : List (List Nat)) : Prop := ∀ i, i < n → Ys.getD i [] = markF (k0 + cum Xs i) (Xs.getD i []).length
theorem RepFF.setIn {w w' : World} {lo hi : Nat} {ad : Option Addr} {n cap : Nat} {vs : List Value} {Xs : List (List Nat)} (h : RepFF w lo hi ad n cap vs Xs) {k : Nat} (hk : k < n) {ai : Option Addr} {ci : Nat} {ys : List Nat}
    (hv : vs.getD k (.slice none 0 0) = .slice ai (Xs.getD k []).length ci) (hl : ys.length = (Xs.getD k []).length) (hy : ∀ y ∈ ys, y < 4294967296) (ho : w'.ownsRow lo 24 1 (.slice ai (Xs.getD k []).length ci) (Xs.getD k []).length (ys.map (Value.float .f32))) (hg : w.grownBy w' (Value.slice ai (Xs.getD k []).length ci).ownBlock) :
    RepFF w' lo hi ad n cap vs (Xs.set k ys) := by
  have hkx : k < Xs.length := by rw [h.len]; exact hk
  have hkin := h.inn k hk
  obtain ⟨a0, c0, e0, hf0⟩ := hkin
  rw [hv] at e0
  cases e0
  refine ⟨?_, by simpa using h.len, fun i hi => ?_, h.sep⟩
  · refine ⟨h.row.own.kept hg ?_, h.row.top⟩
    cases e : (Value.slice ad n cap).ownBlock with
    | none => exact .inl rfl
    | some g => exact .inr (fun e2 => row_kinds h.row hf0.row (by decide) g e e2.symm)
  · rw [getD_set _ _ _ _ _ hkx]
    by_cases hik : i = k
    · subst hik
      rw [if_pos rfl]
      refine ⟨ai, ci, by rw [hl]; exact hv, ⟨⟨?_, ?_⟩, rfl, hy⟩⟩
      · rw [hl]; exact ho
      · rw [hl]; exact hf0.row.top
    · rw [if_neg hik]
      obtain ⟨a1, c1, e1, hf1⟩ := h.inn i hi
      refine ⟨a1, c1, e1, hf1.grown hg ?_⟩
      intro g hg1 hg2
      exact h.sep i k hi hk hik g (by rw [e1]; exact hg1) (by rw [hv]; exact hg2)
end Go.Proofs.Ytnhikdjljjemlaa
/- Plain laws of floats, continued: how great a written number is; square roots. No condition. -/
namespace Go.Proofs.Ytnhikdjljjemlaa
open Go Go.RowKit Ieee
set_option linter.unusedVariables false
set_option linter.unusedSimpArgs false
theorem cut_le (neg : Bool) (n d : Nat) : Toward.even.cut neg n d ≤ n / (1 <<< min d (n.log2 + 2)) + 1 := by
  unfold Toward.cut
  exact Nat.add_le_add_left (Bool.toNat_le _) _
/-- the rung of a written number is not above a bound by its exponent -/
theorem nearest_bound (f : Format) (neg : Bool) {m : Nat} {p E : Int} (hE : p + m.log2 ≤ E) (hE2 : f.leastPlace ≤ E - f.fractionBits) :
    ∃ r, f.nearest neg m p = f.word neg r ∧ r ≤ (E - f.fractionBits - f.leastPlace).toNat * f.binade + 2 * f.binade ∧ r ≤ f.infRung := by
  have hB : f.binade = 2 ^ f.fractionBits := rfl
  by_cases hm : m = 0
  · subst hm
    unfold Format.nearest
    rw [if_pos rfl]
    exact ⟨0, rfl, Nat.zero_le _, Nat.zero_le _⟩
  obtain ⟨last, hlast⟩ : ∃ l, l = max (p + m.log2 - (f.fractionBits : Nat)) f.leastPlace := ⟨_, rfl⟩
  have h1 : last ≤ E - f.fractionBits := by omega
  have h2 : f.leastPlace ≤ last := by omega
  have h3 : p + m.log2 - (f.fractionBits : Nat) ≤ last := by omega
  unfold Format.nearest
  rw [if_neg hm]
  simp only [← hlast]
  refine ⟨_, rfl, Nat.le_trans (Nat.min_le_left _ _) ?_, Nat.min_le_right _ _⟩
  have hk : Toward.even.cut neg (m <<< (p - last).toNat) (last - p).toNat ≤ 2 * f.binade := by
    by_cases h : last ≤ p
    · have e : (last - p).toNat = 0 := by omega
      rw [e, cut_zero, Nat.shiftLeft_eq]
      have h4 : m.log2 + (p - last).toNat ≤ f.fractionBits := by omega
      have h5 := Nat.lt_log2_self (n := m)
      have h6 : m * 2 ^ (p - last).toNat < 2 ^ (m.log2 + 1) * 2 ^ (p - last).toNat := Nat.mul_lt_mul_of_pos_right h5 (Nat.two_pow_pos _)
      rw [← Nat.pow_add] at h6
      have h7 : 2 ^ (m.log2 + 1 + (p - last).toNat) ≤ 2 ^ (f.fractionBits + 1) := Nat.pow_le_pow_right (by decide) (by omega)
      rw [Nat.pow_succ] at h7
      omega
    · have e : (p - last).toNat = 0 := by omega
      rw [e, Nat.shiftLeft_zero]
      refine Nat.le_trans (cut_le _ _ _) ?_
      have h5 := Nat.lt_log2_self (n := m)
      by_cases h8 : (last - p).toNat ≤ m.log2 + 2
      · rw [Nat.min_eq_left h8, Nat.shiftLeft_eq, Nat.one_mul]
        have h9 : m < 2 ^ (f.fractionBits + 1) * 2 ^ (last - p).toNat := by
          rw [← Nat.pow_add]
          exact Nat.lt_of_lt_of_le h5 (Nat.pow_le_pow_right (by decide) (by omega))
        have h10 := Nat.div_lt_of_lt_mul (Nat.mul_comm _ _ ▸ h9)
        rw [Nat.pow_succ] at h10
        omega
      · rw [Nat.min_eq_right (by omega), Nat.shiftLeft_eq, Nat.one_mul]
        have h9 : m / 2 ^ (m.log2 + 2) = 0 := Nat.div_eq_of_lt (Nat.lt_of_lt_of_le h5 (Nat.pow_le_pow_right (by decide) (by omega)))
        rw [h9]
        have := Nat.two_pow_pos f.fractionBits
        omega
  have h4 : (last - f.leastPlace).toNat ≤ (E - f.fractionBits - f.leastPlace).toNat := by omega
  have := Nat.mul_le_mul_right f.binade h4
  omega
theorem s_bin : single.binade = 2 ^ 23 := by decide +kernel
theorem s_fb : single.fractionBits = 23 := rfl
theorem d_fb : double.fractionBits = 52 := rfl
/-- a wide number under 2 to the power of 127 is not too great for 32 bits -/
theorem narrow_small {b : Nat} {s : Bool} {m : Nat} {p : Int} (hd : FloatKind.f64.decode b = .number s m p) (h : p + m.log2 ≤ 126) : cvWide .f64 b .f32 = false := by
  unfold cvWide
  rw [if_neg (by decide), hd]
  show (single.read (single.nearest s m p)).isInfinity = false
  obtain ⟨r, e, hr, _⟩ := nearest_bound single s h (by rw [s_lp, s_fb]; decide)
  rw [e]
  apply not_inf_of_lt
  rw [s_lp, s_fb, s_bin] at hr
  rw [s_ir]
  have : (126 - (23 : Nat) - -149 : Int).toNat = 252 := by decide
  rw [this] at hr
  omega
/-- the exponent of a word, from its rung -/
theorem exp_of_rung (f : Format) {s : Bool} {r m : Nat} {p : Int} {E : Nat} (hr : r < f.infRung) (hd : f.read (f.word s r) = .number s m p) (hm : m ≠ 0) (hv : nval f r < 2 ^ (E + 1)) : p + m.log2 ≤ E + f.leastPlace := by
  obtain ⟨m', p', e1, e2, e3⟩ := read_fin f s hr
  rw [hd] at e1
  obtain ⟨_, rfl, rfl⟩ := Datum.number.inj e1
  rw [Nat.shiftLeft_eq] at e3
  have h1 : (nval f r).log2 < E + 1 := (Nat.log2_lt (by rw [← e3]; exact Nat.mul_ne_zero hm (by have := Nat.two_pow_pos (p - f.leastPlace).toNat; omega))).2 hv
  rw [← e3, log2_mul_pow hm] at h1
  omega
theorem rootFrom_lt (n : Nat) : ∀ todo root, Datum.rootFrom n todo root < root + 2 ^ todo
  | 0, root => by unfold Datum.rootFrom; simp
  | todo + 1, root => by
    unfold Datum.rootFrom
    have hs : root + 1 <<< todo = root + 2 ^ todo := by rw [Nat.shiftLeft_eq, Nat.one_mul]
    simp only [hs]
    split
    · have := rootFrom_lt n todo (root + 2 ^ todo)
      rw [Nat.pow_succ]; omega
    · have := rootFrom_lt n todo root
      rw [Nat.pow_succ]; have := Nat.two_pow_pos todo; omega

def sqbits (x : Nat) (w : World) : Nat := (double.sqrt x).getD ((Question.nanBits .f64 x x).cut (w.tape w.drawn (.nanBits .f64 x x)))
def sqdr (x : Nat) : Nat := if (double.sqrt x).isSome then 0 else 1
def fsq (x : Nat) : Nat := (double.sqrt x).getD (nanOf .f64)
theorem run_sqrt {P : Program} (w : World) (x : Nat) : (Extern.MathSqrt.sqrt #[.float .f64 x]).run P w = .ok (.float .f64 (sqbits x w)) (w.drewN (sqdr x)) := by
  unfold Extern.MathSqrt.sqrt sqbits sqdr
  show ((match double.sqrt x with
    | some r => (pure (.float .f64 r) : Sem Value)
    | none => do pure (.float .f64 (← choose (.nanBits .f64 x x)))).run P w) = _
  cases h : double.sqrt x with
  | some r => rfl
  | none => simp [choose, Sem.run, Question.forced, World.drewN]
theorem root_not {n : Nat} {a d : Datum} (h : a.root n = some d) : a.isNaN = false ∧ d.isNaN = false := by
  unfold Datum.root at h
  cases a with
  | nan s t => cases h
  | infinity s => cases s <;> simp at h; subst h; exact ⟨rfl, rfl⟩
  | number s m i =>
    refine ⟨rfl, ?_⟩
    simp only at h
    split at h
    · cases h; rfl
    · split at h
      · cases h
      · cases h; rfl
theorem sqrt_nan {x : Nat} (h : isN .f64 x = true) : double.sqrt x = none := by
  unfold Format.sqrt
  cases hr : (double.read x).root (double.fractionBits + 2) with
  | none => rfl
  | some d => have := (root_not hr).1; unfold isN at h; rw [show FloatKind.f64.format.read x = double.read x from rfl, this] at h; cases h
theorem sqrt_cn (x : Nat) : double.sqrt (cn .f64 x) = double.sqrt x := by
  cases h : isN .f64 x
  · rw [cn_not h]
  · rw [sqrt_nan h, sqrt_nan (by rw [isN_cn, h])]
theorem sqrt_not {x r : Nat} (h : double.sqrt x = some r) : isN .f64 r = false := by
  unfold Format.sqrt at h
  cases hr : (double.read x).root (double.fractionBits + 2) with
  | none => rw [hr] at h; cases h
  | some d =>
    rw [hr] at h
    have e : double.write d = r := by simpa using h
    rw [← e]
    exact write_not double (root_not hr).2
theorem cn_sqbits (x : Nat) (w : World) : cn .f64 (sqbits x w) = fsq (cn .f64 x) := by
  unfold sqbits fsq
  rw [sqrt_cn]
  cases h : double.sqrt x with
  | some r => exact cn_not (sqrt_not h)
  | none => exact cn_nan (drawn_nan .f64 x x _)
theorem d_ir2 : double.infRung = 2047 * 2 ^ 52 := by decide +kernel
theorem s_ir2 : single.infRung = 255 * 2 ^ 23 := by decide +kernel
theorem nval_top (f : Format) (k : Nat) (h : 1 ≤ k) : nval f (k * f.binade) = f.binade * 2 ^ (k - 1) := by
  have hB : 0 < f.binade := Nat.two_pow_pos _
  unfold nval
  have h1 : f.binade ≤ k * f.binade := Nat.le_mul_of_pos_left _ h
  rw [if_neg (by omega), Nat.mul_mod_left, Nat.mul_div_cancel _ hB, Nat.add_zero]
theorem nval_mono {f : Format} {x y : Nat} (h : x ≤ y) : nval f x ≤ nval f y := by
  rcases Nat.lt_or_eq_of_le h with h | h
  · exact Nat.le_of_lt (nval_lt h)
  · rw [h]; exact Nat.le_refl _
set_option exponentiation.threshold 2000 in
/-- a wide word that is not above 2 to the power of 67 is not too great for 32 bits -/
theorem narrow_rung (s : Bool) {q : Nat} (h : q ≤ 1090 * 2 ^ 52) : cvWide .f64 (double.word s q) .f32 = false := by
  have hq : q < double.infRung := by rw [d_ir2]; omega
  obtain ⟨m, p, e1, e2, e3⟩ := read_fin double s hq
  by_cases hm : m = 0
  · subst hm
    unfold cvWide
    rw [if_neg (by decide), show FloatKind.f64.decode (double.word s q) = _ from e1]
    show (single.read (single.nearest s 0 p)).isInfinity = false
    unfold Format.nearest
    rw [if_pos rfl]
    exact not_inf_of_lt _ _ (by rw [s_ir]; omega)
  · refine narrow_small (p := p) (m := m) (s := s) e1 ?_
    have hv : nval double q < 2 ^ (1141 + 1) := by
      have h1 : nval double q ≤ nval double (1090 * double.binade) := nval_mono (by rw [d_bin]; exact h)
      rw [nval_top double 1090 (by decide), d_bin, ← Nat.pow_add] at h1
      exact Nat.lt_of_le_of_lt h1 (Nat.pow_lt_pow_right (by decide) (by decide))
    have := exp_of_rung double hq e1 hm hv
    rw [d_lp] at this
    omega
set_option exponentiation.threshold 2000 in
/-- the square root of a wide 32-bit number is not too great for 32 bits -/
theorem root_small {x : Nat} (hx : x < 4294967296) (w w2 : World) : cvWide .f64 (sqbits (cvbits .f32 x .f64 w) w2) .f32 = false := by
  cases hr : double.sqrt (cvbits .f32 x .f64 w) with
  | none =>
    unfold sqbits
    rw [hr]
    exact wide_nan (drawn_nan .f64 (cvbits .f32 x .f64 w) (cvbits .f32 x .f64 w) _)
  | some t =>
    have ht : sqbits (cvbits .f32 x .f64 w) w2 = t := by unfold sqbits; rw [hr]; rfl
    rw [ht]
    have hN : isN .f32 x = false := by
      cases h : isN .f32 x
      · rfl
      · rw [sqrt_nan (isN_wide x w h)] at hr; cases hr
    obtain ⟨s, r, rfl, hrs⟩ := word_of single (x := x) (by rw [s_sw]; omega)
    rcases Nat.lt_trichotomy r single.infRung with h | h | h
    · obtain ⟨q, hq, hw, hv⟩ := wide_fin s h
      rw [hw w] at hr
      obtain ⟨m, i, e1, e2, e3⟩ := read_fin double s hq
      unfold Format.sqrt at hr
      rw [e1] at hr
      unfold Datum.root at hr
      simp only at hr
      by_cases hm : m = 0
      · subst hm
        rw [if_pos rfl] at hr
        have e : double.nearest s 0 i = t := by simpa [Format.write] using hr
        rw [← e]
        unfold Format.nearest
        rw [if_pos rfl]
        exact narrow_rung s (Nat.zero_le _)
      · rw [if_neg hm] at hr
        cases s
        · simp only [Bool.false_eq_true, if_false, Option.map_some, Option.some.injEq] at hr
          rw [← hr]
          have hvs : nval single r < 2 ^ 277 := by
            have h1 : nval single r < nval single (255 * single.binade) := nval_lt (by rw [s_bin, ← s_ir2]; exact h)
            rw [nval_top single 255 (by decide), s_bin, ← Nat.pow_add] at h1
            exact h1
          have hvd : nval double q < 2 ^ (1201 + 1) := by
            rw [hv]
            have := Nat.mul_lt_mul_of_pos_right hvs (Nat.two_pow_pos 925)
            rwa [← Nat.pow_add] at this
          have hb := exp_of_rung double hq e1 hm hvd
          rw [d_lp] at hb
          obtain ⟨mo, hmo⟩ : ∃ mo, mo = 2 * (double.fractionBits + 2) - m.log2 + ((i - ((2 * (double.fractionBits + 2) - m.log2 : Nat) : Int)) % 2).toNat := ⟨_, rfl⟩
          rw [← hmo]
          have hn : (m <<< mo).log2 = m.log2 + mo := by rw [Nat.shiftLeft_eq]; exact log2_mul_pow hm
          obtain ⟨W, hW⟩ : ∃ W, W = Datum.rootFrom (m <<< mo) ((m <<< mo).log2 / 2 + 1) 0 := ⟨_, rfl⟩
          have hWl := rootFrom_lt (m <<< mo) ((m <<< mo).log2 / 2 + 1) 0
          rw [← hW] at hWl ⊢
          rw [hn] at hWl
          obtain ⟨c, hc⟩ : ∃ c, c = (W * W != m <<< mo).toNat := ⟨_, rfl⟩
          have hc1 : c ≤ 1 := by rw [hc]; exact Bool.toNat_le _
          rw [← hc]
          have hM : (2 * W + c).log2 ≤ (m.log2 + mo) / 2 + 1 := by
            by_cases h0 : 2 * W + c = 0
            · rw [h0]; simp
            · have : (2 * W + c).log2 < (m.log2 + mo) / 2 + 1 + 1 := (Nat.log2_lt h0).2 (by rw [Nat.pow_succ]; omega)
              omega
          obtain ⟨r2, er, hr2, _⟩ := nearest_bound double false (m := 2 * W + c) (p := (i - (mo : Int)) / 2 - 1) (E := 66) (by omega) (by rw [d_lp, d_fb]; decide)
          rw [show double.write (.number false (2 * W + c) ((i - (mo : Int)) / 2 - 1)) = _ from er]
          refine narrow_rung false ?_
          rw [d_lp, d_fb, d_bin] at hr2
          have : (66 - (52 : Nat) - -1074 : Int).toNat = 1088 := by decide
          rw [this] at hr2
          omega
        · simp at hr
    · subst h
      have e1 : cvbits .f32 (single.word s single.infRung) .f64 w = double.word s double.infRung := by
        unfold cvbits
        rw [if_neg (by decide), show FloatKind.f32.decode (single.word s single.infRung) = _ from read_inf single single_binade s]
        rfl
      rw [e1] at hr
      unfold Format.sqrt at hr
      rw [read_inf double double_binade s] at hr
      cases s
      · have e : double.word false double.infRung = t := by simpa [Datum.root, Format.write] using hr
        rw [← e]
        unfold cvWide
        rw [if_neg (by decide), show FloatKind.f64.decode (double.word false double.infRung) = _ from read_inf double double_binade false]
      · simp [Datum.root] at hr
    · have := nan_word single single_binade s h hrs
      have h2 : isN .f32 (single.word s r) = true := this
      rw [hN] at h2; cases h2
def rootE (c : Nat) : Nat := fcv .f64 (fsq (fcv .f32 c .f64)) .f32
theorem cn_root {x : Nat} (hx : x < 4294967296) (w w2 w3 : World) : cn .f32 (cvbits .f64 (sqbits (cvbits .f32 x .f64 w) w2) .f32 w3) = rootE (cn .f32 x) ∧ cvbits .f64 (sqbits (cvbits .f32 x .f64 w) w2) .f32 w3 < 4294967296 := by
  have h := root_small hx w w2
  refine ⟨?_, cv_lt32 w3 h⟩
  rw [cn_cvbits w3 h, cn_sqbits, cn_wide]
  rfl
end Go.Proofs.Ytnhikdjljjemlaa
/- Plain laws of floats, continued: the nearest bfloat. No condition. -/
namespace Go.Proofs.Ytnhikdjljjemlaa
open Go Go.RowKit Ieee
set_option linter.unusedVariables false
set_option linter.unusedSimpArgs false
theorem and_16 (N a : Nat) (hN : 16 ≤ N) (ha : a < 2 ^ N) : a &&& (2 ^ N - (65535 + 1)) = a / 65536 * 65536 := by
  have h0 : 65535 < 2 ^ N := Nat.lt_of_lt_of_le (by decide : 65535 < 2 ^ 16) (Nat.pow_le_pow_right (by decide) hN)
  have e : a / 65536 * 65536 = (a >>> 16) <<< 16 := by rw [Nat.shiftLeft_eq, Nat.shiftRight_eq_div_pow]
  rw [e]
  apply Nat.eq_of_testBit_eq
  intro i
  rw [Nat.testBit_and, Nat.testBit_two_pow_sub_succ h0, Nat.testBit_shiftLeft, Nat.testBit_shiftRight, show 65535 = 2 ^ 16 - 1 by decide, Nat.testBit_two_pow_sub_one]
  by_cases h : i < N
  · by_cases h16 : i < 16
    · have : ¬ (i ≥ 16) := by omega
      simp [h, h16, this]
    · have h2 : i ≥ 16 := by omega
      simp [h, h16, h2, show 16 + (i - 16) = i by omega]
  · have h1 : a.testBit i = false := Nat.testBit_lt_two_pow (Nat.lt_of_lt_of_le ha (Nat.pow_le_pow_right (by decide) (by omega)))
    by_cases h2 : i ≥ 16
    · simp [h1, h2, show 16 + (i - 16) = i by omega]
    · simp [h1, h2]
theorem andNot_u32 (a : Nat) (ha : a < 4294967296) : bits .andNot .u32 (a : Int) 65535 = ((a / 65536 * 65536 : Nat) : Int) := by
  have := u32_andNot_nat a 65535 ha (by decide)
  rw [show ((65535 : Nat) : Int) = 65535 from rfl] at this
  rw [this, show 4294967295 - 65535 = 2 ^ 32 - (65535 + 1) by decide, and_16 32 a (by decide) (by omega)]
theorem andNot_i64 (a : Nat) (ha : a < 4611686018427387904) : bits .andNot .i64 (a : Int) 65535 = ((a / 65536 * 65536 : Nat) : Int) := by
  show IntKind.i64.wrap ((BitVec.ofInt 64 (a : Int) &&& ~~~BitVec.ofInt 64 65535).toNat : Int) = _
  have h1 : (BitVec.ofInt 64 65535).toNat = 65535 := by decide
  have h2 : (BitVec.ofInt 64 (a : Int)).toNat = a := by
    rw [BitVec.toNat_ofInt]; omega
  rw [BitVec.toNat_and, BitVec.toNat_not, h1, h2, show 2 ^ 64 - 1 - 65535 = 2 ^ 64 - (65535 + 1) by decide, and_16 64 a (by decide) (by omega)]
  exact wrap_small _ (by omega) (by omega)
/-- the word of the nearest bfloat of a word that is no NaN -/
def bfW (x : Nat) : Nat := (x + (32767 + x / 65536 % 2)) / 65536 * 65536
def bfE (c : Nat) : Nat := if isN .f32 c = true then nanOf .f32 else cn .f32 (bfW c)
theorem not_nan_bd {x : Nat} (hx : x < 4294967296) (h : isN .f32 x = false) : x ≤ 4286578688 := by
  obtain ⟨s, r, rfl, hr⟩ := word_of single (x := x) (by rw [s_sw]; omega)
  have hle : r ≤ single.infRung := by
    rcases Nat.lt_or_ge single.infRung r with h1 | h1
    · have h2 : isN .f32 (single.word s r) = true := nan_word single single_binade s h1 hr
      rw [h] at h2; cases h2
    · exact h1
  rw [s_ir] at hle
  unfold Format.word
  rw [s_sw]
  split <;> omega
theorem bfW_lt {x : Nat} (hx : x ≤ 4286578688) : bfW x < 4294967296 ∧ x + (32767 + x / 65536 % 2) < 4294967296 := by
  unfold bfW
  omega
theorem bfW_inf {x : Nat} (h : x = 2139095040 ∨ x = 4286578688) : bfW x = x := by rcases h with h | h <;> subst h <;> decide
theorem not_fin {x : Nat} (hx : x < 4294967296) (h : finB x = false) (hn : isN .f32 x = false) : x = 2139095040 ∨ x = 4286578688 := by
  obtain ⟨s, r, rfl, hr⟩ := word_of single (x := x) (by rw [s_sw]; omega)
  have hle : r = single.infRung := by
    rcases Nat.lt_trichotomy single.infRung r with h1 | h1 | h1
    · have h2 : isN .f32 (single.word s r) = true := nan_word single single_binade s h1 hr
      rw [hn] at h2; cases h2
    · exact h1.symm
    · obtain ⟨m, p, e, _⟩ := read_fin single s h1
      unfold finB at h
      rw [e] at h; cases h
  subst hle
  cases s
  · left; exact s_ir
  · right; unfold Format.word; rw [s_sw, s_ir]; rfl
theorem and1_u32 (a : Nat) (ha : a < 4294967296) : bits .and .u32 (a : Int) 1 = ((a % 2 : Nat) : Int) := by
  have := u32_and_nat a 1 ha (by decide)
  rw [show ((1 : Nat) : Int) = 1 from rfl] at this
  rw [this, Nat.and_one_is_mod]
theorem and1_i64 (a : Nat) (ha : a < 4294967296) : bits .and .i64 (a : Int) 1 = ((a % 2 : Nat) : Int) := by
  show IntKind.i64.wrap ((BitVec.ofInt 64 (a : Int) &&& BitVec.ofInt 64 1).toNat : Int) = _
  have h1 : (BitVec.ofInt 64 1).toNat = 1 := by decide
  have h2 : (BitVec.ofInt 64 (a : Int)).toNat = a := by
    rw [BitVec.toNat_ofInt]; omega
  rw [BitVec.toNat_and, h1, h2, Nat.and_one_is_mod]
  exact wrap_small _ (by omega) (by omega)
theorem bf_u32 {x : Nat} (h : x ≤ 4286578688) : (bits .andNot .u32 (((x : Int) + (32767 + bits .and .u32 ((x : Int) / 65536) 1)) % 4294967296) 65535).toNat = bfW x := by
  have h2 := (bfW_lt h).2
  rw [show (x : Int) / 65536 = ((x / 65536 : Nat) : Int) by omega, and1_u32 _ (by omega), show ((x : Int) + (32767 + ((x / 65536 % 2 : Nat) : Int))) % 4294967296 = ((x + (32767 + x / 65536 % 2) : Nat) : Int) by omega, andNot_u32 _ h2]
  rfl
theorem bf_i64 {x : Nat} (h : x ≤ 4286578688) : bits .andNot .i64 (wrap64 ((x : Int) + wrap64 (32767 + bits .and .i64 ((x : Int) / 65536) 1))) 65535 = ((bfW x : Nat) : Int) := by
  have h2 := (bfW_lt h).2
  rw [show (x : Int) / 65536 = ((x / 65536 : Nat) : Int) by omega, and1_i64 _ (by omega), show wrap64 ((x : Int) + wrap64 (32767 + ((x / 65536 % 2 : Nat) : Int))) = ((x + (32767 + x / 65536 % 2) : Nat) : Int) by unfold wrap64; omega, andNot_i64 _ (by omega)]
  rfl
end Go.Proofs.Ytnhikdjljjemlaa
/- What the nearest bfloat is. No condition. -/
namespace Go.Proofs.Ytnhikdjljjemlaa
open Go Go.RowKit
set_option linter.unusedVariables false
set_option linter.unusedSimpArgs false
end Go.Proofs.Ytnhikdjljjemlaa
/- What gathered roundings are. No condition. -/
namespace Go.Proofs.Ytnhikdjljjemlaa
open Go Go.RowKit
set_option linter.unusedVariables false
set_option linter.unusedSimpArgs false
def gR (X : List Nat) : Nat → Nat → Nat
  | 0, _ => 0
  | j + 1, i => fop .sub .f32 (fop .add .f32 (X.getD i 0) (gR X j i)) (bfE (fop .add .f32 (X.getD i 0) (gR X j i)))
def gS (X : List Nat) : Nat → Nat → Nat
  | 0, _ => 0
  | j + 1, i => fop .add .f32 (gS X j i) (bfE (fop .add .f32 (X.getD i 0) (gR X j i)))
theorem zeros_listOf (n : Nat) : (List.replicate n 0).map (cn .f32) = listOf n (fun _ => 0) := by
  apply List.ext_getElem
  · simp [listOf]
  · intro i h1 h2
    simp [listOf, cn_zero]
theorem zeros_own {w : World} {base n : Nat} {e : TypeId} {v : Value} (h : w.ownsRow base e 1 v n (madeCells #[Value.float .f32 0] n).toList) : w.ownsRow base e 1 v n ((List.replicate n 0).map (Value.float .f32)) := by
  rw [toList_madeCells_one] at h
  rwa [List.map_replicate]
theorem zeros_lt (n : Nat) : ∀ x ∈ List.replicate n 0, x < 4294967296 := by
  intro x hx
  rw [(List.mem_replicate.1 hx).2]; decide
theorem zeros_rep {w : World} {n : Nat} {g : Nat} (h : w.ownsRow g 24 1 (.slice (some ⟨g, 0, none⟩) n n) n (madeCells #[Value.float .f32 0] n).toList) : RepF w g w.heap.size (some ⟨g, 0, none⟩) n n (List.replicate n 0) := by
  obtain ⟨a1, c1, e1, hS⟩ := RepF.of_owns (zeros_own h) (zeros_lt n)
  cases e1
  exact hS
def gatOk (n : Nat) (r : Int) : Bool := decide (n ≤ 256) && inB r 0 20
end Go.Proofs.Ytnhikdjljjemlaa
/- What empty slots are. No condition. -/
namespace Go.Proofs.Ytnhikdjljjemlaa
open Go Go.RowKit
set_option linter.unusedVariables false
set_option linter.unusedSimpArgs false
/-- an element is appended to a row of the call's own; what is written is told -/
theorem wp_appG {P : Program} {ops : Array Oper} {rest : List Oper} {o : Oper} {a : Act} {Q : Exit → Act → World → Prop} {e : TypeId} {W : World} {cs : Array Value} (hgd : o.guard = none) (s x : Operand) (t : TypeId)
    (ho : o.op = .call { callee := .builtin .append, args := #[s, x], argTypes := #[t, t] })
    (base : Nat) (i : TypeInfo) (z : Value) (size bytes : Nat) (ht : P.underlying t = some (.slice e)) (hi : P.info? e = some i) (hz : i.zero = some z)
    (hsize : i.size = size) (hby : i.bytes = bytes) (hzs : z.cells.size = size) (hsz : 0 < size)
    (hcs : cs.size = size) (h1 : ∀ u ∈ cs.toList, u.oneCell' = true)
    (v : Value) (n : Nat) (xs : List Value) (hs : a.eval s = v) (hown : W.ownsRow base e size v n xs) (hx : a.eval x = .slice (some ⟨W.heap.size, 0, none⟩) 1 1)
    (h63 : n + 1 ≤ maxLen) (hbytes : (n + 1) * bytes ≤ 140737488355328) (hbase : base ≤ W.heap.size)
    (h : ∀ v' w', w'.ownsRow base e size v' (n + 1) (xs ++ cs.toList) → (W.alloc (.cells cs e)).grownBy w' v.ownBlock → Below base W w' → base ≤ w'.heap.size → wpList P ops Q rest (a.put o.dst v') w') : wpList P ops Q (o :: rest) a (W.alloc (.cells cs e)) := by
  refine wpList_append_own (W.alloc (.cells cs e)) hgd s x t ho base e i z size bytes ht hi hz hsize hby hzs hsz v n xs hs (hown.alloc _) ⟨W.heap.size, 0, none⟩ 1 1 cs.toList hx (by simpa using hcs) ?_ h1 h63 hbytes (by simp; omega) ?_
  · intro j u hj
    rw [Addr.add_lit, World.cell?_alloc_at _ _ _ _ rfl]
    simpa using hj
  · intro v' w' h2 hg _
    have hb : Below base W w' := ((Below.refl _ _).alloc hbase _).grown hg (by simp; omega) (fun j hj => (hown.lt j hj).1)
    refine h v' w' h2 hg hb ?_
    have := hg.size
    simp at this
    omega
def slotsN (k : Int) : Nat := if k = 0 then 0 else if k = 4 then 2 else 1
theorem slotsN_le (k : Int) : slotsN k ≤ 2 := by unfold slotsN; split <;> (try split) <;> omega
def emptyOk (k cnt : Int) : Bool := inB k 0 4 && inB cnt 0 256
def zeroRows (s n : Nat) : List (List Nat) := List.replicate s (List.replicate n 0)
theorem impl_slots (k : Int) (r b1 b2 ep : Nat) (w : World) : Calls Try.prog 41 #[.agg #[.int .i64 k, .float .f32 r, .float .f32 b1, .float .f32 b2, .float .f32 ep]] w fun e w' => e = .returned (.int .i64 (slotsN k : Nat)) ∧ Below w.heap.size w w' := by
  by_cases h0 : k = 0
  · subst h0
    go_enter Try.func41, Try.ntmps41
    go_wp2
    go_ret
    exact ⟨rfl, below1 _ _⟩
  · by_cases h4 : k = 4
    · subst h4
      go_enter Try.func41, Try.ntmps41
      go_wp2
      go_ret
      exact ⟨rfl, below1 _ _⟩
    · have e : slotsN k = 1 := by unfold slotsN; rw [if_neg h0, if_neg h4]
      have n0 : (k == 0) = false := by simpa using h0
      have n4 : (k == 4) = false := by simpa using h4
      rw [e]
      clear h0 h4 e
      go_enter Try.func41, Try.ntmps41
      go_wp2
      go_ret
      exact ⟨rfl, below1 _ _⟩
/-- rows of zeros that a loop makes -/
structure Zrows (w : World) (base : Nat) (v : Value) (k n : Nat) (vs : List Value) : Prop where
  row : w.ownsRow base 29 1 v k vs
  inn : ∀ i, i < k → ∃ g, vs.getD i (.slice none 0 0) = .slice (some ⟨g, 0, none⟩) n n ∧ RepF w base w.heap.size (some ⟨g, 0, none⟩) n n (List.replicate n 0)
  sep : ∀ i j, i < k → j < k → i ≠ j → ∀ g, (vs.getD i (.slice none 0 0)).ownBlock = some g → (vs.getD j (.slice none 0 0)).ownBlock ≠ some g
theorem Zrows.rep {w : World} {base : Nat} {v : Value} {k n : Nat} {vs : List Value} (h : Zrows w base v k n vs) : ∃ ad cap, v = .slice ad k cap ∧ RepFF w base w.heap.size ad k cap vs (zeroRows k n) := by
  obtain ⟨ad, cap, rfl, _⟩ := Rd.of_owns h.row
  have hz : ∀ i, i < k → (zeroRows k n).getD i [] = List.replicate n 0 := by
    intro i hi
    unfold zeroRows
    rw [List.getD_eq_getElem?_getD, List.getElem?_replicate, if_pos hi]; rfl
  refine ⟨ad, cap, rfl, Row.mk' h.row, by simp [zeroRows], fun i hi => ?_, h.sep⟩
  obtain ⟨g, e1, e2⟩ := h.inn i hi
  rw [hz i hi]
  exact ⟨some ⟨g, 0, none⟩, n, by rw [e1]; simp, by simpa using e2⟩
/-- one more row -/
theorem Zrows.snoc {w w1 w2 : World} {base : Nat} {v v' : Value} {k n : Nat} {vs : List Value} (h : Zrows w base v k n vs) (hl : vs.length = k) (hbase : base ≤ w.heap.size)
    (hm : w1.ownsRow w.heap.size 24 1 (.slice (some ⟨w.heap.size, 0, none⟩) n n) n (madeCells #[Value.float .f32 0] n).toList) (hg : w.grownBy w1 none)
    (ho : w2.ownsRow base 29 1 v' (k + 1) (vs ++ [.slice (some ⟨w.heap.size, 0, none⟩) n n])) (hgr : (w1.alloc (.cells #[.slice (some ⟨w.heap.size, 0, none⟩) n n] 29)).grownBy w2 v.ownBlock) : Zrows w2 base v' (k + 1) n (vs ++ [.slice (some ⟨w.heap.size, 0, none⟩) n n]) := by
  have hb1 : Below w.heap.size w w1 := (Below.refl _ _).grown hg (Nat.le_refl _) (fun k e => by cases e)
  have hsz1 : w.heap.size < w1.heap.size := by
    rcases hm.2 with ⟨h1, _⟩ | ⟨g, cap, cur, hv, _, hh, _⟩
    · cases h1
    · cases hv
      exact (Array.getElem?_eq_some_iff.1 hh).1
  have hsz2 : w1.heap.size + 1 ≤ w2.heap.size := by have := hgr.size; simpa using this
  have hvb : ∀ g, v.ownBlock = some g → g < w.heap.size := fun g e => (h.row.lt g e).2
  have hin : ∀ i, i < k → ∀ g, (vs.getD i (.slice none 0 0)).ownBlock = some g → g < w.heap.size := by
    intro i hi g e
    obtain ⟨g', e1, e2⟩ := h.inn i hi
    rw [e1] at e
    have hE : g' = g := by simpa [Value.ownBlock] using e
    subst hE
    exact e2.row.top _ rfl
  refine ⟨ho, fun i hi => ?_, fun i j hi hj hij g e1 e2 => ?_⟩
  · by_cases hik : i = k
    · subst hik
      refine ⟨w.heap.size, by rw [List.getD_eq_getElem?_getD, ← hl, List.getElem?_append_right (Nat.le_refl _)]; simp, ?_⟩
      have r1 := zeros_rep hm
      have r2 := r1.below (below1 w1 (.cells #[.slice (some ⟨w.heap.size, 0, none⟩) n n] 29))
      have r3 := r2.grown hgr (by
        intro g e e2
        have hE : w.heap.size = g := by simpa [Value.ownBlock] using e
        have := hvb _ e2
        omega)
      exact r3.bounds hbase (by omega)
    · obtain ⟨g, e1, e2⟩ := h.inn i (by omega)
      refine ⟨g, by rw [List.getD_eq_getElem?_getD, List.getElem?_append_left (by omega), ← List.getD_eq_getElem?_getD]; exact e1, ?_⟩
      have r2 := (e2.below hb1).below (below1 w1 (.cells #[.slice (some ⟨w.heap.size, 0, none⟩) n n] 29))
      have r3 := r2.grown hgr (by
        intro g' e e2'
        exact row_kinds (Row.mk' h.row) e2.row (by decide) g' e2' e)
      exact r3.bounds (Nat.le_refl _) (by have := hb1.size; omega)
  · have key : ∀ q, q < k + 1 → (vs ++ [Value.slice (some ⟨w.heap.size, 0, none⟩) n n]).getD q (.slice none 0 0) = if q = k then .slice (some ⟨w.heap.size, 0, none⟩) n n else vs.getD q (.slice none 0 0) := by
      intro q hq
      by_cases hqk : q = k
      · rw [if_pos hqk, hqk, List.getD_eq_getElem?_getD, ← hl, List.getElem?_append_right (Nat.le_refl _)]; simp
      · rw [if_neg hqk, List.getD_eq_getElem?_getD, List.getElem?_append_left (by omega), ← List.getD_eq_getElem?_getD]
    rw [key i hi] at e1
    rw [key j hj] at e2
    by_cases hik : i = k
    · rw [if_pos hik] at e1
      rw [if_neg (by omega)] at e2
      have hE : w.heap.size = g := by simpa [Value.ownBlock] using e1
      have := hin j (by omega) _ e2
      omega
    · rw [if_neg hik] at e1
      by_cases hjk : j = k
      · rw [if_pos hjk] at e2
        have hE : w.heap.size = g := by simpa [Value.ownBlock] using e2
        have := hin i (by omega) _ e1
        omega
      · rw [if_neg hjk] at e2
        exact h.sep i j (by omega) (by omega) hij g e1 e2
set_option maxHeartbeats 2000000 in
theorem impl_EmptySlots_yes (k cnt : Int) (r b1 b2 ep : Nat) (hok : emptyOk k cnt = true) (w : World) : Calls Try.prog 11 #[.agg #[.int .i64 k, .float .f32 r, .float .f32 b1, .float .f32 b2, .float .f32 ep], .int .i64 cnt] w fun e w' => ∃ v vs, e = .returned (.tuple #[v, .bool true]) ∧ Hid (Zrows w' w.heap.size v (slotsN k) cnt.toNat vs) ∧ Below w.heap.size w w' := by
  simp only [emptyOk, Bool.and_eq_true] at hok
  obtain ⟨h1, h2⟩ := hok
  have ⟨g0, g1⟩ := inB_iff.1 h2
  obtain ⟨n, rfl⟩ := Int.eq_ofNat_of_zero_le g0
  have k1 := fun W => impl_ValidOptimizer k r b1 b2 ep W
  rw [h1] at k1
  have k2 := fun W => within_any n 0 256 W
  rw [h2] at k2
  have k3 := fun W => impl_slots k r b1 b2 ep W
  have hs := slotsN_le k
  rw [Int.toNat_natCast]
  obtain ⟨S, hS⟩ : ∃ S, S = slotsN k := ⟨_, rfl⟩
  rw [← hS] at k3 hs ⊢
  obtain ⟨i0, hi, hz0, hz1, hz2⟩ := info_parts info_f32
  obtain ⟨j0, hj2, hy0, hy1, hy2⟩ := info_parts info_f32s
  have K1 := Lib.hid k1; have K2 := Lib.hid k2; have K3 := Lib.hid k3
  clear h1 h2 k1 k2 k3 hS g0
  go_enter Try.func11, Try.ntmps11
  go_wp2_with fail
  refine (K1.out _).mono ?_
  rintro e w1 ⟨rfl, hb1⟩
  obtain ⟨q1, q2, q3⟩ := bkeep w.heap.size hb1 (by simp)
  go_wp2_with fail
  refine (K2.out _).mono ?_
  rintro e w2 ⟨rfl, rfl⟩
  go_wp2_with fail
  refine (K3.out _).mono ?_
  rintro e w3 ⟨rfl, hb3⟩
  have hown0 : w3.ownsRow w.heap.size 29 1 (.slice (some ⟨w1.heap.size, 0, none⟩) 0 0) 0 [] := owns_below (World.ownsRow_made _ _ _ (by omega) (Nat.zero_le _) rfl) hb3
  have hb3 := bthen ((bthen (below1 _ _) hb1).alloc (by omega) _) hb3
  have hsz3 : w.heap.size ≤ w3.heap.size := hb3.size
  go_wp2
  go_loopw [6, 18] (fun v i wr => ∃ j : Nat, i = .int .i64 j ∧ j ≤ S ∧ ∃ vs : List Value, vs.length = j ∧ Zrows wr w.heap.size v j n vs ∧ Below w.heap.size w wr ∧ w.heap.size ≤ wr.heap.size) (fun _ i _ => S - (intOf i).toNat)
  case atStart => exact ⟨0, rfl, Nat.zero_le _, [], rfl, ⟨hown0, (fun i hi => by omega), (fun i j hi => by omega)⟩, hb3, hsz3⟩
  case round =>
    obtain ⟨j, rfl, hj, vs, hvl, hZ, hb, hbs⟩ := hrel
    have HZ := Lib.hid hZ; have HVL := Lib.hid hvl; have HB := Lib.hid hb; clear hZ hvl hb
    by_cases hlt : j < S
    · go_wp2_with (at_make; refine wpList_make_full _ rfl _ _ 29 rfl wr.heap.size 24 i0 (.float .f32 0) 1 Try.underlying29 hi hz0 hz1 .i64 .i64 _ _ n rfl rfl rfl rfl ?c1 ?c2 ?c3 ?_)
      case c1 => rw [hz2]; omega
      case c2 => unfold maxLen; omega
      case c3 => exact Nat.le_refl _
      intro w4 hown4 hg4
      have hb4 : Below wr.heap.size wr w4 := (Below.refl _ _).grown hg4 (Nat.le_refl _) (fun k e => by cases e)
      have hs4 := hb4.size
      have HO := Lib.hid (owns_below HZ.out.row hb4)
      have HOW := Lib.hid hown4; have HG4 := Lib.hid hg4; have HB4 := Lib.hid hb4
      clear hown4 hg4 hb4
      go_wp2_with (at_builtin; refine wp_appG rfl _ _ 31 rfl w.heap.size j0 (.slice none 0 0) 1 24 Try.underlying31 hj2 hy0 hy1 hy2 rfl (by decide) rfl (one_cell _ rfl) _ _ _ rfl HO.out rfl ?c3 ?c4 ?c5 ?_)
      case c3 => unfold maxLen; omega
      case c4 => omega
      case c5 => omega
      intro v' w9 hown1 hgr1 hb1 hbs1
      have hz' := HZ.out.snoc HVL.out hbs HOW.out HG4.out hown1 hgr1
      have hb9 := (HB.out.trans (HB4.out.mono hbs)).trans hb1
      have HZ9 := Lib.hid hz'; have HB9 := Lib.hid hb9
      clear hown1 hgr1 hb1 hz' hb9
      go_wp2
      go_roundw
      case rel => exact ⟨j + 1, by go_num, hlt, _, by simp [HVL.out], HZ9.out, HB9.out, hbs1⟩
      case measure => simp [intOf]; omega
    · have hkn : j = S := by omega
      subst hkn
      go_wp2
      go_ret2
      exact ⟨_, vs, rfl, HZ, HB.out⟩
end Go.Proofs.Ytnhikdjljjemlaa
/- What copying, measuring slices of slices of numbers does; rows set and appended. No condition. -/
namespace Go.Proofs.Ytnhikdjljjemlaa
open Go Go.RowKit
set_option linter.unusedVariables false
set_option linter.unusedSimpArgs false
/-- a slice of slices among the arguments -/
def ArgFF (w : World) (ad : Option Addr) (cap : Nat) (Xs : List (List Nat)) : Prop := ∃ vs, SeeFF w ad cap vs Xs
theorem ArgFF.below {w w' : World} {ad : Option Addr} {cap : Nat} {Xs : List (List Nat)} (h : ArgFF w ad cap Xs) (hb : Below w.heap.size w w') : ArgFF w' ad cap Xs := by
  obtain ⟨vs, h⟩ := h
  exact ⟨vs, h.below hb⟩
section
variable {H : Type} {enc : TypeId × Value → H} {w : World} {base : Nat} {spare : Nat → Bool} {held : Bool}
theorem dec_f32ss {n : Nat} {cs : List Value} {y : DataW H × List MemPlace} (h : DataW.trod enc Try.prog w base spare held n 31 cs = some y) : ∃ ad cap Xs, cs = [.slice ad (List.length Xs) cap] ∧ ArgFF w ad cap Xs := by
  obtain ⟨a, l, c, rfl⟩ := Joins.slice_form Try.underlying31 h
  obtain ⟨ad, cap, bs, h1, h2, h3, h4, h5⟩ := open_rows (v := .slice a l c) (fun b : Option Addr × Nat × List Nat => [Value.slice b.1 b.2.2.length b.2.1]) (fun b => F32s w b.1 b.2.1 b.2.2) Try.underlying31 (fun n cs y hy => by
    obtain ⟨a1, c1, xs, e, hf⟩ := dec_f32s Try.underlying29 Try.underlying24 hy
    exact ⟨(a1, c1, xs), e, hf⟩) ⟨n, by simpa [Value.cells] using h⟩ ⟨a, l, c, rfl⟩
  rw [← List.map_eq_flatMap] at h4
  refine ⟨ad, cap, bs.map (·.2.2), by rw [h1, List.length_map], bs.map (fun b => Value.slice b.1 b.2.2.length b.2.1), ⟨by simp, by simpa using h2, h3, h4, fun i hi => ?_⟩⟩
  rw [List.length_map] at hi
  refine ⟨(bs[i]).1, (bs[i]).2.1, ?_, ?_⟩
  · simp [List.getD_eq_getElem?_getD, List.getElem?_map, List.getElem?_eq_getElem hi]
  · have := h5 (bs[i]) (List.getElem_mem hi)
    simpa [List.getD_eq_getElem?_getD, List.getElem?_map, List.getElem?_eq_getElem hi] using this
end
theorem RepFF.addr {w : World} {lo hi : Nat} {ad : Option Addr} {n cap : Nat} {vs : List Value} {Xs : List (List Nat)} (h : RepFF w lo hi ad n cap vs Xs) (hp : 0 < n) :
    ∃ g, ad = some ⟨g, 0, none⟩ ∧ lo ≤ g ∧ g < w.heap.size ∧ (∀ k, k < n → w.cell? ⟨g, k, none⟩ = some (vs.getD k (.slice none 0 0))) ∧ (∀ k, w.frozen? ⟨g, k, none⟩ = false) := by
  have hv := h.vlen
  obtain ⟨g, cap', hform⟩ := Joins.ownsRow_form h.row.own hp
  have had : ad = some ⟨g, 0, none⟩ := by cases hform; rfl
  clear hform
  subst had
  refine ⟨g, rfl, (h.row.own.lt g rfl).1, (h.row.own.lt g rfl).2, fun k hk => ?_, fun k => h.row.own.frozenAt k⟩
  rw [h.row.own.cellAt k (by omega), List.getD_eq_getElem?_getD, List.getElem?_eq_getElem (by omega)]; rfl
/-- a row is set, which is new -/
theorem RepFF.setRow {w w1 : World} {lo g n cap : Nat} {vs : List Value} {Xs : List (List Nat)} (h : RepFF w lo w.heap.size (some ⟨g, 0, none⟩) n cap vs Xs) (hb : Below w.heap.size w w1) {k : Nat} (hk : k < n) {ai : Option Addr} {m ci : Nat} {xs : List Nat} (hr : RepF w1 w.heap.size w1.heap.size ai m ci xs) :
    RepFF (w1.setCell ⟨g, k, none⟩ (.slice ai m ci)) lo w1.heap.size (some ⟨g, 0, none⟩) n cap (vs.set k (.slice ai m ci)) (Xs.set k xs) := by
  have hv := h.vlen
  have hxl := h.len
  have hlo : lo ≤ w.heap.size := by have := (h.row.own.lt g rfl); omega
  have hs := hb.size
  have h1 := h.below hb
  have hst := h1.row.own.stored k (.slice ai m ci)
  have hin : ∀ i, i < n → ∀ b, (vs.getD i (.slice none 0 0)).ownBlock = some b → b < w.heap.size := by
    intro i hi b e
    obtain ⟨a1, c1, e1, hf⟩ := h.inn i hi
    rw [e1] at e
    exact hf.row.top b e
  have hnew : ∀ b, (Value.slice ai m ci).ownBlock = some b → w.heap.size ≤ b := fun b e => (hr.row.own.lt b e).1
  refine ⟨⟨hst.1, fun j hj => ?_⟩, by simpa using h.len, fun i hi => ?_, fun i j hi hj hij b e1 e2 => ?_⟩
  · exact Nat.lt_of_lt_of_le (h.row.top j hj) hs
  · rw [getD_set _ _ _ _ _ (by omega), getD_set _ _ _ _ _ (by omega)]
    by_cases hik : i = k
    · rw [if_pos hik, if_pos hik]
      refine ⟨ai, ci, by rw [hr.len], ?_⟩
      rw [hr.len]
      exact (hr.grown hst.2 (fun b e e2 => by have e3 : g = b := by simpa using e2
                                              have := hnew b e
                                              have := (h.row.own.lt g rfl).2
                                              omega)).bounds hlo (Nat.le_refl _)
    · rw [if_neg hik, if_neg hik]
      obtain ⟨a1, c1, e1, hf⟩ := h1.inn i hi
      exact ⟨a1, c1, e1, (hf.grown hst.2 (fun b e e2 => row_kinds h1.row hf.row (by decide) b (by rw [← e2]; rfl) e)).bounds (Nat.le_refl _) hs⟩
  · rw [getD_set _ _ _ _ _ (by omega)] at e1 e2
    by_cases hik : i = k
    · rw [if_pos hik] at e1
      rw [if_neg (by omega)] at e2
      have := hnew b e1
      have := hin j hj b e2
      omega
    · rw [if_neg hik] at e1
      by_cases hjk : j = k
      · rw [if_pos hjk] at e2
        have := hnew b e2
        have := hin i hi b e1
        omega
      · rw [if_neg hjk] at e2
        exact h.sep i j hi hj hij b e1 e2
/-- one more row -/
theorem RepFF.snoc {w w1 w2 : World} {lo k cap : Nat} {ad : Option Addr} {v' : Value} {vs : List Value} {Xs : List (List Nat)} (h : RepFF w lo w.heap.size ad k cap vs Xs) (hlo : lo ≤ w.heap.size) (hb : Below w.heap.size w w1) {ai : Option Addr} {m ci : Nat} {xs : List Nat} (hr : RepF w1 w.heap.size w1.heap.size ai m ci xs)
    (ho : w2.ownsRow lo 29 1 v' (k + 1) (vs ++ [.slice ai m ci])) (hgr : (w1.alloc (.cells #[.slice ai m ci] 29)).grownBy w2 (Value.slice ad k cap).ownBlock) :
    ∃ ad' cap', v' = .slice ad' (k + 1) cap' ∧ RepFF w2 lo w2.heap.size ad' (k + 1) cap' (vs ++ [.slice ai m ci]) (Xs ++ [xs]) := by
  have hv := h.vlen
  have hxl := h.len
  have hs := hb.size
  have hs2 : w1.heap.size ≤ w2.heap.size := by have := hgr.size; simp at this; omega
  have h1 := (h.below hb).below (below1 w1 (.cells #[.slice ai m ci] 29))
  have hr1 := hr.below (below1 w1 (.cells #[.slice ai m ci] 29))
  have hin : ∀ i, i < k → ∀ b, (vs.getD i (.slice none 0 0)).ownBlock = some b → b < w.heap.size := by
    intro i hi b e
    obtain ⟨a1, c1, e1, hf⟩ := h.inn i hi
    rw [e1] at e
    exact hf.row.top b e
  have hnew : ∀ b, (Value.slice ai m ci).ownBlock = some b → w.heap.size ≤ b := fun b e => (hr.row.own.lt b e).1
  have key : ∀ q, q < k + 1 → (vs ++ [Value.slice ai m ci]).getD q (.slice none 0 0) = if q = k then .slice ai m ci else vs.getD q (.slice none 0 0) := by
    intro q hq
    by_cases hqk : q = k
    · rw [if_pos hqk, hqk, List.getD_eq_getElem?_getD, List.getElem?_append_right (by omega), hv]; simp
    · rw [if_neg hqk, List.getD_eq_getElem?_getD, List.getElem?_append_left (by omega), ← List.getD_eq_getElem?_getD]
  have keyx : ∀ q, q < k + 1 → (Xs ++ [xs]).getD q [] = if q = k then xs else Xs.getD q [] := by
    intro q hq
    by_cases hqk : q = k
    · rw [if_pos hqk, hqk, List.getD_eq_getElem?_getD, List.getElem?_append_right (by omega), hxl]; simp
    · rw [if_neg hqk, List.getD_eq_getElem?_getD, List.getElem?_append_left (by omega), ← List.getD_eq_getElem?_getD]
  obtain ⟨ad', cap', rfl, _⟩ := Rd.of_owns ho
  refine ⟨ad', cap', rfl, Row.mk' ho, by simp [hxl], fun i hi => ?_, fun i j hi hj hij b e1 e2 => ?_⟩
  · rw [key i hi, keyx i hi]
    by_cases hik : i = k
    · rw [if_pos hik, if_pos hik]
      refine ⟨ai, ci, by rw [hr.len], ?_⟩
      rw [hr.len]
      refine (hr1.grown hgr (fun b e e2 => ?_)).bounds hlo hs2
      have := hnew b e
      have := (h.row.own.lt b e2).2
      omega
    · rw [if_neg hik, if_neg hik]
      obtain ⟨a1, c1, e1, hf⟩ := h1.inn i (by omega)
      exact ⟨a1, c1, e1, (hf.grown hgr (fun b e e2 => row_kinds h1.row hf.row (by decide) b e2 e)).bounds (Nat.le_refl _) (by omega)⟩
  · rw [key i hi] at e1
    rw [key j hj] at e2
    by_cases hik : i = k
    · rw [if_pos hik] at e1
      rw [if_neg (by omega)] at e2
      have := hnew b e1
      have := hin j (by omega) b e2
      omega
    · rw [if_neg hik] at e1
      by_cases hjk : j = k
      · rw [if_pos hjk] at e2
        have := hnew b e2
        have := hin i (by omega) b e1
        omega
      · rw [if_neg hjk] at e2
        exact h.sep i j (by omega) (by omega) hij b e1 e2
/-- rows that are made -/
theorem RepFF.made {w w1 : World} {n : Nat} (h : w1.ownsRow w.heap.size 29 1 (.slice (some ⟨w.heap.size, 0, none⟩) n n) n (madeCells #[Value.slice none 0 0] n).toList) : RepFF w1 w.heap.size w1.heap.size (some ⟨w.heap.size, 0, none⟩) n n (List.replicate n (.slice none 0 0)) (List.replicate n []) := by
  rw [toList_madeCells_one] at h
  have e1 : ∀ i, i < n → (List.replicate n (Value.slice none 0 0)).getD i (.slice none 0 0) = .slice none 0 0 := by intro i hi; rw [List.getD_eq_getElem?_getD, List.getElem?_replicate, if_pos hi]; rfl
  have e2 : ∀ i, i < n → (List.replicate n ([] : List Nat)).getD i [] = [] := by intro i hi; rw [List.getD_eq_getElem?_getD, List.getElem?_replicate, if_pos hi]; rfl
  refine ⟨Row.mk' h, by simp, fun i hi => ?_, fun i j hi hj _ b e => ?_⟩
  · rw [e1 i hi, e2 i hi]
    exact ⟨none, 0, rfl, RepF.nil _ _ _⟩
  · rw [e1 i hi] at e; cases e
end Go.Proofs.Ytnhikdjljjemlaa
/- The law of empty slots, walked. No condition. -/
namespace Go.Proofs.Ytnhikdjljjemlaa
open Go Go.RowKit
set_option linter.unusedVariables false
set_option linter.unusedSimpArgs false
theorem via {P : Program} {f : FuncId} {args : Array Value} {w : World} {A B : Ending → World → Prop} (h : Calls P f args w A) (k : ∀ e w', A e w' → B e w') : Calls P f args w B := h.mono k
/-- what empty slots are -/
def EmpPost (w : World) (k cnt : Int) (e : Ending) (w' : World) : Prop := ∃ ad n cap vs Xs, e = .returned (.tuple #[.slice ad n cap, .bool (emptyOk k cnt)]) ∧ RepFF w' w.heap.size w'.heap.size ad n cap vs Xs ∧ Xs = (if emptyOk k cnt = true then zeroRows (slotsN k) cnt.toNat else []) ∧ Below w.heap.size w w'
theorem impl_EmptySlots (k cnt : Int) (r b1 b2 ep : Nat) (w : World) : Calls Try.prog 11 #[.agg #[.int .i64 k, .float .f32 r, .float .f32 b1, .float .f32 b2, .float .f32 ep], .int .i64 cnt] w (EmpPost w k cnt) := by
  cases hok : emptyOk k cnt
  · refine via (A := fun e w' => e = .returned (.tuple #[.slice none 0 0, .bool false]) ∧ Below w.heap.size w w') ?_ fun e w' ⟨he, hb⟩ => ⟨none, 0, 0, [], [], by rw [hok]; exact he, RepFF.nil _ _ _, by rw [hok]; rfl, hb⟩
    unfold emptyOk at hok
    have k1 := fun W => impl_ValidOptimizer k r b1 b2 ep W
    have k2 := fun W => within_any cnt 0 256 W
    have K1 := Lib.hid k1; have K2 := Lib.hid k2; clear k1 k2
    cases h1 : inB k 0 4
    · rw [h1] at K1
      clear hok h1
      go_enter Try.func11, Try.ntmps11
      go_wp2_with fail
      refine (K1.out _).mono ?_
      rintro e w1 ⟨rfl, hb1⟩
      go_wp2
      go_ret2
      exact ⟨rfl, bthen (below1 _ _) hb1⟩
    · have h2 : inB cnt 0 256 = false := by simpa [h1] using hok
      rw [h1] at K1
      rw [h2] at K2
      clear hok h1 h2
      go_enter Try.func11, Try.ntmps11
      go_wp2_with fail
      refine (K1.out _).mono ?_
      rintro e w1 ⟨rfl, hb1⟩
      go_wp2_with fail
      refine (K2.out _).mono ?_
      rintro e w2 ⟨rfl, rfl⟩
      go_wp2
      go_ret2
      exact ⟨rfl, bthen (below1 _ _) hb1⟩
  · refine (impl_EmptySlots_yes k cnt r b1 b2 ep hok w).mono fun e w' ⟨v, vs, he, hz, hb⟩ => ?_
    obtain ⟨ad, cap, rfl, hr⟩ := hz.out.rep
    exact ⟨ad, _, cap, vs, _, by rw [hok]; exact he, hr, by rw [hok]; rfl, hb⟩
end Go.Proofs.Ytnhikdjljjemlaa
/- What a loss that is bent and its gradients are. No condition. -/
namespace Go.Proofs.Ytnhikdjljjemlaa
open Go Go.RowKit
set_option linter.unusedVariables false
set_option linter.unusedSimpArgs false
def leF (a c : Nat) : Bool := FloatKind.f32.format.order a c == some .lt || FloatKind.f32.format.order a c == some .eq
def gtZ (a : Nat) : Bool := FloatKind.f32.format.order a 0 == some .gt
theorem leF_at {r a c : Nat} (h : cn .f32 r = a) : leF r c = leF a c := by
  unfold leF
  rw [← order_cn .f32 r c, ← order_cn .f32 a c, h, ← h, cn_cn]
theorem gtZ_at {r a : Nat} (h : cn .f32 r = a) : gtZ r = gtZ a := by
  unfold gtZ
  rw [← order_cn .f32 r 0, ← order_cn .f32 a 0, h, ← h, cn_cn]
def huG (c : Nat) (D : Nat → Nat) (n i : Nat) : Nat := if leF (absW (D i)) c = true then fop .quo .f32 (D i) (floatOfInt .f32 n) else if gtZ (D i) = true then fop .quo .f32 (cn .f32 c) (floatOfInt .f32 n) else fop .quo .f32 (cn .f32 (Op.negFloat .f32 c)) (floatOfInt .f32 n)
def huA (c : Nat) (D : Nat → Nat) (i : Nat) : Nat := if leF (absW (D i)) c = true then fop .quo .f32 (fop .mul .f32 (D i) (D i)) 1073741824 else fop .mul .f32 (cn .f32 c) (fop .sub .f32 (absW (D i)) (fop .quo .f32 (cn .f32 c) 1073741824))
def huL (c : Nat) (D : Nat → Nat) (n : Nat) : Nat := fop .quo .f32 (sumS (listOf n (huA c D)) n) (floatOfInt .f32 n)
set_option maxRecDepth 100000 in
set_option maxHeartbeats 4000000 in
theorem impl_LossHuber_yes (w : World) (a1 : Option Addr) (c1 : Nat) (xs : List Nat) (h1 : F32s w a1 c1 xs) (a2 : Option Addr) (c2 : Nat) (zs : List Nat) (h2 : F32s w a2 c2 zs) (c : Nat) (hb : both xs.length zs.length = true) :
    Calls Try.prog 27 #[.slice a1 xs.length c1, .slice a2 zs.length c2, .float .f32 c] w fun e w' => ∃ (r : Nat) (ad : Option Addr) (n cap : Nat) (ys : List Nat), e = .returned (.tuple #[.float .f32 r, .slice ad n cap, .bool true]) ∧
      cn .f32 r = huL c (subE (xs.map (cn .f32)) (zs.map (cn .f32))) xs.length ∧ RepF w' w.heap.size w'.heap.size ad n cap ys ∧ ys.map (cn .f32) = listOf xs.length (huG c (subE (xs.map (cn .f32)) (zs.map (cn .f32))) xs.length) ∧ n ≤ 1048576 ∧ Below w.heap.size w w' := by
  obtain ⟨i0, hi, hz0, hz1, hz2⟩ := info_parts info_f32
  have c1 := fun W k1 k2 => impl_differences W a1 c1 xs k1 a2 c2 zs k2 hb
  obtain ⟨D, hD⟩ : ∃ D, D = subE (xs.map (cn .f32)) (zs.map (cn .f32)) := ⟨_, rfl⟩
  simp only [← hD] at c1 ⊢
  clear hD
  simp only [both, Bool.and_eq_true, decide_eq_true_eq] at hb
  obtain ⟨⟨hn1, hn⟩, hl⟩ := hb
  obtain ⟨n, e1⟩ : ∃ n, n = xs.length := ⟨_, rfl⟩
  have e2 : n = zs.length := e1.trans hl
  simp only [← e1] at c1 hn hn1 ⊢
  simp only [← e2] at c1 ⊢
  have C1 := Lib.hid c1; clear c1 e1 e2 hl
  go_enter Try.func27, Try.ntmps27
  go_wp2_with fail
  refine (C1.out _ h1 h2).mono ?_
  rintro e w1 ⟨v1, ds, rfl, hown1, hD, hDl, hb1⟩
  obtain ⟨ad, cap, rfl, hr⟩ := RepF.of_owns hown1 hDl.out
  have HD := hD.out
  have hdl := len_of HD
  have hra := hr.arg
  clear hD hown1 C1 h1 h2
  have hs1 := hb1.size
  go_wp2
  go_loopw [12, 13, 28] (fun t v i wr => ∃ k : Nat, i = .int .i64 k ∧ k ≤ n ∧ ∃ s : Nat, t = .float .f32 s ∧ s < 4294967296 ∧ cn .f32 s = sumS (listOf n (huA c D)) k ∧ ∃ ys : List Nat, wr.ownsRow w1.heap.size 24 1 v k (ys.map (Value.float .f32)) ∧ ys.length = k ∧ ys.map (cn .f32) = listOf k (huG c D n) ∧ (∀ y ∈ ys, y < 4294967296) ∧ Below w1.heap.size w1 wr ∧ w1.heap.size ≤ wr.heap.size) (fun _ _ i _ => n - (intOf i).toNat)
  case atStart => exact ⟨0, rfl, Nat.zero_le _, 0, rfl, by decide, cn_zero, [], World.ownsRow_made _ _ _ (Nat.le_refl _) (Nat.zero_le _) rfl, rfl, rfl, (fun y hy => nomatch hy), below1 _ _, by simp⟩
  case round =>
    obtain ⟨k, rfl, hk, s, rfl, hsl, hs, ys, hown, hyl, hye, hylt, hb, hbs⟩ := hrel
    have HL := Lib.hid hyl; have HE := Lib.hid hye; have HLT := Lib.hid hylt; have HS := Lib.hid hs; clear hyl hye hylt hs
    have h1 := hra.below hb
    by_cases hlt : k < n
    · have hk1 : k < ds.length := by rw [hdl]; exact hlt
      have hx1 : ds.getD k 0 < 4294967296 := hDl.out _ (mem_getD hk1)
      obtain ⟨bx1, offx1, rfl, _, hqx1⟩ := F32s.spot h1 (k := k) hk1
      have hcx := hqx1 k hk1
      obtain ⟨x1, px1⟩ : ∃ x, x = ds.getD k 0 := ⟨_, rfl⟩
      rw [← px1] at hcx
      have Px1 := Lib.hid px1; clear px1 hqx1
      rw [← Px1.out] at hx1
      have hD1 : cn .f32 x1 = D k := by rw [Px1.out, cn_at HD hlt]
      clear h1
      cases hle : leF (absW (D k)) c
      · cases hgt : gtZ (D k)
        · go_wp2_with fail
          refine (impl_size _ hx1 _).mono ?_
          rintro e w2 ⟨r, rfl, hr, q, rfl⟩
          have hra := hr.out.1
          rw [hD1] at hra
          have o1 := (leF_at hra).trans hle
          unfold leF at o1
          simp only [Bool.or_eq_false_iff] at o1
          obtain ⟨o1, o2⟩ := o1
          have o3 : (FloatKind.f32.format.order x1 0 == some .gt) = false := (gtZ_at hD1).trans hgt
          go_wp2_with fail
          refine (impl_size _ hx1 _).mono ?_
          rintro e w3 ⟨r2, rfl, hr2, q2, rfl⟩
          have hra2 := hr2.out.1
          rw [hD1] at hra2
          have HRA := Lib.hid hra; clear hra
          go_wp2_with (at_builtin; refine wp_app rfl _ _ 29 rfl w1.heap.size i0 (.float .f32 0) 1 4 Try.underlying29 hi hz0 hz1 hz2 rfl (by decide) rfl (one_cell _ rfl) _ _ _ rfl hown rfl ?c3 ?c4 ?c5 ?_)
          case c3 => unfold maxLen; omega
          case c4 => omega
          case c5 => exact hbs
          intro v' w9 hown1 hb1 hbs1
          have hb1 : Below w1.heap.size w1 w9 := (below_drewN hb _).trans hb1
          clear hown hb hbs
          generalize hy : fbits BinOp.quo FloatKind.f32 (Op.negFloat FloatKind.f32 c) _ _ = y at hown1
          have hyc : cn .f32 y = huG c D n k := by rw [← hy]; rw [cn_fbits, cn_floatOfInt]; unfold huG; rw [if_neg (by rw [hle]; decide), if_neg (by rw [hgt]; decide)]
          have hyl : y < 4294967296 := by rw [← hy]; exact fbits_lt _ .f32 _ _ _
          have HY := Lib.hid hyc; clear hyc hy
          go_wp2
          go_roundw
          case rel =>
            refine ⟨k + 1, by go_num, hlt, _, rfl, fbits_lt _ .f32 _ _ _, ?_, ys ++ [y], by simpa using hown1, by simp [HL.out], ?_, ?_, hb1, hbs1⟩
            · rw [cn_fbits, HS.out]
              show _ = fop .add .f32 _ ((listOf n (huA c D)).getD k 0)
              rw [listOf_getD _ hlt]
              unfold huA; rw [if_neg (by rw [hle]; decide)]
              rw [cn_fbits, cn_fbits, cn_fbits, hra2, cn_two]
            · rw [List.map_append, List.map_cons, List.map_nil, HE.out, HY.out, listOf_succ]
            · intro z hz
              rcases List.mem_append.1 hz with hz | hz
              · exact HLT.out z hz
              · simp at hz; rw [hz]; exact hyl
          case measure => simp [intOf]; omega
        · go_wp2_with fail
          refine (impl_size _ hx1 _).mono ?_
          rintro e w2 ⟨r, rfl, hr, q, rfl⟩
          have hra := hr.out.1
          rw [hD1] at hra
          have o1 := (leF_at hra).trans hle
          unfold leF at o1
          simp only [Bool.or_eq_false_iff] at o1
          obtain ⟨o1, o2⟩ := o1
          have o3 : (FloatKind.f32.format.order x1 0 == some .gt) = true := (gtZ_at hD1).trans hgt
          go_wp2_with fail
          refine (impl_size _ hx1 _).mono ?_
          rintro e w3 ⟨r2, rfl, hr2, q2, rfl⟩
          have hra2 := hr2.out.1
          rw [hD1] at hra2
          have HRA := Lib.hid hra; clear hra
          go_wp2_with (at_builtin; refine wp_app rfl _ _ 29 rfl w1.heap.size i0 (.float .f32 0) 1 4 Try.underlying29 hi hz0 hz1 hz2 rfl (by decide) rfl (one_cell _ rfl) _ _ _ rfl hown rfl ?c3 ?c4 ?c5 ?_)
          case c3 => unfold maxLen; omega
          case c4 => omega
          case c5 => exact hbs
          intro v' w9 hown1 hb1 hbs1
          have hb1 : Below w1.heap.size w1 w9 := (below_drewN hb _).trans hb1
          clear hown hb hbs
          generalize hy : fbits BinOp.quo FloatKind.f32 c _ _ = y at hown1
          have hyc : cn .f32 y = huG c D n k := by rw [← hy]; rw [cn_fbits, cn_floatOfInt]; unfold huG; rw [if_neg (by rw [hle]; decide), if_pos hgt]
          have hyl : y < 4294967296 := by rw [← hy]; exact fbits_lt _ .f32 _ _ _
          have HY := Lib.hid hyc; clear hyc hy
          go_wp2
          go_roundw
          case rel =>
            refine ⟨k + 1, by go_num, hlt, _, rfl, fbits_lt _ .f32 _ _ _, ?_, ys ++ [y], by simpa using hown1, by simp [HL.out], ?_, ?_, hb1, hbs1⟩
            · rw [cn_fbits, HS.out]
              show _ = fop .add .f32 _ ((listOf n (huA c D)).getD k 0)
              rw [listOf_getD _ hlt]
              unfold huA; rw [if_neg (by rw [hle]; decide)]
              rw [cn_fbits, cn_fbits, cn_fbits, hra2, cn_two]
            · rw [List.map_append, List.map_cons, List.map_nil, HE.out, HY.out, listOf_succ]
            · intro z hz
              rcases List.mem_append.1 hz with hz | hz
              · exact HLT.out z hz
              · simp at hz; rw [hz]; exact hyl
          case measure => simp [intOf]; omega
      · go_wp2_with fail
        refine (impl_size _ hx1 _).mono ?_
        rintro e w2 ⟨r, rfl, hr, q, rfl⟩
        have hra := hr.out.1
        rw [hD1] at hra
        have o1 := (leF_at hra).trans hle
        unfold leF at o1
        have HRA := Lib.hid hra; clear hra
        go_wp2_with (at_builtin; refine wp_app rfl _ _ 29 rfl w1.heap.size i0 (.float .f32 0) 1 4 Try.underlying29 hi hz0 hz1 hz2 rfl (by decide) rfl (one_cell _ rfl) _ _ _ rfl hown rfl ?c3 ?c4 ?c5 ?_)
        case c3 => unfold maxLen; omega
        case c4 => omega
        case c5 => exact hbs
        intro v' w9 hown1 hb1 hbs1
        have hb1 : Below w1.heap.size w1 w9 := (below_drewN hb _).trans hb1
        clear hown hb hbs
        generalize hy : fbits BinOp.quo FloatKind.f32 x1 _ _ = y at hown1
        have hyc : cn .f32 y = huG c D n k := by rw [← hy]; rw [cn_fbits, hD1, cn_floatOfInt]; unfold huG; rw [if_pos hle]
        have hyl : y < 4294967296 := by rw [← hy]; exact fbits_lt _ .f32 _ _ _
        have HY := Lib.hid hyc; clear hyc hy
        go_wp2
        go_roundw
        case rel =>
          refine ⟨k + 1, by go_num, hlt, _, rfl, fbits_lt _ .f32 _ _ _, ?_, ys ++ [y], by simpa using hown1, by simp [HL.out], ?_, ?_, hb1, hbs1⟩
          · rw [cn_fbits, HS.out]
            show _ = fop .add .f32 _ ((listOf n (huA c D)).getD k 0)
            rw [listOf_getD _ hlt]
            unfold huA; rw [if_pos hle]
            rw [cn_fbits, cn_fbits, hD1, cn_two]
          · rw [List.map_append, List.map_cons, List.map_nil, HE.out, HY.out, listOf_succ]
          · intro z hz
            rcases List.mem_append.1 hz with hz | hz
            · exact HLT.out z hz
            · simp at hz; rw [hz]; exact hyl
        case measure => simp [intOf]; omega
    · have hkn : k = n := by omega
      subst hkn
      go_wp2
      go_ret3
      obtain ⟨ad', cap', rfl, hro⟩ := RepF.of_owns hown HLT.out
      exact ⟨_, ad', _, cap', ys, rfl, by rw [cn_fbits, cn_floatOfInt, HS.out]; rfl, ((hro.below (below_drewN (Below.refl _ _) _)).bounds hs1 (Nat.le_refl _)), HE.out, by omega, (hb1.trans (hb.mono hs1)).trans (below_drewN (Below.refl _ _) _)⟩
theorem impl_LossHuber (w : World) (a1 : Option Addr) (c1 : Nat) (xs : List Nat) (h1 : F32s w a1 c1 xs) (a2 : Option Addr) (c2 : Nat) (zs : List Nat) (h2 : F32s w a2 c2 zs) (c : Nat) :
    Calls Try.prog 27 #[.slice a1 xs.length c1, .slice a2 zs.length c2, .float .f32 c] w fun e w' => ∃ (r : Nat) (ad : Option Addr) (n cap : Nat) (ys : List Nat) (b : Bool), e = .returned (.tuple #[.float .f32 r, .slice ad n cap, .bool b]) ∧
      cn .f32 r = (if both xs.length zs.length = true then huL c (subE (xs.map (cn .f32)) (zs.map (cn .f32))) xs.length else 0) ∧ RepF w' w.heap.size w'.heap.size ad n cap ys ∧ ys.map (cn .f32) = (if both xs.length zs.length = true then listOf xs.length (huG c (subE (xs.map (cn .f32)) (zs.map (cn .f32))) xs.length) else []) ∧ n ≤ 1048576 ∧ b = both xs.length zs.length ∧ Below w.heap.size w w' := by
  cases hb : both xs.length zs.length
  · have m1 := Nat.le_trans h1.len h1.cap
    have m2 := Nat.le_trans h2.len h2.cap
    unfold maxLen at m1 m2
    have c := fun W => impl_differences_no W a1 c1 xs.length zs.length a2 c2 (by omega) (by omega) hb
    skip
    have C := Lib.hid c; clear c
    simp only [Bool.false_eq_true, if_false]
    have F : Calls Try.prog 27 #[.slice a1 xs.length c1, .slice a2 zs.length c2, .float .f32 c] w fun e w' => e = .returned (.tuple #[.float .f32 0, .slice none 0 0, .bool false]) ∧ w = w' := by
      clear hb
      go_enter Try.func27, Try.ntmps27
      go_wp2_with fail
      refine (C.out _).mono ?_
      rintro e w1 ⟨rfl, rfl⟩
      go_wp2
      go_ret3
      exact ⟨rfl, rfl⟩
    refine F.mono fun e w' ⟨he, hw⟩ => ?_
    subst hw
    exact ⟨0, none, 0, 0, [], false, he, cn_zero, RepF.nil _ _ _, rfl, by omega, rfl, Below.refl _ _⟩
  · simp only [if_true]
    exact (impl_LossHuber_yes w a1 c1 xs h1 a2 c2 zs h2 c hb).mono fun e w' ⟨r, ad, n, cap, ys, he, hx⟩ => ⟨r, ad, n, cap, ys, true, he, hx.1, hx.2.1, hx.2.2.1, hx.2.2.2.1, rfl, hx.2.2.2.2⟩
end Go.Proofs.Ytnhikdjljjemlaa
/- What square roots, copies of lists and gradients that are not too long are. No condition. -/
namespace Go.Proofs.Ytnhikdjljjemlaa
open Go Go.RowKit Ieee
set_option linter.unusedVariables false
set_option linter.unusedSimpArgs false
theorem RepF.nilcap {w : World} {lo hi : Nat} {ad : Option Addr} {n cap : Nat} {xs : List Nat} (h : RepF w lo hi ad n cap xs) : ad = none → cap = 0 := by
  intro e
  subst e
  rcases h.row.own.2 with ⟨h1, _⟩ | ⟨g, cap', cur, h1, _⟩
  · cases h1; rfl
  · cases h1
/-- a whole list is appended to a row of the call's own -/
theorem wp_cat {P : Program} {ops : Array Oper} {rest : List Oper} {o : Oper} {a : Act} {Q : Exit → Act → World → Prop} {e : TypeId} {W : World} (hgd : o.guard = none) (s x : Operand) (t : TypeId)
    (ho : o.op = .call { callee := .builtin .append, args := #[s, x], argTypes := #[t, t] })
    (base : Nat) (i : TypeInfo) (z : Value) (bytes : Nat) (ht : P.underlying t = some (.slice e)) (hi : P.info? e = some i) (hz : i.zero = some z)
    (hsize : i.size = 1) (hby : i.bytes = bytes) (hzs : z.cells.size = 1)
    (v : Value) (n : Nat) (xs : List Value) (hs : a.eval s = v) (hown : W.ownsRow base e 1 v n xs)
    (ad : Option Addr) (m c : Nat) (news : List Value) (hx : a.eval x = .slice ad m c) (hn : ad = none → c = 0) (hl : news.length = m) (hr : Rd W ad news) (h1 : ∀ u ∈ news, u.oneCell' = true)
    (h63 : n + m ≤ maxLen) (hbytes : (n + m) * bytes ≤ 140737488355328) (hbase : base ≤ W.heap.size)
    (h : ∀ v' w', w'.ownsRow base e 1 v' (n + m) (xs ++ news) → Below base W w' → base ≤ w'.heap.size → wpList P ops Q rest (a.put o.dst v') w') : wpList P ops Q (o :: rest) a W := by
  cases ad with
  | none =>
    obtain rfl := hn rfl
    have h0 : news = [] := by
      rcases hr with hr | ⟨b, off, hb, _⟩
      · exact hr
      · cases hb
    subst h0
    obtain rfl : m = 0 := hl.symm
    exact wpList_append_own_none hgd s x t ho base e i 1 ht hi v n xs hs hown hx (h v W (by simpa using hown) (Below.refl _ _) hbase)
  | some p =>
    refine wpList_append_own W hgd s x t ho base e i z 1 bytes ht hi hz hsize hby hzs (by decide) v n xs hs hown p m c news hx (by omega) ?_ h1 h63 hbytes hbase ?_
    · intro j u hj
      rcases hr with hr | ⟨b, off, hb, _, hc⟩
      · rw [hr] at hj; cases hj
      · cases hb
        have hlt : j < news.length := (List.getElem?_eq_some_iff.1 hj).1
        rw [Addr.add_lit]; exact (hc j hlt).trans hj
    · intro v' w' h2 hg _
      refine h v' w' h2 ((Below.refl _ _).grown hg hbase (fun j hj => (hown.lt j hj).1)) (Nat.le_trans hbase hg.size)
theorem run_sqrt_ext (x : Nat) (w : World) : (callFunc 117 #[.float .f64 x]).run Try.prog w = .ok (.value (.float .f64 (sqbits x w))) (w.drewN (sqdr x)) := by
  rw [run_callFunc_extern (show Try.prog.funcs[117]? = some Try.f117 by kernel_rfl) (by kernel_rfl) (by kernel_rfl) (by kernel_rfl) (e := Extern.MathSqrt.sqrt) (by kernel_rfl), run_sqrt]
  rfl
theorem math_Sqrt (x : Nat) (w : World) : Calls Try.prog 114 #[.float .f64 x] w fun e w' => e = .returned (.float .f64 (sqbits x w)) ∧ w' = w.drewN (sqdr x) := by
  have hd := run_sqrt_ext
  go_enter Try.func114, Try.ntmps114
  go_wp2
  go_ret
  exact ⟨rfl, rfl⟩
theorem impl_RootNumber (x : Nat) (hx : x < 4294967296) (w : World) : Calls Try.prog 109 #[.float .f32 x] w fun e w' => ∃ r, e = .returned (.float .f32 r) ∧ Hid (cn .f32 r = rootE (cn .f32 x) ∧ r < 4294967296) ∧ Dr w w' := by
  have ha := fun w1 w2 w3 => cn_root hx w1 w2 w3
  have HA := Lib.hid ha; clear ha
  go_enter Try.func109, Try.ntmps109
  go_wp2_with (go_at_call 114; refine (math_Sqrt _ _).mono ?_; rintro e w' ⟨rfl, rfl⟩)
  go_ret
  exact ⟨_, rfl, Lib.hid (HA.out _ _ _), _, rfl⟩
set_option maxRecDepth 100000 in
theorem slices_Clone (w : World) (ad : Option Addr) (cap : Nat) (xs : List Nat) (h : F32s w ad cap xs) (hc : ad = none → cap = 0) (hn : xs.length ≤ 1048576) :
    Calls Try.prog 98 #[.slice ad xs.length cap] w fun e w' => ∃ (v : Value), e = .returned v ∧ w'.ownsRow w.heap.size 24 1 v xs.length (xs.map (Value.float .f32)) ∧ Below w.heap.size w w' := by
  obtain ⟨i0, hi, hz0, hz1, hz2⟩ := info_parts info_f32
  obtain ⟨n, hN⟩ : ∃ n, n = xs.length := ⟨_, rfl⟩
  have hr := h.rd
  have h1 : ∀ u ∈ xs.map (Value.float .f32), u.oneCell' = true := by intro u hu; obtain ⟨x, _, rfl⟩ := List.mem_map.1 hu; rfl
  have hl : (xs.map (Value.float .f32)).length = n := by rw [List.length_map, hN]
  rw [← hN] at hn ⊢
  have HL := Lib.hid hl; clear hN hl h
  cases ad with
  | none =>
    obtain rfl := hc rfl
    have h0 : xs = [] := by
      rcases hr with hr | ⟨b, off, hb, _⟩
      · simpa using hr
      · cases hb
    subst h0
    obtain rfl : n = 0 := HL.out.symm
    have he : ∀ w : World, (binOp .eql 29 (.slice none 0 0) (.slice none 0 0)).run Try.prog w = .ok (.bool true) w := fun _ => rfl
    go_enter Try.func98, Try.ntmps98
    go_wp2
    go_ret
    exact ⟨_, rfl, World.ownsRow_nil _ _ _ _, Below.refl _ _⟩
  | some p =>
    have he : ∀ w : World, (binOp .eql 29 (.slice (some p) n cap) (.slice none 0 0)).run Try.prog w = .ok (.bool false) w := fun _ => rfl
    go_enter Try.func98, Try.ntmps98
    go_wp2_with (at_builtin; refine wp_cat rfl _ _ 29 rfl w.heap.size i0 (.float .f32 0) 4 Try.underlying29 hi hz0 hz1 hz2 rfl _ 0 [] rfl (World.ownsRow_made _ _ _ (Nat.le_refl _) (Nat.zero_le _) rfl) (some p) n cap _ rfl (fun h => nomatch h) HL.out (hr.below (below1 _ _) (Nat.le_refl _)) h1 ?c3 ?c4 ?c5 ?_)
    case c3 => unfold maxLen; omega
    case c4 => omega
    case c5 => simp
    intro v' w9 hown1 hb1 hbs1
    go_wp2
    go_ret
    exact ⟨_, rfl, by simpa using hown1, (below1 _ _).trans hb1⟩
def gtC (a c : Nat) : Bool := FloatKind.f32.format.order a c == some .gt
theorem gtC_at {r a c : Nat} (h : cn .f32 r = a) : gtC r c = gtC a c := by
  unfold gtC
  rw [← order_cn .f32 r c, ← order_cn .f32 a c, h, ← h, cn_cn]
def clR (X : List Nat) (n : Nat) : Nat := rootE (dotS X X n)
def clG (c : Nat) (X : List Nat) (n i : Nat) : Nat := fop .mul .f32 (X.getD i 0) (fop .quo .f32 (cn .f32 c) (clR X n))
def clY (c : Nat) (X : List Nat) (n : Nat) : List Nat := if gtC (clR X n) c = true then listOf n (clG c X n) else X
theorem eq_listOf (X : List Nat) : X = listOf X.length (fun i => X.getD i 0) := by
  apply List.ext_getElem
  · simp [listOf]
  · intro i h1 h2
    simp [listOf, h1]
end Go.Proofs.Ytnhikdjljjemlaa
/- What tests of slots and copies of them do. No condition. -/
namespace Go.Proofs.Ytnhikdjljjemlaa
open Go Go.RowKit
set_option linter.unusedVariables false
set_option linter.unusedSimpArgs false
/-- is a list of rows the slots of an optimiser -/
def otherLen (n : Nat) (X : List Nat) : Bool := !decide (X.length = n)
def fitB (k : Int) (Xs : List (List Nat)) (n : Nat) : Bool := decide (Xs.length = slotsN k) && !Xs.any (otherLen n)
theorem fit_iff {k : Int} {Xs : List (List Nat)} {n : Nat} : fitB k Xs n = true ↔ Xs.length = slotsN k ∧ ∀ i, i < Xs.length → (Xs.getD i []).length = n := by
  unfold fitB otherLen
  rw [Bool.and_eq_true, decide_eq_true_eq]
  refine and_congr_right fun _ => ?_
  rw [Bool.not_eq_true', List.any_eq_false]
  constructor
  · intro h i hi
    have := h (Xs[i]) (List.getElem_mem hi)
    rw [List.getD_eq_getElem?_getD, List.getElem?_eq_getElem hi]
    simpa using this
  · intro h X hX
    obtain ⟨i, hi, rfl⟩ := List.getElem_of_mem hX
    have := h i hi
    rw [List.getD_eq_getElem?_getD, List.getElem?_eq_getElem hi] at this
    simpa using this
def IdxAnyF (p : List Nat → Bool) (Xs : List (List Nat)) (w : World) (e : Ending) (w' : World) : Prop := ∃ i : Int, e = .returned (.int .i64 i) ∧ decide (0 ≤ i) = Xs.any p ∧ w = w'
theorem idx_anyF (w : World) (ad : Option Addr) (cap : Nat) (vs : List Value) (Xs : List (List Nat)) (h : SeeFF w ad cap vs Xs) (hn : Xs.length ≤ 1048576) (G : Nat) (caps : Array Value) (p : List Nat → Bool) (hG : ∀ (args : Array Value) (W : World), (callFunc G args).run Try.prog W = .ok (.enter G args) W)
    (hcl : ∀ (ai : Option Addr) (ci : Nat) (X : List Nat), Calls Try.prog G (#[.slice ai X.length ci] ++ caps) w fun e w' => e = .returned (.bool (p X)) ∧ w = w') :
    Calls Try.prog 97 #[.slice ad Xs.length cap, .func (.func G) #[] caps] w (IdxAnyF p Xs w) := by
  obtain ⟨n, hN⟩ : ∃ n, n = Xs.length := ⟨_, rfl⟩
  rw [← hN] at hn ⊢
  have HN := Lib.hid hN; have HCL := Lib.hid hcl; clear hN hcl
  go_enter Try.func97, Try.ntmps97
  go_wp2
  go_loop [8] (fun i => ∃ k : Nat, i = .int .i64 k ∧ k ≤ n ∧ (Xs.take k).any p = false) (fun i => n - (intOf i).toNat)
  case atStart => exact ⟨0, rfl, Nat.zero_le _, rfl⟩
  case round =>
    obtain ⟨k, rfl, hk, hno⟩ := hrel
    have HO := Lib.hid hno; clear hno
    by_cases hlt : k < n
    · have hkx : k < Xs.length := by rw [← HN.out]; exact hlt
      obtain ⟨b, off, ai, ci, rfl, _, hc, hf⟩ := h.spot hkx
      obtain ⟨x, hx⟩ : ∃ x, x = Xs.getD k [] := ⟨_, rfl⟩
      rw [← hx] at hc
      have k1 := HCL.out ai ci x
      obtain ⟨m, hm⟩ : ∃ m, m = x.length := ⟨_, rfl⟩
      rw [← hm] at hc k1
      have HX := Lib.hid hx; have K1 := Lib.hid k1; clear hx k1 hf hm
      cases hb : p x
      · have HB := Lib.hid hb
        go_wp2_with fail
        refine K1.out.mono ?_
        rintro e w' ⟨rfl, rfl⟩
        go_wp2
        go_round
        case rel =>
          refine ⟨k + 1, by go_num, hlt, ?_⟩
          rw [List.take_succ_eq_append_getElem hkx, List.any_append, HO.out]
          have : Xs[k] = x := by rw [HX.out, List.getD_eq_getElem?_getD, List.getElem?_eq_getElem hkx]; rfl
          simp [this, hb]
        case measure => simp [intOf]; omega
      · have HB := Lib.hid hb
        go_wp2_with fail
        refine K1.out.mono ?_
        rintro e w' ⟨rfl, rfl⟩
        go_wp2
        go_ret
        refine ⟨k, rfl, ?_, rfl⟩
        have : (Xs.any p) = true := by
          rw [List.any_eq_true]
          exact ⟨Xs.getD k [], by rw [List.getD_eq_getElem?_getD, List.getElem?_eq_getElem hkx]; exact List.getElem_mem hkx, by rw [← HX.out, hb]⟩
        rw [this]; simp
    · have hkn : k = n := by omega
      subst hkn
      go_wp2
      go_ret
      refine ⟨-1, rfl, ?_, rfl⟩
      have := HO.out
      rw [HN.out, List.take_length] at this
      rw [this]; rfl
theorem contains_anyF (w : World) (ad : Option Addr) (cap : Nat) (vs : List Value) (Xs : List (List Nat)) (h : SeeFF w ad cap vs Xs) (hn : Xs.length ≤ 1048576) (G : Nat) (caps : Array Value) (p : List Nat → Bool) (hG : ∀ (args : Array Value) (W : World), (callFunc G args).run Try.prog W = .ok (.enter G args) W)
    (hcl : ∀ (ai : Option Addr) (ci : Nat) (X : List Nat), Calls Try.prog G (#[.slice ai X.length ci] ++ caps) w fun e w' => e = .returned (.bool (p X)) ∧ w = w') :
    Calls Try.prog 77 #[.slice ad Xs.length cap, .func (.func G) #[] caps] w fun e w' => e = .returned (.bool (Xs.any p)) ∧ w = w' := by
  have hc := idx_anyF w ad cap vs Xs h hn G caps p hG hcl
  have HC := Lib.hid hc; clear hc hcl hG
  go_enter Try.func77, Try.ntmps77
  go_wp2_with fail
  refine HC.out.mono ?_
  rintro e w' ⟨i, rfl, hi, rfl⟩
  have HI := Lib.hid hi; clear hi
  go_wp2
  go_ret
  exact ⟨by rw [← HI.out]; rfl, rfl⟩
theorem areSlots_fn (w : World) (g : Nat) (n : Nat) (h : w.cell? ⟨g, 0, none⟩ = some (.int .i64 n)) (hn : n ≤ maxLen) (ai : Option Addr) (ci : Nat) (X : List Nat) : Calls Try.prog 78 (#[.slice ai X.length ci] ++ #[.pointer (some ⟨g, 0, none⟩)]) w fun e w' => e = .returned (.bool (otherLen n X)) ∧ w = w' := by
  obtain ⟨m, hm⟩ : ∃ m, m = X.length := ⟨_, rfl⟩
  unfold otherLen
  rw [← hm]
  clear hm
  by_cases e : m = n
  · subst e
    rw [decide_eq_true rfl]
    go_enter Try.func78, Try.ntmps78
    go_wp2
    go_ret
    exact ⟨by simp, rfl⟩
  · have h1 : decide (m = n) = false := decide_eq_false e
    have h2 : ((m : Int) == (n : Int)) = false := by simpa using (by omega : ¬ (m : Int) = n)
    have h3 : (!((m : Int) == (n : Int))) = true := by rw [h2]; rfl
    rw [h1]
    clear e h1
    go_enter Try.func78, Try.ntmps78
    go_wp2
    go_ret
    exact ⟨congrArg (fun b => Ending.returned (Value.bool b)) h3, rfl⟩
theorem areSlots_run : ∀ (args : Array Value) (W : World), (callFunc 78 args).run Try.prog W = .ok (.enter 78 args) W := fun args W => by kernel_rfl
theorem impl_areSlots (w : World) (k : Int) (r b1 b2 ep : Nat) (ad : Option Addr) (cap : Nat) (vs : List Value) (Xs : List (List Nat)) (h : SeeFF w ad cap vs Xs) (hx : Xs.length ≤ 1048576) (n : Nat) (hn : n ≤ 1048576) :
    Calls Try.prog 42 #[.agg #[.int .i64 k, .float .f32 r, .float .f32 b1, .float .f32 b2, .float .f32 ep], .slice ad Xs.length cap, .int .i64 n] w fun e w' => e = .returned (.bool (fitB k Xs n)) ∧ Below w.heap.size w w' := by
  have k3 := fun W => impl_slots k r b1 b2 ep W
  have k4 := fun W g (hg : W.cell? ⟨g, 0, none⟩ = some (.int .i64 n)) (hW : SeeFF W ad cap vs Xs) => contains_anyF W ad cap vs Xs hW hx 78 #[.pointer (some ⟨g, 0, none⟩)] (otherLen n) areSlots_run (fun ai ci X => areSlots_fn W g n hg (by unfold maxLen; omega) ai ci X)
  have hsl := slotsN_le k
  unfold fitB
  obtain ⟨S, hS⟩ : ∃ S, S = slotsN k := ⟨_, rfl⟩
  rw [← hS] at k3 hsl ⊢
  obtain ⟨R, hR⟩ : ∃ R, R = Xs.any (otherLen n) := ⟨_, rfl⟩
  rw [← hR] at k4 ⊢
  obtain ⟨x, hX⟩ : ∃ x, x = Xs.length := ⟨_, rfl⟩
  rw [← hX] at k4 hx ⊢
  have H := Lib.hid h; have K3 := Lib.hid k3; have K4 := Lib.hid k4
  clear h k3 k4 hS hR hX
  by_cases e : x = S
  · subst e
    rw [decide_eq_true rfl]
    go_enter Try.func42, Try.ntmps42
    go_wp2_with fail
    refine (K3.out _).mono ?_
    rintro e w1 ⟨rfl, hb1⟩
    have hb2 := ((below1 w _).trans ((below1 (w.alloc _) _).mono (by simp))).trans (hb1.mono (by simp; omega))
    obtain ⟨q1, q2, q3⟩ := bkeep (w.heap.size + 1) hb1 (by simp)
    have hc : w1.cell? ⟨w.heap.size + 1, 0, none⟩ = some (.int .i64 n) := by
      rw [q1 0]
      exact World.cell?_alloc_at _ _ _ _ (by simp)
    have HC := Lib.hid hc; have HB := Lib.hid hb2
    clear hc hb2 q1 q2 q3 hb1
    go_wp2_with fail
    refine (K4.out _ _ HC.out (H.out.below HB.out)).mono ?_
    rintro e w2 ⟨rfl, rfl⟩
    go_wp2
    go_ret
    exact ⟨by simp, HB.out⟩
  · have h2 : ((x : Int) == (S : Int)) = false := by simpa using (by omega : ¬ (x : Int) = S)
    rw [decide_eq_false e]
    clear e
    go_enter Try.func42, Try.ntmps42
    go_wp2_with fail
    refine (K3.out _).mono ?_
    rintro e w1 ⟨rfl, hb1⟩
    have hb2 := ((below1 w _).trans ((below1 (w.alloc _) _).mono (by simp))).trans (hb1.mono (by simp; omega))
    have HB := Lib.hid hb2
    clear hb2 hb1
    go_wp2
    go_ret
    exact ⟨by simp, HB.out⟩
set_option maxHeartbeats 2000000 in
theorem impl_copyLists (w : World) {lo hi : Nat} (ad : Option Addr) (n cap : Nat) (vs : List Value) (Xs : List (List Nat)) (h : RepFF w lo hi ad n cap vs Xs) (hn : n ≤ 1048576) (hi2 : ∀ i, i < n → (Xs.getD i []).length ≤ 1048576) :
    Calls Try.prog 80 #[.slice ad n cap] w fun e w' => ∃ ad' cap' us, e = .returned (.slice ad' n cap') ∧ RepFF w' w.heap.size w'.heap.size ad' n cap' us Xs ∧ Below w.heap.size w w' := by
  obtain ⟨j0, hj2, hy0, hy1, hy2⟩ := info_parts info_f32s
  have H := Lib.hid h; have HI2 := Lib.hid hi2; clear h hi2
  go_enter Try.func80, Try.ntmps80
  go_wp2_with (at_make; refine wpList_make_full _ rfl _ _ 31 rfl w.heap.size 29 j0 (.slice none 0 0) 1 Try.underlying31 hj2 hy0 hy1 .i64 .i64 _ _ n rfl rfl rfl rfl ?c1 ?c2 ?c3 ?_)
  case c1 => rw [hy2]; omega
  case c2 => unfold maxLen; omega
  case c3 => exact Nat.le_refl _
  intro w1 hown hg
  have hb1 : Below w.heap.size w w1 := (Below.refl _ _).grown hg (Nat.le_refl _) (fun k e => by cases e)
  have hR := RepFF.made hown
  have HR := Lib.hid hR
  clear hg hown hR
  go_wp2
  go_loopw [10] (fun i wr => ∃ k : Nat, i = .int .i64 k ∧ k ≤ n ∧ ∃ us Ys, RepFF wr w.heap.size wr.heap.size (some ⟨w.heap.size, 0, none⟩) n n us Ys ∧ Ys.take k = Xs.take k ∧ Below w.heap.size w wr) (fun i _ => n - (intOf i).toNat)
  case atStart => exact ⟨0, rfl, Nat.zero_le _, _, _, HR.out, rfl, hb1⟩
  case round =>
    clear hb1 HR
    obtain ⟨k, rfl, hk, us, Ys, hr, htk, hb⟩ := hrel
    have HR := Lib.hid hr; have HT := Lib.hid htk; clear hr htk
    by_cases hlt : k < n
    · have hkx : k < Xs.length := by rw [H.out.len]; exact hlt
      obtain ⟨ai, ci, hvk, hfo⟩ := H.out.inn k hlt
      obtain ⟨b, rfl, _, hbl, hgc, _⟩ := H.out.addr (by omega)
      have hgk := hgc k hlt
      rw [hvk] at hgk
      have hcell : wr.cell? ⟨b, k, none⟩ = some (.slice ai (Xs.getD k []).length ci) := (hb.cell (p := ⟨b, k, none⟩) hbl).trans hgk
      have hf2 := hfo.below hb
      have hnil := hf2.nilcap
      obtain ⟨X, hX⟩ : ∃ X, X = Xs.getD k [] := ⟨_, rfl⟩
      have hi3 := HI2.out k hlt
      rw [← hX] at hcell hf2 hi3
      have hlt4 := hf2.lt
      have k1 := fun W hW => slices_Clone W ai ci X hW hnil hi3
      have hfa := hf2.arg
      obtain ⟨m, hm⟩ : ∃ m, m = X.length := ⟨_, rfl⟩
      rw [← hm] at hcell k1
      have hbsz : b < wr.heap.size := Nat.lt_of_lt_of_le hbl hb.size
      have HX := Lib.hid hX; have K1 := Lib.hid k1; have HFA := Lib.hid hfa; have HB := Lib.hid hb; have HL4 := Lib.hid hlt4
      clear hX k1 hm hf2 hi3 hb hgc hgk hvk hfo hfa hlt4 hnil
      go_wp2_with fail
      refine (K1.out _ HFA.out).mono ?_
      rintro e w2 ⟨v2, rfl, ho2, hb2⟩
      obtain ⟨a2, c2, rfl, hr2⟩ := RepF.of_owns ho2 HL4.out
      have hR1 := HR.out.below hb2
      obtain ⟨g, eg, hlo, hgs, hgc, hgf⟩ := hR1.addr (by omega)
      cases eg
      have hc2 := hgc k hlt
      have hf2 := hgf k
      have hset := RepFF.setRow HR.out hb2 hlt hr2
      have hbb : Below w.heap.size w (w2.setCell ⟨w.heap.size, k, none⟩ (.slice a2 m c2)) := (HB.out.trans (hb2.mono HB.out.size)).setCell (Nat.le_refl _) _
      have HS := Lib.hid hset; have HBB := Lib.hid hbb
      clear hset hbb hR1 hgc hgf hb2 hr2 ho2
      go_wp2
      go_roundw
      case rel =>
        refine ⟨k + 1, by go_num, hlt, _, _, HS.out.bounds (Nat.le_refl _) (by simp [World.setCell]), take_set_next HT.out (by rw [HR.out.len]; exact hlt) ?_, HBB.out⟩
        rw [HX.out, List.getD_eq_getElem?_getD, List.getElem?_eq_getElem hkx]; rfl
      case measure => simp [intOf]; omega
    · have hkn : k = n := by omega
      subst hkn
      go_wp2
      go_ret
      refine ⟨_, _, us, rfl, ?_, hb⟩
      have e1 := HT.out
      rw [List.take_of_length_le (by rw [HR.out.len]; exact Nat.le_refl _), List.take_of_length_le (by rw [H.out.len]; exact Nat.le_refl _)] at e1
      rw [← e1]
      exact HR.out
end Go.Proofs.Ytnhikdjljjemlaa
/- What the rate of a step and a power compute. No condition. -/
namespace Go.Proofs.Ytnhikdjljjemlaa
open Go Go.RowKit
set_option linter.unusedVariables false
def two32 : Nat := 1073741824
/-- halved so many times -/
def halves : Nat → Nat → Nat
  | 0, x => x
  | n + 1, x => fop .quo .f32 (halves n x) 1073741824
def powF (b : Nat) : Nat → Nat
  | 0 => 1065353216
  | n + 1 => fop .mul .f32 (powF b n) b
def rateF (b : Nat) (warm half step : Int) : Nat :=
  if step < warm then fop .quo .f32 (fop .mul .f32 b (floatOfInt .f32 (step + 1))) (floatOfInt .f32 warm) else halves ((step - warm) / half).toNat b
theorem cn_two32 : cn .f32 1073741824 = 1073741824 := by decide +kernel
theorem cn_one32 : cn .f32 1065353216 = 1065353216 := by decide +kernel
theorem cn_zero32 : cn .f32 0 = 0 := by decide +kernel
theorem impl_power (b : Nat) (n : Int) (w : World) (h0 : 0 ≤ n) (h1 : n ≤ 1001) :
    Calls Try.prog 79 #[.float .f32 b, .int .i64 n] w fun e w' => ∃ r, e = .returned (.float .f32 r) ∧ cn .f32 r = powF (cn .f32 b) n.toNat ∧ Dr w w' := by
  obtain ⟨m, rfl⟩ : ∃ m : Nat, n = m := ⟨n.toNat, by omega⟩
  go_enter Try.func79, Try.ntmps79
  go_wp2
  go_loopw [5, 7] (fun v i wr => ∃ k : Nat, i = .int .i64 k ∧ k ≤ m ∧ ∃ r, v = .float .f32 r ∧ cn .f32 r = powF (cn .f32 b) k ∧ Dr w wr) (fun _ i _ => m - (intOf i).toNat)
  case atStart => exact ⟨0, rfl, Nat.zero_le _, _, rfl, cn_one32, Dr.refl _⟩
  case round =>
    obtain ⟨k, rfl, hk, r, rfl, hr, m', rfl⟩ := hrel
    have HR : Hid (cn .f32 r = powF (cn .f32 b) k) := hr
    clear hr
    by_cases hlt : k < m
    · go_wp2
      go_roundw
      case rel => exact ⟨k + 1, by go_num, hlt, _, rfl, by rw [cn_fbits, HR.out]; rfl, _, rfl⟩
      case measure => simp [intOf]; omega
    · go_wp2
      go_ret
      refine ⟨_, rfl, ?_, _, rfl⟩
      rw [HR.out]
      congr 1
      simp; omega
end Go.Proofs.Ytnhikdjljjemlaa
