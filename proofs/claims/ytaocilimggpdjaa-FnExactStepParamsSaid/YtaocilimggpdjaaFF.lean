/- What comparing, marking slices of slices of numbers does. No condition. -/
import Derived.Test.YtaocilimggpdjaaSlI
import Derived.Test.YtaocilimggpdjaaLab
namespace Go.Proofs.Ytaocilimggpdjaa
open Go Go.RowKit
set_option linter.unusedVariables false
set_option linter.unusedSimpArgs false
theorem info_f32s : (Try.prog.info? 25).map (fun i => (i.zero, i.size, i.bytes)) = some (some (.slice none 0 0), 1, 24) := by kernel_rfl
/-- a slice of slices of 32-bit numbers that is read -/
structure SeeFF (w : World) (ad : Option Addr) (cap : Nat) (vs : List Value) (Xs : List (List Nat)) : Prop where
  len : vs.length = Xs.length
  le : vs.length ≤ cap
  cap : cap ≤ maxLen
  rd : Rd w ad vs
  inn : ∀ i, i < Xs.length → ∃ ai ci, vs.getD i (.slice none 0 0) = .slice ai (Xs.getD i []).length ci ∧ F32s w ai ci (Xs.getD i [])
theorem SeeFF.below {w w' : World} {ad : Option Addr} {cap : Nat} {vs : List Value} {Xs : List (List Nat)} (h : SeeFF w ad cap vs Xs) (hb : Below w.heap.size w w') : SeeFF w' ad cap vs Xs :=
  ⟨h.len, h.le, h.cap, h.rd.below hb (Nat.le_refl _), fun i hi => by obtain ⟨ai, ci, e, hf⟩ := h.inn i hi; exact ⟨ai, ci, e, hf.below hb⟩⟩
theorem SeeFF.spot {w : World} {ad : Option Addr} {cap : Nat} {vs : List Value} {Xs : List (List Nat)} (h : SeeFF w ad cap vs Xs) {k : Nat} (hk : k < Xs.length) :
    ∃ b off ai ci, ad = some ⟨b, off, none⟩ ∧ b < w.heap.size ∧ w.cell? ⟨b, off + k, none⟩ = some (.slice ai (Xs.getD k []).length ci) ∧ F32s w ai ci (Xs.getD k []) := by
  obtain ⟨b, off, e, hb, hc⟩ := h.rd.spot (i := k) (by rw [h.len]; exact hk)
  obtain ⟨ai, ci, e2, hf⟩ := h.inn k hk
  refine ⟨b, off, ai, ci, e, hb, ?_, hf⟩
  rw [hc k (by rw [h.len]; exact hk)]
  rw [List.getD_eq_getElem?_getD, List.getElem?_eq_getElem (by rw [h.len]; exact hk)] at e2
  rw [List.getElem?_eq_getElem (by rw [h.len]; exact hk)]
  simpa using e2
/-- a slice of slices of 32-bit numbers that the call owns -/
structure RepFF (w : World) (lo hi : Nat) (ad : Option Addr) (n cap : Nat) (vs : List Value) (Xs : List (List Nat)) : Prop where
  row : Row w 25 1 lo hi (.slice ad n cap) n vs
  len : Xs.length = n
  inn : ∀ i, i < n → ∃ ai ci, vs.getD i (.slice none 0 0) = .slice ai (Xs.getD i []).length ci ∧ RepF w lo hi ai (Xs.getD i []).length ci (Xs.getD i [])
  sep : ∀ i j, i < n → j < n → i ≠ j → ∀ g, (vs.getD i (.slice none 0 0)).ownBlock = some g → (vs.getD j (.slice none 0 0)).ownBlock ≠ some g
theorem RepFF.vlen {w : World} {lo hi : Nat} {ad : Option Addr} {n cap : Nat} {vs : List Value} {Xs : List (List Nat)} (h : RepFF w lo hi ad n cap vs Xs) : vs.length = n := by have := h.row.own.1; omega
theorem RepFF.see {w : World} {lo hi : Nat} {ad : Option Addr} {n cap : Nat} {vs : List Value} {Xs : List (List Nat)} (h : RepFF w lo hi ad n cap vs Xs) : SeeFF w ad cap vs Xs := by
  obtain ⟨ad', cap', e1, e2, e3, e4, _⟩ := Rd.of_owns h.row.own
  cases e1
  have hv := h.vlen
  exact ⟨by rw [hv, h.len], by omega, e3, e4, fun i hi => by obtain ⟨ai, ci, e, hf⟩ := h.inn i (by rw [← h.len]; exact hi); exact ⟨ai, ci, e, hf.arg⟩⟩
theorem RepFF.below {w w' : World} {lo hi : Nat} {ad : Option Addr} {n cap : Nat} {vs : List Value} {Xs : List (List Nat)} (h : RepFF w lo hi ad n cap vs Xs) (hb : Below w.heap.size w w') : RepFF w' lo hi ad n cap vs Xs :=
  ⟨h.row.below hb, h.len, fun i hi => by obtain ⟨ai, ci, e, hf⟩ := h.inn i hi; exact ⟨ai, ci, e, hf.below hb⟩, h.sep⟩
theorem RepFF.touch {w w' : World} {lo hi lo2 hi2 : Nat} {ad : Option Addr} {n cap : Nat} {vs : List Value} {Xs : List (List Nat)} (h : RepFF w lo hi ad n cap vs Xs) (ht : Touch lo2 hi2 w w') (hd : hi ≤ lo2 ∨ hi2 ≤ lo) : RepFF w' lo hi ad n cap vs Xs :=
  ⟨h.row.touch ht hd, h.len, fun i hi => by obtain ⟨ai, ci, e, hf⟩ := h.inn i hi; exact ⟨ai, ci, e, hf.touch ht hd⟩, h.sep⟩
theorem RepFF.bounds {w : World} {lo hi lo' hi' : Nat} {ad : Option Addr} {n cap : Nat} {vs : List Value} {Xs : List (List Nat)} (h : RepFF w lo hi ad n cap vs Xs) (h1 : lo' ≤ lo) (h2 : hi ≤ hi') : RepFF w lo' hi' ad n cap vs Xs :=
  ⟨h.row.bounds h1 h2, h.len, fun i hi => by obtain ⟨ai, ci, e, hf⟩ := h.inn i hi; exact ⟨ai, ci, e, hf.bounds h1 h2⟩, h.sep⟩
theorem RepFF.nil (w : World) (lo hi : Nat) : RepFF w lo hi none 0 0 [] [] := ⟨Row.nil _ _ _ _, rfl, fun i hi => by omega, fun i j hi => by omega⟩
/-- another block is written -/
theorem RepF.grown {w w' : World} {lo hi : Nat} {ad : Option Addr} {n cap : Nat} {xs : List Nat} {ob : Option Nat} (h : RepF w lo hi ad n cap xs) (hg : w.grownBy w' ob) (hd : ∀ g, (Value.slice ad n cap).ownBlock = some g → ob ≠ some g) : RepF w' lo hi ad n cap xs :=
  ⟨⟨h.row.own.kept hg (by
    cases e : (Value.slice ad n cap).ownBlock with
    | none => exact .inl rfl
    | some g => exact .inr (fun e2 => hd g e e2.symm)), h.row.top⟩, h.len, h.lt⟩
theorem ownBlock_some {ad : Option Addr} {n cap g : Nat} (h : (Value.slice ad n cap).ownBlock = some g) : ∃ off s, ad = some ⟨g, off, s⟩ := by
  cases ad with
  | none => cases h
  | some a => obtain ⟨b, off, s⟩ := a; cases h; exact ⟨off, s, rfl⟩
/-- the outer row and an inner one lie in blocks of different kinds -/
theorem row_kinds {w : World} {e e2 : TypeId} {s s2 lo hi lo2 hi2 n n2 : Nat} {v v2 : Value} {cs cs2 : List Value} (h : Row w e s lo hi v n cs) (h2 : Row w e2 s2 lo2 hi2 v2 n2 cs2) (hne : e ≠ e2) : ∀ g, v.ownBlock = some g → v2.ownBlock ≠ some g := by
  intro g hg hg2
  rcases h.own.2 with ⟨h3, _⟩ | ⟨g', cap, cur, hv, _, hh, r⟩
  · rw [h3] at hg; cases hg
  · rcases h2.own.2 with ⟨h3, _⟩ | ⟨g2', cap2, cur2, hv2, _, hh2, r2⟩
    · rw [h3] at hg2; cases hg2
    · rw [hv] at hg; rw [hv2] at hg2
      cases hg; cases hg2
      rw [hh] at hh2
      cases hh2
      exact hne rfl
end Go.Proofs.Ytaocilimggpdjaa
