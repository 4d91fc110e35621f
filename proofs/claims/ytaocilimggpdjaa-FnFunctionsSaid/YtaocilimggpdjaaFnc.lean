/- The functions at the numbers that the law draws: contracts. No condition. -/
import Derived.Test.YtaocilimggpdjaaTan
import Derived.Test.YtaocilimggpdjaaFt0
import Derived.Test.YtaocilimggpdjaaFt1
import Derived.Test.YtaocilimggpdjaaFt2
import Derived.Test.YtaocilimggpdjaaFt3
import Derived.Test.YtaocilimggpdjaaFt4
import Derived.Test.YtaocilimggpdjaaFt5
import Derived.Test.YtaocilimggpdjaaKey
namespace Go.Proofs.Ytaocilimggpdjaa
open Go Go.RowKit Ieee
set_option linter.unusedVariables false
set_option linter.unusedSimpArgs false
set_option maxRecDepth 100000
def tab : List FRow := tab0 ++ tab1 ++ tab2 ++ tab3 ++ tab4 ++ tab5
theorem tab_all : ∀ p ∈ tab, rowB p = true ∧ okB p = true := by
  have h0 := tab0_ok; have h1 := tab1_ok; have h2 := tab2_ok; have h3 := tab3_ok; have h4 := tab4_ok; have h5 := tab5_ok
  simp only [Bool.and_eq_true, List.all_eq_true] at h0 h1 h2 h3 h4 h5
  intro p hp
  unfold tab at hp
  simp only [List.mem_append] at hp
  rcases hp with ((((hp | hp) | hp) | hp) | hp) | hp
  · exact ⟨h0.1 p hp, h0.2 p hp⟩
  · exact ⟨h1.1 p hp, h1.2 p hp⟩
  · exact ⟨h2.1 p hp, h2.2 p hp⟩
  · exact ⟨h3.1 p hp, h3.2 p hp⟩
  · exact ⟨h4.1 p hp, h4.2 p hp⟩
  · exact ⟨h5.1 p hp, h5.2 p hp⟩
def hasX (x : Nat) : Bool := tab.any fun p => p.x == x
theorem tab_sev : ((List.range 129).all fun j => hasX (adjW (plainQ 1088421888 j))) = true := by decide +kernel
theorem tab_six : ((List.range 129).all fun j => hasX (adjW (plainQ 1098907648 j))) = true := by decide +kernel
theorem tab_has {x : Nat} (h : isPl x) : ∃ p ∈ tab, p.x = adjW x := by
  obtain ⟨j, hj, e⟩ := h
  have h1 := tab_sev; have h2 := tab_six
  simp only [List.all_eq_true, List.mem_range] at h1 h2
  have h3 : hasX (adjW x) = true := by
    rcases e with rfl | rfl
    · exact h1 j hj
    · exact h2 j hj
  unfold hasX at h3
  obtain ⟨p, hp, e⟩ := List.any_eq_true.1 h3
  exact ⟨p, hp, by simpa using e⟩
/-- numbers that rise, and values that do not fall -/
def chainB : List (Int × Nat) → Bool
  | a :: b :: l => decide (a.1 < b.1) && decide (a.2 ≤ b.2) && chainB (b :: l)
  | _ => true
theorem chain_head : ∀ (l : List (Int × Nat)) (a : Int × Nat), chainB (a :: l) = true → ∀ q ∈ l, a.1 < q.1 ∧ a.2 ≤ q.2
  | [], _, _, q, hq => nomatch hq
  | b :: l, a, h, q, hq => by
    simp only [chainB, Bool.and_eq_true, decide_eq_true_eq] at h
    rcases List.mem_cons.1 hq with e | hq
    · subst e; exact h.1
    · have := chain_head l b h.2 q hq
      omega
theorem chain_pair : ∀ (l : List (Int × Nat)), chainB l = true → ∀ p ∈ l, ∀ q ∈ l, p.1 < q.1 → p.2 ≤ q.2
  | [], _, p, hp, _, _, _ => nomatch hp
  | a :: l, h, p, hp, q, hq, hlt => by
    have hl : chainB l = true := by
      cases l with
      | nil => rfl
      | cons b l => simp only [chainB, Bool.and_eq_true] at h; exact h.2
    rcases List.mem_cons.1 hp with e | hp'
    · rcases List.mem_cons.1 hq with e2 | hq'
      · subst e; subst e2; omega
      · subst e; exact (chain_head l p h q hq').2
    · rcases List.mem_cons.1 hq with e2 | hq'
      · subst e2
        have := (chain_head l q h p hp').1
        omega
      · exact chain_pair l hl p hp' q hq' hlt
theorem tab_chain : chainB (tab.map fun p => (kf p.x, nrw p.E)) = true := by decide +kernel
theorem tab_mono {p q : FRow} (hp : p ∈ tab) (hq : q ∈ tab) (h : kf p.x < kf q.x) : nrw p.E ≤ nrw q.E :=
  chain_pair _ tab_chain (kf p.x, nrw p.E) (List.mem_map.2 ⟨p, hp, rfl⟩) (kf q.x, nrw q.E) (List.mem_map.2 ⟨q, hq, rfl⟩) h
theorem notO_ne {k : FloatKind} {a b : Nat} {o : Ordering} (h : notO k a b o = true) : k.format.order a b ≠ some o := by
  unfold notO at h
  intro e
  rw [e] at h
  cases o <;> exact absurd h (by decide)
theorem notO_b {k : FloatKind} {a b : Nat} {o : Ordering} (h : notO k a b o = true) : (k.format.order a b == some o) = false := by
  have := notO_ne h
  simpa using this
theorem wid_exact {x : Nat} (h : isN .f32 x = false) (w : World) : cvbits .f32 x .f64 w = wid x := by
  have e := cn_wide x w
  rw [cn_not h, cn_not (by rw [isN_wide2]; exact h)] at e
  exact e
theorem some_fop {op : BinOp} {k : FloatKind} {x y : Nat} (h : isN k (fop op k x y) = false) : floatBits op k x y = some (fop op k x y) := by
  unfold fop at h ⊢
  cases e : floatBits op k x y with
  | some r => rfl
  | none => rw [e] at h; simp [isN_nanOf] at h
theorem cn_exact {k : FloatKind} {a b : Nat} (h : cn k a = b) (hb : isN k b = false) : a = b := by
  have h2 : isN k a = false := by rw [← isN_cn, h]; exact hb
  rw [cn_not h2] at h; exact h
theorem not_true {b : Bool} (h : (!b) = true) : b = false := by cases b <;> simp_all
theorem fn_exp {x E : Nat} (hx : x < 4294967296) (hn : isN .f32 x = false) (hE : expW (wid x) = E) (hb : expOkB x E = true) (w : World) : Calls Try.prog 38 #[.float .f32 x] w fun e w' => e = .returned (.float .f32 (nrw E)) ∧ Dr w w' := by
  unfold expOkB at hb
  simp only [Bool.and_eq_true] at hb
  obtain ⟨⟨⟨b1, b2⟩, b3⟩, b4⟩ := hb
  have ho : okExp x := ⟨notO_ne b1, fun _ => by rw [cn_not hn]; show cvWide .f64 (expW (wid x)) .f32 = false; rw [hE]; exact not_true b3⟩
  refine (impl_ExpNumber x hx ho w).mono fun e w' ⟨r, he, hr, hd⟩ => ⟨?_, hd⟩
  have e1 : expF (cn .f32 x) = nrw E := by
    rw [cn_not hn]; unfold expF
    rw [if_neg (notO_ne b2)]
    show fcv .f64 (expW (wid x)) .f32 = _
    rw [hE]; rfl
  have e2 := hr.out.1
  rw [e1] at e2
  rw [he, cn_exact e2 (not_true b4)]
theorem fn_tanh {x P : Nat} (hn : isN .f32 x = false) (hP : expW (fop .mul .f64 T64 (wid x)) = P) (hb : tanhOkB x P = true) (w : World) : Calls Try.prog 41 #[.float .f32 x] w fun e w' => e = .returned (.float .f32 (nrw (tanhR P))) ∧ Dr w w' := by
  unfold tanhOkB at hb
  simp only [Bool.and_eq_true] at hb
  obtain ⟨⟨⟨b1, b2⟩, b3⟩, b4⟩ := hb
  refine (impl_TanhNumber x P hn hP (notO_ne b1) (notO_ne b2) (not_true b3) w).mono fun e w' ⟨r, he, hr, hd⟩ => ⟨?_, hd⟩
  rw [he, cn_exact hr.out.1 (not_true b4)]
theorem fn_log {x L : Nat} (h0 : 0 < x) (h1 : x < 2139095040) (hL : logW (wid x) = L) (h2 : 874 * B64 ≤ wid x) (h3 : wid x < 1152 * B64) (hok : cvWide .f64 L .f32 = false) (hn : isN .f32 (nrw L) = false) (w : World) : Calls Try.prog 39 #[.float .f32 x] w fun e w' => e = .returned (.float .f32 (nrw L)) ∧ Dr w w' := by
  have hx : isN .f32 x = false := Fin.not (k := .f32) ⟨false, x, rfl, by show x < single.infRung; rw [s_ir]; exact h1⟩
  refine (impl_LogNumber_pos x h0 (by rw [s_ir]; exact h1) (wid x) (fun w => wid_exact hx w) h2 h3 (by rw [hL]; exact hok) w).mono fun e w' ⟨r, he, hr, hd⟩ => ⟨?_, hd⟩
  have e2 := hr.out.1
  rw [hL] at e2
  rw [he, cn_exact (b := nrw L) e2 hn]
theorem fn_root {x : Nat} (hx : x < 4294967296) (hn : isN .f32 x = false) (hr : isN .f32 (rootE x) = false) (w : World) : Calls Try.prog 40 #[.float .f32 x] w fun e w' => e = .returned (.float .f32 (rootE x)) ∧ Dr w w' := by
  refine (impl_RootNumber x hx w).mono fun e w' ⟨r, he, h, hd⟩ => ⟨?_, hd⟩
  have e2 := h.out.1
  rw [cn_not hn] at e2
  rw [he, cn_exact e2 hr]
theorem b10_gap (a b : Nat) (w : World) : Calls Try.prog 42 #[.float .f64 a, .float .f64 b] w fun e w' => ∃ r, e = .returned (.float .f64 r) ∧ Hid (cn .f64 r = gapW (cn .f64 a) (cn .f64 b)) ∧ Dr w w' := by
  have hg : gapW (cn .f64 a) (cn .f64 b) = if FloatKind.f64.format.order a b = some .lt then fop .sub .f64 (cn .f64 b) (cn .f64 a) else fop .sub .f64 (cn .f64 a) (cn .f64 b) := by
    unfold gapW; rw [order_cn]
  rw [hg]
  by_cases h : FloatKind.f64.format.order a b = some .lt
  · rw [if_pos h]
    clear hg
    go_enter Try.func42, Try.ntmps42
    go_wp2
    go_ret
    exact ⟨_, rfl, Lib.hid (cn_fbits _ _ _ _ _), (Dr.refl _).drewN _⟩
  · rw [if_neg h]
    have h2 : (FloatKind.f64.format.order a b == some .lt) = false := by simpa using h
    clear hg h
    go_enter Try.func42, Try.ntmps42
    go_wp2
    go_ret
    exact ⟨_, rfl, Lib.hid (cn_fbits _ _ _ _ _), (Dr.refl _).drewN _⟩
theorem gap_b {a b r C : Nat} {o : Ordering} (hr : cn .f64 r = gapW a b) (hC : cn .f64 C = C) (h : notO .f64 (gapW a b) C o = true) : (FloatKind.f64.format.order r C == some o) = false := by
  have h2 := notO_b h
  rw [← hr, order_cnl _ _ hC] at h2
  exact h2
end Go.Proofs.Ytaocilimggpdjaa
