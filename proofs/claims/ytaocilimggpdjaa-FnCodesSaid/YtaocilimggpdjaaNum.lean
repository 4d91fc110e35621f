/- What the numbers of codes are. No condition. -/
import Derived.Test.YtaocilimggpdjaaLst
import Derived.Test.YtaocilimggpdjaaCode
namespace Go.Proofs.Ytaocilimggpdjaa
open Go Go.RowKit
set_option linter.unusedVariables false
set_option linter.unusedSimpArgs false
def numG (xs : List Int) (c i : Nat) : Nat := fop .mul .f32 (floatOfInt .f32 (xs.getD i 0)) c
def numOk (xs : List Int) (sp : Nat) : Bool := codesOk xs && spreadOk sp
theorem impl_NumbersOf_no (w : World) (a1 : Option Addr) (c1 : Nat) (xs : List Int) (h1 : Ints .i64 w a1 c1 xs) (sp : Nat) (hsp : sp < 4294967296) (hok : numOk xs sp = false) :
    Calls Try.prog 51 #[.slice a1 xs.length c1, .float .f32 sp] w fun e w' => e = .returned (.tuple #[.slice none 0 0, .bool false]) ∧ Dr w w' := by
  have k1 := fun W hW => impl_areCodes W a1 c1 xs hW
  have k2 := fun W => impl_isSpread sp hsp W
  unfold numOk at hok
  have J1 := Lib.hid h1; have C1 := Lib.hid k1; have C2 := Lib.hid k2
  clear k1 k2
  cases b1 : codesOk xs
  · clear hok
    go_enter Try.func51, Try.ntmps51
    go_wp2_with fail
    refine (C1.out _ J1.out).mono ?_
    rintro e w1 ⟨rfl, rfl⟩
    go_wp2
    go_ret2
    exact ⟨rfl, Dr.refl _⟩
  · have b2 : spreadOk sp = false := by simpa [b1] using hok
    clear hok
    go_enter Try.func51, Try.ntmps51
    go_wp2_with fail
    refine (C1.out _ J1.out).mono ?_
    rintro e w1 ⟨rfl, rfl⟩
    go_wp2_with fail
    refine (C2.out _).mono ?_
    rintro e w1 ⟨rfl, ⟨q, rfl⟩⟩
    go_wp2
    go_ret2
    exact ⟨rfl, _, rfl⟩
set_option maxRecDepth 100000 in
set_option maxHeartbeats 1000000 in
theorem impl_NumbersOf_yes (w : World) (a1 : Option Addr) (c1 : Nat) (xs : List Int) (h1 : Ints .i64 w a1 c1 xs) (sp : Nat) (hsp : sp < 4294967296) (hok : numOk xs sp = true) :
    Calls Try.prog 51 #[.slice a1 xs.length c1, .float .f32 sp] w fun e w' => ∃ (v : Value) (ys : List Nat), e = .returned (.tuple #[v, .bool true]) ∧
      w'.ownsRow w.heap.size 22 1 v xs.length (ys.map (Value.float .f32)) ∧ Hid (ys.map (cn .f32) = listOf xs.length (numG xs (cn .f32 sp))) ∧ Hid (∀ y ∈ ys, y < 4294967296) ∧ Below w.heap.size w w' := by
  obtain ⟨i0, hi, hz0, hz1, hz2⟩ := info_parts info_f32
  have k1 := fun W hW => impl_areCodes W a1 c1 xs hW
  have k2 := fun W => impl_isSpread sp hsp W
  simp only [numOk, Bool.and_eq_true] at hok
  obtain ⟨b1, b2⟩ := hok
  have hn : xs.length ≤ 256 := by simp only [codesOk, Bool.and_eq_true, decide_eq_true_eq] at b1; exact b1.1
  obtain ⟨n, e1⟩ : ∃ n, n = xs.length := ⟨_, rfl⟩
  rw [← e1] at hn k1 ⊢
  have E1 := Lib.hid e1; have C1 := Lib.hid k1; have C2 := Lib.hid k2
  clear k1 k2 e1
  go_enter Try.func51, Try.ntmps51
  go_wp2_with fail
  refine (C1.out _ h1).mono ?_
  rintro e w1 ⟨rfl, rfl⟩
  go_wp2_with fail
  refine (C2.out _).mono ?_
  rintro e w0 ⟨rfl, hd⟩
  have hb0 := hd.below
  have h1 := h1.below hb0
  have hs0 := hb0.size
  clear hd C1 C2
  go_wp2
  go_loopw [6, 20] (fun v i wr => ∃ k : Nat, i = .int .i64 k ∧ k ≤ n ∧ ∃ ys : List Nat, wr.ownsRow w0.heap.size 22 1 v k (ys.map (Value.float .f32)) ∧ ys.length = k ∧ ys.map (cn .f32) = listOf k (numG xs (cn .f32 sp)) ∧ (∀ y ∈ ys, y < 4294967296) ∧ Below w0.heap.size w0 wr ∧ w0.heap.size ≤ wr.heap.size) (fun _ i _ => n - (intOf i).toNat)
  case atStart => exact ⟨0, rfl, Nat.zero_le _, [], World.ownsRow_made _ _ _ (Nat.le_refl _) (Nat.zero_le _) rfl, rfl, rfl, (fun y hy => nomatch hy), below1 _ _, by simp⟩
  case round =>
    obtain ⟨k, rfl, hk, ys, hown, hyl, hye, hylt, hb, hbs⟩ := hrel
    have HL := Lib.hid hyl; have HE := Lib.hid hye; have HLT := Lib.hid hylt; clear hyl hye hylt
    have h1 := h1.below hb
    by_cases hlt : k < n
    · obtain ⟨b, off, rfl, _, hq⟩ := h1.spot (i := k) (by rw [← E1.out]; exact hlt)
      have hc := hq k (by rw [← E1.out]; exact hlt)
      obtain ⟨x1, px⟩ : ∃ x, x = xs.getD k 0 := ⟨_, rfl⟩
      rw [← px] at hc
      have PX := Lib.hid px
      clear px hq h1
      go_wp2_with (at_builtin; refine wp_app rfl _ _ 25 rfl w0.heap.size i0 (.float .f32 0) 1 4 Try.underlying25 hi hz0 hz1 hz2 rfl (by decide) rfl (one_cell _ rfl) _ _ _ rfl hown rfl ?c3 ?c4 ?c5 ?_)
      case c3 => unfold maxLen; omega
      case c4 => omega
      case c5 => exact hbs
      intro v' w9 hown1 hb1 hbs1
      have hb1 := (below_drewN hb _).trans hb1
      clear hown hb hbs
      generalize hy : fbits BinOp.mul FloatKind.f32 _ _ _ = y at hown1
      have hyc : cn .f32 y = numG xs (cn .f32 sp) k := by rw [← hy, cn_fbits, cn_floatOfInt, PX.out]; rfl
      have hyl : y < 4294967296 := by rw [← hy]; exact fbits_lt _ .f32 _ _ _
      have HY := Lib.hid hyc; clear hyc hy
      go_wp2
      go_roundw
      case rel =>
        refine ⟨k + 1, by go_num, hlt, ys ++ [y], by simpa using hown1, by simp [HL.out], ?_, ?_, hb1, hbs1⟩
        · rw [List.map_append, List.map_cons, List.map_nil, HE.out, HY.out, listOf_succ]
        · intro z hz
          rcases List.mem_append.1 hz with hz | hz
          · exact HLT.out z hz
          · simp at hz; rw [hz]; exact hyl
      case measure => simp [intOf]; omega
    · have hkn : k = n := by omega
      subst hkn
      go_wp2
      go_ret2
      refine ⟨_, ys, rfl, ?_, HE, HLT, hb0.trans (hb.mono hs0)⟩
      exact ((Row.mk' hown).bounds hs0 (Nat.le_refl _)).own
theorem impl_NumbersOf (w : World) (a1 : Option Addr) (c1 : Nat) (xs : List Int) (h1 : Ints .i64 w a1 c1 xs) (sp : Nat) (hsp : sp < 4294967296) :
    Calls Try.prog 51 #[.slice a1 xs.length c1, .float .f32 sp] w fun e w' => ∃ (ad : Option Addr) (n cap : Nat) (ys : List Nat) (b : Bool), e = .returned (.tuple #[.slice ad n cap, .bool b]) ∧
      RepF w' w.heap.size w'.heap.size ad n cap ys ∧ ys.map (cn .f32) = (if numOk xs sp = true then listOf xs.length (numG xs (cn .f32 sp)) else []) ∧ n ≤ 1048576 ∧ b = numOk xs sp ∧ Below w.heap.size w w' := by
  cases hok : numOk xs sp
  · refine (impl_NumbersOf_no w a1 c1 xs h1 sp hsp hok).mono fun e w' ⟨he, hd⟩ => ?_
    exact ⟨none, 0, 0, [], false, he, RepF.nil _ _ _, rfl, by omega, rfl, hd.below⟩
  · refine (impl_NumbersOf_yes w a1 c1 xs h1 sp hsp hok).mono fun e w' ⟨v, ys, he, ho, hy, hl, hb⟩ => ?_
    have hn : xs.length ≤ 256 := by simp only [numOk, codesOk, Bool.and_eq_true, decide_eq_true_eq] at hok; exact hok.1.1
    obtain ⟨ad, cap, rfl, hr⟩ := RepF.of_owns ho hl.out
    exact ⟨ad, _, cap, ys, true, he, hr, by rw [if_pos rfl]; exact hy.out, by omega, rfl, hb⟩
end Go.Proofs.Ytaocilimggpdjaa
