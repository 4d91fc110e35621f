/- Joined texts 2: Clp Bat Tn0 Snm Tp0 Tp1 Tp3 Tp5 Tu0 Tu1 App Tp2 Tu2 Tp4 Tu3 Tn1 Tn2 Tn3 Rp0 Rg3 Rg4 Rp3 Gr1 Iro. Each is told at its own head. No condition. -/
import Derived.Laws.AppendOwnNone
import Derived.Maps.AppendAt
import Derived.Deep.CutRange
import Derived.Deep.CutBlock
import Derived.Deep.DeepCutAuto
import Derived.Deep.RegionHeld3
import Derived.WalkSmall
import Derived.Deep.AppendLies
import Derived.Test.YtpadlmidojpbeaaGreatMc0
import Derived.Test.YtpadlmidojpbeaaGreatMc1
set_option linter.unusedVariables false
set_option linter.unusedSimpArgs false
/- x -/
namespace Go.Proofs.YtpadlmidojpbeaaGreat
open Go Go.RowKit Ieee
theorem RepF.nilcap {w : World} {lo hi : Nat} {ad : Option Addr} {n cap : Nat} {xs : List Nat} (h : RepF w lo hi ad n cap xs) : ad = none → cap = 0 := by
  intro e
  subst e
  rcases h.row.own.2 with ⟨h1, _⟩ | ⟨g, cap', cur, h1, _⟩
  · cases h1; rfl
  · cases h1
theorem wp_cat {P : Program} {ops : Array Oper} {rest : List Oper} {o : Oper} {a : Act} {Q : Exit → Act → World → Prop} {e : TypeId} {W : World} (hgd : o.guard = none) (s x : Operand) (t : TypeId)
    (ho : o.op = .call { callee := .builtin .append, args := #[s, x], argTypes := #[t, t] })
    (base : Nat) (i : TypeInfo) (z : Value) (bytes : Nat) (ht : P.underlying t = some (.slice e)) (hi : P.info? e = some i) (hz : i.zero = some z)
    (hsize : i.size = 1) (hby : i.bytes = bytes) (hzs : z.cells.size = 1)
    (v : Value) (n : Nat) (xs : List Value) (hs : a.eval s = v) (hown : W.ownsRow base e 1 v n xs)
    (ad : Option Addr) (m c : Nat) (news : List Value) (hx : a.eval x = .slice ad m c) (hn : ad = none → c = 0) (hl : news.length = m) (hr : Rd W ad news) (h1 : ∀ u ∈ news, u.oneCell' = true)
    (h63 : n + m ≤ maxLen) (hbytes : (n + m) * bytes ≤ 140737488355328) (hbase : base ≤ W.heap.size)
    (h : ∀ v' w', w'.ownsRow base e 1 v' (n + m) (xs ++ news) → Below base W w' → base ≤ w'.heap.size → wpList P ops Q rest (a.put o.dst v') w') : wpList P ops Q (o :: rest) a W := by
  cases ad with
  | none =>
    obtain rfl := hn rfl
    have h0 : news = [] := by
      rcases hr with hr | ⟨b, off, hb, _⟩
      · exact hr
      · cases hb
    subst h0
    obtain rfl : m = 0 := hl.symm
    exact wpList_append_own_none hgd s x t ho base e i 1 ht hi v n xs hs hown hx (h v W (by simpa using hown) (Below.refl _ _) hbase)
  | some p =>
    refine wpList_append_own W hgd s x t ho base e i z 1 bytes ht hi hz hsize hby hzs (by decide) v n xs hs hown p m c news hx (by omega) ?_ h1 h63 hbytes hbase ?_
    · intro j u hj
      rcases hr with hr | ⟨b, off, hb, _, hc⟩
      · rw [hr] at hj; cases hj
      · cases hb
        have hlt : j < news.length := (List.getElem?_eq_some_iff.1 hj).1
        rw [Addr.add_lit]; exact (hc j hlt).trans hj
    · intro v' w' h2 hg _
      refine h v' w' h2 ((Below.refl _ _).grown hg hbase (fun j hj => (hown.lt j hj).1)) (Nat.le_trans hbase hg.size)
set_option maxRecDepth 100000 in
theorem spec_l02Own (w : World) (ad : Option Addr) (cap : Nat) (xs : List Nat) (h : F32s w ad cap xs) (hc : ad = none → cap = 0) (hn : xs.length ≤ 1048576) :
    Calls Tryz.prog 100 #[.slice ad xs.length cap] w fun e w' => ∃ (v : Value), e = .returned v ∧ w'.ownsRow w.heap.size 28 1 v xs.length (xs.map (Value.float .f32)) ∧ Below w.heap.size w w' := by
  obtain ⟨i0, hi, hz0, hz1, hz2⟩ := info_parts info_f32
  obtain ⟨n, hN⟩ : ∃ n, n = xs.length := ⟨_, rfl⟩
  have hr := h.rd
  have h1 : ∀ u ∈ xs.map (Value.float .f32), u.oneCell' = true := by intro u hu; obtain ⟨x, _, rfl⟩ := List.mem_map.1 hu; rfl
  have hl : (xs.map (Value.float .f32)).length = n := by rw [List.length_map, hN]
  rw [← hN] at hn ⊢
  have HL := Lib.hid hl; clear hN hl h
  go_enter Tryz.func100, Tryz.ntmps100
  go_wp2_with (at_builtin; refine wp_cat rfl _ _ 25 rfl w.heap.size i0 (.float .f32 0) 4 Tryz.underlying25 hi hz0 hz1 hz2 rfl _ 0 [] rfl (World.ownsRow_made _ _ _ (Nat.le_refl _) (Nat.zero_le _) rfl) ad n cap _ rfl hc HL.out (hr.below (below1 _ _) (Nat.le_refl _)) h1 ?c3 ?c4 ?c5 ?_)
  case c3 => unfold maxLen; omega
  case c4 => omega
  case c5 => simp
  intro v' w9 hown1 hb1 hbs1
  go_wp2
  go_ret
  exact ⟨_, rfl, by simpa using hown1, (below1 _ _).trans hb1⟩
set_option maxRecDepth 100000 in
theorem slices_Clone (w : World) (ad : Option Addr) (cap : Nat) (xs : List Nat) (h : F32s w ad cap xs) (hc : ad = none → cap = 0) (hn : xs.length ≤ 1048576) :
    Calls Tryz.prog 77 #[.slice ad xs.length cap] w fun e w' => ∃ (v : Value), e = .returned v ∧ w'.ownsRow w.heap.size 28 1 v xs.length (xs.map (Value.float .f32)) ∧ Below w.heap.size w w' := by
  obtain ⟨i0, hi, hz0, hz1, hz2⟩ := info_parts info_f32
  obtain ⟨n, hN⟩ : ∃ n, n = xs.length := ⟨_, rfl⟩
  have hr := h.rd
  have h1 : ∀ u ∈ xs.map (Value.float .f32), u.oneCell' = true := by intro u hu; obtain ⟨x, _, rfl⟩ := List.mem_map.1 hu; rfl
  have hl : (xs.map (Value.float .f32)).length = n := by rw [List.length_map, hN]
  rw [← hN] at hn ⊢
  have HL := Lib.hid hl; clear hN hl h
  cases ad with
  | none =>
    obtain rfl := hc rfl
    have h0 : xs = [] := by
      rcases hr with hr | ⟨b, off, hb, _⟩
      · simpa using hr
      · cases hb
    subst h0
    obtain rfl : n = 0 := HL.out.symm
    have he : ∀ w : World, (binOp .eql 25 (.slice none 0 0) (.slice none 0 0)).run Tryz.prog w = .ok (.bool true) w := fun _ => rfl
    go_enter Tryz.func77, Tryz.ntmps77
    go_wp2
    go_ret
    exact ⟨_, rfl, World.ownsRow_nil _ _ _ _, Below.refl _ _⟩
  | some p =>
    have he : ∀ w : World, (binOp .eql 25 (.slice (some p) n cap) (.slice none 0 0)).run Tryz.prog w = .ok (.bool false) w := fun _ => rfl
    go_enter Tryz.func77, Tryz.ntmps77
    go_wp2_with (at_builtin; refine wp_cat rfl _ _ 25 rfl w.heap.size i0 (.float .f32 0) 4 Tryz.underlying25 hi hz0 hz1 hz2 rfl _ 0 [] rfl (World.ownsRow_made _ _ _ (Nat.le_refl _) (Nat.zero_le _) rfl) (some p) n cap _ rfl (fun h => nomatch h) HL.out (hr.below (below1 _ _) (Nat.le_refl _)) h1 ?c3 ?c4 ?c5 ?_)
    case c3 => unfold maxLen; omega
    case c4 => omega
    case c5 => simp
    intro v' w9 hown1 hb1 hbs1
    go_wp2
    go_ret
    exact ⟨_, rfl, by simpa using hown1, (below1 _ _).trans hb1⟩
end Go.Proofs.YtpadlmidojpbeaaGreat
/- x -/
namespace Go.Proofs.YtpadlmidojpbeaaGreat
open Go Go.RowKit
theorem impl_isTensorSide (n : Int) (w : World) : Calls Tryz.prog 88 #[.int .i64 n] w fun e w' => e = .returned (.bool (inB n 1 16)) ∧ w = w' := by
  have k1 := fun W => within_any n 1 16 W
  go_enter Tryz.func88, Tryz.ntmps88
  go_wp2_with fail
  refine (k1 _).mono ?_
  rintro e w1 ⟨rfl, rfl⟩
  go_wp2
  go_ret
  exact ⟨rfl, rfl⟩
end Go.Proofs.YtpadlmidojpbeaaGreat
/- x -/
namespace Go.Proofs.YtpadlmidojpbeaaGreat
open Go Go.RowKit
def tenB (r c : Int) (n : Nat) : Bool := inB r 1 16 && (inB c 1 16 && decide ((n : Int) = r * c))
theorem tenB_iff {r c : Int} {n : Nat} : tenB r c n = true ↔ (1 ≤ r ∧ r ≤ 16) ∧ (1 ≤ c ∧ c ≤ 16) ∧ (n : Int) = r * c := by
  unfold tenB; simp only [Bool.and_eq_true, inB_iff, decide_eq_true_eq]
set_option maxHeartbeats 1000000 in
theorem impl_ValidTensor (r c : Int) (ad : Option Addr) (n cap : Nat) (hn : n ≤ maxLen) (w : World) : Calls Tryz.prog 61 #[.agg #[.int .i64 r, .int .i64 c, .slice ad n cap]] w fun e w' => e = .returned (.bool (tenB r c n)) ∧ Below w.heap.size w w' := by
  unfold maxLen at hn
  have K1 := Lib.hid (fun W => impl_isTensorSide r W)
  have K2 := Lib.hid (fun W => impl_isTensorSide c W)
  have ht : tenB r c n = (inB r 1 16 && (inB c 1 16 && decide ((n : Int) = r * c))) := rfl
  rw [ht]
  clear ht
  cases h1 : inB r 1 16
  · rw [h1] at K1
    clear h1
    go_enter Tryz.func61, Tryz.ntmps61
    go_wp2_with fail
    refine (K1.out _).mono ?_
    rintro e w1 ⟨rfl, rfl⟩
    go_wp2
    go_ret
    exact ⟨rfl, below1 _ _⟩
  · rw [h1] at K1
    have ⟨a1, a2⟩ := inB_iff.1 h1
    clear h1
    cases h2 : inB c 1 16
    · rw [h2] at K2
      clear h2
      go_enter Tryz.func61, Tryz.ntmps61
      go_wp2_with fail
      refine (K1.out _).mono ?_
      rintro e w1 ⟨rfl, rfl⟩
      go_wp2_with fail
      refine (K2.out _).mono ?_
      rintro e w1 ⟨rfl, rfl⟩
      go_wp2
      go_ret
      exact ⟨rfl, below1 _ _⟩
    · rw [h2] at K2
      have ⟨b1, b2⟩ := inB_iff.1 h2
      clear h2
      obtain ⟨p, hp⟩ : ∃ p, p = r * c := ⟨_, rfl⟩
      have p1 : 0 ≤ p := by rw [hp]; exact Int.mul_nonneg (by omega) (by omega)
      have p2 : p ≤ 256 := by
        rw [hp]
        have h3 : r * c ≤ 16 * c := Int.mul_le_mul_of_nonneg_right a2 (by omega)
        omega
      rw [← hp]
      have hpw : wrap64 (r * c) = p := by rw [← hp]; unfold wrap64; omega
      clear hp
      go_enter Tryz.func61, Tryz.ntmps61
      go_wp2_with fail
      refine (K1.out _).mono ?_
      rintro e w1 ⟨rfl, rfl⟩
      go_wp2_with fail
      refine (K2.out _).mono ?_
      rintro e w1 ⟨rfl, rfl⟩
      go_wp2
      go_ret
      exact ⟨by congr 2, below1 _ _⟩
end Go.Proofs.YtpadlmidojpbeaaGreat
/- x -/
namespace Go.Proofs.YtpadlmidojpbeaaGreat
open Go Go.RowKit Ieee
end Go.Proofs.YtpadlmidojpbeaaGreat
/- x -/
namespace Go.Proofs.YtpadlmidojpbeaaGreat
open Go Go.RowKit
abbrev Sh := Int × Int
def twoB (k : Int) : Bool := k == 1 || (k == 2 || (k == 3 || (k == 4 || k == 6)))
def zeroB (x : Nat) : Bool := decide (cn .f32 x = cn .f32 0)
def fitsB (i : Int) (o : OpP) : Bool :=
  inB o.k 0 10 && ((o.k == 5 || zeroB o.num) && (if o.k = 0 then (o.a == 0 && (o.b == 0 && tenB o.r o.c o.xs.length)) else (o.r == 0 && (o.c == 0 && (decide (o.xs.length = 0) && (inB o.a 0 (i - 1) && (if twoB o.k = true then inB o.b 0 (i - 1) else o.b == 0)))))))
def shapeOf (k : Int) (v w : Sh) : Option Sh :=
  if k = 1 ∨ k = 3 then (if v = w then some v else none)
  else if k = 2 ∨ k = 4 then (if w = (1, v.2) then some v else none)
  else if k = 6 then (if v.2 = w.1 then some (v.1, w.2) else none)
  else if k = 7 then some (v.2, v.1)
  else if k = 10 then some (1, 1)
  else some v
def shGet (S : List Sh) (i : Int) : Sh := S.getD i.toNat (0, 0)
def stepSh (S : List Sh) (o : OpP) : Option (List Sh) :=
  if fitsB S.length o = true then (if o.k = 0 then some (S ++ [(o.r, o.c)]) else (shapeOf o.k (shGet S o.a) (shGet S o.b)).map fun s => S ++ [s]) else none
def shapesN (os : List OpP) (k : Nat) : Option (List Sh) := (os.take k).foldlM stepSh []
def shapesP (os : List OpP) : Option (List Sh) := if 1 ≤ os.length ∧ os.length ≤ 48 then shapesN os os.length else none
theorem shapesN_succ {os : List OpP} {k : Nat} {o : OpP} (h : os[k]? = some o) : shapesN os (k + 1) = (shapesN os k).bind fun S => stepSh S o := by
  obtain ⟨hk, rfl⟩ := List.getElem?_eq_some_iff.1 h
  unfold shapesN
  rw [List.take_succ_eq_append_getElem hk, List.foldlM_append]
  simp [List.foldlM]
theorem stepSh_length {S S' : List Sh} {o : OpP} (h : stepSh S o = some S') : S'.length = S.length + 1 := by
  unfold stepSh at h
  split at h
  · split at h
    · cases h; simp
    · cases e : shapeOf o.k (shGet S o.a) (shGet S o.b) with
      | none => rw [e] at h; cases h
      | some s => rw [e] at h; cases h; simp
  · cases h
theorem shapesN_length {os : List OpP} {k : Nat} {S : List Sh} (hk : k ≤ os.length) (h : shapesN os k = some S) : S.length = k := by
  induction k generalizing S with
  | zero => unfold shapesN at h; simp at h; subst h; rfl
  | succ k ih =>
    obtain ⟨o, ho⟩ := getElem?_lt (show k < os.length by omega)
    rw [shapesN_succ ho] at h
    cases e : shapesN os k with
    | none => rw [e] at h; cases h
    | some S0 =>
      rw [e] at h
      have := stepSh_length h
      rw [this, ih (by omega) e]
theorem shapesN_none {os : List OpP} {k n : Nat} (h : shapesN os k = none) (hk : k ≤ n) (hn : n ≤ os.length) : shapesN os n = none := by
  induction n with
  | zero => have : k = 0 := by omega
            subst this; exact h
  | succ n ih =>
    by_cases e : k = n + 1
    · subst e; exact h
    · obtain ⟨o, ho⟩ := getElem?_lt (show n < os.length by omega)
      rw [shapesN_succ ho, ih (by omega) (by omega)]; rfl
end Go.Proofs.YtpadlmidojpbeaaGreat
/- x -/
namespace Go.Proofs.YtpadlmidojpbeaaGreat
open Go Go.RowKit
theorem spec_l02Shape (r c : Int) (w : World) : Calls Tryz.prog 81 #[.int .i64 r, .int .i64 c] w fun e w' => e = .returned (.bool (inB r 1 16 && inB c 1 16)) ∧ w = w' := by
  have K1 := Lib.hid (fun W => l00In_any r 1 16 W)
  have K2 := Lib.hid (fun W => l00In_any c 1 16 W)
  cases h1 : inB r 1 16
  · rw [h1] at K1
    clear h1
    go_enter Tryz.func81, Tryz.ntmps81
    go_wp2_with fail
    refine (K1.out _).mono ?_
    rintro e w1 ⟨rfl, rfl⟩
    go_wp2
    go_ret
    exact ⟨rfl, rfl⟩
  · rw [h1] at K1
    clear h1
    go_enter Tryz.func81, Tryz.ntmps81
    go_wp2_with fail
    refine (K1.out _).mono ?_
    rintro e w1 ⟨rfl, rfl⟩
    go_wp2_with fail
    refine (K2.out _).mono ?_
    rintro e w1 ⟨rfl, rfl⟩
    go_wp2
    go_ret
    exact ⟨rfl, rfl⟩
set_option maxHeartbeats 2000000 in
theorem spec_l02Is (w : World) (g o : Nat) (r c : Int) (ad : Option Addr) (n cap : Nat) (hn : n ≤ maxLen) (p0 : w.cell? ⟨g, o, none⟩ = some (.int .i64 r)) (p1 : w.cell? ⟨g, o + 1, none⟩ = some (.int .i64 c)) (p2 : w.cell? ⟨g, o + 2, none⟩ = some (.slice ad n cap)) :
    Calls Tryz.prog 54 #[.pointer (some ⟨g, o, none⟩)] w fun e w' => e = .returned (.bool (tenB r c n)) ∧ Dr w w' := by
  unfold maxLen at hn
  have KS := Lib.hid (fun W => spec_l02Shape r c W)
  have ht : tenB r c n = ((inB r 1 16 && inB c 1 16) && decide ((n : Int) = r * c)) := by unfold tenB; rw [Bool.and_assoc]
  rw [ht]
  clear ht
  obtain ⟨p, hp⟩ : ∃ p, p = r * c := ⟨_, rfl⟩
  cases h1 : (inB r 1 16 && inB c 1 16)
  · rw [h1] at KS
    clear h1 hp
    go_enter Tryz.func54, Tryz.ntmps54
    go_wp2
    refine wp_region_drawn (fun f args v => v = .bool false) (by kernel_rfl) (by kernel_rfl) ?_
    repeat (refine wset_step (fun K hK nq => ?_); go_simp; refine hK _ ?_; clear hK K)
    refine wset_step (fun K hK nq => ?_)
    go_simp
    refine ⟨(KS.out _).mono ?_, ?_⟩
    · rintro e w' ⟨rfl, rfl⟩
      exact ⟨rfl, _, rfl⟩
    refine hK _ ?_
    clear hK K
    repeat (refine wset_step (fun K hK nq => ?_); go_simp; refine hK _ ?_; clear hK K)
    refine wset_nil ?_
    rintro w' ⟨q, rfl⟩
    go_wp2
    go_ret
    exact ⟨rfl, _, rfl⟩
  · rw [h1] at KS
    simp only [Bool.and_eq_true] at h1
    have ⟨a1, a2⟩ := inB_iff.1 h1.1
    have ⟨b1, b2⟩ := inB_iff.1 h1.2
    have q1 : 0 ≤ p := by rw [hp]; exact Int.mul_nonneg (by omega) (by omega)
    have q2 : p ≤ 256 := by
      rw [hp]
      have h3 : r * c ≤ 16 * c := Int.mul_le_mul_of_nonneg_right a2 (by omega)
      omega
    rw [← hp]
    have hpw : IntKind.i64.wrap (r * c) = p := by rw [← hp, IntKind.wrap_i64]; omega
    have hq : ((n : Int) == IntKind.i64.wrap (r * c)) = decide ((n : Int) = p) := by rw [hpw]; rfl
    have HQ := Lib.hid hq
    clear hp h1 a1 a2 b1 b2 hpw hq
    go_enter Tryz.func54, Tryz.ntmps54
    go_wp2
    refine wp_region_drawn (fun f args v => v = .bool true) (by kernel_rfl) (by kernel_rfl) ?_
    repeat (refine wset_step (fun K hK nq => ?_); go_simp; refine hK _ ?_; clear hK K)
    refine wset_step (fun K hK nq => ?_)
    go_simp
    refine ⟨(KS.out _).mono ?_, ?_⟩
    · rintro e w' ⟨rfl, rfl⟩
      exact ⟨rfl, _, rfl⟩
    refine hK _ ?_
    clear hK K
    repeat (refine wset_step (fun K hK nq => ?_); go_simp; refine hK _ ?_; clear hK K)
    refine wset_nil ?_
    rintro w' ⟨q, rfl⟩
    go_wp2
    go_ret
    refine ⟨?_, _, rfl⟩
    show Ending.returned (Value.bool _) = Ending.returned (Value.bool _)
    rw [HQ.out]; rfl
theorem spec_l04Two (k : Int) (w : World) : Calls Tryz.prog 115 #[.int .i64 k] w fun e w' => e = .returned (.bool (twoB k)) ∧ w = w' := by
  rcases (by omega : k = 1 ∨ k = 2 ∨ k = 3 ∨ k = 4 ∨ k = 6 ∨ (k ≠ 1 ∧ k ≠ 2 ∧ k ≠ 3 ∧ k ≠ 4 ∧ k ≠ 6)) with rfl | rfl | rfl | rfl | rfl | ⟨h1, h2, h3, h4, h6⟩
  rotate_right
  · have h1 : (k == 1) = false := by simpa using h1
    have h2 : (k == 2) = false := by simpa using h2
    have h3 : (k == 3) = false := by simpa using h3
    have h4 : (k == 4) = false := by simpa using h4
    have h6 : (k == 6) = false := by simpa using h6
    unfold twoB
    go_enter Tryz.func115, Tryz.ntmps115
    go_wp2
    go_ret
    refine ⟨?_, rfl⟩
    rw [h1, h2, h3, h4, h6]; rfl
  all_goals
    go_enter Tryz.func115, Tryz.ntmps115
    go_wp2
    go_ret
    exact ⟨rfl, rfl⟩
theorem impl_takesTwo (k : Int) (w : World) : Calls Tryz.prog 97 #[.int .i64 k] w fun e w' => e = .returned (.bool (twoB k)) ∧ w = w' := by
  rcases (by omega : k = 1 ∨ k = 2 ∨ k = 3 ∨ k = 4 ∨ k = 6 ∨ (k ≠ 1 ∧ k ≠ 2 ∧ k ≠ 3 ∧ k ≠ 4 ∧ k ≠ 6)) with rfl | rfl | rfl | rfl | rfl | ⟨h1, h2, h3, h4, h6⟩
  rotate_right
  · have h1 : (k == 1) = false := by simpa using h1
    have h2 : (k == 2) = false := by simpa using h2
    have h3 : (k == 3) = false := by simpa using h3
    have h4 : (k == 4) = false := by simpa using h4
    have h6 : (k == 6) = false := by simpa using h6
    unfold twoB
    go_enter Tryz.func97, Tryz.ntmps97
    go_wp2
    go_ret
    refine ⟨?_, rfl⟩
    rw [h1, h2, h3, h4, h6]; rfl
  all_goals
    go_enter Tryz.func97, Tryz.ntmps97
    go_wp2
    go_ret
    exact ⟨rfl, rfl⟩
end Go.Proofs.YtpadlmidojpbeaaGreat
/- x -/
namespace Go.Proofs.YtpadlmidojpbeaaGreat
open Go Go.RowKit
theorem fitsB_in {i : Int} {o : OpP} (h : fitsB i o = true) : 0 ≤ o.k ∧ o.k ≤ 10 := by
  unfold fitsB at h
  simp only [Bool.and_eq_true] at h
  exact inB_iff.1 h.1
theorem fitsB_args {i : Int} {o : OpP} (h : fitsB i o = true) (h0 : o.k ≠ 0) : (0 ≤ o.a ∧ o.a ≤ i - 1) ∧ (0 ≤ o.b ∧ o.b ≤ i - 1) ∧ (o.r = 0 ∧ o.c = 0 ∧ o.xs = []) := by
  unfold fitsB at h
  rw [if_neg h0] at h
  simp only [Bool.and_eq_true, beq_iff_eq, decide_eq_true_eq] at h
  obtain ⟨_, _, h1, h2, h3, h4, h5⟩ := h
  have ⟨a1, a2⟩ := inB_iff.1 h4
  refine ⟨⟨a1, a2⟩, ?_, h1, h2, List.eq_nil_of_length_eq_zero h3⟩
  split at h5
  · exact inB_iff.1 h5
  · have : o.b = 0 := by simpa using h5
    omega
theorem fitsB_input {i : Int} {o : OpP} (h : fitsB i o = true) (h0 : o.k = 0) : o.a = 0 ∧ o.b = 0 ∧ tenB o.r o.c o.xs.length = true := by
  unfold fitsB at h
  rw [if_pos h0] at h
  simp only [Bool.and_eq_true, beq_iff_eq] at h
  exact ⟨h.2.2.1, h.2.2.2.1, h.2.2.2.2⟩
end Go.Proofs.YtpadlmidojpbeaaGreat
/- x -/
namespace Go.Proofs.YtpadlmidojpbeaaGreat
open Go Go.RowKit
def sideP (s : Sh) : Prop := (1 ≤ s.1 ∧ s.1 ≤ 16) ∧ (1 ≤ s.2 ∧ s.2 ≤ 16)
theorem shGet_mem {S : List Sh} {i : Int} (h0 : 0 ≤ i) (h1 : i ≤ S.length - 1) : shGet S i ∈ S := by
  have hl : i.toNat < S.length := by omega
  unfold shGet
  rw [List.getD_eq_getElem?_getD, List.getElem?_eq_getElem hl]
  exact List.getElem_mem hl
theorem shapeOf_side {k : Int} {v w s : Sh} (hv : sideP v) (hw : sideP w) (h : shapeOf k v w = some s) : sideP s := by
  unfold shapeOf at h
  unfold sideP at hv hw ⊢
  split at h
  · split at h
    · cases h; exact hv
    · cases h
  · split at h
    · split at h
      · cases h; exact hv
      · cases h
    · split at h
      · split at h
        · cases h; exact ⟨hv.1, hw.2⟩
        · cases h
      · split at h
        · cases h; exact ⟨hv.2, hv.1⟩
        · split at h
          · cases h; exact ⟨⟨by decide, by decide⟩, ⟨by decide, by decide⟩⟩
          · cases h; exact hv
theorem stepSh_side {S S' : List Sh} {o : OpP} (hS : ∀ s ∈ S, sideP s) (h : stepSh S o = some S') : ∀ s ∈ S', sideP s := by
  unfold stepSh at h
  split at h
  · rename_i hf
    by_cases hk : o.k = 0
    · rw [if_pos hk] at h
      cases h
      intro s hs
      rcases List.mem_append.1 hs with hs | hs
      · exact hS s hs
      · have e : s = (o.r, o.c) := by simpa using hs
        subst e
        have := tenB_iff.1 (fitsB_input hf hk).2.2
        exact ⟨this.1, this.2.1⟩
    · rw [if_neg hk] at h
      have ha := fitsB_args hf hk
      cases e : shapeOf o.k (shGet S o.a) (shGet S o.b) with
      | none => rw [e] at h; cases h
      | some t =>
        rw [e] at h
        cases h
        intro s hs
        rcases List.mem_append.1 hs with hs | hs
        · exact hS s hs
        · have e2 : s = t := by simpa using hs
          subst e2
          exact shapeOf_side (hS _ (shGet_mem ha.1.1 ha.1.2)) (hS _ (shGet_mem ha.2.1.1 ha.2.1.2)) e
  · cases h
theorem shapesN_side {os : List OpP} {k : Nat} {S : List Sh} (hk : k ≤ os.length) (h : shapesN os k = some S) : ∀ s ∈ S, sideP s := by
  induction k generalizing S with
  | zero => unfold shapesN at h; simp at h; subst h; intro s hs; cases hs
  | succ k ih =>
    obtain ⟨o, ho⟩ := getElem?_lt (show k < os.length by omega)
    rw [shapesN_succ ho] at h
    cases e : shapesN os k with
    | none => rw [e] at h; cases h
    | some S0 => rw [e] at h; exact stepSh_side (ih (by omega) e) h
theorem shapesP_some {os : List OpP} {S : List Sh} (h : shapesP os = some S) : (1 ≤ os.length ∧ os.length ≤ 48) ∧ shapesN os os.length = some S ∧ S.length = os.length ∧ ∀ s ∈ S, sideP s := by
  unfold shapesP at h
  split at h
  · rename_i hl
    exact ⟨hl, h, shapesN_length (Nat.le_refl _) h, shapesN_side (Nat.le_refl _) h⟩
  · cases h
end Go.Proofs.YtpadlmidojpbeaaGreat
/- x -/
namespace Go.Proofs.YtpadlmidojpbeaaGreat
open Go Go.RowKit
def stepU (U : List Bool) (i : Nat) (o : OpP) : List Bool :=
  if U.getD i false = true ∧ o.k ≠ 0 then (if twoB o.k = true then (U.set o.a.toNat true).set o.b.toNat true else U.set o.a.toNat true) else U
def opAtP (os : List OpP) (i : Nat) : OpP := os.getD i ⟨0, 0, 0, 0, 0, 0, []⟩
def usedM (os : List OpP) : Nat → List Bool
  | 0 => (List.replicate os.length false).set (os.length - 1) true
  | m + 1 => stepU (usedM os m) (os.length - 1 - m) (opAtP os (os.length - 1 - m))
theorem stepU_length (U : List Bool) (i : Nat) (o : OpP) : (stepU U i o).length = U.length := by
  unfold stepU; split
  · split <;> simp
  · rfl
theorem usedM_length (os : List OpP) (m : Nat) : (usedM os m).length = os.length := by
  induction m with
  | zero => simp [usedM]
  | succ m ih => rw [usedM, stepU_length, ih]
theorem opAtP_some {os : List OpP} {i : Nat} {o : OpP} (h : os[i]? = some o) : opAtP os i = o := by
  unfold opAtP; rw [List.getD_eq_getElem?_getD, h]; rfl
theorem shapesN_fit {os : List OpP} {k : Nat} {S : List Sh} (hk : k ≤ os.length) (h : shapesN os k = some S) : ∀ i o, i < k → os[i]? = some o → fitsB i o = true := by
  induction k generalizing S with
  | zero => intro i o hi; omega
  | succ k ih =>
    obtain ⟨o, ho⟩ := getElem?_lt (show k < os.length by omega)
    rw [shapesN_succ ho] at h
    cases e : shapesN os k with
    | none => rw [e] at h; cases h
    | some S0 =>
      rw [e] at h
      intro i p hi hp
      by_cases hik : i = k
      · subst hik
        rw [ho] at hp; cases hp
        have hl := shapesN_length (by omega) e
        have h2 : stepSh S0 o = some S := h
        unfold stepSh at h2
        split at h2
        · rename_i hf; rw [hl] at hf; exact hf
        · cases h2
      · exact ih (by omega) e i p (by omega) hp
theorem valid_fit {os : List OpP} {S : List Sh} (h : shapesP os = some S) {i : Nat} {o : OpP} (ho : os[i]? = some o) : fitsB i o = true :=
  shapesN_fit (Nat.le_refl _) (shapesP_some h).2.1 i o (List.getElem?_eq_some_iff.1 ho).1 ho
end Go.Proofs.YtpadlmidojpbeaaGreat
/- x -/
namespace Go.Proofs.YtpadlmidojpbeaaGreat
open Go Go.RowKit
end Go.Proofs.YtpadlmidojpbeaaGreat
/- x -/
namespace Go.Proofs.YtpadlmidojpbeaaGreat
open Go Go.RowKit
theorem wp_appA {P : Program} {ops : Array Oper} {rest : List Oper} {o : Oper} {a : Act} {Q : Exit → Act → World → Prop} {e : TypeId} {W : World} {cs : Array Value} (hgd : o.guard = none) (s x : Operand) (t : TypeId)
    (ho : o.op = .call { callee := .builtin .append, args := #[s, x], argTypes := #[t, t] })
    (base : Nat) (i : TypeInfo) (z : Value) (size bytes : Nat) (ht : P.underlying t = some (.slice e)) (hi : P.info? e = some i) (hz : i.zero = some z)
    (hsize : i.size = size) (hby : i.bytes = bytes) (hzs : z.cells.size = size) (hsz : 0 < size)
    (hcs : cs.size = size) (h1 : ∀ u ∈ cs.toList, u.oneCell' = true)
    (v : Value) (n : Nat) (xs : List Value) (hs : a.eval s = v) (hown : W.ownsRow base e size v n xs) (hx : a.eval x = .slice (some ⟨W.heap.size, 0, none⟩) 1 1)
    (h63 : n + 1 ≤ maxLen) (hbytes : (n + 1) * bytes ≤ 140737488355328) (hbase : base ≤ W.heap.size)
    (h : ∀ v' w', w'.ownsRow base e size v' (n + 1) (xs ++ cs.toList) → (W.alloc (.cells cs e)).grownBy w' v.ownBlock → (v'.ownBlock = v.ownBlock ∨ v'.ownBlock = some (W.heap.size + 1)) → Below base W w' → base ≤ w'.heap.size → wpList P ops Q rest (a.put o.dst v') w') : wpList P ops Q (o :: rest) a (W.alloc (.cells cs e)) := by
  refine wpList_append_own_at (W.alloc (.cells cs e)) hgd s x t ho base e i z size bytes ht hi hz hsize hby hzs hsz v n xs hs (hown.alloc _) ⟨W.heap.size, 0, none⟩ 1 1 cs.toList hx (by simpa using hcs) ?_ h1 h63 hbytes (by simp; omega) ?_
  · intro j u hj
    rw [Addr.add_lit, World.cell?_alloc_at _ _ _ _ rfl]
    simpa using hj
  · intro v' w' h2 hg _ hat
    have hb : Below base W w' := ((Below.refl _ _).alloc hbase _).grown hg (by simp; omega) (fun j hj => (hown.lt j hj).1)
    refine h v' w' h2 hg (by simpa using hat) hb ?_
    have := hg.size
    simp at this
    omega
end Go.Proofs.YtpadlmidojpbeaaGreat
/- x -/
namespace Go.Proofs.YtpadlmidojpbeaaGreat
open Go Go.RowKit
end Go.Proofs.YtpadlmidojpbeaaGreat
/- x -/
namespace Go.Proofs.YtpadlmidojpbeaaGreat
open Go Go.RowKit
theorem info_bool : (Tryz.prog.info? 4).map (fun i => (i.zero, i.size, i.bytes)) = some (some (.bool false), 1, 1) := by kernel_rfl
end Go.Proofs.YtpadlmidojpbeaaGreat
/- x -/
namespace Go.Proofs.YtpadlmidojpbeaaGreat
open Go Go.RowKit
end Go.Proofs.YtpadlmidojpbeaaGreat
/- x -/
namespace Go.Proofs.YtpadlmidojpbeaaGreat
open Go Go.RowKit
end Go.Proofs.YtpadlmidojpbeaaGreat
/- x -/
namespace Go.Proofs.YtpadlmidojpbeaaGreat
open Go Go.RowKit
end Go.Proofs.YtpadlmidojpbeaaGreat
/- x -/
namespace Go.Proofs.YtpadlmidojpbeaaGreat
open Go Go.RowKit
theorem impl_row (w : World) (r c : Nat) (ad : Option Addr) (n cap : Nat) (hn : n = r * c) (hc1 : 1 ≤ c) (hc2 : c ≤ 16) (hr2 : r ≤ 16) (hcap : n ≤ cap) (i : Nat) (hi : i < r) (b off : Nat) (had : ad = some ⟨b, off, none⟩) :
    Calls Tryz.prog 139 #[.agg #[.int .i64 r, .int .i64 c, .slice ad n cap], .int .i64 i] w fun e w' => e = .returned (.slice (some ⟨b, off + i * c, none⟩) c (cap - i * c)) ∧ Below w.heap.size w w' := by
  subst had
  have h1 : i * c + c ≤ n := by
    rw [hn]
    have : (i + 1) * c ≤ r * c := Nat.mul_le_mul_right c (by omega)
    rw [Nat.succ_mul] at this; exact this
  have hnb : n ≤ 256 := by rw [hn]; exact Nat.le_trans (Nat.mul_le_mul hr2 hc2) (by decide)
  obtain ⟨p, hp⟩ : ∃ p, p = i * c := ⟨_, rfl⟩
  have e1 : ((i : Int) * (c : Int)) = (p : Int) := by rw [hp]; rfl
  have e2 : (((i : Int) + 1) * (c : Int)) = ((p + c : Nat) : Int) := by rw [hp, Int.add_mul, Int.one_mul]; rfl
  rw [← hp] at h1 ⊢
  clear hp hn
  go_enter Tryz.func139, Tryz.ntmps139
  go_wp2
  go_ret
  exact ⟨by rw [Nat.add_sub_cancel_left]; rfl, below1 _ _⟩
end Go.Proofs.YtpadlmidojpbeaaGreat
/- x -/
namespace Go.Proofs.YtpadlmidojpbeaaGreat
open Go Go.RowKit
theorem slices_CloneF (w : World) (ad : Option Addr) (cap : Nat) (xs : List Nat) (h : F32s w ad cap xs) (hc : ad = none → cap = 0) (hn : xs.length ≤ 1048576) :
    Calls Tryz.prog 77 #[.slice ad xs.length cap] w fun e w' => ∃ ad' cap', e = .returned (.slice ad' xs.length cap') ∧ Hid (RepF w' w.heap.size w'.heap.size ad' xs.length cap' xs) ∧ Below w.heap.size w w' := by
  refine (slices_Clone w ad cap xs h hc hn).mono ?_
  rintro e w' ⟨v, rfl, ho, hb⟩
  obtain ⟨ad', cap', rfl, hr⟩ := RepF.of_owns ho h.lt
  exact ⟨ad', cap', rfl, Lib.hid hr, hb⟩
theorem wrap_ok {x : Int} (h1 : -1000000 ≤ x) (h2 : x ≤ 1000000) : IntKind.i64.wrap x = x := by rw [IntKind.wrap_i64]; omega
end Go.Proofs.YtpadlmidojpbeaaGreat
/- x -/
namespace Go.Proofs.YtpadlmidojpbeaaGreat
open Go Go.RowKit
def nilOK (os : List OpD) : Prop := ∀ o ∈ os, o.ad = none → o.cap = 0
theorem OwnR.nilOK {w : World} {lo hi n cap : Nat} {ad : Option Addr} {us : List OpD} (h : OwnR opR w lo hi ad n cap us) : nilOK us := fun o ho =>
  (h.own.repF (List.mem_cons_of_mem _ (List.mem_flatMap.2 ⟨o, ho, List.mem_singleton.2 rfl⟩)) (h.ok o ho).1).nilcap
set_option maxHeartbeats 2000000 in
theorem impl_copyTensor (w : World) (r c : Int) (ad : Option Addr) (cap : Nat) (xs : List Nat) (h : F32s w ad cap xs) (hc : ad = none → cap = 0) (hn : xs.length ≤ 1048576) :
    Calls Tryz.prog 66 #[.agg #[.int .i64 r, .int .i64 c, .slice ad xs.length cap]] w fun e w' => ∃ ad' cap', e = .returned (.agg #[.int .i64 r, .int .i64 c, .slice ad' xs.length cap']) ∧ Hid (RepF w' w.heap.size w'.heap.size ad' xs.length cap' xs) ∧ Below w.heap.size w w' := by
  have b2 := below2 w (.cells #[.int .i64 r, .int .i64 c, .slice ad xs.length cap] 37) (.cells #[.int .i64 0, .int .i64 0, .slice none 0 0] 37)
  have K := Lib.hid (slices_CloneF _ ad cap xs (h.below b2) hc hn)
  have XB := Lib.hid ((BoxN.alloc w #[.int .i64 r, .int .i64 c, .slice ad xs.length cap] 37).below (below1 _ (.cells #[.int .i64 0, .int .i64 0, .slice none 0 0] 37)))
  have RB := Lib.hid (BoxN.alloc2 w (.cells #[.int .i64 r, .int .i64 c, .slice ad xs.length cap] 37) #[.int .i64 0, .int .i64 0, .slice none 0 0] 37)
  have B := Lib.hid b2
  obtain ⟨n, hN⟩ : ∃ n, n = xs.length := ⟨_, rfl⟩
  rw [← hN] at K XB RB B ⊢
  clear b2 h hN hn hc
  go_enter Tryz.func66, Tryz.ntmps66
  go_wp2_with fail
  refine K.out.mono ?_
  rintro e w' ⟨a', c', rfl, HR, hb⟩
  obtain ⟨-, x0, x1, x2, xf⟩ := (XB.out.below hb).three
  obtain ⟨-, r0, r1, r2, rf⟩ := (RB.out.below hb).three
  have HB := Lib.hid (bthen B.out hb)
  have hz := hb.size
  simp at hz
  clear hb
  go_wp2
  refine bodyPost_ret (v := .agg #[.int .i64 r, .int .i64 c, .slice a' n c']) (by simp [results, Tryz.results66, go_sem, r0, r1, r2, x0, x1, x2]) rfl ⟨_, _, rfl, Lib.hid ?_, ?_⟩
  · have h1 := setCs_repF (g := w.heap.size) (lo' := w.heap.size + 2) (i := 2) HR.out (by simp; omega) (by simp) (Nat.le_refl _) [.slice a' n c']
    have h2 := setCs_repF (g := w.heap.size + 1) (lo' := w.heap.size) (i := 0) h1 (by omega) (by omega) (Nat.le_refl _) [.int .i64 r, .int .i64 c, .slice a' n c']
    exact h2
  · exact setCs_below (setCs_below HB.out (g := w.heap.size) (by omega) 2 [.slice a' n c']) (g := w.heap.size + 1) (by omega) 0 [.int .i64 r, .int .i64 c, .slice a' n c']
end Go.Proofs.YtpadlmidojpbeaaGreat
/- x -/
namespace Go.Proofs.YtpadlmidojpbeaaGreat
open Go Go.RowKit
section
variable {P : Program} {ops : Array Oper} {C : World → Prop} {VC : FuncId → Array Value → Value → Prop} {Q : Act → Prop} {o : Oper} {rest : List Oper} {a : Act}
@[go_sem] def UponC (P : Program) (VC : FuncId → Array Value → Value → Prop) (C : World → Prop) (K : Value → Prop) : Result Next → Prop
  | .ok (.value v) w' => C w' ∧ K v
  | .ok .skip w' => C w' ∧ K undef
  | .ok (.enter f args) w' => C w' ∧ (Calls P f args w' fun e w'' => ∃ v, e = .returned v ∧ C w'' ∧ VC f args v) ∧ ∀ v, VC f args v → K v
  | _ => False
theorem cset_step {w0 : World} (h0 : C w0) (h : ∀ K : Act → Prop, (∀ a, WSet P ops C VC Q rest a → K a) → ∀ W : World, C W → if Region.wanted o (yielded ops a.tmps) then UponC P VC C (fun v => K (a.put o.dst v)) ((execOp a.eval o).run P W) else K (a.put o.dst undef)) :
    WSet P ops C VC Q (o :: rest) a := by
  have h := h _ (fun _ h => h)
  refine ⟨fun hw w' hC => ?_, fun v hv => ?_⟩
  · have := h w' hC
    rw [if_pos hw] at this
    revert this
    generalize (execOp a.eval o).run P w' = r
    intro this
    unfold UponC at this
    unfold FineRes
    split at this
    · exact this.1
    · exact this.1
    · exact ⟨this.1, this.2.1⟩
    · cases this
  · rcases hv with ⟨hw, w1, w2, hC, hv⟩ | ⟨hw, rfl⟩
    · have := h w1 hC
      rw [if_pos hw] at this
      unfold UponC at this
      rcases hv with hv | ⟨hv, rfl⟩ | ⟨f, args, hv, hvc⟩
      · rw [hv] at this; exact this.2
      · rw [hv] at this; exact this.2
      · rw [hv] at this; exact this.2.2 v hvc
    · have := h w0 h0
      rwa [if_neg (by rw [hw]; exact Bool.false_ne_true)] at this
theorem cset_nil (hq : Q a) : WSet P ops C VC Q [] a := hq
def VC1 (va : Value) (f : FuncId) (args : Array Value) (u : Value) : Prop := u = va
def Low (w W : World) : Prop := Below w.heap.size w W
@[go_sem] theorem low_drawn {w W : World} (h : Low w W) (n : Nat) : Low w (W.drewN n) = True := by
  exact eq_true (below_drewN h n)
theorem low_self (w : World) : Low w w := Below.refl _ _
theorem low_drew1 (w : World) : Low w { w with drawn := w.drawn + 1 } := Below.drew (Below.refl _ _)
theorem wp_region_low {id : Nat} {Q : Exit → Act → World → Prop} {a : Act} {w : World} {l : List Oper} (VC : FuncId → Array Value → Value → Prop) (hm : P.follows .mixedOrders = true) (hB : Region.lexB .any l.toArray = true)
    (h : WSet P l.toArray (Low w) VC (fun a' => ∀ w', Low w w' → Q .normal a' w') l a) : (Code.region id l.toArray true).wp P Q a w :=
  wp_region_set (Low w) VC hm hB (low_drew1 w) h
end
end Go.Proofs.YtpadlmidojpbeaaGreat
/- x -/
namespace Go.Proofs.YtpadlmidojpbeaaGreat
open Go Go.RowKit
section
variable {P : Program} {ops : Array Oper} {S : World → Prop} {VC : FuncId → Array Value → Value → Prop} {D : FuncId → Array Value → World → Value → World → Prop} {sp : List Nat}
def GoodM (P : Program) (ops : Array Oper) (S : World → Prop) (VC : FuncId → Array Value → Value → Prop) (o : Oper) (a : Act) : Prop := Region.wanted o (yielded ops a.tmps) = true → ∀ W, S W → FineRes P (Drawn W) VC ((execOp a.eval o).run P W)
@[go_sem] def SpecRes (P : Program) (D : FuncId → Array Value → World → Value → World → Prop) (K : Value → World → Prop) : Result Next → Prop
  | .ok (.value v) w' => K v w'
  | .ok .skip w' => K undef w'
  | .ok (.enter f args) w' => (Calls P f args w' fun e w'' => ∃ v, e = .returned v ∧ D f args w' v w'') ∧ ∀ v w'', D f args w' v w'' → K v w''
  | _ => False
def SpecAt (P : Program) (ops : Array Oper) (D : FuncId → Array Value → World → Value → World → Prop) (o : Oper) (a : Act) (w : World) (K : Value → World → Prop) : Prop :=
  (Region.wanted o (yielded ops a.tmps) = true → ∀ n : Nat, SpecRes P D K ((execOp a.eval o).run P (w.drewN n))) ∧ (Region.wanted o (yielded ops a.tmps) = false → K undef w)
theorem SpecRes.mono {K K' : Value → World → Prop} {r : Result Next} (h : SpecRes P D K r) (hk : ∀ v w, K v w → K' v w) : SpecRes P D K' r := by
  revert h
  unfold SpecRes
  split
  · exact fun h => hk _ _ h
  · exact fun h => hk _ _ h
  · exact fun h => ⟨h.1, fun v w'' hd => hk _ _ (h.2 v w'' hd)⟩
  · exact fun h => h
theorem SpecRes.all {ι : Type} {V : ι → Prop} {K : ι → Value → World → Prop} {r : Result Next} (i0 : ι) (h0 : V i0) (h : ∀ i, V i → SpecRes P D (K i) r) : SpecRes P D (fun v w => ∀ i, V i → K i v w) r := by
  revert h
  unfold SpecRes
  split
  · exact fun h i hi => h i hi
  · exact fun h i hi => h i hi
  · exact fun h => ⟨(h i0 h0).1, fun v w'' hd i hi => (h i hi).2 v w'' hd⟩
  · exact fun h => h i0 h0
theorem SpecRes.some {K : Value → World → Prop} {r : Result Next} (h : SpecRes P D K r) : ∃ v w, K v w := by
  revert h
  unfold SpecRes
  split
  · exact fun h => ⟨_, _, h⟩
  · exact fun h => ⟨_, _, h⟩
  · intro h
    obtain ⟨e, w'', fr, ⟨v, _, hd⟩, _⟩ := h.1 []
    exact ⟨v, w'', h.2 v w'' hd⟩
  · exact fun h => h.elim
theorem SpecAt.mono {o : Oper} {a : Act} {w : World} {K K' : Value → World → Prop} (h : SpecAt P ops D o a w K) (hk : ∀ v w, K v w → K' v w) : SpecAt P ops D o a w K' :=
  ⟨fun hw n => (h.1 hw n).mono hk, fun hw => hk _ _ (h.2 hw)⟩
theorem SpecAt.all {o : Oper} {a : Act} {w : World} {ι : Type} {V : ι → Prop} {K : ι → Value → World → Prop} (i0 : ι) (h0 : V i0) (h : ∀ i, V i → SpecAt P ops D o a w (K i)) : SpecAt P ops D o a w (fun v w => ∀ i, V i → K i v w) :=
  ⟨fun hw n => SpecRes.all i0 h0 fun i hi => (h i hi).1 hw n, fun hw i hi => (h i hi).2 hw⟩
theorem SpecAt.some {o : Oper} {a : Act} {w : World} {K : Value → World → Prop} (h : SpecAt P ops D o a w K) : ∃ v w, K v w := by
  cases hw : Region.wanted o (yielded ops a.tmps)
  · exact ⟨_, _, h.2 hw⟩
  · exact (h.1 hw 0).some
theorem specAt_put {o : Oper} {a : Act} {d : Option Tmp} {u : Value} {w : World} {K : Value → World → Prop} (he : execOp (a.put d u).eval o = execOp a.eval o) (hw : Region.wanted o (yielded ops (a.put d u).tmps) = Region.wanted o (yielded ops a.tmps)) :
    SpecAt P ops D o (a.put d u) w K ↔ SpecAt P ops D o a w K := by
  unfold SpecAt
  rw [he, hw]
theorem goodM_put {o : Oper} {a : Act} {d : Option Tmp} {u : Value} (he : execOp (a.put d u).eval o = execOp a.eval o) (hw : Region.wanted o (yielded ops (a.put d u).tmps) = Region.wanted o (yielded ops a.tmps)) :
    GoodM P ops S VC o (a.put d u) ↔ GoodM P ops S VC o a := by
  unfold GoodM
  rw [he, hw]
theorem some_valM {o : Oper} {a : Act} {w0 : World} (h0 : S w0) (h : GoodM P ops S VC o a) : ∃ v, Vals P ops S VC o a v := by
  by_cases hw : Region.wanted o (yielded ops a.tmps) = true
  · have hf := h hw w0 h0
    unfold FineRes at hf
    split at hf
    · rename_i v w' he; exact ⟨v, .inl ⟨hw, w0, w', h0, .inl he⟩⟩
    · rename_i w' he; exact ⟨undef, .inl ⟨hw, w0, w', h0, .inr (.inl ⟨he, rfl⟩)⟩⟩
    · rename_i f args w' he
      obtain ⟨_, hc⟩ := hf
      obtain ⟨e, w'', fr, ⟨v, _, _, hv⟩, _⟩ := hc []
      exact ⟨v, .inl ⟨hw, w0, w', h0, .inr (.inr ⟨f, args, he, hv⟩)⟩⟩
    · cases hf
  · exact ⟨undef, .inr ⟨by simpa using hw, rfl⟩⟩
def MSet (P : Program) (md : Region.Mode) (ops : Array Oper) (S : World → Prop) (VC : FuncId → Array Value → Value → Prop) (D : FuncId → Array Value → World → Value → World → Prop) (sp : List Nat) (n : Nat) (L : Array Bool → Act → World → Prop) : Nat → Array Bool → Act → World → Prop
  | 0, listed, a, w => L listed a w
  | fuel + 1, listed, a, w => Region.ready md ops listed ≠ [] ∧
    ∀ i ∈ Region.ready md ops listed, ∀ o, ops[i]? = some o → i < n ∧
      (sp.contains i = true → SpecAt P ops D o a w fun v w' => S w' ∧ MSet P md ops S VC D sp n L fuel (listed.setIfInBounds i true) (a.put o.dst v) w') ∧
      (sp.contains i = false → GoodM P ops S VC o a ∧ ∀ v, Vals P ops S VC o a v → MSet P md ops S VC D sp n L fuel (listed.setIfInBounds i true) (a.put o.dst v) w)
structure MInv (md : Region.Mode) (ops : Array Oper) (n : Nat) (listed : Array Bool) : Prop where
  inv : HInv md ops n listed
theorem mset_plain {md : Region.Mode} {n : Nat} {L : Array Bool → Act → World → Prop} {i : Nat} {oi : Oper} (hi : ops[i]? = some oi) (hsp : sp.contains i = false) (hsel : ∀ (j : Nat) (o : Oper) cs b, ops[j]? = some o → o.op ≠ .select cs b)
    (hlt : ∀ listed, HInv md ops n listed → listed.getD i true = false → ∀ j ∈ Region.ready md ops listed, j < n) (hdone : ∀ listed a w, L listed a w → ∀ j ∈ Region.ready md ops listed, n ≤ j) :
    ∀ (fuel : Nat) (listed : Array Bool) (a : Act) (w : World), S w → HInv md ops n listed →
      (∀ j oj, ops[j]? = some oj → j ≠ i → listed.getD j true = false → (∀ e ∈ oj.after, Region.binds md e = true → e.on ≠ i) → oi.apart ops oj = true) →
      i ∈ Region.ready md ops listed → GoodM P ops S VC oi a →
      (∀ v, Vals P ops S VC oi a v → MSet P md ops S VC D sp n L fuel (listed.setIfInBounds i true) (a.put oi.dst v) w) → MSet P md ops S VC D sp n L (fuel + 1) listed a w
  | 0, listed, a, w, h0, inv, _, hr, hg, H => by
    have hun := (mem_ready.1 hr).1
    refine ⟨fun e => (by rw [e] at hr; cases hr), fun j hj o ho => ?_⟩
    have hjn := hlt listed inv hun j hj
    by_cases hji : j = i
    · subst hji
      obtain rfl : oi = o := Option.some.inj (hi.symm.trans ho)
      exact ⟨hjn, fun h => (by rw [hsp] at h; cases h), fun _ => ⟨hg, H⟩⟩
    · exfalso
      obtain ⟨v, hv⟩ := some_valM h0 hg
      have := hdone _ _ _ (H v hv) j (ready_mono hj hji)
      omega
  | fuel + 1, listed, a, w, h0, inv, hfree, hr, hg, H => by
    have huni := (mem_ready.1 hr).1
    refine ⟨fun e => (by rw [e] at hr; cases hr), fun j hj oj hoj => ?_⟩
    have hjn := hlt listed inv huni j hj
    by_cases hji : j = i
    · subst hji
      obtain rfl : oi = oj := Option.some.inj (hi.symm.trans hoj)
      exact ⟨hjn, fun h => (by rw [hsp] at h; cases h), fun _ => ⟨hg, H⟩⟩
    · have hun : listed.getD j true = false := (mem_ready.1 hj).1
      have hno : ∀ e ∈ oj.after, Region.binds md e = true → e.on ≠ i := by
        intro e he hb hon
        obtain ⟨_, o', ho', hall⟩ := mem_ready.1 hj
        obtain rfl : oj = o' := Option.some.inj (hoj.symm.trans ho')
        have h1 := hall e he hb
        rw [hon, getD_two huni] at h1; cases h1
      obtain ⟨x1, x2, x3⟩ := Oper.apart_spec (hfree j oj hoj hji hun hno)
      have si := fun cs b => hsel i oi cs b hi
      have sj := fun cs b => hsel j oj cs b hoj
      have ej : ∀ v, execOp (a.put oi.dst v).eval oj = execOp a.eval oj := fun v => execOp_put oj sj a oi.dst v x1
      have wj : ∀ v, Region.wanted oj (yielded ops (a.put oi.dst v).tmps) = Region.wanted oj (yielded ops a.tmps) := fun v => wanted_put oj a oi.dst v x1
      have gi : ∀ u, (GoodM P ops S VC oi (a.put oj.dst u) ↔ GoodM P ops S VC oi a) := fun u => goodM_put (execOp_put oi si a oj.dst u x3) (wanted_put oi a oj.dst u x3)
      have vi : ∀ u v, (Vals P ops S VC oi (a.put oj.dst u) v ↔ Vals P ops S VC oi a v) := fun u v => vals_put (execOp_put oi si a oj.dst u x3) (wanted_put oi a oj.dst u x3)
      obtain ⟨v0, hv0⟩ := some_valM h0 hg
      have hj' := ready_mono hj hji
      have hfree' : ∀ k ok, ops[k]? = some ok → k ≠ i → (listed.setIfInBounds j true).getD k true = false → (∀ e ∈ ok.after, Region.binds md e = true → e.on ≠ i) → oi.apart ops ok = true := by
        intro k ok hk hki hun' hno'
        refine hfree k ok hk hki ?_ hno'
        by_cases hjk : j = k
        · subst hjk; exact hun
        · rw [getD_set_ne true hjk] at hun'; exact hun'
      refine ⟨hjn, fun hs => ?_, fun hs => ?_⟩
      · have h1 : ∀ v, Vals P ops S VC oi a v → SpecAt P ops D oj a w fun u w' => S w' ∧ MSet P md ops S VC D sp n L fuel ((listed.setIfInBounds i true).setIfInBounds j true) ((a.put oi.dst v).put oj.dst u) w' := fun v hv =>
          (specAt_put (ej v) (wj v)).1 (((H v hv).2 j hj' oj hoj).2.1 hs)
        refine (SpecAt.all v0 hv0 h1).mono fun u w' hK => ⟨(hK v0 hv0).1, ?_⟩
        refine mset_plain hi hsp hsel hlt hdone fuel (listed.setIfInBounds j true) (a.put oj.dst u) w' (hK v0 hv0).1 (inv.set hj hjn) hfree' (ready_mono hr (Ne.symm hji)) ((gi u).2 hg) fun v hv => ?_
        have := (hK v ((vi u v).1 hv)).2
        rw [Array.setIfInBounds_comm _ _ hji, ← Act.put_comm a v u x2]
        exact this
      · have gj : ∀ v, (GoodM P ops S VC oj (a.put oi.dst v) ↔ GoodM P ops S VC oj a) := fun v => goodM_put (ej v) (wj v)
        have vj : ∀ v u, (Vals P ops S VC oj (a.put oi.dst v) u ↔ Vals P ops S VC oj a u) := fun v u => vals_put (ej v) (wj v)
        refine ⟨(gj v0).1 (((H v0 hv0).2 j hj' oj hoj).2.2 hs).1, fun u hu => ?_⟩
        refine mset_plain hi hsp hsel hlt hdone fuel (listed.setIfInBounds j true) (a.put oj.dst u) w h0 (inv.set hj hjn) hfree' (ready_mono hr (Ne.symm hji)) ((gi u).2 hg) fun v hv => ?_
        have := (((H v ((vi u v).1 hv)).2 j hj' oj hoj).2.2 hs).2 u ((vj v u).2 hu)
        rw [Array.setIfInBounds_comm _ _ hji, ← Act.put_comm a v u x2]
        exact this
theorem mset_spec {md : Region.Mode} {n : Nat} {L : Array Bool → Act → World → Prop} {i : Nat} {oi : Oper} (hi : ops[i]? = some oi) (hsp : sp.contains i = true) (hsel : ∀ (j : Nat) (o : Oper) cs b, ops[j]? = some o → o.op ≠ .select cs b)
    (hlt : ∀ listed, HInv md ops n listed → listed.getD i true = false → ∀ j ∈ Region.ready md ops listed, j < n) (hdone : ∀ listed a w, L listed a w → ∀ j ∈ Region.ready md ops listed, n ≤ j)
    (hone : ∀ listed, HInv md ops n listed → (∀ j, j < i → listed.getD j false = true) → listed.getD i true = false → ∀ j ∈ Region.ready md ops listed, j ≠ i → sp.contains j = false) :
    ∀ (fuel : Nat) (listed : Array Bool) (a : Act) (w : World), S w → HInv md ops n listed → (∀ j, j < i → listed.getD j false = true) →
      (∀ j oj, ops[j]? = some oj → j ≠ i → listed.getD j true = false → (∀ e ∈ oj.after, Region.binds md e = true → e.on ≠ i) → oi.apart ops oj = true) →
      i ∈ Region.ready md ops listed →
      (SpecAt P ops D oi a w fun v w' => S w' ∧ MSet P md ops S VC D sp n L fuel (listed.setIfInBounds i true) (a.put oi.dst v) w') → MSet P md ops S VC D sp n L (fuel + 1) listed a w
  | 0, listed, a, w, h0, inv, hp, _, hr, H => by
    have hun := (mem_ready.1 hr).1
    refine ⟨fun e => (by rw [e] at hr; cases hr), fun j hj o ho => ?_⟩
    have hjn := hlt listed inv hun j hj
    by_cases hji : j = i
    · subst hji
      obtain rfl : oi = o := Option.some.inj (hi.symm.trans ho)
      exact ⟨hjn, fun _ => H, fun h => (by rw [hsp] at h; cases h)⟩
    · exfalso
      obtain ⟨v, w', _, hL⟩ := H.some
      have := hdone _ _ _ hL j (ready_mono hj hji)
      omega
  | fuel + 1, listed, a, w, h0, inv, hp, hfree, hr, H => by
    have huni := (mem_ready.1 hr).1
    refine ⟨fun e => (by rw [e] at hr; cases hr), fun j hj oj hoj => ?_⟩
    have hjn := hlt listed inv huni j hj
    by_cases hji : j = i
    · subst hji
      obtain rfl : oi = oj := Option.some.inj (hi.symm.trans hoj)
      exact ⟨hjn, fun _ => H, fun h => (by rw [hsp] at h; cases h)⟩
    · have hun : listed.getD j true = false := (mem_ready.1 hj).1
      have hjs := hone listed inv hp huni j hj hji
      have hno : ∀ e ∈ oj.after, Region.binds md e = true → e.on ≠ i := by
        intro e he hb hon
        obtain ⟨_, o', ho', hall⟩ := mem_ready.1 hj
        obtain rfl : oj = o' := Option.some.inj (hoj.symm.trans ho')
        have h1 := hall e he hb
        rw [hon, getD_two huni] at h1; cases h1
      obtain ⟨x1, x2, x3⟩ := Oper.apart_spec (hfree j oj hoj hji hun hno)
      have si := fun cs b => hsel i oi cs b hi
      have sj := fun cs b => hsel j oj cs b hoj
      have ej : ∀ v, execOp (a.put oi.dst v).eval oj = execOp a.eval oj := fun v => execOp_put oj sj a oi.dst v x1
      have wj : ∀ v, Region.wanted oj (yielded ops (a.put oi.dst v).tmps) = Region.wanted oj (yielded ops a.tmps) := fun v => wanted_put oj a oi.dst v x1
      have gj : ∀ v, (GoodM P ops S VC oj (a.put oi.dst v) ↔ GoodM P ops S VC oj a) := fun v => goodM_put (ej v) (wj v)
      have vj : ∀ v u, (Vals P ops S VC oj (a.put oi.dst v) u ↔ Vals P ops S VC oj a u) := fun v u => vals_put (ej v) (wj v)
      have hj' := ready_mono hj hji
      have hfree' : ∀ k ok, ops[k]? = some ok → k ≠ i → (listed.setIfInBounds j true).getD k true = false → (∀ e ∈ ok.after, Region.binds md e = true → e.on ≠ i) → oi.apart ops ok = true := by
        intro k ok hk hki hun' hno'
        refine hfree k ok hk hki ?_ hno'
        by_cases hjk : j = k
        · subst hjk; exact hun
        · rw [getD_set_ne true hjk] at hun'; exact hun'
      refine ⟨hjn, fun hs => (by rw [hjs] at hs; cases hs), fun hs => ?_⟩
      obtain ⟨v0, w0, _, hv0⟩ := H.some
      refine ⟨(gj v0).1 ((hv0.2 j hj' oj hoj).2.2 hs).1, fun u hu => ?_⟩
      refine mset_spec hi hsp hsel hlt hdone hone fuel (listed.setIfInBounds j true) (a.put oj.dst u) w h0 (inv.set hj hjn) (fun q hq => getD_set_true (hp q hq)) hfree' (ready_mono hr (Ne.symm hji)) ?_
      refine (specAt_put (execOp_put oi si a oj.dst u x3) (wanted_put oi a oj.dst u x3)).2 (H.mono fun v w' hK => ⟨hK.1, ?_⟩)
      have := ((hK.2.2 j hj' oj hoj).2.2 hs).2 u ((vj v u).2 hu)
      rw [Array.setIfInBounds_comm _ _ hji, ← Act.put_comm a v u x2]
      exact this
def MWalk (P : Program) (ops : Array Oper) (S : World → Prop) (VC : FuncId → Array Value → Value → Prop) (D : FuncId → Array Value → World → Value → World → Prop) (sp : List Nat) (Q : Act → World → Prop) : Nat → List Oper → Act → World → Prop
  | _, [], a, w => Q a w
  | k, o :: rest, a, w =>
    (sp.contains k = true → SpecAt P ops D o a w fun v w' => S w' ∧ MWalk P ops S VC D sp Q (k + 1) rest (a.put o.dst v) w') ∧
    (sp.contains k = false → GoodM P ops S VC o a ∧ ∀ v, Vals P ops S VC o a v → MWalk P ops S VC D sp Q (k + 1) rest (a.put o.dst v) w)
def depB (md : Region.Mode) (ops : Array Oper) : Nat → Nat → Nat → Bool
  | 0, _, _ => false
  | f + 1, t, i => match ops[t]? with
    | none => false
    | some o => o.after.any fun e => Region.binds md e && (e.on == i || depB md ops f e.on i)
theorem depB_listed {md : Region.Mode} {n : Nat} {listed : Array Bool} (inv : HInv md ops n listed) {i : Nat} : ∀ (f t : Nat), listed.getD t false = true → depB md ops f t i = true → listed.getD i false = true
  | 0, _, _, h => by cases h
  | f + 1, t, ht, h => by
    unfold depB at h
    split at h
    · cases h
    · rename_i o ho
      obtain ⟨e, he, hb⟩ := Array.any_eq_true'.1 h
      simp only [Bool.and_eq_true, Bool.or_eq_true, beq_iff_eq] at hb
      have h1 := inv.closed t o ho ht e he hb.1
      rcases hb.2 with h2 | h2
      · rw [← h2]; exact h1
      · exact depB_listed inv f e.on h1 h2
theorem depB_ready {md : Region.Mode} {n : Nat} {listed : Array Bool} (inv : HInv md ops n listed) {i : Nat} (f t : Nat) (ht : t ∈ Region.ready md ops listed) (h : depB md ops f t i = true) : listed.getD i false = true := by
  cases f with
  | zero => cases h
  | succ f =>
    unfold depB at h
    obtain ⟨_, ot, hot, hall⟩ := mem_ready.1 ht
    rw [hot] at h
    obtain ⟨e, he, hb⟩ := Array.any_eq_true'.1 h
    simp only [Bool.and_eq_true, Bool.or_eq_true, beq_iff_eq] at hb
    have h1 := hall e he hb.1
    rcases hb.2 with h2 | h2
    · rw [← h2]; exact h1
    · exact depB_listed inv f e.on h1 h2
def specB (md : Region.Mode) (ops : Array Oper) (sp : List Nat) : Bool := sp.all fun i => sp.all fun j => decide (j ≤ i) || depB md ops ops.size j i
theorem one_of_specB {md : Region.Mode} {n i : Nat} (hB : specB md ops sp = true) (hi : sp.contains i = true) (listed : Array Bool) (inv : HInv md ops n listed) (hp : ∀ j, j < i → listed.getD j false = true) (hun : listed.getD i true = false) :
    ∀ j ∈ Region.ready md ops listed, j ≠ i → sp.contains j = false := by
  intro j hj hji
  cases hs : sp.contains j with
  | false => rfl
  | true =>
    exfalso
    have h1 := List.all_eq_true.1 (List.all_eq_true.1 hB i (by simpa using hi)) j (by simpa using hs)
    simp only [Bool.or_eq_true, decide_eq_true_eq] at h1
    rcases h1 with h1 | h1
    · have h2 := hp j (by omega)
      have h3 := getD_two (mem_ready.1 hj).1
      rw [h2] at h3; cases h3
    · have h2 := depB_ready inv _ j hj h1
      rw [getD_two hun] at h2; cases h2
theorem mset_lex {md : Region.Mode} {n : Nat} {L : Array Bool → Act → World → Prop} {Lq : Act → World → Prop} (hS : ∀ W q, S W → S (W.drewN q)) (hsel : Region.noSelect ops = true) (hB2 : specB md ops sp = true)
    (hlt : ∀ i, i < n → ∀ listed, HInv md ops n listed → listed.getD i true = false → ∀ j ∈ Region.ready md ops listed, j < n) (hdone : ∀ listed a w, L listed a w → ∀ j ∈ Region.ready md ops listed, n ≤ j)
    (lex : Nat → Nat → Array Bool → Bool) (hlex : ∀ len k listed, lex (len + 1) k listed = true → (Region.ready md ops listed).contains k = true ∧ Region.free md ops listed k = true ∧ lex len (k + 1) (listed.setIfInBounds k true) = true)
    (hend : ∀ listed a w, lex 0 n listed = true → Lq a w → L listed a w) :
    ∀ (l : List Oper) (k : Nat) (listed : Array Bool) (a : Act) (w : World), S w → (∀ j, j < l.length → l[j]? = ops[k + j]?) → k + l.length = n → HInv md ops n listed → (∀ j, j < k → listed.getD j false = true) →
    lex l.length k listed = true → MWalk P ops S VC D sp Lq k l a w → MSet P md ops S VC D sp n L l.length listed a w
  | [], k, listed, a, w, _, _, hk, _, _, hB, h => by
    have : k = n := by simpa using hk
    subst this
    exact hend listed a w hB h
  | o :: l, k, listed, a, w, h0, hl, hk, inv, hp, hB, h => by
    have hk0 : ops[k]? = some o := by simpa using (hl 0 (by simp)).symm
    obtain ⟨hr, hf, hB'⟩ := hlex _ _ _ hB
    have hkn : k < n := by simp only [List.length_cons] at hk; omega
    have hks : k < ops.size := (Array.getElem?_eq_some_iff.1 hk0).1
    have hr' : k ∈ Region.ready md ops listed := by simpa using hr
    have hl' : ∀ j, j < l.length → l[j]? = ops[k + 1 + j]? := fun j hj => by have := hl (j + 1) (by simp; omega); simpa [Nat.add_assoc, Nat.add_comm 1 j] using this
    have hkl : k + 1 + l.length = n := by simp only [List.length_cons] at hk; omega
    have hp' : ∀ j, j < k + 1 → (listed.setIfInBounds k true).getD j false = true := fun j hj => by
      by_cases e : j = k
      · subst e
        have : j < listed.size := by rw [inv.size]; exact hks
        simp [Array.getD_eq_getD_getElem?, this]
      · exact getD_set_true (hp j (by omega))
    cases hsp : sp.contains k with
    | true =>
      refine mset_spec hk0 hsp (Region.noSelect_spec hsel) (hlt k hkn) hdone (one_of_specB hB2 hsp) l.length listed a w h0 inv hp (Region.free_spec hk0 hf) hr' ?_
      exact (h.1 hsp).mono fun v w' hK => ⟨hK.1, mset_lex hS hsel hB2 hlt hdone lex hlex hend l (k + 1) _ _ w' hK.1 hl' hkl (inv.set hr' hkn) hp' hB' hK.2⟩
    | false =>
      refine mset_plain hk0 hsp (Region.noSelect_spec hsel) (hlt k hkn) hdone l.length listed a w h0 inv (Region.free_spec hk0 hf) hr' (h.2 hsp).1 fun v hv => ?_
      exact mset_lex hS hsel hB2 hlt hdone lex hlex hend l (k + 1) _ _ w h0 hl' hkl (inv.set hr' hkn) hp' hB' ((h.2 hsp).2 v hv)
theorem any_of_mset {md : Region.Mode} {n g : Nat} {L : Array Bool → Act → World → Prop} {Q' : Exit → Act → World → Prop} (hS : ∀ W q, S W → S (W.drewN q)) (hL : ∀ listed a w q, S w → L listed a w → wpAny P md ops Q' g listed a (w.drewN q)) :
    ∀ (fuel : Nat) (listed : Array Bool) (a : Act) (w : World) (q : Nat), S w → MSet P md ops S VC D sp n L fuel listed a w → wpAny P md ops Q' (fuel + g) listed a (w.drewN q)
  | 0, _, _, _, _, hw, h => by rw [Nat.zero_add]; exact hL _ _ _ _ hw h
  | fuel + 1, listed, a, w, q, hw, h => by
    rw [show fuel + 1 + g = (fuel + g) + 1 by omega]
    refine ⟨fun e => absurd e h.1, fun i hi => ?_⟩
    obtain ⟨_, o, ho, _⟩ := mem_ready.1 hi
    obtain ⟨_, h1, h2⟩ := h.2 i hi o ho
    unfold wpOp
    simp only [ho]
    cases hsp : sp.contains i with
    | true =>
      obtain ⟨h3, h4⟩ := h1 hsp
      by_cases hwant : Region.wanted o (yielded ops a.tmps) = true
      · rw [if_pos hwant]
        left
        have hf := h3 hwant q
        unfold Oper.wp
        unfold SpecRes at hf
        split at hf
        · rename_i v w' he
          rw [he]
          exact any_of_mset hS hL fuel _ _ w' 0 hf.1 hf.2
        · rename_i w' he
          rw [he]
          exact any_of_mset hS hL fuel _ _ w' 0 hf.1 hf.2
        · rename_i f args w' he
          rw [he]
          obtain ⟨hc, hk⟩ := hf
          refine hc.mono fun e w'' ⟨v, hev, hd⟩ => ?_
          subst hev
          exact any_of_mset hS hL fuel _ _ w'' 0 (hk v w'' hd).1 (hk v w'' hd).2
        · cases hf
      · have hwant' : Region.wanted o (yielded ops a.tmps) = false := by simpa using hwant
        rw [if_neg hwant]
        exact any_of_mset hS hL fuel _ _ w q (h4 hwant').1 (h4 hwant').2
    | false =>
      obtain ⟨hg, hv⟩ := h2 hsp
      have hSq := hS w q hw
      have hadd : ∀ m, (w.drewN q).drewN m = w.drewN (q + m) := fun m => by simp [World.drewN, Nat.add_assoc]
      by_cases hwant : Region.wanted o (yielded ops a.tmps) = true
      · rw [if_pos hwant]
        left
        have hf := hg hwant _ hSq
        unfold Oper.wp
        unfold FineRes at hf
        split at hf
        · rename_i v w' he
          rw [he]
          obtain ⟨m, rfl⟩ := hf
          have h5 := any_of_mset hS hL fuel _ _ w (q + m) hw (hv v (.inl ⟨hwant, _, _, hSq, .inl he⟩))
          rw [← hadd] at h5
          exact h5
        · rename_i w' he
          rw [he]
          obtain ⟨m, rfl⟩ := hf
          have h5 := any_of_mset hS hL fuel _ _ w (q + m) hw (hv undef (.inl ⟨hwant, _, _, hSq, .inr (.inl ⟨he, rfl⟩)⟩))
          rw [← hadd] at h5
          exact h5
        · rename_i f args w' he
          rw [he]
          obtain ⟨hC', hc⟩ := hf
          refine hc.mono fun e w'' ⟨v, hev, ⟨m, hm⟩, hvc⟩ => ?_
          subst hev
          subst hm
          have h5 := any_of_mset hS hL fuel _ _ w (q + m) hw (hv v (.inl ⟨hwant, _, _, hSq, .inr (.inr ⟨f, args, he, hvc⟩)⟩))
          rw [← hadd] at h5
          exact h5
        · cases hf
      · have hwant' : Region.wanted o (yielded ops a.tmps) = false := by simpa using hwant
        rw [if_neg hwant]
        exact any_of_mset hS hL fuel _ _ w q hw (hv undef (.inr ⟨hwant', rfl⟩))
def mixB (ops : Array Oper) (n : Nat) (sp : List Nat) : Bool :=
  Region.noSelect ops && decide (n < ops.size) && sinkP .any ops 0 n && chainP .any ops n && specB .any ops sp && Region.lexHead .any ops (ops.size - n) n 0 (Array.replicate ops.size false)
def mixB0 (ops : Array Oper) (sp : List Nat) : Bool := Region.noSelect ops && specB .any ops sp && Region.lexFrom .any ops ops.size 0 (Array.replicate ops.size false)
theorem wp_region_mix {id : Nat} {Q : Exit → Act → World → Prop} {a : Act} {w : World} {l : List Oper} (n : Nat) (sp : List Nat) (S : World → Prop) (VC : FuncId → Array Value → Value → Prop) (D : FuncId → Array Value → World → Value → World → Prop) (hm : P.follows .mixedOrders = true) (hB : mixB l.toArray n sp = true)
    (hS0 : S w) (hS : ∀ W q, S W → S (W.drewN q)) (h : MWalk P l.toArray S VC D sp (fun a' w1 => ∀ q, wpList P l.toArray Q (l.drop n) a' (w1.drewN q)) 0 (l.take n) a w) : (Code.region id l.toArray true).wp P Q a w := by
  simp only [mixB, Bool.and_eq_true, decide_eq_true_eq] at hB
  obtain ⟨⟨⟨⟨⟨hsel, hn⟩, hs⟩, hc⟩, hsp⟩, hlex⟩ := hB
  have hn' : n < l.length := by simpa using hn
  have htl : (l.take n).length = n := by simp; omega
  have hdl : (l.drop n).length = l.toArray.size - n := by simp
  have gf : ∀ i, (Array.replicate l.toArray.size false).getD i false = false := fun i => by
    simp only [Array.getD_eq_getD_getElem?, Array.getElem?_replicate]; split <;> rfl
  have inv0 : HInv .any l.toArray n (Array.replicate l.toArray.size false) :=
    ⟨by simp, fun j oj _ hl => (by rw [gf] at hl; cases hl), fun t _ ht => getD_in2 (by simpa using ht) (gf t)⟩
  have H := mset_lex (md := .any) (L := fun listed' a' w' => Region.seqB .any l.toArray (l.toArray.size - n) n listed' = true ∧ ∀ q, wpList P l.toArray Q (l.drop n) a' (w'.drewN q)) hS hsel hsp
    (fun i hi listed inv hun j hj => by
      rcases Nat.lt_or_ge j n with h | h
      · exact h
      · exact absurd hj (late hs hc hn inv (p := 0) (fun j hj => by omega) _ i rfl hi hun j h))
    (fun listed a w hL => seqB_ready hL.1) (fun len k listed => Region.lexHead .any l.toArray (l.toArray.size - n) len k listed)
    (fun len k listed h => by
      have h : Region.lexHead .any l.toArray (l.toArray.size - n) (len + 1) k listed = true := h
      simp only [Region.lexHead, Bool.and_eq_true] at h
      exact ⟨h.1.1, h.1.2, h.2⟩)
    (fun listed a w he hq => ⟨by simpa [Region.lexHead] using he, hq⟩)
    (l.take n) 0 _ a w hS0 (fun j hj => by
      have hj' : j < n := by rw [htl] at hj; exact hj
      simp [hj']) (by simpa using htl) inv0 (fun j hj => by omega) (by rw [htl]; exact hlex) h
  refine wp_region_any hm ?_
  have := any_of_mset (Q' := Q) (g := l.toArray.size - n) hS (fun listed a' w' q hw' hL => by
    have := wpAny_of_seq (md := .any) (Q' := Q) (l.drop n) n listed a' (w'.drewN q) (fun j => by simp [List.getElem?_drop]) (by rw [hdl]; exact hL.1) (hL.2 q)
    rwa [hdl] at this) _ _ _ _ 1 hS0 H
  rw [htl, show n + (l.toArray.size - n) = l.toArray.size by omega] at this
  exact this
theorem wp_region_mix0 {id : Nat} {Q : Exit → Act → World → Prop} {a : Act} {w : World} {l : List Oper} (sp : List Nat) (S : World → Prop) (VC : FuncId → Array Value → Value → Prop) (D : FuncId → Array Value → World → Value → World → Prop) (hm : P.follows .mixedOrders = true) (hB : mixB0 l.toArray sp = true)
    (hS0 : S w) (hS : ∀ W q, S W → S (W.drewN q)) (h : MWalk P l.toArray S VC D sp (fun a' w1 => ∀ q, Q .normal a' (w1.drewN q)) 0 l a w) : (Code.region id l.toArray true).wp P Q a w := by
  simp only [mixB0, Bool.and_eq_true] at hB
  obtain ⟨⟨hsel, hsp⟩, hlex⟩ := hB
  have gf : ∀ i, (Array.replicate l.toArray.size false).getD i false = false := fun i => by
    simp only [Array.getD_eq_getD_getElem?, Array.getElem?_replicate]; split <;> rfl
  have inv0 : HInv .any l.toArray l.length (Array.replicate l.toArray.size false) :=
    ⟨by simp, fun j oj _ hl => (by rw [gf] at hl; cases hl), fun t h1 ht => getD_in2 (by simpa using ht) (gf t)⟩
  have H := mset_lex (md := .any) (L := fun listed' a' w' => Region.ready .any l.toArray listed' = [] ∧ ∀ q, Q .normal a' (w'.drewN q)) hS hsel hsp
    (fun i hi listed inv hun j hj => by
      obtain ⟨_, oj, hoj, _⟩ := mem_ready.1 hj
      have := (Array.getElem?_eq_some_iff.1 hoj).1
      simpa using this)
    (fun listed a w hL j hj => by rw [hL.1] at hj; cases hj) (fun len k listed => Region.lexFrom .any l.toArray len k listed)
    (fun len k listed h => by
      have h : Region.lexFrom .any l.toArray (len + 1) k listed = true := h
      simp only [Region.lexFrom, Bool.and_eq_true] at h
      exact ⟨h.1.1, h.1.2, h.2⟩)
    (fun listed a w he hq => ⟨by simpa [Region.lexFrom] using he, hq⟩)
    l 0 _ a w hS0 (fun j hj => by simp) (by simp) inv0 (fun j hj => by omega) (by simpa using hlex) h
  refine wp_region_any hm ?_
  have := any_of_mset (Q' := Q) (g := 0) hS (fun listed a' w' q hw' hL => ⟨hL.1, hL.2 q⟩) _ _ _ _ 1 hS0 H
  rw [Nat.add_zero] at this
  exact this
/-! the steps of the walk -/
variable {Q : Act → World → Prop} {o : Oper} {rest : List Oper} {a : Act} {w : World} {k : Nat}
@[go_sem] theorem drawn_refl (w : World) : Drawn w w = True := eq_true ⟨0, rfl⟩
theorem mwalk_plain (hk : sp.contains k = false) (h0 : S w) (h : ∀ K : Act → Prop, (∀ a, MWalk P ops S VC D sp Q (k + 1) rest a w → K a) → ∀ W : World, S W → if Region.wanted o (yielded ops a.tmps) then UponC P VC (Drawn W) (fun v => K (a.put o.dst v)) ((execOp a.eval o).run P W) else K (a.put o.dst undef)) :
    MWalk P ops S VC D sp Q k (o :: rest) a w := by
  have h := h _ (fun _ h => h)
  refine ⟨fun e => (by rw [hk] at e; cases e), fun _ => ⟨fun hw W hW => ?_, fun v hv => ?_⟩⟩
  · have := h W hW
    rw [if_pos hw] at this
    revert this
    generalize (execOp a.eval o).run P W = r
    intro this
    unfold UponC at this
    unfold FineRes
    split at this
    · exact this.1
    · exact this.1
    · exact ⟨this.1, this.2.1⟩
    · cases this
  · rcases hv with ⟨hw, w1, w2, hS, hv⟩ | ⟨hw, rfl⟩
    · have := h w1 hS
      rw [if_pos hw] at this
      unfold UponC at this
      rcases hv with hv | ⟨hv, rfl⟩ | ⟨f, args, hv, hvc⟩
      · rw [hv] at this; exact this.2
      · rw [hv] at this; exact this.2
      · rw [hv] at this; exact this.2.2 v hvc
    · have := h w h0
      rwa [if_neg (by rw [hw]; exact Bool.false_ne_true)] at this
theorem mwalk_spec (hk : sp.contains k = true) (h0 : S w) (h : ∀ K : Act → World → Prop, (∀ a w', MWalk P ops S VC D sp Q (k + 1) rest a w' → K a w') → ∀ n : Nat, if Region.wanted o (yielded ops a.tmps) then SpecRes P D (fun v w' => S w' ∧ K (a.put o.dst v) w') ((execOp a.eval o).run P (w.drewN n)) else K (a.put o.dst undef) w) :
    MWalk P ops S VC D sp Q k (o :: rest) a w := by
  have h := h _ (fun _ _ h => h)
  refine ⟨fun _ => ⟨fun hw n => ?_, fun hw => ?_⟩, fun e => (by rw [hk] at e; cases e)⟩
  · have := h n
    rwa [if_pos hw] at this
  · have := h 0
    rw [if_neg (by rw [hw]; exact Bool.false_ne_true)] at this
    exact ⟨h0, this⟩
theorem mwalk_nil (hq : Q a w) : MWalk P ops S VC D sp Q k [] a w := hq
theorem specRes_append {K : Value → World → Prop} {E : Prop} (hgd : o.guard = none) (s x : Operand) (t : TypeId)
    (ho : o.op = .call { callee := .builtin .append, args := #[s, x], argTypes := #[t, t] })
    (base : Nat) (e : TypeId) (i : TypeInfo) (z : Value) (size bytes : Nat) (ht : P.underlying t = some (.slice e)) (hi : P.info? e = some i) (hz : i.zero = some z)
    (hsize : i.size = size) (hby : i.bytes = bytes) (hzs : z.cells.size = size) (hsz : 0 < size)
    (v : Value) (n : Nat) (xs : List Value) (hs : a.eval s = v) (hown : w.ownsRow base e size v n xs)
    (ad : Addr) (m c : Nat) (news : List Value) (hx : a.eval x = .slice (some ad) m c) (hl : news.length = m * size) (hnews : ∀ j u, news[j]? = some u → w.cell? (ad.add j) = some u) (h1 : ∀ u ∈ news, u.oneCell' = true)
    (h63 : n + m ≤ maxLen) (hbytes : (n + m) * bytes ≤ 140737488355328) (hbase : base ≤ w.heap.size)
    (h : ∀ v' w', w'.ownsRow base e size v' (n + m) (xs ++ news) → w.grownBy w' v.ownBlock → (v'.ownBlock = v.ownBlock ∨ v'.ownBlock = some w.heap.size) → Below base w w' → K v' w') :
    if Region.wanted o (yielded ops a.tmps) = true then SpecRes P D K ((execOp a.eval o).run P w) else E := by
  have hw : Region.wanted o (yielded ops a.tmps) = true := by simp [Region.wanted, hgd]
  rw [if_pos hw]
  obtain ⟨v', w', hr, h2, h3, _, h5⟩ := run_append_own_at (P := P) w base t o.type e i z size bytes ht hi hz hsize hby hzs hsz v n xs hown ad m c news hl hnews h1 h63 hbytes hbase
  unfold execOp
  simp only [ho, resolve, invoke, builtin, Sem.run_bind, Sem.run_pure, Result.andThen_ok, List.map_toArray, List.map_cons, List.map_nil, hs, hx, hr]
  exact h v' w' h2 h3 h5 ((Below.refl _ _).grown h3 hbase (fun j hj => (hown.lt j hj).1))
end
end Go.Proofs.YtpadlmidojpbeaaGreat
/- x -/
namespace Go.Proofs.YtpadlmidojpbeaaGreat
open Go Go.RowKit
theorem spec_l02OwnF (w : World) (ad : Option Addr) (cap : Nat) (xs : List Nat) (h : F32s w ad cap xs) (hc : ad = none → cap = 0) (hn : xs.length ≤ 1048576) :
    Calls Tryz.prog 100 #[.slice ad xs.length cap] w fun e w' => ∃ ad' cap', e = .returned (.slice ad' xs.length cap') ∧ Hid (RepF w' w.heap.size w'.heap.size ad' xs.length cap' xs) ∧ Below w.heap.size w w' := by
  refine (spec_l02Own w ad cap xs h hc hn).mono ?_
  rintro e w' ⟨v, rfl, ho, hb⟩
  obtain ⟨ad', cap', rfl, hr⟩ := RepF.of_owns ho h.lt
  exact ⟨ad', cap', rfl, Lib.hid hr, hb⟩
theorem OwnR.nil1 {α : Type} (R : RecT α) (w : World) : OwnR R (w.alloc (.cells #[] R.e)) w.heap.size (w.alloc (.cells #[] R.e)).heap.size (some ⟨w.heap.size, 0, none⟩) 0 0 [] :=
  ⟨Own.one (Row.mk' (World.ownsRow_made _ _ _ (Nat.le_refl _) (Nat.zero_le _) (by simp))), rfl, fun a ha => (nomatch ha)⟩
def OwnF (n : Nat) (xs : List Nat) (f : FuncId) (args : Array Value) (w1 : World) (v : Value) (w2 : World) : Prop := ∃ ad cap, v = .slice ad n cap ∧ RepF w2 w1.heap.size w2.heap.size ad n cap xs ∧ Below w1.heap.size w1 w2
end Go.Proofs.YtpadlmidojpbeaaGreat
/- x -/
namespace Go.Proofs.YtpadlmidojpbeaaGreat
open Go Go.RowKit
structure OwnX {α : Type} (R : RecT α) (w : World) (lo hi : Nat) (ad : Option Addr) (n cap : Nat) (us : List α) (E : List RowD) : Prop where
  own : Own w lo hi (⟨R.e, R.size, ad, n, cap, us.flatMap R.cells⟩ :: (us.flatMap R.inn ++ E))
  len : us.length = n
  ok : ∀ a ∈ us, R.ok a
section
variable {α : Type} {R : RecT α} {w w' : World} {lo hi : Nat} {ad : Option Addr} {n cap : Nat} {us : List α} {E : List RowD}
theorem OwnX.r (h : OwnX R w lo hi ad n cap us E) : OwnR R w lo hi ad n cap us := ⟨h.own.sub (List.Sublist.cons_cons _ (List.sublist_append_left _ _)), h.len, h.ok⟩
theorem OwnX.below (h : OwnX R w lo hi ad n cap us E) (hb : Below w.heap.size w w') : OwnX R w' lo hi ad n cap us E := ⟨h.own.below hb, h.len, h.ok⟩
theorem OwnX.bounds {lo' hi' : Nat} (h : OwnX R w lo hi ad n cap us E) (h1 : lo' ≤ lo) (h2 : hi ≤ hi') : OwnX R w lo' hi' ad n cap us E := ⟨h.own.bounds h1 h2, h.len, h.ok⟩
theorem OwnX.beside (h : OwnR R w lo hi ad n cap us) {hi2 : Nat} (hE : Own w hi hi2 E) (h1 : lo ≤ hi) (h2 : hi ≤ hi2) : OwnX R w lo hi2 ad n cap us E := by
  refine ⟨?_, h.len, h.ok⟩
  rw [← List.cons_append]
  exact Own.append h.own hE h1 h2
theorem OwnX.setNew {w1 w2 : World} {hi1 : Nat} (h : OwnX R w lo w.heap.size ad n cap us E) (hlo : lo ≤ w.heap.size) (hb : Below w.heap.size w w1) {k : Nat} (hk : k < n) {a : α} (ha : R.ok a) (hn : Own w1 w.heap.size hi1 (R.inn a)) (hi1s : w.heap.size ≤ hi1)
    (hst : ∀ M, Own w1 lo hi1 (⟨R.e, R.size, ad, n, cap, us.flatMap R.cells⟩ :: M) → Own w2 lo hi1 (⟨R.e, R.size, ad, n, cap, setL (us.flatMap R.cells) (k * R.size) (R.cells a)⟩ :: M)) : OwnX R w2 lo hi1 ad n cap (us.set k a) E := by
  have hkl : k < us.length := by rw [h.len]; exact hk
  refine ⟨?_, by rw [List.length_set]; exact h.len, fun b hb => ?_⟩
  · have h1 := Own.fresh h.own hlo (Nat.le_refl _) hb hn hi1s
    rw [List.cons_append] at h1
    have h2 := hst _ h1
    rw [flat_set R us hkl] at h2
    have e1 : us.flatMap R.inn = (us.take k).flatMap R.inn ++ (R.inn us[k] ++ (us.drop (k + 1)).flatMap R.inn) := by
      rw [← List.flatMap_cons, List.getElem_cons_drop, ← List.flatMap_append, List.take_append_drop]
    have e2 : (us.set k a).flatMap R.inn = (us.take k).flatMap R.inn ++ (R.inn a ++ (us.drop (k + 1)).flatMap R.inn) := by
      rw [List.set_eq_take_append_cons_drop, if_pos hkl, List.flatMap_append, List.flatMap_cons]
    rw [e1] at h2
    rw [e2]
    have h3 := h2.sub (M := ⟨R.e, R.size, ad, n, cap, (us.set k a).flatMap R.cells⟩ :: ((((us.take k).flatMap R.inn ++ (us.drop (k + 1)).flatMap R.inn) ++ E) ++ R.inn a)) (List.Sublist.cons_cons _ (List.Sublist.append (List.Sublist.append (List.Sublist.append (List.Sublist.refl _) (List.sublist_append_right _ _)) (List.Sublist.refl _)) (List.Sublist.refl _)))
    refine h3.perm (List.Perm.cons _ ?_)
    simp only [List.append_assoc]
    refine List.Perm.append_left _ ?_
    rw [← List.append_assoc, ← List.append_assoc]
    refine List.perm_append_comm.trans ?_
    rw [List.append_assoc]
  · rcases List.mem_or_eq_of_mem_set hb with hb | rfl
    · exact h.ok b hb
    · exact ha
theorem OwnX.snoc {w1 w2 : World} {hi1 : Nat} {v' : Value} {a : α} {o : Obj} (h : OwnX R w lo w.heap.size ad n cap us E) (hlo : lo ≤ w.heap.size) (hb : Below w.heap.size w w1) (ha : R.ok a) (hn : Own w1 w.heap.size hi1 (R.inn a)) (hi1s : hi1 ≤ w1.heap.size) (hi0 : w.heap.size ≤ hi1)
    (ho : w2.ownsRow lo R.e R.size v' (n + 1) (us.flatMap R.cells ++ R.cells a)) (hg : (w1.alloc o).grownBy w2 (Value.slice ad n cap).ownBlock) (hat : v'.ownBlock = (Value.slice ad n cap).ownBlock ∨ v'.ownBlock = some (w1.heap.size + 1)) :
    ∃ ad' cap', v' = .slice ad' (n + 1) cap' ∧ OwnX R w2 lo w2.heap.size ad' (n + 1) cap' (us ++ [a]) E := by
  obtain ⟨ad', cap', rfl, _⟩ := Rd.of_owns ho
  refine ⟨ad', cap', rfl, ?_, by rw [List.length_append, h.len]; rfl, fun b hb => ?_⟩
  · have h1 := Own.fresh h.own hlo (Nat.le_refl _) hb hn hi0
    rw [List.cons_append] at h1
    have h2 : Own (w1.alloc o) lo hi1 _ := h1.below (below1 w1 o)
    have hs := hg.size
    have h3 := h2.grown (w' := w2) (hi' := w2.heap.size) (y := ⟨R.e, R.size, ad', n + 1, cap', (us ++ [a]).flatMap R.cells⟩) hg (by
      refine Row.mk' ?_
      rw [List.flatMap_append, List.flatMap_singleton]
      exact ho) (fun g e => ?_) (by simp at hs; omega)
    · have e : (us ++ [a]).flatMap R.inn = us.flatMap R.inn ++ R.inn a := by rw [List.flatMap_append, List.flatMap_singleton]
      rw [e]
      refine h3.perm (List.Perm.cons _ ?_)
      simp only [List.append_assoc]
      exact List.Perm.append_left _ List.perm_append_comm
    · rcases hat with e1 | e1
      · exact .inl (e1.symm.trans e)
      · right
        have e2 : some g = some (w1.heap.size + 1) := e.symm.trans e1
        cases e2
        omega
  · rcases List.mem_append.1 hb with hb | hb
    · exact h.ok b hb
    · simp at hb; subst hb; exact ha
theorem OwnX.storeE {e : TypeId} {size g m c : Nat} {vs : List Value} {E : List RowD} (h : OwnX R w lo hi ad n cap us (⟨e, size, some ⟨g, 0, none⟩, m, c, vs⟩ :: E)) (k : Nat) (v : Value) : OwnX R (w.setCell ⟨g, k, none⟩ v) lo hi ad n cap us (⟨e, size, some ⟨g, 0, none⟩, m, c, vs.set k v⟩ :: E) := by
  refine ⟨?_, h.len, h.ok⟩
  have p : ∀ (x : RowD), (⟨R.e, R.size, ad, n, cap, us.flatMap R.cells⟩ :: (us.flatMap R.inn ++ x :: E)).Perm (x :: (⟨R.e, R.size, ad, n, cap, us.flatMap R.cells⟩ :: (us.flatMap R.inn ++ E))) := fun x =>
    (List.Perm.cons _ List.perm_middle).trans (List.Perm.swap _ _ _)
  exact ((h.own.perm (p _)).store k v).perm (p _).symm
theorem OwnX.memE {x : RowD} (h : OwnX R w lo hi ad n cap us E) (hx : x ∈ E) : x ∈ (⟨R.e, R.size, ad, n, cap, us.flatMap R.cells⟩ :: (us.flatMap R.inn ++ E) : List RowD) := List.mem_cons_of_mem _ (List.mem_append_right _ hx)
end
def uRow (g n : Nat) (U : List Bool) : RowD := ⟨4, 1, some ⟨g, 0, none⟩, n, n, U.map Value.bool⟩
section
variable {α : Type} {R : RecT α} {w w' : World} {lo hi : Nat} {ad : Option Addr} {n cap : Nat} {us : List α} {g m : Nat} {U : List Bool} {E : List RowD}
theorem OwnX.u (h : OwnX R w lo hi ad n cap us (uRow g m U :: E)) : g < w.heap.size ∧ lo ≤ g ∧ (∀ k, k < U.length → w.cell? ⟨g, k, none⟩ = some (.bool (U.getD k false))) ∧ ∀ k, w.frozen? ⟨g, k, none⟩ = false := by
  obtain ⟨_, h1, h2, h3⟩ := h.own.cell (h.memE (List.mem_cons_self ..))
  refine ⟨h1.2.2, h1.1, fun k hk => ?_, h3⟩
  rw [h2 k (by simpa using hk), List.getElem?_map, List.getElem?_eq_getElem hk, List.getD_eq_getElem?_getD, List.getElem?_eq_getElem hk]; rfl
theorem OwnX.setU (h : OwnX R w lo hi ad n cap us (uRow g m U :: E)) (k : Nat) : OwnX R (w.setCell ⟨g, k, none⟩ (.bool true)) lo hi ad n cap us (uRow g m (U.set k true) :: E) := by
  have := h.storeE k (.bool true)
  unfold uRow
  rw [List.map_set]
  exact this
end
end Go.Proofs.YtpadlmidojpbeaaGreat
/- x -/
namespace Go.Proofs.YtpadlmidojpbeaaGreat
open Go Go.RowKit
def intRow (ad : Option Addr) (cap : Nat) (xs : List Int) : RowD := ⟨2, 1, ad, xs.length, cap, xs.map (Value.int .i64)⟩
theorem Own.repI {w : World} {lo hi : Nat} {ad : Option Addr} {cap : Nat} {xs : List Int} {L : List RowD} (h : Own w lo hi L) (hm : intRow ad cap xs ∈ L) (ho : ∀ x ∈ xs, (Lit.int .i64 x).wf = true) : RepI w lo hi ad xs.length cap xs := ⟨h.row _ hm, rfl, ho⟩
end Go.Proofs.YtpadlmidojpbeaaGreat
