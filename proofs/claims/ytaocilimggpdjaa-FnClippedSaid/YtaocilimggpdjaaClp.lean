/- What square roots, copies of lists and gradients that are not too long are. No condition. -/
import Derived.Test.YtaocilimggpdjaaHub
import Derived.Test.YtaocilimggpdjaaFl7
import Derived.Laws.AppendOwnNone
namespace Go.Proofs.Ytaocilimggpdjaa
open Go Go.RowKit Ieee
set_option linter.unusedVariables false
set_option linter.unusedSimpArgs false
theorem RepF.nilcap {w : World} {lo hi : Nat} {ad : Option Addr} {n cap : Nat} {xs : List Nat} (h : RepF w lo hi ad n cap xs) : ad = none → cap = 0 := by
  intro e
  subst e
  rcases h.row.own.2 with ⟨h1, _⟩ | ⟨g, cap', cur, h1, _⟩
  · cases h1; rfl
  · cases h1
/-- a whole list is appended to a row of the call's own -/
theorem wp_cat {P : Program} {ops : Array Oper} {rest : List Oper} {o : Oper} {a : Act} {Q : Exit → Act → World → Prop} {e : TypeId} {W : World} (hgd : o.guard = none) (s x : Operand) (t : TypeId)
    (ho : o.op = .call { callee := .builtin .append, args := #[s, x], argTypes := #[t, t] })
    (base : Nat) (i : TypeInfo) (z : Value) (bytes : Nat) (ht : P.underlying t = some (.slice e)) (hi : P.info? e = some i) (hz : i.zero = some z)
    (hsize : i.size = 1) (hby : i.bytes = bytes) (hzs : z.cells.size = 1)
    (v : Value) (n : Nat) (xs : List Value) (hs : a.eval s = v) (hown : W.ownsRow base e 1 v n xs)
    (ad : Option Addr) (m c : Nat) (news : List Value) (hx : a.eval x = .slice ad m c) (hn : ad = none → c = 0) (hl : news.length = m) (hr : Rd W ad news) (h1 : ∀ u ∈ news, u.oneCell' = true)
    (h63 : n + m ≤ maxLen) (hbytes : (n + m) * bytes ≤ 140737488355328) (hbase : base ≤ W.heap.size)
    (h : ∀ v' w', w'.ownsRow base e 1 v' (n + m) (xs ++ news) → Below base W w' → base ≤ w'.heap.size → wpList P ops Q rest (a.put o.dst v') w') : wpList P ops Q (o :: rest) a W := by
  cases ad with
  | none =>
    obtain rfl := hn rfl
    have h0 : news = [] := by
      rcases hr with hr | ⟨b, off, hb, _⟩
      · exact hr
      · cases hb
    subst h0
    obtain rfl : m = 0 := hl.symm
    exact wpList_append_own_none hgd s x t ho base e i 1 ht hi v n xs hs hown hx (h v W (by simpa using hown) (Below.refl _ _) hbase)
  | some p =>
    refine wpList_append_own W hgd s x t ho base e i z 1 bytes ht hi hz hsize hby hzs (by decide) v n xs hs hown p m c news hx (by omega) ?_ h1 h63 hbytes hbase ?_
    · intro j u hj
      rcases hr with hr | ⟨b, off, hb, _, hc⟩
      · rw [hr] at hj; cases hj
      · cases hb
        have hlt : j < news.length := (List.getElem?_eq_some_iff.1 hj).1
        rw [Addr.add_lit]; exact (hc j hlt).trans hj
    · intro v' w' h2 hg _
      refine h v' w' h2 ((Below.refl _ _).grown hg hbase (fun j hj => (hown.lt j hj).1)) (Nat.le_trans hbase hg.size)
theorem run_sqrt_ext (x : Nat) (w : World) : (callFunc 146 #[.float .f64 x]).run Try.prog w = .ok (.value (.float .f64 (sqbits x w))) (w.drewN (sqdr x)) := by
  rw [run_callFunc_extern (show Try.prog.funcs[146]? = some Try.f146 by kernel_rfl) (by kernel_rfl) (by kernel_rfl) (by kernel_rfl) (e := Extern.MathSqrt.sqrt) (by kernel_rfl), run_sqrt]
  rfl
theorem math_Sqrt (x : Nat) (w : World) : Calls Try.prog 99 #[.float .f64 x] w fun e w' => e = .returned (.float .f64 (sqbits x w)) ∧ w' = w.drewN (sqdr x) := by
  have hd := run_sqrt_ext
  go_enter Try.func99, Try.ntmps99
  go_wp2
  go_ret
  exact ⟨rfl, rfl⟩
theorem spec_l01Narrow (x : Nat) (w : World) : Calls Try.prog 141 #[.float .f64 x] w fun e w' => e = .returned (.float .f32 (cvbits .f64 x .f32 w)) ∧ w' = w.drewN (cvdr .f64 x .f32) := by
  go_enter Try.func141, Try.ntmps141
  go_wp2
  go_ret
  exact ⟨rfl, rfl⟩
theorem impl_RootNumber (x : Nat) (hx : x < 4294967296) (w : World) : Calls Try.prog 40 #[.float .f32 x] w fun e w' => ∃ r, e = .returned (.float .f32 r) ∧ Hid (cn .f32 r = rootE (cn .f32 x) ∧ r < 4294967296) ∧ Dr w w' := by
  have ha := fun w1 w2 w3 => cn_root hx w1 w2 w3
  have HA := Lib.hid ha; clear ha
  go_enter Try.func40, Try.ntmps40
  go_wp2_with (go_at_call 99; refine (math_Sqrt _ _).mono ?_; rintro e w' ⟨rfl, rfl⟩)
  go_ret
  exact ⟨_, rfl, Lib.hid (HA.out _ _ _), _, rfl⟩
theorem spec_l01Sqrt (x : Nat) (hx : x < 4294967296) (w : World) : Calls Try.prog 159 #[.float .f32 x] w fun e w' => ∃ r, e = .returned (.float .f32 r) ∧ Hid (cn .f32 r = rootE (cn .f32 x) ∧ r < 4294967296) ∧ Dr w w' := by
  have ha := fun w1 w2 w3 => cn_root hx w1 w2 w3
  have HA := Lib.hid ha; clear ha
  go_enter Try.func159, Try.ntmps159
  go_wp2_with (first | (go_at_call 99; refine (math_Sqrt _ _).mono ?_; rintro e w' ⟨rfl, rfl⟩) | (go_at_call 141; refine (spec_l01Narrow _ _).mono ?_; rintro e w' ⟨rfl, rfl⟩))
  go_ret
  exact ⟨_, rfl, Lib.hid (HA.out _ _ _), _, rfl⟩
set_option maxRecDepth 100000 in
theorem spec_l02Own (w : World) (ad : Option Addr) (cap : Nat) (xs : List Nat) (h : F32s w ad cap xs) (hc : ad = none → cap = 0) (hn : xs.length ≤ 1048576) :
    Calls Try.prog 134 #[.slice ad xs.length cap] w fun e w' => ∃ (v : Value), e = .returned v ∧ w'.ownsRow w.heap.size 22 1 v xs.length (xs.map (Value.float .f32)) ∧ Below w.heap.size w w' := by
  obtain ⟨i0, hi, hz0, hz1, hz2⟩ := info_parts info_f32
  obtain ⟨n, hN⟩ : ∃ n, n = xs.length := ⟨_, rfl⟩
  have hr := h.rd
  have h1 : ∀ u ∈ xs.map (Value.float .f32), u.oneCell' = true := by intro u hu; obtain ⟨x, _, rfl⟩ := List.mem_map.1 hu; rfl
  have hl : (xs.map (Value.float .f32)).length = n := by rw [List.length_map, hN]
  rw [← hN] at hn ⊢
  have HL := Lib.hid hl; clear hN hl h
  go_enter Try.func134, Try.ntmps134
  go_wp2_with (at_builtin; refine wp_cat rfl _ _ 25 rfl w.heap.size i0 (.float .f32 0) 4 Try.underlying25 hi hz0 hz1 hz2 rfl _ 0 [] rfl (World.ownsRow_made _ _ _ (Nat.le_refl _) (Nat.zero_le _) rfl) ad n cap _ rfl hc HL.out (hr.below (below1 _ _) (Nat.le_refl _)) h1 ?c3 ?c4 ?c5 ?_)
  case c3 => unfold maxLen; omega
  case c4 => omega
  case c5 => simp
  intro v' w9 hown1 hb1 hbs1
  go_wp2
  go_ret
  exact ⟨_, rfl, by simpa using hown1, (below1 _ _).trans hb1⟩
set_option maxRecDepth 100000 in
theorem slices_Clone (w : World) (ad : Option Addr) (cap : Nat) (xs : List Nat) (h : F32s w ad cap xs) (hc : ad = none → cap = 0) (hn : xs.length ≤ 1048576) :
    Calls Try.prog 119 #[.slice ad xs.length cap] w fun e w' => ∃ (v : Value), e = .returned v ∧ w'.ownsRow w.heap.size 22 1 v xs.length (xs.map (Value.float .f32)) ∧ Below w.heap.size w w' := by
  obtain ⟨i0, hi, hz0, hz1, hz2⟩ := info_parts info_f32
  obtain ⟨n, hN⟩ : ∃ n, n = xs.length := ⟨_, rfl⟩
  have hr := h.rd
  have h1 : ∀ u ∈ xs.map (Value.float .f32), u.oneCell' = true := by intro u hu; obtain ⟨x, _, rfl⟩ := List.mem_map.1 hu; rfl
  have hl : (xs.map (Value.float .f32)).length = n := by rw [List.length_map, hN]
  rw [← hN] at hn ⊢
  have HL := Lib.hid hl; clear hN hl h
  cases ad with
  | none =>
    obtain rfl := hc rfl
    have h0 : xs = [] := by
      rcases hr with hr | ⟨b, off, hb, _⟩
      · simpa using hr
      · cases hb
    subst h0
    obtain rfl : n = 0 := HL.out.symm
    have he : ∀ w : World, (binOp .eql 25 (.slice none 0 0) (.slice none 0 0)).run Try.prog w = .ok (.bool true) w := fun _ => rfl
    go_enter Try.func119, Try.ntmps119
    go_wp2
    go_ret
    exact ⟨_, rfl, World.ownsRow_nil _ _ _ _, Below.refl _ _⟩
  | some p =>
    have he : ∀ w : World, (binOp .eql 25 (.slice (some p) n cap) (.slice none 0 0)).run Try.prog w = .ok (.bool false) w := fun _ => rfl
    go_enter Try.func119, Try.ntmps119
    go_wp2_with (at_builtin; refine wp_cat rfl _ _ 25 rfl w.heap.size i0 (.float .f32 0) 4 Try.underlying25 hi hz0 hz1 hz2 rfl _ 0 [] rfl (World.ownsRow_made _ _ _ (Nat.le_refl _) (Nat.zero_le _) rfl) (some p) n cap _ rfl (fun h => nomatch h) HL.out (hr.below (below1 _ _) (Nat.le_refl _)) h1 ?c3 ?c4 ?c5 ?_)
    case c3 => unfold maxLen; omega
    case c4 => omega
    case c5 => simp
    intro v' w9 hown1 hb1 hbs1
    go_wp2
    go_ret
    exact ⟨_, rfl, by simpa using hown1, (below1 _ _).trans hb1⟩
def gtC (a c : Nat) : Bool := FloatKind.f32.format.order a c == some .gt
theorem gtC_at {r a c : Nat} (h : cn .f32 r = a) : gtC r c = gtC a c := by
  unfold gtC
  rw [← order_cn .f32 r c, ← order_cn .f32 a c, h, ← h, cn_cn]
def clR (X : List Nat) (n : Nat) : Nat := rootE (dotS X X n)
def clG (c : Nat) (X : List Nat) (n i : Nat) : Nat := fop .mul .f32 (X.getD i 0) (fop .quo .f32 (cn .f32 c) (clR X n))
def clY (c : Nat) (X : List Nat) (n : Nat) : List Nat := if gtC (clR X n) c = true then listOf n (clG c X n) else X
theorem eq_listOf (X : List Nat) : X = listOf X.length (fun i => X.getD i 0) := by
  apply List.ext_getElem
  · simp [listOf]
  · intro i h1 h2
    simp [listOf, h1]
set_option maxRecDepth 100000 in
set_option maxHeartbeats 2000000 in
theorem impl_ClipGradients_yes (w : World) (ad : Option Addr) (cap : Nat) (xs : List Nat) (h : F32s w ad cap xs) (c : Nat) (hz : ad = none → cap = 0) (hn : xs.length ≤ 256) :
    Calls Try.prog 61 #[.slice ad xs.length cap, .float .f32 c] w fun e w' => ∃ (ad' : Option Addr) (n cap' : Nat) (ys : List Nat) (r : Nat), e = .returned (.tuple #[.slice ad' n cap', .float .f32 r, .bool true]) ∧
      RepF w' w.heap.size w'.heap.size ad' n cap' ys ∧ ys.map (cn .f32) = clY c (xs.map (cn .f32)) xs.length ∧ n ≤ 1048576 ∧ cn .f32 r = clR (xs.map (cn .f32)) xs.length ∧ Below w.heap.size w w' := by
  have hlt' := h.lt
  have k1 := fun W hW => impl_dot W ad cap xs hW ad cap xs hW rfl
  have k3 := fun W hW => slices_Clone W ad cap xs hW hz (by omega)
  have hX2 : xs.map (cn .f32) = listOf xs.length (fun i => (xs.map (cn .f32)).getD i 0) := by have := eq_listOf (xs.map (cn .f32)); rwa [List.length_map] at this
  obtain ⟨X, hX⟩ : ∃ X, X = xs.map (cn .f32) := ⟨_, rfl⟩
  simp only [← hX] at k1 hX2 ⊢
  obtain ⟨n, hN⟩ : ∃ n, n = xs.length := ⟨_, rfl⟩
  simp only [← hN] at hn k1 k3 hX2 ⊢
  have C1 := Lib.hid k1; have C3 := Lib.hid k3; have HX := Lib.hid hX; have HX2 := Lib.hid hX2; have HN := Lib.hid hN; have HLT := Lib.hid hlt'; have HZ0 := Lib.hid hz
  clear k1 k3 hX hX2 hN hlt' hz
  go_enter Try.func61, Try.ntmps61
  go_wp2_with fail
  refine (C1.out _ h).mono ?_
  rintro e w1 ⟨r0, rfl, hr0, hd1⟩
  have h := h.below hd1.below
  go_wp2_with fail
  refine (impl_RootNumber r0 hr0.out.2 _).mono ?_
  rintro e w2 ⟨r, rfl, hr1, hd2⟩
  have h := h.below hd2.below
  have HR : Hid (cn .f32 r = clR X n ∧ r < 4294967296) := Lib.hid ⟨by rw [hr1.out.1, hr0.out.1]; rfl, hr1.out.2⟩
  have hb2 := (hd1.trans hd2).below
  have hs2 := hb2.size
  clear hd1 hd2 hr0 hr1 C1
  go_wp2_with fail
  refine (C3.out _ h).mono ?_
  rintro e w3 ⟨v, rfl, hown, hb3⟩
  clear C3 h
  obtain ⟨ad1, cap1, rfl, hr⟩ := RepF.of_owns hown HLT.out
  clear hown
  have hs3 := hb3.size
  cases hg : gtC (clR X n) c
  · have hY : clY c X n = X := by unfold clY; rw [if_neg (by rw [hg]; decide)]
    have HY := Lib.hid hY
    have o1 := (gtC_at HR.out.1).trans hg
    unfold gtC at o1
    have HG := Lib.hid hg; clear hg hY
    go_wp2
    go_ret3
    exact ⟨ad1, _, cap1, xs, r, rfl, hr.bounds hs2 (Nat.le_refl _), by rw [HY.out]; exact HX.out.symm, by omega, HR.out.1, (hb2.trans (hb3.mono hs2))⟩
  · have hY : clY c X n = listOf n (clG c X n) := by unfold clY; rw [if_pos hg]
    have HY := Lib.hid hY
    have o1 := (gtC_at HR.out.1).trans hg
    unfold gtC at o1
    have HG := Lib.hid hg; clear hg hY
    go_wp2
    go_loopw [28] (fun i wr => ∃ k : Nat, i = .int .i64 k ∧ k ≤ n ∧ ∃ zs : List Nat, RepF wr w2.heap.size w3.heap.size ad1 n cap1 zs ∧ zs.map (cn .f32) = listOf n (stepf k (clG c X n) (fun i => X.getD i 0)) ∧ Below w.heap.size w wr ∧ w3.heap.size ≤ wr.heap.size) (fun i _ => n - (intOf i).toNat)
    case atStart => exact ⟨0, rfl, Nat.zero_le _, xs, hr.below (below_drewN (Below.refl _ _) _), by rw [stepf_zero, ← HX.out]; exact HX2.out, below_drewN (hb2.trans (hb3.mono hs2)) _, Nat.le_refl _⟩
    case round =>
      obtain ⟨k, rfl, hk, zs, hz, hzd, hb, hbs⟩ := hrel
      have HZ := Lib.hid hzd; clear hzd
      by_cases hlt : k < n
      · obtain ⟨g, rfl, hlo, hcell, hfr, _⟩ := hz.open (by omega)
        have hc := hcell k hlt
        have hf := hfr k
        obtain ⟨x1, hx1⟩ : ∃ x, x = zs.getD k 0 := ⟨_, rfl⟩
        rw [← hx1] at hc
        have HX1 := Lib.hid hx1
        clear hcell hfr hx1
        go_wp2
        go_roundw
        case rel =>
          refine ⟨k + 1, by go_num, hlt, zs.set k _, RepF.setAt (hz.below (below_drewN (Below.refl _ _) _)) k _ (fbits_lt _ .f32 _ _ _) (by omega), set_listOf HZ.out ?_, (below_drewN hb _).setCell (Nat.le_trans hs2 hlo) _, by simpa [World.setCell] using hbs⟩
          rw [cn_fbits, cn_fbits, HR.out.1, HX1.out, cn_at HZ.out hlt, stepf_at]; rfl
        case measure => simp [intOf]; omega
      · have hkn : k = n := by omega
        subst hkn
        go_wp2
        go_ret3
        refine ⟨ad1, _, cap1, zs, r, rfl, hz.bounds hs2 hbs, ?_, by omega, HR.out.1, hb⟩
        rw [HY.out, HZ.out, listOf_done]
theorem impl_ClipGradients (w : World) (ad : Option Addr) (cap : Nat) (xs : List Nat) (h : F32s w ad cap xs) (c : Nat) (hz : ad = none → cap = 0) :
    Calls Try.prog 61 #[.slice ad xs.length cap, .float .f32 c] w fun e w' => ∃ (ad' : Option Addr) (n cap' : Nat) (ys : List Nat) (r : Nat) (b : Bool), e = .returned (.tuple #[.slice ad' n cap', .float .f32 r, .bool b]) ∧
      RepF w' w.heap.size w'.heap.size ad' n cap' ys ∧ ys.map (cn .f32) = (if xs.length ≤ 256 then clY c (xs.map (cn .f32)) xs.length else []) ∧ n ≤ 1048576 ∧ cn .f32 r = (if xs.length ≤ 256 then clR (xs.map (cn .f32)) xs.length else 0) ∧ b = decide (xs.length ≤ 256) ∧ Below w.heap.size w w' := by
  by_cases hn : xs.length ≤ 256
  · rw [if_pos hn, if_pos hn, decide_eq_true hn]
    exact (impl_ClipGradients_yes w ad cap xs h c hz hn).mono fun e w' ⟨ad', n, cap', ys, r, he, h1, h2, h3, h4, h5⟩ => ⟨ad', n, cap', ys, r, true, he, h1, h2, h3, h4, rfl, h5⟩
  · rw [if_neg hn, if_neg hn, decide_eq_false hn]
    have hm := Nat.le_trans h.len h.cap
    unfold maxLen at hm
    have hd : decide (xs.length ≤ 256) = false := decide_eq_false hn
    have F : Calls Try.prog 61 #[.slice ad xs.length cap, .float .f32 c] w fun e w' => e = .returned (.tuple #[.slice none 0 0, .float .f32 0, .bool false]) ∧ w = w' := by
      obtain ⟨n, hN⟩ : ∃ n, n = xs.length := ⟨_, rfl⟩
      rw [← hN] at hn hm hd ⊢
      clear hN
      go_enter Try.func61, Try.ntmps61
      go_wp2
      go_ret3
      exact ⟨rfl, rfl⟩
    refine F.mono fun e w' ⟨he, hw⟩ => ?_
    subst hw
    exact ⟨none, 0, 0, [], 0, false, he, RepF.nil _ _ _, rfl, by omega, cn_zero, rfl, Below.refl _ _⟩
end Go.Proofs.Ytaocilimggpdjaa
