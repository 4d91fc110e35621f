/- Joined texts 1: Sli SlI Lst Lsq Fl3 Code Fl4 Fl5 Fl6 Abs. Each is told at its own head. No condition. -/
import Derived.Lib.Hide
import Derived.Laws.BitsAllLaws
import Derived.Laws.Runes
import Derived.Test.YtfdgngnnncmfiaaMc0
/- What copying, comparing, marking slices of numbers does. No condition. -/
namespace Go.Proofs.Ytfdgngnnncmfiaa
open Go Go.RowKit
set_option linter.unusedVariables false
theorem F32s.below {w w' : World} {ad : Option Addr} {cap : Nat} {xs : List Nat} (h : F32s w ad cap xs) (hb : Below w.heap.size w w') : F32s w' ad cap xs := ⟨h.len, h.cap, h.rd.below hb (Nat.le_refl _), h.lt⟩
theorem Ints.below {k : IntKind} {w w' : World} {ad : Option Addr} {cap : Nat} {xs : List Int} (h : Ints k w ad cap xs) (hb : Below w.heap.size w w') : Ints k w' ad cap xs := ⟨h.len, h.cap, h.rd.below hb (Nat.le_refl _), h.wf⟩
theorem F32s.of_owns {w : World} {base n cap : Nat} {e : TypeId} {ad : Option Addr} {xs : List Nat} (h : w.ownsRow base e 1 (.slice ad n cap) n (xs.map (Value.float .f32))) (hx : ∀ x ∈ xs, x < 4294967296) : n = xs.length ∧ F32s w ad cap xs := by
  obtain ⟨ad', cap', e1, e2, e3, e4, _⟩ := Rd.of_owns h
  cases e1
  have hl : n = xs.length := by have := h.1; simpa using this.symm
  exact ⟨hl, by omega, e3, e4, hx⟩
theorem Ints.of_owns {k : IntKind} {w : World} {base n cap : Nat} {e : TypeId} {ad : Option Addr} {xs : List Int} (h : w.ownsRow base e 1 (.slice ad n cap) n (xs.map (Value.int k))) (hx : ∀ x ∈ xs, (Lit.int k x).wf = true) : n = xs.length ∧ Ints k w ad cap xs := by
  obtain ⟨ad', cap', e1, e2, e3, e4, _⟩ := Rd.of_owns h
  cases e1
  have hl : n = xs.length := by have := h.1; simpa using this.symm
  exact ⟨hl, by omega, e3, e4, hx⟩
/-- one number of a row, and its address -/
theorem F32s.spot {w : World} {ad : Option Addr} {cap : Nat} {xs : List Nat} (h : F32s w ad cap xs) {k : Nat} (hk : k < xs.length) : ∃ b off, ad = some ⟨b, off, none⟩ ∧ b < w.heap.size ∧ ∀ j, j < xs.length → w.cell? ⟨b, off + j, none⟩ = some (.float .f32 (xs.getD j 0)) := by
  obtain ⟨b, off, e, hb, hc⟩ := h.rd.spot (i := k) (by simpa using hk)
  refine ⟨b, off, e, hb, fun j hj => ?_⟩
  rw [hc j (by simpa using hj), List.getElem?_map, List.getElem?_eq_getElem hj, List.getD_eq_getElem?_getD, List.getElem?_eq_getElem hj]
  rfl
theorem Ints.spot {k : IntKind} {w : World} {ad : Option Addr} {cap : Nat} {xs : List Int} (h : Ints k w ad cap xs) {i : Nat} (hk : i < xs.length) : ∃ b off, ad = some ⟨b, off, none⟩ ∧ b < w.heap.size ∧ ∀ j, j < xs.length → w.cell? ⟨b, off + j, none⟩ = some (.int k (xs.getD j 0)) := by
  obtain ⟨b, off, e, hb, hc⟩ := h.rd.spot (i := i) (by simpa using hk)
  refine ⟨b, off, e, hb, fun j hj => ?_⟩
  rw [hc j (by simpa using hj), List.getElem?_map, List.getElem?_eq_getElem hj, List.getD_eq_getElem?_getD, List.getElem?_eq_getElem hj]
  rfl
/-- an element of so many cells is appended to a row of the call's own -/
theorem wp_app {P : Program} {ops : Array Oper} {rest : List Oper} {o : Oper} {a : Act} {Q : Exit → Act → World → Prop} {e : TypeId} {W : World} {cs : Array Value} (hgd : o.guard = none) (s x : Operand) (t : TypeId)
    (ho : o.op = .call { callee := .builtin .append, args := #[s, x], argTypes := #[t, t] })
    (base : Nat) (i : TypeInfo) (z : Value) (size bytes : Nat) (ht : P.underlying t = some (.slice e)) (hi : P.info? e = some i) (hz : i.zero = some z)
    (hsize : i.size = size) (hby : i.bytes = bytes) (hzs : z.cells.size = size) (hsz : 0 < size)
    (hcs : cs.size = size) (h1 : ∀ u ∈ cs.toList, u.oneCell' = true)
    (v : Value) (n : Nat) (xs : List Value) (hs : a.eval s = v) (hown : W.ownsRow base e size v n xs) (hx : a.eval x = .slice (some ⟨W.heap.size, 0, none⟩) 1 1)
    (h63 : n + 1 ≤ maxLen) (hbytes : (n + 1) * bytes ≤ 140737488355328) (hbase : base ≤ W.heap.size)
    (h : ∀ v' w', w'.ownsRow base e size v' (n + 1) (xs ++ cs.toList) → Below base W w' → base ≤ w'.heap.size → wpList P ops Q rest (a.put o.dst v') w') : wpList P ops Q (o :: rest) a (W.alloc (.cells cs e)) := by
  refine wpList_append_own (W.alloc (.cells cs e)) hgd s x t ho base e i z size bytes ht hi hz hsize hby hzs hsz v n xs hs (hown.alloc _) ⟨W.heap.size, 0, none⟩ 1 1 cs.toList hx (by simpa using hcs) ?_ h1 h63 hbytes (by simp; omega) ?_
  · intro j u hj
    rw [Addr.add_lit, World.cell?_alloc_at _ _ _ _ rfl]
    simpa using hj
  · intro v' w' h2 hg _
    refine h v' w' h2 (((Below.refl _ _).alloc hbase _).grown hg (by simp; omega) (fun j hj => (hown.lt j hj).1)) ?_
    have := hg.size
    simp at this
    omega
theorem one_cell (x : Value) (h : x.oneCell' = true) : ∀ u ∈ (#[x] : Array Value).toList, u.oneCell' = true := by
  intro u hu
  simp at hu
  rw [hu]; exact h
theorem take_set_next {α : Type} {ys zs : List α} {k : Nat} {x : α} (h : ys.take k = zs.take k) (hk : k < ys.length) (hz : zs[k]? = some x) : (ys.set k x).take (k + 1) = zs.take (k + 1) := by
  have hk2 : k < zs.length := (List.getElem?_eq_some_iff.1 hz).1
  rw [List.take_succ_eq_append_getElem (by simpa using hk), List.take_succ_eq_append_getElem hk2, List.take_set, List.set_eq_of_length_le (by simp; omega), h]
  simp [List.getElem?_eq_some_iff.1 hz |>.2]
/-- the numbers with which a list is marked -/
def markF (k0 n : Nat) : List Nat := (List.range n).map fun i => floatOfInt .f32 (k0 + i : Nat)
theorem markF_lt (k0 n : Nat) : ∀ x ∈ markF k0 n, x < 4294967296 := by
  intro x hx
  obtain ⟨i, _, rfl⟩ := List.mem_map.1 hx
  exact FloatKind.f32.format.nearest_lt _ _ _
theorem markF_length (k0 n : Nat) : (markF k0 n).length = n := by simp [markF]
/-- a row of the call's own, with the bounds of its block -/
structure Row (w : World) (e : TypeId) (size lo hi : Nat) (v : Value) (n : Nat) (cs : List Value) : Prop where
  own : w.ownsRow lo e size v n cs
  top : ∀ k, v.ownBlock = some k → k < hi
theorem Row.mk' {w : World} {e : TypeId} {size lo : Nat} {v : Value} {n : Nat} {cs : List Value} (h : w.ownsRow lo e size v n cs) : Row w e size lo w.heap.size v n cs := ⟨h, fun k hk => (h.lt k hk).2⟩
theorem owns_below {w w' : World} {e : TypeId} {size lo : Nat} {v : Value} {n : Nat} {cs : List Value} (h : w.ownsRow lo e size v n cs) (hb : Below w.heap.size w w') : w'.ownsRow lo e size v n cs := by
  refine ⟨h.1, ?_⟩
  rcases h.2 with h2 | ⟨g, cap, cur, hv, hg, hh, r⟩
  · exact .inl h2
  · exact .inr ⟨g, cap, cur, hv, hg, by rw [hb.block g (Array.getElem?_eq_some_iff.1 hh).1]; exact hh, r⟩
theorem Row.below {w w' : World} {e : TypeId} {size lo hi : Nat} {v : Value} {n : Nat} {cs : List Value} (h : Row w e size lo hi v n cs) (hb : Below w.heap.size w w') : Row w' e size lo hi v n cs := ⟨owns_below h.own hb, h.top⟩
/-- another row is written -/
theorem Row.other {w w' : World} {e e2 : TypeId} {size size2 lo hi lo2 hi2 : Nat} {v v2 : Value} {n n2 : Nat} {cs cs2 : List Value} (h : Row w e size lo hi v n cs) (h2 : Row w e2 size2 lo2 hi2 v2 n2 cs2) (hg : w.grownBy w' v2.ownBlock) (hd : hi ≤ lo2 ∨ hi2 ≤ lo) : Row w' e size lo hi v n cs := by
  refine ⟨h.own.kept hg ?_, h.top⟩
  cases hv : v.ownBlock with
  | none => exact .inl rfl
  | some g =>
    right
    intro e3
    have h3 := (h2.own.lt g e3.symm).1
    have h4 := h2.top g e3.symm
    have h5 := (h.own.lt g hv).1
    have h6 := h.top g hv
    omega
theorem Row.form {w : World} {e : TypeId} {size lo hi : Nat} {v : Value} {n : Nat} {cs : List Value} (h : Row w e size lo hi v n cs) : ∃ ad cap, v = .slice ad n cap := by
  obtain ⟨ad, cap, e1, _⟩ := Rd.of_owns h.own
  exact ⟨ad, cap, e1⟩
theorem Row.f32s {w : World} {e : TypeId} {lo hi n cap : Nat} {ad : Option Addr} {xs : List Nat} (h : Row w e 1 lo hi (.slice ad n cap) n (xs.map (Value.float .f32))) (hx : ∀ x ∈ xs, x < 4294967296) : F32s w ad cap xs := (F32s.of_owns h.own hx).2
theorem Row.nil (w : World) (e : TypeId) (lo hi : Nat) : Row w e 1 lo hi (.slice none 0 0) 0 [] := ⟨World.ownsRow_nil _ _ _ _, fun k hk => by cases hk⟩
/-- behind a mark of a row of the call's own -/
theorem below_mark {w0 w w' : World} {e : TypeId} {size lo hi : Nat} {v : Value} {n : Nat} {cs : List Value} (hb : Below w0.heap.size w0 w) (h : Row w e size lo hi v n cs) (hl : w0.heap.size ≤ lo) (hg : w.grownBy w' v.ownBlock) : Below w0.heap.size w0 w' :=
  hb.grown hg hb.size (fun k hk => Nat.le_trans hl (h.own.lt k hk).1)
theorem F32s.marked {w0 w w' : World} {e : TypeId} {size lo hi : Nat} {v : Value} {n : Nat} {cs : List Value} {ad : Option Addr} {cap : Nat} {xs : List Nat} (h0 : F32s w0 ad cap xs) (hb : Below w0.heap.size w0 w') : F32s w' ad cap xs := h0.below hb
theorem info_f32 : (Try.prog.info? 49).map (fun i => (i.zero, i.size, i.bytes)) = some (some (.float .f32 0), 1, 4) := by kernel_rfl
theorem info_i64 : (Try.prog.info? 2).map (fun i => (i.zero, i.size, i.bytes)) = some (some (.int .i64 0), 1, 8) := by kernel_rfl
set_option maxHeartbeats 1000000 in
theorem laws_toFloat32S (ad : Option Addr) (cap : Nat) (xs : List Nat) (w : World) (h : F32s w ad cap xs) (hn : xs.length ≤ 1048576) :
    Calls Try.prog 36 #[.slice ad xs.length cap] w fun e w' => e = .returned (.slice (some ⟨w.heap.size, 0, none⟩) xs.length xs.length) ∧
      w'.ownsRow w.heap.size 49 1 (.slice (some ⟨w.heap.size, 0, none⟩) xs.length xs.length) xs.length (xs.map (Value.float .f32)) ∧ Below w.heap.size w w' := by
  obtain ⟨i0, hi, hz0, hz1, hz2⟩ := info_parts info_f32
  obtain ⟨n, hN⟩ : ∃ n, n = xs.length := ⟨_, rfl⟩
  rw [← hN] at hn ⊢
  have HN := Lib.hid hN; clear hN
  go_enter Try.func36, Try.ntmps36
  go_wp2_with (at_make; refine wpList_make_full _ rfl _ _ 25 rfl w.heap.size 49 i0 (.float .f32 0) 1 Try.underlying25 hi hz0 hz1 .i64 .i64 _ _ n rfl rfl rfl rfl ?c1 ?c2 ?c3 ?_)
  case c1 => rw [hz2]; omega
  case c2 => unfold maxLen; omega
  case c3 => exact Nat.le_refl _
  intro w1 hown hg
  have hb1 : Below w.heap.size w w1 := (Below.refl _ _).grown hg (Nat.le_refl _) (fun k e => by cases e)
  obtain ⟨ys, hys⟩ : ∃ ys : List Value, ys = (madeCells #[Value.float .f32 0] n).toList := ⟨_, rfl⟩
  rw [← hys] at hown
  have hyl : ys.length = n := by have := hown.1; omega
  clear hys hg
  have HY := Lib.hid hyl; clear hyl
  go_wp2
  go_loopw [4] (fun i wr => ∃ k : Nat, i = .int .i64 k ∧ k ≤ n ∧ ∃ ys : List Value, wr.ownsRow w.heap.size 49 1 (.slice (some ⟨w.heap.size, 0, none⟩) n n) n ys ∧ ys.length = n ∧ ys.take k = (xs.map (Value.float .f32)).take k ∧ Below w.heap.size w wr) (fun i _ => n - (intOf i).toNat)
  case atStart => exact ⟨0, rfl, Nat.zero_le _, ys, hown, HY.out, by simp, hb1⟩
  case round =>
    clear hown hb1 HY
    obtain ⟨k, rfl, hk, zs, hown, hzl, htk, hb⟩ := hrel
    have HZ := Lib.hid hzl; have HT := Lib.hid htk; clear hzl htk
    by_cases hlt : k < n
    · obtain ⟨b, off, rfl, hbl, hc⟩ := h.spot (k := k) (by rw [← HN.out]; exact hlt)
      have hcell : wr.cell? ⟨b, off + k, none⟩ = some (.float .f32 (xs.getD k 0)) := (hb.cell (p := ⟨b, off + k, none⟩) hbl).trans (hc k (by rw [← HN.out]; exact hlt))
      obtain ⟨x, hx⟩ : ∃ x, x = xs.getD k 0 := ⟨_, rfl⟩
      rw [← hx] at hcell
      have HX := Lib.hid hx; clear hx hc
      have hd : wr.cell? ⟨w.heap.size, k, none⟩ = some (zs[k]'(by rw [HZ.out]; exact hlt)) := by rw [hown.cellAt k (by omega), List.getElem?_eq_getElem (by rw [HZ.out]; exact hlt)]
      obtain ⟨y, hy⟩ : ∃ y, y = zs[k]'(by rw [HZ.out]; exact hlt) := ⟨_, rfl⟩
      rw [← hy] at hd
      clear hy
      have hfz := hown.frozenAt k
      have hst := hown.stored k (.float .f32 x)
      go_wp2
      go_roundw
      case rel =>
        refine ⟨k + 1, by go_num, hlt, zs.set k (.float .f32 x), hst.1, by simpa using HZ.out, take_set_next HT.out (by rw [HZ.out]; exact hlt) ?_, hb.setCell (Nat.le_refl _) _⟩
        have hkx : k < xs.length := by rw [← HN.out]; exact hlt
        rw [List.getElem?_map, List.getElem?_eq_getElem hkx, HX.out, List.getD_eq_getElem?_getD, List.getElem?_eq_getElem hkx]
        rfl
      case measure => simp [intOf]; omega
    · have hkn : k = n := by omega
      subst hkn
      go_wp2
      go_ret
      refine ⟨rfl, ?_, hb⟩
      have e1 := HT.out
      rw [List.take_of_length_le (by rw [HZ.out]; exact Nat.le_refl _), List.take_of_length_le (by simp [HN.out])] at e1
      rw [← e1]
      exact hown
set_option maxHeartbeats 1000000 in
theorem laws_eqFloat32S (ad1 ad2 : Option Addr) (c1 c2 : Nat) (xs ys : List Nat) (w : World) (h1 : F32s w ad1 c1 xs) (h2 : F32s w ad2 c2 ys) (hn : xs.length ≤ 1048576) (he : xs.map (cn .f32) = ys.map (cn .f32)) :
    Calls Try.prog 27 #[.slice ad1 xs.length c1, .slice ad2 ys.length c2] w fun e w' => e = .returned (.bool true) ∧ Dr w w' := by
  have hl : xs.length = ys.length := by have := congrArg List.length he; simpa using this
  rw [← hl]
  obtain ⟨n, hN⟩ : ∃ n, n = xs.length := ⟨_, rfl⟩
  have HL := Lib.hid hl; clear hl
  rw [← hN] at hn ⊢
  have HN := Lib.hid hN; clear hN
  have HE := Lib.hid he; clear he
  go_enter Try.func27, Try.ntmps27
  go_wp2
  go_loopw [5] (fun i wr => ∃ k : Nat, i = .int .i64 k ∧ k ≤ n ∧ Dr w wr) (fun i _ => n - (intOf i).toNat)
  case atStart => exact ⟨0, rfl, Nat.zero_le _, Dr.refl _⟩
  case round =>
    obtain ⟨k, rfl, hk, hdr⟩ := hrel
    have h1 := h1.below hdr.below
    have h2 := h2.below hdr.below
    by_cases hlt : k < n
    · obtain ⟨b, off, rfl, _, hc⟩ := h1.spot (k := k) (by rw [← HN.out]; exact hlt)
      obtain ⟨b', off', rfl, _, hc'⟩ := h2.spot (k := k) (by rw [← HL.out, ← HN.out]; exact hlt)
      have hcell := hc k (by rw [← HN.out]; exact hlt)
      have hcell' := hc' k (by rw [← HL.out, ← HN.out]; exact hlt)
      obtain ⟨x, hx⟩ : ∃ x, x = xs.getD k 0 := ⟨_, rfl⟩
      obtain ⟨y, hy⟩ : ∃ y, y = ys.getD k 0 := ⟨_, rfl⟩
      rw [← hx] at hcell
      rw [← hy] at hcell'
      have hxy : cn .f32 x = cn .f32 y := by
        have hkx : k < xs.length := by rw [← HN.out]; exact hlt
        have hky : k < ys.length := by rw [← HL.out]; exact hkx
        have e1 := congrArg (fun l => l[k]?) HE.out
        simp only [List.getElem?_map, List.getElem?_eq_getElem hkx, List.getElem?_eq_getElem hky, Option.map_some, Option.some.injEq] at e1
        rw [hx, hy, List.getD_eq_getElem?_getD, List.getD_eq_getElem?_getD, List.getElem?_eq_getElem hkx, List.getElem?_eq_getElem hky]
        exact e1
      have HXY := Lib.hid hxy; clear hxy hx hy hc hc'
      have HD := Lib.hid hdr; clear hdr h1 h2
      go_wp2
      refine wp_region_drawn (fun f args v => v = .bool true) (by kernel_rfl) (by kernel_rfl) ?_
      repeat (refine wset_step (fun K hK nq => ?_); go_simp; refine hK _ ?_; clear hK K)
      refine wset_step (fun K hK nq => ?_)
      go_simp
      refine ⟨(sameFloat_any _ _ (by rw [cn_wide, cn_wide, HXY.out]) _).mono ?_, ?_⟩
      · rintro e w' ⟨rfl, q, rfl⟩
        exact ⟨rfl, _, World.drewN_drewN _ _ _⟩
      refine hK _ ?_
      clear hK K
      repeat (refine wset_step (fun K hK nq => ?_); go_simp; refine hK _ ?_; clear hK K)
      refine wset_nil ?_
      rintro w' ⟨q, rfl⟩
      go_wp2
      go_roundw
      case rel => exact ⟨k + 1, by go_num, hlt, by obtain ⟨q', hq⟩ := HD.out; exact ⟨_, by rw [hq, World.drewN_drewN]⟩⟩
      case measure => simp [intOf]; omega
    · go_wp2
      go_ret
      exact ⟨rfl, hdr⟩
set_option maxHeartbeats 1000000 in
theorem laws_markFloat32S (base : Nat) (ad : Option Addr) (cap n : Nat) (ys : List Value) (k0 : Nat) (w : World) (hn : n ≤ 1048576) (hk0 : k0 ≤ 100000000) (h : w.ownsRow base 49 1 (.slice ad n cap) n ys) :
    Calls Try.prog 28 #[.slice ad n cap, .int .i64 k0] w fun e w' => e = .returned (.int .i64 (k0 + n : Nat)) ∧
      w'.ownsRow base 49 1 (.slice ad n cap) n ((markF k0 n).map (Value.float .f32)) ∧ w.grownBy w' (Value.slice ad n cap).ownBlock := by
  have hyl : ys.length = n := by have := h.1; omega
  have HY := Lib.hid hyl; clear hyl
  go_enter Try.func28, Try.ntmps28
  go_wp2
  go_loopw [1, 5] (fun q i wr => ∃ k : Nat, i = .int .i64 k ∧ q = .int .i64 (k0 + k : Nat) ∧ k ≤ n ∧ ∃ ys : List Value, wr.ownsRow base 49 1 (.slice ad n cap) n ys ∧ ys.length = n ∧ ys.take k = ((markF k0 n).map (Value.float .f32)).take k ∧ w.grownBy wr (Value.slice ad n cap).ownBlock) (fun _ i _ => n - (intOf i).toNat)
  case atStart => exact ⟨0, rfl, rfl, Nat.zero_le _, ys, h, HY.out, by simp, ⟨rfl, rfl, rfl, Nat.le_refl _, fun _ _ _ => rfl⟩⟩
  case round =>
    obtain ⟨k, rfl, rfl, hk, zs, hown, hzl, htk, hb⟩ := hrel
    have HZ := Lib.hid hzl; have HT := Lib.hid htk; clear hzl htk h HY
    by_cases hlt : k < n
    · obtain ⟨g, cap', hform⟩ := Joins.ownsRow_form hown (by omega)
      have had : ad = some ⟨g, 0, none⟩ := by cases hform; rfl
      clear hform
      subst had
      have hd : wr.cell? ⟨g, k, none⟩ = some (zs[k]'(by rw [HZ.out]; exact hlt)) := by rw [hown.cellAt k (by omega), List.getElem?_eq_getElem (by rw [HZ.out]; exact hlt)]
      obtain ⟨y, hy⟩ : ∃ y, y = zs[k]'(by rw [HZ.out]; exact hlt) := ⟨_, rfl⟩
      rw [← hy] at hd
      clear hy
      have hfz := hown.frozenAt k
      have hst := hown.stored k (.float .f32 (floatOfInt .f32 (k0 + k : Nat)))
      go_wp2
      go_roundw
      case rel =>
        refine ⟨k + 1, by go_num, by go_num, hlt, zs.set k (.float .f32 (floatOfInt .f32 (k0 + k : Nat))), hst.1, by simpa using HZ.out, take_set_next HT.out (by rw [HZ.out]; exact hlt) ?_, ?_⟩
        · rw [markF, List.map_map, List.getElem?_map, List.getElem?_range hlt]; rfl
        · have hg2 := hst.2
          exact ⟨hg2.os.trans hb.os, hg2.tape.trans hb.tape, hg2.output.trans hb.output, Nat.le_trans hb.size hg2.size, fun i hi hne => (hg2.block i (by have := hb.size; omega) hne).trans (hb.block i hi hne)⟩
      case measure => simp [intOf]; omega
    · have hkn : k = n := by omega
      subst hkn
      go_wp2
      go_ret
      refine ⟨rfl, ?_, hb⟩
      have e1 := HT.out
      rw [List.take_of_length_le (by rw [HZ.out]; exact Nat.le_refl _), List.take_of_length_le (by simp [markF])] at e1
      rw [← e1]
      exact hown
set_option maxHeartbeats 1000000 in
theorem laws_heldFloat32S (ad : Option Addr) (cap n : Nat) (xs : List Nat) (k0 : Nat) (w : World) (hn : n ≤ 1048576) (hk0 : k0 ≤ 100000000) (h : F32s w ad cap xs) (hx : xs = markF k0 n) :
    Calls Try.prog 29 #[.slice ad n cap, .int .i64 k0] w fun e w' => e = .returned (.int .i64 (k0 + n : Nat)) ∧ w = w' := by
  have hxl : xs.length = n := by rw [hx]; simp [markF]
  have HX := Lib.hid hx; clear hx
  have HL := Lib.hid hxl; clear hxl
  go_enter Try.func29, Try.ntmps29
  go_wp2
  go_loop [1, 5] (fun q i => ∃ k : Nat, i = .int .i64 k ∧ q = .int .i64 (k0 + k : Nat) ∧ k ≤ n) (fun _ i => n - (intOf i).toNat)
  case atStart => exact ⟨0, rfl, rfl, Nat.zero_le _⟩
  case round =>
    obtain ⟨k, rfl, rfl, hk⟩ := hrel
    by_cases hlt : k < n
    · obtain ⟨b, off, rfl, _, hc⟩ := h.spot (k := k) (by rw [HL.out]; exact hlt)
      have hcell := hc k (by rw [HL.out]; exact hlt)
      have e1 : xs.getD k 0 = floatOfInt .f32 (k0 + k : Nat) := by
        rw [HX.out, markF, List.getD_eq_getElem?_getD, List.getElem?_map, List.getElem?_range hlt]; rfl
      rw [e1] at hcell
      have ho : FloatKind.f32.format.order (floatOfInt .f32 (k0 + k : Nat)) (floatOfInt .f32 (k0 + k : Nat)) = some .eq := by rw [order_self, isN_floatOfInt]; rfl
      have ec : ((k0 + k : Nat) : Int) = (k0 : Int) + k := by omega
      rw [ec] at hcell ho
      clear e1 ec hc
      go_wp2
      go_round
      case rel => exact ⟨k + 1, by go_num, by go_num, hlt⟩
      case measure => simp [intOf]; omega
    · have hkn : k = n := by omega
      go_wp2
      go_ret
      exact ⟨rfl, rfl⟩
/-- blocks from 'lo' up to 'hi' alone have been written, and new ones laid -/
structure Touch (lo hi : Nat) (w w' : World) : Prop where
  os : w'.os = w.os
  tape : w'.tape = w.tape
  output : w'.output = w.output
  size : w.heap.size ≤ w'.heap.size
  block : ∀ k, k < w.heap.size → (k < lo ∨ hi ≤ k) → w'.heap[k]? = w.heap[k]?
theorem Touch.of_grown {w w' : World} {e : TypeId} {size lo hi : Nat} {v : Value} {n : Nat} {cs : List Value} (h : Row w e size lo hi v n cs) (hg : w.grownBy w' v.ownBlock) : Touch lo hi w w' :=
  ⟨hg.os, hg.tape, hg.output, hg.size, fun k hk hd => hg.block k hk fun e3 => by have h3 := (h.own.lt k e3.symm).1; have h4 := h.top k e3.symm; omega⟩
theorem Touch.of_below {lo hi : Nat} {w w' : World} (h : Below w.heap.size w w') : Touch lo hi w w' := ⟨h.os, h.tape, h.output, h.size, fun k hk _ => h.block k hk⟩
theorem Touch.refl (lo hi : Nat) (w : World) : Touch lo hi w w := ⟨rfl, rfl, rfl, Nat.le_refl _, fun _ _ _ => rfl⟩
theorem Touch.trans {lo hi : Nat} {a b c : World} (h : Touch lo hi a b) (k : Touch lo hi b c) : Touch lo hi a c :=
  ⟨k.os.trans h.os, k.tape.trans h.tape, k.output.trans h.output, Nat.le_trans h.size k.size, fun i hi hd => (k.block i (Nat.lt_of_lt_of_le hi h.size) hd).trans (h.block i hi hd)⟩
theorem Touch.mono {lo hi lo' hi' : Nat} {a b : World} (h : Touch lo hi a b) (h1 : lo' ≤ lo) (h2 : hi ≤ hi') : Touch lo' hi' a b := ⟨h.os, h.tape, h.output, h.size, fun k hk hd => h.block k hk (by omega)⟩
/-- what the call owns is written: what lay there before is as it was -/
theorem touch_below {w0 w w' : World} {lo hi : Nat} (hb : Below w0.heap.size w0 w) (ht : Touch lo hi w w') (hl : w0.heap.size ≤ lo) : Below w0.heap.size w0 w' :=
  hb.trans ⟨ht.os, ht.tape, ht.output, ht.size, fun k hk => ht.block k (Nat.lt_of_lt_of_le hk hb.size) (.inl (by omega))⟩
theorem Row.touch {w w' : World} {e : TypeId} {size lo hi lo2 hi2 : Nat} {v : Value} {n : Nat} {cs : List Value} (h : Row w e size lo hi v n cs) (ht : Touch lo2 hi2 w w') (hd : hi ≤ lo2 ∨ hi2 ≤ lo) : Row w' e size lo hi v n cs := by
  refine ⟨⟨h.own.1, ?_⟩, h.top⟩
  rcases h.own.2 with h2 | ⟨g, cap, cur, hv, hg, hh, r⟩
  · exact .inl h2
  · have h4 := h.top g (by rw [hv]; rfl)
    exact .inr ⟨g, cap, cur, hv, hg, by rw [ht.block g (Array.getElem?_eq_some_iff.1 hh).1 (by omega)]; exact hh, r⟩
theorem Row.bounds {w : World} {e : TypeId} {size lo hi lo' hi' : Nat} {v : Value} {n : Nat} {cs : List Value} (h : Row w e size lo hi v n cs) (h1 : lo' ≤ lo) (h2 : hi ≤ hi') : Row w e size lo' hi' v n cs :=
  ⟨Joins.ownsRow_le h.own h1, fun k hk => Nat.lt_of_lt_of_le (h.top k hk) h2⟩
/-- a slice of 32-bit numbers that the call owns -/
structure RepF (w : World) (lo hi : Nat) (ad : Option Addr) (n cap : Nat) (xs : List Nat) : Prop where
  row : Row w 49 1 lo hi (.slice ad n cap) n (xs.map (Value.float .f32))
  len : xs.length = n
  lt : ∀ x ∈ xs, x < 4294967296
theorem RepF.arg {w : World} {lo hi : Nat} {ad : Option Addr} {n cap : Nat} {xs : List Nat} (h : RepF w lo hi ad n cap xs) : F32s w ad cap xs := (F32s.of_owns h.row.own h.lt).2
theorem RepF.below {w w' : World} {lo hi : Nat} {ad : Option Addr} {n cap : Nat} {xs : List Nat} (h : RepF w lo hi ad n cap xs) (hb : Below w.heap.size w w') : RepF w' lo hi ad n cap xs := ⟨h.row.below hb, h.len, h.lt⟩
theorem RepF.touch {w w' : World} {lo hi lo2 hi2 : Nat} {ad : Option Addr} {n cap : Nat} {xs : List Nat} (h : RepF w lo hi ad n cap xs) (ht : Touch lo2 hi2 w w') (hd : hi ≤ lo2 ∨ hi2 ≤ lo) : RepF w' lo hi ad n cap xs := ⟨h.row.touch ht hd, h.len, h.lt⟩
theorem RepF.bounds {w : World} {lo hi lo' hi' : Nat} {ad : Option Addr} {n cap : Nat} {xs : List Nat} (h : RepF w lo hi ad n cap xs) (h1 : lo' ≤ lo) (h2 : hi ≤ hi') : RepF w lo' hi' ad n cap xs := ⟨h.row.bounds h1 h2, h.len, h.lt⟩
theorem RepF.nil (w : World) (lo hi : Nat) : RepF w lo hi none 0 0 [] := ⟨Row.nil _ _ _ _, rfl, fun x hx => nomatch hx⟩
theorem RepF.of_owns {w : World} {lo : Nat} {v : Value} {n : Nat} {xs : List Nat} (h : w.ownsRow lo 49 1 v n (xs.map (Value.float .f32))) (hx : ∀ x ∈ xs, x < 4294967296) : ∃ ad cap, v = .slice ad n cap ∧ RepF w lo w.heap.size ad n cap xs := by
  obtain ⟨ad, cap, rfl, _⟩ := Rd.of_owns h
  exact ⟨ad, cap, rfl, Row.mk' h, by have := h.1; simpa using this, hx⟩
theorem F_to (w : World) (ad : Option Addr) (cap : Nat) (xs : List Nat) (h : F32s w ad cap xs) (hn : xs.length ≤ 1048576) :
    Calls Try.prog 36 #[.slice ad xs.length cap] w fun e w' => ∃ ad' cap', e = .returned (.slice ad' xs.length cap') ∧ RepF w' w.heap.size w'.heap.size ad' xs.length cap' xs ∧ Below w.heap.size w w' :=
  (laws_toFloat32S ad cap xs w h hn).mono fun e w' ⟨he, ho, hb⟩ => ⟨_, _, he, ⟨Row.mk' ho, rfl, h.lt⟩, hb⟩
theorem F_eq (w : World) {lo1 hi1 lo2 hi2 : Nat} {a1 a2 : Option Addr} {n1 n2 c1 c2 : Nat} {xs ys : List Nat} (h1 : RepF w lo1 hi1 a1 n1 c1 xs) (h2 : RepF w lo2 hi2 a2 n2 c2 ys) (he : xs.map (cn .f32) = ys.map (cn .f32)) (hn : n1 ≤ 1048576) :
    Calls Try.prog 27 #[.slice a1 n1 c1, .slice a2 n2 c2] w fun e w' => e = .returned (.bool true) ∧ Below w.heap.size w w' := by
  have e1 := h1.len; have e2 := h2.len
  subst e1 e2
  exact (laws_eqFloat32S _ _ _ _ xs ys w h1.arg h2.arg hn he).mono fun e w' ⟨h, hd⟩ => ⟨h, hd.below⟩
theorem F_mark (w : World) {lo hi : Nat} {ad : Option Addr} {n cap : Nat} {xs : List Nat} (k0 : Nat) (h : RepF w lo hi ad n cap xs) (hn : n ≤ 1048576) (hk : k0 ≤ 100000000) :
    Calls Try.prog 28 #[.slice ad n cap, .int .i64 k0] w fun e w' => e = .returned (.int .i64 (k0 + n : Nat)) ∧ RepF w' lo hi ad n cap (markF k0 n) ∧ Touch lo hi w w' :=
  (laws_markFloat32S lo ad cap n _ k0 w hn hk h.row.own).mono fun e w' ⟨he, ho, hg⟩ => ⟨he, ⟨⟨ho, h.row.top⟩, markF_length _ _, markF_lt _ _⟩, Touch.of_grown h.row hg⟩
theorem F_held (w : World) {lo hi : Nat} {ad : Option Addr} {n cap : Nat} (k0 : Nat) (h : RepF w lo hi ad n cap (markF k0 n)) (hn : n ≤ 1048576) (hk : k0 ≤ 100000000) :
    Calls Try.prog 29 #[.slice ad n cap, .int .i64 k0] w fun e w' => e = .returned (.int .i64 (k0 + n : Nat)) ∧ w = w' :=
  laws_heldFloat32S ad cap n _ k0 w hn hk h.arg rfl
end Go.Proofs.Ytfdgngnnncmfiaa
/- What copying, comparing, marking slices of integers does. No condition. -/
namespace Go.Proofs.Ytfdgngnnncmfiaa
open Go Go.RowKit
set_option linter.unusedVariables false
set_option linter.unusedSimpArgs false
/-- the integers with which a list is marked -/
def markI (k0 n : Nat) : List Int := (List.range n).map fun i => ((k0 + i : Nat) : Int)
theorem markI_lt (k0 n : Nat) (h : k0 + n ≤ 1000000000) : ∀ x ∈ markI k0 n, (Lit.int .i64 x).wf = true := by
  intro x hx
  obtain ⟨i, hi, rfl⟩ := List.mem_map.1 hx
  have := List.mem_range.1 hi
  simp [Lit.wf, IntKind.min, IntKind.max, IntKind.signed, IntKind.bits]
  omega
theorem markI_length (k0 n : Nat) : (markI k0 n).length = n := by simp [markI]
set_option maxHeartbeats 1000000 in
theorem laws_eqInt64S (ad1 ad2 : Option Addr) (c1 c2 : Nat) (xs : List Int) (w : World) (h1 : Ints .i64 w ad1 c1 xs) (h2 : Ints .i64 w ad2 c2 xs) (hn : xs.length ≤ 1048576) :
    Calls Try.prog 13 #[.slice ad1 xs.length c1, .slice ad2 xs.length c2] w fun e w' => e = .returned (.bool true) ∧ Dr w w' := by
  obtain ⟨n, hN⟩ : ∃ n, n = xs.length := ⟨_, rfl⟩
  rw [← hN] at hn ⊢
  have HN := Lib.hid hN; clear hN
  go_enter Try.func13, Try.ntmps13
  go_wp2
  go_loopw [5] (fun i wr => ∃ k : Nat, i = .int .i64 k ∧ k ≤ n ∧ Dr w wr) (fun i _ => n - (intOf i).toNat)
  case atStart => exact ⟨0, rfl, Nat.zero_le _, Dr.refl _⟩
  case round =>
    obtain ⟨k, rfl, hk, hdr⟩ := hrel
    have h1 := h1.below hdr.below
    have h2 := h2.below hdr.below
    by_cases hlt : k < n
    · have hkx : k < xs.length := by rw [← HN.out]; exact hlt
      obtain ⟨b, off, rfl, _, hc⟩ := h1.spot hkx
      obtain ⟨b', off', rfl, _, hc'⟩ := h2.spot hkx
      have hcell := hc k hkx
      have hcell' := hc' k hkx
      obtain ⟨x, hx⟩ : ∃ x, x = xs.getD k 0 := ⟨_, rfl⟩
      rw [← hx] at hcell hcell'
      have HD := Lib.hid hdr; clear hdr h1 h2 hx hc hc'
      go_wp2
      refine wp_region_drawn (fun f args v => False) (by kernel_rfl) (by kernel_rfl) ?_
      repeat (refine wset_step (fun K hK nq => ?_); go_simp; refine hK _ ?_; clear hK K)
      refine wset_nil ?_
      rintro w' ⟨q, rfl⟩
      go_wp2
      go_roundw
      case rel => exact ⟨k + 1, by go_num, hlt, by obtain ⟨q', hq⟩ := HD.out; exact ⟨_, by rw [hq, World.drewN_drewN]⟩⟩
      case measure => simp [intOf]; omega
    · go_wp2
      go_ret
      exact ⟨rfl, hdr⟩
set_option maxHeartbeats 1000000 in
theorem laws_markInt64S (base : Nat) (ad : Option Addr) (cap n : Nat) (ys : List Value) (k0 : Nat) (w : World) (hn : n ≤ 1048576) (hk0 : k0 ≤ 100000000) (h : w.ownsRow base 2 1 (.slice ad n cap) n ys) :
    Calls Try.prog 19 #[.slice ad n cap, .int .i64 k0] w fun e w' => e = .returned (.int .i64 (k0 + n : Nat)) ∧
      w'.ownsRow base 2 1 (.slice ad n cap) n ((markI k0 n).map (Value.int .i64)) ∧ w.grownBy w' (Value.slice ad n cap).ownBlock := by
  have hyl : ys.length = n := by have := h.1; omega
  have HY := Lib.hid hyl; clear hyl
  go_enter Try.func19, Try.ntmps19
  go_wp2
  go_loopw [1, 5] (fun q i wr => ∃ k : Nat, i = .int .i64 k ∧ q = .int .i64 (k0 + k : Nat) ∧ k ≤ n ∧ ∃ ys : List Value, wr.ownsRow base 2 1 (.slice ad n cap) n ys ∧ ys.length = n ∧ ys.take k = ((markI k0 n).map (Value.int .i64)).take k ∧ w.grownBy wr (Value.slice ad n cap).ownBlock) (fun _ i _ => n - (intOf i).toNat)
  case atStart => exact ⟨0, rfl, rfl, Nat.zero_le _, ys, h, HY.out, by simp, ⟨rfl, rfl, rfl, Nat.le_refl _, fun _ _ _ => rfl⟩⟩
  case round =>
    obtain ⟨k, rfl, rfl, hk, zs, hown, hzl, htk, hb⟩ := hrel
    have HZ := Lib.hid hzl; have HT := Lib.hid htk; clear hzl htk h HY
    by_cases hlt : k < n
    · obtain ⟨g, cap', hform⟩ := Joins.ownsRow_form hown (by omega)
      have had : ad = some ⟨g, 0, none⟩ := by cases hform; rfl
      clear hform
      subst had
      have hd : wr.cell? ⟨g, k, none⟩ = some (zs[k]'(by rw [HZ.out]; exact hlt)) := by rw [hown.cellAt k (by omega), List.getElem?_eq_getElem (by rw [HZ.out]; exact hlt)]
      obtain ⟨y, hy⟩ : ∃ y, y = zs[k]'(by rw [HZ.out]; exact hlt) := ⟨_, rfl⟩
      rw [← hy] at hd
      clear hy
      have hfz := hown.frozenAt k
      have hst := hown.stored k (.int .i64 (k0 + k : Nat))
      go_wp2
      go_roundw
      case rel =>
        refine ⟨k + 1, by go_num, by go_num, hlt, zs.set k (.int .i64 (k0 + k : Nat)), hst.1, by simpa using HZ.out, take_set_next HT.out (by rw [HZ.out]; exact hlt) ?_, ?_⟩
        · rw [markI, List.map_map, List.getElem?_map, List.getElem?_range hlt]; rfl
        · have hg2 := hst.2
          exact ⟨hg2.os.trans hb.os, hg2.tape.trans hb.tape, hg2.output.trans hb.output, Nat.le_trans hb.size hg2.size, fun i hi hne => (hg2.block i (by have := hb.size; omega) hne).trans (hb.block i hi hne)⟩
      case measure => simp [intOf]; omega
    · have hkn : k = n := by omega
      subst hkn
      go_wp2
      go_ret
      refine ⟨rfl, ?_, hb⟩
      have e1 := HT.out
      rw [List.take_of_length_le (by rw [HZ.out]; exact Nat.le_refl _), List.take_of_length_le (by simp [markI])] at e1
      rw [← e1]
      exact hown
set_option maxHeartbeats 1000000 in
theorem laws_heldInt64S (ad : Option Addr) (cap n : Nat) (xs : List Int) (k0 : Nat) (w : World) (hn : n ≤ 1048576) (hk0 : k0 ≤ 100000000) (h : Ints .i64 w ad cap xs) (hx : xs = markI k0 n) :
    Calls Try.prog 21 #[.slice ad n cap, .int .i64 k0] w fun e w' => e = .returned (.int .i64 (k0 + n : Nat)) ∧ w = w' := by
  have hxl : xs.length = n := by rw [hx]; simp [markI]
  have HX := Lib.hid hx; clear hx
  have HL := Lib.hid hxl; clear hxl
  go_enter Try.func21, Try.ntmps21
  go_wp2
  go_loop [1, 5] (fun q i => ∃ k : Nat, i = .int .i64 k ∧ q = .int .i64 (k0 + k : Nat) ∧ k ≤ n) (fun _ i => n - (intOf i).toNat)
  case atStart => exact ⟨0, rfl, rfl, Nat.zero_le _⟩
  case round =>
    obtain ⟨k, rfl, rfl, hk⟩ := hrel
    by_cases hlt : k < n
    · obtain ⟨b, off, rfl, _, hc⟩ := h.spot (i := k) (by rw [HL.out]; exact hlt)
      have hcell := hc k (by rw [HL.out]; exact hlt)
      have e1 : xs.getD k 0 = ((k0 + k : Nat) : Int) := by
        rw [HX.out, markI, List.getD_eq_getElem?_getD, List.getElem?_map, List.getElem?_range hlt]; rfl
      rw [e1] at hcell
      have ec : ((k0 + k : Nat) : Int) = (k0 : Int) + k := by omega
      rw [ec] at hcell
      clear e1 ec hc
      go_wp2
      go_round
      case rel => exact ⟨k + 1, by go_num, by go_num, hlt⟩
      case measure => simp [intOf]; omega
    · have hkn : k = n := by omega
      go_wp2
      go_ret
      exact ⟨rfl, rfl⟩
/-- a slice of integers that the call owns -/
structure RepI (w : World) (lo hi : Nat) (ad : Option Addr) (n cap : Nat) (xs : List Int) : Prop where
  row : Row w 2 1 lo hi (.slice ad n cap) n (xs.map (Value.int .i64))
  len : xs.length = n
  lt : ∀ x ∈ xs, (Lit.int .i64 x).wf = true
theorem RepI.arg {w : World} {lo hi : Nat} {ad : Option Addr} {n cap : Nat} {xs : List Int} (h : RepI w lo hi ad n cap xs) : Ints .i64 w ad cap xs := (Ints.of_owns h.row.own h.lt).2
theorem RepI.below {w w' : World} {lo hi : Nat} {ad : Option Addr} {n cap : Nat} {xs : List Int} (h : RepI w lo hi ad n cap xs) (hb : Below w.heap.size w w') : RepI w' lo hi ad n cap xs := ⟨h.row.below hb, h.len, h.lt⟩
theorem RepI.touch {w w' : World} {lo hi lo2 hi2 : Nat} {ad : Option Addr} {n cap : Nat} {xs : List Int} (h : RepI w lo hi ad n cap xs) (ht : Touch lo2 hi2 w w') (hd : hi ≤ lo2 ∨ hi2 ≤ lo) : RepI w' lo hi ad n cap xs := ⟨h.row.touch ht hd, h.len, h.lt⟩
theorem RepI.bounds {w : World} {lo hi lo' hi' : Nat} {ad : Option Addr} {n cap : Nat} {xs : List Int} (h : RepI w lo hi ad n cap xs) (h1 : lo' ≤ lo) (h2 : hi ≤ hi') : RepI w lo' hi' ad n cap xs := ⟨h.row.bounds h1 h2, h.len, h.lt⟩
theorem RepI.nil (w : World) (lo hi : Nat) : RepI w lo hi none 0 0 [] := ⟨Row.nil _ _ _ _, rfl, fun x hx => nomatch hx⟩
theorem RepI.of_owns {w : World} {lo : Nat} {v : Value} {n : Nat} {xs : List Int} (h : w.ownsRow lo 2 1 v n (xs.map (Value.int .i64))) (hx : ∀ x ∈ xs, (Lit.int .i64 x).wf = true) : ∃ ad cap, v = .slice ad n cap ∧ RepI w lo w.heap.size ad n cap xs := by
  obtain ⟨ad, cap, rfl, _⟩ := Rd.of_owns h
  exact ⟨ad, cap, rfl, Row.mk' h, by have := h.1; simpa using this, hx⟩
theorem I_eq (w : World) {lo1 hi1 lo2 hi2 : Nat} {a1 a2 : Option Addr} {n1 n2 c1 c2 : Nat} {xs ys : List Int} (h1 : RepI w lo1 hi1 a1 n1 c1 xs) (h2 : RepI w lo2 hi2 a2 n2 c2 ys) (he : xs = ys) (hn : n1 ≤ 1048576) :
    Calls Try.prog 13 #[.slice a1 n1 c1, .slice a2 n2 c2] w fun e w' => e = .returned (.bool true) ∧ Below w.heap.size w w' := by
  have e1 := h1.len; have e2 := h2.len
  subst he
  subst e1 e2
  exact (laws_eqInt64S _ _ _ _ xs w h1.arg h2.arg hn).mono fun e w' ⟨h, hd⟩ => ⟨h, hd.below⟩
theorem I_mark (w : World) {lo hi : Nat} {ad : Option Addr} {n cap : Nat} {xs : List Int} (k0 : Nat) (h : RepI w lo hi ad n cap xs) (hn : n ≤ 1048576) (hk : k0 ≤ 100000000) :
    Calls Try.prog 19 #[.slice ad n cap, .int .i64 k0] w fun e w' => e = .returned (.int .i64 (k0 + n : Nat)) ∧ RepI w' lo hi ad n cap (markI k0 n) ∧ Touch lo hi w w' :=
  (laws_markInt64S lo ad cap n _ k0 w hn hk h.row.own).mono fun e w' ⟨he, ho, hg⟩ => ⟨he, ⟨⟨ho, h.row.top⟩, markI_length _ _, markI_lt _ _ (by omega)⟩, Touch.of_grown h.row hg⟩
theorem I_held (w : World) {lo hi : Nat} {ad : Option Addr} {n cap : Nat} (k0 : Nat) (h : RepI w lo hi ad n cap (markI k0 n)) (hn : n ≤ 1048576) (hk : k0 ≤ 100000000) :
    Calls Try.prog 21 #[.slice ad n cap, .int .i64 k0] w fun e w' => e = .returned (.int .i64 (k0 + n : Nat)) ∧ w = w' :=
  laws_heldInt64S ad cap n _ k0 w hn hk h.arg rfl
end Go.Proofs.Ytfdgngnnncmfiaa
/- What lists that a loop makes, sums, dots and differences are. No condition. -/
namespace Go.Proofs.Ytfdgngnnncmfiaa
open Go Go.RowKit
set_option linter.unusedVariables false
set_option linter.unusedSimpArgs false
def listOf (n : Nat) (f : Nat → Nat) : List Nat := (List.range n).map f
theorem listOf_succ (k : Nat) (f : Nat → Nat) : listOf (k + 1) f = listOf k f ++ [f k] := by simp [listOf, List.range_succ]
theorem listOf_length (n : Nat) (f : Nat → Nat) : (listOf n f).length = n := by simp [listOf]
theorem listOf_getD {n k : Nat} (f : Nat → Nat) (h : k < n) : (listOf n f).getD k 0 = f k := by simp [listOf, h]
theorem listOf_congr {n : Nat} {f g : Nat → Nat} (h : ∀ i, i < n → f i = g i) : listOf n f = listOf n g := List.map_congr_left fun i hi => h i (List.mem_range.1 hi)
theorem cn_zero : cn .f32 0 = 0 := by decide +kernel
theorem cn_getD (xs : List Nat) (k : Nat) : (xs.map (cn .f32)).getD k 0 = cn .f32 (xs.getD k 0) := by
  simp only [List.getD_eq_getElem?_getD, List.getElem?_map]
  cases xs[k]? with
  | none => simp [cn_zero]
  | some x => rfl
/-- a list whose entries, NaNs made one, are told, in one of them -/
theorem cn_at {xs : List Nat} {n k : Nat} {f : Nat → Nat} (h : xs.map (cn .f32) = listOf n f) (hk : k < n) : cn .f32 (xs.getD k 0) = f k := by
  rw [← cn_getD, h, listOf_getD f hk]
theorem len_of {xs : List Nat} {n : Nat} {f : Nat → Nat} (h : xs.map (cn .f32) = listOf n f) : xs.length = n := by
  have := congrArg List.length h
  rwa [List.length_map, listOf_length] at this
theorem Dr.drewN {w w' : World} (h : Dr w w') (n : Nat) : Dr w (w'.drewN n) := by
  obtain ⟨m, rfl⟩ := h
  exact ⟨m + n, by simp [World.drewN, Nat.add_assoc]⟩
theorem Dr.trans {a b c : World} (h : Dr a b) (h2 : Dr b c) : Dr a c := by obtain ⟨m, rfl⟩ := h2; exact h.drewN m
def subE (X Y : List Nat) (i : Nat) : Nat := fop .sub .f32 (X.getD i 0) (Y.getD i 0)
def dotS (X Y : List Nat) : Nat → Nat
  | 0 => 0
  | k + 1 => fop .add .f32 (dotS X Y k) (fop .mul .f32 (X.getD k 0) (Y.getD k 0))
def sumS (X : List Nat) : Nat → Nat
  | 0 => 0
  | k + 1 => fop .add .f32 (sumS X k) (X.getD k 0)
def both (n m : Nat) : Bool := decide (1 ≤ n) && decide (n ≤ 256) && decide (n = m)
set_option maxHeartbeats 1000000 in
theorem impl_dot (w : World) (a1 : Option Addr) (c1 : Nat) (xs : List Nat) (h1 : F32s w a1 c1 xs) (a2 : Option Addr) (c2 : Nat) (ys : List Nat) (h2 : F32s w a2 c2 ys) (hl : xs.length = ys.length) :
    Calls Try.prog 107 #[.slice a1 xs.length c1, .slice a2 ys.length c2] w fun e w' => ∃ r, e = .returned (.float .f32 r) ∧ Hid (cn .f32 r = dotS (xs.map (cn .f32)) (ys.map (cn .f32)) xs.length ∧ r < 4294967296) ∧ Dr w w' := by
  obtain ⟨X, hX⟩ : ∃ X, X = xs.map (cn .f32) := ⟨_, rfl⟩
  obtain ⟨Y, hY⟩ : ∃ X, X = ys.map (cn .f32) := ⟨_, rfl⟩
  rw [← hX, ← hY]
  have hm := Nat.le_trans h1.len h1.cap
  unfold maxLen at hm
  obtain ⟨n, e1⟩ : ∃ n, n = xs.length := ⟨_, rfl⟩
  have e2 : n = ys.length := e1.trans hl
  rw [← e1] at hm
  rw [← e1, ← e2]
  have E1 := Lib.hid e1; have E2 := Lib.hid e2; have HX := Lib.hid hX; have HY := Lib.hid hY
  clear e1 e2 hl hX hY
  go_enter Try.func107, Try.ntmps107
  go_wp2
  go_loopw [5, 9] (fun v i wr => ∃ k : Nat, i = .int .i64 k ∧ k ≤ n ∧ ∃ s : Nat, v = .float .f32 s ∧ s < 4294967296 ∧ cn .f32 s = dotS X Y k ∧ Dr w wr) (fun _ i _ => n - (intOf i).toNat)
  case atStart => exact ⟨0, rfl, Nat.zero_le _, 0, rfl, by decide, cn_zero, Dr.refl _⟩
  case round =>
    obtain ⟨k, rfl, hk, s, rfl, hsl, hs, hdr⟩ := hrel
    have h1 := h1.below hdr.below
    have h2 := h2.below hdr.below
    have HS := Lib.hid hs; have HD := Lib.hid hdr; clear hs hdr
    by_cases hlt : k < n
    · have hk1 : k < xs.length := by rw [← E1.out]; exact hlt
      have hk2 : k < ys.length := by rw [← E2.out]; exact hlt
      obtain ⟨bx, offx, rfl, _, hqx⟩ := F32s.spot h1 (k := k) hk1
      have hcx := hqx k hk1
      obtain ⟨x, px⟩ : ∃ x, x = xs.getD k 0 := ⟨_, rfl⟩
      rw [← px] at hcx
      have Px := Lib.hid px; clear px hqx
      obtain ⟨bu, offu, rfl, _, hqu⟩ := F32s.spot h2 (k := k) hk2
      have hcy := hqu k hk2
      obtain ⟨u, pu⟩ : ∃ x, x = ys.getD k 0 := ⟨_, rfl⟩
      rw [← pu] at hcy
      have Pu := Lib.hid pu; clear pu hqu
      clear h1 h2
      go_wp2
      refine wp_region_drawn (fun f args v => False) (by kernel_rfl) (by kernel_rfl) ?_
      repeat (refine wset_step (fun K hK nq => ?_); go_simp; refine hK _ ?_; clear hK K)
      refine wset_nil ?_
      rintro w' ⟨q, rfl⟩
      go_wp2
      go_roundw
      case rel => exact ⟨k + 1, by go_num, hlt, _, rfl, fbits_lt _ .f32 _ _ _, by rw [cn_fbits, cn_fbits, HS.out, Px.out, Pu.out, ← cn_getD, ← cn_getD, ← HX.out, ← HY.out]; rfl, HD.out.drewN _⟩
      case measure => simp [intOf]; omega
    · have hkn : k = n := by omega
      subst hkn
      go_wp2
      go_ret
      exact ⟨_, rfl, Lib.hid ⟨HS.out, hsl⟩, HD.out⟩
set_option maxHeartbeats 1000000 in
theorem impl_sumOf (w : World) (a1 : Option Addr) (c1 : Nat) (xs : List Nat) (h1 : F32s w a1 c1 xs) :
    Calls Try.prog 96 #[.slice a1 xs.length c1] w fun e w' => ∃ r, e = .returned (.float .f32 r) ∧ Hid (cn .f32 r = sumS (xs.map (cn .f32)) xs.length ∧ r < 4294967296) ∧ Dr w w' := by
  obtain ⟨X, hX⟩ : ∃ X, X = xs.map (cn .f32) := ⟨_, rfl⟩
  rw [← hX]
  have hm := Nat.le_trans h1.len h1.cap
  unfold maxLen at hm
  obtain ⟨n, e1⟩ : ∃ n, n = xs.length := ⟨_, rfl⟩
  rw [← e1] at hm
  rw [← e1]
  have E1 := Lib.hid e1; have HX := Lib.hid hX
  clear e1 hX
  go_enter Try.func96, Try.ntmps96
  go_wp2
  go_loopw [3, 8] (fun v i wr => ∃ k : Nat, i = .int .i64 k ∧ k ≤ n ∧ ∃ s : Nat, v = .float .f32 s ∧ s < 4294967296 ∧ cn .f32 s = sumS X k ∧ Dr w wr) (fun _ i _ => n - (intOf i).toNat)
  case atStart => exact ⟨0, rfl, Nat.zero_le _, 0, rfl, by decide, cn_zero, Dr.refl _⟩
  case round =>
    obtain ⟨k, rfl, hk, s, rfl, hsl, hs, hdr⟩ := hrel
    have h1 := h1.below hdr.below
    have HS := Lib.hid hs; have HD := Lib.hid hdr; clear hs hdr
    by_cases hlt : k < n
    · have hk1 : k < xs.length := by rw [← E1.out]; exact hlt
      obtain ⟨bx, offx, rfl, _, hqx⟩ := F32s.spot h1 (k := k) hk1
      have hcx := hqx k hk1
      obtain ⟨x, px⟩ : ∃ x, x = xs.getD k 0 := ⟨_, rfl⟩
      rw [← px] at hcx
      have Px := Lib.hid px; clear px hqx
      clear h1
      go_wp2
      go_roundw
      case rel => exact ⟨k + 1, by go_num, hlt, _, rfl, fbits_lt _ .f32 _ _ _, by rw [cn_fbits, HS.out, Px.out, ← cn_getD, ← HX.out]; rfl, HD.out.drewN _⟩
      case measure => simp [intOf]; omega
    · have hkn : k = n := by omega
      subst hkn
      go_wp2
      go_ret
      exact ⟨_, rfl, Lib.hid ⟨HS.out, hsl⟩, HD.out⟩
set_option maxHeartbeats 1000000 in
theorem spec_l01Sum (w : World) (a1 : Option Addr) (c1 : Nat) (xs : List Nat) (h1 : F32s w a1 c1 xs) :
    Calls Try.prog 77 #[.slice a1 xs.length c1] w fun e w' => ∃ r, e = .returned (.float .f32 r) ∧ Hid (cn .f32 r = sumS (xs.map (cn .f32)) xs.length ∧ r < 4294967296) ∧ Dr w w' := by
  obtain ⟨X, hX⟩ : ∃ X, X = xs.map (cn .f32) := ⟨_, rfl⟩
  rw [← hX]
  have hm := Nat.le_trans h1.len h1.cap
  unfold maxLen at hm
  obtain ⟨n, e1⟩ : ∃ n, n = xs.length := ⟨_, rfl⟩
  rw [← e1] at hm
  rw [← e1]
  have E1 := Lib.hid e1; have HX := Lib.hid hX
  clear e1 hX
  go_enter Try.func77, Try.ntmps77
  go_wp2
  go_loopw [3, 4] (fun v i wr => ∃ k : Nat, i = .int .i64 k ∧ k ≤ n ∧ ∃ s : Nat, v = .float .f32 s ∧ s < 4294967296 ∧ cn .f32 s = sumS X k ∧ Dr w wr) (fun _ i _ => n - (intOf i).toNat)
  case atStart => exact ⟨0, rfl, Nat.zero_le _, 0, rfl, by decide, cn_zero, Dr.refl _⟩
  case round =>
    obtain ⟨k, rfl, hk, s, rfl, hsl, hs, hdr⟩ := hrel
    have h1 := h1.below hdr.below
    have HS := Lib.hid hs; have HD := Lib.hid hdr; clear hs hdr
    by_cases hlt : k < n
    · have hk1 : k < xs.length := by rw [← E1.out]; exact hlt
      obtain ⟨bx, offx, rfl, _, hqx⟩ := F32s.spot h1 (k := k) hk1
      have hcx := hqx k hk1
      obtain ⟨x, px⟩ : ∃ x, x = xs.getD k 0 := ⟨_, rfl⟩
      rw [← px] at hcx
      have Px := Lib.hid px; clear px hqx
      clear h1
      go_wp2
      go_roundw
      case rel => exact ⟨k + 1, by go_num, hlt, _, rfl, fbits_lt _ .f32 _ _ _, by rw [cn_fbits, HS.out, Px.out, ← cn_getD, ← HX.out]; rfl, HD.out.drewN _⟩
      case measure => simp [intOf]; omega
    · have hkn : k = n := by omega
      subst hkn
      go_wp2
      go_ret
      exact ⟨_, rfl, Lib.hid ⟨HS.out, hsl⟩, HD.out⟩
end Go.Proofs.Ytfdgngnnncmfiaa
/- What the mean of squares and its gradients are. No condition. -/
namespace Go.Proofs.Ytfdgngnnncmfiaa
open Go Go.RowKit
set_option linter.unusedVariables false
set_option linter.unusedSimpArgs false
/-- a list that has been changed in its first k places -/
def stepf (k : Nat) (g f : Nat → Nat) (i : Nat) : Nat := if i < k then g i else f i
theorem stepf_zero (g f : Nat → Nat) : stepf 0 g f = f := by funext i; simp [stepf]
theorem stepf_at (k : Nat) (g f : Nat → Nat) : stepf k g f k = f k := by simp [stepf]
theorem listOf_done (n : Nat) (g f : Nat → Nat) : listOf n (stepf n g f) = listOf n g := listOf_congr fun i hi => by simp [stepf, hi]
theorem set_listOf {n k : Nat} {g f : Nat → Nat} {y : Nat} {zs : List Nat} (h : zs.map (cn .f32) = listOf n (stepf k g f)) (hy : cn .f32 y = g k) : (zs.set k y).map (cn .f32) = listOf n (stepf (k + 1) g f) := by
  rw [List.map_set, h, hy]
  apply List.ext_getElem
  · simp [listOf]
  · intro i h1 h2
    simp only [listOf, List.getElem_set, List.getElem_map, List.getElem_range, stepf]
    by_cases e : k = i
    · subst e; simp
    · rw [if_neg e]
      by_cases e2 : i < k
      · rw [if_pos e2, if_pos (by omega)]
      · rw [if_neg e2, if_neg (by omega)]
theorem RepF.open {w : World} {lo hi : Nat} {ad : Option Addr} {n cap : Nat} {zs : List Nat} (h : RepF w lo hi ad n cap zs) (hp : 0 < n) :
    ∃ g, ad = some ⟨g, 0, none⟩ ∧ lo ≤ g ∧ (∀ k, k < n → w.cell? ⟨g, k, none⟩ = some (.float .f32 (zs.getD k 0))) ∧ (∀ k, w.frozen? ⟨g, k, none⟩ = false) ∧
      (∀ k y, y < 4294967296 → RepF (w.setCell ⟨g, k, none⟩ (.float .f32 y)) lo hi (some ⟨g, 0, none⟩) n cap (zs.set k y)) := by
  obtain ⟨hrow, hlen, hlt⟩ := h
  obtain ⟨g, cap', hform⟩ := Joins.ownsRow_form hrow.own hp
  have had : ad = some ⟨g, 0, none⟩ := by cases hform; rfl
  clear hform
  subst had
  refine ⟨g, rfl, (hrow.own.lt g rfl).1, fun k hk => ?_, fun k => hrow.own.frozenAt k, fun k y hy => ⟨⟨?_, ?_⟩, ?_, ?_⟩⟩
  · rw [hrow.own.cellAt k (by omega), List.getElem?_map, List.getD_eq_getElem?_getD, List.getElem?_eq_getElem (by omega)]; rfl
  · rw [List.map_set]; exact (hrow.own.stored k (.float .f32 y)).1
  · exact hrow.top
  · rw [List.length_set]; exact hlen
  · intro x hx
    rcases List.mem_or_eq_of_mem_set hx with hx | rfl
    · exact hlt x hx
    · exact hy
theorem RepF.setAt {w : World} {lo hi g n cap : Nat} {zs : List Nat} (h : RepF w lo hi (some ⟨g, 0, none⟩) n cap zs) (k y : Nat) (hy : y < 4294967296) (hp : 0 < n) : RepF (w.setCell ⟨g, k, none⟩ (.float .f32 y)) lo hi (some ⟨g, 0, none⟩) n cap (zs.set k y) := by
  obtain ⟨g', hg, _, _, _, hs⟩ := h.open hp
  obtain rfl : g = g' := by simpa using hg
  exact hs k y hy
def sqG (D : Nat → Nat) (n i : Nat) : Nat := fop .quo .f32 (fop .mul .f32 1073741824 (D i)) (floatOfInt .f32 n)
def sqL (D : Nat → Nat) (n : Nat) : Nat := fop .quo .f32 (dotS (listOf n D) (listOf n D) n) (floatOfInt .f32 n)
theorem cn_two : cn .f32 1073741824 = 1073741824 := by decide +kernel
end Go.Proofs.Ytfdgngnnncmfiaa
/- Plain laws of floats, continued: the order of numbers is that of their words. No condition. -/
namespace Go.Proofs.Ytfdgngnnncmfiaa
open Go Ieee
set_option linter.unusedVariables false
/-- the magnitude of a rung, in units of the least place -/
def nval (f : Format) (r : Nat) : Nat := if r < f.binade then r else (f.binade + r % f.binade) * 2 ^ (r / f.binade - 1)
theorem nval_succ (f : Format) (r : Nat) : nval f r < nval f (r + 1) := by
  have hb : 0 < f.binade := Nat.two_pow_pos _
  unfold nval
  by_cases h1 : r + 1 < f.binade
  · rw [if_pos (by omega), if_pos h1]; omega
  · rw [if_neg h1]
    by_cases h2 : r < f.binade
    · rw [if_pos h2]
      have e : r + 1 = f.binade := by omega
      rw [e, Nat.mod_self, Nat.div_self hb]
      simp; omega
    · rw [if_neg h2]
      have hd := Nat.div_add_mod r f.binade
      have hm := Nat.mod_lt r hb
      have hq : 1 ≤ r / f.binade := (Nat.le_div_iff_mul_le hb).2 (by omega)
      by_cases h3 : r % f.binade + 1 < f.binade
      · have e1 : (r + 1) / f.binade = r / f.binade := by
          rw [Nat.div_eq_iff (by omega)]
          have : r / f.binade * f.binade = f.binade * (r / f.binade) := Nat.mul_comm _ _
          constructor <;> omega
        have e2 : (r + 1) % f.binade = r % f.binade + 1 := by
          have := Nat.div_add_mod (r + 1) f.binade
          rw [e1] at this; omega
        rw [e1, e2]
        exact Nat.mul_lt_mul_of_pos_right (by omega) (Nat.two_pow_pos _)
      · have e0 : r % f.binade = f.binade - 1 := by omega
        have e1 : (r + 1) / f.binade = r / f.binade + 1 := by
          rw [Nat.div_eq_iff (by omega), Nat.add_mul]
          have : r / f.binade * f.binade = f.binade * (r / f.binade) := Nat.mul_comm _ _
          constructor <;> omega
        have e2 : (r + 1) % f.binade = 0 := by
          have := Nat.div_add_mod (r + 1) f.binade
          rw [e1, Nat.mul_add] at this; omega
        rw [e1, e2, e0, show r / f.binade + 1 - 1 = (r / f.binade - 1) + 1 by omega, Nat.pow_succ]
        have hp := Nat.two_pow_pos (r / f.binade - 1)
        rw [Nat.add_zero, Nat.mul_comm (2 ^ (r / f.binade - 1)) 2, ← Nat.mul_assoc]
        exact Nat.mul_lt_mul_of_pos_right (by omega) hp
theorem nval_lt {f : Format} {x y : Nat} (h : x < y) : nval f x < nval f y := by
  induction y with
  | zero => omega
  | succ y ih =>
    by_cases e : x = y
    · subst e; exact nval_succ f x
    · exact Nat.lt_trans (ih (by omega)) (nval_succ f y)
theorem nval_lt_iff {f : Format} {x y : Nat} : nval f x < nval f y ↔ x < y := by
  constructor
  · intro h
    rcases Nat.lt_trichotomy x y with h1 | h1 | h1
    · exact h1
    · subst h1; omega
    · have := nval_lt (f := f) h1; omega
  · exact nval_lt
theorem nval_inj {f : Format} {x y : Nat} (h : nval f x = nval f y) : x = y := by
  rcases Nat.lt_trichotomy x y with h1 | h1 | h1
  · have := nval_lt (f := f) h1; omega
  · exact h1
  · have := nval_lt (f := f) h1; omega
theorem nval_zero (f : Format) : nval f 0 = 0 := by unfold nval; rw [if_pos (show 0 < f.binade from Nat.two_pow_pos _)]

/-- a finite word, read -/
theorem read_fin (f : Format) (neg : Bool) {r : Nat} (h : r < f.infRung) : ∃ m p, f.read (f.word neg r) = .number neg m p ∧ f.leastPlace ≤ p ∧ m <<< (p - f.leastPlace).toNat = nval f r := by
  rw [read_word f neg (Nat.lt_trans h f.infRung_lt)]
  unfold nval
  by_cases h1 : r < f.binade
  · rw [if_pos h1, if_pos h1]
    exact ⟨r, f.leastPlace, rfl, Int.le_refl _, by simp⟩
  · rw [if_neg h1, if_pos h, if_neg h1]
    refine ⟨_, _, rfl, by omega, ?_⟩
    rw [Nat.shiftLeft_eq]
    congr 2
    omega
theorem read_inf (f : Format) (hb : f.binade ≤ f.infRung) (neg : Bool) : f.read (f.word neg f.infRung) = .infinity neg := by
  rw [read_word f neg f.infRung_lt, if_neg (by omega), if_neg (by omega), if_pos rfl]

theorem signed_scale (s : Bool) (m k : Nat) (d : Nat) : signed s m (k + d) = signed s m k * (2 ^ d : Nat) := by
  unfold signed
  simp only [Nat.shiftLeft_eq, Nat.pow_add]
  split <;> simp [← Nat.mul_assoc, Int.neg_mul]
theorem signed_eq (s : Bool) (m k : Nat) : signed s m k = if s = true then -((m <<< k : Nat) : Int) else ((m <<< k : Nat) : Int) := by
  unfold signed; cases s <;> simp
theorem compare_scale (a b : Int) (d : Nat) : compare (a * (2 ^ d : Nat)) (b * (2 ^ d : Nat)) = compare a b := by
  have hp : (0 : Int) < ((2 ^ d : Nat) : Int) := by exact_mod_cast Nat.two_pow_pos d
  simp only [compare, compareOfLessAndEq]
  have h1 : a * ((2 ^ d : Nat) : Int) < b * ((2 ^ d : Nat) : Int) ↔ a < b := ⟨fun h => Int.lt_of_mul_lt_mul_right h (Int.le_of_lt hp), fun h => Int.mul_lt_mul_of_pos_right h hp⟩
  have h2 : a * ((2 ^ d : Nat) : Int) = b * ((2 ^ d : Nat) : Int) ↔ a = b := ⟨fun h => Int.eq_of_mul_eq_mul_right (by omega) h, fun h => by rw [h]⟩
  simp only [h1, h2]
/-- two numbers, in units of a place below both -/
theorem order_numbers {s t : Bool} {m n : Nat} {p q l : Int} (hp : l ≤ p) (hq : l ≤ q) :
    (Datum.number s m p).order (.number t n q) = some (compare (signed s m (p - l).toNat) (signed t n (q - l).toNat)) := by
  simp only [Datum.order]
  congr 1
  have hb : l ≤ min p q := by omega
  have e1 : (p - l).toNat = (p - min p q).toNat + (min p q - l).toNat := by omega
  have e2 : (q - l).toNat = (q - min p q).toNat + (min p q - l).toNat := by omega
  rw [e1, e2, signed_scale, signed_scale, compare_scale]
/-- the value of a finite word in units of the least place -/
def sval (f : Format) (neg : Bool) (r : Nat) : Int := if neg = true then -(nval f r : Int) else (nval f r : Int)
theorem order_fin (f : Format) (s t : Bool) {x y : Nat} (hx : x < f.infRung) (hy : y < f.infRung) : f.order (f.word s x) (f.word t y) = some (compare (sval f s x) (sval f t y)) := by
  obtain ⟨m, p, e1, e2, e3⟩ := read_fin f s hx
  obtain ⟨n, q, e4, e5, e6⟩ := read_fin f t hy
  unfold Format.order
  rw [e1, e4, order_numbers e2 e5, signed_eq, signed_eq, e3, e6]
  rfl
theorem compare_nat (a b : Nat) : compare (a : Int) (b : Int) = compare a b := by
  simp only [compare, compareOfLessAndEq, Int.ofNat_lt, Int.natCast_inj]
/-- positive numbers stand as their words do -/
theorem order_pos (f : Format) {x y : Nat} (hx : x < f.infRung) (hy : y < f.infRung) : f.order x y = some (compare x y) := by
  have := order_fin f false false hx hy
  have e1 : f.word false x = x := rfl
  have e2 : f.word false y = y := rfl
  rw [e1, e2] at this
  rw [this]
  simp only [sval, Bool.false_eq_true, if_false]
  rw [compare_nat]
  congr 1
  have h1 : (nval f x < nval f y) = (x < y) := propext nval_lt_iff
  have h2 : (nval f x = nval f y) = (x = y) := propext ⟨nval_inj, fun e => by rw [e]⟩
  show compareOfLessAndEq _ _ = compareOfLessAndEq _ _
  unfold compareOfLessAndEq
  simp only [h1, h2]
/-! the greater and the less of two numbers -/
def maxF (k : FloatKind) (x y : Nat) : Option Nat := match k.format.order x y with
  | none => none
  | some .lt => some y
  | some .gt => some x
  | some .eq => some (if (k.decode x).neg = true then y else x)
def minF (k : FloatKind) (x y : Nat) : Option Nat := match k.format.order x y with
  | none => none
  | some .lt => some x
  | some .gt => some y
  | some .eq => some (if (k.decode x).neg = true then x else y)
theorem run_max_f {P : Program} (w : World) (A : Array TypeId) (T : TypeId) (k : FloatKind) (x y z : Nat) (h : maxF k x y = some z) : (Builtin.max_ A T #[.float k x, .float k y]).run P w = .ok (.float k z) w := by
  unfold maxF at h
  cases ho : k.format.order x y with
  | none => rw [ho] at h; cases h
  | some c => cases c <;> (rw [ho] at h; simp only [Option.some.injEq] at h; subst h; simp [Builtin.max_, Builtin.max2, ho])
theorem run_min_f {P : Program} (w : World) (A : Array TypeId) (T : TypeId) (k : FloatKind) (x y z : Nat) (h : minF k x y = some z) : (Builtin.min_ A T #[.float k x, .float k y]).run P w = .ok (.float k z) w := by
  unfold minF at h
  cases ho : k.format.order x y with
  | none => rw [ho] at h; cases h
  | some c => cases c <;> (rw [ho] at h; simp only [Option.some.injEq] at h; subst h; simp [Builtin.min_, Builtin.min2, ho])

theorem neg_word (f : Format) (neg : Bool) {r : Nat} (h : r ≤ f.infRung) : (f.read (f.word neg r)).neg = neg := by
  rw [read_word f neg (Nat.lt_of_le_of_lt h f.infRung_lt)]
  split
  · rfl
  · split
    · rfl
    · rw [if_pos (by omega)]; rfl
theorem nearest_word (f : Format) (neg : Bool) (m : Nat) (p : Int) : ∃ r, f.nearest neg m p = f.word neg r ∧ r ≤ f.infRung := by
  unfold Format.nearest
  split
  · exact ⟨0, rfl, Nat.zero_le _⟩
  · exact ⟨_, rfl, Nat.min_le_right ..⟩
/-- a word is a sign and a rung -/
theorem word_of (f : Format) {x : Nat} (h : x < 2 * f.signWeight) : ∃ neg r, x = f.word neg r ∧ r < f.signWeight := by
  by_cases hx : x < f.signWeight
  · exact ⟨false, x, rfl, hx⟩
  · exact ⟨true, x - f.signWeight, by unfold Format.word; simp; omega, by omega⟩
theorem nan_word (f : Format) (hb : f.binade ≤ f.infRung) (neg : Bool) {r : Nat} (h1 : f.infRung < r) (h2 : r < f.signWeight) : (f.read (f.word neg r)).isNaN = true := read_high f hb neg r h1 h2
theorem single_binade : single.binade ≤ single.infRung := by decide +kernel
theorem double_binade : double.binade ≤ double.infRung := by decide +kernel
/-- what lies between two positive numbers is a word between theirs -/
theorem between {s a b : Nat} (hs : s < 4294967296) (ha : 0 < a) (ha2 : a < single.infRung) (hb2 : b < single.infRung)
    (h1 : single.order s a = some .gt ∨ single.order s a = some .eq) (h2 : single.order s b = some .lt ∨ single.order s b = some .eq) : a ≤ s ∧ s ≤ b := by
  obtain ⟨neg, r, rfl, hr⟩ := word_of single (x := s) (by have : single.signWeight = 2147483648 := by decide +kernel
                                                          omega)
  by_cases hfin : r < single.infRung
  · cases neg
    · have e : single.word false r = r := rfl
      rw [e] at h1 h2 ⊢
      rw [order_pos single hfin ha2] at h1
      rw [order_pos single hfin hb2] at h2
      constructor
      · rcases h1 with h1 | h1
        · have := Nat.compare_eq_gt.1 (Option.some.inj h1); omega
        · have := Nat.compare_eq_eq.1 (Option.some.inj h1); omega
      · rcases h2 with h2 | h2
        · have := Nat.compare_eq_lt.1 (Option.some.inj h2); omega
        · have := Nat.compare_eq_eq.1 (Option.some.inj h2); omega
    · exfalso
      have := order_fin single true false hfin ha2
      have e : single.word false a = a := rfl
      rw [e] at this
      rw [this] at h1
      simp only [sval, if_true, Bool.false_eq_true, if_false] at h1
      have hp : 0 < nval single a := by have := nval_lt (f := single) ha; rw [nval_zero] at this; exact this
      have hlt : -(nval single r : Int) < (nval single a : Int) := by omega
      rw [show compare (-(nval single r : Int)) (nval single a : Int) = .lt from by simp [compare, compareOfLessAndEq, hlt]] at h1
      rcases h1 with h1 | h1 <;> cases h1
  · by_cases hinf : r = single.infRung
    · subst hinf
      have e1 := read_inf single single_binade neg
      obtain ⟨m, p, e2, _⟩ := read_fin single false ha2
      obtain ⟨m', p', e3, _⟩ := read_fin single false hb2
      have e4 : single.word false a = a := rfl
      have e5 : single.word false b = b := rfl
      rw [e4] at e2; rw [e5] at e3
      unfold Format.order at h1 h2
      rw [e1, e2] at h1
      rw [e1, e3] at h2
      cases neg
      · simp [Datum.order] at h2
      · simp [Datum.order] at h1
    · exfalso
      have := nan_word single single_binade neg (by omega) hr
      have hn : isN .f32 (single.word neg r) = true := this
      rw [show single.order (single.word neg r) a = none from order_none (k := .f32) (.inl hn)] at h1
      rcases h1 with h1 | h1 <;> cases h1
/-- half of a positive number, and twice one -/
theorem half_pos {s : Nat} (h0 : 0 < s) (h1 : s < single.infRung) : ∃ r, floatBits .quo .f32 s 1073741824 = some r ∧ (single.read r).neg = false ∧ isN .f32 r = false := by
  obtain ⟨m, p, e1, _, e3⟩ := read_fin single false h1
  have e0 : single.word false s = s := rfl
  rw [e0] at e1
  have e2 : single.read 1073741824 = .number false 8388608 (-22) := by decide +kernel
  have hm : m ≠ 0 := by
    intro e; subst e
    have := nval_lt (f := single) h0
    rw [nval_zero, ← e3] at this; simp at this
  have : ∃ m' p', floatBits .quo .f32 s 1073741824 = some (single.nearest false m' p') := by
    show ∃ m' p', ((single.read s).quotient (single.fractionBits + 2) (single.read 1073741824)).map single.write = some _
    rw [e1, e2]
    exact ⟨_, _, rfl⟩
  obtain ⟨m', p', e⟩ := this
  obtain ⟨r, hr, hle⟩ := nearest_word single false m' p'
  exact ⟨_, e, by rw [hr]; exact neg_word single false hle, nearest_not single false m' p'⟩
theorem twice_pos {s : Nat} (h0 : 0 < s) (h1 : s < single.infRung) : ∃ r, floatBits .mul .f32 1073741824 s = some r ∧ floatBits .mul .f32 s 1073741824 = some r ∧ r ≤ single.infRung := by
  obtain ⟨m, p, e1, _, e3⟩ := read_fin single false h1
  have e0 : single.word false s = s := rfl
  rw [e0] at e1
  have e2 : single.read 1073741824 = .number false 8388608 (-22) := by decide +kernel
  have h3 : floatBits .mul .f32 1073741824 s = some (single.nearest false (8388608 * m) (-22 + p)) := by
    show ((single.read 1073741824).product (single.read s)).map single.write = some _
    rw [e1, e2]; rfl
  have h4 : floatBits .mul .f32 s 1073741824 = some (single.nearest false (8388608 * m) (-22 + p)) := by
    show ((single.read s).product (single.read 1073741824)).map single.write = some _
    rw [e1, e2, Nat.mul_comm 8388608 m, Int.add_comm (-22) p]; rfl
  obtain ⟨r, hr, hle⟩ := nearest_word single false (8388608 * m) (-22 + p)
  rw [hr] at h3 h4
  exact ⟨_, h3, h4, hle⟩
theorem eq_of_order {x y : Nat} (hx : x ≤ single.infRung) (hy : y < single.infRung) (h : single.order x y = some .eq) : x = y := by
  by_cases hfin : x < single.infRung
  · rw [order_pos single hfin hy] at h
    exact Nat.compare_eq_eq.1 (Option.some.inj h)
  · exfalso
    obtain rfl : x = single.infRung := by omega
    have e1 := read_inf single single_binade false
    obtain ⟨m, p, e2, _⟩ := read_fin single false hy
    have e4 : single.word false y = y := rfl
    have e5 : single.word false single.infRung = single.infRung := rfl
    rw [e4] at e2; rw [e5] at e1
    unfold Format.order at h
    rw [e1, e2] at h
    simp [Datum.order] at h
theorem neg_le_inf {x : Nat} (hx : x ≤ single.infRung) : (single.read x).neg = false := neg_word single false hx
end Go.Proofs.Ytfdgngnnncmfiaa
/- What codes, spreads and finite numbers are. No condition. -/
namespace Go.Proofs.Ytfdgngnnncmfiaa
open Go Go.RowKit Ieee
set_option linter.unusedVariables false
set_option linter.unusedSimpArgs false
/-- a finite number -/
def finB (x : Nat) : Bool := match single.read x with
  | .number .. => true
  | _ => false
theorem finB_not {x : Nat} (h : finB x = true) : isN .f32 x = false := by
  unfold finB at h
  unfold isN
  show (single.read x).isNaN = false
  cases hd : single.read x with
  | nan s t => rw [hd] at h; cases h
  | infinity s => rw [hd] at h; cases h
  | number s m p => rfl
theorem sub_self_fin {x : Nat} (h : finB x = true) : floatBits .sub .f32 x x = some 0 := by
  show ((single.read x).sum (single.read x).opposite).map single.write = some 0
  unfold finB at h
  cases hd : single.read x with
  | nan s t => rw [hd] at h; cases h
  | infinity s => rw [hd] at h; cases h
  | number s m p =>
    have hs : ∀ k, signed s m k + signed (!s) m k = 0 := by intro k; unfold signed; cases s <;> simp <;> omega
    simp only [Datum.sum, Datum.opposite, hs, Option.map_some]
    cases s <;> simp [Format.write, Format.nearest, Format.word]
theorem sub_self_not {x : Nat} (h : finB x = false) : floatBits .sub .f32 x x = none := by
  show ((single.read x).sum (single.read x).opposite).map single.write = none
  unfold finB at h
  cases hd : single.read x with
  | nan s t => rfl
  | infinity s => cases s <;> rfl
  | number s m p => rw [hd] at h; cases h
/-- 'x - x == 0' -/
theorem order_sub_self (x : Nat) (w : World) : (FloatKind.f32.format.order (fbits .sub .f32 x x w) 0 == some .eq) = finB x := by
  cases h : finB x
  · have hn : isN .f32 (fbits .sub .f32 x x w) = true := by
      unfold fbits
      rw [sub_self_not h]
      exact drawn_nan .f32 x x _
    rw [order_none (.inl hn)]; rfl
  · rw [fbits_some (sub_self_fin h)]
    have : FloatKind.f32.format.order 0 0 = some .eq := by decide +kernel
    rw [this]; rfl
def geF (x y : Nat) : Bool := FloatKind.f32.format.order x y == some .gt || FloatKind.f32.format.order x y == some .eq
def spreadOk (x : Nat) : Bool := finB x && geF x 0 && decide (x ≠ 2147483648)
def codesOk (xs : List Int) : Bool := decide (xs.length ≤ 256) && xs.all fun n => inB n (-127) 127
def fewFin (xs : List Nat) : Bool := decide (xs.length ≤ 256) && xs.all finB
theorem few_of {xs : List Nat} (h : fewFin xs = true) : xs.length ≤ 256 ∧ ∀ x ∈ xs, finB x = true := by
  simp only [fewFin, Bool.and_eq_true, decide_eq_true_eq, List.all_eq_true] at h; exact h

/-- the sign of a number made wider -/
theorem cv_number {k k2 : FloatKind} {b : Nat} {s : Bool} {m : Nat} {e : Int} (hd : k.decode b = .number s m e) (hne : k ≠ k2) (hi : cvWide k b k2 = false) (w : World) : cvbits k b k2 w = k2.format.nearest s m e := by
  unfold cvWide at hi
  rw [if_neg hne, hd] at hi
  simp only at hi
  unfold cvbits
  rw [if_neg hne, hd]
  simp only
  rw [hi]
  rfl
theorem fin_rung {neg : Bool} {r : Nat} (hr : r < single.signWeight) (hf : finB (single.word neg r) = true) : r < single.infRung := by
  rcases Nat.lt_trichotomy r single.infRung with h | h | h
  · exact h
  · subst h; unfold finB at hf; rw [read_inf single single_binade neg] at hf; cases hf
  · have hn : isN .f32 (single.word neg r) = true := nan_word single single_binade neg h hr
    rw [finB_not hf] at hn; cases hn
theorem word_sign (f : Format) (neg : Bool) {r : Nat} (h : r < f.signWeight) : decide (f.word neg r < f.signWeight) = !neg := by
  unfold Format.word
  cases neg
  · simpa using h
  · simp
theorem wide_sign {x : Nat} (hx : x < 4294967296) (hf : finB x = true) (w : World) : (decide (cvbits .f32 x .f64 w < 9223372036854775808) = decide (x < 2147483648)) := by
  have hsw : single.signWeight = 2147483648 := by decide +kernel
  have hdw : double.signWeight = 9223372036854775808 := by decide +kernel
  obtain ⟨neg, r, rfl, hr⟩ := word_of single (x := x) (by rw [hsw]; omega)
  obtain ⟨m, p, e1, _, _⟩ := read_fin single neg (fin_rung hr hf)
  rw [cv_number (k := .f32) (k2 := .f64) e1 (by decide) (wide_ok _) w]
  obtain ⟨q, hq, hle⟩ := nearest_word double neg m p
  rw [show FloatKind.f64.format.nearest neg m p = _ from hq, ← hdw, ← hsw, word_sign single neg hr, word_sign double neg (Nat.lt_of_le_of_lt hle double.infRung_lt)]
theorem cv64_lt (x : Nat) (w : World) : cvbits .f32 x .f64 w < 18446744073709551616 := by
  by_cases hN : ∃ s m e, FloatKind.f32.decode x = .number s m e
  · obtain ⟨s, m, e, hd⟩ := hN
    rw [cv_number (k := .f32) (k2 := .f64) hd (by decide) (wide_ok _) w]
    obtain ⟨q, hq, hle⟩ := nearest_word double s m e
    rw [show FloatKind.f64.format.nearest s m e = _ from hq]
    have hdw : double.signWeight = 9223372036854775808 := by decide +kernel
    have := double.infRung_lt
    unfold Format.word
    rw [hdw]
    rw [hdw] at this
    cases s
    · simp only [Bool.false_eq_true, if_false]; omega
    · simp only [if_true]; omega
  · unfold cvbits
    rw [if_neg (by decide)]
    cases hd : FloatKind.f32.decode x with
    | nan s t => exact drawn_lt .f64 0 0 _
    | infinity s => show FloatKind.f64.encode (.infinity s) < _; cases s <;> decide +kernel
    | number s m e => exact absurd ⟨s, m, e, hd⟩ hN
/-- a number that is not less than 0 has a sign only if it is -0 -/
theorem ge_zero_sign {x : Nat} (hx : x < 4294967296) (hg : geF x 0 = true) : decide (x < 2147483648) = decide (x ≠ 2147483648) := by
  obtain ⟨neg, r, rfl, hr⟩ := word_of single (x := x) (by have : single.signWeight = 2147483648 := by decide +kernel
                                                          omega)
  have hsw : single.signWeight = 2147483648 := by decide +kernel
  cases neg
  · have : single.word false r = r := rfl
    rw [this]; rw [hsw] at hr
    rw [decide_eq_true (by omega), decide_eq_true (by omega)]
  · have e : single.word true r = 2147483648 + r := by unfold Format.word; rw [hsw]; rfl
    have h0 : r = 0 := by
      rcases Nat.lt_trichotomy r single.infRung with h | h | h
      · have ho := order_fin single true false h (y := 0) (by decide +kernel)
        unfold geF at hg
        rw [show FloatKind.f32.format.order (single.word true r) 0 = _ from ho] at hg
        simp only [sval, if_true, Bool.false_eq_true, if_false, nval_zero] at hg
        rcases Nat.eq_zero_or_pos r with h1 | h1
        · exact h1
        · exfalso
          have hp : 0 < nval single r := by have := nval_lt (f := single) h1; rw [nval_zero] at this; exact this
          have hlt : -(nval single r : Int) < 0 := by omega
          rw [show compare (-(nval single r : Int)) ((0 : Nat) : Int) = .lt from by simp [compare, compareOfLessAndEq]; omega] at hg
          simp at hg
      · exfalso
        subst h
        unfold geF at hg
        have e1 := read_inf single single_binade true
        have e2 : single.read 0 = .number false 0 (-149) := by decide +kernel
        rw [show FloatKind.f32.format.order (single.word true single.infRung) 0 = (single.read (single.word true single.infRung)).order (single.read 0) from rfl, e1, e2] at hg
        simp [Datum.order] at hg
      · exfalso
        have hn : isN .f32 (single.word true r) = true := nan_word single single_binade true h hr
        unfold geF at hg
        rw [order_none (.inl hn)] at hg
        simp at hg
    rw [e, h0]
    rw [decide_eq_false (by omega), decide_eq_false (by omega)]
end Go.Proofs.Ytfdgngnnncmfiaa
/- Plain laws of floats, continued: what a format has exactly is written as it is. No condition. -/
namespace Go.Proofs.Ytfdgngnnncmfiaa
open Go Ieee
set_option linter.unusedVariables false
theorem cut_exact (neg : Bool) {n low d : Nat} (h : n = low * 2 ^ d) : Toward.even.cut neg n d = low := by
  unfold Toward.cut
  have hg : ∃ g, 1 <<< min d (n.log2 + 2) = g ∧ n / g = low ∧ n % g = 0 ∧ 0 < g := by
    by_cases h0 : n = 0
    · have hl : low = 0 := by
        rcases Nat.eq_zero_or_pos low with e | e
        · exact e
        · have := Nat.mul_pos e (Nat.two_pow_pos d); omega
      subst h0
      exact ⟨_, rfl, by rw [hl]; simp, by simp, by rw [Nat.shiftLeft_eq]; have := Nat.two_pow_pos (min d (Nat.log2 0 + 2)); omega⟩
    · have hd : d ≤ n.log2 + 2 := by
        have hl : 1 ≤ low := by
          rcases Nat.eq_zero_or_pos low with e | e
          · subst e; simp at h; exact absurd h h0
          · exact e
        have h1 : 2 ^ d ≤ n := by rw [h]; exact Nat.le_mul_of_pos_left _ hl
        have h2 := (Nat.le_log2 h0).2 h1
        omega
      refine ⟨2 ^ d, by rw [Nat.min_eq_left hd, Nat.shiftLeft_eq, Nat.one_mul], ?_, ?_, Nat.two_pow_pos d⟩
      · rw [h, Nat.mul_div_cancel _ (Nat.two_pow_pos d)]
      · rw [h, Nat.mul_mod_left]
  obtain ⟨g, e1, e2, e3, e4⟩ := hg
  simp only [e1, e2, e3]
  have : ¬ (g < 2 * 0) := by omega
  have h2 : (g == 2 * 0) = false := by simp; omega
  simp [h2]
theorem log2_mul_pow {m a : Nat} (hm : m ≠ 0) : (m * 2 ^ a).log2 = m.log2 + a := by
  have hp := Nat.two_pow_pos a
  have hne : m * 2 ^ a ≠ 0 := Nat.mul_ne_zero hm (by omega)
  apply Nat.le_antisymm
  · have : (m * 2 ^ a).log2 < m.log2 + a + 1 := (Nat.log2_lt hne).2 (by
      have := Nat.lt_log2_self (n := m)
      rw [show m.log2 + a + 1 = (m.log2 + 1) + a by omega, Nat.pow_add]
      exact Nat.mul_lt_mul_of_pos_right this hp)
    omega
  · refine (Nat.le_log2 hne).2 ?_
    rw [Nat.pow_add]
    exact Nat.mul_le_mul_right _ (Nat.log2_self_le hm)
/-- what a rung stands for, is written as this rung: m * 2 ^ p is nval r * 2 ^ leastPlace -/
theorem nearest_val (f : Format) (neg : Bool) {m r a b : Nat} {p : Int} (hr : r < f.infRung) (hv : m * 2 ^ a = nval f r * 2 ^ b) (hp : (a : Int) - b = p - f.leastPlace) : f.nearest neg m p = f.word neg r := by
  have hB : f.binade = 2 ^ f.fractionBits := rfl
  have hBp : 0 < f.binade := Nat.two_pow_pos _
  by_cases hm : m = 0
  · subst hm
    have h0 : nval f r = 0 := by
      rcases Nat.eq_zero_or_pos (nval f r) with e | e
      · exact e
      · have := Nat.mul_pos e (Nat.two_pow_pos b); rw [Nat.zero_mul] at hv; omega
    have : r = 0 := nval_inj (f := f) (by rw [h0, nval_zero])
    subst this
    unfold Format.nearest
    rw [if_pos rfl]
  have hN : nval f r ≠ 0 := by
    intro e; rw [e, Nat.zero_mul] at hv
    have := Nat.mul_pos (Nat.pos_of_ne_zero hm) (Nat.two_pow_pos a); omega
  have hlog : m.log2 + a = (nval f r).log2 + b := by rw [← log2_mul_pow hm, ← log2_mul_pow hN, hv]
  -- the kept digits and the place of the last
  have hK : ∃ K s : Nat, nval f r = K * 2 ^ s ∧ s * f.binade + K = r ∧ max (f.leastPlace + (nval f r).log2 - (f.fractionBits : Nat)) f.leastPlace = f.leastPlace + s := by
    by_cases h1 : r < f.binade
    · have e : nval f r = r := by unfold nval; rw [if_pos h1]
      refine ⟨r, 0, by rw [e]; simp, by simp, ?_⟩
      rw [e]
      have : r.log2 < f.fractionBits := (Nat.log2_lt (by rw [e] at hN; exact hN)).2 (by rw [← hB]; exact h1)
      omega
    · have e : nval f r = (f.binade + r % f.binade) * 2 ^ (r / f.binade - 1) := by unfold nval; rw [if_neg h1]
      have hq : 1 ≤ r / f.binade := (Nat.le_div_iff_mul_le hBp).2 (by omega)
      have hd := Nat.div_add_mod r f.binade
      have hmod := Nat.mod_lt r hBp
      refine ⟨_, _, e, ?_, ?_⟩
      · have h2 : (r / f.binade - 1) * f.binade + f.binade = f.binade * (r / f.binade) := by
          rw [Nat.mul_comm f.binade, ← Nat.succ_mul]; congr 1; omega
        omega
      · have hne : f.binade + r % f.binade ≠ 0 := by omega
        have hl : (f.binade + r % f.binade).log2 = f.fractionBits := by
          apply Nat.le_antisymm
          · have : (f.binade + r % f.binade).log2 < f.fractionBits + 1 := (Nat.log2_lt hne).2 (by rw [Nat.pow_succ, ← hB]; omega)
            omega
          · exact (Nat.le_log2 hne).2 (by rw [← hB]; omega)
        rw [e, log2_mul_pow hne, hl]
        omega
  obtain ⟨K, s, hK1, hK2, hK3⟩ := hK
  have hlast : max (p + m.log2 - (f.fractionBits : Nat)) f.leastPlace = f.leastPlace + s := by
    rw [← hK3]
    congr 1
    omega
  unfold Format.nearest
  rw [if_neg hm]
  simp only [hlast]
  have hv2 : m * 2 ^ a = K * 2 ^ (s + b) := by rw [hv, hK1, Nat.pow_add, Nat.mul_assoc]
  have hcut : Toward.even.cut neg (m <<< (p - (f.leastPlace + (s : Int))).toNat) (f.leastPlace + (s : Int) - p).toNat = K := by
    apply cut_exact
    rw [Nat.shiftLeft_eq]
    apply Nat.eq_of_mul_eq_mul_right (Nat.two_pow_pos (s + b))
    by_cases h : s + b ≤ a
    · have e1 : (p - (f.leastPlace + (s : Int))).toNat = a - (s + b) := by omega
      have e2 : (f.leastPlace + (s : Int) - p).toNat = 0 := by omega
      rw [e1, e2, Nat.pow_zero, Nat.mul_one, Nat.mul_assoc, ← Nat.pow_add, show a - (s + b) + (s + b) = a by omega, hv2]
    · have e1 : (p - (f.leastPlace + (s : Int))).toNat = 0 := by omega
      have e2 : (f.leastPlace + (s : Int) - p).toNat = s + b - a := by omega
      rw [e1, e2, Nat.pow_zero, Nat.mul_one, Nat.mul_assoc]
      have : m * 2 ^ (s + b) = m * 2 ^ a * 2 ^ (s + b - a) := by rw [Nat.mul_assoc, ← Nat.pow_add, show a + (s + b - a) = s + b by omega]
      rw [this, hv2, Nat.mul_assoc, Nat.mul_comm (2 ^ (s + b)) (2 ^ (s + b - a))]
  rw [hcut, show (f.leastPlace + (s : Int) - f.leastPlace).toNat = s by omega, hK2, Nat.min_eq_left (Nat.le_of_lt hr)]
end Go.Proofs.Ytfdgngnnncmfiaa
/- Plain laws of floats, continued: a number made wider and narrower again, and absolute values. No condition. -/
namespace Go.Proofs.Ytfdgngnnncmfiaa
open Go Ieee
set_option linter.unusedVariables false
set_option linter.unusedSimpArgs false
theorem s_lp : single.leastPlace = -149 := by decide +kernel
theorem d_lp : double.leastPlace = -1074 := by decide +kernel
theorem s_sw : single.signWeight = 2147483648 := by decide +kernel
theorem d_sw : double.signWeight = 9223372036854775808 := by decide +kernel
theorem s_ir : single.infRung = 2139095040 := by decide +kernel
theorem d_ir : double.infRung = 9218868437227405312 := by decide +kernel
theorem d_bin : double.binade = 2 ^ 52 := by decide +kernel
theorem cv_num {k k2 : FloatKind} {b : Nat} {s : Bool} {m : Nat} {e : Int} (hd : k.decode b = .number s m e) (hne : k ≠ k2) (hi : cvWide k b k2 = false) (w : World) : cvbits k b k2 w = k2.format.nearest s m e := by
  unfold cvWide at hi
  rw [if_neg hne, hd] at hi
  simp only at hi
  unfold cvbits
  rw [if_neg hne, hd]
  simp only
  rw [hi]
  rfl
/-- a wide rung with the same value as a narrow one -/
theorem wide_rung {m : Nat} {e : Int} (hm : m ≠ 0) (h24 : m < 2 ^ 24) (h1 : -149 ≤ e) (h2 : e ≤ 104) :
    ∃ q, (∀ s, double.nearest s m e = double.word s q) ∧ q < double.infRung ∧ nval double q = m * 2 ^ (e + 1074).toNat := by
  refine ⟨(e + m.log2 - 52 + 1074).toNat * 2 ^ 52 + m * 2 ^ (52 - m.log2), fun s => (nearest_double hm h24 h1 h2).1, (nearest_double (neg := false) hm h24 h1 h2).2, ?_⟩
  have hl : m.log2 ≤ 23 := by have := (Nat.log2_lt hm (k := 24)).2 h24; omega
  have k1 : 2 ^ 52 ≤ m * 2 ^ (52 - m.log2) := by
    have := Nat.mul_le_mul_right (2 ^ (52 - m.log2)) (Nat.log2_self_le hm)
    rwa [← Nat.pow_add, show m.log2 + (52 - m.log2) = 52 by omega] at this
  have k2 : m * 2 ^ (52 - m.log2) < 2 ^ 53 := by
    have h := Nat.lt_log2_self (n := m)
    have : m * 2 ^ (52 - m.log2) < 2 ^ (m.log2 + 1) * 2 ^ (52 - m.log2) := Nat.mul_lt_mul_of_pos_right h (Nat.two_pow_pos _)
    rw [← Nat.pow_add] at this
    rwa [show m.log2 + 1 + (52 - m.log2) = 53 by omega] at this
  obtain ⟨K, hK⟩ : ∃ K, K = m * 2 ^ (52 - m.log2) := ⟨_, rfl⟩
  obtain ⟨E, hE⟩ : ∃ E, E = (e + m.log2 - 52 + 1074).toNat := ⟨_, rfl⟩
  rw [← hK, ← hE]
  rw [← hK] at k1 k2
  unfold nval
  rw [d_bin, if_neg (by omega)]
  have e1 : (E * 2 ^ 52 + K) / 2 ^ 52 = E + 1 := by omega
  have e2 : (E * 2 ^ 52 + K) % 2 ^ 52 = K - 2 ^ 52 := by omega
  rw [e1, e2, show 2 ^ 52 + (K - 2 ^ 52) = K by omega, show E + 1 - 1 = E by omega, hK, Nat.mul_assoc, ← Nat.pow_add]
  congr 2
  omega
set_option exponentiation.threshold 2000 in
theorem wide_fin (s : Bool) {r : Nat} (hr : r < single.infRung) : ∃ q, q < double.infRung ∧ (∀ w, cvbits .f32 (single.word s r) .f64 w = double.word s q) ∧ nval double q = nval single r * 2 ^ 925 := by
  obtain ⟨m, p, e1, hp, e3⟩ := read_fin single s hr
  rw [s_lp] at hp e3
  have hb := read_single e1
  rw [Nat.shiftLeft_eq] at e3
  by_cases hm : m = 0
  · subst hm
    refine ⟨0, by rw [d_ir]; omega, fun w => ?_, ?_⟩
    · rw [cv_num (k := .f32) (k2 := .f64) e1 (by decide) (wide_ok _) w]
      show double.nearest s 0 p = _
      unfold Format.nearest
      rw [if_pos rfl]
    · rw [nval_zero, ← e3]; simp
  · obtain ⟨q, hq1, hq2, hq3⟩ := wide_rung hm hb.1 hb.2.1 hb.2.2
    refine ⟨q, hq2, fun w => ?_, ?_⟩
    · rw [cv_num (k := .f32) (k2 := .f64) e1 (by decide) (wide_ok _) w]
      exact hq1 s
    · rw [hq3, ← e3, Nat.mul_assoc, ← Nat.pow_add]
      congr 2
      omega
set_option exponentiation.threshold 2000 in
theorem narrow_fin (s : Bool) {r q : Nat} (hr : r < single.infRung) (hq : q < double.infRung) (hv : nval double q = nval single r * 2 ^ 925) (w : World) : cvbits .f64 (double.word s q) .f32 w = single.word s r ∧ cvWide .f64 (double.word s q) .f32 = false := by
  obtain ⟨m, p, e1, hp, e3⟩ := read_fin double s hq
  rw [d_lp] at hp e3
  rw [Nat.shiftLeft_eq, hv] at e3
  have hn : single.nearest s m p = single.word s r := nearest_val single s hr e3 (by rw [s_lp]; omega)
  have hw : cvWide .f64 (double.word s q) .f32 = false := by
    unfold cvWide
    rw [if_neg (by decide), show FloatKind.f64.decode (double.word s q) = _ from e1]
    show (single.read (single.nearest s m p)).isInfinity = false
    rw [hn]
    exact not_inf_of_lt _ _ hr
  exact ⟨by rw [cv_num (k := .f64) (k2 := .f32) e1 (by decide) hw w]; exact hn, hw⟩
end Go.Proofs.Ytfdgngnnncmfiaa
/- Plain laws of floats, continued: absolute values. No condition. -/
namespace Go.Proofs.Ytfdgngnnncmfiaa
open Go Go.RowKit Ieee
set_option linter.unusedVariables false
set_option linter.unusedSimpArgs false
@[go_sem] theorem run_neg_f {P : Program} (w : World) (k : FloatKind) (b : Nat) : (Op.unary .neg (.float k b)).run P w = .ok (.float k (Op.negFloat k b)) w := rfl
theorem word_lt (f : Format) (neg : Bool) {r : Nat} (h : r < f.signWeight) : f.word neg r < 2 * f.signWeight := by
  unfold Format.word; split <;> omega
/-- a conversion that does not fall out of the range gives a word of the kind -/
theorem cv_lt32 {b : Nat} (w : World) (h : cvWide .f64 b .f32 = false) : cvbits .f64 b .f32 w < 4294967296 := by
  have hk : 2 * single.signWeight = 4294967296 := by decide +kernel
  cases hd : FloatKind.f64.decode b with
  | nan s t =>
    unfold cvbits
    rw [if_neg (by decide), hd]
    exact drawn_lt .f32 0 0 _
  | infinity s =>
    unfold cvbits
    rw [if_neg (by decide), hd]
    show FloatKind.f32.encode (.infinity s) < _
    cases s <;> decide +kernel
  | number s m e =>
    rw [cv_num (k := .f64) (k2 := .f32) hd (by decide) h w]
    obtain ⟨q, hq, hle⟩ := nearest_word single s m e
    rw [show FloatKind.f32.format.nearest s m e = _ from hq, ← hk]
    exact word_lt single s (Nat.lt_of_le_of_lt hle single.infRung_lt)
theorem isN_mod (d : Nat) : isN .f64 (d % 9223372036854775808) = isN .f64 d := by
  have hs : double.signWeight = 9223372036854775808 := by decide +kernel
  unfold isN
  show (double.read (d % 9223372036854775808)).isNaN = (double.read d).isNaN
  rw [← hs]
  simp only [Format.read, Nat.mod_mod]
  split
  · rfl
  · split
    · rfl
    · split <;> rfl
theorem isN_mod32 (d : Nat) : isN .f32 (d % 2147483648) = isN .f32 d := by
  have hs : single.signWeight = 2147483648 := by decide +kernel
  unfold isN
  show (single.read (d % 2147483648)).isNaN = (single.read d).isNaN
  rw [← hs]
  simp only [Format.read, Nat.mod_mod]
  split
  · rfl
  · split
    · rfl
    · split <;> rfl
theorem isN_wide (x : Nat) (w : World) (h : isN .f32 x = true) : isN .f64 (cvbits .f32 x .f64 w) = true := by
  have := isN_of_cn ((cn_wide x w).trans (show fcv .f32 (cn .f32 x) .f64 = cn .f64 (nanOf .f64) by rw [cn_nan h]; decide +kernel))
  rw [this]; exact isN_nanOf .f64
theorem wide_nan {b : Nat} (h : isN .f64 b = true) : cvWide .f64 b .f32 = false := by
  unfold cvWide
  rw [if_neg (by decide)]
  unfold isN at h
  cases hd : FloatKind.f64.decode b with
  | nan s t => rfl
  | infinity s => rfl
  | number s m e => rw [show FloatKind.f64.format.read b = _ from hd] at h; cases h
/-- the absolute value, NaNs made one -/
def absW (c : Nat) : Nat := if isN .f32 c = true then nanOf .f32 else c % 2147483648
theorem word_mod32 (s : Bool) {r : Nat} (h : r < single.signWeight) : single.word s r % 2147483648 = r := by
  rw [← s_sw]; exact word_mod single s h
theorem abs_round {x : Nat} (hx : x < 4294967296) (w w' : World) : cvWide .f64 (cvbits .f32 x .f64 w % 9223372036854775808) .f32 = false ∧ cn .f32 (cvbits .f64 (cvbits .f32 x .f64 w % 9223372036854775808) .f32 w') = absW (cn .f32 x) := by
  cases hN : isN .f32 x
  · rw [cn_not hN]
    unfold absW
    rw [if_neg (by rw [hN]; decide)]
    obtain ⟨s, r, rfl, hr⟩ := word_of single (x := x) (by rw [s_sw]; omega)
    rw [word_mod32 s hr]
    rcases Nat.lt_trichotomy r single.infRung with h | h | h
    · obtain ⟨q, hq, hw, hv⟩ := wide_fin s h
      rw [hw w, ← d_sw, word_mod double s (Nat.lt_trans hq double.infRung_lt)]
      have hn := narrow_fin false h hq hv w'
      have e1 : double.word false q = q := rfl
      have e2 : single.word false r = r := rfl
      rw [e1, e2] at hn
      refine ⟨hn.2, ?_⟩
      rw [hn.1]
      exact cn_not (read_word_le single false (Nat.le_of_lt h))
    · subst h
      have e1 : cvbits .f32 (single.word s single.infRung) .f64 w = double.word s double.infRung := by
        unfold cvbits
        rw [if_neg (by decide), show FloatKind.f32.decode (single.word s single.infRung) = _ from read_inf single single_binade s]
        rfl
      rw [e1, ← d_sw, word_mod double s double.infRung_lt]
      have e2 : FloatKind.f64.decode double.infRung = .infinity false := read_inf double double_binade false
      refine ⟨by unfold cvWide; rw [if_neg (by decide), e2], ?_⟩
      have e3 : cvbits .f64 double.infRung .f32 w' = single.infRung := by
        unfold cvbits
        rw [if_neg (by decide), e2]
        rfl
      rw [e3]
      exact cn_not (read_word_le single false (Nat.le_refl _))
    · have := nan_word single single_binade s h hr
      have h2 : isN .f32 (single.word s r) = true := this
      rw [hN] at h2; cases h2
  · have h1 : isN .f64 (cvbits .f32 x .f64 w % 9223372036854775808) = true := by rw [isN_mod]; exact isN_wide x w hN
    refine ⟨wide_nan h1, ?_⟩
    rw [cn_cvbits w' (wide_nan h1), cn_nan h1, cn_nan hN]
    decide +kernel
theorem and_63 (b : Nat) (hb : b < 18446744073709551616) : bits .andNot .u64 (b : Int) 9223372036854775808 = ((b % 9223372036854775808 : Nat) : Int) := by
  have := u64_andNot_nat b 9223372036854775808 hb (by decide)
  rw [show ((9223372036854775808 : Nat) : Int) = 9223372036854775808 from rfl] at this
  rw [this, show 18446744073709551615 - 9223372036854775808 = 2 ^ 63 - 1 by decide, Nat.and_two_pow_sub_one_eq_mod]
theorem and_31 (a : Nat) (ha : a < 4294967296) : bits .andNot .i64 (a : Int) 2147483648 = ((a % 2147483648 : Nat) : Int) := by
  show IntKind.i64.wrap ((BitVec.ofInt 64 (a : Int) &&& ~~~BitVec.ofInt 64 2147483648).toNat : Int) = _
  have h1 : (BitVec.ofInt 64 2147483648).toNat = 2147483648 := by decide
  have h2 : (BitVec.ofInt 64 (a : Int)).toNat = a := by
    rw [BitVec.toNat_ofInt]; omega
  rw [BitVec.toNat_and, BitVec.toNat_not, h1, h2]
  have h3 : a &&& (2 ^ 64 - 1 - 2147483648) = a % 2147483648 := by
    apply Nat.eq_of_testBit_eq
    intro i
    rw [show 2 ^ 64 - 1 - 2147483648 = 2 ^ 64 - (2 ^ 31 + 1) by decide, show 2147483648 = 2 ^ 31 by decide, Nat.testBit_and, Nat.testBit_mod_two_pow, Nat.testBit_two_pow_sub_succ (by decide), Nat.testBit_two_pow]
    by_cases h : i < 32
    · by_cases h31 : i = 31
      · subst h31; simp
      · have : i < 31 := by omega
        have h64 : i < 64 := by omega
        have hne : ¬ (31 = i) := by omega
        simp [this, h64, hne]
    · have : a.testBit i = false := Nat.testBit_lt_two_pow (Nat.lt_of_lt_of_le (by omega : a < 2 ^ 32) (Nat.pow_le_pow_right (by decide) (by omega)))
      simp [this]
  rw [h3]
  have : ((a % 2147483648 : Nat) : Int) < 9223372036854775808 := by omega
  exact wrap_small _ (by omega) this
theorem cn_lt {x : Nat} (hx : x < 4294967296) : cn .f32 x < 4294967296 := by
  unfold cn; split
  · decide
  · exact hx
end Go.Proofs.Ytfdgngnnncmfiaa
/- What absolute values, the greatest of two, a not-a-number are. No condition. -/
namespace Go.Proofs.Ytfdgngnnncmfiaa
open Go Go.RowKit
set_option linter.unusedVariables false
set_option linter.unusedSimpArgs false
end Go.Proofs.Ytfdgngnnncmfiaa
