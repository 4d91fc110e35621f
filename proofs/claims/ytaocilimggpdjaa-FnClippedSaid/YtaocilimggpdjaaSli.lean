/- What copying, comparing, marking slices of numbers does. No condition. -/
import Derived.Test.YtaocilimggpdjaaSam
import Derived.Test.YtaocilimggpdjaaReg
import Derived.Lib.Hide
namespace Go.Proofs.Ytaocilimggpdjaa
open Go Go.RowKit
set_option linter.unusedVariables false
theorem F32s.below {w w' : World} {ad : Option Addr} {cap : Nat} {xs : List Nat} (h : F32s w ad cap xs) (hb : Below w.heap.size w w') : F32s w' ad cap xs := ⟨h.len, h.cap, h.rd.below hb (Nat.le_refl _), h.lt⟩
theorem Ints.below {k : IntKind} {w w' : World} {ad : Option Addr} {cap : Nat} {xs : List Int} (h : Ints k w ad cap xs) (hb : Below w.heap.size w w') : Ints k w' ad cap xs := ⟨h.len, h.cap, h.rd.below hb (Nat.le_refl _), h.wf⟩
theorem F32s.of_owns {w : World} {base n cap : Nat} {e : TypeId} {ad : Option Addr} {xs : List Nat} (h : w.ownsRow base e 1 (.slice ad n cap) n (xs.map (Value.float .f32))) (hx : ∀ x ∈ xs, x < 4294967296) : n = xs.length ∧ F32s w ad cap xs := by
  obtain ⟨ad', cap', e1, e2, e3, e4, _⟩ := Rd.of_owns h
  cases e1
  have hl : n = xs.length := by have := h.1; simpa using this.symm
  exact ⟨hl, by omega, e3, e4, hx⟩
theorem Ints.of_owns {k : IntKind} {w : World} {base n cap : Nat} {e : TypeId} {ad : Option Addr} {xs : List Int} (h : w.ownsRow base e 1 (.slice ad n cap) n (xs.map (Value.int k))) (hx : ∀ x ∈ xs, (Lit.int k x).wf = true) : n = xs.length ∧ Ints k w ad cap xs := by
  obtain ⟨ad', cap', e1, e2, e3, e4, _⟩ := Rd.of_owns h
  cases e1
  have hl : n = xs.length := by have := h.1; simpa using this.symm
  exact ⟨hl, by omega, e3, e4, hx⟩
/-- one number of a row, and its address -/
theorem F32s.spot {w : World} {ad : Option Addr} {cap : Nat} {xs : List Nat} (h : F32s w ad cap xs) {k : Nat} (hk : k < xs.length) : ∃ b off, ad = some ⟨b, off, none⟩ ∧ b < w.heap.size ∧ ∀ j, j < xs.length → w.cell? ⟨b, off + j, none⟩ = some (.float .f32 (xs.getD j 0)) := by
  obtain ⟨b, off, e, hb, hc⟩ := h.rd.spot (i := k) (by simpa using hk)
  refine ⟨b, off, e, hb, fun j hj => ?_⟩
  rw [hc j (by simpa using hj), List.getElem?_map, List.getElem?_eq_getElem hj, List.getD_eq_getElem?_getD, List.getElem?_eq_getElem hj]
  rfl
theorem Ints.spot {k : IntKind} {w : World} {ad : Option Addr} {cap : Nat} {xs : List Int} (h : Ints k w ad cap xs) {i : Nat} (hk : i < xs.length) : ∃ b off, ad = some ⟨b, off, none⟩ ∧ b < w.heap.size ∧ ∀ j, j < xs.length → w.cell? ⟨b, off + j, none⟩ = some (.int k (xs.getD j 0)) := by
  obtain ⟨b, off, e, hb, hc⟩ := h.rd.spot (i := i) (by simpa using hk)
  refine ⟨b, off, e, hb, fun j hj => ?_⟩
  rw [hc j (by simpa using hj), List.getElem?_map, List.getElem?_eq_getElem hj, List.getD_eq_getElem?_getD, List.getElem?_eq_getElem hj]
  rfl
/-- an element of so many cells is appended to a row of the call's own -/
theorem wp_app {P : Program} {ops : Array Oper} {rest : List Oper} {o : Oper} {a : Act} {Q : Exit → Act → World → Prop} {e : TypeId} {W : World} {cs : Array Value} (hgd : o.guard = none) (s x : Operand) (t : TypeId)
    (ho : o.op = .call { callee := .builtin .append, args := #[s, x], argTypes := #[t, t] })
    (base : Nat) (i : TypeInfo) (z : Value) (size bytes : Nat) (ht : P.underlying t = some (.slice e)) (hi : P.info? e = some i) (hz : i.zero = some z)
    (hsize : i.size = size) (hby : i.bytes = bytes) (hzs : z.cells.size = size) (hsz : 0 < size)
    (hcs : cs.size = size) (h1 : ∀ u ∈ cs.toList, u.oneCell' = true)
    (v : Value) (n : Nat) (xs : List Value) (hs : a.eval s = v) (hown : W.ownsRow base e size v n xs) (hx : a.eval x = .slice (some ⟨W.heap.size, 0, none⟩) 1 1)
    (h63 : n + 1 ≤ maxLen) (hbytes : (n + 1) * bytes ≤ 140737488355328) (hbase : base ≤ W.heap.size)
    (h : ∀ v' w', w'.ownsRow base e size v' (n + 1) (xs ++ cs.toList) → Below base W w' → base ≤ w'.heap.size → wpList P ops Q rest (a.put o.dst v') w') : wpList P ops Q (o :: rest) a (W.alloc (.cells cs e)) := by
  refine wpList_append_own (W.alloc (.cells cs e)) hgd s x t ho base e i z size bytes ht hi hz hsize hby hzs hsz v n xs hs (hown.alloc _) ⟨W.heap.size, 0, none⟩ 1 1 cs.toList hx (by simpa using hcs) ?_ h1 h63 hbytes (by simp; omega) ?_
  · intro j u hj
    rw [Addr.add_lit, World.cell?_alloc_at _ _ _ _ rfl]
    simpa using hj
  · intro v' w' h2 hg _
    refine h v' w' h2 (((Below.refl _ _).alloc hbase _).grown hg (by simp; omega) (fun j hj => (hown.lt j hj).1)) ?_
    have := hg.size
    simp at this
    omega
theorem one_cell (x : Value) (h : x.oneCell' = true) : ∀ u ∈ (#[x] : Array Value).toList, u.oneCell' = true := by
  intro u hu
  simp at hu
  rw [hu]; exact h
theorem take_set_next {α : Type} {ys zs : List α} {k : Nat} {x : α} (h : ys.take k = zs.take k) (hk : k < ys.length) (hz : zs[k]? = some x) : (ys.set k x).take (k + 1) = zs.take (k + 1) := by
  have hk2 : k < zs.length := (List.getElem?_eq_some_iff.1 hz).1
  rw [List.take_succ_eq_append_getElem (by simpa using hk), List.take_succ_eq_append_getElem hk2, List.take_set, List.set_eq_of_length_le (by simp; omega), h]
  simp [List.getElem?_eq_some_iff.1 hz |>.2]
/-- the numbers with which a list is marked -/
def markF (k0 n : Nat) : List Nat := (List.range n).map fun i => floatOfInt .f32 (k0 + i : Nat)
theorem markF_lt (k0 n : Nat) : ∀ x ∈ markF k0 n, x < 4294967296 := by
  intro x hx
  obtain ⟨i, _, rfl⟩ := List.mem_map.1 hx
  exact FloatKind.f32.format.nearest_lt _ _ _
theorem markF_length (k0 n : Nat) : (markF k0 n).length = n := by simp [markF]
/-- a row of the call's own, with the bounds of its block -/
structure Row (w : World) (e : TypeId) (size lo hi : Nat) (v : Value) (n : Nat) (cs : List Value) : Prop where
  own : w.ownsRow lo e size v n cs
  top : ∀ k, v.ownBlock = some k → k < hi
theorem Row.mk' {w : World} {e : TypeId} {size lo : Nat} {v : Value} {n : Nat} {cs : List Value} (h : w.ownsRow lo e size v n cs) : Row w e size lo w.heap.size v n cs := ⟨h, fun k hk => (h.lt k hk).2⟩
theorem owns_below {w w' : World} {e : TypeId} {size lo : Nat} {v : Value} {n : Nat} {cs : List Value} (h : w.ownsRow lo e size v n cs) (hb : Below w.heap.size w w') : w'.ownsRow lo e size v n cs := by
  refine ⟨h.1, ?_⟩
  rcases h.2 with h2 | ⟨g, cap, cur, hv, hg, hh, r⟩
  · exact .inl h2
  · exact .inr ⟨g, cap, cur, hv, hg, by rw [hb.block g (Array.getElem?_eq_some_iff.1 hh).1]; exact hh, r⟩
theorem Row.below {w w' : World} {e : TypeId} {size lo hi : Nat} {v : Value} {n : Nat} {cs : List Value} (h : Row w e size lo hi v n cs) (hb : Below w.heap.size w w') : Row w' e size lo hi v n cs := ⟨owns_below h.own hb, h.top⟩
/-- another row is written -/
theorem Row.other {w w' : World} {e e2 : TypeId} {size size2 lo hi lo2 hi2 : Nat} {v v2 : Value} {n n2 : Nat} {cs cs2 : List Value} (h : Row w e size lo hi v n cs) (h2 : Row w e2 size2 lo2 hi2 v2 n2 cs2) (hg : w.grownBy w' v2.ownBlock) (hd : hi ≤ lo2 ∨ hi2 ≤ lo) : Row w' e size lo hi v n cs := by
  refine ⟨h.own.kept hg ?_, h.top⟩
  cases hv : v.ownBlock with
  | none => exact .inl rfl
  | some g =>
    right
    intro e3
    have h3 := (h2.own.lt g e3.symm).1
    have h4 := h2.top g e3.symm
    have h5 := (h.own.lt g hv).1
    have h6 := h.top g hv
    omega
theorem Row.form {w : World} {e : TypeId} {size lo hi : Nat} {v : Value} {n : Nat} {cs : List Value} (h : Row w e size lo hi v n cs) : ∃ ad cap, v = .slice ad n cap := by
  obtain ⟨ad, cap, e1, _⟩ := Rd.of_owns h.own
  exact ⟨ad, cap, e1⟩
theorem Row.f32s {w : World} {e : TypeId} {lo hi n cap : Nat} {ad : Option Addr} {xs : List Nat} (h : Row w e 1 lo hi (.slice ad n cap) n (xs.map (Value.float .f32))) (hx : ∀ x ∈ xs, x < 4294967296) : F32s w ad cap xs := (F32s.of_owns h.own hx).2
theorem Row.nil (w : World) (e : TypeId) (lo hi : Nat) : Row w e 1 lo hi (.slice none 0 0) 0 [] := ⟨World.ownsRow_nil _ _ _ _, fun k hk => by cases hk⟩
/-- behind a mark of a row of the call's own -/
theorem below_mark {w0 w w' : World} {e : TypeId} {size lo hi : Nat} {v : Value} {n : Nat} {cs : List Value} (hb : Below w0.heap.size w0 w) (h : Row w e size lo hi v n cs) (hl : w0.heap.size ≤ lo) (hg : w.grownBy w' v.ownBlock) : Below w0.heap.size w0 w' :=
  hb.grown hg hb.size (fun k hk => Nat.le_trans hl (h.own.lt k hk).1)
theorem F32s.marked {w0 w w' : World} {e : TypeId} {size lo hi : Nat} {v : Value} {n : Nat} {cs : List Value} {ad : Option Addr} {cap : Nat} {xs : List Nat} (h0 : F32s w0 ad cap xs) (hb : Below w0.heap.size w0 w') : F32s w' ad cap xs := h0.below hb
theorem info_f32 : (Try.prog.info? 22).map (fun i => (i.zero, i.size, i.bytes)) = some (some (.float .f32 0), 1, 4) := by kernel_rfl
theorem info_i64 : (Try.prog.info? 2).map (fun i => (i.zero, i.size, i.bytes)) = some (some (.int .i64 0), 1, 8) := by kernel_rfl
theorem spec_l01Few (ad : Option Addr) (n cap : Nat) (w : World) : Calls Try.prog 76 #[.slice ad n cap] w fun e w' => e = .returned (.bool (decide (n ≤ 256))) ∧ w = w' := by
  go_enter Try.func76, Try.ntmps76
  go_wp2
  go_ret
  exact ⟨by simp; omega, rfl⟩
set_option maxHeartbeats 1000000 in
theorem laws_toFloat32S (ad : Option Addr) (cap : Nat) (xs : List Nat) (w : World) (h : F32s w ad cap xs) (hn : xs.length ≤ 1048576) :
    Calls Try.prog 17 #[.slice ad xs.length cap] w fun e w' => e = .returned (.slice (some ⟨w.heap.size, 0, none⟩) xs.length xs.length) ∧
      w'.ownsRow w.heap.size 22 1 (.slice (some ⟨w.heap.size, 0, none⟩) xs.length xs.length) xs.length (xs.map (Value.float .f32)) ∧ Below w.heap.size w w' := by
  obtain ⟨i0, hi, hz0, hz1, hz2⟩ := info_parts info_f32
  obtain ⟨n, hN⟩ : ∃ n, n = xs.length := ⟨_, rfl⟩
  rw [← hN] at hn ⊢
  have HN := Lib.hid hN; clear hN
  go_enter Try.func17, Try.ntmps17
  go_wp2_with (at_make; refine wpList_make_full _ rfl _ _ 25 rfl w.heap.size 22 i0 (.float .f32 0) 1 Try.underlying25 hi hz0 hz1 .i64 .i64 _ _ n rfl rfl rfl rfl ?c1 ?c2 ?c3 ?_)
  case c1 => rw [hz2]; omega
  case c2 => unfold maxLen; omega
  case c3 => exact Nat.le_refl _
  intro w1 hown hg
  have hb1 : Below w.heap.size w w1 := (Below.refl _ _).grown hg (Nat.le_refl _) (fun k e => by cases e)
  obtain ⟨ys, hys⟩ : ∃ ys : List Value, ys = (madeCells #[Value.float .f32 0] n).toList := ⟨_, rfl⟩
  rw [← hys] at hown
  have hyl : ys.length = n := by have := hown.1; omega
  clear hys hg
  have HY := Lib.hid hyl; clear hyl
  go_wp2
  go_loopw [4] (fun i wr => ∃ k : Nat, i = .int .i64 k ∧ k ≤ n ∧ ∃ ys : List Value, wr.ownsRow w.heap.size 22 1 (.slice (some ⟨w.heap.size, 0, none⟩) n n) n ys ∧ ys.length = n ∧ ys.take k = (xs.map (Value.float .f32)).take k ∧ Below w.heap.size w wr) (fun i _ => n - (intOf i).toNat)
  case atStart => exact ⟨0, rfl, Nat.zero_le _, ys, hown, HY.out, by simp, hb1⟩
  case round =>
    clear hown hb1 HY
    obtain ⟨k, rfl, hk, zs, hown, hzl, htk, hb⟩ := hrel
    have HZ := Lib.hid hzl; have HT := Lib.hid htk; clear hzl htk
    by_cases hlt : k < n
    · obtain ⟨b, off, rfl, hbl, hc⟩ := h.spot (k := k) (by rw [← HN.out]; exact hlt)
      have hcell : wr.cell? ⟨b, off + k, none⟩ = some (.float .f32 (xs.getD k 0)) := (hb.cell (p := ⟨b, off + k, none⟩) hbl).trans (hc k (by rw [← HN.out]; exact hlt))
      obtain ⟨x, hx⟩ : ∃ x, x = xs.getD k 0 := ⟨_, rfl⟩
      rw [← hx] at hcell
      have HX := Lib.hid hx; clear hx hc
      have hd : wr.cell? ⟨w.heap.size, k, none⟩ = some (zs[k]'(by rw [HZ.out]; exact hlt)) := by rw [hown.cellAt k (by omega), List.getElem?_eq_getElem (by rw [HZ.out]; exact hlt)]
      obtain ⟨y, hy⟩ : ∃ y, y = zs[k]'(by rw [HZ.out]; exact hlt) := ⟨_, rfl⟩
      rw [← hy] at hd
      clear hy
      have hfz := hown.frozenAt k
      have hst := hown.stored k (.float .f32 x)
      go_wp2
      go_roundw
      case rel =>
        refine ⟨k + 1, by go_num, hlt, zs.set k (.float .f32 x), hst.1, by simpa using HZ.out, take_set_next HT.out (by rw [HZ.out]; exact hlt) ?_, hb.setCell (Nat.le_refl _) _⟩
        have hkx : k < xs.length := by rw [← HN.out]; exact hlt
        rw [List.getElem?_map, List.getElem?_eq_getElem hkx, HX.out, List.getD_eq_getElem?_getD, List.getElem?_eq_getElem hkx]
        rfl
      case measure => simp [intOf]; omega
    · have hkn : k = n := by omega
      subst hkn
      go_wp2
      go_ret
      refine ⟨rfl, ?_, hb⟩
      have e1 := HT.out
      rw [List.take_of_length_le (by rw [HZ.out]; exact Nat.le_refl _), List.take_of_length_le (by simp [HN.out])] at e1
      rw [← e1]
      exact hown
set_option maxHeartbeats 1000000 in
theorem laws_eqFloat32S (ad1 ad2 : Option Addr) (c1 c2 : Nat) (xs ys : List Nat) (w : World) (h1 : F32s w ad1 c1 xs) (h2 : F32s w ad2 c2 ys) (hn : xs.length ≤ 1048576) (he : xs.map (cn .f32) = ys.map (cn .f32)) :
    Calls Try.prog 20 #[.slice ad1 xs.length c1, .slice ad2 ys.length c2] w fun e w' => e = .returned (.bool true) ∧ Dr w w' := by
  have hl : xs.length = ys.length := by have := congrArg List.length he; simpa using this
  rw [← hl]
  obtain ⟨n, hN⟩ : ∃ n, n = xs.length := ⟨_, rfl⟩
  have HL := Lib.hid hl; clear hl
  rw [← hN] at hn ⊢
  have HN := Lib.hid hN; clear hN
  have HE := Lib.hid he; clear he
  go_enter Try.func20, Try.ntmps20
  go_wp2
  go_loopw [5] (fun i wr => ∃ k : Nat, i = .int .i64 k ∧ k ≤ n ∧ Dr w wr) (fun i _ => n - (intOf i).toNat)
  case atStart => exact ⟨0, rfl, Nat.zero_le _, Dr.refl _⟩
  case round =>
    obtain ⟨k, rfl, hk, hdr⟩ := hrel
    have h1 := h1.below hdr.below
    have h2 := h2.below hdr.below
    by_cases hlt : k < n
    · obtain ⟨b, off, rfl, _, hc⟩ := h1.spot (k := k) (by rw [← HN.out]; exact hlt)
      obtain ⟨b', off', rfl, _, hc'⟩ := h2.spot (k := k) (by rw [← HL.out, ← HN.out]; exact hlt)
      have hcell := hc k (by rw [← HN.out]; exact hlt)
      have hcell' := hc' k (by rw [← HL.out, ← HN.out]; exact hlt)
      obtain ⟨x, hx⟩ : ∃ x, x = xs.getD k 0 := ⟨_, rfl⟩
      obtain ⟨y, hy⟩ : ∃ y, y = ys.getD k 0 := ⟨_, rfl⟩
      rw [← hx] at hcell
      rw [← hy] at hcell'
      have hxy : cn .f32 x = cn .f32 y := by
        have hkx : k < xs.length := by rw [← HN.out]; exact hlt
        have hky : k < ys.length := by rw [← HL.out]; exact hkx
        have e1 := congrArg (fun l => l[k]?) HE.out
        simp only [List.getElem?_map, List.getElem?_eq_getElem hkx, List.getElem?_eq_getElem hky, Option.map_some, Option.some.injEq] at e1
        rw [hx, hy, List.getD_eq_getElem?_getD, List.getD_eq_getElem?_getD, List.getElem?_eq_getElem hkx, List.getElem?_eq_getElem hky]
        exact e1
      have HXY := Lib.hid hxy; clear hxy hx hy hc hc'
      have HD := Lib.hid hdr; clear hdr h1 h2
      go_wp2
      refine wp_region_drawn (fun f args v => v = .bool true) (by kernel_rfl) (by kernel_rfl) ?_
      repeat (refine wset_step (fun K hK nq => ?_); go_simp; refine hK _ ?_; clear hK K)
      refine wset_step (fun K hK nq => ?_)
      go_simp
      refine ⟨(sameFloat_any _ _ (by rw [cn_wide, cn_wide, HXY.out]) _).mono ?_, ?_⟩
      · rintro e w' ⟨rfl, q, rfl⟩
        exact ⟨rfl, _, World.drewN_drewN _ _ _⟩
      refine hK _ ?_
      clear hK K
      repeat (refine wset_step (fun K hK nq => ?_); go_simp; refine hK _ ?_; clear hK K)
      refine wset_nil ?_
      rintro w' ⟨q, rfl⟩
      go_wp2
      go_roundw
      case rel => exact ⟨k + 1, by go_num, hlt, by obtain ⟨q', hq⟩ := HD.out; exact ⟨_, by rw [hq, World.drewN_drewN]⟩⟩
      case measure => simp [intOf]; omega
    · go_wp2
      go_ret
      exact ⟨rfl, hdr⟩
set_option maxHeartbeats 1000000 in
theorem laws_markFloat32S (base : Nat) (ad : Option Addr) (cap n : Nat) (ys : List Value) (k0 : Nat) (w : World) (hn : n ≤ 1048576) (hk0 : k0 ≤ 100000000) (h : w.ownsRow base 22 1 (.slice ad n cap) n ys) :
    Calls Try.prog 22 #[.slice ad n cap, .int .i64 k0] w fun e w' => e = .returned (.int .i64 (k0 + n : Nat)) ∧
      w'.ownsRow base 22 1 (.slice ad n cap) n ((markF k0 n).map (Value.float .f32)) ∧ w.grownBy w' (Value.slice ad n cap).ownBlock := by
  have hyl : ys.length = n := by have := h.1; omega
  have HY := Lib.hid hyl; clear hyl
  go_enter Try.func22, Try.ntmps22
  go_wp2
  go_loopw [1, 5] (fun q i wr => ∃ k : Nat, i = .int .i64 k ∧ q = .int .i64 (k0 + k : Nat) ∧ k ≤ n ∧ ∃ ys : List Value, wr.ownsRow base 22 1 (.slice ad n cap) n ys ∧ ys.length = n ∧ ys.take k = ((markF k0 n).map (Value.float .f32)).take k ∧ w.grownBy wr (Value.slice ad n cap).ownBlock) (fun _ i _ => n - (intOf i).toNat)
  case atStart => exact ⟨0, rfl, rfl, Nat.zero_le _, ys, h, HY.out, by simp, ⟨rfl, rfl, rfl, Nat.le_refl _, fun _ _ _ => rfl⟩⟩
  case round =>
    obtain ⟨k, rfl, rfl, hk, zs, hown, hzl, htk, hb⟩ := hrel
    have HZ := Lib.hid hzl; have HT := Lib.hid htk; clear hzl htk h HY
    by_cases hlt : k < n
    · obtain ⟨g, cap', hform⟩ := Joins.ownsRow_form hown (by omega)
      have had : ad = some ⟨g, 0, none⟩ := by cases hform; rfl
      clear hform
      subst had
      have hd : wr.cell? ⟨g, k, none⟩ = some (zs[k]'(by rw [HZ.out]; exact hlt)) := by rw [hown.cellAt k (by omega), List.getElem?_eq_getElem (by rw [HZ.out]; exact hlt)]
      obtain ⟨y, hy⟩ : ∃ y, y = zs[k]'(by rw [HZ.out]; exact hlt) := ⟨_, rfl⟩
      rw [← hy] at hd
      clear hy
      have hfz := hown.frozenAt k
      have hst := hown.stored k (.float .f32 (floatOfInt .f32 (k0 + k : Nat)))
      go_wp2
      go_roundw
      case rel =>
        refine ⟨k + 1, by go_num, by go_num, hlt, zs.set k (.float .f32 (floatOfInt .f32 (k0 + k : Nat))), hst.1, by simpa using HZ.out, take_set_next HT.out (by rw [HZ.out]; exact hlt) ?_, ?_⟩
        · rw [markF, List.map_map, List.getElem?_map, List.getElem?_range hlt]; rfl
        · have hg2 := hst.2
          exact ⟨hg2.os.trans hb.os, hg2.tape.trans hb.tape, hg2.output.trans hb.output, Nat.le_trans hb.size hg2.size, fun i hi hne => (hg2.block i (by have := hb.size; omega) hne).trans (hb.block i hi hne)⟩
      case measure => simp [intOf]; omega
    · have hkn : k = n := by omega
      subst hkn
      go_wp2
      go_ret
      refine ⟨rfl, ?_, hb⟩
      have e1 := HT.out
      rw [List.take_of_length_le (by rw [HZ.out]; exact Nat.le_refl _), List.take_of_length_le (by simp [markF])] at e1
      rw [← e1]
      exact hown
set_option maxHeartbeats 1000000 in
theorem laws_heldFloat32S (ad : Option Addr) (cap n : Nat) (xs : List Nat) (k0 : Nat) (w : World) (hn : n ≤ 1048576) (hk0 : k0 ≤ 100000000) (h : F32s w ad cap xs) (hx : xs = markF k0 n) :
    Calls Try.prog 24 #[.slice ad n cap, .int .i64 k0] w fun e w' => e = .returned (.int .i64 (k0 + n : Nat)) ∧ w = w' := by
  have hxl : xs.length = n := by rw [hx]; simp [markF]
  have HX := Lib.hid hx; clear hx
  have HL := Lib.hid hxl; clear hxl
  go_enter Try.func24, Try.ntmps24
  go_wp2
  go_loop [1, 5] (fun q i => ∃ k : Nat, i = .int .i64 k ∧ q = .int .i64 (k0 + k : Nat) ∧ k ≤ n) (fun _ i => n - (intOf i).toNat)
  case atStart => exact ⟨0, rfl, rfl, Nat.zero_le _⟩
  case round =>
    obtain ⟨k, rfl, rfl, hk⟩ := hrel
    by_cases hlt : k < n
    · obtain ⟨b, off, rfl, _, hc⟩ := h.spot (k := k) (by rw [HL.out]; exact hlt)
      have hcell := hc k (by rw [HL.out]; exact hlt)
      have e1 : xs.getD k 0 = floatOfInt .f32 (k0 + k : Nat) := by
        rw [HX.out, markF, List.getD_eq_getElem?_getD, List.getElem?_map, List.getElem?_range hlt]; rfl
      rw [e1] at hcell
      have ho : FloatKind.f32.format.order (floatOfInt .f32 (k0 + k : Nat)) (floatOfInt .f32 (k0 + k : Nat)) = some .eq := by rw [order_self, isN_floatOfInt]; rfl
      have ec : ((k0 + k : Nat) : Int) = (k0 : Int) + k := by omega
      rw [ec] at hcell ho
      clear e1 ec hc
      go_wp2
      go_round
      case rel => exact ⟨k + 1, by go_num, by go_num, hlt⟩
      case measure => simp [intOf]; omega
    · have hkn : k = n := by omega
      go_wp2
      go_ret
      exact ⟨rfl, rfl⟩
/-- blocks from 'lo' up to 'hi' alone have been written, and new ones laid -/
structure Touch (lo hi : Nat) (w w' : World) : Prop where
  os : w'.os = w.os
  tape : w'.tape = w.tape
  output : w'.output = w.output
  size : w.heap.size ≤ w'.heap.size
  block : ∀ k, k < w.heap.size → (k < lo ∨ hi ≤ k) → w'.heap[k]? = w.heap[k]?
theorem Touch.of_grown {w w' : World} {e : TypeId} {size lo hi : Nat} {v : Value} {n : Nat} {cs : List Value} (h : Row w e size lo hi v n cs) (hg : w.grownBy w' v.ownBlock) : Touch lo hi w w' :=
  ⟨hg.os, hg.tape, hg.output, hg.size, fun k hk hd => hg.block k hk fun e3 => by have h3 := (h.own.lt k e3.symm).1; have h4 := h.top k e3.symm; omega⟩
theorem Touch.of_below {lo hi : Nat} {w w' : World} (h : Below w.heap.size w w') : Touch lo hi w w' := ⟨h.os, h.tape, h.output, h.size, fun k hk _ => h.block k hk⟩
theorem Touch.refl (lo hi : Nat) (w : World) : Touch lo hi w w := ⟨rfl, rfl, rfl, Nat.le_refl _, fun _ _ _ => rfl⟩
theorem Touch.trans {lo hi : Nat} {a b c : World} (h : Touch lo hi a b) (k : Touch lo hi b c) : Touch lo hi a c :=
  ⟨k.os.trans h.os, k.tape.trans h.tape, k.output.trans h.output, Nat.le_trans h.size k.size, fun i hi hd => (k.block i (Nat.lt_of_lt_of_le hi h.size) hd).trans (h.block i hi hd)⟩
theorem Touch.mono {lo hi lo' hi' : Nat} {a b : World} (h : Touch lo hi a b) (h1 : lo' ≤ lo) (h2 : hi ≤ hi') : Touch lo' hi' a b := ⟨h.os, h.tape, h.output, h.size, fun k hk hd => h.block k hk (by omega)⟩
/-- what the call owns is written: what lay there before is as it was -/
theorem touch_below {w0 w w' : World} {lo hi : Nat} (hb : Below w0.heap.size w0 w) (ht : Touch lo hi w w') (hl : w0.heap.size ≤ lo) : Below w0.heap.size w0 w' :=
  hb.trans ⟨ht.os, ht.tape, ht.output, ht.size, fun k hk => ht.block k (Nat.lt_of_lt_of_le hk hb.size) (.inl (by omega))⟩
theorem Row.touch {w w' : World} {e : TypeId} {size lo hi lo2 hi2 : Nat} {v : Value} {n : Nat} {cs : List Value} (h : Row w e size lo hi v n cs) (ht : Touch lo2 hi2 w w') (hd : hi ≤ lo2 ∨ hi2 ≤ lo) : Row w' e size lo hi v n cs := by
  refine ⟨⟨h.own.1, ?_⟩, h.top⟩
  rcases h.own.2 with h2 | ⟨g, cap, cur, hv, hg, hh, r⟩
  · exact .inl h2
  · have h4 := h.top g (by rw [hv]; rfl)
    exact .inr ⟨g, cap, cur, hv, hg, by rw [ht.block g (Array.getElem?_eq_some_iff.1 hh).1 (by omega)]; exact hh, r⟩
theorem Row.bounds {w : World} {e : TypeId} {size lo hi lo' hi' : Nat} {v : Value} {n : Nat} {cs : List Value} (h : Row w e size lo hi v n cs) (h1 : lo' ≤ lo) (h2 : hi ≤ hi') : Row w e size lo' hi' v n cs :=
  ⟨Joins.ownsRow_le h.own h1, fun k hk => Nat.lt_of_lt_of_le (h.top k hk) h2⟩
/-- a slice of 32-bit numbers that the call owns -/
structure RepF (w : World) (lo hi : Nat) (ad : Option Addr) (n cap : Nat) (xs : List Nat) : Prop where
  row : Row w 22 1 lo hi (.slice ad n cap) n (xs.map (Value.float .f32))
  len : xs.length = n
  lt : ∀ x ∈ xs, x < 4294967296
theorem RepF.arg {w : World} {lo hi : Nat} {ad : Option Addr} {n cap : Nat} {xs : List Nat} (h : RepF w lo hi ad n cap xs) : F32s w ad cap xs := (F32s.of_owns h.row.own h.lt).2
theorem RepF.below {w w' : World} {lo hi : Nat} {ad : Option Addr} {n cap : Nat} {xs : List Nat} (h : RepF w lo hi ad n cap xs) (hb : Below w.heap.size w w') : RepF w' lo hi ad n cap xs := ⟨h.row.below hb, h.len, h.lt⟩
theorem RepF.touch {w w' : World} {lo hi lo2 hi2 : Nat} {ad : Option Addr} {n cap : Nat} {xs : List Nat} (h : RepF w lo hi ad n cap xs) (ht : Touch lo2 hi2 w w') (hd : hi ≤ lo2 ∨ hi2 ≤ lo) : RepF w' lo hi ad n cap xs := ⟨h.row.touch ht hd, h.len, h.lt⟩
theorem RepF.bounds {w : World} {lo hi lo' hi' : Nat} {ad : Option Addr} {n cap : Nat} {xs : List Nat} (h : RepF w lo hi ad n cap xs) (h1 : lo' ≤ lo) (h2 : hi ≤ hi') : RepF w lo' hi' ad n cap xs := ⟨h.row.bounds h1 h2, h.len, h.lt⟩
theorem RepF.nil (w : World) (lo hi : Nat) : RepF w lo hi none 0 0 [] := ⟨Row.nil _ _ _ _, rfl, fun x hx => nomatch hx⟩
theorem RepF.of_owns {w : World} {lo : Nat} {v : Value} {n : Nat} {xs : List Nat} (h : w.ownsRow lo 22 1 v n (xs.map (Value.float .f32))) (hx : ∀ x ∈ xs, x < 4294967296) : ∃ ad cap, v = .slice ad n cap ∧ RepF w lo w.heap.size ad n cap xs := by
  obtain ⟨ad, cap, rfl, _⟩ := Rd.of_owns h
  exact ⟨ad, cap, rfl, Row.mk' h, by have := h.1; simpa using this, hx⟩
theorem F_to (w : World) (ad : Option Addr) (cap : Nat) (xs : List Nat) (h : F32s w ad cap xs) (hn : xs.length ≤ 1048576) :
    Calls Try.prog 17 #[.slice ad xs.length cap] w fun e w' => ∃ ad' cap', e = .returned (.slice ad' xs.length cap') ∧ RepF w' w.heap.size w'.heap.size ad' xs.length cap' xs ∧ Below w.heap.size w w' :=
  (laws_toFloat32S ad cap xs w h hn).mono fun e w' ⟨he, ho, hb⟩ => ⟨_, _, he, ⟨Row.mk' ho, rfl, h.lt⟩, hb⟩
theorem F_eq (w : World) {lo1 hi1 lo2 hi2 : Nat} {a1 a2 : Option Addr} {n1 n2 c1 c2 : Nat} {xs ys : List Nat} (h1 : RepF w lo1 hi1 a1 n1 c1 xs) (h2 : RepF w lo2 hi2 a2 n2 c2 ys) (he : xs.map (cn .f32) = ys.map (cn .f32)) (hn : n1 ≤ 1048576) :
    Calls Try.prog 20 #[.slice a1 n1 c1, .slice a2 n2 c2] w fun e w' => e = .returned (.bool true) ∧ Below w.heap.size w w' := by
  have e1 := h1.len; have e2 := h2.len
  subst e1 e2
  exact (laws_eqFloat32S _ _ _ _ xs ys w h1.arg h2.arg hn he).mono fun e w' ⟨h, hd⟩ => ⟨h, hd.below⟩
theorem F_mark (w : World) {lo hi : Nat} {ad : Option Addr} {n cap : Nat} {xs : List Nat} (k0 : Nat) (h : RepF w lo hi ad n cap xs) (hn : n ≤ 1048576) (hk : k0 ≤ 100000000) :
    Calls Try.prog 22 #[.slice ad n cap, .int .i64 k0] w fun e w' => e = .returned (.int .i64 (k0 + n : Nat)) ∧ RepF w' lo hi ad n cap (markF k0 n) ∧ Touch lo hi w w' :=
  (laws_markFloat32S lo ad cap n _ k0 w hn hk h.row.own).mono fun e w' ⟨he, ho, hg⟩ => ⟨he, ⟨⟨ho, h.row.top⟩, markF_length _ _, markF_lt _ _⟩, Touch.of_grown h.row hg⟩
theorem F_held (w : World) {lo hi : Nat} {ad : Option Addr} {n cap : Nat} (k0 : Nat) (h : RepF w lo hi ad n cap (markF k0 n)) (hn : n ≤ 1048576) (hk : k0 ≤ 100000000) :
    Calls Try.prog 24 #[.slice ad n cap, .int .i64 k0] w fun e w' => e = .returned (.int .i64 (k0 + n : Nat)) ∧ w = w' :=
  laws_heldFloat32S ad cap n _ k0 w hn hk h.arg rfl
end Go.Proofs.Ytaocilimggpdjaa
