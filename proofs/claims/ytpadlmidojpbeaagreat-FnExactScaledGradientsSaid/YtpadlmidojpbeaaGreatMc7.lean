/- Joined texts 7: Mt8 Rm5 Rm6 Rm7 Tv0 Tv1 Tv2. Each is told at its own head. No condition. -/
import Derived.Deep.RegionHeld3
import Derived.Deep.CutRange
import Derived.Deep.DeepCutAuto
import Derived.Test.YtpadlmidojpbeaaGreatMc1
import Derived.Test.YtpadlmidojpbeaaGreatMc2
import Derived.Test.YtpadlmidojpbeaaGreatMc4
import Derived.Test.YtpadlmidojpbeaaGreatMc5
import Derived.Test.YtpadlmidojpbeaaGreatMc6
set_option linter.unusedVariables false
set_option linter.unusedSimpArgs false
/- x -/
namespace Go.Proofs.YtpadlmidojpbeaaGreat
open Go Go.RowKit
theorem wp_appM {P : Program} {ops : Array Oper} {rest : List Oper} {o : Oper} {a : Act} {Q : Exit → Act → World → Prop} {e : TypeId} {W : World} {cs : Array Value} (hgd : o.guard = none) (s x : Operand) (t : TypeId)
    (ho : o.op = .call { callee := .builtin .append, args := #[s, x], argTypes := #[t, t] })
    (base : Nat) (i : TypeInfo) (z : Value) (size bytes m : Nat) (ht : P.underlying t = some (.slice e)) (hi : P.info? e = some i) (hz : i.zero = some z)
    (hsize : i.size = size) (hby : i.bytes = bytes) (hzs : z.cells.size = size) (hsz : 0 < size)
    (hcs : cs.size = m * size) (h1 : ∀ u ∈ cs.toList, u.oneCell' = true)
    (v : Value) (n : Nat) (xs : List Value) (hs : a.eval s = v) (hown : W.ownsRow base e size v n xs) (hx : a.eval x = .slice (some ⟨W.heap.size, 0, none⟩) m m)
    (h63 : n + m ≤ maxLen) (hbytes : (n + m) * bytes ≤ 140737488355328) (hbase : base ≤ W.heap.size)
    (h : ∀ v' w', w'.ownsRow base e size v' (n + m) (xs ++ cs.toList) → (W.alloc (.cells cs e)).grownBy w' v.ownBlock → (v'.ownBlock = v.ownBlock ∨ v'.ownBlock = some (W.heap.size + 1)) → wpList P ops Q rest (a.put o.dst v') w') : wpList P ops Q (o :: rest) a (W.alloc (.cells cs e)) := by
  refine wpList_append_own_at (W.alloc (.cells cs e)) hgd s x t ho base e i z size bytes ht hi hz hsize hby hzs hsz v n xs hs (hown.alloc _) ⟨W.heap.size, 0, none⟩ m m cs.toList hx (by simpa using hcs) ?_ h1 h63 hbytes (by simp; omega) ?_
  · intro j u hj
    rw [Addr.add_lit, World.cell?_alloc_at _ _ _ _ rfl]
    simpa using hj
  · intro v' w' h2 hg _ hat
    exact h v' w' h2 hg (by simpa using hat)
section
variable {w0 W w2 : World} {ad : Option Addr} {n cap : Nat} {C : List OpP} {E : List RowD} {us : List OpD}
theorem TB.pushIs {wa : Option Addr} {wk : Nat} {ws js : List Int} {x : Obj} {v' : Value} (h : TB w0 W ad cap us (intRow wa wk ws :: E))
    (h2 : w2.ownsRow w0.heap.size 2 1 v' (ws.length + js.length) (ws.map (Value.int .i64) ++ js.map (Value.int .i64))) (hg : (W.alloc x).grownBy w2 (Value.slice wa ws.length wk).ownBlock) (hat : v'.ownBlock = (Value.slice wa ws.length wk).ownBlock ∨ v'.ownBlock = some (W.heap.size + 1)) :
    ∃ wa' wk', v' = .slice wa' (ws ++ js).length wk' ∧ TB w0 w2 ad cap us (intRow wa' wk' (ws ++ js) :: E) := by
  obtain ⟨wa', wk', rfl, _⟩ := Rd.of_owns h2
  have hl : (ws ++ js).length = ws.length + js.length := by simp
  have p : ∀ (y : RowD), (⟨opR.e, opR.size, ad, us.length, cap, us.flatMap opR.cells⟩ :: (us.flatMap opR.inn ++ y :: E)).Perm (y :: (⟨opR.e, opR.size, ad, us.length, cap, us.flatMap opR.cells⟩ :: (us.flatMap opR.inn ++ E))) := fun y =>
    (List.Perm.cons _ List.perm_middle).trans (List.Perm.swap _ _ _)
  have h3 := (h.own.own.perm (p _)).below (below1 W x)
  have hs := hg.size
  simp at hs
  have hrow := h.own.own.row _ (h.own.memE (List.mem_cons_self ..))
  have h4 := h3.grown (w' := w2) (hi' := w2.heap.size) (y := intRow wa' wk' (ws ++ js)) hg (by
    refine Row.mk' ?_
    show w2.ownsRow w0.heap.size 2 1 (.slice wa' (ws ++ js).length wk') (ws ++ js).length ((ws ++ js).map (Value.int .i64))
    rw [hl, List.map_append]; exact h2) (fun g e => by
      have e0 : (Value.slice wa' (ws.length + js.length) wk').ownBlock = some g := by
        have e9 : (Value.slice wa' (ws ++ js).length wk').ownBlock = some g := e
        rw [hl] at e9; exact e9
      rcases hat with e1 | e1
      · exact .inl (e1.symm.trans e0)
      · right
        have e2 : some g = some (W.heap.size + 1) := e0.symm.trans e1
        cases e2
        omega) (by omega)
  refine ⟨wa', wk', by rw [hl], ⟨h4.perm (p _).symm, h.own.len, h.own.ok⟩, ?_⟩
  exact Below.grown (h.below.alloc h.below.size x) hg (by have := h.below.size; simp; omega) (fun j e => (hrow.own.lt j e).1)
theorem TN.goIs {wa : Option Addr} {wk : Nat} {ws : List Int} (h : TN w0 W ad n cap C (intRow wa wk ws :: E)) : W.ownsRow w0.heap.size 2 1 (.slice wa ws.length wk) ws.length (ws.map (Value.int .i64)) ∧
    ∀ (js : List Int) (x : Obj) (v' : Value) (w2 : World), w2.ownsRow w0.heap.size 2 1 v' (ws.length + js.length) (ws.map (Value.int .i64) ++ js.map (Value.int .i64)) → (W.alloc x).grownBy w2 (Value.slice wa ws.length wk).ownBlock → (v'.ownBlock = (Value.slice wa ws.length wk).ownBlock ∨ v'.ownBlock = some (W.heap.size + 1)) →
      ∃ wa' wk', v' = .slice wa' (ws ++ js).length wk' ∧ TN w0 w2 ad n cap C (intRow wa' wk' (ws ++ js) :: E) := by
  obtain ⟨us, h1, h2, h3⟩ := h
  refine ⟨h3.ints (List.mem_cons_self ..), fun js x v' w2 h4 hg hat => ?_⟩
  obtain ⟨wa', wk', e, hx⟩ := h3.pushIs h4 hg hat
  exact ⟨wa', wk', e, us, h1, h2, hx⟩
end
end Go.Proofs.YtpadlmidojpbeaaGreat
/- x -/
namespace Go.Proofs.YtpadlmidojpbeaaGreat
open Go Go.RowKit
theorem LN.ge {w0 W : World} {ad : Option Addr} {n cap : Nat} {C : List LayP} {E : List RowD} (h : LN w0 W ad n cap C E) {t : TypeId} {g : Nat} {cs : List Value} (hm : xRow t g cs ∈ E) : w0.heap.size ≤ g := by
  obtain ⟨us, h1, h2, h3, h4⟩ := h
  exact (h3.own.cell (h3.memE hm)).2.1.1
theorem F32s.belowLt {w w' : World} {B b off cap : Nat} {xs : List Nat} (h : F32s w (some ⟨b, off, none⟩) cap xs) (hb : Below B w w') (hB : b < B) : F32s w' (some ⟨b, off, none⟩) cap xs :=
  ⟨h.len, h.cap, h.rd.belowLt hb (fun b' off' e => by cases e; exact hB), h.lt⟩
set_option maxRecDepth 100000 in
set_option maxHeartbeats 4000000 in
theorem impl_take (w0 W : World) (ad : Option Addr) (n c : Nat) (C : List LayP) (E : List RowD) (lb b off m ck q : Nat) (zs : List Nat) (h : LN w0 W ad n c C (xRow 25 lb [.slice (some ⟨b, off, none⟩) m ck] :: E)) (hx : F32s W (some ⟨b, off, none⟩) ck zs) (hbw : b < w0.heap.size) (hm : m = zs.length) (hq : q ≤ m) (hm2 : m ≤ 1000) :
    Calls Tryz.prog 76 #[.int .i64 q, .pointer (some ⟨lb, 0, none⟩)] W fun e W' => ∃ a k off' ck', e = .returned (.slice a q k) ∧
      Hid (LN w0 W' ad n c C (xRow 25 lb [.slice (some ⟨b, off', none⟩) (m - q) ck'] :: floatRow a k (zs.take q) :: E) ∧ F32s W' (some ⟨b, off', none⟩) ck' (zs.drop q)) := by
  obtain ⟨hlb, p0, pf⟩ := (h.box (List.mem_cons_self ..)).one1
  have hcut := hx.cut3 q (by omega)
  have H1 := Lib.hid hcut.1; have H2 := Lib.hid hcut.2
  have hcl := hx.len; rw [← hm] at hcl
  have hcap := hx.cap
  have H := Lib.hid h
  have HM := Lib.hid hm
  clear h hx hcut hm pf
  have t3 : IntKind.i64.wrap (q : Int) = (q : Int) := wrap_ok (by omega) (by omega)
  have t4 : (0 : Int) ≤ (q : Int) := by omega
  have t5 : (q : Int) ≤ (ck : Int) := by omega
  have t6 : (q : Int) ≤ (m : Int) := by omega
  have hl : (zs.take q).length = q := by rw [List.length_take, ← HM.out]; omega
  have K := Lib.hid (slices_CloneF W (some ⟨b, off, none⟩) ck (zs.take q) H1.out (fun e => nomatch e) (by omega))
  rw [hl] at K
  clear hl
  by_cases hck : ck = q
  · have hqm : q = m := by omega
    subst hck
    subst hqm
    go_enter Tryz.func76, Tryz.ntmps76
    go_upto_region 1 with fail
    go_wp2_with fail
    refine K.out.mono ?_
    rintro e w1 ⟨a, k, rfl, HR, hb⟩
    have HL := Lib.hid ((H.out.addF hb HR.out).swap)
    have H3 := Lib.hid (H2.out.below hb)
    clear K HR hb H H1 H2 p0 hlb
    obtain ⟨hlb, p0, pf⟩ := (HL.out.box (List.mem_cons_self ..)).one1
    have hpf := pf 0
    clear pf
    go_wp2
    go_ret
    have hge := HL.out.ge (List.mem_cons_self ..)
    have h5 := HL.out.store 0 (.slice (some ⟨b, off, none⟩) 0 0)
    have hz : zs.drop ck = [] := List.drop_eq_nil_of_le (by rw [← HM.out]; omega)
    refine ⟨a, k, off, 0, rfl, Lib.hid ⟨by rw [Nat.sub_self]; exact h5, ?_⟩⟩
    rw [hz]
    exact ⟨Nat.zero_le _, Nat.zero_le _, .inl rfl, fun x hx => (nomatch hx)⟩
  · go_enter Tryz.func76, Tryz.ntmps76
    go_upto_region 1 with fail
    go_wp2_with fail
    refine K.out.mono ?_
    rintro e w1 ⟨a, k, rfl, HR, hb⟩
    have HL := Lib.hid ((H.out.addF hb HR.out).swap)
    have H3 := Lib.hid (H2.out.below hb)
    clear K HR hb H H1 H2 p0 hlb
    obtain ⟨hlb, p0, pf⟩ := (HL.out.box (List.mem_cons_self ..)).one1
    have hpf := pf 0
    clear pf
    go_wp2
    go_ret
    have hge := HL.out.ge (List.mem_cons_self ..)
    have h5 := HL.out.store 0 (.slice (some ⟨b, off + q, none⟩) (m - q) (ck - q))
    exact ⟨a, k, off + q, ck - q, rfl, Lib.hid ⟨h5, H3.out.belowLt ((Below.refl w0.heap.size w1).setCell (p := ⟨lb, 0, none⟩) hge _) hbw⟩⟩
end Go.Proofs.YtpadlmidojpbeaaGreat
/- x -/
namespace Go.Proofs.YtpadlmidojpbeaaGreat
open Go Go.RowKit
theorem withP_take {L : List LayP} {k : Nat} {l : LayP} (h : L[k]? = some l) (xs : List Nat) : withP (L.take (k + 1)) xs = withP (L.take k) xs ++ [takeL l (xs.drop (cntP (L.take k)))] ∧ cntP (L.take (k + 1)) = cntP (L.take k) + (l.ws.length + l.bs.length) ∧ cntP (L.take (k + 1)) ≤ cntP L := by
  have e : L.take (k + 1) = L.take k ++ [l] := by rw [List.take_add_one, h]; rfl
  have h3 : cntP (L.take (k + 1)) ≤ cntP L := by
    have := cntP_append (L.take (k + 1)) (L.drop (k + 1))
    rw [List.take_append_drop] at this
    omega
  rw [e] at h3 ⊢
  exact ⟨withP_snoc _ _ _, cntP_snoc _ _, h3⟩
theorem F32s.via {w W V : World} {b off cap : Nat} {xs : List Nat} (h : F32s W (some ⟨b, off, none⟩) cap xs) (h1 : Below w.heap.size w W) (h2 : Below w.heap.size w V) (hb : b < w.heap.size) : F32s V (some ⟨b, off, none⟩) cap xs := by
  refine ⟨h.len, h.cap, ?_, h.lt⟩
  rcases h.rd with h3 | ⟨b', off', e, hl, hc⟩
  · exact .inl h3
  · cases e
    refine .inr ⟨b, off, rfl, Nat.lt_of_lt_of_le hb h2.size, fun i hi => ?_⟩
    rw [h2.cell (p := ⟨b, off + i, none⟩) hb, ← h1.cell (p := ⟨b, off + i, none⟩) hb]
    exact hc i hi
set_option maxRecDepth 100000 in
set_option maxHeartbeats 8000000 in
theorem impl_withParams (w : World) (ma : Option Addr) (mk : Nat) (ls : List LayD) (b off ck : Nat) (xs : List Nat) (hls : SeeR layR w ma mk ls) (hx : F32s w (some ⟨b, off, none⟩) ck xs) (hbw : b < w.heap.size) (hn : ls.length ≤ 6) (hi2 : ∀ l ∈ ls, l.ws.length ≤ 64 ∧ l.bs.length ≤ 8) (hcnt : xs.length = cntP (ls.map LayD.toLayP)) :
    Calls Tryz.prog 45 #[.agg #[.slice ma ls.length mk], .slice (some ⟨b, off, none⟩) xs.length ck] w (LayPost ((withP (ls.map LayD.toLayP) xs).map LayP.can) w) := by
  obtain ⟨i0, hi0, hz0, hzs, hz2⟩ := info_parts info_lay
  have HLS := Lib.hid hls; have HI2 := Lib.hid hi2; have HX := Lib.hid hx
  obtain ⟨L, hL⟩ : ∃ L, L = ls.map LayD.toLayP := ⟨_, rfl⟩
  rw [← hL] at hcnt ⊢
  have HLL := Lib.hid hL
  have hmx : xs.length ≤ 432 := by
    have h1 : ∀ A : List LayD, (∀ l ∈ A, l.ws.length ≤ 64 ∧ l.bs.length ≤ 8) → cntP (A.map LayD.toLayP) ≤ 72 * A.length := by
      intro A
      induction A with
      | nil => intro _; exact Nat.zero_le _
      | cons a A ih =>
        intro h
        have h1 := h a (List.mem_cons_self ..)
        have h2 := ih (fun l hl => h l (List.mem_cons_of_mem _ hl))
        rw [List.map_cons, cntP_cons, List.length_cons]
        omega
    have := h1 ls hi2
    rw [← hL] at this
    omega
  obtain ⟨m, hM⟩ : ∃ m, m = xs.length := ⟨_, rfl⟩
  rw [← hM] at hcnt hmx ⊢
  obtain ⟨n, hN⟩ : ∃ n, n = ls.length := ⟨_, rfl⟩
  rw [← hN] at hn ⊢
  have HN := Lib.hid hN; have HM := Lib.hid hM; have HCNT := Lib.hid hcnt
  clear hls hi2 hx hN hM hL hcnt
  have HL0 := Lib.hid ((((LN.nil w).alloc #[.slice ma n mk] 35).alloc #[.slice (some ⟨b, off, none⟩) m ck] 25).alloc #[.slice none 0 0] 35 |>.alloc #[.slice none 0 0] 35)
  go_enter Tryz.func45, Tryz.ntmps45
  go_upto_region 2 with fail
  obtain ⟨lB, hlB⟩ : ∃ g, g = w.heap.size + 1 := ⟨_, rfl⟩
  obtain ⟨rB, hrB⟩ : ∃ g, g = w.heap.size + 1 + 1 := ⟨_, rfl⟩
  obtain ⟨oB, hoB⟩ : ∃ g, g = w.heap.size + 1 + 1 + 1 := ⟨_, rfl⟩
  obtain ⟨W3, hW3⟩ : ∃ W, W = (((w.alloc (.cells #[.slice ma n mk] 35)).alloc (.cells #[.slice (some ⟨b, off, none⟩) m ck] 25)).alloc (.cells #[.slice none 0 0] 35)).alloc (.cells #[.slice none 0 0] 35) := ⟨_, rfl⟩
  rw [← hoB, ← hrB, ← hlB, ← hW3]
  have HLW : Hid (LN w W3 none 0 0 [] [xRow 25 lB [.slice (some ⟨b, off, none⟩) m ck], xRow 35 oB [.slice none 0 0], xRow 35 rB [.slice none 0 0]] ∧ W3.cell? ⟨w.heap.size, 0, none⟩ = some (.slice ma n mk)) := Lib.hid (by
    have h := HL0.out
    have e1 : (w.alloc (.cells #[.slice ma n mk] 35)).heap.size = w.heap.size + 1 := by simp
    have e2 : ((w.alloc (.cells #[.slice ma n mk] 35)).alloc (.cells #[.slice (some ⟨b, off, none⟩) m ck] 25)).heap.size = w.heap.size + 1 + 1 := by simp
    have e3 : (((w.alloc (.cells #[.slice ma n mk] 35)).alloc (.cells #[.slice (some ⟨b, off, none⟩) m ck] 25)).alloc (.cells #[.slice none 0 0] 35)).heap.size = w.heap.size + 1 + 1 + 1 := by simp
    rw [e1, e2, e3, ← hoB, ← hrB, ← hlB, ← hW3] at h
    obtain ⟨-, q0, -⟩ := (h.box (t := 35) (g := w.heap.size) (cs := [.slice ma n mk]) (by simp)).one1
    refine ⟨(h.sub (E' := [xRow 35 oB [.slice none 0 0], xRow 35 rB [.slice none 0 0], xRow 25 lB [.slice (some ⟨b, off, none⟩) m ck]]) ?_).third, q0⟩
    exact (List.Sublist.cons_cons _ (List.Sublist.cons_cons _ (List.Sublist.cons_cons _ (List.nil_sublist _)))))
  have HFX := Lib.hid (HX.out.below ((HLW.out.1.below).mono (Nat.le_refl _)))
  have HL := Lib.hid HLW.out.1
  have q0 := HLW.out.2
  clear hoB hrB hlB hW3 HL0 HLW
  go_wp2
  clear q0
  go_loopw [8, 14] (fun p i wt => ∃ k r off' ck' : Nat, i = .int .i64 k ∧ k ≤ n ∧ r + cntP (L.take k) = m ∧ ∃ ad cap, Hid (LN w wt ad k cap ((withP (L.take k) xs).map LayP.can) [xRow 25 lB [.slice (some ⟨b, off', none⟩) r ck'], xRow 35 oB [.slice ad k cap], xRow 35 rB [.slice none 0 0]] ∧ F32s wt (some ⟨b, off', none⟩) ck' (xs.drop (cntP (L.take k))))) (fun p i wt => n - (intOf i).toNat)
  case atStart => exact ⟨0, m, off, ck, rfl, Nat.zero_le _, rfl, none, 0, Lib.hid ⟨HL.out, HFX.out⟩⟩
  case round =>
    obtain ⟨k, r, off', ck', rfl, hk, hr, ad, cap, HH⟩ := hrel
    by_cases hlt : k < n
    · obtain ⟨l, hl⟩ := getElem?_lt (show k < ls.length by rw [← HN.out]; exact hlt)
      have hii := HI2.out l (List.mem_of_getElem? hl)
      have hLk : L[k]? = some l.toLayP := by rw [HLL.out, List.getElem?_map, hl]; rfl
      obtain ⟨ht1, ht2, ht3⟩ := withP_take hLk xs
      have hb0 := HH.out.1.below
      obtain ⟨-, -, -, -, -, -, hok⟩ := lay_spot HLS.out hl
      obtain ⟨b1, off1, rfl, hb, ⟨c0, c1, c2, c3, c4⟩, -, -⟩ := lay_spot (HLS.out.below hb0) hl
      have HTK := Lib.hid ht1; have HTC := Lib.hid ht2; have HOK := Lib.hid hok
      obtain ⟨⟨kk, li, lo, lws, lbs⟩, wa, wk, ba, bk⟩ := l
      simp only at c0 c1 c2 c3 c4 hii ht2
      obtain ⟨m1, hm1⟩ : ∃ m, m = lws.length := ⟨_, rfl⟩
      obtain ⟨m2, hm2⟩ : ∃ m, m = lbs.length := ⟨_, rfl⟩
      rw [← hm1] at c3 hii ht2; rw [← hm2] at c4 hii ht2
      have HM1 := Lib.hid hm1; have HM2 := Lib.hid hm2
      have hcm := HCNT.out
      obtain ⟨cn0, hcn0⟩ : ∃ q, q = cntP (L.take k) := ⟨_, rfl⟩
      rw [← hcn0] at ht2 hr
      rw [ht2] at ht3
      have hrm : m1 + m2 ≤ r := by omega
      have HCN := Lib.hid hcn0
      have HL1 := Lib.hid HH.out.1
      obtain ⟨zs, hzs⟩ : ∃ zs, zs = xs.drop (cntP (L.take k)) := ⟨_, rfl⟩
      have HF1 := Lib.hid (show F32s wr (some ⟨b, off', none⟩) ck' zs by rw [hzs]; exact HH.out.2)
      have HZS := Lib.hid hzs
      have hzl : r = zs.length := by rw [hzs, List.length_drop, ← HM.out, ← HCN.out]; omega
      have HZL := Lib.hid hzl
      clear hm1 hm2 hl hLk ht1 ht2 ht3 hb0 hok hcn0 HH hzs hzl hcm
      have HL2 := Lib.hid ((HL1.out.alloc #[.int .i64 kk, .int .i64 li, .int .i64 lo, .slice wa m1 wk, .slice ba m2 bk] 99).swap)
      go_upto_region 6 with fail
      replace HF1 := Lib.hid (HF1.out.below (below1 wr (.cells #[.int .i64 kk, .int .i64 li, .int .i64 lo, .slice wa m1 wk, .slice ba m2 bk] 99)))
      clear c0 c1 c2 c3 c4 HL1 hb
      generalize wr.alloc (.cells #[.int .i64 kk, .int .i64 li, .int .i64 lo, .slice wa m1 wk, .slice ba m2 bk] 99) = W4 at HL2 HF1 ⊢
      generalize wr.heap.size = lb at HL2 ⊢
      obtain ⟨-, d0, d1, d2, d3, d4, -⟩ := (HL2.out.box (t := 99) (g := lb) (List.mem_cons_of_mem _ (List.mem_cons_self ..))).five
      have K := Lib.hid (impl_take w W4 ad k cap _ _ lB b off' r ck' m1 zs HL2.out HF1.out hbw HZL.out (by omega) (by omega))
      go_wp2_with fail
      refine K.out.mono ?_
      rintro e w5 ⟨a5, k5, off5, ck5, rfl, HT5⟩
      have HL3 := Lib.hid (HT5.out.1.third)
      have HF5 := Lib.hid HT5.out.2
      clear K d0 d1 d2 d3 d4 HL2 HF1 HT5
      obtain ⟨hl5, d0, d1, d2, d3, d4, hf⟩ := (HL3.out.box (List.mem_cons_self ..)).five
      have hf3 := hf 3
      clear hf
      go_upto_region 7 with fail
      have HL4 := Lib.hid ((HL3.out.store 3 (.slice a5 m1 k5)).swap)
      replace HF5 := Lib.hid (HF5.out.belowLt ((Below.refl w.heap.size w5).setCell (p := ⟨lb, 3, none⟩) (HL3.out.ge (List.mem_cons_self ..)) (.slice a5 m1 k5)) hbw)
      clear HL3 d0 d1 d2 d3 d4 hf3 hl5
      generalize w5.setCell ⟨lb, 3, none⟩ (.slice a5 m1 k5) = W6 at HL4 HF5 ⊢
      have HL4 : Hid (LN w W6 ad k cap ((withP (L.take k) xs).map LayP.can) (xRow 25 lB [.slice (some ⟨b, off5, none⟩) (r - m1) ck5] :: xRow 99 lb [.int .i64 kk, .int .i64 li, .int .i64 lo, .slice a5 m1 k5, .slice ba m2 bk] :: floatRow a5 k5 (zs.take m1) :: [xRow 35 oB [.slice ad k cap], xRow 35 rB [.slice none 0 0]])) := HL4
      obtain ⟨-, d0, d1, d2, d3, d4, -⟩ := (HL4.out.box (t := 99) (g := lb) (List.mem_cons_of_mem _ (List.mem_cons_self ..))).five
      have K := Lib.hid (impl_take w W6 ad k cap _ _ lB b off5 (r - m1) ck5 m2 (zs.drop m1) HL4.out HF5.out hbw (by rw [List.length_drop, ← HZL.out]) (by omega) (by omega))
      go_wp2_with fail
      refine K.out.mono ?_
      rintro e w7 ⟨a7, k7, off7, ck7, rfl, HT7⟩
      have HL5 := Lib.hid (HT7.out.1.third)
      have HF7 := Lib.hid HT7.out.2
      clear K d0 d1 d2 d3 d4 HL4 HF5 HT7
      obtain ⟨hl7, d0, d1, d2, d3, d4, hf⟩ := (HL5.out.box (List.mem_cons_self ..)).five
      have hf4 := hf 4
      clear hf
      go_upto_region 8 with fail
      have HL6 := Lib.hid (HL5.out.store 4 (.slice a7 m2 k7))
      replace HF7 := Lib.hid (HF7.out.belowLt ((Below.refl w.heap.size w7).setCell (p := ⟨lb, 4, none⟩) (HL5.out.ge (List.mem_cons_self ..)) (.slice a7 m2 k7)) hbw)
      clear HL5 d0 d1 d2 d3 d4 hf4 hl7
      generalize w7.setCell ⟨lb, 4, none⟩ (.slice a7 m2 k7) = W8 at HL6 HF7 ⊢
      have HL6 : Hid (LN w W8 ad k cap ((withP (L.take k) xs).map LayP.can) (xRow 99 lb [.int .i64 kk, .int .i64 li, .int .i64 lo, .slice a5 m1 k5, .slice a7 m2 k7] :: xRow 25 lB [.slice (some ⟨b, off7, none⟩) (r - m1 - m2) ck7] :: floatRow a7 k7 ((zs.drop m1).take m2) :: floatRow a5 k5 (zs.take m1) :: [xRow 35 oB [.slice ad k cap], xRow 35 rB [.slice none 0 0]])) := HL6
      obtain ⟨-, d0, d1, d2, d3, d4, -⟩ := (HL6.out.box (List.mem_cons_self ..)).five
      obtain ⟨ho8, o0, of⟩ := (HL6.out.box (t := 35) (g := oB) (cs := [.slice ad k cap]) (by simp)).one1
      have hlP := ((HL6.out.sub (E' := xRow 25 lB [.slice (some ⟨b, off7, none⟩) (r - m1 - m2) ck7] :: floatRow a7 k7 ((zs.drop m1).take m2) :: floatRow a5 k5 (zs.take m1) :: [xRow 35 oB [.slice ad k cap], xRow 35 rB [.slice none 0 0]]) (List.sublist_cons_self _ _)).third.perm (List.Perm.cons _ (List.Perm.swap _ _ _))).push
      obtain ⟨vs, hrow, hpush⟩ := hlP
      have HROW := Lib.hid hrow; have HPU := Lib.hid hpush
      have hbs := HL6.out.below.size
      have HB8 := Lib.hid HL6.out.below
      have ho5 : okF (zs.take m1) := fun x hx => HX.out.lt x (List.mem_of_mem_drop (by rw [← HZS.out]; exact List.mem_of_mem_take hx))
      have ho7 : okF ((zs.drop m1).take m2) := fun x hx => HX.out.lt x (List.mem_of_mem_drop (by rw [← HZS.out]; exact List.mem_of_mem_drop (List.mem_of_mem_take hx)))
      have HO5 := Lib.hid ho5; have HO7 := Lib.hid ho7
      have hn5 : (zs.take m1).length = m1 := by rw [List.length_take, ← HZL.out]; omega
      have hn7 : ((zs.drop m1).take m2).length = m2 := by rw [List.length_take, List.length_drop, ← HZL.out]; omega
      have HN5 := Lib.hid hn5; have HN7 := Lib.hid hn7
      clear hrow hpush HL6 ho5 ho7 hn5 hn7
      go_wp2_with (at_builtin; refine wp_appM rfl _ _ 33 rfl w.heap.size i0 (.agg #[.int .i64 0, .int .i64 0, .int .i64 0, .slice none 0 0, .slice none 0 0]) 5 72 1 Tryz.underlying33 hi0 hz0 hzs hz2 rfl (by decide) rfl (by intro u hu; simp at hu; rcases hu with rfl | rfl | rfl | rfl | rfl <;> rfl) _ _ _ rfl HROW.out (by go_simp) ?c3 ?c4 ?c5 ?_)
      case c3 => unfold maxLen; omega
      case c4 => omega
      case c5 => exact hbs
      intro v' w9 hown9 hg9 hat9
      obtain ⟨ad9, cap9, rfl, HL9⟩ := HPU.out ⟨⟨kk, li, lo, zs.take m1, (zs.drop m1).take m2⟩, a5, k5, a7, k7⟩ _ v' w9 ⟨⟨HO5.out, HO7.out⟩, HOK.out.2⟩ (by rfl) (by have h := hown9; unfold LayD.cells; simp only [HN5.out, HN7.out]; exact h) hg9 hat9
      have HLA := Lib.hid HL9.swap
      have HF9 := Lib.hid (HF7.out.via HB8.out HL9.below hbw)
      clear hown9 hg9 hat9 HPU HL9 HROW d0 d1 d2 d3 d4 o0 of ho8
      obtain ⟨ho9, o0, of⟩ := (HLA.out.box (List.mem_cons_self ..)).one1
      have hof := of 0
      have hge9 := HLA.out.ge (List.mem_cons_self ..)
      clear of
      go_wp2
      refine ⟨?rel, ?measure⟩
      case rel =>
        refine ⟨k + 1, r - m1 - m2, off7, ck7, by go_num, hlt, by rw [HTC.out, ← HCN.out]; show r - m1 - m2 + (cn0 + (lws.length + lbs.length)) = m; rw [← HM1.out, ← HM2.out]; omega, ad9, cap9, Lib.hid ⟨?_, ?_⟩⟩
        · have h := (HLA.out.store 0 (.slice ad9 (k + 1) cap9)).swap
          rw [HTK.out, List.map_append, ← HZS.out]
          unfold takeL
          simp only [← HM1.out, ← HM2.out]
          exact h
        · have h := HF9.out.belowLt ((Below.refl w.heap.size w9).setCell (p := ⟨oB, 0, none⟩) hge9 (.slice ad9 (k + 1) cap9)) hbw
          have e : xs.drop (cntP (L.take (k + 1))) = (zs.drop m1).drop m2 := by
            rw [HTC.out, HZS.out, List.drop_drop, List.drop_drop]
            show xs.drop (cntP (L.take k) + (lws.length + lbs.length)) = _
            rw [← HM1.out, ← HM2.out]
          rw [e]; exact h
      case measure => simp [intOf]; omega
    · have e : k = n := by omega
      subst e
      have HT := Lib.hid (show L.take k = L by rw [HN.out, HLL.out, ← List.length_map (f := LayD.toLayP)]; exact List.take_length)
      have HL1 := Lib.hid HH.out.1.swap
      rw [HT.out] at HL1
      clear HH
      obtain ⟨-, o0, -⟩ := (HL1.out.box (List.mem_cons_self ..)).one1
      obtain ⟨hr1, r0, rf⟩ := (HL1.out.box (t := 35) (g := rB) (cs := [.slice none 0 0]) (by simp)).one1
      have hrf := rf 0
      clear rf
      have HFIN := Lib.hid (HL1.out.third.store 0 (.slice ad k cap))
      go_wp2
      try simp only [Exit.inBlock, Exit.then]
      refine bodyPost_ret (v := .agg #[.slice ad k cap]) (by simp [results, Tryz.results45, go_sem, r0, hr1]) rfl ?_
      obtain ⟨us, h0, h2, h3, h4⟩ := HFIN.out
      exact ⟨ad, k, cap, us, rfl, Lib.hid ⟨h2, h3.r⟩, h4⟩
end Go.Proofs.YtpadlmidojpbeaaGreat
/- x -/
namespace Go.Proofs.YtpadlmidojpbeaaGreat
open Go Go.RowKit
def InPl (f : Nat → Nat) (xs : List Nat) (k : Nat) (ys : List Nat) : Prop := ∃ zs, ys = zs ++ xs.drop k ∧ zs.length = k ∧ zs.map (cn .f32) = ((xs.take k).map (cn .f32)).map f
theorem InPl.zero (f : Nat → Nat) (xs : List Nat) : InPl f xs 0 xs := ⟨[], rfl, rfl, rfl⟩
theorem drop_cons {xs : List Nat} {k x : Nat} (hx : xs[k]? = some x) : xs.drop k = x :: xs.drop (k + 1) := by
  obtain ⟨hk, rfl⟩ := List.getElem?_eq_some_iff.1 hx
  exact List.drop_eq_getElem_cons hk
theorem InPl.at' {f : Nat → Nat} {xs ys : List Nat} {k x : Nat} (h : InPl f xs k ys) (hx : xs[k]? = some x) : ys.getD k 0 = x := by
  obtain ⟨zs, rfl, h2, h3⟩ := h
  rw [drop_cons hx, List.getD_eq_getElem?_getD, List.getElem?_append_right (by omega), h2, Nat.sub_self]; rfl
theorem InPl.set {f : Nat → Nat} {xs ys : List Nat} {k x y : Nat} (h : InPl f xs k ys) (hx : xs[k]? = some x) (hy : cn .f32 y = f (cn .f32 x)) : InPl f xs (k + 1) (ys.set k y) := by
  obtain ⟨zs, rfl, h2, h3⟩ := h
  refine ⟨zs ++ [y], ?_, by simp [h2], ?_⟩
  · rw [drop_cons hx]
    subst h2
    rw [set_mid, List.append_assoc]; rfl
  · rw [List.map_append, h3, List.take_add_one, hx, List.map_append, List.map_append]
    simp [hy]
theorem InPl.all {f : Nat → Nat} {xs ys : List Nat} {k : Nat} (h : InPl f xs k ys) (hk : k = xs.length) : ys.map (cn .f32) = (xs.map (cn .f32)).map f := by
  obtain ⟨zs, rfl, h2, h3⟩ := h
  subst hk
  rw [List.drop_length, List.append_nil, h3, List.take_length]
theorem round_can (L : List LayP) {ys : List Nat} (h : ys.map (cn .f32) = ((paramsP L).map (cn .f32)).map bfE) : (withP L ys).map LayP.can = (L.map LayP.can).map (mapL bfE) := by
  rw [withP_can, h, paramsP_can, withP_map]
theorem cnt_lens (A : List LayD) (h : ∀ l ∈ A, l.ws.length ≤ 64 ∧ l.bs.length ≤ 8) : cntP (A.map LayD.toLayP) ≤ 72 * A.length := by
  induction A with
  | nil => exact Nat.zero_le _
  | cons a A ih =>
    have h1 := h a (List.mem_cons_self ..)
    have h2 := ih (fun l hl => h l (List.mem_cons_of_mem _ hl))
    rw [List.map_cons, cntP_cons, List.length_cons]
    omega
set_option maxRecDepth 100000 in
set_option maxHeartbeats 8000000 in
theorem impl_rounded (w : World) (ma : Option Addr) (mk : Nat) (ls : List LayD) (hls : SeeR layR w ma mk ls) (hnil : nilL ls) (hn : ls.length ≤ 6) (hi2 : ∀ l ∈ ls, l.ws.length ≤ 64 ∧ l.bs.length ≤ 8) :
    Calls Tryz.prog 36 #[.agg #[.slice ma ls.length mk]] w (LayPost ((ls.map fun l => l.toLayP.can).map (mapL bfE)) w) := by
  have b2 := below2 w (.cells #[.slice ma ls.length mk] 35) (.cells #[.slice none 0 0] 35)
  have BM := Lib.hid ((BoxN.alloc w #[.slice ma ls.length mk] 35).below (below1 _ (.cells #[.slice none 0 0] 35)))
  have BR := Lib.hid (BoxN.alloc2 w (.cells #[.slice ma ls.length mk] 35) #[.slice none 0 0] 35)
  obtain ⟨W2, hW2⟩ : ∃ W, W = (w.alloc (.cells #[.slice ma ls.length mk] 35)).alloc (.cells #[.slice none 0 0] 35) := ⟨_, rfl⟩
  have hs2 : W2.heap.size = w.heap.size + 1 + 1 := by rw [hW2]; simp
  rw [← hW2] at b2 BM BR
  have B2 := Lib.hid b2
  obtain ⟨L, hL⟩ : ∃ L, L = ls.map LayD.toLayP := ⟨_, rfl⟩
  have HLL := Lib.hid hL
  have hcnt : cntP L ≤ 432 := by have := cnt_lens ls hi2; rw [← hL] at this; omega
  have K1 := Lib.hid (impl_params W2 ma mk ls (hls.below b2) hnil hn hi2)
  have K2 := Lib.hid (fun W (hb : Below W2.heap.size W2 W) b off ck xs h1 h2 h3 => impl_withParams W ma mk ls b off ck xs ((hls.below b2).below hb) h1 h2 hn hi2 h3)
  have HCE := Lib.hid (show (ls.map fun l => l.toLayP.can) = L.map LayP.can by rw [hL, List.map_map]; rfl)
  rw [← hL] at K1 K2
  rw [HCE.out]
  obtain ⟨n, hN⟩ : ∃ n, n = ls.length := ⟨_, rfl⟩
  rw [← hN] at hn BM K1 K2 hW2 ⊢
  have HW2 := Lib.hid hW2
  clear hls hnil hi2 b2 hN hL hW2
  go_enter Tryz.func36, Tryz.ntmps36
  go_upto_region 1 with fail
  rw [← HW2.out]
  obtain ⟨-, p0, -⟩ := BM.out.one1
  go_wp2_with fail
  refine K1.out.mono ?_
  rintro e w3 ⟨g3, n3, c3, rfl, HR, hb3⟩
  have HB3 := Lib.hid hb3
  have hlen := HR.out.len
  have hP : n3 = (paramsP L).length := hlen.symm
  have HP := Lib.hid hP
  have hn3 : n3 ≤ 432 := by rw [hP]; exact hcnt
  clear hcnt
  have hge : W2.heap.size ≤ g3 := (HR.out.row.own.lt g3 rfl).1
  have hs3 := hb3.size
  clear K1 hb3 p0 hlen hP
  go_wp2
  go_loopw [4, 5, 10] (fun i x q wt => ∃ k : Nat, q = .int .i64 k ∧ k ≤ n3 ∧ Hid (∃ ys, RepF wt W2.heap.size w3.heap.size (some ⟨g3, 0, none⟩) n3 c3 ys ∧ InPl bfE (paramsP L) k ys) ∧ Hid (Below W2.heap.size W2 wt ∧ w3.heap.size ≤ wt.heap.size)) (fun i x q wt => n3 - (intOf q).toNat)
  case atStart => exact ⟨0, rfl, Nat.zero_le _, Lib.hid ⟨_, HR.out, InPl.zero _ _⟩, Lib.hid ⟨HB3.out, Nat.le_refl _⟩⟩
  case round =>
    obtain ⟨k, rfl, hk, HY, HB⟩ := hrel
    by_cases hlt : k < n3
    · obtain ⟨ys, hr, hip⟩ := HY.out
      obtain ⟨x, hx⟩ := getElem?_lt (show k < (paramsP L).length by rw [← HP.out]; exact hlt)
      have HX := Lib.hid hx
      obtain ⟨g', e1, -, hc, -, -⟩ := hr.open (by omega)
      cases e1
      have hck := hc k hlt
      rw [hip.at' hx] at hck
      have hxl : x < 4294967296 := hr.lt x (by
        have h1 := hip.at' hx
        have h2 : k < ys.length := by rw [hr.len]; exact hlt
        rw [← h1, List.getD_eq_getElem?_getD, List.getElem?_eq_getElem h2]
        exact List.getElem_mem h2)
      have K := Lib.hid (fun W => impl_BfloatOf x hxl W)
      have HRR := Lib.hid hr; have HIP := Lib.hid hip
      clear hx hc hr hip HY
      go_wp2_with fail
      refine (K.out _).mono ?_
      rintro e w5 ⟨r, rfl, hrr, hd⟩
      have HRX := Lib.hid hrr.out
      have HR5 := Lib.hid (HRR.out.below hd.below)
      have HB5 := Lib.hid (And.intro (HB.out.1.trans (hd.below.mono HB.out.1.size)) (Nat.le_trans HB.out.2 hd.below.size))
      clear K hrr hd hck HRR
      obtain ⟨g', e1, -, hc, hf, -⟩ := HR5.out.open (by omega)
      cases e1
      have hck := hc k hlt
      rw [HIP.out.at' HX.out] at hck
      clear hc
      have hfk := hf k
      have hgl : g3 < w5.heap.size := (HR5.out.row.own.lt g3 rfl).2
      clear hf
      go_wp2
      refine ⟨?rel, ?measure⟩
      case rel => exact ⟨k + 1, by go_num, hlt, Lib.hid ⟨_, HR5.out.setAt k r HRX.out.2 (by omega), HIP.out.set HX.out HRX.out.1⟩, Lib.hid ⟨HB5.out.1.setCell (p := ⟨g3, k, none⟩) hge _, by simpa [World.setCell] using HB5.out.2⟩⟩
      case measure => simp [intOf]; omega
    · have e : k = n3 := by omega
      subst e
      obtain ⟨ys, hr, hip⟩ := HY.out
      have hyl : ys.length = k := hr.len
      have HE := Lib.hid (hip.all HP.out)
      have HF := Lib.hid hr.arg
      have hgl : g3 < wr.heap.size := (hr.row.own.lt g3 rfl).2
      have KK := Lib.hid (K2.out wr (HB.out.1.mono (Nat.le_refl _)) g3 0 c3 ys hr.arg hgl (by rw [hyl]; exact HP.out))
      rw [hyl, round_can L HE.out] at KK
      have hmw : w.heap.size < W2.heap.size := by omega
      have hrw : w.heap.size + 1 < W2.heap.size := by omega
      obtain ⟨-, p0, -⟩ := (BM.out.below (HB.out.1)).one1
      clear hr hip HY hyl K2
      go_wp2_with fail
      refine KK.out.mono ?_
      rintro e w9 ⟨ad, m, cap, us, rfl, HU, hb9⟩
      have HB9 := Lib.hid (HB.out.1.trans (hb9.mono HB.out.1.size))
      have hs9 := HB.out.1.size
      have HBB := Lib.hid hb9
      clear KK hb9 p0
      obtain ⟨hlr, r0, rf⟩ := (BR.out.below HB9.out).one1
      have hrf := rf 0
      clear rf
      go_wp2
      try simp only [Exit.inBlock, Exit.then]
      refine bodyPost_ret (v := .agg #[.slice ad m cap]) (by simp [results, Tryz.results36, go_sem, r0, hlr]) rfl ?_
      have ht : Touch (w.heap.size + 1) (w.heap.size + 2) w9 (w9.setCell ⟨w.heap.size + 1, 0, none⟩ (.slice ad m cap)) := Touch.setCell (Nat.le_refl _) (Nat.lt_succ_self _)
      exact ⟨ad, m, cap, us, rfl, Lib.hid ⟨HU.out.1, ((HU.out.2.touch ht (.inr (by omega))).bounds (by omega) (by simp [World.setCell]))⟩, ((bthen B2.out HB9.out).setCell (p := ⟨w.heap.size + 1, 0, none⟩) (by show w.heap.size ≤ w.heap.size + 1; omega) _)⟩
end Go.Proofs.YtpadlmidojpbeaaGreat
/- x -/
namespace Go.Proofs.YtpadlmidojpbeaaGreat
open Go Go.RowKit
def valV (k : Int) (v w : TenP) (num : Nat) : TenP :=
  if k = 1 then ⟨v.r, v.c, tenE .add v.xs w.xs v.xs.length⟩ else
  if k = 2 then ⟨v.r, v.c, rowE .add v.xs w.xs v.c.toNat v.xs.length⟩ else
  if k = 3 then ⟨v.r, v.c, tenE .mul v.xs w.xs v.xs.length⟩ else
  if k = 4 then ⟨v.r, v.c, rowE .mul v.xs w.xs v.c.toNat v.xs.length⟩ else
  if k = 5 then ⟨v.r, v.c, scaE v.xs num v.xs.length⟩ else
  if k = 6 then ⟨v.r, w.c, matE v.xs w.xs v.c.toNat w.c.toNat (v.r.toNat * w.c.toNat)⟩ else
  if k = 7 then ⟨v.c, v.r, turnE v.xs v.r.toNat v.c.toNat v.xs.length⟩ else
  if k = 8 then ⟨v.r, v.c, relE v.xs v.xs.length⟩ else
  if k = 9 then ⟨v.r, v.c, tenE .mul v.xs v.xs v.xs.length⟩ else
  ⟨1, 1, filE (sumS v.xs v.xs.length) 1⟩
def noTen : TenP := ⟨0, 0, []⟩
def vGet (V : List TenP) (i : Int) : TenP := V.getD i.toNat noTen
def stepV (V : List TenP) (o : OpP) : TenP := if o.k = 0 then ⟨o.r, o.c, o.xs.map (cn .f32)⟩ else valV o.k (vGet V o.a) (vGet V o.b) (cn .f32 o.num)
def valsN (os : List OpP) (k : Nat) : List TenP := (os.take k).foldl (fun V o => V ++ [stepV V o]) []
def valsP (os : List OpP) : List TenP := valsN os os.length
theorem valsN_succ {os : List OpP} {k : Nat} {o : OpP} (h : os[k]? = some o) : valsN os (k + 1) = valsN os k ++ [stepV (valsN os k) o] := by
  unfold valsN
  rw [List.take_add_one, h, List.foldl_append]
  rfl
def TenP.sh (t : TenP) : Sh := (t.r, t.c)
structure okT (t : TenP) : Prop where
  r1 : 1 ≤ t.r
  r2 : t.r ≤ 16
  c1 : 1 ≤ t.c
  c2 : t.c ≤ 16
  len : t.xs.length = t.r.toNat * t.c.toNat
theorem okT.pos {t : TenP} (h : okT t) : 1 ≤ t.xs.length := by
  rw [h.len]
  have := h.r1; have := h.c1
  exact Nat.mul_le_mul (by omega : 1 ≤ t.r.toNat) (by omega : 1 ≤ t.c.toNat)
theorem okT.le {t : TenP} (h : okT t) : t.xs.length ≤ 256 := by
  rw [h.len]
  have := h.r2; have := h.c2
  exact Nat.mul_le_mul (by omega : t.r.toNat ≤ 16) (by omega : t.c.toNat ≤ 16)
theorem tenE_length (op : BinOp) (X Y : List Nat) (n : Nat) : (tenE op X Y n).length = n := listOf_length _ _
theorem rowE_length (op : BinOp) (X Y : List Nat) (c n : Nat) : (rowE op X Y c n).length = n := listOf_length _ _
theorem scaE_length (X : List Nat) (y n : Nat) : (scaE X y n).length = n := listOf_length _ _
theorem matE_length (X Y : List Nat) (m c n : Nat) : (matE X Y m c n).length = n := listOf_length _ _
theorem turnE_length (X : List Nat) (r c n : Nat) : (turnE X r c n).length = n := listOf_length _ _
theorem relE_length (X : List Nat) (n : Nat) : (relE X n).length = n := listOf_length _ _
theorem filE_length (y n : Nat) : (filE y n).length = n := listOf_length _ _
theorem valV_ok {k : Int} {v w : TenP} {num : Nat} {s : Sh} (hk : 1 ≤ k ∧ k ≤ 10) (hv : okT v) (hw : okT w) (h : shapeOf k v.sh w.sh = some s) : (valV k v w num).sh = s ∧ okT (valV k v w num) := by
  have hk2 : k = 1 ∨ k = 2 ∨ k = 3 ∨ k = 4 ∨ k = 5 ∨ k = 6 ∨ k = 7 ∨ k = 8 ∨ k = 9 ∨ k = 10 := by omega
  obtain ⟨v1, v2, v3, v4, v5⟩ := hv
  obtain ⟨w1, w2, w3, w4, w5⟩ := hw
  refine ⟨?_, ?_⟩
  · rcases hk2 with rfl | rfl | rfl | rfl | rfl | rfl | rfl | rfl | rfl | rfl
    all_goals
      simp only [shapeOf, TenP.sh] at h
      simp only [valV, TenP.sh]
      simp at h ⊢
      first
        | exact h
        | exact h.2
        | (by_cases h6 : v.c = w.r <;> simp [h6] at h <;> (try rw [h6]) <;> exact h)
  · rcases hk2 with rfl | rfl | rfl | rfl | rfl | rfl | rfl | rfl | rfl | rfl
    all_goals
      simp only [valV]
      simp
      constructor <;> simp [tenE_length, rowE_length, scaE_length, matE_length, turnE_length, relE_length, filE_length] <;> first | omega | (rw [v5, Nat.mul_comm])
theorem valsN_ok {os : List OpP} {k : Nat} {S : List Sh} (hk : k ≤ os.length) (h : shapesN os k = some S) : (valsN os k).map TenP.sh = S ∧ ∀ t ∈ valsN os k, okT t := by
  induction k generalizing S with
  | zero =>
    have e : S = [] := by
      unfold shapesN at h
      simpa using h.symm
    subst e
    exact ⟨rfl, fun t ht => (nomatch ht)⟩
  | succ k ih =>
    obtain ⟨o, ho⟩ := getElem?_lt (show k < os.length by omega)
    rw [shapesN_succ ho] at h
    obtain ⟨S0, hS0, hst⟩ := Option.bind_eq_some_iff.1 h
    obtain ⟨h1, h2⟩ := ih (by omega) hS0
    have hl := shapesN_length (by omega) hS0
    have hVl : (valsN os k).length = k := by have := congrArg List.length h1; rw [List.length_map, hl] at this; exact this
    have hg : ∀ i : Int, 0 ≤ i → i ≤ k - 1 → (vGet (valsN os k) i).sh = shGet S0 i ∧ okT (vGet (valsN os k) i) := by
      intro i h0 h3
      have hi : i.toNat < (valsN os k).length := by omega
      have e1 : vGet (valsN os k) i = (valsN os k)[i.toNat] := by unfold vGet; rw [List.getD_eq_getElem?_getD, List.getElem?_eq_getElem hi]; rfl
      refine ⟨?_, by rw [e1]; exact h2 _ (List.getElem_mem hi)⟩
      rw [e1]
      unfold shGet
      rw [← h1, List.getD_eq_getElem?_getD, List.getElem?_map, List.getElem?_eq_getElem hi]; rfl
    rw [valsN_succ ho]
    unfold stepSh at hst
    rw [hl] at hst
    split at hst
    · rename_i hf
      split at hst
      · rename_i h0
        cases hst
        have hin := (fitsB_input hf h0).2.2
        have ht := tenB_iff.1 hin
        have e1 : stepV (valsN os k) o = ⟨o.r, o.c, o.xs.map (cn .f32)⟩ := by unfold stepV; rw [if_pos h0]
        refine ⟨by rw [List.map_append, h1, e1]; rfl, fun t ht2 => ?_⟩
        rcases List.mem_append.1 ht2 with ht2 | ht2
        · exact h2 t ht2
        · simp at ht2
          rw [ht2, e1]
          refine ⟨ht.1.1, ht.1.2, ht.2.1.1, ht.2.1.2, ?_⟩
          show (o.xs.map (cn .f32)).length = o.r.toNat * o.c.toNat
          rw [List.length_map]
          have h4 := ht.2.2
          have h5 : ((o.r.toNat * o.c.toNat : Nat) : Int) = o.r * o.c := by
            rw [Int.natCast_mul, Int.toNat_of_nonneg (by omega), Int.toNat_of_nonneg (by omega)]
          omega
      · rename_i h0
        obtain ⟨s, hs, e2⟩ := Option.map_eq_some_iff.1 hst
        subst e2
        have hk10 := fitsB_in hf
        have ha := fitsB_args hf h0
        have ga := hg o.a ha.1.1 ha.1.2
        have gb := hg o.b ha.2.1.1 ha.2.1.2
        have e1 : stepV (valsN os k) o = valV o.k (vGet (valsN os k) o.a) (vGet (valsN os k) o.b) (cn .f32 o.num) := by unfold stepV; rw [if_neg h0]
        have hv := valV_ok (k := o.k) (s := s) (num := cn .f32 o.num) (by omega) ga.2 gb.2 (by rw [ga.1, gb.1]; exact hs)
        refine ⟨by rw [List.map_append, h1, e1]; show _ ++ [TenP.sh _] = _; rw [hv.1], fun t ht2 => ?_⟩
        rcases List.mem_append.1 ht2 with ht2 | ht2
        · exact h2 t ht2
        · simp at ht2
          rw [ht2, e1]; exact hv.2
    · cases hst
end Go.Proofs.YtpadlmidojpbeaaGreat
/- x -/
namespace Go.Proofs.YtpadlmidojpbeaaGreat
open Go Go.RowKit
theorem ten_spot {w : World} {ad : Option Addr} {cap : Nat} {us : List Ten} (h : SeeR tenR w ad cap us) {k : Nat} {t : Ten} (hk : us[k]? = some t) : ∃ b off, ad = some ⟨b, off, none⟩ ∧ b < w.heap.size ∧
    (w.cell? ⟨b, off + k * 3, none⟩ = some (.int .i64 t.r) ∧ w.cell? ⟨b, off + k * 3 + 1, none⟩ = some (.int .i64 t.c) ∧ w.cell? ⟨b, off + k * 3 + 2, none⟩ = some (.slice t.ad t.xs.length t.cap)) ∧ F32s w t.ad t.cap t.xs := by
  obtain ⟨b, off, e, hb, hc⟩ := h.spot hk (by decide)
  have hm := List.mem_of_getElem? hk
  exact ⟨b, off, e, hb, ⟨hc 0 (by decide), hc 1 (by decide), hc 2 (by decide)⟩, (h.inn t hm _ (List.mem_singleton.2 rfl)).f32s (h.ok t hm)⟩
theorem vGet_map {us : List Ten} {V : List TenP} (hV : us.map (fun t => t.toTenP.can) = V) {k : Nat} {t : Ten} (hk : us[k]? = some t) : vGet V (k : Nat) = t.toTenP.can := by
  unfold vGet
  rw [← hV, show ((k : Nat) : Int).toNat = k by simp, List.getD_eq_getElem?_getD, List.getElem?_map, hk]; rfl
theorem okT.nat {t : TenP} (h : okT t) : ∃ r c : Nat, t.r = r ∧ t.c = c ∧ (1 ≤ r ∧ r ≤ 16) ∧ (1 ≤ c ∧ c ≤ 16) ∧ t.xs.length = r * c := by
  obtain ⟨h1, h2, h3, h4, h5⟩ := h
  exact ⟨t.r.toNat, t.c.toNat, by omega, by omega, by omega, by omega, h5⟩
set_option maxHeartbeats 64000000 in
set_option maxRecDepth 100000 in
theorem impl_value (w : World) (o : OpD) (ad : Option Addr) (cap : Nat) (us : List Ten) (hu : SeeR tenR w ad cap us) (V : List TenP) (hV : us.map (fun t => t.toTenP.can) = V) (hok : ∀ t ∈ V, okT t) (i : Nat) (hi : us.length = i) (hi2 : i ≤ 48) (hf : fitsB i o.toOpP = true) (hs : o.k ≠ 0 → ∃ s, shapeOf o.k (vGet V o.a).sh (vGet V o.b).sh = some s) (hx : F32s w o.ad o.cap o.xs) (hnil : o.ad = none → o.cap = 0) (hxl : o.xs.length ≤ 1048576) :
    Calls Tryz.prog 92 #[o.val, .slice ad i cap] w (TenPost (stepV V o.toOpP).r (stepV V o.toOpP).c (stepV V o.toOpP).xs.length (stepV V o.toOpP).xs w) := by
  by_cases h0 : o.k = 0
  · have hst : stepV V o.toOpP = ⟨o.r, o.c, o.xs.map (cn .f32)⟩ := by unfold stepV; rw [if_pos h0]
    rw [hst]
    show Calls Tryz.prog 92 _ w (TenPost o.r o.c (o.xs.map (cn .f32)).length (o.xs.map (cn .f32)) w)
    rw [List.length_map]
    obtain ⟨⟨kk, a, b', q, r, c, xs⟩, adx, capx⟩ := o
    have h0 : kk = 0 := h0
    subst h0
    show Calls Tryz.prog 92 #[.agg #[.int .i64 0, .int .i64 a, .int .i64 b', .float .f32 q, .int .i64 r, .int .i64 c, .slice adx xs.length capx], .slice ad i cap] w (TenPost r c xs.length (xs.map (cn .f32)) w)
    have hx : F32s w adx capx xs := hx
    have hnil : adx = none → capx = 0 := hnil
    have hxl : xs.length ≤ 1048576 := hxl
    obtain ⟨n, hN⟩ : ∃ n, n = xs.length := ⟨_, rfl⟩
    rw [← hN] at hxl ⊢
    have K := Lib.hid (fun W (hb : Below w.heap.size w W) => impl_copyTensorT W r c adx capx xs (hx.below hb) hnil n hN.symm hxl)
    have RB := Lib.hid (BoxN.alloc2 w (.cells #[.int .i64 0, .int .i64 a, .int .i64 b', .float .f32 q, .int .i64 r, .int .i64 c, .slice adx n capx] 74) #[.int .i64 0, .int .i64 0, .slice none 0 0] 37)
    have B := Lib.hid (below2 w (.cells #[.int .i64 0, .int .i64 a, .int .i64 b', .float .f32 q, .int .i64 r, .int .i64 c, .slice adx n capx] 74) (.cells #[.int .i64 0, .int .i64 0, .slice none 0 0] 37))
    clear hx hnil hu hV hok hs hf hN hst
    go_enter Tryz.func92, Tryz.ntmps92
    go_wp2_with fail
    refine (K.out _ B.out).mono ?_
    rintro e w' ⟨va, vc, zs, rfl, RO, RM, hb⟩
    obtain ⟨rl, r0, r1, r2, rf⟩ := (RB.out.below hb).three
    have hbw := bthen B.out hb
    have hz := hb.size
    simp at hz
    have hfin := setCs_repF (g := w.heap.size + 1) (lo' := w.heap.size) (i := 0) RO.out (by simp) (by simp; omega) (Nat.le_refl _) [.int .i64 r, .int .i64 c, .slice va n vc]
    have hbf := setCs_below hbw (g := w.heap.size + 1) (by omega) 0 [.int .i64 r, .int .i64 c, .slice va n vc]
    have HF := Lib.hid hfin; have HBF := Lib.hid hbf
    clear hfin hbf hbw hb
    go_wp2
    try simp only [Exit.inBlock, Exit.then]
    refine bodyPost_ret (v := .agg #[.int .i64 r, .int .i64 c, .slice va n vc]) (by simp [results, Tryz.results92, go_sem, r0, r1, r2]) rfl (ten_of rfl HF RM.out HBF.out)
  · have hst : stepV V o.toOpP = valV o.k (vGet V o.a) (vGet V o.b) (cn .f32 o.num) := by unfold stepV; rw [if_neg h0]
    obtain ⟨s, hs⟩ := hs h0
    have hk10 := fitsB_in hf
    have ha := fitsB_args hf h0
    obtain ⟨A, hA⟩ : ∃ A : Nat, o.a = A := ⟨o.a.toNat, by have := ha.1.1; omega⟩
    obtain ⟨B, hB⟩ : ∃ B : Nat, o.b = B := ⟨o.b.toNat, by have := ha.2.1.1; omega⟩
    have hAi : A < i := by have := ha.1.2; rw [show o.toOpP.a = o.a from rfl, hA] at this; omega
    have hBi : B < i := by have := ha.2.1.2; rw [show o.toOpP.b = o.b from rfl, hB] at this; omega
    obtain ⟨tv, htv⟩ := getElem?_lt (show A < us.length by omega)
    obtain ⟨tw, htw⟩ := getElem?_lt (show B < us.length by omega)
    rw [hA, hB, vGet_map hV htv, vGet_map hV htw] at hs hst
    have okv : okT tv.toTenP.can := hok _ (by rw [← hV]; exact List.mem_map_of_mem (List.mem_of_getElem? htv))
    have okw : okT tw.toTenP.can := hok _ (by rw [← hV]; exact List.mem_map_of_mem (List.mem_of_getElem? htw))
    rw [hst]
    obtain ⟨b, off, rfl, hbl, ⟨p0, p1, p2⟩, hxv⟩ := ten_spot hu htv
    obtain ⟨b2, off2, eq2, _, ⟨q0, q1, q2⟩, hxw⟩ := ten_spot hu htw
    cases eq2
    obtain ⟨⟨kk, a, b', q, r, c, xs⟩, adx, capx⟩ := o
    have hA : a = A := hA
    have hB : b' = B := hB
    subst hA hB
    obtain ⟨⟨rv0, cv0, xv⟩, av, kv⟩ := tv
    obtain ⟨⟨rw0, cw0, xw⟩, aw, kw⟩ := tw
    obtain ⟨rv, cv, e1, e2, hrv, hcv, hlv⟩ := okv.nat
    obtain ⟨rw', cw, e3, e4, hrw, hcw, hlw⟩ := okw.nat
    have e1 : rv0 = rv := e1
    have e2 : cv0 = cv := e2
    have e3 : rw0 = rw' := e3
    have e4 : cw0 = cw := e4
    subst e1 e2 e3 e4
    have hlv : (xv.map (cn .f32)).length = rv * cv := hlv
    have hlw : (xw.map (cn .f32)).length = rw' * cw := hlw
    have hk10 : 0 ≤ kk ∧ kk ≤ 10 := hk10
    have h0 : ¬ kk = 0 := h0
    have hs : shapeOf kk (((rv : Nat) : Int), ((cv : Nat) : Int)) (((rw' : Nat) : Int), ((cw : Nat) : Int)) = some s := hs
    show Calls Tryz.prog 92 #[.agg #[.int .i64 kk, .int .i64 A, .int .i64 B, .float .f32 q, .int .i64 r, .int .i64 c, .slice adx xs.length capx], .slice (some ⟨b, off, none⟩) i cap] w (TenPost (valV kk ⟨rv, cv, xv.map (cn .f32)⟩ ⟨rw', cw, xw.map (cn .f32)⟩ (cn .f32 q)).r (valV kk ⟨rv, cv, xv.map (cn .f32)⟩ ⟨rw', cw, xw.map (cn .f32)⟩ (cn .f32 q)).c (valV kk ⟨rv, cv, xv.map (cn .f32)⟩ ⟨rw', cw, xw.map (cn .f32)⟩ (cn .f32 q)).xs.length (valV kk ⟨rv, cv, xv.map (cn .f32)⟩ ⟨rw', cw, xw.map (cn .f32)⟩ (cn .f32 q)).xs w)
    rw [List.length_map] at hlv hlw
    simp only at p0 p1 p2 q0 q1 q2 hxv hxw
    obtain ⟨n1, hn1⟩ : ∃ n, n = xv.length := ⟨_, rfl⟩
    obtain ⟨n2, hn2⟩ : ∃ n, n = xw.length := ⟨_, rfl⟩
    rw [← hn1] at hlv p2
    rw [← hn2] at hlw q2
    obtain ⟨nx, hnx⟩ : ∃ n, n = xs.length := ⟨_, rfl⟩
    rw [← hnx]
    have hn256 : n1 ≤ 256 := by rw [hlv]; exact Nat.mul_le_mul hrv.2 hcv.2
    have HXV := Lib.hid hxv; have HXW := Lib.hid hxw; have HN1 := Lib.hid hn1; have HN2 := Lib.hid hn2; have HLV := Lib.hid hlv; have HLW := Lib.hid hlw; have HSH := Lib.hid hs
    have HRV := Lib.hid hrv; have HCV := Lib.hid hcv; have HRW := Lib.hid hrw; have HCW := Lib.hid hcw
    clear hxv hxw hn1 hn2 hlv hlw hnx hst htv htw okv okw hV hok hu hi hf hs hx hnil hxl ha hrv hcv hrw hcw
    have RB := Lib.hid (BoxN.alloc2 w (.cells #[.int .i64 kk, .int .i64 A, .int .i64 B, .float .f32 q, .int .i64 r, .int .i64 c, .slice adx nx capx] 74) #[.int .i64 0, .int .i64 0, .slice none 0 0] 37)
    have OB := Lib.hid ((BoxN.alloc w #[.int .i64 kk, .int .i64 A, .int .i64 B, .float .f32 q, .int .i64 r, .int .i64 c, .slice adx nx capx] 74).below (below1 _ (.cells #[.int .i64 0, .int .i64 0, .slice none 0 0] 37)))
    have B0 := Lib.hid (below2 w (.cells #[.int .i64 kk, .int .i64 A, .int .i64 B, .float .f32 q, .int .i64 r, .int .i64 c, .slice adx nx capx] 74) (.cells #[.int .i64 0, .int .i64 0, .slice none 0 0] 37))
    have HP := Lib.hid (And.intro p0 (And.intro p1 (And.intro p2 (And.intro q0 (And.intro q1 q2)))))
    clear p0 p1 p2 q0 q1 q2
    have hk0' : (kk == 0) = false := by simpa using h0
    go_enter Tryz.func92, Tryz.ntmps92
    go_upto_region 3 with fail
    obtain ⟨W1, hW1⟩ : ∃ W, W = ((w.alloc (.cells #[.int .i64 kk, .int .i64 A, .int .i64 B, .float .f32 q, .int .i64 r, .int .i64 c, .slice adx nx capx] 74)).alloc (.cells #[.int .i64 0, .int .i64 0, .slice none 0 0] 37)) := ⟨_, rfl⟩
    have hz1 : W1.heap.size = w.heap.size + 1 + 1 := by rw [hW1]; simp
    rw [← hW1] at RB OB B0 ⊢
    obtain ⟨-, x0, x1, x2, x3, x4, x5, x6, xf⟩ := OB.out.seven
    have c0 : W1.cell? ⟨b, off + A * 3, none⟩ = some (.int .i64 rv) := (B0.out.cell (p := ⟨b, off + A * 3, none⟩) hbl).trans HP.out.1
    have c1 : W1.cell? ⟨b, off + A * 3 + 1, none⟩ = some (.int .i64 cv) := (B0.out.cell (p := ⟨b, off + A * 3 + 1, none⟩) hbl).trans HP.out.2.1
    have c2 : W1.cell? ⟨b, off + A * 3 + 2, none⟩ = some (.slice av n1 kv) := (B0.out.cell (p := ⟨b, off + A * 3 + 2, none⟩) hbl).trans HP.out.2.2.1
    have d0 : W1.cell? ⟨b, off + B * 3, none⟩ = some (.int .i64 rw') := (B0.out.cell (p := ⟨b, off + B * 3, none⟩) hbl).trans HP.out.2.2.2.1
    have d1 : W1.cell? ⟨b, off + B * 3 + 1, none⟩ = some (.int .i64 cw) := (B0.out.cell (p := ⟨b, off + B * 3 + 1, none⟩) hbl).trans HP.out.2.2.2.2.1
    have d2 : W1.cell? ⟨b, off + B * 3 + 2, none⟩ = some (.slice aw n2 kw) := (B0.out.cell (p := ⟨b, off + B * 3 + 2, none⟩) hbl).trans HP.out.2.2.2.2.2
    have hbl1 : b < W1.heap.size := by omega
    have HZ1 := Lib.hid hz1
    clear HP hW1 x0 x3 x4 x5 x6 xf hz1
    go_cut [5, 6] (fun p7 p8 wx => ∃ g7 g8 : Nat, p7 = .pointer (some ⟨g7, 0, none⟩) ∧ p8 = .pointer (some ⟨g8, 0, none⟩) ∧ Hid (BoxN wx g7 [.int .i64 rv, .int .i64 cv, .slice av n1 kv] ∧ BoxN wx g8 [.int .i64 rw', .int .i64 cw, .slice aw n2 kw] ∧ Below W1.heap.size W1 wx))
    case first =>
      go_region_held3 (fun w' => (w'.cell? ⟨w.heap.size, 1, none⟩ = some (.int .i64 A) ∧ w'.cell? ⟨w.heap.size, 2, none⟩ = some (.int .i64 B)) ∧ (w'.cell? ⟨b, off + A * 3, none⟩ = some (.int .i64 rv) ∧ w'.cell? ⟨b, off + A * 3 + 1, none⟩ = some (.int .i64 cv) ∧ w'.cell? ⟨b, off + A * 3 + 2, none⟩ = some (.slice av n1 kv)) ∧ (w'.cell? ⟨b, off + B * 3, none⟩ = some (.int .i64 rw') ∧ w'.cell? ⟨b, off + B * 3 + 1, none⟩ = some (.int .i64 cw) ∧ w'.cell? ⟨b, off + B * 3 + 2, none⟩ = some (.slice aw n2 kw))) (go_keep) (first | fail)
      all_goals (try go_wp2_with fail)
      all_goals go_meet
      · exact ⟨_, _, rfl, rfl, Lib.hid ⟨((BoxN.alloc W1 #[.int .i64 rv, .int .i64 cv, .slice av n1 kv] 37).below (below1 _ _)).below (Below.drew (Below.refl _ _)), (BoxN.alloc2 W1 _ #[.int .i64 rw', .int .i64 cw, .slice aw n2 kw] 37).below (Below.drew (Below.refl _ _)), Below.drew (below2 _ _ _)⟩⟩
      · exact ⟨_, _, rfl, rfl, Lib.hid ⟨(BoxN.alloc2 W1 _ #[.int .i64 rv, .int .i64 cv, .slice av n1 kv] 37).below (Below.drew (Below.refl _ _)), ((BoxN.alloc W1 #[.int .i64 rw', .int .i64 cw, .slice aw n2 kw] 37).below (below1 _ _)).below (Below.drew (Below.refl _ _)), Below.drew (below2 _ _ _)⟩⟩
    case rest =>
      obtain ⟨g7, g8, rfl, rfl, HC⟩ := hcut
      obtain ⟨-, x0, x1, x2, x3, x4, x5, x6, xf⟩ := (OB.out.below HC.out.2.2).seven
      obtain ⟨-, y0, y1, y2, yf⟩ := HC.out.1.three
      obtain ⟨-, z0, z1, z2, zf⟩ := HC.out.2.1.three
      have RB2 := Lib.hid (RB.out.below HC.out.2.2)
      have BC := Lib.hid (bthen B0.out HC.out.2.2)
      have hzc : w.heap.size + 1 + 1 ≤ wc.heap.size := by have := HC.out.2.2.size; have := HZ1.out; omega
      have FV := Lib.hid (fun W (hb : Below wc.heap.size wc W) => HXV.out.below (bthen BC.out hb)); have FW := Lib.hid (fun W (hb : Below wc.heap.size wc W) => HXW.out.below (bthen BC.out hb))
      clear c0 c1 c2 d0 d1 d2 HXV HXW HC OB RB B0 x1 x2 x4 x5 x6 xf yf zf hbl hbl1
      have h1k : 1 ≤ kk := by omega
      rcases (by omega : kk = 1 ∨ kk = 2 ∨ kk = 3 ∨ kk = 4 ∨ kk = 5 ∨ kk = 6 ∨ kk = 7 ∨ kk = 8 ∨ kk = 9 ∨ kk = 10) with rfl | rfl | rfl | rfl | rfl | rfl | rfl | rfl | rfl | rfl
      · as_aux_lemma =>
          have HVV : Hid (valV 1 ⟨rv, cv, (xv.map (cn .f32))⟩ ⟨rw', cw, (xw.map (cn .f32))⟩ (cn .f32 q) = ⟨rv, cv, tenE .add (xv.map (cn .f32)) (xw.map (cn .f32)) n1⟩) := Lib.hid (by simp [valV, ← HN1.out])
          have HVL : Hid ((valV 1 ⟨rv, cv, (xv.map (cn .f32))⟩ ⟨rw', cw, (xw.map (cn .f32))⟩ (cn .f32 q)).xs.length = n1) := Lib.hid (by rw [HVV.out]; exact listOf_length _ _)
          have HVX : Hid ((valV 1 ⟨rv, cv, (xv.map (cn .f32))⟩ ⟨rw', cw, (xw.map (cn .f32))⟩ (cn .f32 q)).xs = tenE .add (xv.map (cn .f32)) (xw.map (cn .f32)) n1) := Lib.hid (by rw [HVV.out])
          have HVR : Hid ((valV 1 ⟨rv, cv, (xv.map (cn .f32))⟩ ⟨rw', cw, (xw.map (cn .f32))⟩ (cn .f32 q)).r = rv ∧ (valV 1 ⟨rv, cv, (xv.map (cn .f32))⟩ ⟨rw', cw, (xw.map (cn .f32))⟩ (cn .f32 q)).c = cv) := Lib.hid (by rw [HVV.out]; exact ⟨rfl, rfl⟩)
          have hsh : rv = rw' ∧ cv = cw := by have := HSH.out; simp [shapeOf] at this; omega
          obtain ⟨rfl, rfl⟩ := hsh
          have hnn : n1 = n2 := by rw [HLV.out, HLW.out]
          subst hnn
          go_wp2_with fail
          refine (impl_addTensors _ rv cv rv cv av aw kv kw n1 xv xw (FV.out _ (Below.refl _ _)) (FW.out _ (Below.refl _ _)) HN1.out.symm HN2.out.symm hn256).mono ?_
          rintro e w' ⟨va, vc, zs, rfl, RO, RM, hb⟩
          obtain ⟨rl, r0, r1, r2, rf⟩ := (RB2.out.below hb).three
          have hbw := bthen BC.out hb
          have hz := hb.size
          have hfin := setCs_repF (g := w.heap.size + 1) (lo' := w.heap.size) (i := 0) RO.out (by omega) (by omega) (Nat.le_refl _) [.int .i64 rv, .int .i64 cv, .slice va n1 vc]
          have hbf := setCs_below hbw (g := w.heap.size + 1) (by omega) 0 [.int .i64 rv, .int .i64 cv, .slice va n1 vc]
          have HF := Lib.hid hfin; have HBF := Lib.hid hbf
          clear hfin hbf hbw hb x0 x3 y0 y1 y2 z0 z1 z2 FV FW RB2 BC
          have hl9 := RO.out.len
          have hP : zs.map (cn .f32) = tenE .add (xv.map (cn .f32)) (xw.map (cn .f32)) n1 := RM.out
          go_wp2
          try simp only [Exit.inBlock, Exit.then]
          refine bodyPost_ret (v := .agg #[.int .i64 rv, .int .i64 cv, .slice va n1 vc]) (by simp [results, Tryz.results92, go_sem, r0, r1, r2]) rfl (ten_of (by rw [HVR.out.1, HVR.out.2, HVL.out]; try rfl) (by rw [HVL.out]; exact HF) (by rw [HVX.out]; exact hP) HBF.out)
      · as_aux_lemma =>
          have HVV : Hid (valV 2 ⟨rv, cv, (xv.map (cn .f32))⟩ ⟨rw', cw, (xw.map (cn .f32))⟩ (cn .f32 q) = ⟨rv, cv, rowE .add (xv.map (cn .f32)) (xw.map (cn .f32)) cv n1⟩) := Lib.hid (by simp [valV, ← HN1.out])
          have HVL : Hid ((valV 2 ⟨rv, cv, (xv.map (cn .f32))⟩ ⟨rw', cw, (xw.map (cn .f32))⟩ (cn .f32 q)).xs.length = n1) := Lib.hid (by rw [HVV.out]; exact listOf_length _ _)
          have HVX : Hid ((valV 2 ⟨rv, cv, (xv.map (cn .f32))⟩ ⟨rw', cw, (xw.map (cn .f32))⟩ (cn .f32 q)).xs = rowE .add (xv.map (cn .f32)) (xw.map (cn .f32)) cv n1) := Lib.hid (by rw [HVV.out])
          have HVR : Hid ((valV 2 ⟨rv, cv, (xv.map (cn .f32))⟩ ⟨rw', cw, (xw.map (cn .f32))⟩ (cn .f32 q)).r = rv ∧ (valV 2 ⟨rv, cv, (xv.map (cn .f32))⟩ ⟨rw', cw, (xw.map (cn .f32))⟩ (cn .f32 q)).c = cv) := Lib.hid (by rw [HVV.out]; exact ⟨rfl, rfl⟩)
          have hsh : rw' = 1 ∧ cv = cw := by have := HSH.out; simp [shapeOf] at this; omega
          obtain ⟨rfl, rfl⟩ := hsh
          have hnn : cv = n2 := by rw [HLW.out, Nat.one_mul]
          subst hnn
          go_wp2_with fail
          refine (impl_addRow _ rv cv av aw kv kw n1 xv xw (FV.out _ (Below.refl _ _)) (FW.out _ (Below.refl _ _)) HN1.out.symm HN2.out.symm hn256 HCV.out.1 HCV.out.2).mono ?_
          rintro e w' ⟨va, vc, zs, rfl, RO, RM, hb⟩
          obtain ⟨rl, r0, r1, r2, rf⟩ := (RB2.out.below hb).three
          have hbw := bthen BC.out hb
          have hz := hb.size
          have hfin := setCs_repF (g := w.heap.size + 1) (lo' := w.heap.size) (i := 0) RO.out (by omega) (by omega) (Nat.le_refl _) [.int .i64 rv, .int .i64 cv, .slice va n1 vc]
          have hbf := setCs_below hbw (g := w.heap.size + 1) (by omega) 0 [.int .i64 rv, .int .i64 cv, .slice va n1 vc]
          have HF := Lib.hid hfin; have HBF := Lib.hid hbf
          clear hfin hbf hbw hb x0 x3 y0 y1 y2 z0 z1 z2 FV FW RB2 BC
          have hl9 := RO.out.len
          have hP : zs.map (cn .f32) = rowE .add (xv.map (cn .f32)) (xw.map (cn .f32)) cv n1 := RM.out
          go_wp2
          try simp only [Exit.inBlock, Exit.then]
          refine bodyPost_ret (v := .agg #[.int .i64 rv, .int .i64 cv, .slice va n1 vc]) (by simp [results, Tryz.results92, go_sem, r0, r1, r2]) rfl (ten_of (by rw [HVR.out.1, HVR.out.2, HVL.out]; try rfl) (by rw [HVL.out]; exact HF) (by rw [HVX.out]; exact hP) HBF.out)
      · as_aux_lemma =>
          have HVV : Hid (valV 3 ⟨rv, cv, (xv.map (cn .f32))⟩ ⟨rw', cw, (xw.map (cn .f32))⟩ (cn .f32 q) = ⟨rv, cv, tenE .mul (xv.map (cn .f32)) (xw.map (cn .f32)) n1⟩) := Lib.hid (by simp [valV, ← HN1.out])
          have HVL : Hid ((valV 3 ⟨rv, cv, (xv.map (cn .f32))⟩ ⟨rw', cw, (xw.map (cn .f32))⟩ (cn .f32 q)).xs.length = n1) := Lib.hid (by rw [HVV.out]; exact listOf_length _ _)
          have HVX : Hid ((valV 3 ⟨rv, cv, (xv.map (cn .f32))⟩ ⟨rw', cw, (xw.map (cn .f32))⟩ (cn .f32 q)).xs = tenE .mul (xv.map (cn .f32)) (xw.map (cn .f32)) n1) := Lib.hid (by rw [HVV.out])
          have HVR : Hid ((valV 3 ⟨rv, cv, (xv.map (cn .f32))⟩ ⟨rw', cw, (xw.map (cn .f32))⟩ (cn .f32 q)).r = rv ∧ (valV 3 ⟨rv, cv, (xv.map (cn .f32))⟩ ⟨rw', cw, (xw.map (cn .f32))⟩ (cn .f32 q)).c = cv) := Lib.hid (by rw [HVV.out]; exact ⟨rfl, rfl⟩)
          have hsh : rv = rw' ∧ cv = cw := by have := HSH.out; simp [shapeOf] at this; omega
          obtain ⟨rfl, rfl⟩ := hsh
          have hnn : n1 = n2 := by rw [HLV.out, HLW.out]
          subst hnn
          go_wp2_with fail
          refine (impl_mulTensors _ rv cv rv cv av aw kv kw n1 xv xw (FV.out _ (Below.refl _ _)) (FW.out _ (Below.refl _ _)) HN1.out.symm HN2.out.symm hn256).mono ?_
          rintro e w' ⟨va, vc, zs, rfl, RO, RM, hb⟩
          obtain ⟨rl, r0, r1, r2, rf⟩ := (RB2.out.below hb).three
          have hbw := bthen BC.out hb
          have hz := hb.size
          have hfin := setCs_repF (g := w.heap.size + 1) (lo' := w.heap.size) (i := 0) RO.out (by omega) (by omega) (Nat.le_refl _) [.int .i64 rv, .int .i64 cv, .slice va n1 vc]
          have hbf := setCs_below hbw (g := w.heap.size + 1) (by omega) 0 [.int .i64 rv, .int .i64 cv, .slice va n1 vc]
          have HF := Lib.hid hfin; have HBF := Lib.hid hbf
          clear hfin hbf hbw hb x0 x3 y0 y1 y2 z0 z1 z2 FV FW RB2 BC
          have hl9 := RO.out.len
          have hP : zs.map (cn .f32) = tenE .mul (xv.map (cn .f32)) (xw.map (cn .f32)) n1 := RM.out
          go_wp2
          try simp only [Exit.inBlock, Exit.then]
          refine bodyPost_ret (v := .agg #[.int .i64 rv, .int .i64 cv, .slice va n1 vc]) (by simp [results, Tryz.results92, go_sem, r0, r1, r2]) rfl (ten_of (by rw [HVR.out.1, HVR.out.2, HVL.out]; try rfl) (by rw [HVL.out]; exact HF) (by rw [HVX.out]; exact hP) HBF.out)
      · as_aux_lemma =>
          have HVV : Hid (valV 4 ⟨rv, cv, (xv.map (cn .f32))⟩ ⟨rw', cw, (xw.map (cn .f32))⟩ (cn .f32 q) = ⟨rv, cv, rowE .mul (xv.map (cn .f32)) (xw.map (cn .f32)) cv n1⟩) := Lib.hid (by simp [valV, ← HN1.out])
          have HVL : Hid ((valV 4 ⟨rv, cv, (xv.map (cn .f32))⟩ ⟨rw', cw, (xw.map (cn .f32))⟩ (cn .f32 q)).xs.length = n1) := Lib.hid (by rw [HVV.out]; exact listOf_length _ _)
          have HVX : Hid ((valV 4 ⟨rv, cv, (xv.map (cn .f32))⟩ ⟨rw', cw, (xw.map (cn .f32))⟩ (cn .f32 q)).xs = rowE .mul (xv.map (cn .f32)) (xw.map (cn .f32)) cv n1) := Lib.hid (by rw [HVV.out])
          have HVR : Hid ((valV 4 ⟨rv, cv, (xv.map (cn .f32))⟩ ⟨rw', cw, (xw.map (cn .f32))⟩ (cn .f32 q)).r = rv ∧ (valV 4 ⟨rv, cv, (xv.map (cn .f32))⟩ ⟨rw', cw, (xw.map (cn .f32))⟩ (cn .f32 q)).c = cv) := Lib.hid (by rw [HVV.out]; exact ⟨rfl, rfl⟩)
          have hsh : rw' = 1 ∧ cv = cw := by have := HSH.out; simp [shapeOf] at this; omega
          obtain ⟨rfl, rfl⟩ := hsh
          have hnn : cv = n2 := by rw [HLW.out, Nat.one_mul]
          subst hnn
          go_wp2_with fail
          refine (impl_mulRow _ rv cv av aw kv kw n1 xv xw (FV.out _ (Below.refl _ _)) (FW.out _ (Below.refl _ _)) HN1.out.symm HN2.out.symm hn256 HCV.out.1 HCV.out.2).mono ?_
          rintro e w' ⟨va, vc, zs, rfl, RO, RM, hb⟩
          obtain ⟨rl, r0, r1, r2, rf⟩ := (RB2.out.below hb).three
          have hbw := bthen BC.out hb
          have hz := hb.size
          have hfin := setCs_repF (g := w.heap.size + 1) (lo' := w.heap.size) (i := 0) RO.out (by omega) (by omega) (Nat.le_refl _) [.int .i64 rv, .int .i64 cv, .slice va n1 vc]
          have hbf := setCs_below hbw (g := w.heap.size + 1) (by omega) 0 [.int .i64 rv, .int .i64 cv, .slice va n1 vc]
          have HF := Lib.hid hfin; have HBF := Lib.hid hbf
          clear hfin hbf hbw hb x0 x3 y0 y1 y2 z0 z1 z2 FV FW RB2 BC
          have hl9 := RO.out.len
          have hP : zs.map (cn .f32) = rowE .mul (xv.map (cn .f32)) (xw.map (cn .f32)) cv n1 := RM.out
          go_wp2
          try simp only [Exit.inBlock, Exit.then]
          refine bodyPost_ret (v := .agg #[.int .i64 rv, .int .i64 cv, .slice va n1 vc]) (by simp [results, Tryz.results92, go_sem, r0, r1, r2]) rfl (ten_of (by rw [HVR.out.1, HVR.out.2, HVL.out]; try rfl) (by rw [HVL.out]; exact HF) (by rw [HVX.out]; exact hP) HBF.out)
      · as_aux_lemma =>
          have HVV : Hid (valV 5 ⟨rv, cv, (xv.map (cn .f32))⟩ ⟨rw', cw, (xw.map (cn .f32))⟩ (cn .f32 q) = ⟨rv, cv, scaE (xv.map (cn .f32)) (cn .f32 q) n1⟩) := Lib.hid (by simp [valV, ← HN1.out])
          have HVL : Hid ((valV 5 ⟨rv, cv, (xv.map (cn .f32))⟩ ⟨rw', cw, (xw.map (cn .f32))⟩ (cn .f32 q)).xs.length = n1) := Lib.hid (by rw [HVV.out]; exact listOf_length _ _)
          have HVX : Hid ((valV 5 ⟨rv, cv, (xv.map (cn .f32))⟩ ⟨rw', cw, (xw.map (cn .f32))⟩ (cn .f32 q)).xs = scaE (xv.map (cn .f32)) (cn .f32 q) n1) := Lib.hid (by rw [HVV.out])
          have HVR : Hid ((valV 5 ⟨rv, cv, (xv.map (cn .f32))⟩ ⟨rw', cw, (xw.map (cn .f32))⟩ (cn .f32 q)).r = rv ∧ (valV 5 ⟨rv, cv, (xv.map (cn .f32))⟩ ⟨rw', cw, (xw.map (cn .f32))⟩ (cn .f32 q)).c = cv) := Lib.hid (by rw [HVV.out]; exact ⟨rfl, rfl⟩)
          go_wp2_with fail
          refine (impl_scaleTensorT _ rv cv av kv xv (FV.out _ (Below.refl _ _)) n1 HN1.out.symm hn256 q).mono ?_
          rintro e w' ⟨va, vc, zs, rfl, RO, RM, hb⟩
          obtain ⟨rl, r0, r1, r2, rf⟩ := (RB2.out.below hb).three
          have hbw := bthen BC.out hb
          have hz := hb.size
          have hfin := setCs_repF (g := w.heap.size + 1) (lo' := w.heap.size) (i := 0) RO.out (by omega) (by omega) (Nat.le_refl _) [.int .i64 rv, .int .i64 cv, .slice va n1 vc]
          have hbf := setCs_below hbw (g := w.heap.size + 1) (by omega) 0 [.int .i64 rv, .int .i64 cv, .slice va n1 vc]
          have HF := Lib.hid hfin; have HBF := Lib.hid hbf
          clear hfin hbf hbw hb x0 x3 y0 y1 y2 z0 z1 z2 FV FW RB2 BC
          have hl9 := RO.out.len
          have hP : zs.map (cn .f32) = scaE (xv.map (cn .f32)) (cn .f32 q) n1 := RM.out
          go_wp2
          try simp only [Exit.inBlock, Exit.then]
          refine bodyPost_ret (v := .agg #[.int .i64 rv, .int .i64 cv, .slice va n1 vc]) (by simp [results, Tryz.results92, go_sem, r0, r1, r2]) rfl (ten_of (by rw [HVR.out.1, HVR.out.2, HVL.out]; try rfl) (by rw [HVL.out]; exact HF) (by rw [HVX.out]; exact hP) HBF.out)
      · as_aux_lemma =>
          have HVV : Hid (valV 6 ⟨rv, cv, (xv.map (cn .f32))⟩ ⟨rw', cw, (xw.map (cn .f32))⟩ (cn .f32 q) = ⟨rv, cw, matE (xv.map (cn .f32)) (xw.map (cn .f32)) cv cw (rv * cw)⟩) := Lib.hid (by simp [valV, ← HN1.out])
          have HVL : Hid ((valV 6 ⟨rv, cv, (xv.map (cn .f32))⟩ ⟨rw', cw, (xw.map (cn .f32))⟩ (cn .f32 q)).xs.length = (rv * cw)) := Lib.hid (by rw [HVV.out]; exact listOf_length _ _)
          have HVX : Hid ((valV 6 ⟨rv, cv, (xv.map (cn .f32))⟩ ⟨rw', cw, (xw.map (cn .f32))⟩ (cn .f32 q)).xs = matE (xv.map (cn .f32)) (xw.map (cn .f32)) cv cw (rv * cw)) := Lib.hid (by rw [HVV.out])
          have HVR : Hid ((valV 6 ⟨rv, cv, (xv.map (cn .f32))⟩ ⟨rw', cw, (xw.map (cn .f32))⟩ (cn .f32 q)).r = rv ∧ (valV 6 ⟨rv, cv, (xv.map (cn .f32))⟩ ⟨rw', cw, (xw.map (cn .f32))⟩ (cn .f32 q)).c = cw) := Lib.hid (by rw [HVV.out]; exact ⟨rfl, rfl⟩)
          have hsh : cv = rw' := by have := HSH.out; simp [shapeOf] at this; omega
          subst hsh
          go_wp2_with fail
          refine (impl_matMul _ rv cv cw av aw kv kw n1 n2 xv xw (FV.out _ (Below.refl _ _)) (FW.out _ (Below.refl _ _)) HN1.out.symm HN2.out.symm HRV.out.1 HRV.out.2 HCV.out.1 HCV.out.2 HCW.out.1 HCW.out.2 HLV.out HLW.out).mono ?_
          rintro e w' ⟨va, vc, zs, rfl, RO, RM, hb⟩
          obtain ⟨rl, r0, r1, r2, rf⟩ := (RB2.out.below hb).three
          have hbw := bthen BC.out hb
          have hz := hb.size
          have hfin := setCs_repF (g := w.heap.size + 1) (lo' := w.heap.size) (i := 0) RO.out (by omega) (by omega) (Nat.le_refl _) [.int .i64 rv, .int .i64 cw, .slice va (rv * cw) vc]
          have hbf := setCs_below hbw (g := w.heap.size + 1) (by omega) 0 [.int .i64 rv, .int .i64 cw, .slice va (rv * cw) vc]
          have HF := Lib.hid hfin; have HBF := Lib.hid hbf
          clear hfin hbf hbw hb x0 x3 y0 y1 y2 z0 z1 z2 FV FW RB2 BC
          have hl9 := RO.out.len
          have hP : zs.map (cn .f32) = matE (xv.map (cn .f32)) (xw.map (cn .f32)) cv cw (rv * cw) := RM.out
          go_wp2
          try simp only [Exit.inBlock, Exit.then]
          refine bodyPost_ret (v := .agg #[.int .i64 rv, .int .i64 cw, .slice va (rv * cw) vc]) (by simp [results, Tryz.results92, go_sem, r0, r1, r2]) rfl (ten_of (by rw [HVR.out.1, HVR.out.2, HVL.out]; try rfl) (by rw [HVL.out]; exact HF) (by rw [HVX.out]; exact hP) HBF.out)
      · as_aux_lemma =>
          have HVV : Hid (valV 7 ⟨rv, cv, (xv.map (cn .f32))⟩ ⟨rw', cw, (xw.map (cn .f32))⟩ (cn .f32 q) = ⟨cv, rv, turnE (xv.map (cn .f32)) rv cv n1⟩) := Lib.hid (by simp [valV, ← HN1.out])
          have HVL : Hid ((valV 7 ⟨rv, cv, (xv.map (cn .f32))⟩ ⟨rw', cw, (xw.map (cn .f32))⟩ (cn .f32 q)).xs.length = n1) := Lib.hid (by rw [HVV.out]; exact listOf_length _ _)
          have HVX : Hid ((valV 7 ⟨rv, cv, (xv.map (cn .f32))⟩ ⟨rw', cw, (xw.map (cn .f32))⟩ (cn .f32 q)).xs = turnE (xv.map (cn .f32)) rv cv n1) := Lib.hid (by rw [HVV.out])
          have HVR : Hid ((valV 7 ⟨rv, cv, (xv.map (cn .f32))⟩ ⟨rw', cw, (xw.map (cn .f32))⟩ (cn .f32 q)).r = cv ∧ (valV 7 ⟨rv, cv, (xv.map (cn .f32))⟩ ⟨rw', cw, (xw.map (cn .f32))⟩ (cn .f32 q)).c = rv) := Lib.hid (by rw [HVV.out]; exact ⟨rfl, rfl⟩)
          go_wp2_with fail
          refine (impl_transposed _ rv cv av kv n1 xv (FV.out _ (Below.refl _ _)) HN1.out.symm HRV.out.1 HRV.out.2 HCV.out.1 HCV.out.2 HLV.out).mono ?_
          rintro e w' ⟨va, vc, zs, rfl, RO, RM, hb⟩
          obtain ⟨rl, r0, r1, r2, rf⟩ := (RB2.out.below hb).three
          have hbw := bthen BC.out hb
          have hz := hb.size
          have hfin := setCs_repF (g := w.heap.size + 1) (lo' := w.heap.size) (i := 0) RO.out (by omega) (by omega) (Nat.le_refl _) [.int .i64 cv, .int .i64 rv, .slice va n1 vc]
          have hbf := setCs_below hbw (g := w.heap.size + 1) (by omega) 0 [.int .i64 cv, .int .i64 rv, .slice va n1 vc]
          have HF := Lib.hid hfin; have HBF := Lib.hid hbf
          clear hfin hbf hbw hb x0 x3 y0 y1 y2 z0 z1 z2 FV FW RB2 BC
          have hl9 := RO.out.len
          have hP : zs.map (cn .f32) = turnE (xv.map (cn .f32)) rv cv n1 := RM.out
          go_wp2
          try simp only [Exit.inBlock, Exit.then]
          refine bodyPost_ret (v := .agg #[.int .i64 cv, .int .i64 rv, .slice va n1 vc]) (by simp [results, Tryz.results92, go_sem, r0, r1, r2]) rfl (ten_of (by rw [HVR.out.1, HVR.out.2, HVL.out]; try rfl) (by rw [HVL.out]; exact HF) (by rw [HVX.out]; exact hP) HBF.out)
      · as_aux_lemma =>
          have HVV : Hid (valV 8 ⟨rv, cv, (xv.map (cn .f32))⟩ ⟨rw', cw, (xw.map (cn .f32))⟩ (cn .f32 q) = ⟨rv, cv, relE (xv.map (cn .f32)) n1⟩) := Lib.hid (by simp [valV, ← HN1.out])
          have HVL : Hid ((valV 8 ⟨rv, cv, (xv.map (cn .f32))⟩ ⟨rw', cw, (xw.map (cn .f32))⟩ (cn .f32 q)).xs.length = n1) := Lib.hid (by rw [HVV.out]; exact listOf_length _ _)
          have HVX : Hid ((valV 8 ⟨rv, cv, (xv.map (cn .f32))⟩ ⟨rw', cw, (xw.map (cn .f32))⟩ (cn .f32 q)).xs = relE (xv.map (cn .f32)) n1) := Lib.hid (by rw [HVV.out])
          have HVR : Hid ((valV 8 ⟨rv, cv, (xv.map (cn .f32))⟩ ⟨rw', cw, (xw.map (cn .f32))⟩ (cn .f32 q)).r = rv ∧ (valV 8 ⟨rv, cv, (xv.map (cn .f32))⟩ ⟨rw', cw, (xw.map (cn .f32))⟩ (cn .f32 q)).c = cv) := Lib.hid (by rw [HVV.out]; exact ⟨rfl, rfl⟩)
          go_wp2_with fail
          refine (impl_reluTensorT _ rv cv av kv xv (FV.out _ (Below.refl _ _)) n1 HN1.out.symm hn256).mono ?_
          rintro e w' ⟨va, vc, zs, rfl, RO, RM, hb⟩
          obtain ⟨rl, r0, r1, r2, rf⟩ := (RB2.out.below hb).three
          have hbw := bthen BC.out hb
          have hz := hb.size
          have hfin := setCs_repF (g := w.heap.size + 1) (lo' := w.heap.size) (i := 0) RO.out (by omega) (by omega) (Nat.le_refl _) [.int .i64 rv, .int .i64 cv, .slice va n1 vc]
          have hbf := setCs_below hbw (g := w.heap.size + 1) (by omega) 0 [.int .i64 rv, .int .i64 cv, .slice va n1 vc]
          have HF := Lib.hid hfin; have HBF := Lib.hid hbf
          clear hfin hbf hbw hb x0 x3 y0 y1 y2 z0 z1 z2 FV FW RB2 BC
          have hl9 := RO.out.len
          have hP : zs.map (cn .f32) = relE (xv.map (cn .f32)) n1 := RM.out
          go_wp2
          try simp only [Exit.inBlock, Exit.then]
          refine bodyPost_ret (v := .agg #[.int .i64 rv, .int .i64 cv, .slice va n1 vc]) (by simp [results, Tryz.results92, go_sem, r0, r1, r2]) rfl (ten_of (by rw [HVR.out.1, HVR.out.2, HVL.out]; try rfl) (by rw [HVL.out]; exact HF) (by rw [HVX.out]; exact hP) HBF.out)
      · as_aux_lemma =>
          have HVV : Hid (valV 9 ⟨rv, cv, (xv.map (cn .f32))⟩ ⟨rw', cw, (xw.map (cn .f32))⟩ (cn .f32 q) = ⟨rv, cv, tenE .mul (xv.map (cn .f32)) (xv.map (cn .f32)) n1⟩) := Lib.hid (by simp [valV, ← HN1.out])
          have HVL : Hid ((valV 9 ⟨rv, cv, (xv.map (cn .f32))⟩ ⟨rw', cw, (xw.map (cn .f32))⟩ (cn .f32 q)).xs.length = n1) := Lib.hid (by rw [HVV.out]; exact listOf_length _ _)
          have HVX : Hid ((valV 9 ⟨rv, cv, (xv.map (cn .f32))⟩ ⟨rw', cw, (xw.map (cn .f32))⟩ (cn .f32 q)).xs = tenE .mul (xv.map (cn .f32)) (xv.map (cn .f32)) n1) := Lib.hid (by rw [HVV.out])
          have HVR : Hid ((valV 9 ⟨rv, cv, (xv.map (cn .f32))⟩ ⟨rw', cw, (xw.map (cn .f32))⟩ (cn .f32 q)).r = rv ∧ (valV 9 ⟨rv, cv, (xv.map (cn .f32))⟩ ⟨rw', cw, (xw.map (cn .f32))⟩ (cn .f32 q)).c = cv) := Lib.hid (by rw [HVV.out]; exact ⟨rfl, rfl⟩)
          go_wp2_with fail
          refine (impl_mulTensors _ rv cv rv cv av av kv kv n1 xv xv (FV.out _ (Below.refl _ _)) (FV.out _ (Below.refl _ _)) HN1.out.symm HN1.out.symm hn256).mono ?_
          rintro e w' ⟨va, vc, zs, rfl, RO, RM, hb⟩
          obtain ⟨rl, r0, r1, r2, rf⟩ := (RB2.out.below hb).three
          have hbw := bthen BC.out hb
          have hz := hb.size
          have hfin := setCs_repF (g := w.heap.size + 1) (lo' := w.heap.size) (i := 0) RO.out (by omega) (by omega) (Nat.le_refl _) [.int .i64 rv, .int .i64 cv, .slice va n1 vc]
          have hbf := setCs_below hbw (g := w.heap.size + 1) (by omega) 0 [.int .i64 rv, .int .i64 cv, .slice va n1 vc]
          have HF := Lib.hid hfin; have HBF := Lib.hid hbf
          clear hfin hbf hbw hb x0 x3 y0 y1 y2 z0 z1 z2 FV FW RB2 BC
          have hl9 := RO.out.len
          have hP : zs.map (cn .f32) = tenE .mul (xv.map (cn .f32)) (xv.map (cn .f32)) n1 := RM.out
          go_wp2
          try simp only [Exit.inBlock, Exit.then]
          refine bodyPost_ret (v := .agg #[.int .i64 rv, .int .i64 cv, .slice va n1 vc]) (by simp [results, Tryz.results92, go_sem, r0, r1, r2]) rfl (ten_of (by rw [HVR.out.1, HVR.out.2, HVL.out]; try rfl) (by rw [HVL.out]; exact HF) (by rw [HVX.out]; exact hP) HBF.out)
      · as_aux_lemma =>
          have HVV : Hid (valV 10 ⟨rv, cv, (xv.map (cn .f32))⟩ ⟨rw', cw, (xw.map (cn .f32))⟩ (cn .f32 q) = ⟨1, 1, filE (sumS (xv.map (cn .f32)) n1) 1⟩) := Lib.hid (by simp [valV, ← HN1.out])
          have HVL : Hid ((valV 10 ⟨rv, cv, (xv.map (cn .f32))⟩ ⟨rw', cw, (xw.map (cn .f32))⟩ (cn .f32 q)).xs.length = 1) := Lib.hid (by rw [HVV.out]; exact listOf_length _ _)
          have HVX : Hid ((valV 10 ⟨rv, cv, (xv.map (cn .f32))⟩ ⟨rw', cw, (xw.map (cn .f32))⟩ (cn .f32 q)).xs = filE (sumS (xv.map (cn .f32)) n1) 1) := Lib.hid (by rw [HVV.out])
          have HVR : Hid ((valV 10 ⟨rv, cv, (xv.map (cn .f32))⟩ ⟨rw', cw, (xw.map (cn .f32))⟩ (cn .f32 q)).r = 1 ∧ (valV 10 ⟨rv, cv, (xv.map (cn .f32))⟩ ⟨rw', cw, (xw.map (cn .f32))⟩ (cn .f32 q)).c = 1) := Lib.hid (by rw [HVV.out]; exact ⟨rfl, rfl⟩)
          have KSU := Lib.hid (impl_sumOf wc av kv xv (FV.out _ (Below.refl _ _)))
          rw [← HN1.out] at KSU
          go_wp2_with fail
          refine KSU.out.mono ?_
          rintro e w2 ⟨su, rfl, HSU, hd⟩
          have HDB := Lib.hid hd.below
          have HZ2 : wc.heap.size ≤ w2.heap.size := hd.below.size
          clear hd
          go_wp2_with fail
          refine (impl_filled _ 1 1 su HSU.out.2 (by decide) (by decide) (by decide) (by decide)).mono ?_
          rintro e w' ⟨va, vc, zs, rfl, RO, RM, hb⟩
          have RB2 := Lib.hid (RB2.out.below HDB.out)
          have BC := Lib.hid (bthen BC.out HDB.out)
          have RM : Hid (zs.map (cn .f32) = filE (sumS (xv.map (cn .f32)) n1) 1) := Lib.hid (by rw [RM.out, HSU.out.1])
          obtain ⟨rl, r0, r1, r2, rf⟩ := (RB2.out.below hb).three
          have hbw := bthen BC.out hb
          have hz := hb.size
          have hfin := setCs_repF (g := w.heap.size + 1) (lo' := w.heap.size) (i := 0) RO.out (by omega) (by omega) (Nat.le_refl _) [.int .i64 1, .int .i64 1, .slice va 1 vc]
          have hbf := setCs_below hbw (g := w.heap.size + 1) (by omega) 0 [.int .i64 1, .int .i64 1, .slice va 1 vc]
          have HF := Lib.hid hfin; have HBF := Lib.hid hbf
          clear hfin hbf hbw hb x0 x3 y0 y1 y2 z0 z1 z2 FV FW RB2 BC
          have hl9 := RO.out.len
          have hP : zs.map (cn .f32) = filE (sumS (xv.map (cn .f32)) n1) 1 := RM.out
          go_wp2
          try simp only [Exit.inBlock, Exit.then]
          refine bodyPost_ret (v := .agg #[.int .i64 1, .int .i64 1, .slice va 1 vc]) (by simp [results, Tryz.results92, go_sem, r0, r1, r2]) rfl (ten_of (by rw [HVR.out.1, HVR.out.2, HVL.out]; try rfl) (by rw [HVL.out]; exact HF) (by rw [HVX.out]; exact hP) HBF.out)
end Go.Proofs.YtpadlmidojpbeaaGreat
/- x -/
namespace Go.Proofs.YtpadlmidojpbeaaGreat
open Go Go.RowKit
theorem vGet_sh {V : List TenP} {S : List Sh} (h : V.map TenP.sh = S) {i : Int} (h0 : 0 ≤ i) (h1 : i ≤ V.length - 1) : (vGet V i).sh = shGet S i := by
  have hi : i.toNat < V.length := by omega
  have e1 : vGet V i = V[i.toNat] := by unfold vGet; rw [List.getD_eq_getElem?_getD, List.getElem?_eq_getElem hi]; rfl
  rw [e1]
  unfold shGet
  rw [← h, List.getD_eq_getElem?_getD, List.getElem?_map, List.getElem?_eq_getElem hi]; rfl
theorem valid_round {P : List OpP} {S : List Sh} (h : shapesP P = some S) {k : Nat} {o : OpP} (ho : P[k]? = some o) :
    (valsN P k).length = k ∧ (∀ t ∈ valsN P k, okT t) ∧ fitsB k o = true ∧ (o.k ≠ 0 → ∃ s, shapeOf o.k (vGet (valsN P k) o.a).sh (vGet (valsN P k) o.b).sh = some s) := by
  have hk := (List.getElem?_eq_some_iff.1 ho).1
  have hp := shapesP_some h
  have hf := valid_fit h ho
  cases hSk : shapesN P k with
  | none =>
    have := shapesN_none hSk (Nat.le_of_lt hk) (Nat.le_refl _)
    rw [hp.2.1] at this; cases this
  | some Sk =>
    have h1 := valsN_ok (Nat.le_of_lt hk) hSk
    have hl := shapesN_length (Nat.le_of_lt hk) hSk
    have hVl : (valsN P k).length = k := by have := congrArg List.length h1.1; rw [List.length_map, hl] at this; exact this
    refine ⟨hVl, h1.2, hf, fun h0 => ?_⟩
    cases hS1 : shapesN P (k + 1) with
    | none =>
      have := shapesN_none hS1 hk (Nat.le_refl _)
      rw [hp.2.1] at this; cases this
    | some S1 =>
      rw [shapesN_succ ho, hSk] at hS1
      have hst : stepSh Sk o = some S1 := hS1
      unfold stepSh at hst
      rw [hl, if_pos hf, if_neg h0] at hst
      obtain ⟨s, hs, _⟩ := Option.map_eq_some_iff.1 hst
      have ha := fitsB_args hf h0
      refine ⟨s, ?_⟩
      rw [vGet_sh h1.1 ha.1.1 (by rw [hVl]; exact ha.1.2), vGet_sh h1.1 ha.2.1.1 (by rw [hVl]; exact ha.2.1.2)]
      exact hs
theorem ts_snoc {w W w9 : World} {B k cap : Nat} {ad : Option Addr} {S : List Ten} {s : Ten} {v' : Value} {o : Obj} (h : OwnR tenR w B w.heap.size ad k cap S) (hB : B ≤ w.heap.size) (hb : Below w.heap.size w W) {hi1 : Nat} (hr : RepF W w.heap.size hi1 s.ad s.xs.length s.cap s.xs) (hh : hi1 ≤ W.heap.size) (hh0 : w.heap.size ≤ hi1)
    (ho : w9.ownsRow B 37 3 v' (k + 1) (S.flatMap tenR.cells ++ s.cells)) (hg : (W.alloc o).grownBy w9 (Value.slice ad k cap).ownBlock) (hat : v'.ownBlock = (Value.slice ad k cap).ownBlock ∨ v'.ownBlock = some (W.heap.size + 1)) :
    ∃ ad' cap', v' = .slice ad' (k + 1) cap' ∧ OwnR tenR w9 B w9.heap.size ad' (k + 1) cap' (S ++ [s]) :=
  h.snoc hB hb hr.okF hr.ownRow hh hh0 ho hg hat
theorem ts_row {w W : World} {B k cap : Nat} {ad : Option Addr} {S : List Ten} (h : OwnR tenR w B w.heap.size ad k cap S) (hb : Below w.heap.size w W) : W.ownsRow B 37 3 (.slice ad k cap) k (S.flatMap tenR.cells) := (h.below hb).own.head.own
set_option maxHeartbeats 8000000 in
set_option maxRecDepth 100000 in
theorem impl_runTape (w : World) (ad : Option Addr) (cap : Nat) (os : List OpD) (h : SeeR opR w ad cap os) (hno : nilOK os) (S : List Sh) (hS : shapesP (os.map OpD.toOpP) = some S) (hi2 : ∀ o ∈ os, o.xs.length ≤ 1048576) :
    Calls Tryz.prog 69 #[.slice ad os.length cap] w fun e w' => ∃ ad' cap' us, e = .returned (.slice ad' os.length cap') ∧ Hid (OwnR tenR w' w.heap.size w'.heap.size ad' os.length cap' us ∧ us.map (fun t => t.toTenP.can) = valsP (os.map OpD.toOpP)) ∧ Below w.heap.size w w' := by
  obtain ⟨i0, hi0, hz0, hzs, hz2⟩ := info_parts info_ten
  have hp := shapesP_some hS
  rw [List.length_map] at hp
  obtain ⟨n, hN⟩ : ∃ n, n = os.length := ⟨_, rfl⟩
  rw [← hN] at hp ⊢
  have hn1 := hp.1.1; have hn2 := hp.1.2
  have HN := Lib.hid hN; have HI2 := Lib.hid hi2; have H := Lib.hid h; have HNO := Lib.hid hno; have HS := Lib.hid hS
  clear hN hi2 h hno hS hp
  go_enter Tryz.func69, Tryz.ntmps69
  go_wp2
  go_loopw [3, 9] (fun v i wt => ∃ k : Nat, i = .int .i64 k ∧ k ≤ n ∧ ∃ (ad' : Option Addr) (cap' : Nat) (us : List Ten), v = .slice ad' k cap' ∧ Hid (OwnR tenR wt w.heap.size wt.heap.size ad' k cap' us) ∧ Hid (us.map (fun t => t.toTenP.can) = valsN (os.map OpD.toOpP) k) ∧ Hid (Below w.heap.size w wt)) (fun _ i _ => n - (intOf i).toNat)
  case atStart => exact ⟨0, rfl, Nat.zero_le _, _, _, [], rfl, Lib.hid (OwnR.nil1 tenR w), Lib.hid rfl, Lib.hid (below1 _ _)⟩
  case round =>
    obtain ⟨k, rfl, hk, ad', cap', us, rfl, HR, HE, HB⟩ := hrel
    by_cases hlt : k < n
    · obtain ⟨o, ho⟩ := getElem?_lt (show k < os.length by rw [← HN.out]; exact hlt)
      have hop : (os.map OpD.toOpP)[k]? = some o.toOpP := by rw [List.getElem?_map, ho]; rfl
      obtain ⟨vl, vok, vf, vs⟩ := valid_round HS.out hop
      obtain ⟨b, off, rfl, hbl, ⟨p0, p1, p2, p3, p4, p5, p6⟩, hf, hok⟩ := op_spot (H.out.below HB.out) ho
      have hm := List.mem_of_getElem? ho
      have hul : us.length = k := HR.out.len
      have K := Lib.hid (fun W (hb : Below wr.heap.size wr W) => impl_value W o ad' cap' us (HR.out.see.below hb) _ HE.out vok k hul (by omega) vf vs (hf.below hb) (HNO.out o hm) (HI2.out o hm))
      have HST : Hid (valsN (os.map OpD.toOpP) (k + 1) = valsN (os.map OpD.toOpP) k ++ [stepV (valsN (os.map OpD.toOpP) k) o.toOpP]) := Lib.hid (valsN_succ hop)
      obtain ⟨T, hT⟩ : ∃ T, T = stepV (valsN (os.map OpD.toOpP) k) o.toOpP := ⟨_, rfl⟩
      rw [← hT] at K HST
      unfold OpD.val at K
      obtain ⟨m, hM⟩ : ∃ m, m = o.xs.length := ⟨_, rfl⟩
      rw [← hM] at K p6
      have HRW := Lib.hid (fun W hb => ts_row HR.out (W := W) hb)
      have hb1 := below1 wr (.cells #[.int .i64 o.k, .int .i64 o.a, .int .i64 o.b, .float .f32 o.num, .int .i64 o.r, .int .i64 o.c, .slice o.ad m o.cap] 74)
      have B1 := Lib.hid hb1
      clear hM ho hop vl vok vf vs hf hok hm hul hT hb1
      go_wp2_with fail
      refine (K.out _ B1.out).mono ?_
      rintro e w2 ⟨va, vc, zs, rfl, RO, RM, hb2⟩
      have HB2 := Lib.hid (bthen B1.out hb2)
      have hz2' := hb2.size
      simp at hz2'
      clear hb2 p0 p1 p2 p3 p4 p5 p6
      obtain ⟨tl, htl⟩ : ∃ tl, tl = T.xs.length := ⟨_, rfl⟩
      rw [← htl] at RO ⊢
      have HTL := Lib.hid htl
      clear htl
      go_wp2_with (at_builtin; refine wp_appA rfl _ _ 109 rfl w.heap.size i0 (.agg #[.int .i64 0, .int .i64 0, .slice none 0 0]) 3 40 Tryz.underlying109 hi0 hz0 hzs hz2 rfl (by decide) rfl (by intro u hu; simp at hu; rcases hu with rfl | rfl | rfl <;> rfl) _ _ _ rfl (HRW.out _ HB2.out) (by go_simp) ?c3 ?c4 ?c5 ?_)
      case c3 => unfold maxLen; omega
      case c4 => omega
      case c5 => exact Nat.le_trans HB.out.size HB2.out.size
      intro v' w9 ho9 hg9 hat9 hb9 hs9
      have hzl := RO.out.len
      obtain ⟨ad9, cap9, rfl, hown9⟩ := ts_snoc (s := ⟨⟨T.r, T.c, zs⟩, va, vc⟩) HR.out HB.out.size HB2.out (hi1 := w2.heap.size) (by show RepF w2 wr.heap.size w2.heap.size va zs.length vc zs; rw [hzl]; exact RO.out.bounds (by simp) (Nat.le_refl _)) (Nat.le_refl _) HB2.out.size (by show w9.ownsRow _ _ _ _ _ (_ ++ [Value.int .i64 T.r, .int .i64 T.c, .slice va zs.length vc]); rw [hzl]; exact ho9) hg9 (by simpa using hat9)
      have HO9 := Lib.hid hown9; have HB9 := Lib.hid ((HB.out.trans (HB2.out.mono HB.out.size)).trans hb9)
      have HE9 : Hid ((us ++ [(⟨⟨T.r, T.c, zs⟩, va, vc⟩ : Ten)]).map (fun t => t.toTenP.can) = valsN (os.map OpD.toOpP) (k + 1)) := Lib.hid (by
        rw [List.map_append, HE.out, HST.out]
        congr 1
        show [TenP.can ⟨T.r, T.c, zs⟩] = [T]
        unfold TenP.can
        rw [RM.out])
      clear ho9 hg9 hat9 hb9 hown9 HR HE HB HB2 HRW hzl
      go_wp2
      go_roundw
      case rel => exact ⟨k + 1, by go_num, hlt, _, _, _, rfl, HO9, HE9, HB9⟩
      case measure => simp [intOf]; omega
    · have hkn : k = n := by omega
      subst hkn
      have HA := Lib.hid (And.intro HR.out (show us.map (fun t => t.toTenP.can) = valsP (os.map OpD.toOpP) by rw [HE.out]; unfold valsP; rw [List.length_map, ← HN.out]))
      go_wp2
      go_ret
      exact ⟨_, _, us, rfl, HA, HB.out⟩
end Go.Proofs.YtpadlmidojpbeaaGreat
