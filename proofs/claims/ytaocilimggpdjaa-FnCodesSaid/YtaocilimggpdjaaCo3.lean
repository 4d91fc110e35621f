/- What the codes of numbers are, as lists. No condition. -/
import Derived.Test.YtaocilimggpdjaaCod
import Derived.Test.YtaocilimggpdjaaIdx
namespace Go.Proofs.Ytaocilimggpdjaa
open Go Go.RowKit Ieee
set_option linter.unusedVariables false
set_option linter.unusedSimpArgs false
theorem order_zero_pos {sp : Nat} (h0 : 0 < sp) (hs : sp < single.infRung) : FloatKind.f32.format.order sp 0 = some .gt := by
  have := order_pos single hs (show 0 < single.infRung by decide +kernel)
  show single.order sp 0 = _
  rw [this]
  congr 1
  exact Nat.compare_eq_gt.2 h0
set_option maxRecDepth 100000 in
set_option maxHeartbeats 1000000 in
theorem impl_coded (w : World) (a1 : Option Addr) (c1 : Nat) (xs : List Nat) (h1 : F32s w a1 c1 xs) (sp : Nat) (hs : sp < 4294967296) (hsp : spreadOk sp = true) (hfew : fewFin xs = true) (G : Nat) (caps : Array Value) (Wf : Nat → Nat → Nat) (hG : ∀ (args : Array Value) (W : World), (callFunc G args).run Try.prog W = .ok (.enter G args) W)
    (hW : ∀ i q, isN .f64 q = false → isN .f64 (Wf i q) = false ∧ Wf i q < 18446744073709551616)
    (hcl : ∀ W i q, i < xs.length → isN .f64 q = false → Below w.heap.size w W → Calls Try.prog G (#[.int .i64 (i : Nat), .float .f64 q] ++ caps) W fun e w' => e = .returned (.float .f64 (Wf i q)) ∧ Dr W w') :
    Calls Try.prog 114 #[.slice a1 xs.length c1, .float .f32 sp, .func (.func G) #[] caps] w fun e w' => ∃ (v : Value), e = .returned v ∧
      w'.ownsRow w.heap.size 2 1 v xs.length ((lsI xs.length (codeE Wf xs sp)).map (Value.int .i64)) ∧ Below w.heap.size w w' := by
  obtain ⟨i0, hi, hz0, hz1, hz2⟩ := info_parts info_i64
  obtain ⟨hn, hfin⟩ := few_of hfew
  have hbd := fun i hi => codeE_bd hW hs hsp h1.lt hfin (i := i) hi
  have hq := fun i (hi : i < xs.length) (h0 : 0 < sp) => quo_at (x := xs.getD i 0) (h1.lt _ (by rw [List.getD_eq_getElem?_getD, List.getElem?_eq_getElem hi]; exact List.getElem_mem hi)) (hfin _ (by rw [List.getD_eq_getElem?_getD, List.getElem?_eq_getElem hi]; exact List.getElem_mem hi)) hs hsp h0
  have hpos := spread_pos hs hsp
  obtain ⟨n, e1⟩ : ∃ n, n = xs.length := ⟨_, rfl⟩
  rw [← e1] at hn ⊢
  have E1 := Lib.hid e1; have HBD := Lib.hid hbd; have HQ := Lib.hid hq; have HW := Lib.hid hW; have HCL := Lib.hid hcl; have H1 := Lib.hid h1; have HPOS := Lib.hid hpos
  clear e1 hbd hq hW hcl h1 hpos hfin hfew hsp hs
  go_enter Try.func114, Try.ntmps114
  go_wp2
  go_loopw [7, 14] (fun v i wr => ∃ k : Nat, i = .int .i64 k ∧ k ≤ n ∧ wr.ownsRow w.heap.size 2 1 v k ((lsI k (codeE Wf xs sp)).map (Value.int .i64)) ∧ Below w.heap.size w wr ∧ w.heap.size ≤ wr.heap.size) (fun _ i _ => n - (intOf i).toNat)
  case atStart => exact ⟨0, rfl, Nat.zero_le _, World.ownsRow_made _ _ _ (Nat.le_refl _) (Nat.zero_le _) rfl, below1 _ _, by simp⟩
  case round =>
    obtain ⟨k, rfl, hk, hown, hb, hbs⟩ := hrel
    by_cases hlt : k < n
    · have hkx : k < xs.length := by rw [← E1.out]; exact hlt
      have h1 := H1.out.below hb
      obtain ⟨b, off, rfl, _, hq⟩ := h1.spot (k := k) hkx
      have hc := hq k hkx
      obtain ⟨x1, px⟩ : ∃ x, x = xs.getD k 0 := ⟨_, rfl⟩
      rw [← px] at hc
      have PX := Lib.hid px
      clear px hq h1
      by_cases h0 : sp = 0
      · subst h0
        have hz : FloatKind.f32.format.order 0 0 = some .eq := by decide +kernel
        have hcd : codeE Wf xs 0 k = 0 := by unfold codeE; rw [if_pos rfl]
        have hcv := fun w => run_convert_float_int (P := Try.prog) w 41 2 .f64 .i64 0 0 (by rw [Try.underlying41]; rfl) Try.underlying2 (by decide +kernel)
        have HCD := Lib.hid hcd; clear hcd
        go_wp2_with (at_builtin; refine wp_app rfl _ _ 61 rfl w.heap.size i0 (.int .i64 0) 1 8 Try.underlying61 hi hz0 hz1 hz2 rfl (by decide) rfl (one_cell _ rfl) _ _ _ rfl hown rfl ?c3 ?c4 ?c5 ?_)
        case c3 => unfold maxLen; omega
        case c4 => omega
        case c5 => exact hbs
        intro v' w9 hown1 hb1 hbs1
        have hb1 := hb.trans hb1
        clear hown hb hbs hcv
        go_wp2
        go_roundw
        case rel => exact ⟨k + 1, by go_num, hlt, by rw [lsI_succ, HCD.out]; simpa using hown1, hb1, hbs1⟩
        case measure => simp [intOf]; omega
      · have h0 : 0 < sp := by omega
        have hz := order_zero_pos h0 HPOS.out
        obtain ⟨hq1, hq2, hq3⟩ := HQ.out k hkx h0
        rw [← PX.out] at hq1 hq2 hq3
        obtain ⟨m, M, m1, m2, m3, m4, m5⟩ := clamp_ok (HW.out k _ hq2).1 (HW.out k _ hq2).2
        have hcd : codeE Wf xs sp k = clampI (Wf k (qE x1 sp)) := by unfold codeE; rw [if_neg (by omega), PX.out]
        have hcv := fun w => run_convert_float_int (P := Try.prog) w 41 2 .f64 .i64 M _ (by rw [Try.underlying41]; rfl) Try.underlying2 m3
        have hmin := fun w A T => run_min_f (P := Try.prog) w A T .f64 _ _ m m1
        have hmax := fun w A T => run_max_f (P := Try.prog) w A T .f64 _ _ M m2
        unfold c127 at hmin
        unfold cm127 at hmax
        rw [← hcd] at hcv
        have HCD := Lib.hid hcd; have HQ2 := Lib.hid hq2; clear hcd hq2 m1 m2 m3 m4 m5 hq3
        go_wp2_with fail
        refine (HCL.out _ k (qE x1 sp) hkx HQ2.out ?_).mono ?_
        · exact below_drewN hb _
        rintro e w2 ⟨rfl, q, rfl⟩
        go_wp2_with (at_builtin; refine wp_app rfl _ _ 61 rfl w.heap.size i0 (.int .i64 0) 1 8 Try.underlying61 hi hz0 hz1 hz2 rfl (by decide) rfl (one_cell _ rfl) _ _ _ rfl hown rfl ?c3 ?c4 ?c5 ?_)
        case c3 => unfold maxLen; omega
        case c4 => omega
        case c5 => exact hbs
        intro v' w9 hown1 hb1 hbs1
        have hb1 := (below_drewN hb _).trans hb1
        clear hown hb hbs hcv hmin hmax hq1
        go_wp2
        go_roundw
        case rel => exact ⟨k + 1, by go_num, hlt, by rw [lsI_succ]; simpa using hown1, hb1, hbs1⟩
        case measure => simp [intOf]; omega
    · have hkn : k = n := by omega
      subst hkn
      go_wp2
      go_ret
      exact ⟨_, rfl, hown, hb⟩
def cdOk (xs : List Nat) (sp : Nat) : Bool := fewFin xs && spreadOk sp

theorem impl_CodesOf_no (w : World) (a1 : Option Addr) (c1 : Nat) (xs : List Nat) (h1 : F32s w a1 c1 xs) (sp : Nat) (hsp : sp < 4294967296) (hok : cdOk xs sp = false) :
    Calls Try.prog 52 #[.slice a1 xs.length c1, .float .f32 sp] w fun e w' => e = .returned (.tuple #[.slice none 0 0, .bool false]) ∧ Below w.heap.size w w' := by
  have k1 := fun W hW => impl_areFew W a1 c1 xs hW
  have k2 := fun W => impl_isSpread sp hsp W
  unfold cdOk at hok
  have J1 := Lib.hid h1; have C1 := Lib.hid k1; have C2 := Lib.hid k2
  clear k1 k2
  cases b1 : fewFin xs
  · clear hok
    go_enter Try.func52, Try.ntmps52
    go_wp2_with fail
    refine (C1.out _ J1.out).mono ?_
    rintro e w1 ⟨rfl, q, rfl⟩
    go_wp2
    go_ret2
    exact ⟨rfl, below_drewN (Below.refl _ _) _⟩
  · have b2 : spreadOk sp = false := by simpa [b1] using hok
    clear hok
    go_enter Try.func52, Try.ntmps52
    go_wp2_with fail
    refine (C1.out _ J1.out).mono ?_
    rintro e w1 ⟨rfl, q, rfl⟩
    go_wp2_with fail
    refine (C2.out _).mono ?_
    rintro e w1 ⟨rfl, ⟨q, rfl⟩⟩
    go_wp2
    go_ret2
    exact ⟨rfl, below_drewN (Below.refl _ _) _⟩
theorem impl_CodesOf_yes (w : World) (a1 : Option Addr) (c1 : Nat) (xs : List Nat) (h1 : F32s w a1 c1 xs) (sp : Nat) (hsp : sp < 4294967296) (hok : cdOk xs sp = true) :
    Calls Try.prog 52 #[.slice a1 xs.length c1, .float .f32 sp] w fun e w' => ∃ (v : Value), e = .returned (.tuple #[v, .bool true]) ∧
      w'.ownsRow w.heap.size 2 1 v xs.length ((lsI xs.length (codeE WOf xs sp)).map (Value.int .i64)) ∧ Below w.heap.size w w' := by
  have k1 := fun W hW => impl_areFew W a1 c1 xs hW
  have k2 := fun W => impl_isSpread sp hsp W
  simp only [cdOk, Bool.and_eq_true] at hok
  obtain ⟨b1, b2⟩ := hok
  have k3 := fun W hW => impl_coded W a1 c1 xs hW sp hsp b2 b1 115 #[] WOf (fun args W => by kernel_rfl) (fun i q hq => WOf_ok hq) (fun W' i q _ hq _ => impl_CodesOf_1 i q hq W')
  have J1 := Lib.hid h1; have C1 := Lib.hid k1; have C2 := Lib.hid k2; have C3 := Lib.hid k3
  clear k1 k2 k3
  go_enter Try.func52, Try.ntmps52
  go_wp2_with fail
  refine (C1.out _ J1.out).mono ?_
  rintro e w1 ⟨rfl, q, rfl⟩
  go_wp2_with fail
  refine (C2.out _).mono ?_
  rintro e w1 ⟨rfl, ⟨q, rfl⟩⟩
  go_wp2_with fail
  refine (C3.out _ (J1.out.below (below_drewN (Below.refl _ _) _))).mono ?_
  rintro e w1 ⟨v, rfl, ho, hb⟩
  go_wp2
  go_ret2
  exact ⟨_, rfl, ho, (below_drewN (Below.refl _ _) _).trans hb⟩
theorem codes_rep {w w' : World} {xs : List Nat} {sp : Nat} {Wf : Nat → Nat → Nat} {e : Ending} {v : Value} (hok : cdOk xs sp = true) (hsp : sp < 4294967296) (hx : ∀ x ∈ xs, x < 4294967296) (hW : ∀ i q, isN .f64 q = false → isN .f64 (Wf i q) = false ∧ Wf i q < 18446744073709551616)
    (he : e = .returned (.tuple #[v, .bool true])) (ho : w'.ownsRow w.heap.size 2 1 v xs.length ((lsI xs.length (codeE Wf xs sp)).map (Value.int .i64))) (hb : Below w.heap.size w w') :
    ∃ (ad : Option Addr) (n cap : Nat) (ys : List Int) (b : Bool), e = .returned (.tuple #[.slice ad n cap, .bool b]) ∧
      RepI w' w.heap.size w'.heap.size ad n cap ys ∧ ys = (if true = true then lsI xs.length (codeE Wf xs sp) else []) ∧ n ≤ 1048576 ∧ b = true ∧ Below w.heap.size w w' := by
  simp only [cdOk, Bool.and_eq_true] at hok
  obtain ⟨hn, hfin⟩ := few_of hok.1
  have hwf : ∀ x ∈ lsI xs.length (codeE Wf xs sp), (Lit.int .i64 x).wf = true := by
    intro x hx'
    obtain ⟨i, hi, rfl⟩ := List.mem_map.1 hx'
    exact wf_code (codeE_bd hW hsp hok.2 hx hfin (List.mem_range.1 hi))
  obtain ⟨ad, cap, rfl, hr⟩ := RepI.of_owns ho hwf
  exact ⟨ad, _, cap, _, true, he, hr, by rw [if_pos rfl], by omega, rfl, hb⟩
theorem impl_CodesOf (w : World) (a1 : Option Addr) (c1 : Nat) (xs : List Nat) (h1 : F32s w a1 c1 xs) (sp : Nat) (hsp : sp < 4294967296) :
    Calls Try.prog 52 #[.slice a1 xs.length c1, .float .f32 sp] w fun e w' => ∃ (ad : Option Addr) (n cap : Nat) (ys : List Int) (b : Bool), e = .returned (.tuple #[.slice ad n cap, .bool b]) ∧
      RepI w' w.heap.size w'.heap.size ad n cap ys ∧ ys = (if cdOk xs sp = true then lsI xs.length (codeE WOf xs sp) else []) ∧ n ≤ 1048576 ∧ b = cdOk xs sp ∧ Below w.heap.size w w' := by
  cases hok : cdOk xs sp
  · exact (impl_CodesOf_no w a1 c1 xs h1 sp hsp hok).mono fun e w' ⟨he, hb⟩ => ⟨none, 0, 0, [], false, he, RepI.nil _ _ _, rfl, by omega, rfl, hb⟩
  · refine (impl_CodesOf_yes w a1 c1 xs h1 sp hsp hok).mono fun e w' ⟨v, he, ho, hb⟩ => ?_
    exact codes_rep hok hsp h1.lt (fun i q hq => WOf_ok hq) he ho hb
end Go.Proofs.Ytaocilimggpdjaa
