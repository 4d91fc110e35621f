/- Joined texts 0. No condition. -/
import Derived.WalkLawsBesides
import Derived.Laws.EntriesVeiled
import Derived.Deep.Draws
import Derived.WalkKit
import Derived.WalkSpells
import Derived.ProofKit
import Derived.OpenShut
import Derived.Below
import Derived.Carry
import Derived.DataElems
import Derived.Lib.SmallJoins
import Derived.Test.YtpadlmidojpbeaaGreatRows
import Derived.StillTail
import Derived.Tactics
import Derived.Tactics2
import Derived.Lib.Hide
set_option linter.unusedVariables false
set_option linter.unusedSimpArgs false
set_option maxRecDepth 100000
set_option maxHeartbeats 64000000
namespace Go.Proofs.YtpadlmidojpbeaaGreat
theorem I {p : Prop} (h : p) : Go.RowKit.Hid p := h
theorem J (n : Nat) : n ≤ n := Nat.le_refl n
theorem O (n : Nat) (w : Go.World) : Go.RowKit.Below n w w := Go.RowKit.Below.refl n w
section
open Go Ieee
def mI:FloatKind→Nat
 | .f32=>2143289344
 | .f64=>9221120237041090560
def eR (k:FloatKind) (x:Nat):Bool:=(k.format.read x).isNaN
def cn (k:FloatKind) (x:Nat):Nat:=if eR k x=true then mI k else x
def dQ (op:BinOp) (k:FloatKind) (x y:Nat):Nat:=(floatBits op k x y).getD (mI k)
def dH (op:BinOp) (k:FloatKind) (x y:Nat) (w:World):Nat:=(floatBits op k x y).getD ((Question.nanBits k x y).cut (w.tape w.drawn (.nanBits k x y)))
def sZ (op:BinOp) (k:FloatKind) (x y:Nat):Nat:=if (floatBits op k x y).isSome then 0 else 1
theorem World.drewN_none (w:World):w.drewN 0=w:=rfl
theorem wY {P:Program} (w:World) (op:BinOp) (t:TypeId) (k:FloatKind) (x y:Nat) (ho:op=.add∨op=.sub∨op=.mul∨op=.quo) :
  (binOp op t (.float k x) (.float k y)).run P w=.ok (.float k (dH op k x y w)) (w.drewN (sZ op k x y)):=by
 cases h:floatBits op k x y with
 | some r=>simp only [dH,sZ,h,Option.getD_some,Option.isSome_some,if_true];exact run_float_arith w op t k x y r h
 | none =>
  simp only [dH,sZ,h,Option.getD_none,Option.isSome_none]
  unfold floatBits at h
  rcases ho with rfl | rfl | rfl | rfl
  all_goals
   simp only at h
   simp [binOp,Op.floatArith,h,choose,Sem.run,Question.forced,World.drewN]
section
variable {P:Program} (w:World) (t:TypeId) (k:FloatKind) (x y:Nat)
@[go_sem] theorem run_fl_add:(binOp .add t (.float k x) (.float k y)).run P w=.ok (.float k (dH .add k x y w)) (w.drewN (sZ .add k x y)):=wY w _ t k x y (by simp)
@[go_sem] theorem run_fl_sub:(binOp .sub t (.float k x) (.float k y)).run P w=.ok (.float k (dH .sub k x y w)) (w.drewN (sZ .sub k x y)):=wY w _ t k x y (by simp)
@[go_sem] theorem run_fl_mul:(binOp .mul t (.float k x) (.float k y)).run P w=.ok (.float k (dH .mul k x y w)) (w.drewN (sZ .mul k x y)):=wY w _ t k x y (by simp)
@[go_sem] theorem run_fl_quo:(binOp .quo t (.float k x) (.float k y)).run P w=.ok (.float k (dH .quo k x y w)) (w.drewN (sZ .quo k x y)):=wY w _ t k x y (by simp)
end
@[go_sem] theorem run_store_float (P:Program) (w:World) (a:Addr) (m:Mode) (k:FloatKind) (n:Nat):(store a (.float k n) m).run P w=stored P w a (.float k n) m:=run_store P w a _ m rfl
/-! what a word reads as -/
theorem Cp (f:Format) (neg:Bool) {r:Nat} (h:r < f.signWeight):f.word neg r / f.signWeight % 2=neg.toNat:=by
 have hp:0 < f.signWeight:=Nat.two_pow_pos _
 unfold Format.word
 cases neg
 ·simp [Nat.div_eq_of_lt h]
 ·simp only [if_true,Bool.toNat_true]
  rw [Nat.add_div_left _ hp,Nat.div_eq_of_lt h]
theorem Cq (f:Format) (neg:Bool) {r:Nat} (h:r < f.signWeight):f.word neg r % f.signWeight=r:=by
 unfold Format.word
 cases neg
 ·simp [Nat.mod_eq_of_lt h]
 ·simp only [if_true]
  rw [Nat.add_mod_left,Nat.mod_eq_of_lt h]
theorem gM (f:Format) (neg:Bool) {r:Nat} (h:r < f.signWeight):f.read (f.word neg r) =
  if r < f.binade then .number neg r f.leastPlace
  else if r < f.infRung then .number neg (f.binade+r % f.binade) (f.leastPlace+(r / f.binade - 1:Nat))
  else if r=f.infRung then .infinity neg
  else .nan neg (r - f.infRung):=by
 unfold Format.read
 simp only [Cp f neg h,Cq f neg h]
 cases neg <;> rfl
theorem iW (f:Format) (neg:Bool) {r:Nat} (h:r≤f.infRung):(f.read (f.word neg r)).isNaN=false:=by
 rw [gM f neg (Nat.lt_of_le_of_lt h f.infRung_lt)]
 split
 ·rfl
 ·split
  ·rfl
  ·rw [if_pos (by omega)];rfl
theorem mJ (f:Format) (neg:Bool) (m:Nat) (p:Int):(f.read (f.nearest neg m p)).isNaN=false:=by
 unfold Format.nearest
 split
 ·exact iW f neg (Nat.zero_le _)
 ·exact iW f neg (Nat.min_le_right ..)
theorem pZ (f:Format) {d:Datum} (h:d.isNaN=false):(f.read (f.write d)).isNaN=false:=by
 cases d with
 | number s m p=>exact mJ f s m p
 | infinity s=>exact iW f s (J _)
 | nan s t=>simp [Datum.isNaN] at h
theorem Ba {a b d:Datum} (h:a.sum b=some d):a.isNaN=false∧b.isNaN=false∧d.isNaN=false:=by
 cases a <;> cases b <;> simp [Datum.sum,Datum.isNaN] at h ⊢
 all_goals first | (obtain ⟨_,h⟩:=h;subst h;rfl) | (subst h;rfl)
theorem wZ (a:Datum):a.opposite.isNaN=a.isNaN:=by cases a <;> rfl
theorem yX {a b d:Datum} (h:a.product b=some d):a.isNaN=false∧b.isNaN=false∧d.isNaN=false:=by
 cases a <;> cases b <;> simp [Datum.product,Datum.isNaN] at h ⊢ <;> first | (obtain ⟨_,h⟩:=h;subst h;rfl) | (subst h;rfl)
theorem xA {n:Nat} {a b d:Datum} (h:a.quotient n b=some d):a.isNaN=false∧b.isNaN=false∧d.isNaN=false:=by
 cases a <;> cases b <;> simp [Datum.quotient,Datum.isNaN] at h ⊢
 all_goals first | (subst h;rfl) | skip
 split at h
 ·split at h
  ·cases h
  ·cases h;rfl
 ·cases h;rfl
theorem gY (f:Format) {o:Option Datum} {r:Nat} (ho:∀d,o=some d→d.isNaN=false) (h:o.map f.write=some r):(f.read r).isNaN=false:=by
 cases o with
 | none=>cases h
 | some d=>cases h;exact pZ f (ho d rfl)
theorem tA {op:BinOp} {k:FloatKind} {x y r:Nat} (h:floatBits op k x y=some r):eR k x=false∧eR k y=false∧eR k r=false:=by
 unfold floatBits at h
 have key:∀(o:Option Datum),o.map k.format.write=some r→∃d,o=some d:=fun o ho=>by cases o with | none=>cases ho | some d=>exact ⟨d,rfl⟩
 split at h
 ·obtain ⟨d,hd⟩:=key _ h;obtain ⟨h1,h2,h3⟩:=Ba hd
  exact ⟨h1,h2,gY _ (fun d' e=>by rw [hd] at e;cases e;exact h3) h⟩
 ·obtain ⟨d,hd⟩:=key _ h;obtain ⟨h1,h2,h3⟩:=Ba hd
  exact ⟨h1,by rw [wZ] at h2;exact h2,gY _ (fun d' e=>by rw [hd] at e;cases e;exact h3) h⟩
 ·obtain ⟨d,hd⟩:=key _ h;obtain ⟨h1,h2,h3⟩:=yX hd
  exact ⟨h1,h2,gY _ (fun d' e=>by rw [hd] at e;cases e;exact h3) h⟩
 ·obtain ⟨d,hd⟩:=key _ h;obtain ⟨h1,h2,h3⟩:=xA hd
  exact ⟨h1,h2,gY _ (fun d' e=>by rw [hd] at e;cases e;exact h3) h⟩
 ·cases h
theorem dR {k:FloatKind} {x:Nat} (h:eR k x=false):cn k x=x:=by simp [cn,h]
theorem lC {k:FloatKind} {x:Nat} (h:eR k x=true):cn k x=mI k:=by simp [cn,h]
theorem qA (k:FloatKind):eR k (mI k)=true:=by cases k <;> decide +kernel
theorem iK (k:FloatKind) (x:Nat):eR k (cn k x)=eR k x:=by
 cases h:eR k x
 ·rw [dR h,h]
 ·rw [lC h,qA]
theorem yY (k:FloatKind) (x:Nat):cn k (cn k x)=cn k x:=by
 cases h:eR k x
 ·rw [dR h,dR h]
 ·rw [lC h,lC (qA k)]
theorem mK {op:BinOp} {k:FloatKind} {x y:Nat} (h:eR k x=true):floatBits op k x y=none:=by
 cases e:floatBits op k x y with
 | none=>rfl
 | some r=>have:=(tA e).1;rw [h] at this;cases this
theorem lZ {op:BinOp} {k:FloatKind} {x y:Nat} (h:eR k y=true):floatBits op k x y=none:=by
 cases e:floatBits op k x y with
 | none=>rfl
 | some r=>have:=(tA e).2.1;rw [h] at this;cases this
theorem Dp (op:BinOp) (k:FloatKind) (x y:Nat):floatBits op k (cn k x) (cn k y)=floatBits op k x y:=by
 cases hx:eR k x
 ·cases hy:eR k y
  ·rw [dR hx,dR hy]
  ·rw [lZ hy,lZ (by rw [iK,hy])]
 ·rw [mK hx,mK (by rw [iK,hx])]
theorem Ec (op:BinOp) (k:FloatKind) (x y:Nat):dQ op k (cn k x) (cn k y)=dQ op k x y:=by unfold dQ;rw [Dp]
theorem qB (f:Format) (hb:f.binade≤f.infRung) (neg:Bool) (r:Nat) (h1:f.infRung < r) (h2:r < f.signWeight):(f.read (f.word neg r)).isNaN=true:=by
 rw [gM f _ h2,if_neg (by omega),if_neg (by omega),if_neg (by omega)];rfl
theorem qC (k:FloatKind) (x y t:Nat):eR k ((Question.nanBits k x y).cut t)=true:=by
 cases k
 ·have h2:=Nat.mod_lt (t / 2) (show 0 < 2 ^ 23 - 1 by omega)
  have e1:single.infRung=0x7f800000:=by decide +kernel
  have e2:single.signWeight=2 ^ 31:=by decide +kernel
  have e3:single.binade=2 ^ 23:=by decide +kernel
  have key:=qB single (by omega) (t % 2 == 1) (0x7f800000+1+(t / 2) % (2 ^ 23 - 1)) (by omega) (by omega)
  have e:single.word (t % 2 == 1) (0x7f800000+1+(t / 2) % (2 ^ 23 - 1))=(Question.nanBits .f32 x y).cut t:=by
   unfold Format.word
   simp only [Question.cut,e2]
   have:=Nat.mod_two_eq_zero_or_one t
   rcases this with h | h <;> simp [h] <;> omega
  rw [e] at key;exact key
 ·have h2:=Nat.mod_lt (t / 2) (show 0 < 2 ^ 52 - 1 by omega)
  have e1:double.infRung=0x7ff0000000000000:=by decide +kernel
  have e2:double.signWeight=2 ^ 63:=by decide +kernel
  have e3:double.binade=2 ^ 52:=by decide +kernel
  have key:=qB double (by omega) (t % 2 == 1) (0x7ff0000000000000+1+(t / 2) % (2 ^ 52 - 1)) (by omega) (by omega)
  have e:double.word (t % 2 == 1) (0x7ff0000000000000+1+(t / 2) % (2 ^ 52 - 1))=(Question.nanBits .f64 x y).cut t:=by
   unfold Format.word
   simp only [Question.cut,e2]
   have:=Nat.mod_two_eq_zero_or_one t
   rcases this with h | h <;> simp [h] <;> omega
  rw [e] at key;exact key
theorem bE (op:BinOp) (k:FloatKind) (x y:Nat) (w:World):cn k (dH op k x y w)=dQ op k (cn k x) (cn k y):=by
 rw [Ec]
 unfold dH dQ
 cases h:floatBits op k x y with
 | none=>exact lC (qC k x y _)
 | some r=>exact dR (tA h).2.2
theorem yZ (k:FloatKind) (x y t:Nat):(Question.nanBits k x y).cut t < 2 ^ k.format.width:=by
 cases k
 ·simp only [Question.cut]
  have h1:=Nat.mod_lt t (show 0 < 2 by omega)
  have h2:=Nat.mod_lt (t / 2) (show 0 < 2 ^ 23 - 1 by omega)
  show _ < 2 ^ 32
  omega
 ·simp only [Question.cut]
  have h1:=Nat.mod_lt t (show 0 < 2 by omega)
  have h2:=Nat.mod_lt (t / 2) (show 0 < 2 ^ 52 - 1 by omega)
  show _ < 2 ^ 64
  omega
theorem bL (op:BinOp) (k:FloatKind) (x y:Nat) (w:World):dH op k x y w < 2 ^ k.format.width:=by
 unfold dH
 cases h:floatBits op k x y with
 | none=>exact yZ k x y _
 | some r =>
  have:=floatBits_wf h
  cases k
  ·show r < 2 ^ 32
   simpa [Lit.wf] using this
  ·show r < 2 ^ 64
   simpa [Lit.wf] using this
/-! comparisons -/
theorem eH {k:FloatKind} {x y:Nat} (h:eR k x=true∨eR k y=true):k.format.order x y=none:=by
 unfold Format.order
 unfold eR at h
 cases hx:k.format.read x <;> cases hy:k.format.read y <;> simp [hx,hy,Datum.isNaN] at h <;> rfl
theorem tC (k:FloatKind) (x y:Nat):k.format.order (cn k x) (cn k y)=k.format.order x y:=by
 cases hx:eR k x
 ·cases hy:eR k y
  ·rw [dR hx,dR hy]
  ·rw [eH (.inr hy),eH (.inr (by rw [iK,hy]))]
 ·rw [eH (.inl hx),eH (.inl (by rw [iK,hx]))]
theorem fY (k:FloatKind) (x:Nat):k.format.order x x=if eR k x=true then none else some .eq:=by
 unfold Format.order eR
 cases h:k.format.read x with
 | nan s t=>rfl
 | infinity s=>simp [Datum.order,Datum.isNaN]
 | number s m p=>simp [Datum.order,Datum.isNaN]
/-! conversions xF the two kinds -/
def iL (src:FloatKind) (b:Nat) (dst:FloatKind) (w:World):Nat :=
 if src=dst then b else
 match src.decode b with
 | .nan _ _=>(Question.nanConv dst b).cut (w.tape w.drawn (.nanConv dst b))
 | .infinity s=>dst.encode (.infinity s)
 | .number s m e=>if (dst.decode (dst.encode (.number s m e))).isInfinity then (Question.floatToFloat b).cut (w.tape w.drawn (.floatToFloat b)) else dst.encode (.number s m e)
def Cr (src:FloatKind) (b:Nat) (dst:FloatKind):Nat:=if (floatToFloatBits src b dst).isSome then 0 else 1
def Fc (src:FloatKind) (b:Nat) (dst:FloatKind):Nat :=
 if src=dst then cn dst b else
 match src.decode b with
 | .nan _ _=>mI dst
 | d=>dst.encode d
def lD (src:FloatKind) (b:Nat) (dst:FloatKind):Bool :=
 if src=dst then false else
 match src.decode b with
 | .number s m e=>(dst.decode (dst.encode (.number s m e))).isInfinity
 | _=>false
@[go_sem] theorem run_cv {P:Program} (w:World) (src dst:TypeId) (s k:FloatKind) (b:Nat) (hs:(P.underlying src).isSome=true) (hd:P.underlying dst=some (.float k)) :
  (convert src dst (.float s b)).run P w=.ok (.float k (iL s b k w)) (w.drewN (Cr s b k)):=by
 cases h:floatToFloatBits s b k with
 | some r =>
  have hr:=run_convert_float_float (P:=P) w src dst s k b r hs hd h
  rw [hr]
  have e1:Cr s b k=0:=by simp [Cr,h]
  have e2:iL s b k w=r:=by
   unfold floatToFloatBits at h
   unfold iL
   split at h
   ·rename_i e;rw [if_pos e];exact Option.some.inj h
   ·rename_i e;rw [if_neg e]
    split at h
    ·cases h
    ·rename_i sg he;simp only [he];exact Option.some.inj h
    ·rename_i sg m ex he
     split at h
     ·cases h
     ·rename_i ho;simp only [he];rw [if_neg ho];exact Option.some.inj h
  rw [e1,e2];rfl
 | none =>
  obtain ⟨u,hs'⟩:=Option.isSome_iff_exists.1 hs
  have e1:Cr s b k=1:=by simp [Cr,h]
  rw [e1]
  unfold floatToFloatBits at h
  unfold iL
  split at h
  ·cases h
  ·rename_i ne
   rw [if_neg ne]
   split at h
   ·rename_i sg fr he
    simp only [he]
    cases u <;> simp [convert,run_underlying hs',run_underlying hd,Conv.floatToFloat,ne,he,choose,Sem.run,Question.forced,World.drewN]
   ·cases h
   ·rename_i sg m ex he
    split at h
    ·rename_i ho
     simp only [he]
     rw [if_pos ho]
     cases u <;> simp [convert,run_underlying hs',run_underlying hd,Conv.floatToFloat,ne,he,ho,choose,Sem.run,Question.forced,World.drewN]
    ·cases h
theorem xD (k:FloatKind) (b t:Nat):eR k ((Question.nanConv k b).cut t)=true:=by
 have:=qC k 0 0 t
 cases k <;> exact this
theorem vS {s:FloatKind} {b:Nat} {k:FloatKind} (w:World) (h:lD s b k=false):cn k (iL s b k w)=Fc s (cn s b) k:=by
 unfold iL Fc
 unfold lD at h
 by_cases e:s=k
 ·subst e
  rw [if_pos rfl,if_pos rfl,yY]
 ·rw [if_neg e,if_neg e]
  rw [if_neg e] at h
  cases hd:s.decode b with
  | nan sg fr =>
   have hn:eR s b=true:=by unfold eR;rw [show s.format.read b = _ from hd];rfl
   rw [lC hn]
   have:=qA s
   unfold eR at this
   cases hz:s.decode (mI s) with
   | nan=>exact lC (xD k b _)
   | infinity sg=>rw [show s.format.read (mI s) = _ from hz] at this;cases this
   | number sg m e=>rw [show s.format.read (mI s) = _ from hz] at this;cases this
  | infinity sg =>
   have hn:eR s b=false:=by unfold eR;rw [show s.format.read b = _ from hd];rfl
   rw [dR hn,hd]
   exact dR (pZ k.format rfl)
  | number sg m e =>
   have hn:eR s b=false:=by unfold eR;rw [show s.format.read b = _ from hd];rfl
   rw [hd] at h
   simp only at h
   rw [dR hn,hd]
   simp only [h,Bool.false_eq_true,if_false]
   exact dR (pZ k.format rfl)
theorem mL (k:FloatKind) (n:Int):eR k (floatOfInt k n)=false:=mJ k.format _ _ _
theorem nR (k:FloatKind) (n:Int):cn k (floatOfInt k n)=floatOfInt k n:=dR (mL k n)
theorem zC {b:Nat} {s:Bool} {m:Nat} {e:Int} (h:single.read b=.number s m e):m < 2 ^ 24∧-149≤e∧e≤104:=by
 have h1:single.binade=2 ^ 23:=by decide +kernel
 have h2:single.infRung=255 * 2 ^ 23:=by decide +kernel
 have h3:single.leastPlace = -149:=by decide +kernel
 unfold Format.read at h
 simp only at h
 split at h
 ·rename_i hlt
  cases h
  rw [h1] at hlt;rw [h3]
  omega
 ·split at h
  ·rename_i hlt
   cases h
   rw [h1] at *;rw [h2] at hlt;rw [h3]
   have:=Nat.mod_lt (b % single.signWeight) (show 0 < 2 ^ 23 by omega)
   have hq:b % single.signWeight / 2 ^ 23 < 255:=by rw [Nat.div_lt_iff_lt_mul (by omega)];exact hlt
   omega
  ·split at h <;> cases h
theorem Cs (way:Toward) (neg:Bool) (n:Nat):way.cut neg n 0=n:=by
 unfold Toward.cut
 simp only [Nat.zero_min,Nat.shiftLeft_zero,Nat.div_one,Nat.mod_one]
 cases way <;> simp
theorem tD {neg:Bool} {m:Nat} {e:Int} (hm:m≠0) (h24:m < 2 ^ 24) (h1 : -149≤e) (h2:e≤104) :
  double.nearest neg m e=double.word neg ((e+m.log2 - 52+1074).toNat * 2 ^ 52+m * 2 ^ (52 - m.log2))∧(e+m.log2 - 52+1074).toNat * 2 ^ 52+m * 2 ^ (52 - m.log2) < double.infRung:=by
 have hl:m.log2≤23:=by have:=(Nat.log2_lt hm (k:=24)).2 h24;omega
 have b1:double.binade=2 ^ 52:=by decide +kernel
 have b2:double.infRung=2047 * 2 ^ 52:=by decide +kernel
 have b3:double.leastPlace = -1074:=by decide +kernel
 have b4:double.fractionBits=52:=rfl
 have hlast:max (e+m.log2 - (double.fractionBits:Nat)) double.leastPlace=e+m.log2 - 52:=by rw [b4,b3];omega
 have hk:m * 2 ^ (52 - m.log2) < 2 ^ 53:=by
  have h:=Nat.lt_log2_self (n:=m)
  have:m * 2 ^ (52 - m.log2) < 2 ^ (m.log2+1) * 2 ^ (52 - m.log2):=Nat.mul_lt_mul_of_pos_right h (Nat.two_pow_pos _)
  rw [←Nat.pow_add] at this
  rwa [show m.log2+1+(52 - m.log2)=53 by omega] at this
 have hrung:(e+m.log2 - 52+1074).toNat * 2 ^ 52+m * 2 ^ (52 - m.log2) < double.infRung:=by
  rw [b2]
  have:(e+m.log2 - 52+1074).toNat≤1149:=by omega
  have:=Nat.mul_le_mul_right (2 ^ 52) this
  omega
 refine ⟨?_,hrung⟩
 unfold Format.nearest
 rw [if_neg hm]
 simp only [hlast]
 rw [show (e+(m.log2:Int) - 52 - e).toNat=0 by omega,show (e - (e+(m.log2:Int) - 52)).toNat=52 - m.log2 by omega,Cs,Nat.shiftLeft_eq,b1,b3]
 rw [show e+(m.log2:Int) - 52 - -1074=e+m.log2 - 52+1074 by omega,Nat.min_eq_left (Nat.le_of_lt hrung)]
theorem nT (f:Format) (neg:Bool) {r:Nat} (h:r < f.infRung):(f.read (f.word neg r)).isInfinity=false:=by
 rw [gM f neg (Nat.lt_trans h f.infRung_lt)]
 split <;> rfl
theorem Dq (b:Nat):lD .f32 b .f64=false:=by
 unfold lD
 rw [if_neg (by decide)]
 split
 ·rename_i s m e h
  obtain ⟨h1,h2,h3⟩:=zC h
  show (double.read (double.nearest s m e)).isInfinity=false
  by_cases hm:m=0
  ·subst hm
   unfold Format.nearest
   rw [if_pos rfl]
   exact nT _ _ (by decide +kernel)
  ·obtain ⟨e1,e2⟩:=tD (neg:=s) hm h1 h2 h3
   rw [e1]
   exact nT _ _ e2
 ·rfl
theorem sN (b:Nat) (w:World):cn .f64 (iL .f32 b .f64 w)=Fc .f32 (cn .f32 b) .f64:=vS w (Dq b)
theorem Ct {a:Nat} (h:eR .f64 a=false):∃r,floatBits .quo .f64 4607182418800017408 a=some r:=by
 show ∃r,((double.read 4607182418800017408).quotient (double.fractionBits+2) (double.read a)).map double.write=some r
 have e1:double.read 4607182418800017408=.number false 4503599627370496 (-52):=by decide +kernel
 rw [e1]
 unfold eR at h
 have h':(double.read a).isNaN=false:=h
 cases hd:double.read a with
 | nan s t=>rw [hd] at h';cases h'
 | infinity s=>exact ⟨_,rfl⟩
 | number s m p =>
  by_cases hm:m=0
  ·subst hm;exact ⟨_,by simp [Datum.quotient];rfl⟩
  ·refine ⟨_,by simp only [Datum.quotient,if_neg hm];rfl⟩
theorem jF {op:BinOp} {k:FloatKind} {x y r:Nat} (h:floatBits op k x y=some r) (w:World):dH op k x y w=r:=by simp [dH,h]
theorem oY {op:BinOp} {k:FloatKind} {x y r:Nat} (h:floatBits op k x y=some r):sZ op k x y=0:=by simp [sZ,h]
theorem vT {k:FloatKind} {a b:Nat} (h:cn k a=cn k b):eR k a=eR k b:=by rw [←iK k a,h,iK]
theorem Cu {k:FloatKind} {a b:Nat} (h:cn k a=cn k b) (ha:eR k a=false):a=b:=by
 have hb:eR k b=false:=by rw [←vT h];exact ha
 rwa [dR ha,dR hb] at h
end
section
open Go Go.RowKit Go.ChangeShapes Go.WideShapes
def Rd (w:World) (ad:Option Addr) (vs:List Value):Prop :=
 vs=[]∨∃b off,ad=some ⟨b,off,none⟩∧b < w.heap.size∧∀i,i < vs.length→w.cell? ⟨b,off+i,none⟩=vs[i]?
theorem Rd.kept {w w':World} {ad:Option Addr} {vs:List Value} (h:Rd w ad vs) (hs:w.heap.size≤w'.heap.size) (hc:∀b off,ad=some ⟨b,off,none⟩→b < w.heap.size→w'.heap[b]? = w.heap[b]?):Rd w' ad vs:=by
 rcases h with h | ⟨b,off,h1,h2,h3⟩
 ·exact .inl h
 ·exact .inr ⟨b,off,h1,by omega,fun i hi=>by rw [World.cell?_of_block (w:=w) (hc b off h1 h2)];exact h3 i hi⟩
theorem Rd.below {w w':World} {B:Nat} {ad:Option Addr} {vs:List Value} (h:Rd w ad vs) (hb:Below B w w') (hB:w.heap.size≤B):Rd w' ad vs :=
 h.kept hb.size fun b _ _ hl=>hb.block b (by omega)
theorem Rd.belowLt {w w':World} {B:Nat} {ad:Option Addr} {vs:List Value} (h:Rd w ad vs) (hb:Below B w w') (hB:∀b off,ad=some ⟨b,off,none⟩→b < B):Rd w' ad vs :=
 h.kept hb.size fun b off e _=>hb.block b (hB b off e)
theorem Rd.spot {w:World} {ad:Option Addr} {vs:List Value} (h:Rd w ad vs) {i:Nat} (hi:i < vs.length):∃b off,ad=some ⟨b,off,none⟩∧b < w.heap.size∧∀j,j < vs.length→w.cell? ⟨b,off+j,none⟩=vs[j]?:=by
 rcases h with h | h
 ·rw [h] at hi;simp at hi
 ·exact h
theorem Rd.of_owns {w:World} {base size n:Nat} {e:TypeId} {v:Value} {vs:List Value} (h:w.ownsRow base e size v n vs):∃ad cap,v=.slice ad n cap∧n≤cap∧cap≤maxLen∧Rd w ad vs∧(∀b off,ad=some ⟨b,off,none⟩→base≤b∧b < w.heap.size):=by
 rcases h.2 with ⟨rfl,rfl⟩ | ⟨g,cap,cur,rfl,hb,hg,hn,hm,hs,ht⟩
 ·have:vs=[]:=by have:=h.1;simpa using this
  exact ⟨none,0,rfl,J _,Nat.zero_le _,.inl this,fun b off e=>by cases e⟩
 ·have hlt:g < w.heap.size:=(Array.getElem?_eq_some_iff.1 hg).1
  refine ⟨_,cap,rfl,hn,hm,.inr ⟨g,0,rfl,hlt,fun i hi=>?_⟩,fun b off e=>?_⟩
  ·have:=h.cells (g:=g) rfl i (vs[i]) (List.getElem?_eq_getElem hi)
   rw [List.getElem?_eq_getElem hi]
   rw [←this]
   congr 1
   unfold Addr.add
   split <;> simp_all
  ·simp only [Option.some.injEq,Addr.mk.injEq] at e
   obtain ⟨rfl,_,_⟩:=e
   exact ⟨hb,hlt⟩
section
variable {H:Type} {enc:TypeId × Value→H} {P:Program} {w:World} {base:Nat} {spare:Nat→Bool} {held:Bool}
theorem tE {t:TypeId} {k:FloatKind} {fuel:Nat} {cs:List Value} {x:DataW H × List MemPlace} (ht:P.underlying t=some (.float k)) (h:DataW.trod enc P w base spare held fuel t cs=some x):∃b,cs=[.float k b]∧(Lit.float k b).wf=true:=by
 cases fuel with
 | zero=>simp [DataW.trod] at h
 | succ n =>
  unfold DataW.trod at h
  rw [ht] at h
  split at h <;> simp_all
theorem Ar {b:Nat} (h:(Lit.float .f32 b).wf=true):b < 4294967296:=by simpa [Lit.wf] using h
theorem Ed {b:Nat} (h:(Lit.float .f64 b).wf=true):b < 18446744073709551616:=by simpa [Lit.wf] using h
theorem qD {β:Type} {t e:TypeId} {v:Value} {d:DataW H} {ps:List MemPlace} (cellsOf:β→List Value) (kI:β→Prop) (ht:P.underlying t=some (.slice e))
  (hdec:∀(n:Nat) (cs:List Value) (y:DataW H × List MemPlace),DataW.trod enc P w base spare held n e cs=some y→∃b,cs=cellsOf b∧kI b)
  (h:DataW.Trod enc P w base spare held t v d ps) (hv:∃a l c,v=.slice a l c):∃(ad:Option Addr) (cap:Nat) (bs:List β),v=.slice ad (bs.length) cap∧bs.length≤cap∧cap≤maxLen∧Rd w ad (bs.flatMap cellsOf)∧(∀b∈bs,kI b):=by
 obtain ⟨fuel,hf⟩:=h
 obtain ⟨a0,l0,c0,rfl⟩:=hv
 rcases DataW.trod_slice ht hf with ⟨hcs,_⟩ | ⟨a,len,cap,elems,rest,n,_,hcs,_,hb,hl,hm,hlen,hel,_⟩
 ·simp [Value.cells] at hcs
  obtain ⟨rfl,rfl,rfl⟩:=hcs
  exact ⟨none,0,[],rfl,J _,Nat.zero_le _,.inl rfl,fun b hb=>by cases hb⟩
 ·simp [Value.cells] at hcs
  obtain ⟨rfl,rfl,rfl⟩:=hcs
  have key:∀m,m≤l0→∃bs:List β,bs.length=m∧(∀b∈bs,kI b)∧(bs.flatMap cellsOf).length=m * P.cellsOf e∧(∀i,i < m * P.cellsOf e→w.cell? (a.add i)=(bs.flatMap cellsOf)[i]?):=by
   intro m
   induction m with
   | zero=>intro _;exact ⟨[],rfl,(fun b hb=>nomatch hb),by simp,(fun i hi=>by simp at hi)⟩
   | succ m ih =>
    intro hm'
    obtain ⟨bs,h1,h2,h3,h4⟩:=ih (by omega)
    have hy:=hel m (by omega)
    have hlt:m < elems.length:=by omega
    rw [List.getElem?_eq_getElem hlt,Option.bind_eq_some_iff] at hy
    obtain ⟨cs,hcs,hy⟩:=hy
    obtain ⟨b,rfl,hg⟩:=hdec _ _ _ hy
    obtain ⟨_,hsz,hcell⟩:=World.cells?_some hcs
    refine ⟨bs ++ [b],by simp [h1],?_,?_,?_⟩
    ·intro b' hb'
     rcases List.mem_append.1 hb' with hb' | hb'
     ·exact h2 b' hb'
     ·simp at hb';subst hb';exact hg
    ·simp [h3,hsz,Nat.succ_mul]
    ·intro i hi
     rw [List.flatMap_append,List.flatMap_singleton]
     by_cases hlt':i < m * P.cellsOf e
     ·rw [List.getElem?_append_left (by omega)];exact h4 i hlt'
     ·rw [List.getElem?_append_right (by omega),h3]
      rw [Nat.succ_mul] at hi
      have:=hcell (i - m * P.cellsOf e) (by omega)
      rw [←this,Addr.add_add]
      congr 2
      omega
  obtain ⟨bs,h1,h2,h3,h4⟩:=key l0 (J _)
  refine ⟨some a,c0,bs,by rw [h1],by omega,hm,?_,h2⟩
  by_cases hz:bs.flatMap cellsOf=[]
  ·exact .inl hz
  ·have hpos:0 < (bs.flatMap cellsOf).length:=List.length_pos_iff.2 hz
   have h0:=h4 0 (by omega)
   rw [List.getElem?_eq_getElem hpos] at h0
   have hsp:a.spot=none:=by
    have:=World.cell?_spot h0
    unfold Addr.add at this
    split at this <;> simp_all
   obtain ⟨b,off,spot⟩:=a
   simp at hsp;subst hsp
   refine .inr ⟨b,off,rfl,?_,fun i hi=>?_⟩
   ·have:=World.block_lt_of_cell? w _ h0
    simpa [Addr.add] using this
   ·have:=h4 i (by omega)
    rw [Addr.add_lit] at this;exact this
structure Ints (k:IntKind) (w:World) (ad:Option Addr) (cap:Nat) (xs:List Int):Prop where
 len:xs.length≤cap
 cap:cap≤maxLen
 rd:Rd w ad (xs.map (Value.int k))
 wf:∀x∈xs,(Lit.int k x).wf=true
structure F32s (w:World) (ad:Option Addr) (cap:Nat) (xs:List Nat):Prop where
 len:xs.length≤cap
 cap:cap≤maxLen
 rd:Rd w ad (xs.map (Value.float .f32))
 lt:∀x∈xs,x < 4294967296
theorem tF {t e:TypeId} {n:Nat} {cs:List Value} {y:DataW H × List MemPlace} (ht:P.underlying t=some (.slice e)) (he:P.underlying e=some (.float .f32))
  (h:DataW.trod enc P w base spare held n t cs=some y):∃ad cap xs,cs=[.slice ad (List.length xs) cap]∧F32s w ad cap xs:=by
 obtain ⟨a,l,c,rfl⟩:=Joins.slice_form ht h
 obtain ⟨ad,cap,bs,h1,h2,h3,h4,h5⟩:=qD (v:=.slice a l c) (fun b=>[Value.float .f32 b]) (fun b=>b < 4294967296) ht (fun n cs y hy=>by
  obtain ⟨b,hb,hw⟩:=tE he hy
  exact ⟨b,hb,Ar hw⟩) ⟨n,by simpa [Value.cells] using h⟩ ⟨a,l,c,rfl⟩
 exact ⟨ad,cap,bs,by rw [h1],⟨h2,h3,by rw [←List.map_eq_flatMap] at h4;exact h4,h5⟩⟩
theorem Ey {t e:TypeId} {k:IntKind} {n:Nat} {cs:List Value} {y:DataW H × List MemPlace} (ht:P.underlying t=some (.slice e)) (he:P.underlying e=some (.int k))
  (h:DataW.trod enc P w base spare held n t cs=some y):∃ad cap xs,cs=[.slice ad (List.length xs) cap]∧Ints k w ad cap xs:=by
 obtain ⟨a,l,c,rfl⟩:=Joins.slice_form ht h
 obtain ⟨ad,cap,bs,h1,h2,h3,h4,h5⟩:=qD (v:=.slice a l c) (fun b=>[Value.int k b]) (fun b=>(Lit.int k b).wf=true) ht (fun n cs y hy=>by
  obtain ⟨b,hb,_,hw⟩:=DataW.trod_int he hy
  exact ⟨b,hb,hw⟩) ⟨n,by simpa [Value.cells] using h⟩ ⟨a,l,c,rfl⟩
 exact ⟨ad,cap,bs,by rw [h1],⟨h2,h3,by rw [←List.map_eq_flatMap] at h4;exact h4,h5⟩⟩
theorem Ew {t e:TypeId} {r:Reach} {b0:Nat} {v:Value} {d:DataW H} {ps:List MemPlace} (ht:P.underlying t=some (.slice e)) (hval:Value.okWide P w r b0 t v)
  (h:DataW.Trod enc P w base spare held t v d ps):∃n,DataW.trod enc P w base spare held n t [v]=some (d,ps):=by
 obtain ⟨a,l,c,rfl⟩:=okWide_slice ht hval
 obtain ⟨n,hn⟩:=h
 exact ⟨n,by simpa [Value.cells] using hn⟩
theorem open_f32 {t:TypeId} {r:Reach} {b0:Nat} {v:Value} {d:DataW H} {ps:List MemPlace} (ht:P.underlying t=some (.float .f32)) (hval:Value.okWide P w r b0 t v) (h:DataW.Trod enc P w base spare held t v d ps) :
  ∃b,v=.float .f32 b∧b < 4294967296:=by
 obtain ⟨b,h1,_,_,h4⟩:=open_float ht hval h
 exact ⟨b,h1,Ar h4⟩
theorem Ez {t:TypeId} {r:Reach} {b0:Nat} {v:Value} {d:DataW H} {ps:List MemPlace} (ht:P.underlying t=some (.float .f64)) (hval:Value.okWide P w r b0 t v) (h:DataW.Trod enc P w base spare held t v d ps) :
  ∃b,v=.float .f64 b∧b < 18446744073709551616:=by
 obtain ⟨b,h1,_,_,h4⟩:=open_float ht hval h
 exact ⟨b,h1,Ed h4⟩
theorem Ee {t:TypeId} {fs:Array Field} {r:Reach} {b0:Nat} {v:Value} (hs:P.underlying t=some (.struct fs)) (hv:Value.okWide P w r b0 t v):∃l:List Value,v=.agg l.toArray∧l.length=P.cellsOf t:=by
 obtain ⟨cs,rfl,hsz⟩:=okWide_struct hs hv
 exact ⟨cs.toList,by simp,by simpa using hsz⟩
theorem lE {t:TypeId} {fs:Array Field} {fuel:Nat} {cs:List Value} {x:DataW H × List MemPlace} (ht:P.underlying t=some (.struct fs)) (h:DataW.trod enc P w base spare held fuel t cs=some x) :
  ∃n,cs.length=P.cellsOf t∧∀(i ty off c:Nat) (f:Field),fs[i]? = some f→f.type=ty→f.offset=off→P.cellsOf ty=c→∃y,DataW.trod enc P w base spare held n ty ((cs.drop off).take c)=some y:=by
 obtain ⟨xs,n,_,_,hl,hlen,hf⟩:=DataW.trod_struct ht h
 refine ⟨n,hl,fun i ty off c f hi hty hoff hc=>?_⟩
 subst hty hoff hc
 rw [hf i f hi]
 have:i < fs.size:=(Array.getElem?_eq_some_iff.1 hi).1
 exact ⟨_,List.getElem?_eq_getElem (by omega)⟩
end
theorem arg_agg {H:Type} {enc:TypeId × Value→H} {P:Program} {w:World} {base:Nat} {spare:Nat→Bool} {held:Bool} {t:TypeId} {fs:Array Field} {r:Reach} {b0:Nat} {v:Value} {d:DataW H} {ps:List MemPlace} (hs:P.underlying t=some (.struct fs)) (hv:Value.okWide P w r b0 t v)
  (h:DataW.Trod enc P w base spare held t v d ps):∃l:List Value,v=.agg l.toArray∧∃n,DataW.trod enc P w base spare held n t l=some (d,ps):=by
 obtain ⟨l,rfl,_⟩:=Ee hs hv
 obtain ⟨n,hn⟩:=h
 exact ⟨l,rfl,n,by simpa [Value.cells] using hn⟩
theorem DS {W w1:World} (b:Nat) (hb:Below W.heap.size W w1) (h:b < W.heap.size):(∀o,w1.cell? ⟨b,o,none⟩=W.cell? ⟨b,o,none⟩)∧(∀o,w1.frozen? ⟨b,o,none⟩=W.frozen? ⟨b,o,none⟩)∧b < w1.heap.size :=
 ⟨fun o=>hb.cell (p:=⟨b,o,none⟩) h,fun o=>hb.frozen (p:=⟨b,o,none⟩) h,Nat.lt_of_lt_of_le h hb.size⟩
theorem aA {a w w':World} (h:Below a.heap.size a w) (h2:Below w.heap.size w w'):Below a.heap.size a w':=h.trans (h2.mono h.size)
theorem DU {α:Type} {l:List α} (h:l.length=3):∃a b c,l=[a,b,c]:=by
 match l,h with
 | [a,b,c],_=>exact ⟨a,b,c,rfl⟩
theorem EA {α:Type} {l:List α} (h:l.length=5):∃a b c d e,l=[a,b,c,d,e]:=by
 match l,h with
 | [a,b,c,d,e],_=>exact ⟨a,b,c,d,e,rfl⟩
theorem own_knob:ownKnob Tryz.prog.godebug=none:=by kernel_rfl
theorem laid_out:laidOutB Tryz.prog=true:=by kernel_rfl
section
variable {H:Type} {enc:TypeId × Value→H} {w:World} {base:Nat} {spare:Nat→Bool} {held:Bool}
theorem dec_Scale {n:Nat} {cs:List Value} {y:DataW H × List MemPlace} (h:DataW.trod enc Tryz.prog w base spare held n 49 cs=some y) :
  ∃(s:Nat) (gd gw:Int),cs=[.float .f32 s,.int .i64 gd,.int .i64 gw]∧s < 4294967296∧(Lit.int .i64 gd).wf=true∧(Lit.int .i64 gw).wf=true:=by
 have c0:Tryz.prog.cellsOf 49=3:=by kernel_rfl
 have c1:Tryz.prog.cellsOf 2=1:=by kernel_rfl
 have c2:Tryz.prog.cellsOf 28=1:=by kernel_rfl
 obtain ⟨n,hl,hp⟩:=lE Tryz.underlying49 h
 rw [c0] at hl
 obtain ⟨x0,x1,x2,rfl⟩:=DU hl
 obtain ⟨y0,h0⟩:=hp 0 28 0 1 _ rfl rfl rfl c2
 obtain ⟨y1,h1⟩:=hp 1 2 1 1 _ rfl rfl rfl c1
 obtain ⟨y2,h2⟩:=hp 2 2 2 1 _ rfl rfl rfl c1
 simp only [List.drop_succ_cons,List.drop_zero,List.take_succ_cons,List.take_zero] at h0 h1 h2
 obtain ⟨r,e0,w0⟩:=tE Tryz.underlying28 h0
 obtain ⟨g,e1,_,w1⟩:=DataW.trod_int Tryz.underlying2 h1
 obtain ⟨q,e2,_,w2⟩:=DataW.trod_int Tryz.underlying2 h2
 simp only [List.cons.injEq,and_true] at e0 e1 e2
 subst e0 e1 e2
 exact ⟨r,g,q,rfl,Ar w0,w1,w2⟩
end
end
section
open Go Go.RowKit
def jU (n lo hi:Int):Bool:=decide (lo≤n) && decide (n≤hi)
theorem cA {n lo hi:Int}:jU n lo hi=true ↔ lo≤n∧n≤hi:=by simp [jU]
theorem aE (w:World) (o:Obj):Below w.heap.size w (w.alloc o):=(O _ _).alloc (J _) o
theorem bZ (w:World) (o o':Obj):Below w.heap.size w ((w.alloc o).alloc o'):=(aE w o).alloc (by simp) o'
theorem dE (w:World) (o o' o'':Obj):Below w.heap.size w (((w.alloc o).alloc o').alloc o''):=(bZ w o o').alloc (by simp;omega) o''
theorem jG (n lo hi:Int) (w:World):Calls Tryz.prog 51 #[.int .i64 n,.int .i64 lo,.int .i64 hi] w fun e w'=>e=.returned (.bool (jU n lo hi))∧w=w':=by
 go_enter Tryz.func51,Tryz.ntmps51
 go_wp2
 all_goals (go_ret;refine ⟨?_,rfl⟩;simp [jU];try omega)
theorem gN (n lo hi:Int) (w:World):Calls Tryz.prog 48 #[.int .i64 n,.int .i64 lo,.int .i64 hi] w fun e w'=>e=.returned (.bool (jU n lo hi))∧w=w':=by
 go_enter Tryz.func48,Tryz.ntmps48
 go_wp2
 all_goals (go_ret;refine ⟨?_,rfl⟩;simp [jU];try omega)
def Dr (w w':World):Prop:=∃n,w'=w.drewN n
theorem Dr.refl (w:World):Dr w w:=⟨0,rfl⟩
theorem Dr.below {w w':World} (h:Dr w w'):Below w.heap.size w w':=by obtain ⟨n,rfl⟩:=h;exact below_drewN (O _ _) n
theorem nU (a b:Nat) (h:cn .f64 a=cn .f64 b) (w:World):Calls Tryz.prog 13 #[.float .f64 a,.float .f64 b] w fun e w'=>e=.returned (.bool true)∧Dr w w':=by
 by_cases ha:eR .f64 a=true
 ·have hb:eR .f64 b=true:=by rw [←vT h];exact ha
  have h1:FloatKind.f64.format.order a a=none:=eH (.inl ha)
  have h2:FloatKind.f64.format.order b b=none:=eH (.inl hb)
  clear h ha hb
  go_enter Tryz.func13,Tryz.ntmps13
  go_wp2
  go_ret
  exact ⟨rfl,Dr.refl _⟩
 ·have ha':eR .f64 a=false:=by simpa using ha
  obtain rfl:=Cu h ha'
  obtain ⟨r,hr⟩:=Ct ha'
  have h1:FloatKind.f64.format.order a a=some .eq:=by rw [fY,if_neg ha]
  have h2:=fun w=>jF hr w
  have h3:=oY hr
  clear h ha ha' hr
  go_enter Tryz.func13,Tryz.ntmps13
  go_wp2
  all_goals (go_ret;first | exact ⟨rfl,Dr.refl _⟩ | exact ⟨rfl,_,rfl⟩)
end
section
open Go
section
variable {P:Program} {ops:Array Oper} {C:World→Prop} {VC:FuncId→Array Value→Value→Prop}
def Fl (P:Program) (C:World→Prop) (VC:FuncId→Array Value→Value→Prop) (o:Oper) (a:Act) (v:Value):Prop :=
 ∃w w',C w∧((execOp a.eval o).run P w=.ok (.value v) w'∨((execOp a.eval o).run P w=.ok .skip w'∧v=undef)∨∃f args,(execOp a.eval o).run P w=.ok (.enter f args) w'∧VC f args v)
def gZ (P:Program) (C:World→Prop) (VC:FuncId→Array Value→Value→Prop):Result Next→Prop
 | .ok (.value _) w'=>C w'
 | .ok .skip w'=>C w'
 | .ok (.enter f args) w'=>C w'∧Calls P f args w' (fun e w'' => ∃v,e=.returned v∧C w''∧VC f args v)
 | _=>False
def EB (P:Program) (C:World→Prop) (VC:FuncId→Array Value→Value→Prop) (o:Oper) (a:Act):Prop:=∀w,C w→gZ P C VC ((execOp a.eval o).run P w)
def kI (P:Program) (ops:Array Oper) (C:World→Prop) (VC:FuncId→Array Value→Value→Prop) (o:Oper) (a:Act):Prop:=Region.wanted o (yielded ops a.tmps)=true→EB P C VC o a
def gL (P:Program) (ops:Array Oper) (C:World→Prop) (VC:FuncId→Array Value→Value→Prop) (o:Oper) (a:Act) (v:Value):Prop :=
 (Region.wanted o (yielded ops a.tmps)=true∧Fl P C VC o a v)∨(Region.wanted o (yielded ops a.tmps)=false∧v=undef)
def jV (P:Program) (ops:Array Oper) (C:World→Prop) (VC:FuncId→Array Value→Value→Prop) (Q:Act→Prop):List Oper→Act→Prop
 | [],a=>Q a
 | o :: rest,a=>kI P ops C VC o a∧∀v,gL P ops C VC o a v→jV P ops C VC Q rest (a.put o.dst v)
def Cv (P:Program) (md:Region.Mode) (ops:Array Oper) (C:World→Prop) (VC:FuncId→Array Value→Value→Prop) (Q:Act→Prop):Nat→Array Bool→Act→Prop
 | 0,listed,a=>Region.ready md ops listed=[]∧Q a
 | fuel+1,listed,a=>(Region.ready md ops listed=[]→Q a) ∧
  ∀i∈Region.ready md ops listed,∀o,ops[i]? = some o→kI P ops C VC o a∧∀v,gL P ops C VC o a v→Cv P md ops C VC Q fuel (listed.setIfInBounds i true) (a.put o.dst v)
theorem oZ {o:Oper} {a:Act} {d:Option Tmp} {u:Value} (he:execOp (a.put d u).eval o=execOp a.eval o) (hw:Region.wanted o (yielded ops (a.put d u).tmps)=Region.wanted o (yielded ops a.tmps)) :
  kI P ops C VC o (a.put d u) ↔ kI P ops C VC o a:=by
 unfold kI EB
 rw [he,hw]
theorem jH {o:Oper} {a:Act} {d:Option Tmp} {u v:Value} (he:execOp (a.put d u).eval o=execOp a.eval o) (hw:Region.wanted o (yielded ops (a.put d u).tmps)=Region.wanted o (yielded ops a.tmps)) :
  gL P ops C VC o (a.put d u) v ↔ gL P ops C VC o a v:=by
 unfold gL Fl
 rw [he,hw]
theorem pA {o:Oper} {a:Act} {w0:World} (h0:C w0) (h:kI P ops C VC o a):∃v,gL P ops C VC o a v:=by
 by_cases hw:Region.wanted o (yielded ops a.tmps)=true
 ·have hf:=h hw w0 h0
  unfold gZ at hf
  split at hf
  ·rename_i v w' he;exact ⟨v,.inl ⟨hw,w0,w',h0,.inl he⟩⟩
  ·rename_i w' he;exact ⟨undef,.inl ⟨hw,w0,w',h0,.inr (.inl ⟨he,rfl⟩)⟩⟩
  ·rename_i f args w' he
   obtain ⟨_,hc⟩:=hf
   obtain ⟨e,w'',fr,⟨v,_,_,hv⟩,_⟩:=hc []
   exact ⟨v,.inl ⟨hw,w0,w',h0,.inr (.inr ⟨f,args,he,hv⟩)⟩⟩
  ·cases hf
 ·exact ⟨undef,.inr ⟨by simpa using hw,rfl⟩⟩
theorem tG {md:Region.Mode} {Q:Act→Prop} {w0:World} (h0:C w0) {i:Nat} {oi:Oper} (hi:ops[i]? = some oi) (hsel:∀(j:Nat) (o:Oper) cs b,ops[j]? = some o→o.op≠.select cs b) :
  ∀(fuel:Nat) (listed:Array Bool) (a:Act),
   (∀j oj,ops[j]? = some oj→j≠i→listed.getD j true=false→(∀e∈oj.after,Region.binds md e=true→e.on≠i)→oi.apart ops oj=true) →
   i∈Region.ready md ops listed→kI P ops C VC oi a →
   (∀v,gL P ops C VC oi a v→Cv P md ops C VC Q fuel (listed.setIfInBounds i true) (a.put oi.dst v))→Cv P md ops C VC Q (fuel+1) listed a
 | 0,listed,a,_,hr,hg,H=>by
  refine ⟨fun e=>(by rw [e] at hr;cases hr),fun j hj o ho=>?_⟩
  by_cases hji:j=i
  ·subst hji
   obtain rfl:oi=o:=Option.some.inj (hi.symm.trans ho)
   exact ⟨hg,H⟩
  ·exfalso
   obtain ⟨v,hv⟩:=pA h0 hg
   have:=ready_mono hj hji
   rw [(H v hv).1] at this
   cases this
 | fuel+1,listed,a,hfree,hr,hg,H=>by
  refine ⟨fun e=>(by rw [e] at hr;cases hr),fun j hj oj hoj=>?_⟩
  by_cases hji:j=i
  ·subst hji
   obtain rfl:oi=oj:=Option.some.inj (hi.symm.trans hoj)
   exact ⟨hg,H⟩
  ·have hun:listed.getD j true=false:=(mem_ready.1 hj).1
   have hno:∀e∈oj.after,Region.binds md e=true→e.on≠i:=by
    intro e he hb hon
    obtain ⟨_,o',ho',hall⟩:=mem_ready.1 hj
    obtain rfl:oj=o':=Option.some.inj (hoj.symm.trans ho')
    have h1:=hall e he hb
    have h2:=(mem_ready.1 hr).1
    rw [hon] at h1
    rcases Nat.lt_or_ge i listed.size with hl | hl
    ·simp only [Array.getD_eq_getD_getElem?,Array.getElem?_eq_getElem hl,Option.getD_some] at h1 h2
     rw [h1] at h2;cases h2
    ·simp [Array.getElem?_eq_none hl] at h1
   obtain ⟨x1,x2,x3⟩:=Oper.apart_spec (hfree j oj hoj hji hun hno)
   have si:=fun cs b=>hsel i oi cs b hi
   have sj:=fun cs b=>hsel j oj cs b hoj
   -- what the one gives makes no difference to the other
   have gj:∀v,(kI P ops C VC oj (a.put oi.dst v) ↔ kI P ops C VC oj a):=fun v=>oZ (execOp_put oj sj a oi.dst v x1) (wanted_put oj a oi.dst v x1)
   have vj:∀v u,(gL P ops C VC oj (a.put oi.dst v) u ↔ gL P ops C VC oj a u):=fun v u=>jH (execOp_put oj sj a oi.dst v x1) (wanted_put oj a oi.dst v x1)
   have gi:∀u,(kI P ops C VC oi (a.put oj.dst u) ↔ kI P ops C VC oi a):=fun u=>oZ (execOp_put oi si a oj.dst u x3) (wanted_put oi a oj.dst u x3)
   have vi:∀u v,(gL P ops C VC oi (a.put oj.dst u) v ↔ gL P ops C VC oi a v):=fun u v=>jH (execOp_put oi si a oj.dst u x3) (wanted_put oi a oj.dst u x3)
   obtain ⟨v0,hv0⟩:=pA h0 hg
   have hj':=ready_mono hj hji
   refine ⟨(gj v0).1 ((H v0 hv0).2 j hj' oj hoj).1,fun u hu=>?_⟩
   refine tG h0 hi hsel fuel (listed.setIfInBounds j true) (a.put oj.dst u) ?_ (ready_mono hr (Ne.symm hji)) ((gi u).2 hg) fun v hv=>?_
   ·intro k ok hk hki hun' hno'
    refine hfree k ok hk hki ?_ hno'
    by_cases hjk:j=k
    ·subst hjk;exact hun
    ·rw [getD_set_ne true hjk] at hun';exact hun'
   ·have:=((H v ((vi u v).1 hv)).2 j hj' oj hoj).2 u ((vj v u).2 hu)
    rw [Array.setIfInBounds_comm _ _ hji,←Act.put_comm a v u x2]
    exact this
theorem zD {md:Region.Mode} {Q:Act→Prop} {w0:World} (h0:C w0) (hs:Region.noSelect ops=true):∀(l:List Oper) (k:Nat) (listed:Array Bool) (a:Act),(∀j,l[j]? = ops[k+j]?) →
  Region.lexFrom md ops l.length k listed=true→jV P ops C VC Q l a→Cv P md ops C VC Q l.length listed a
 | [],_,_,_,_,hB,h=>⟨by simpa [Region.lexFrom] using hB,h⟩
 | o :: l,k,listed,a,hl,hB,h=>by
  have hk:ops[k]? = some o:=by simpa using (hl 0).symm
  simp only [List.length_cons,Region.lexFrom,Bool.and_eq_true] at hB
  obtain ⟨⟨hr,hf⟩,hB'⟩:=hB
  refine tG h0 hk (Region.noSelect_spec hs) l.length listed a (Region.free_spec hk hf) (by simpa using hr) h.1 fun v hv=>?_
  exact zD h0 hs l (k+1) _ _ (fun j=>by have:=hl (j+1);simpa [Nat.add_assoc,Nat.add_comm 1 j] using this) hB' (h.2 v hv)
theorem hO {md:Region.Mode} {Q:Act→Prop} {Q':Exit→Act→World→Prop} (hQ:∀a w,C w→Q a→Q' .normal a w):∀(fuel:Nat) (listed:Array Bool) (a:Act) (w:World),C w →
  Cv P md ops C VC Q fuel listed a→wpAny P md ops Q' fuel listed a w
 | 0,_,_,_,hw,h=>⟨h.1,hQ _ _ hw h.2⟩
 | fuel+1,listed,a,w,hw,h=>by
  refine ⟨fun e=>hQ _ _ hw (h.1 e),fun i hi=>?_⟩
  obtain ⟨_,o,ho,_⟩:=mem_ready.1 hi
  obtain ⟨hg,hv⟩:=h.2 i hi o ho
  unfold wpOp
  simp only [ho]
  by_cases hwant:Region.wanted o (yielded ops a.tmps)=true
  ·rw [if_pos hwant]
   left
   have hf:=hg hwant w hw
   unfold Oper.wp
   unfold gZ at hf
   split at hf
   ·rename_i v w' he
    rw [he]
    exact hO hQ fuel _ _ w' hf (hv v (.inl ⟨hwant,w,w',hw,.inl he⟩))
   ·rename_i w' he
    rw [he]
    exact hO hQ fuel _ _ w' hf (hv undef (.inl ⟨hwant,w,w',hw,.inr (.inl ⟨he,rfl⟩)⟩))
   ·rename_i f args w' he
    rw [he]
    obtain ⟨hC',hc⟩:=hf
    refine hc.mono fun e w'' ⟨v,hev,hC'',hvc⟩=>?_
    subst hev
    exact hO hQ fuel _ _ w'' hC'' (hv v (.inl ⟨hwant,w,w',hw,.inr (.inr ⟨f,args,he,hvc⟩)⟩))
   ·cases hf
  ·have hwant':Region.wanted o (yielded ops a.tmps)=false:=by simpa using hwant
   rw [if_neg hwant]
   exact hO hQ fuel _ _ w hw (hv undef (.inr ⟨hwant',rfl⟩))
theorem nV {id:Nat} {Q:Exit→Act→World→Prop} {a:Act} {w:World} {l:List Oper} (C:World→Prop) (VC:FuncId→Array Value→Value→Prop) (hm:P.follows .mixedOrders=true) (hB:Region.lexB .any l.toArray=true)
  (hC:C { w with drawn:=w.drawn+1 }) (h:jV P l.toArray C VC (fun a' => ∀w',C w'→Q .normal a' w') l a):(Code.region id l.toArray true).wp P Q a w:=by
 simp only [Region.lexB,Bool.and_eq_true] at hB
 refine wp_region_any hm (hO (VC:=VC) (Q:=fun a' => ∀w',C w'→Q .normal a' w') (fun _ w' hw' h=>h w' hw') _ _ _ _ hC ?_)
 have:=zD (VC:=VC) (md:=.any) hC hB.1 l 0 (Array.replicate l.toArray.size false) a (by simp) (by simpa using hB.2) h
 simpa using this
/-! the steps of the walk, at the class 'w behind some draws' -/
def eJ (w:World):World→Prop:=fun w' => ∃n,w'=w.drewN n
variable {w:World} {Q:Act→Prop} {o:Oper} {rest:List Oper} {a:Act}
@[go_sem] theorem drawn_self (n:Nat):eJ w (w.drewN n)=True:=eq_true ⟨n,rfl⟩
@[go_sem] def UponS (P:Program) (VC:FuncId→Array Value→Value→Prop) (w:World) (K:Value→Prop):Result Next→Prop
 | .ok (.value v) w'=>eJ w w'∧K v
 | .ok .skip w'=>eJ w w'∧K undef
 | .ok (.enter f args) w'=>eJ w w'∧(Calls P f args w' fun e w'' => ∃v,e=.returned v∧eJ w w''∧VC f args v)∧∀v,VC f args v→K v
 | _=>False
theorem aV (h:∀K:Act→Prop,(∀a,jV P ops (eJ w) VC Q rest a→K a)→∀n:Nat,if Region.wanted o (yielded ops a.tmps) then UponS P VC w (fun v=>K (a.put o.dst v)) ((execOp a.eval o).run P (w.drewN n)) else K (a.put o.dst undef)) :
  jV P ops (eJ w) VC Q (o :: rest) a:=by
 have h:=h _ (fun _ h=>h)
 refine ⟨fun hw w' ⟨n,hn⟩=>?_,fun v hv=>?_⟩
 ·have:=h n
  rw [if_pos hw] at this
  rw [hn]
  unfold UponS at this
  unfold gZ
  split at this
  ·exact this.1
  ·exact this.1
  ·exact ⟨this.1,this.2.1⟩
  ·cases this
 ·rcases hv with ⟨hw,w1,w2,⟨n,rfl⟩,hv⟩ | ⟨hw,rfl⟩
  ·have:=h n
   rw [if_pos hw] at this
   unfold UponS at this
   rcases hv with hv | ⟨hv,rfl⟩ | ⟨f,args,hv,hvc⟩
   ·rw [hv] at this;exact this.2
   ·rw [hv] at this;exact this.2
   ·rw [hv] at this;exact this.2.2 v hvc
  ·have:=h 0
   rwa [if_neg (by rw [hw];exact Bool.false_ne_true)] at this
theorem bD (hq:Q a):jV P ops (eJ w) VC Q [] a:=hq
/-! a region whose last operations (an append, a store) wait for all others -/
structure HInv (md:Region.Mode) (ops:Array Oper) (n:Nat) (listed:Array Bool):Prop where
 size:listed.size=ops.size
 closed:∀j o,ops[j]? = some o→listed.getD j false=true→∀e∈o.after,Region.binds md e=true→listed.getD e.on false=true
 tail:∀t,n≤t→t < ops.size→listed.getD t true=false
def cF (md:Region.Mode) (ops:Array Oper) (k j:Nat):Bool:=match ops[k]? with
 | some o=>o.after.any fun e=>Region.binds md e && e.on == j
 | none=>false
theorem mM {md:Region.Mode} {k j:Nat} (h:cF md ops k j=true):∃o,ops[k]? = some o∧∃e∈o.after,Region.binds md e=true∧e.on=j:=by
 unfold cF at h
 split at h
 ·rename_i o ho
  obtain ⟨e,he,hb⟩:=Array.any_eq_true'.1 h
  simp only [Bool.and_eq_true,beq_iff_eq] at hb
  exact ⟨o,ho,e,he,hb.1,hb.2⟩
 ·cases h
def vU (md:Region.Mode) (ops:Array Oper) (p n:Nat):Bool:=(List.range n).all fun j=>decide (j < p) || (List.range (n+1)).any fun k=>decide (j < k) && cF md ops k j
def qE (md:Region.Mode) (ops:Array Oper) (n:Nat):Bool:=(List.range ops.size).all fun t=>decide (t≤n) || cF md ops t (t - 1)
theorem fN {l:Array Bool} {i:Nat} (h:l.getD i true=false):l.getD i false=false:=by
 rcases Nat.lt_or_ge i l.size with hl | hl
 ·simp only [Array.getD_eq_getD_getElem?,Array.getElem?_eq_getElem hl,Option.getD_some] at h ⊢;exact h
 ·simp [Array.getElem?_eq_none hl] at h
theorem mN {l:Array Bool} {i:Nat} (hl:i < l.size) (h:l.getD i false=false):l.getD i true=false:=by
 simp only [Array.getD_eq_getD_getElem?,Array.getElem?_eq_getElem hl,Option.getD_some] at h ⊢;exact h
theorem Ef {md:Region.Mode} {p n:Nat} {listed:Array Bool} (hs:vU md ops p n=true) (hc:qE md ops n=true) (hn:n < ops.size) (inv:HInv md ops n listed) (hp:∀j,j < p→listed.getD j false=true) :
  ∀(d i:Nat),n - i=d→i < n→listed.getD i true=false→∀t,n≤t→t ∉ Region.ready md ops listed:=by
 intro d
 induction d using Nat.strongRecOn with
 | _ d ih =>
  intro i hd hi hun t ht hr
  have hip:¬ i < p:=fun h=>by have:=hp i h;rw [fN hun] at this;cases this
  have h1:=List.all_eq_true.1 hs i (List.mem_range.2 hi)
  simp only [Bool.or_eq_true,decide_eq_true_eq,hip,false_or,List.any_eq_true,List.mem_range,Bool.and_eq_true] at h1
  obtain ⟨k,hk,hik,hw⟩:=h1
  obtain ⟨ok,hok,e,he,hb,hon⟩:=mM hw
  have hks:k < ops.size:=(Array.getElem?_eq_some_iff.1 hok).1
  obtain ⟨hunt,ot,hot,hall⟩:=mem_ready.1 hr
  have htlt:t < ops.size:=(Array.getElem?_eq_some_iff.1 hot).1
  by_cases hkn:k=n
  ·subst hkn
   by_cases htk:t=k
   ·subst htk
    obtain rfl:ok=ot:=Option.some.inj (hok.symm.trans hot)
    have:=hall e he hb
    rw [hon,fN hun] at this;cases this
   ·have h2:=List.all_eq_true.1 hc t (List.mem_range.2 htlt)
    simp only [Bool.or_eq_true,decide_eq_true_eq] at h2
    rcases h2 with h2 | h2
    ·omega
    ·obtain ⟨o',ho',e',he',hb',hon'⟩:=mM h2
     obtain rfl:o'=ot:=Option.some.inj (ho'.symm.trans hot)
     have:=hall e' he' hb'
     rw [hon',fN (inv.tail (t - 1) (by omega) (by omega))] at this;cases this
  ·have hkl:listed.getD k false=false:=by
    cases hl:listed.getD k false with
    | false=>rfl
    | true=>have:=inv.closed k ok hok hl e he hb;rw [hon,fN hun] at this;cases this
   exact ih (n - k) (by omega) k rfl (by omega) (mN (by rw [inv.size];exact hks) hkl) t ht hr
theorem HInv.set {md:Region.Mode} {n j:Nat} {listed:Array Bool} (h:HInv md ops n listed) (hj:j∈Region.ready md ops listed) (hn:j < n):HInv md ops n (listed.setIfInBounds j true):=by
 refine ⟨by simpa using h.size,fun k o ho hl e he hb=>?_,fun t ht hts=>?_⟩
 ·by_cases hjk:j=k
  ·subst hjk
   obtain ⟨_,o',ho',hall⟩:=mem_ready.1 hj
   obtain rfl:o=o':=Option.some.inj (ho.symm.trans ho')
   exact getD_set_true (hall e he hb)
  ·rw [getD_set_ne false hjk] at hl
   exact getD_set_true (h.closed k o ho hl e he hb)
 ·rw [getD_set_ne true (by omega)];exact h.tail t ht hts
def Cw (P:Program) (md:Region.Mode) (ops:Array Oper) (C:World→Prop) (VC:FuncId→Array Value→Value→Prop) (n:Nat) (L:Array Bool→Act→Prop):Nat→Array Bool→Act→Prop
 | 0,listed,a=>L listed a
 | fuel+1,listed,a=>Region.ready md ops listed≠[] ∧
  ∀i∈Region.ready md ops listed,∀o,ops[i]? = some o→i < n∧kI P ops C VC o a∧∀v,gL P ops C VC o a v→Cw P md ops C VC n L fuel (listed.setIfInBounds i true) (a.put o.dst v)
theorem tH {md:Region.Mode} {p n:Nat} {L:Array Bool→Act→Prop} {w0:World} (h0:C w0) {i:Nat} {oi:Oper} (hi:ops[i]? = some oi) (hsel:∀(j:Nat) (o:Oper) cs b,ops[j]? = some o→o.op≠.select cs b)
  (hs:vU md ops p n=true) (hc:qE md ops n=true) (hn:n < ops.size) (hin:i < n) (hdone:∀listed a,L listed a→∀j∈Region.ready md ops listed,n≤j) :
  ∀(fuel:Nat) (listed:Array Bool) (a:Act),HInv md ops n listed→(∀j,j < p→listed.getD j false=true) →
   (∀j oj,ops[j]? = some oj→j≠i→listed.getD j true=false→(∀e∈oj.after,Region.binds md e=true→e.on≠i)→oi.apart ops oj=true) →
   i∈Region.ready md ops listed→kI P ops C VC oi a →
   (∀v,gL P ops C VC oi a v→Cw P md ops C VC n L fuel (listed.setIfInBounds i true) (a.put oi.dst v))→Cw P md ops C VC n L (fuel+1) listed a
 | 0,listed,a,inv,hp,_,hr,hg,H=>by
  have hun:=(mem_ready.1 hr).1
  refine ⟨fun e=>(by rw [e] at hr;cases hr),fun j hj o ho=>?_⟩
  have hjn:j < n:=by
   rcases Nat.lt_or_ge j n with h | h
   ·exact h
   ·exact absurd hj (Ef hs hc hn inv hp _ i rfl hin hun j h)
  by_cases hji:j=i
  ·subst hji
   obtain rfl:oi=o:=Option.some.inj (hi.symm.trans ho)
   exact ⟨hjn,hg,H⟩
  ·exfalso
   obtain ⟨v,hv⟩:=pA h0 hg
   have:=hdone _ _ (H v hv) j (ready_mono hj hji)
   omega
 | fuel+1,listed,a,inv,hp,hfree,hr,hg,H=>by
  have huni:=(mem_ready.1 hr).1
  refine ⟨fun e=>(by rw [e] at hr;cases hr),fun j hj oj hoj=>?_⟩
  have hjn:j < n:=by
   rcases Nat.lt_or_ge j n with h | h
   ·exact h
   ·exact absurd hj (Ef hs hc hn inv hp _ i rfl hin huni j h)
  by_cases hji:j=i
  ·subst hji
   obtain rfl:oi=oj:=Option.some.inj (hi.symm.trans hoj)
   exact ⟨hjn,hg,H⟩
  ·have hun:listed.getD j true=false:=(mem_ready.1 hj).1
   have hno:∀e∈oj.after,Region.binds md e=true→e.on≠i:=by
    intro e he hb hon
    obtain ⟨_,o',ho',hall⟩:=mem_ready.1 hj
    obtain rfl:oj=o':=Option.some.inj (hoj.symm.trans ho')
    have h1:=hall e he hb
    rw [hon,fN huni] at h1;cases h1
   obtain ⟨x1,x2,x3⟩:=Oper.apart_spec (hfree j oj hoj hji hun hno)
   have si:=fun cs b=>hsel i oi cs b hi
   have sj:=fun cs b=>hsel j oj cs b hoj
   have gj:∀v,(kI P ops C VC oj (a.put oi.dst v) ↔ kI P ops C VC oj a):=fun v=>oZ (execOp_put oj sj a oi.dst v x1) (wanted_put oj a oi.dst v x1)
   have vj:∀v u,(gL P ops C VC oj (a.put oi.dst v) u ↔ gL P ops C VC oj a u):=fun v u=>jH (execOp_put oj sj a oi.dst v x1) (wanted_put oj a oi.dst v x1)
   have gi:∀u,(kI P ops C VC oi (a.put oj.dst u) ↔ kI P ops C VC oi a):=fun u=>oZ (execOp_put oi si a oj.dst u x3) (wanted_put oi a oj.dst u x3)
   have vi:∀u v,(gL P ops C VC oi (a.put oj.dst u) v ↔ gL P ops C VC oi a v):=fun u v=>jH (execOp_put oi si a oj.dst u x3) (wanted_put oi a oj.dst u x3)
   obtain ⟨v0,hv0⟩:=pA h0 hg
   have hj':=ready_mono hj hji
   refine ⟨hjn,(gj v0).1 ((H v0 hv0).2 j hj' oj hoj).2.1,fun u hu=>?_⟩
   refine tH h0 hi hsel hs hc hn hin hdone fuel (listed.setIfInBounds j true) (a.put oj.dst u) (inv.set hj hjn) (fun q hq=>getD_set_true (hp q hq)) ?_ (ready_mono hr (Ne.symm hji)) ((gi u).2 hg) fun v hv=>?_
   ·intro k ok hk hki hun' hno'
    refine hfree k ok hk hki ?_ hno'
    by_cases hjk:j=k
    ·subst hjk;exact hun
    ·rw [getD_set_ne true hjk] at hun';exact hun'
   ·have:=((H v ((vi u v).1 hv)).2 j hj' oj hoj).2.2 u ((vj v u).2 hu)
    rw [Array.setIfInBounds_comm _ _ hji,←Act.put_comm a v u x2]
    exact this
theorem tI {md:Region.Mode} {p n g:Nat} {Lq:Act→Prop} {w0:World} (h0:C w0) (hsel:Region.noSelect ops=true) (hs:vU md ops p n=true) (hc:qE md ops n=true) (hn:n < ops.size) :
  ∀(l:List Oper) (k:Nat) (listed:Array Bool) (a:Act),(∀j,j < l.length→l[j]? = ops[k+j]?)→k+l.length=n→HInv md ops n listed→(∀j,j < p→listed.getD j false=true) →
  Region.lexHead md ops g l.length k listed=true→jV P ops C VC Lq l a →
  Cw P md ops C VC n (fun listed' a'=>Region.seqB md ops g n listed'=true∧Lq a') l.length listed a
 | [],k,listed,a,_,hk,_,_,hB,h=>by
  have:k=n:=by simpa using hk
  subst this
  exact ⟨by simpa [Region.lexHead] using hB,h⟩
 | o :: l,k,listed,a,hl,hk,inv,hp,hB,h=>by
  have hk0:ops[k]? = some o:=by simpa using (hl 0 (by simp)).symm
  simp only [List.length_cons,Region.lexHead,Bool.and_eq_true] at hB
  obtain ⟨⟨hr,hf⟩,hB'⟩:=hB
  have hkn:k < n:=by simp only [List.length_cons] at hk;omega
  have hr':k∈Region.ready md ops listed:=by simpa using hr
  refine tH h0 hk0 (Region.noSelect_spec hsel) hs hc hn hkn (fun listed' a' hL=>seqB_ready hL.1) l.length listed a inv hp (Region.free_spec hk0 hf) hr' h.1 fun v hv=>?_
  exact tI h0 hsel hs hc hn l (k+1) _ _ (fun j hj=>by have:=hl (j+1) (by simp;omega);simpa [Nat.add_assoc,Nat.add_comm 1 j] using this) (by simp only [List.length_cons] at hk;omega) (inv.set hr' hkn) (fun q hq=>getD_set_true (hp q hq)) hB' (h.2 v hv)
theorem gB {md:Region.Mode} {n g:Nat} {L:Array Bool→Act→Prop} {Q':Exit→Act→World→Prop} (hL:∀listed a w,C w→L listed a→wpAny P md ops Q' g listed a w):∀(fuel:Nat) (listed:Array Bool) (a:Act) (w:World),C w →
  Cw P md ops C VC n L fuel listed a→wpAny P md ops Q' (fuel+g) listed a w
 | 0,_,_,_,hw,h=>by rw [Nat.zero_add];exact hL _ _ _ hw h
 | fuel+1,listed,a,w,hw,h=>by
  rw [show fuel+1+g=(fuel+g)+1 by omega]
  refine ⟨fun e=>absurd e h.1,fun i hi=>?_⟩
  obtain ⟨_,o,ho,_⟩:=mem_ready.1 hi
  obtain ⟨_,hg,hv⟩:=h.2 i hi o ho
  unfold wpOp
  simp only [ho]
  by_cases hwant:Region.wanted o (yielded ops a.tmps)=true
  ·rw [if_pos hwant]
   left
   have hf:=hg hwant w hw
   unfold Oper.wp
   unfold gZ at hf
   split at hf
   ·rename_i v w' he
    rw [he]
    exact gB hL fuel _ _ w' hf (hv v (.inl ⟨hwant,w,w',hw,.inl he⟩))
   ·rename_i w' he
    rw [he]
    exact gB hL fuel _ _ w' hf (hv undef (.inl ⟨hwant,w,w',hw,.inr (.inl ⟨he,rfl⟩)⟩))
   ·rename_i f args w' he
    rw [he]
    obtain ⟨hC',hc⟩:=hf
    refine hc.mono fun e w'' ⟨v,hev,hC'',hvc⟩=>?_
    subst hev
    exact gB hL fuel _ _ w'' hC'' (hv v (.inl ⟨hwant,w,w',hw,.inr (.inr ⟨f,args,he,hvc⟩)⟩))
   ·cases hf
  ·have hwant':Region.wanted o (yielded ops a.tmps)=false:=by simpa using hwant
   rw [if_neg hwant]
   exact gB hL fuel _ _ w hw (hv undef (.inr ⟨hwant',rfl⟩))
def DV (ops:Array Oper) (n:Nat):Bool :=
 Region.noSelect ops && decide (n < ops.size) && vU .any ops 0 n && qE .any ops n && Region.lexHead .any ops (ops.size - n) n 0 (Array.replicate ops.size false)
theorem tJ {id:Nat} {Q:Exit→Act→World→Prop} {a:Act} {w:World} {l:List Oper} (n:Nat) (VC:FuncId→Array Value→Value→Prop) (hm:P.follows .mixedOrders=true) (hB:DV l.toArray n=true)
  (h:jV P l.toArray (eJ w) VC (fun a' => ∀w',eJ w w'→wpList P l.toArray Q (l.drop n) a' w') (l.take n) a):(Code.region id l.toArray true).wp P Q a w:=by
 simp only [DV,Bool.and_eq_true,decide_eq_true_eq] at hB
 obtain ⟨⟨⟨⟨hsel,hn⟩,hs⟩,hc⟩,hlex⟩:=hB
 have hn':n < l.length:=by simpa using hn
 have htl:(l.take n).length=n:=by simp;omega
 have hdl:(l.drop n).length=l.toArray.size - n:=by simp
 have gf:∀i,(Array.replicate l.toArray.size false).getD i false=false:=fun i=>by
  simp only [Array.getD_eq_getD_getElem?,Array.getElem?_replicate];split <;> rfl
 have inv0:HInv .any l.toArray n (Array.replicate l.toArray.size false) :=
  ⟨by simp,fun j oj _ hl=>(by rw [gf] at hl;cases hl),fun t _ ht=>mN (by simpa using ht) (gf t)⟩
 have hd:eJ w { w with drawn:=w.drawn+1 }:=⟨1,rfl⟩
 have H:=tI (VC:=VC) (md:=.any) (g:=l.toArray.size - n) hd hsel hs hc hn (l.take n) 0 _ a (fun j hj=>by
  have hj':j < n:=by rw [htl] at hj;exact hj
  simp [hj']) (by simpa using htl) inv0 (fun j hj=>by omega) (by rw [htl];exact hlex) h
 refine wp_region_any hm ?_
 have:=gB (Q':=Q) (g:=l.toArray.size - n) (fun listed a' w' hw' hL=>by
  have:=wpAny_of_seq (md:=.any) (Q':=Q) (l.drop n) n listed a' w' (fun j=>by simp [List.getElem?_drop]) (by rw [hdl];exact hL.1) (hL.2 w' hw')
  rwa [hdl] at this) _ _ _ _ hd H
 rw [htl,show n+(l.toArray.size - n)=l.toArray.size by omega] at this
 exact this
def Cx (ops:Array Oper) (n:Nat):Bool :=
 Region.noSelect ops && decide (n < ops.size) && decide (1≤n) && vU .any ops 1 n && qE .any ops n && (Region.ready .any ops (Array.replicate ops.size false)).contains 0 && Region.free .any ops (Array.replicate ops.size false) 0 &&
  Region.lexHead .any ops (ops.size - n) (n - 1) 1 ((Array.replicate ops.size false).setIfInBounds 0 true)
theorem mA {id:Nat} {Q:Exit→Act→World→Prop} {a:Act} {w:World} {o:Oper} {l:List Oper} (n:Nat) (x:Operand) (VC:FuncId→Array Value→Value→Prop) (hm:P.follows .mixedOrders=true) (hB:Cx (o :: l).toArray n=true)
  (ho:o.op=.move x) (hg:o.guard=none) (hQ:∀c b w,Q (.panic c) (b.put o.dst (a.eval x)) w→Q (.panic c) b w)
  (h:jV P (o :: l).toArray (eJ w) VC (fun a' => ∀w',eJ w w'→wpList P (o :: l).toArray Q ((o :: l).drop n) a' w') (l.take (n - 1)) (a.put o.dst (a.eval x))):(Code.region id (o :: l).toArray true).wp P Q a w:=by
 simp only [Cx,Bool.and_eq_true,decide_eq_true_eq] at hB
 obtain ⟨⟨⟨⟨⟨⟨⟨hsel,hn⟩,h1n⟩,hs⟩,hc⟩,hr0⟩,hf0⟩,hlex⟩:=hB
 have hn':n < l.length+1:=by simpa using hn
 have htl:(l.take (n - 1)).length=n - 1:=by simp;omega
 have hdl:((o :: l).drop n).length=(o :: l).toArray.size - n:=by simp
 have gf:∀i,(Array.replicate (o :: l).toArray.size false).getD i false=false:=fun i=>by
  simp only [Array.getD_eq_getD_getElem?,Array.getElem?_replicate];split <;> rfl
 have inv0:HInv .any (o :: l).toArray n (Array.replicate (o :: l).toArray.size false) :=
  ⟨by simp,fun j oj _ hl=>(by rw [gf] at hl;cases hl),fun t _ ht=>mN (by simpa using ht) (gf t)⟩
 have hr0':0∈Region.ready .any (o :: l).toArray (Array.replicate (o :: l).toArray.size false):=by simpa using hr0
 have hd:eJ w { w with drawn:=w.drawn+1 }:=⟨1,rfl⟩
 have h00:(o :: l).toArray[0]? = some o:=by simp
 have H:=tI (VC:=VC) (md:=.any) (p:=1) (g:=(o :: l).toArray.size - n) hd hsel hs hc hn (l.take (n - 1)) 1 ((Array.replicate (o :: l).toArray.size false).setIfInBounds 0 true) (a.put o.dst (a.eval x)) (fun j hj=>by
  have hj':j < n - 1:=by rw [htl] at hj;exact hj
  rw [List.getElem?_take,if_pos hj',Nat.add_comm 1 j];simp) (by rw [htl];omega) (inv0.set hr0' (by omega)) (fun j hj=>by
   obtain rfl:j=0:=by omega
   simp) (by rw [htl];exact hlex) h
 refine wp_region_any hm ?_
 have:=gB (Q':=Q) (g:=(o :: l).toArray.size - n) (fun listed a' w' hw' hL=>by
  have:=wpAny_of_seq (md:=.any) (Q':=Q) ((o :: l).drop n) n listed a' w' (fun j=>by rw [List.getElem?_drop];simp) (by rw [hdl];exact hL.1) (hL.2 w' hw')
  rwa [hdl] at this) _ _ _ _ hd H
 rw [htl] at this
 have hsz:(o :: l).toArray.size=(n - 1+((o :: l).toArray.size - n))+1:=by omega
 rw [show (wpAny P .any (o :: l).toArray Q (o :: l).toArray.size)=wpAny P .any (o :: l).toArray Q ((n - 1+((o :: l).toArray.size - n))+1) by rw [←hsz]]
 refine wpAny_take h00 hsel hf0 hr0 hQ (.inl ⟨by simp [Region.wanted,hg],fun w=>?_⟩) this
 simp [execOp,ho]
theorem aN {id:Nat} {Q:Exit→Act→World→Prop} {a:Act} {w:World} {l:List Oper} (VC:FuncId→Array Value→Value→Prop) (hm:P.follows .mixedOrders=true) (hB:Region.lexB .any l.toArray=true)
  (h:jV P l.toArray (eJ w) VC (fun a' => ∀w',eJ w w'→Q .normal a' w') l a):(Code.region id l.toArray true).wp P Q a w :=
 nV (eJ w) VC hm hB ⟨1,rfl⟩ h
end
end
section
open Go Go.RowKit
theorem F32s.below {w w':World} {ad:Option Addr} {cap:Nat} {xs:List Nat} (h:F32s w ad cap xs) (hb:Below w.heap.size w w'):F32s w' ad cap xs:=⟨h.len,h.cap,h.rd.below hb (J _),h.lt⟩
theorem Ints.below {k:IntKind} {w w':World} {ad:Option Addr} {cap:Nat} {xs:List Int} (h:Ints k w ad cap xs) (hb:Below w.heap.size w w'):Ints k w' ad cap xs:=⟨h.len,h.cap,h.rd.below hb (J _),h.wf⟩
theorem F32s.of_owns {w:World} {base n cap:Nat} {e:TypeId} {ad:Option Addr} {xs:List Nat} (h:w.ownsRow base e 1 (.slice ad n cap) n (xs.map (Value.float .f32))) (hx:∀x∈xs,x < 4294967296):n=xs.length∧F32s w ad cap xs:=by
 obtain ⟨ad',cap',e1,e2,e3,e4,_⟩:=Rd.of_owns h
 cases e1
 have hl:n=xs.length:=by have:=h.1;simpa using this.symm
 exact ⟨hl,by omega,e3,e4,hx⟩
theorem Ints.of_owns {k:IntKind} {w:World} {base n cap:Nat} {e:TypeId} {ad:Option Addr} {xs:List Int} (h:w.ownsRow base e 1 (.slice ad n cap) n (xs.map (Value.int k))) (hx:∀x∈xs,(Lit.int k x).wf=true):n=xs.length∧Ints k w ad cap xs:=by
 obtain ⟨ad',cap',e1,e2,e3,e4,_⟩:=Rd.of_owns h
 cases e1
 have hl:n=xs.length:=by have:=h.1;simpa using this.symm
 exact ⟨hl,by omega,e3,e4,hx⟩
theorem F32s.spot {w:World} {ad:Option Addr} {cap:Nat} {xs:List Nat} (h:F32s w ad cap xs) {k:Nat} (hk:k < xs.length):∃b off,ad=some ⟨b,off,none⟩∧b < w.heap.size∧∀j,j < xs.length→w.cell? ⟨b,off+j,none⟩=some (.float .f32 (xs.getD j 0)):=by
 obtain ⟨b,off,e,hb,hc⟩:=h.rd.spot (i:=k) (by simpa using hk)
 refine ⟨b,off,e,hb,fun j hj=>?_⟩
 rw [hc j (by simpa using hj),List.getElem?_map,List.getElem?_eq_getElem hj,List.getD_eq_getElem?_getD,List.getElem?_eq_getElem hj]
 rfl
theorem Eg {P:Program} {ops:Array Oper} {rest:List Oper} {o:Oper} {a:Act} {Q:Exit→Act→World→Prop} {e:TypeId} {W:World} {cs:Array Value} (hgd:o.guard=none) (s x:Operand) (t:TypeId)
  (ho:o.op=.call { callee:=.builtin .append,args:=#[s,x],argTypes:=#[t,t] })
  (base:Nat) (i:TypeInfo) (z:Value) (size bytes:Nat) (ht:P.underlying t=some (.slice e)) (hi:P.info? e=some i) (hz:i.zero=some z)
  (hsize:i.size=size) (hby:i.bytes=bytes) (hzs:z.cells.size=size) (hsz:0 < size)
  (hcs:cs.size=size) (h1:∀u∈cs.toList,u.oneCell'=true)
  (v:Value) (n:Nat) (xs:List Value) (hs:a.eval s=v) (hown:W.ownsRow base e size v n xs) (hx:a.eval x=.slice (some ⟨W.heap.size,0,none⟩) 1 1)
  (h63:n+1≤maxLen) (hbytes:(n+1) * bytes≤140737488355328) (hbase:base≤W.heap.size)
  (h:∀v' w',w'.ownsRow base e size v' (n+1) (xs ++ cs.toList)→Below base W w'→base≤w'.heap.size→wpList P ops Q rest (a.put o.dst v') w'):wpList P ops Q (o :: rest) a (W.alloc (.cells cs e)):=by
 refine wpList_append_own (W.alloc (.cells cs e)) hgd s x t ho base e i z size bytes ht hi hz hsize hby hzs hsz v n xs hs (hown.alloc _) ⟨W.heap.size,0,none⟩ 1 1 cs.toList hx (by simpa using hcs) ?_ h1 h63 hbytes (by simp;omega) ?_
 ·intro j u hj
  rw [Addr.add_lit,World.cell?_alloc_at _ _ _ _ rfl]
  simpa using hj
 ·intro v' w' h2 hg _
  refine h v' w' h2 (((O _ _).alloc hbase _).grown hg (by simp;omega) (fun j hj=>(hown.lt j hj).1)) ?_
  have:=hg.size
  simp at this
  omega
theorem Cy (x:Value) (h:x.oneCell'=true):∀u∈(#[x]:Array Value).toList,u.oneCell'=true:=by
 intro u hu
 simp at hu
 rw [hu];exact h
theorem nW {α:Type} {ys zs:List α} {k:Nat} {x:α} (h:ys.take k=zs.take k) (hk:k < ys.length) (hz:zs[k]? = some x):(ys.set k x).take (k+1)=zs.take (k+1):=by
 have hk2:k < zs.length:=(List.getElem?_eq_some_iff.1 hz).1
 rw [List.take_succ_eq_append_getElem (by simpa using hk),List.take_succ_eq_append_getElem hk2,List.take_set,List.set_eq_of_length_le (by simp;omega),h]
 simp [List.getElem?_eq_some_iff.1 hz |>.2]
def dP (k0 n:Nat):List Nat:=(List.range n).map fun i=>floatOfInt .f32 (k0+i:Nat)
theorem tK (k0 n:Nat):∀x∈dP k0 n,x < 4294967296:=by
 intro x hx
 obtain ⟨i,_,rfl⟩:=List.mem_map.1 hx
 exact FloatKind.f32.format.nearest_lt _ _ _
theorem gG (k0 n:Nat):(dP k0 n).length=n:=by simp [dP]
structure Row (w:World) (e:TypeId) (size lo hi:Nat) (v:Value) (n:Nat) (cs:List Value):Prop where
 own:w.ownsRow lo e size v n cs
 top:∀k,v.ownBlock=some k→k < hi
theorem Row.mk' {w:World} {e:TypeId} {size lo:Nat} {v:Value} {n:Nat} {cs:List Value} (h:w.ownsRow lo e size v n cs):Row w e size lo w.heap.size v n cs:=⟨h,fun k hk=>(h.lt k hk).2⟩
theorem oG {w w':World} {e:TypeId} {size lo:Nat} {v:Value} {n:Nat} {cs:List Value} (h:w.ownsRow lo e size v n cs) (hb:Below w.heap.size w w'):w'.ownsRow lo e size v n cs:=by
 refine ⟨h.1,?_⟩
 rcases h.2 with h2 | ⟨g,cap,cur,hv,hg,hh,r⟩
 ·exact .inl h2
 ·exact .inr ⟨g,cap,cur,hv,hg,by rw [hb.block g (Array.getElem?_eq_some_iff.1 hh).1];exact hh,r⟩
theorem Row.below {w w':World} {e:TypeId} {size lo hi:Nat} {v:Value} {n:Nat} {cs:List Value} (h:Row w e size lo hi v n cs) (hb:Below w.heap.size w w'):Row w' e size lo hi v n cs:=⟨oG h.own hb,h.top⟩
theorem Row.nil (w:World) (e:TypeId) (lo hi:Nat):Row w e 1 lo hi (.slice none 0 0) 0 []:=⟨World.ownsRow_nil _ _ _ _,fun k hk=>by cases hk⟩
theorem bW:(Tryz.prog.info? 28).map (fun i=>(i.zero,i.size,i.bytes))=some (some (.float .f32 0),1,4):=by kernel_rfl
theorem kM:(Tryz.prog.info? 2).map (fun i=>(i.zero,i.size,i.bytes))=some (some (.int .i64 0),1,8):=by kernel_rfl
theorem sC (ad:Option Addr) (cap:Nat) (xs:List Nat) (w:World) (h:F32s w ad cap xs) (hn:xs.length≤1048576) :
  Calls Tryz.prog 32 #[.slice ad xs.length cap] w fun e w'=>e=.returned (.slice (some ⟨w.heap.size,0,none⟩) xs.length xs.length) ∧
   w'.ownsRow w.heap.size 28 1 (.slice (some ⟨w.heap.size,0,none⟩) xs.length xs.length) xs.length (xs.map (Value.float .f32))∧Below w.heap.size w w':=by
 obtain ⟨i0,hi,hz0,hz1,hz2⟩:=info_parts bW
 obtain ⟨n,hN⟩:∃n,n=xs.length:=⟨_,rfl⟩
 rw [←hN] at hn ⊢
 have HN:=I hN;clear hN
 go_enter Tryz.func32,Tryz.ntmps32
 go_wp2_with (at_make;refine wpList_make_full _ rfl _ _ 25 rfl w.heap.size 28 i0 (.float .f32 0) 1 Tryz.underlying25 hi hz0 hz1 .i64 .i64 _ _ n rfl rfl rfl rfl ?c1 ?c2 ?c3 ?_)
 case c1=>rw [hz2];omega
 case c2=>unfold maxLen;omega
 case c3=>exact J _
 intro w1 hown hg
 have hb1:Below w.heap.size w w1:=(O _ _).grown hg (J _) (fun k e=>by cases e)
 obtain ⟨ys,hys⟩:∃ys:List Value,ys=(madeCells #[Value.float .f32 0] n).toList:=⟨_,rfl⟩
 rw [←hys] at hown
 have hyl:ys.length=n:=by have:=hown.1;omega
 clear hys hg
 have HY:=I hyl;clear hyl
 go_wp2
 go_loopw [4] (fun i wr => ∃k:Nat,i=.int .i64 k∧k≤n∧∃ys:List Value,wr.ownsRow w.heap.size 28 1 (.slice (some ⟨w.heap.size,0,none⟩) n n) n ys∧ys.length=n∧ys.take k=(xs.map (Value.float .f32)).take k∧Below w.heap.size w wr) (fun i _=>n - (intOf i).toNat)
 case atStart=>exact ⟨0,rfl,Nat.zero_le _,ys,hown,HY.out,by simp,hb1⟩
 case round =>
  clear hown hb1 HY
  obtain ⟨k,rfl,hk,zs,hown,hzl,htk,hb⟩:=hrel
  have HZ:=I hzl;have HT:=I htk;clear hzl htk
  by_cases hlt:k < n
  ·obtain ⟨b,off,rfl,hbl,hc⟩:=h.spot (k:=k) (by rw [←HN.out];exact hlt)
   have hcell:wr.cell? ⟨b,off+k,none⟩=some (.float .f32 (xs.getD k 0)):=(hb.cell (p:=⟨b,off+k,none⟩) hbl).trans (hc k (by rw [←HN.out];exact hlt))
   obtain ⟨x,hx⟩:∃x,x=xs.getD k 0:=⟨_,rfl⟩
   rw [←hx] at hcell
   have HX:=I hx;clear hx hc
   have hd:wr.cell? ⟨w.heap.size,k,none⟩=some (zs[k]'(by rw [HZ.out];exact hlt)):=by rw [hown.cellAt k (by omega),List.getElem?_eq_getElem (by rw [HZ.out];exact hlt)]
   obtain ⟨y,hy⟩:∃y,y=zs[k]'(by rw [HZ.out];exact hlt):=⟨_,rfl⟩
   rw [←hy] at hd
   clear hy
   have hfz:=hown.frozenAt k
   have hst:=hown.stored k (.float .f32 x)
   go_wp2
   go_roundw
   case rel =>
    refine ⟨k+1,by go_num,hlt,zs.set k (.float .f32 x),hst.1,by simpa using HZ.out,nW HT.out (by rw [HZ.out];exact hlt) ?_,hb.setCell (J _) _⟩
    have hkx:k < xs.length:=by rw [←HN.out];exact hlt
    rw [List.getElem?_map,List.getElem?_eq_getElem hkx,HX.out,List.getD_eq_getElem?_getD,List.getElem?_eq_getElem hkx]
    rfl
   case measure=>simp [intOf];omega
  ·have hkn:k=n:=by omega
   subst hkn
   go_wp2
   go_ret
   refine ⟨rfl,?_,hb⟩
   have e1:=HT.out
   rw [List.take_of_length_le (by rw [HZ.out];exact J _),List.take_of_length_le (by simp [HN.out])] at e1
   rw [←e1]
   exact hown
theorem iM (ad1 ad2:Option Addr) (c1 c2:Nat) (xs ys:List Nat) (w:World) (h1:F32s w ad1 c1 xs) (h2:F32s w ad2 c2 ys) (hn:xs.length≤1048576) (he:xs.map (cn .f32)=ys.map (cn .f32)) :
  Calls Tryz.prog 12 #[.slice ad1 xs.length c1,.slice ad2 ys.length c2] w fun e w'=>e=.returned (.bool true)∧Dr w w':=by
 have hl:xs.length=ys.length:=by have:=congrArg List.length he;simpa using this
 rw [←hl]
 obtain ⟨n,hN⟩:∃n,n=xs.length:=⟨_,rfl⟩
 have HL:=I hl;clear hl
 rw [←hN] at hn ⊢
 have HN:=I hN;clear hN
 have HE:=I he;clear he
 go_enter Tryz.func12,Tryz.ntmps12
 go_wp2
 go_loopw [5] (fun i wr => ∃k:Nat,i=.int .i64 k∧k≤n∧Dr w wr) (fun i _=>n - (intOf i).toNat)
 case atStart=>exact ⟨0,rfl,Nat.zero_le _,Dr.refl _⟩
 case round =>
  obtain ⟨k,rfl,hk,hdr⟩:=hrel
  have h1:=h1.below hdr.below
  have h2:=h2.below hdr.below
  by_cases hlt:k < n
  ·obtain ⟨b,off,rfl,_,hc⟩:=h1.spot (k:=k) (by rw [←HN.out];exact hlt)
   obtain ⟨b',off',rfl,_,hc'⟩:=h2.spot (k:=k) (by rw [←HL.out,←HN.out];exact hlt)
   have hcell:=hc k (by rw [←HN.out];exact hlt)
   have hcell':=hc' k (by rw [←HL.out,←HN.out];exact hlt)
   obtain ⟨x,hx⟩:∃x,x=xs.getD k 0:=⟨_,rfl⟩
   obtain ⟨y,hy⟩:∃y,y=ys.getD k 0:=⟨_,rfl⟩
   rw [←hx] at hcell
   rw [←hy] at hcell'
   have hxy:cn .f32 x=cn .f32 y:=by
    have hkx:k < xs.length:=by rw [←HN.out];exact hlt
    have hky:k < ys.length:=by rw [←HL.out];exact hkx
    have e1:=congrArg (fun l=>l[k]?) HE.out
    simp only [List.getElem?_map,List.getElem?_eq_getElem hkx,List.getElem?_eq_getElem hky,Option.map_some,Option.some.injEq] at e1
    rw [hx,hy,List.getD_eq_getElem?_getD,List.getD_eq_getElem?_getD,List.getElem?_eq_getElem hkx,List.getElem?_eq_getElem hky]
    exact e1
   have HXY:=I hxy;clear hxy hx hy hc hc'
   have HD:=I hdr;clear hdr h1 h2
   go_wp2
   refine aN (fun f args v=>v=.bool true) (by kernel_rfl) (by kernel_rfl) ?_
   repeat (refine aV (fun K hK nq=>?_);go_simp;refine hK _ ?_;clear hK K)
   refine aV (fun K hK nq=>?_)
   go_simp
   refine ⟨(nU _ _ (by rw [sN,sN,HXY.out]) _).mono ?_,?_⟩
   ·rintro e w' ⟨rfl,q,rfl⟩
    exact ⟨rfl,_,World.drewN_drewN _ _ _⟩
   refine hK _ ?_
   clear hK K
   repeat (refine aV (fun K hK nq=>?_);go_simp;refine hK _ ?_;clear hK K)
   refine bD ?_
   rintro w' ⟨q,rfl⟩
   go_wp2
   go_roundw
   case rel=>exact ⟨k+1,by go_num,hlt,by obtain ⟨q',hq⟩:=HD.out;exact ⟨_,by rw [hq,World.drewN_drewN]⟩⟩
   case measure=>simp [intOf];omega
  ·go_wp2
   go_ret
   exact ⟨rfl,hdr⟩
theorem gH (base:Nat) (ad:Option Addr) (cap n:Nat) (ys:List Value) (k0:Nat) (w:World) (hn:n≤1048576) (hk0:k0≤100000000) (h:w.ownsRow base 28 1 (.slice ad n cap) n ys) :
  Calls Tryz.prog 18 #[.slice ad n cap,.int .i64 k0] w fun e w'=>e=.returned (.int .i64 (k0+n:Nat)) ∧
   w'.ownsRow base 28 1 (.slice ad n cap) n ((dP k0 n).map (Value.float .f32))∧w.grownBy w' (Value.slice ad n cap).ownBlock:=by
 have hyl:ys.length=n:=by have:=h.1;omega
 have HY:=I hyl;clear hyl
 go_enter Tryz.func18,Tryz.ntmps18
 go_wp2
 go_loopw [1,5] (fun q i wr => ∃k:Nat,i=.int .i64 k∧q=.int .i64 (k0+k:Nat)∧k≤n∧∃ys:List Value,wr.ownsRow base 28 1 (.slice ad n cap) n ys∧ys.length=n∧ys.take k=((dP k0 n).map (Value.float .f32)).take k∧w.grownBy wr (Value.slice ad n cap).ownBlock) (fun _ i _=>n - (intOf i).toNat)
 case atStart=>exact ⟨0,rfl,rfl,Nat.zero_le _,ys,h,HY.out,by simp,⟨rfl,rfl,rfl,J _,fun _ _ _=>rfl⟩⟩
 case round =>
  obtain ⟨k,rfl,rfl,hk,zs,hown,hzl,htk,hb⟩:=hrel
  have HZ:=I hzl;have HT:=I htk;clear hzl htk h HY
  by_cases hlt:k < n
  ·obtain ⟨g,cap',hform⟩:=Joins.ownsRow_form hown (by omega)
   have had:ad=some ⟨g,0,none⟩:=by cases hform;rfl
   clear hform
   subst had
   have hd:wr.cell? ⟨g,k,none⟩=some (zs[k]'(by rw [HZ.out];exact hlt)):=by rw [hown.cellAt k (by omega),List.getElem?_eq_getElem (by rw [HZ.out];exact hlt)]
   obtain ⟨y,hy⟩:∃y,y=zs[k]'(by rw [HZ.out];exact hlt):=⟨_,rfl⟩
   rw [←hy] at hd
   clear hy
   have hfz:=hown.frozenAt k
   have hst:=hown.stored k (.float .f32 (floatOfInt .f32 (k0+k:Nat)))
   go_wp2
   go_roundw
   case rel =>
    refine ⟨k+1,by go_num,by go_num,hlt,zs.set k (.float .f32 (floatOfInt .f32 (k0+k:Nat))),hst.1,by simpa using HZ.out,nW HT.out (by rw [HZ.out];exact hlt) ?_,?_⟩
    ·rw [dP,List.map_map,List.getElem?_map,List.getElem?_range hlt];rfl
    ·have hg2:=hst.2
     exact ⟨hg2.os.trans hb.os,hg2.tape.trans hb.tape,hg2.output.trans hb.output,Nat.le_trans hb.size hg2.size,fun i hi hne=>(hg2.block i (by have:=hb.size;omega) hne).trans (hb.block i hi hne)⟩
   case measure=>simp [intOf];omega
  ·have hkn:k=n:=by omega
   subst hkn
   go_wp2
   go_ret
   refine ⟨rfl,?_,hb⟩
   have e1:=HT.out
   rw [List.take_of_length_le (by rw [HZ.out];exact J _),List.take_of_length_le (by simp [dP])] at e1
   rw [←e1]
   exact hown
theorem jX (ad:Option Addr) (cap n:Nat) (xs:List Nat) (k0:Nat) (w:World) (hn:n≤1048576) (hk0:k0≤100000000) (h:F32s w ad cap xs) (hx:xs=dP k0 n) :
  Calls Tryz.prog 19 #[.slice ad n cap,.int .i64 k0] w fun e w'=>e=.returned (.int .i64 (k0+n:Nat))∧w=w':=by
 have hxl:xs.length=n:=by rw [hx];simp [dP]
 have HX:=I hx;clear hx
 have HL:=I hxl;clear hxl
 go_enter Tryz.func19,Tryz.ntmps19
 go_wp2
 go_loop [1,5] (fun q i => ∃k:Nat,i=.int .i64 k∧q=.int .i64 (k0+k:Nat)∧k≤n) (fun _ i=>n - (intOf i).toNat)
 case atStart=>exact ⟨0,rfl,rfl,Nat.zero_le _⟩
 case round =>
  obtain ⟨k,rfl,rfl,hk⟩:=hrel
  by_cases hlt:k < n
  ·obtain ⟨b,off,rfl,_,hc⟩:=h.spot (k:=k) (by rw [HL.out];exact hlt)
   have hcell:=hc k (by rw [HL.out];exact hlt)
   have e1:xs.getD k 0=floatOfInt .f32 (k0+k:Nat):=by
    rw [HX.out,dP,List.getD_eq_getElem?_getD,List.getElem?_map,List.getElem?_range hlt];rfl
   rw [e1] at hcell
   have ho:FloatKind.f32.format.order (floatOfInt .f32 (k0+k:Nat)) (floatOfInt .f32 (k0+k:Nat))=some .eq:=by rw [fY,mL];rfl
   have ec:((k0+k:Nat):Int)=(k0:Int)+k:=by omega
   rw [ec] at hcell ho
   clear e1 ec hc
   go_wp2
   go_round
   case rel=>exact ⟨k+1,by go_num,by go_num,hlt⟩
   case measure=>simp [intOf];omega
  ·have hkn:k=n:=by omega
   go_wp2
   go_ret
   exact ⟨rfl,rfl⟩
structure Touch (lo hi:Nat) (w w':World):Prop where
 os:w'.os=w.os
 tape:w'.tape=w.tape
 output:w'.output=w.output
 size:w.heap.size≤w'.heap.size
 block:∀k,k < w.heap.size→(k < lo∨hi≤k)→w'.heap[k]? = w.heap[k]?
theorem Touch.of_grown {w w':World} {e:TypeId} {size lo hi:Nat} {v:Value} {n:Nat} {cs:List Value} (h:Row w e size lo hi v n cs) (hg:w.grownBy w' v.ownBlock):Touch lo hi w w' :=
 ⟨hg.os,hg.tape,hg.output,hg.size,fun k hk hd=>hg.block k hk fun e3=>by have h3:=(h.own.lt k e3.symm).1;have h4:=h.top k e3.symm;omega⟩
theorem Touch.of_below {lo hi:Nat} {w w':World} (h:Below w.heap.size w w'):Touch lo hi w w':=⟨h.os,h.tape,h.output,h.size,fun k hk _=>h.block k hk⟩
theorem Touch.refl (lo hi:Nat) (w:World):Touch lo hi w w:=⟨rfl,rfl,rfl,J _,fun _ _ _=>rfl⟩
theorem Touch.trans {lo hi:Nat} {a b c:World} (h:Touch lo hi a b) (k:Touch lo hi b c):Touch lo hi a c :=
 ⟨k.os.trans h.os,k.tape.trans h.tape,k.output.trans h.output,Nat.le_trans h.size k.size,fun i hi hd=>(k.block i (Nat.lt_of_lt_of_le hi h.size) hd).trans (h.block i hi hd)⟩
theorem Touch.mono {lo hi lo' hi':Nat} {a b:World} (h:Touch lo hi a b) (h1:lo'≤lo) (h2:hi≤hi'):Touch lo' hi' a b:=⟨h.os,h.tape,h.output,h.size,fun k hk hd=>h.block k hk (by omega)⟩
theorem jY {w0 w w':World} {lo hi:Nat} (hb:Below w0.heap.size w0 w) (ht:Touch lo hi w w') (hl:w0.heap.size≤lo):Below w0.heap.size w0 w' :=
 hb.trans ⟨ht.os,ht.tape,ht.output,ht.size,fun k hk=>ht.block k (Nat.lt_of_lt_of_le hk hb.size) (.inl (by omega))⟩
theorem Row.touch {w w':World} {e:TypeId} {size lo hi lo2 hi2:Nat} {v:Value} {n:Nat} {cs:List Value} (h:Row w e size lo hi v n cs) (ht:Touch lo2 hi2 w w') (hd:hi≤lo2∨hi2≤lo):Row w' e size lo hi v n cs:=by
 refine ⟨⟨h.own.1,?_⟩,h.top⟩
 rcases h.own.2 with h2 | ⟨g,cap,cur,hv,hg,hh,r⟩
 ·exact .inl h2
 ·have h4:=h.top g (by rw [hv];rfl)
  exact .inr ⟨g,cap,cur,hv,hg,by rw [ht.block g (Array.getElem?_eq_some_iff.1 hh).1 (by omega)];exact hh,r⟩
theorem Row.bounds {w:World} {e:TypeId} {size lo hi lo' hi':Nat} {v:Value} {n:Nat} {cs:List Value} (h:Row w e size lo hi v n cs) (h1:lo'≤lo) (h2:hi≤hi'):Row w e size lo' hi' v n cs :=
 ⟨Joins.ownsRow_le h.own h1,fun k hk=>Nat.lt_of_lt_of_le (h.top k hk) h2⟩
structure RepF (w:World) (lo hi:Nat) (ad:Option Addr) (n cap:Nat) (xs:List Nat):Prop where
 row:Row w 28 1 lo hi (.slice ad n cap) n (xs.map (Value.float .f32))
 len:xs.length=n
 lt:∀x∈xs,x < 4294967296
theorem RepF.arg {w:World} {lo hi:Nat} {ad:Option Addr} {n cap:Nat} {xs:List Nat} (h:RepF w lo hi ad n cap xs):F32s w ad cap xs:=(F32s.of_owns h.row.own h.lt).2
theorem RepF.below {w w':World} {lo hi:Nat} {ad:Option Addr} {n cap:Nat} {xs:List Nat} (h:RepF w lo hi ad n cap xs) (hb:Below w.heap.size w w'):RepF w' lo hi ad n cap xs:=⟨h.row.below hb,h.len,h.lt⟩
theorem RepF.touch {w w':World} {lo hi lo2 hi2:Nat} {ad:Option Addr} {n cap:Nat} {xs:List Nat} (h:RepF w lo hi ad n cap xs) (ht:Touch lo2 hi2 w w') (hd:hi≤lo2∨hi2≤lo):RepF w' lo hi ad n cap xs:=⟨h.row.touch ht hd,h.len,h.lt⟩
theorem RepF.bounds {w:World} {lo hi lo' hi':Nat} {ad:Option Addr} {n cap:Nat} {xs:List Nat} (h:RepF w lo hi ad n cap xs) (h1:lo'≤lo) (h2:hi≤hi'):RepF w lo' hi' ad n cap xs:=⟨h.row.bounds h1 h2,h.len,h.lt⟩
theorem RepF.nil (w:World) (lo hi:Nat):RepF w lo hi none 0 0 []:=⟨Row.nil _ _ _ _,rfl,fun x hx=>nomatch hx⟩
theorem RepF.of_owns {w:World} {lo:Nat} {v:Value} {n:Nat} {xs:List Nat} (h:w.ownsRow lo 28 1 v n (xs.map (Value.float .f32))) (hx:∀x∈xs,x < 4294967296):∃ad cap,v=.slice ad n cap∧RepF w lo w.heap.size ad n cap xs:=by
 obtain ⟨ad,cap,rfl,_⟩:=Rd.of_owns h
 exact ⟨ad,cap,rfl,Row.mk' h,by have:=h.1;simpa using this,hx⟩
theorem Eh (w:World) (ad:Option Addr) (cap:Nat) (xs:List Nat) (h:F32s w ad cap xs) (hn:xs.length≤1048576) :
  Calls Tryz.prog 32 #[.slice ad xs.length cap] w fun e w' => ∃ad' cap',e=.returned (.slice ad' xs.length cap')∧RepF w' w.heap.size w'.heap.size ad' xs.length cap' xs∧Below w.heap.size w w' :=
 (sC ad cap xs w h hn).mono fun e w' ⟨he,ho,hb⟩=>⟨_,_,he,⟨Row.mk' ho,rfl,h.lt⟩,hb⟩
theorem Ei (w:World) {lo hi:Nat} {ad:Option Addr} {n cap:Nat} {xs:List Nat} (k0:Nat) (h:RepF w lo hi ad n cap xs) (hn:n≤1048576) (hk:k0≤100000000) :
  Calls Tryz.prog 18 #[.slice ad n cap,.int .i64 k0] w fun e w'=>e=.returned (.int .i64 (k0+n:Nat))∧RepF w' lo hi ad n cap (dP k0 n)∧Touch lo hi w w' :=
 (gH lo ad cap n _ k0 w hn hk h.row.own).mono fun e w' ⟨he,ho,hg⟩=>⟨he,⟨⟨ho,h.row.top⟩,gG _ _,tK _ _⟩,Touch.of_grown h.row hg⟩
structure RepI (w:World) (lo hi:Nat) (ad:Option Addr) (n cap:Nat) (xs:List Int):Prop where
 row:Row w 2 1 lo hi (.slice ad n cap) n (xs.map (Value.int .i64))
 len:xs.length=n
 lt:∀x∈xs,(Lit.int .i64 x).wf=true
theorem RepI.arg {w:World} {lo hi:Nat} {ad:Option Addr} {n cap:Nat} {xs:List Int} (h:RepI w lo hi ad n cap xs):Ints .i64 w ad cap xs:=(Ints.of_owns h.row.own h.lt).2
def bA (n:Nat) (f:Nat→Nat):List Nat:=(List.range n).map f
theorem zE (k:Nat) (f:Nat→Nat):bA (k+1) f=bA k f ++ [f k]:=by simp [bA,List.range_succ]
theorem aJ (n:Nat) (f:Nat→Nat):(bA n f).length=n:=by simp [bA]
theorem gC {n k:Nat} (f:Nat→Nat) (h:k < n):(bA n f).getD k 0=f k:=by simp [bA,h]
theorem lF {n:Nat} {f g:Nat→Nat} (h:∀i,i < n→f i=g i):bA n f=bA n g:=List.map_congr_left fun i hi=>h i (List.mem_range.1 hi)
theorem bT:cn .f32 0=0:=by decide +kernel
theorem bO (xs:List Nat) (k:Nat):(xs.map (cn .f32)).getD k 0=cn .f32 (xs.getD k 0):=by
 simp only [List.getD_eq_getElem?_getD,List.getElem?_map]
 cases xs[k]? with
 | none=>simp [bT]
 | some x=>rfl
theorem DW {xs:List Nat} {n k:Nat} {f:Nat→Nat} (h:xs.map (cn .f32)=bA n f) (hk:k < n):cn .f32 (xs.getD k 0)=f k:=by
 rw [←bO,h,gC f hk]
theorem Dr.drewN {w w':World} (h:Dr w w') (n:Nat):Dr w (w'.drewN n):=by
 obtain ⟨m,rfl⟩:=h
 exact ⟨m+n,by simp [World.drewN,Nat.add_assoc]⟩
def Ds (X Y:List Nat):Nat→Nat
 | 0=>0
 | k+1=>dQ .add .f32 (Ds X Y k) (dQ .mul .f32 (X.getD k 0) (Y.getD k 0))
def sD (X:List Nat):Nat→Nat
 | 0=>0
 | k+1=>dQ .add .f32 (sD X k) (X.getD k 0)
def Fm (n m:Nat):Bool:=decide (1≤n) && decide (n≤256) && decide (n=m)
theorem Cz (w:World) (a1:Option Addr) (c1:Nat) (xs:List Nat) (h1:F32s w a1 c1 xs) (a2:Option Addr) (c2:Nat) (ys:List Nat) (h2:F32s w a2 c2 ys) (hl:xs.length=ys.length) :
  Calls Tryz.prog 138 #[.slice a1 xs.length c1,.slice a2 ys.length c2] w fun e w' => ∃r,e=.returned (.float .f32 r)∧Hid (cn .f32 r=Ds (xs.map (cn .f32)) (ys.map (cn .f32)) xs.length∧r < 4294967296)∧Dr w w':=by
 obtain ⟨X,hX⟩:∃X,X=xs.map (cn .f32):=⟨_,rfl⟩
 obtain ⟨Y,hY⟩:∃X,X=ys.map (cn .f32):=⟨_,rfl⟩
 rw [←hX,←hY]
 have hm:=Nat.le_trans h1.len h1.cap
 unfold maxLen at hm
 obtain ⟨n,e1⟩:∃n,n=xs.length:=⟨_,rfl⟩
 have e2:n=ys.length:=e1.trans hl
 rw [←e1] at hm
 rw [←e1,←e2]
 have E1:=I e1;have E2:=I e2;have HX:=I hX;have HY:=I hY
 clear e1 e2 hl hX hY
 go_enter Tryz.func138,Tryz.ntmps138
 go_wp2
 go_loopw [5,9] (fun v i wr => ∃k:Nat,i=.int .i64 k∧k≤n∧∃s:Nat,v=.float .f32 s∧s < 4294967296∧cn .f32 s=Ds X Y k∧Dr w wr) (fun _ i _=>n - (intOf i).toNat)
 case atStart=>exact ⟨0,rfl,Nat.zero_le _,0,rfl,by decide,bT,Dr.refl _⟩
 case round =>
  obtain ⟨k,rfl,hk,s,rfl,hsl,hs,hdr⟩:=hrel
  have h1:=h1.below hdr.below
  have h2:=h2.below hdr.below
  have HS:=I hs;have HD:=I hdr;clear hs hdr
  by_cases hlt:k < n
  ·have hk1:k < xs.length:=by rw [←E1.out];exact hlt
   have hk2:k < ys.length:=by rw [←E2.out];exact hlt
   obtain ⟨bx,offx,rfl,_,hqx⟩:=F32s.spot h1 (k:=k) hk1
   have hcx:=hqx k hk1
   obtain ⟨x,px⟩:∃x,x=xs.getD k 0:=⟨_,rfl⟩
   rw [←px] at hcx
   have Px:=I px;clear px hqx
   obtain ⟨bu,offu,rfl,_,hqu⟩:=F32s.spot h2 (k:=k) hk2
   have hcy:=hqu k hk2
   obtain ⟨u,pu⟩:∃x,x=ys.getD k 0:=⟨_,rfl⟩
   rw [←pu] at hcy
   have Pu:=I pu;clear pu hqu
   clear h1 h2
   go_wp2
   refine aN (fun f args v=>False) (by kernel_rfl) (by kernel_rfl) ?_
   repeat (refine aV (fun K hK nq=>?_);go_simp;refine hK _ ?_;clear hK K)
   refine bD ?_
   rintro w' ⟨q,rfl⟩
   go_wp2
   go_roundw
   case rel=>exact ⟨k+1,by go_num,hlt,_,rfl,bL _ .f32 _ _ _,by rw [bE,bE,HS.out,Px.out,Pu.out,←bO,←bO,←HX.out,←HY.out];rfl,HD.out.drewN _⟩
   case measure=>simp [intOf];omega
  ·have hkn:k=n:=by omega
   subst hkn
   go_wp2
   go_ret
   exact ⟨_,rfl,I ⟨HS.out,hsl⟩,HD.out⟩
theorem Au (w:World) (a1:Option Addr) (c1:Nat) (xs:List Nat) (h1:F32s w a1 c1 xs) :
  Calls Tryz.prog 124 #[.slice a1 xs.length c1] w fun e w' => ∃r,e=.returned (.float .f32 r)∧Hid (cn .f32 r=sD (xs.map (cn .f32)) xs.length∧r < 4294967296)∧Dr w w':=by
 obtain ⟨X,hX⟩:∃X,X=xs.map (cn .f32):=⟨_,rfl⟩
 rw [←hX]
 have hm:=Nat.le_trans h1.len h1.cap
 unfold maxLen at hm
 obtain ⟨n,e1⟩:∃n,n=xs.length:=⟨_,rfl⟩
 rw [←e1] at hm
 rw [←e1]
 have E1:=I e1;have HX:=I hX
 clear e1 hX
 go_enter Tryz.func124,Tryz.ntmps124
 go_wp2
 go_loopw [3,8] (fun v i wr => ∃k:Nat,i=.int .i64 k∧k≤n∧∃s:Nat,v=.float .f32 s∧s < 4294967296∧cn .f32 s=sD X k∧Dr w wr) (fun _ i _=>n - (intOf i).toNat)
 case atStart=>exact ⟨0,rfl,Nat.zero_le _,0,rfl,by decide,bT,Dr.refl _⟩
 case round =>
  obtain ⟨k,rfl,hk,s,rfl,hsl,hs,hdr⟩:=hrel
  have h1:=h1.below hdr.below
  have HS:=I hs;have HD:=I hdr;clear hs hdr
  by_cases hlt:k < n
  ·have hk1:k < xs.length:=by rw [←E1.out];exact hlt
   obtain ⟨bx,offx,rfl,_,hqx⟩:=F32s.spot h1 (k:=k) hk1
   have hcx:=hqx k hk1
   obtain ⟨x,px⟩:∃x,x=xs.getD k 0:=⟨_,rfl⟩
   rw [←px] at hcx
   have Px:=I px;clear px hqx
   clear h1
   go_wp2
   go_roundw
   case rel=>exact ⟨k+1,by go_num,hlt,_,rfl,bL _ .f32 _ _ _,by rw [bE,HS.out,Px.out,←bO,←HX.out];rfl,HD.out.drewN _⟩
   case measure=>simp [intOf];omega
  ·have hkn:k=n:=by omega
   subst hkn
   go_wp2
   go_ret
   exact ⟨_,rfl,I ⟨HS.out,hsl⟩,HD.out⟩
theorem zF (w:World) (a1:Option Addr) (c1:Nat) (xs:List Nat) (h1:F32s w a1 c1 xs) :
  Calls Tryz.prog 113 #[.slice a1 xs.length c1] w fun e w' => ∃r,e=.returned (.float .f32 r)∧Hid (cn .f32 r=sD (xs.map (cn .f32)) xs.length∧r < 4294967296)∧Dr w w':=by
 obtain ⟨X,hX⟩:∃X,X=xs.map (cn .f32):=⟨_,rfl⟩
 rw [←hX]
 have hm:=Nat.le_trans h1.len h1.cap
 unfold maxLen at hm
 obtain ⟨n,e1⟩:∃n,n=xs.length:=⟨_,rfl⟩
 rw [←e1] at hm
 rw [←e1]
 have E1:=I e1;have HX:=I hX
 clear e1 hX
 go_enter Tryz.func113,Tryz.ntmps113
 go_wp2
 go_loopw [3,4] (fun v i wr => ∃k:Nat,i=.int .i64 k∧k≤n∧∃s:Nat,v=.float .f32 s∧s < 4294967296∧cn .f32 s=sD X k∧Dr w wr) (fun _ i _=>n - (intOf i).toNat)
 case atStart=>exact ⟨0,rfl,Nat.zero_le _,0,rfl,by decide,bT,Dr.refl _⟩
 case round =>
  obtain ⟨k,rfl,hk,s,rfl,hsl,hs,hdr⟩:=hrel
  have h1:=h1.below hdr.below
  have HS:=I hs;have HD:=I hdr;clear hs hdr
  by_cases hlt:k < n
  ·have hk1:k < xs.length:=by rw [←E1.out];exact hlt
   obtain ⟨bx,offx,rfl,_,hqx⟩:=F32s.spot h1 (k:=k) hk1
   have hcx:=hqx k hk1
   obtain ⟨x,px⟩:∃x,x=xs.getD k 0:=⟨_,rfl⟩
   rw [←px] at hcx
   have Px:=I px;clear px hqx
   clear h1
   go_wp2
   go_roundw
   case rel=>exact ⟨k+1,by go_num,hlt,_,rfl,bL _ .f32 _ _ _,by rw [bE,HS.out,Px.out,←bO,←HX.out];rfl,HD.out.drewN _⟩
   case measure=>simp [intOf];omega
  ·have hkn:k=n:=by omega
   subst hkn
   go_wp2
   go_ret
   exact ⟨_,rfl,I ⟨HS.out,hsl⟩,HD.out⟩
theorem RepF.open {w:World} {lo hi:Nat} {ad:Option Addr} {n cap:Nat} {zs:List Nat} (h:RepF w lo hi ad n cap zs) (hp:0 < n) :
  ∃g,ad=some ⟨g,0,none⟩∧lo≤g∧(∀k,k < n→w.cell? ⟨g,k,none⟩=some (.float .f32 (zs.getD k 0)))∧(∀k,w.frozen? ⟨g,k,none⟩=false) ∧
   (∀k y,y < 4294967296→RepF (w.setCell ⟨g,k,none⟩ (.float .f32 y)) lo hi (some ⟨g,0,none⟩) n cap (zs.set k y)):=by
 obtain ⟨hrow,hlen,hlt⟩:=h
 obtain ⟨g,cap',hform⟩:=Joins.ownsRow_form hrow.own hp
 have had:ad=some ⟨g,0,none⟩:=by cases hform;rfl
 clear hform
 subst had
 refine ⟨g,rfl,(hrow.own.lt g rfl).1,fun k hk=>?_,fun k=>hrow.own.frozenAt k,fun k y hy=>⟨⟨?_,?_⟩,?_,?_⟩⟩
 ·rw [hrow.own.cellAt k (by omega),List.getElem?_map,List.getD_eq_getElem?_getD,List.getElem?_eq_getElem (by omega)];rfl
 ·rw [List.map_set];exact (hrow.own.stored k (.float .f32 y)).1
 ·exact hrow.top
 ·rw [List.length_set];exact hlen
 ·intro x hx
  rcases List.mem_or_eq_of_mem_set hx with hx | rfl
  ·exact hlt x hx
  ·exact hy
theorem RepF.setAt {w:World} {lo hi g n cap:Nat} {zs:List Nat} (h:RepF w lo hi (some ⟨g,0,none⟩) n cap zs) (k y:Nat) (hy:y < 4294967296) (hp:0 < n):RepF (w.setCell ⟨g,k,none⟩ (.float .f32 y)) lo hi (some ⟨g,0,none⟩) n cap (zs.set k y):=by
 obtain ⟨g',hg,_,_,_,hs⟩:=h.open hp
 obtain rfl:g=g':=by simpa using hg
 exact hs k y hy
end
end Go.Proofs.YtpadlmidojpbeaaGreat
