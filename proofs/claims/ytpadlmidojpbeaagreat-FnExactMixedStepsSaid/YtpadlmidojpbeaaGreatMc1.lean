/- Joined texts 1. No condition. -/
import Derived.Laws.BitsAllLaws
import Derived.Laws.Runes
import GoSem.Extern.MathSqrt
import Derived.Deep.RegionWith
import Derived.Lib.Hide
import Derived.RegionTactic
import Derived.BigRegion
import Derived.Laws.AppendOwnNone
import Derived.Test.YtpadlmidojpbeaaGreatMc0
set_option linter.unusedVariables false
set_option linter.unusedSimpArgs false
set_option maxRecDepth 100000
set_option maxHeartbeats 64000000
namespace Go.Proofs.YtpadlmidojpbeaaGreat
section
open Go Ieee
def dY (f:Format) (r:Nat):Nat:=if r < f.binade then r else (f.binade+r % f.binade) * 2 ^ (r / f.binade - 1)
theorem vV (f:Format) (r:Nat):dY f r < dY f (r+1):=by
 have hb:0 < f.binade:=Nat.two_pow_pos _
 unfold dY
 by_cases h1:r+1 < f.binade
 ·rw [if_pos (by omega),if_pos h1];omega
 ·rw [if_neg h1]
  by_cases h2:r < f.binade
  ·rw [if_pos h2]
   have e:r+1=f.binade:=by omega
   rw [e,Nat.mod_self,Nat.div_self hb]
   simp;omega
  ·rw [if_neg h2]
   have hd:=Nat.div_add_mod r f.binade
   have hm:=Nat.mod_lt r hb
   have hq:1≤r / f.binade:=(Nat.le_div_iff_mul_le hb).2 (by omega)
   by_cases h3:r % f.binade+1 < f.binade
   ·have e1:(r+1) / f.binade=r / f.binade:=by
     rw [Nat.div_eq_iff (by omega)]
     have:r / f.binade * f.binade=f.binade * (r / f.binade):=Nat.mul_comm _ _
     constructor <;> omega
    have e2:(r+1) % f.binade=r % f.binade+1:=by
     have:=Nat.div_add_mod (r+1) f.binade
     rw [e1] at this;omega
    rw [e1,e2]
    exact Nat.mul_lt_mul_of_pos_right (by omega) (Nat.two_pow_pos _)
   ·have e0:r % f.binade=f.binade - 1:=by omega
    have e1:(r+1) / f.binade=r / f.binade+1:=by
     rw [Nat.div_eq_iff (by omega),Nat.add_mul]
     have:r / f.binade * f.binade=f.binade * (r / f.binade):=Nat.mul_comm _ _
     constructor <;> omega
    have e2:(r+1) % f.binade=0:=by
     have:=Nat.div_add_mod (r+1) f.binade
     rw [e1,Nat.mul_add] at this;omega
    rw [e1,e2,e0,show r / f.binade+1 - 1=(r / f.binade - 1)+1 by omega,Nat.pow_succ]
    have hp:=Nat.two_pow_pos (r / f.binade - 1)
    rw [Nat.add_zero,Nat.mul_comm (2 ^ (r / f.binade - 1)) 2,←Nat.mul_assoc]
    exact Nat.mul_lt_mul_of_pos_right (by omega) hp
theorem nL {f:Format} {x y:Nat} (h:x < y):dY f x < dY f y:=by
 induction y with
 | zero=>omega
 | succ y ih =>
  by_cases e:x=y
  ·subst e;exact vV f x
  ·exact Nat.lt_trans (ih (by omega)) (vV f y)
theorem zG {f:Format} {x y:Nat}:dY f x < dY f y ↔ x < y:=by
 constructor
 ·intro h
  rcases Nat.lt_trichotomy x y with h1 | h1 | h1
  ·exact h1
  ·subst h1;omega
  ·have:=nL (f:=f) h1;omega
 ·exact nL
theorem zH {f:Format} {x y:Nat} (h:dY f x=dY f y):x=y:=by
 rcases Nat.lt_trichotomy x y with h1 | h1 | h1
 ·have:=nL (f:=f) h1;omega
 ·exact h1
 ·have:=nL (f:=f) h1;omega
theorem qF (f:Format):dY f 0=0:=by unfold dY;rw [if_pos (show 0 < f.binade from Nat.two_pow_pos _)]
theorem iA (f:Format) (neg:Bool) {r:Nat} (h:r < f.infRung):∃m p,f.read (f.word neg r)=.number neg m p∧f.leastPlace≤p∧m <<< (p - f.leastPlace).toNat=dY f r:=by
 rw [gM f neg (Nat.lt_trans h f.infRung_lt)]
 unfold dY
 by_cases h1:r < f.binade
 ·rw [if_pos h1,if_pos h1]
  exact ⟨r,f.leastPlace,rfl,Int.le_refl _,by simp⟩
 ·rw [if_neg h1,if_pos h,if_neg h1]
  refine ⟨_,_,rfl,by omega,?_⟩
  rw [Nat.shiftLeft_eq]
  congr 2
  omega
theorem zI (f:Format) (hb:f.binade≤f.infRung) (neg:Bool):f.read (f.word neg f.infRung)=.infinity neg:=by
 rw [gM f neg f.infRung_lt,if_neg (by omega),if_neg (by omega),if_pos rfl]
theorem pB (s:Bool) (m k:Nat) (d:Nat):signed s m (k+d)=signed s m k * (2 ^ d:Nat):=by
 unfold signed
 simp only [Nat.shiftLeft_eq,Nat.pow_add]
 split <;> simp [←Nat.mul_assoc,Int.neg_mul]
theorem vW (s:Bool) (m k:Nat):signed s m k=if s=true then -((m <<< k:Nat):Int) else ((m <<< k:Nat):Int):=by
 unfold signed;cases s <;> simp
theorem uX (a b:Int) (d:Nat):compare (a * (2 ^ d:Nat)) (b * (2 ^ d:Nat))=compare a b:=by
 have hp:(0:Int) < ((2 ^ d:Nat):Int):=by exact_mod_cast Nat.two_pow_pos d
 simp only [compare,compareOfLessAndEq]
 have h1:a * ((2 ^ d:Nat):Int) < b * ((2 ^ d:Nat):Int) ↔ a < b:=⟨fun h=>Int.lt_of_mul_lt_mul_right h (Int.le_of_lt hp),fun h=>Int.mul_lt_mul_of_pos_right h hp⟩
 have h2:a * ((2 ^ d:Nat):Int)=b * ((2 ^ d:Nat):Int) ↔ a=b:=⟨fun h=>Int.eq_of_mul_eq_mul_right (by omega) h,fun h=>by rw [h]⟩
 simp only [h1,h2]
theorem uY {s t:Bool} {m n:Nat} {p q l:Int} (hp:l≤p) (hq:l≤q) :
  (Datum.number s m p).order (.number t n q)=some (compare (signed s m (p - l).toNat) (signed t n (q - l).toNat)):=by
 simp only [Datum.order]
 congr 1
 have hb:l≤min p q:=by omega
 have e1:(p - l).toNat=(p - min p q).toNat+(min p q - l).toNat:=by omega
 have e2:(q - l).toNat=(q - min p q).toNat+(min p q - l).toNat:=by omega
 rw [e1,e2,pB,pB,uX]
def Dt (f:Format) (neg:Bool) (r:Nat):Int:=if neg=true then -(dY f r:Int) else (dY f r:Int)
theorem vX (f:Format) (s t:Bool) {x y:Nat} (hx:x < f.infRung) (hy:y < f.infRung):f.order (f.word s x) (f.word t y)=some (compare (Dt f s x) (Dt f t y)):=by
 obtain ⟨m,p,e1,e2,e3⟩:=iA f s hx
 obtain ⟨n,q,e4,e5,e6⟩:=iA f t hy
 unfold Format.order
 rw [e1,e4,uY e2 e5,vW,vW,e3,e6]
 rfl
theorem zJ (a b:Nat):compare (a:Int) (b:Int)=compare a b:=by
 simp only [compare,compareOfLessAndEq,Int.ofNat_lt,Int.natCast_inj]
theorem gP (f:Format) {x y:Nat} (hx:x < f.infRung) (hy:y < f.infRung):f.order x y=some (compare x y):=by
 have:=vX f false false hx hy
 have e1:f.word false x=x:=rfl
 have e2:f.word false y=y:=rfl
 rw [e1,e2] at this
 rw [this]
 simp only [Dt,Bool.false_eq_true,if_false]
 rw [zJ]
 congr 1
 have h1:(dY f x < dY f y)=(x < y):=propext zG
 have h2:(dY f x=dY f y)=(x=y):=propext ⟨zH,fun e=>by rw [e]⟩
 show compareOfLessAndEq _ _ = compareOfLessAndEq _ _
 unfold compareOfLessAndEq
 simp only [h1,h2]
/-! the greater and the less of two numbers -/
def Du (k:FloatKind) (x y:Nat):Option Nat:=match k.format.order x y with
 | none=>none
 | some .lt=>some y
 | some .gt=>some x
 | some .eq=>some (if (k.decode x).neg=true then y else x)
def Dv (k:FloatKind) (x y:Nat):Option Nat:=match k.format.order x y with
 | none=>none
 | some .lt=>some x
 | some .gt=>some y
 | some .eq=>some (if (k.decode x).neg=true then x else y)
theorem Bo {P:Program} (w:World) (A:Array TypeId) (T:TypeId) (k:FloatKind) (x y z:Nat) (h:Du k x y=some z):(Builtin.max_ A T #[.float k x,.float k y]).run P w=.ok (.float k z) w:=by
 unfold Du at h
 cases ho:k.format.order x y with
 | none=>rw [ho] at h;cases h
 | some c=>cases c <;> (rw [ho] at h;simp only [Option.some.injEq] at h;subst h;simp [Builtin.max_,Builtin.max2,ho])
theorem Bp {P:Program} (w:World) (A:Array TypeId) (T:TypeId) (k:FloatKind) (x y z:Nat) (h:Dv k x y=some z):(Builtin.min_ A T #[.float k x,.float k y]).run P w=.ok (.float k z) w:=by
 unfold Dv at h
 cases ho:k.format.order x y with
 | none=>rw [ho] at h;cases h
 | some c=>cases c <;> (rw [ho] at h;simp only [Option.some.injEq] at h;subst h;simp [Builtin.min_,Builtin.min2,ho])
theorem CA (f:Format) (neg:Bool) {r:Nat} (h:r≤f.infRung):(f.read (f.word neg r)).neg=neg:=by
 rw [gM f neg (Nat.lt_of_le_of_lt h f.infRung_lt)]
 split
 ·rfl
 ·split
  ·rfl
  ·rw [if_pos (by omega)];rfl
theorem lG (f:Format) (neg:Bool) (m:Nat) (p:Int):∃r,f.nearest neg m p=f.word neg r∧r≤f.infRung:=by
 unfold Format.nearest
 split
 ·exact ⟨0,rfl,Nat.zero_le _⟩
 ·exact ⟨_,rfl,Nat.min_le_right ..⟩
theorem xE (f:Format) {x:Nat} (h:x < 2 * f.signWeight):∃neg r,x=f.word neg r∧r < f.signWeight:=by
 by_cases hx:x < f.signWeight
 ·exact ⟨false,x,rfl,hx⟩
 ·exact ⟨true,x - f.signWeight,by unfold Format.word;simp;omega,by omega⟩
theorem tL (f:Format) (hb:f.binade≤f.infRung) (neg:Bool) {r:Nat} (h1:f.infRung < r) (h2:r < f.signWeight):(f.read (f.word neg r)).isNaN=true:=qB f hb neg r h1 h2
theorem fO:single.binade≤single.infRung:=by decide +kernel
theorem xF {s a b:Nat} (hs:s < 4294967296) (ha:0 < a) (ha2:a < single.infRung) (hb2:b < single.infRung)
  (h1:single.order s a=some .gt∨single.order s a=some .eq) (h2:single.order s b=some .lt∨single.order s b=some .eq):a≤s∧s≤b:=by
 obtain ⟨neg,r,rfl,hr⟩:=xE single (x:=s) (by have:single.signWeight=2147483648:=by decide +kernel
                                             omega)
 by_cases hfin:r < single.infRung
 ·cases neg
  ·have e:single.word false r=r:=rfl
   rw [e] at h1 h2 ⊢
   rw [gP single hfin ha2] at h1
   rw [gP single hfin hb2] at h2
   constructor
   ·rcases h1 with h1 | h1
    ·have:=Nat.compare_eq_gt.1 (Option.some.inj h1);omega
    ·have:=Nat.compare_eq_eq.1 (Option.some.inj h1);omega
   ·rcases h2 with h2 | h2
    ·have:=Nat.compare_eq_lt.1 (Option.some.inj h2);omega
    ·have:=Nat.compare_eq_eq.1 (Option.some.inj h2);omega
  ·exfalso
   have:=vX single true false hfin ha2
   have e:single.word false a=a:=rfl
   rw [e] at this
   rw [this] at h1
   simp only [Dt,if_true,Bool.false_eq_true,if_false] at h1
   have hp:0 < dY single a:=by have:=nL (f:=single) ha;rw [qF] at this;exact this
   have hlt : -(dY single r:Int) < (dY single a:Int):=by omega
   rw [show compare (-(dY single r:Int)) (dY single a:Int)=.lt from by simp [compare,compareOfLessAndEq,hlt]] at h1
   rcases h1 with h1 | h1 <;> cases h1
 ·by_cases hinf:r=single.infRung
  ·subst hinf
   have e1:=zI single fO neg
   obtain ⟨m,p,e2,_⟩:=iA single false ha2
   obtain ⟨m',p',e3,_⟩:=iA single false hb2
   have e4:single.word false a=a:=rfl
   have e5:single.word false b=b:=rfl
   rw [e4] at e2;rw [e5] at e3
   unfold Format.order at h1 h2
   rw [e1,e2] at h1
   rw [e1,e3] at h2
   cases neg
   ·simp [Datum.order] at h2
   ·simp [Datum.order] at h1
  ·exfalso
   have:=tL single fO neg (by omega) hr
   have hn:eR .f32 (single.word neg r)=true:=this
   rw [show single.order (single.word neg r) a=none from eH (k:=.f32) (.inl hn)] at h1
   rcases h1 with h1 | h1 <;> cases h1
theorem CB {s:Nat} (h0:0 < s) (h1:s < single.infRung):∃r,floatBits .quo .f32 s 1073741824=some r∧(single.read r).neg=false∧eR .f32 r=false:=by
 obtain ⟨m,p,e1,_,e3⟩:=iA single false h1
 have e0:single.word false s=s:=rfl
 rw [e0] at e1
 have e2:single.read 1073741824=.number false 8388608 (-22):=by decide +kernel
 have hm:m≠0:=by
  intro e;subst e
  have:=nL (f:=single) h0
  rw [qF,←e3] at this;simp at this
 have:∃m' p',floatBits .quo .f32 s 1073741824=some (single.nearest false m' p'):=by
  show ∃m' p',((single.read s).quotient (single.fractionBits+2) (single.read 1073741824)).map single.write=some _
  rw [e1,e2]
  exact ⟨_,_,rfl⟩
 obtain ⟨m',p',e⟩:=this
 obtain ⟨r,hr,hle⟩:=lG single false m' p'
 exact ⟨_,e,by rw [hr];exact CA single false hle,mJ single false m' p'⟩
theorem Bq {s:Nat} (h0:0 < s) (h1:s < single.infRung):∃r,floatBits .mul .f32 1073741824 s=some r∧floatBits .mul .f32 s 1073741824=some r∧r≤single.infRung:=by
 obtain ⟨m,p,e1,_,e3⟩:=iA single false h1
 have e0:single.word false s=s:=rfl
 rw [e0] at e1
 have e2:single.read 1073741824=.number false 8388608 (-22):=by decide +kernel
 have h3:floatBits .mul .f32 1073741824 s=some (single.nearest false (8388608 * m) (-22+p)):=by
  show ((single.read 1073741824).product (single.read s)).map single.write=some _
  rw [e1,e2];rfl
 have h4:floatBits .mul .f32 s 1073741824=some (single.nearest false (8388608 * m) (-22+p)):=by
  show ((single.read s).product (single.read 1073741824)).map single.write=some _
  rw [e1,e2,Nat.mul_comm 8388608 m,Int.add_comm (-22) p];rfl
 obtain ⟨r,hr,hle⟩:=lG single false (8388608 * m) (-22+p)
 rw [hr] at h3 h4
 exact ⟨_,h3,h4,hle⟩
theorem zK {x y:Nat} (hx:x≤single.infRung) (hy:y < single.infRung) (h:single.order x y=some .eq):x=y:=by
 by_cases hfin:x < single.infRung
 ·rw [gP single hfin hy] at h
  exact Nat.compare_eq_eq.1 (Option.some.inj h)
 ·exfalso
  obtain rfl:x=single.infRung:=by omega
  have e1:=zI single fO false
  obtain ⟨m,p,e2,_⟩:=iA single false hy
  have e4:single.word false y=y:=rfl
  have e5:single.word false single.infRung=single.infRung:=rfl
  rw [e4] at e2;rw [e5] at e1
  unfold Format.order at h
  rw [e1,e2] at h
  simp [Datum.order] at h
end
section
open Go Go.RowKit Ieee
def eT (x:Nat):Bool:=match single.read x with
 | .number .. => true
 | _=>false
theorem zL {x:Nat} (h:eT x=true):eR .f32 x=false:=by
 unfold eT at h
 unfold eR
 show (single.read x).isNaN=false
 cases hd:single.read x with
 | nan s t=>rw [hd] at h;cases h
 | infinity s=>rw [hd] at h;cases h
 | number s m p=>rfl
theorem xG {x:Nat} (h:eT x=true):floatBits .sub .f32 x x=some 0:=by
 show ((single.read x).sum (single.read x).opposite).map single.write=some 0
 unfold eT at h
 cases hd:single.read x with
 | nan s t=>rw [hd] at h;cases h
 | infinity s=>rw [hd] at h;cases h
 | number s m p =>
  have hs:∀k,signed s m k+signed (!s) m k=0:=by intro k;unfold signed;cases s <;> simp <;> omega
  simp only [Datum.sum,Datum.opposite,hs,Option.map_some]
  cases s <;> simp [Format.write,Format.nearest,Format.word]
theorem xH {x:Nat} (h:eT x=false):floatBits .sub .f32 x x=none:=by
 show ((single.read x).sum (single.read x).opposite).map single.write=none
 unfold eT at h
 cases hd:single.read x with
 | nan s t=>rfl
 | infinity s=>cases s <;> rfl
 | number s m p=>rw [hd] at h;cases h
theorem mO (x:Nat) (w:World):(FloatKind.f32.format.order (dH .sub .f32 x x w) 0 == some .eq)=eT x:=by
 cases h:eT x
 ·have hn:eR .f32 (dH .sub .f32 x x w)=true:=by
   unfold dH
   rw [xH h]
   exact qC .f32 x x _
  rw [eH (.inl hn)];rfl
 ·rw [jF (xG h)]
  have:FloatKind.f32.format.order 0 0=some .eq:=by decide +kernel
  rw [this];rfl
theorem uZ (x:Nat) (w:World):Calls Tryz.prog 73 #[.float .f32 x] w fun e w'=>e=.returned (.bool (eT x))∧Dr w w':=by
 have h:=fun w=>mO x w
 go_enter Tryz.func73,Tryz.ntmps73
 go_wp2
 go_ret
 exact ⟨rfl,_,rfl⟩
theorem jI (x:Nat) (w:World):Calls Tryz.prog 58 #[.float .f32 x] w fun e w'=>e=.returned (.bool (eT x))∧Dr w w':=by
 have h:=fun w=>mO x w
 go_enter Tryz.func58,Tryz.ntmps58
 go_wp2
 go_ret
 exact ⟨rfl,_,rfl⟩
theorem rE (x:Nat) (w:World):(callFunc 90 #[.float .f32 x]).run Tryz.prog w=.ok (.value (.int .u32 (x:Nat))) w:=by
 rw [run_callFunc_extern (show Tryz.prog.funcs[90]? = some Tryz.f90 by kernel_rfl) (by kernel_rfl) (by kernel_rfl) (by kernel_rfl) (e:=Extern.MathFloatBits.float32bits) (by kernel_rfl)]
 rfl
theorem xI (x:Nat) (hx:x < 4294967296) (w:World):Calls Tryz.prog 130 #[.float .f32 x] w fun e w'=>e=.returned (.int .i64 (cn .f32 x:Nat))∧w=w':=by
 have hd:=rE
 cases h:eR .f32 x
 ·have ho:FloatKind.f32.format.order x x=some .eq:=by rw [fY,h];rfl
  rw [dR h]
  clear h
  go_enter Tryz.func130,Tryz.ntmps130
  go_wp2
  go_ret
  exact ⟨rfl,rfl⟩
 ·have ho:FloatKind.f32.format.order x x=none:=by rw [fY,h];rfl
  rw [lC h]
  clear h
  go_enter Tryz.func130,Tryz.ntmps130
  go_wp2
  go_ret
  exact ⟨rfl,rfl⟩
end
section
open Go Ieee
theorem Br (neg:Bool) {n low d:Nat} (h:n=low * 2 ^ d):Toward.even.cut neg n d=low:=by
 unfold Toward.cut
 have hg:∃g,1 <<< min d (n.log2+2)=g∧n / g=low∧n % g=0∧0 < g:=by
  by_cases h0:n=0
  ·have hl:low=0:=by
    rcases Nat.eq_zero_or_pos low with e | e
    ·exact e
    ·have:=Nat.mul_pos e (Nat.two_pow_pos d);omega
   subst h0
   exact ⟨_,rfl,by rw [hl];simp,by simp,by rw [Nat.shiftLeft_eq];have:=Nat.two_pow_pos (min d (Nat.log2 0+2));omega⟩
  ·have hd:d≤n.log2+2:=by
    have hl:1≤low:=by
     rcases Nat.eq_zero_or_pos low with e | e
     ·subst e;simp at h;exact absurd h h0
     ·exact e
    have h1:2 ^ d≤n:=by rw [h];exact Nat.le_mul_of_pos_left _ hl
    have h2:=(Nat.le_log2 h0).2 h1
    omega
   refine ⟨2 ^ d,by rw [Nat.min_eq_left hd,Nat.shiftLeft_eq,Nat.one_mul],?_,?_,Nat.two_pow_pos d⟩
   ·rw [h,Nat.mul_div_cancel _ (Nat.two_pow_pos d)]
   ·rw [h,Nat.mul_mod_left]
 obtain ⟨g,e1,e2,e3,e4⟩:=hg
 simp only [e1,e2,e3]
 have:¬ (g < 2 * 0):=by omega
 have h2:(g == 2 * 0)=false:=by simp;omega
 simp [h2]
theorem lH {m a:Nat} (hm:m≠0):(m * 2 ^ a).log2=m.log2+a:=by
 have hp:=Nat.two_pow_pos a
 have hne:m * 2 ^ a≠0:=Nat.mul_ne_zero hm (by omega)
 apply Nat.le_antisymm
 ·have:(m * 2 ^ a).log2 < m.log2+a+1:=(Nat.log2_lt hne).2 (by
   have:=Nat.lt_log2_self (n:=m)
   rw [show m.log2+a+1=(m.log2+1)+a by omega,Nat.pow_add]
   exact Nat.mul_lt_mul_of_pos_right this hp)
  omega
 ·refine (Nat.le_log2 hne).2 ?_
  rw [Nat.pow_add]
  exact Nat.mul_le_mul_right _ (Nat.log2_self_le hm)
theorem rF (f:Format) (neg:Bool) {m r a b:Nat} {p:Int} (hr:r < f.infRung) (hv:m * 2 ^ a=dY f r * 2 ^ b) (hp:(a:Int) - b=p - f.leastPlace):f.nearest neg m p=f.word neg r:=by
 have hB:f.binade=2 ^ f.fractionBits:=rfl
 have hBp:0 < f.binade:=Nat.two_pow_pos _
 by_cases hm:m=0
 ·subst hm
  have h0:dY f r=0:=by
   rcases Nat.eq_zero_or_pos (dY f r) with e | e
   ·exact e
   ·have:=Nat.mul_pos e (Nat.two_pow_pos b);rw [Nat.zero_mul] at hv;omega
  have:r=0:=zH (f:=f) (by rw [h0,qF])
  subst this
  unfold Format.nearest
  rw [if_pos rfl]
 have hN:dY f r≠0:=by
  intro e;rw [e,Nat.zero_mul] at hv
  have:=Nat.mul_pos (Nat.pos_of_ne_zero hm) (Nat.two_pow_pos a);omega
 have hlog:m.log2+a=(dY f r).log2+b:=by rw [←lH hm,←lH hN,hv]
 -- the kept digits and the place of the last
 have hK:∃K s:Nat,dY f r=K * 2 ^ s∧s * f.binade+K=r∧max (f.leastPlace+(dY f r).log2 - (f.fractionBits:Nat)) f.leastPlace=f.leastPlace+s:=by
  by_cases h1:r < f.binade
  ·have e:dY f r=r:=by unfold dY;rw [if_pos h1]
   refine ⟨r,0,by rw [e];simp,by simp,?_⟩
   rw [e]
   have:r.log2 < f.fractionBits:=(Nat.log2_lt (by rw [e] at hN;exact hN)).2 (by rw [←hB];exact h1)
   omega
  ·have e:dY f r=(f.binade+r % f.binade) * 2 ^ (r / f.binade - 1):=by unfold dY;rw [if_neg h1]
   have hq:1≤r / f.binade:=(Nat.le_div_iff_mul_le hBp).2 (by omega)
   have hd:=Nat.div_add_mod r f.binade
   have hmod:=Nat.mod_lt r hBp
   refine ⟨_,_,e,?_,?_⟩
   ·have h2:(r / f.binade - 1) * f.binade+f.binade=f.binade * (r / f.binade):=by
     rw [Nat.mul_comm f.binade,←Nat.succ_mul];congr 1;omega
    omega
   ·have hne:f.binade+r % f.binade≠0:=by omega
    have hl:(f.binade+r % f.binade).log2=f.fractionBits:=by
     apply Nat.le_antisymm
     ·have:(f.binade+r % f.binade).log2 < f.fractionBits+1:=(Nat.log2_lt hne).2 (by rw [Nat.pow_succ,←hB];omega)
      omega
     ·exact (Nat.le_log2 hne).2 (by rw [←hB];omega)
    rw [e,lH hne,hl]
    omega
 obtain ⟨K,s,hK1,hK2,hK3⟩:=hK
 have hlast:max (p+m.log2 - (f.fractionBits:Nat)) f.leastPlace=f.leastPlace+s:=by
  rw [←hK3]
  congr 1
  omega
 unfold Format.nearest
 rw [if_neg hm]
 simp only [hlast]
 have hv2:m * 2 ^ a=K * 2 ^ (s+b):=by rw [hv,hK1,Nat.pow_add,Nat.mul_assoc]
 have hcut:Toward.even.cut neg (m <<< (p - (f.leastPlace+(s:Int))).toNat) (f.leastPlace+(s:Int) - p).toNat=K:=by
  apply Br
  rw [Nat.shiftLeft_eq]
  apply Nat.eq_of_mul_eq_mul_right (Nat.two_pow_pos (s+b))
  by_cases h:s+b≤a
  ·have e1:(p - (f.leastPlace+(s:Int))).toNat=a - (s+b):=by omega
   have e2:(f.leastPlace+(s:Int) - p).toNat=0:=by omega
   rw [e1,e2,Nat.pow_zero,Nat.mul_one,Nat.mul_assoc,←Nat.pow_add,show a - (s+b)+(s+b)=a by omega,hv2]
  ·have e1:(p - (f.leastPlace+(s:Int))).toNat=0:=by omega
   have e2:(f.leastPlace+(s:Int) - p).toNat=s+b - a:=by omega
   rw [e1,e2,Nat.pow_zero,Nat.mul_one,Nat.mul_assoc]
   have:m * 2 ^ (s+b)=m * 2 ^ a * 2 ^ (s+b - a):=by rw [Nat.mul_assoc,←Nat.pow_add,show a+(s+b - a)=s+b by omega]
   rw [this,hv2,Nat.mul_assoc,Nat.mul_comm (2 ^ (s+b)) (2 ^ (s+b - a))]
 rw [hcut,show (f.leastPlace+(s:Int) - f.leastPlace).toNat=s by omega,hK2,Nat.min_eq_left (Nat.le_of_lt hr)]
theorem Dw:single.signWeight=2147483648:=by decide +kernel
theorem Ej:single.infRung=2139095040:=by decide +kernel
theorem Ek {k k2:FloatKind} {b:Nat} {s:Bool} {m:Nat} {e:Int} (hd:k.decode b=.number s m e) (hne:k≠k2) (hi:lD k b k2=false) (w:World):iL k b k2 w=k2.format.nearest s m e:=by
 unfold lD at hi
 rw [if_neg hne,hd] at hi
 simp only at hi
 unfold iL
 rw [if_neg hne,hd]
 simp only
 rw [hi]
 rfl
end
section
open Go Go.RowKit Ieee
@[go_sem] theorem run_neg_f {P:Program} (w:World) (k:FloatKind) (b:Nat):(Op.unary .neg (.float k b)).run P w=.ok (.float k (Op.negFloat k b)) w:=rfl
theorem Dx (f:Format) (neg:Bool) {r:Nat} (h:r < f.signWeight):f.word neg r < 2 * f.signWeight:=by
 unfold Format.word;split <;> omega
theorem Dy {b:Nat} (w:World) (h:lD .f64 b .f32=false):iL .f64 b .f32 w < 4294967296:=by
 have hk:2 * single.signWeight=4294967296:=by decide +kernel
 cases hd:FloatKind.f64.decode b with
 | nan s t =>
  unfold iL
  rw [if_neg (by decide),hd]
  exact yZ .f32 0 0 _
 | infinity s =>
  unfold iL
  rw [if_neg (by decide),hd]
  show FloatKind.f32.encode (.infinity s) < _
  cases s <;> decide +kernel
 | number s m e =>
  rw [Ek (k:=.f64) (k2:=.f32) hd (by decide) h w]
  obtain ⟨q,hq,hle⟩:=lG single s m e
  rw [show FloatKind.f32.format.nearest s m e = _ from hq,←hk]
  exact Dx single s (Nat.lt_of_le_of_lt hle single.infRung_lt)
theorem zM {b:Nat} (h:eR .f64 b=true):lD .f64 b .f32=false:=by
 unfold lD
 rw [if_neg (by decide)]
 unfold eR at h
 cases hd:FloatKind.f64.decode b with
 | nan s t=>rfl
 | infinity s=>rfl
 | number s m e=>rw [show FloatKind.f64.format.read b = _ from hd] at h;cases h
end
section
open Go Go.RowKit
theorem zN (x:Int) (w:World):(callFunc 132 #[.int .u64 x]).run Tryz.prog w=.ok (.value (.float .f64 x.toNat)) w:=by
 rw [run_callFunc_extern (show Tryz.prog.funcs[132]? = some Tryz.f132 by kernel_rfl) (by kernel_rfl) (by kernel_rfl) (by kernel_rfl) (e:=Extern.MathFloatBits.float64frombits) (by kernel_rfl)]
 rfl
theorem rG (x:Int) (w:World):(callFunc 91 #[.int .u32 x]).run Tryz.prog w=.ok (.value (.float .f32 x.toNat)) w:=by
 rw [run_callFunc_extern (show Tryz.prog.funcs[91]? = some Tryz.f91 by kernel_rfl) (by kernel_rfl) (by kernel_rfl) (by kernel_rfl) (e:=Extern.MathFloatBits.float32frombits) (by kernel_rfl)]
 rfl
theorem xJ (n:Nat) (hn:n < 4294967296) (w:World):Calls Tryz.prog 131 #[.int .i64 n] w fun e w'=>e=.returned (.float .f32 n)∧w=w':=by
 have hd:=rG
 go_enter Tryz.func131,Tryz.ntmps131
 go_wp2
 go_ret
 exact ⟨rfl,rfl⟩
theorem CD (w:World):Calls Tryz.prog 116 #[] w fun e w'=>e=.returned (.float .f64 9221120237041090561)∧w=w':=by
 have hd2:=zN
 go_enter Tryz.func116,Tryz.ntmps116
 go_wp2
 go_ret
 exact ⟨rfl,rfl⟩
theorem vA (w:World):Calls Tryz.prog 89 #[] w fun e w' => ∃r,e=.returned (.float .f32 r)∧Hid (cn .f32 r=mI .f32∧r < 4294967296)∧Dr w w':=by
 go_enter Tryz.func89,Tryz.ntmps89
 go_wp2_with (go_at_call 116;refine (CD _).mono ?_;rintro e w' ⟨rfl,rfl⟩)
 go_ret
 have hn:eR .f64 9221120237041090561=true:=by decide +kernel
 exact ⟨_,rfl,I ⟨by rw [vS _ (zM hn),lC hn];decide +kernel,Dy _ (zM hn)⟩,_,rfl⟩
theorem Touch.setCell {w:World} {lo hi g k:Nat} {v:Value} (h1:lo≤g) (h2:g < hi):Touch lo hi w (w.setCell ⟨g,k,none⟩ v) :=
 ⟨rfl,rfl,rfl,by simp [World.setCell],fun j hj hd=>Below.heap_setCell _ _ _ _ (by intro e;simp at e;omega)⟩
theorem iB {xs:List Nat} {k:Nat} (h:k < xs.length):xs.getD k 0∈xs:=by
 rw [List.getD_eq_getElem?_getD,List.getElem?_eq_getElem h];exact List.getElem_mem h
theorem CE {x:Nat} (h:FloatKind.f32.format.order x 0=none):eR .f32 x=true:=by
 cases hx:eR .f32 x
 ·exfalso
  have h0:eR .f32 0=false:=by decide +kernel
  unfold eR at hx h0
  have h1:(FloatKind.f32.format.read x).order (FloatKind.f32.format.read 0)=none:=h
  cases e1:FloatKind.f32.format.read x with
  | nan s t=>rw [e1] at hx;cases hx
  | infinity s=>rw [e1] at h1;cases e2:FloatKind.f32.format.read 0 with
   | nan s t=>rw [e2] at h0;cases h0
   | infinity t=>rw [e2] at h1;cases h1
   | number t m p=>rw [e2] at h1;cases h1
  | number s m p=>rw [e1] at h1;cases e2:FloatKind.f32.format.read 0 with
   | nan s t=>rw [e2] at h0;cases h0
   | infinity t=>rw [e2] at h1;cases h1
   | number t m p=>rw [e2] at h1;cases h1
 ·rfl


structure RowD where
 e:TypeId
 size:Nat
 ad:Option Addr
 n:Nat
 cap:Nat
 vs:List Value
def RowD.val (x:RowD):Value:=.slice x.ad x.n x.cap
def Apart (v u:Value):Prop:=∀g,v.ownBlock=some g→u.ownBlock≠some g
theorem Apart.symm {v u:Value} (h:Apart v u):Apart u v:=fun g e1 e2=>h g e2 e1
structure Own (w:World) (lo hi:Nat) (L:List RowD):Prop where
 row:∀x∈L,Row w x.e x.size lo hi x.val x.n x.vs
 sep:(L.map RowD.val).Pairwise Apart
theorem Own.nil (w:World) (lo hi:Nat):Own w lo hi []:=⟨fun x hx=>(nomatch hx),List.Pairwise.nil⟩
theorem Own.below {w w':World} {lo hi:Nat} {L:List RowD} (h:Own w lo hi L) (hb:Below w.heap.size w w'):Own w' lo hi L:=⟨fun x hx=>(h.row x hx).below hb,h.sep⟩
theorem Own.touch {w w':World} {lo hi lo2 hi2:Nat} {L:List RowD} (h:Own w lo hi L) (ht:Touch lo2 hi2 w w') (hd:hi≤lo2∨hi2≤lo):Own w' lo hi L:=⟨fun x hx=>(h.row x hx).touch ht hd,h.sep⟩
theorem Own.bounds {w:World} {lo hi lo' hi':Nat} {L:List RowD} (h:Own w lo hi L) (h1:lo'≤lo) (h2:hi≤hi'):Own w lo' hi' L:=⟨fun x hx=>(h.row x hx).bounds h1 h2,h.sep⟩
theorem Own.perm {w:World} {lo hi:Nat} {L M:List RowD} (h:Own w lo hi L) (p:L.Perm M):Own w lo hi M :=
 ⟨fun x hx=>h.row x (p.mem_iff.2 hx),((p.map RowD.val).pairwise_iff (fun {a b} h=>h.symm)).1 h.sep⟩
theorem Own.sub {w:World} {lo hi:Nat} {L M:List RowD} (h:Own w lo hi L) (s:M.Sublist L):Own w lo hi M :=
 ⟨fun x hx=>h.row x (s.subset hx),h.sep.sublist (s.map RowD.val)⟩
theorem Own.tail {w:World} {lo hi:Nat} {x:RowD} {L:List RowD} (h:Own w lo hi (x :: L)):Own w lo hi L:=h.sub (List.sublist_cons_self x L)
theorem Own.head {w:World} {lo hi:Nat} {x:RowD} {L:List RowD} (h:Own w lo hi (x :: L)):Row w x.e x.size lo hi x.val x.n x.vs:=h.row x (List.mem_cons_self ..)
theorem Own.apart {w:World} {lo hi:Nat} {x:RowD} {L:List RowD} (h:Own w lo hi (x :: L)) {y:RowD} (hy:y∈L):Apart x.val y.val:=(List.pairwise_cons.1 h.sep).1 _ (List.mem_map_of_mem hy)
theorem Own.cons {w:World} {lo hi:Nat} {x:RowD} {L:List RowD} (hx:Row w x.e x.size lo hi x.val x.n x.vs) (h:Own w lo hi L) (hs:∀y∈L,Apart x.val y.val):Own w lo hi (x :: L):=by
 refine ⟨fun y hy=>?_,?_⟩
 ·rcases List.mem_cons.1 hy with rfl | hy
  ·exact hx
  ·exact h.row y hy
 ·rw [List.map_cons,List.pairwise_cons]
  refine ⟨fun v hv=>?_,h.sep⟩
  obtain ⟨y,hy,rfl⟩:=List.mem_map.1 hv
  exact hs y hy
theorem Own.one {w:World} {lo hi:Nat} {x:RowD} (hx:Row w x.e x.size lo hi x.val x.n x.vs):Own w lo hi [x]:=Own.cons hx (Own.nil _ _ _) (fun y hy=>(nomatch hy))
theorem Own.append {w:World} {lo mi hi:Nat} {L M:List RowD} (h:Own w lo mi L) (h2:Own w mi hi M) (h3:lo≤mi) (h4:mi≤hi):Own w lo hi (L ++ M):=by
 refine ⟨fun x hx=>?_,?_⟩
 ·rcases List.mem_append.1 hx with hx | hx
  ·exact (h.row x hx).bounds (J _) h4
  ·exact (h2.row x hx).bounds h3 (J _)
 ·rw [List.map_append,List.pairwise_append]
  refine ⟨h.sep,h2.sep,fun v hv u hu=>?_⟩
  obtain ⟨x,hx,rfl⟩:=List.mem_map.1 hv
  obtain ⟨y,hy,rfl⟩:=List.mem_map.1 hu
  intro g e1 e2
  have:=(h.row x hx).top g e1
  have:=((h2.row y hy).own.lt g e2).1
  omega
theorem Own.grown {w w':World} {lo hi hi':Nat} {x y:RowD} {L:List RowD} (h:Own w lo hi (x :: L)) (hg:w.grownBy w' x.val.ownBlock) (hy:Row w' y.e y.size lo hi' y.val y.n y.vs) (hb:∀g,y.val.ownBlock=some g→x.val.ownBlock=some g∨hi≤g) (hh:hi≤hi'):Own w' lo hi' (y :: L):=by
 refine Own.cons hy ⟨fun z hz=>⟨((h.row z (List.mem_cons_of_mem _ hz)).own.kept hg ?_),fun g e=>Nat.lt_of_lt_of_le ((h.row z (List.mem_cons_of_mem _ hz)).top g e) hh⟩,h.tail.sep⟩ fun z hz g e1 e2=>?_
 ·cases e:z.val.ownBlock with
  | none=>exact .inl rfl
  | some g=>exact .inr (fun e2=>(h.apart hz) g e2.symm e)
 ·rcases hb g e1 with e3 | e3
  ·exact h.apart hz g e3 e2
  ·have:=(h.row z (List.mem_cons_of_mem _ hz)).top g e2
   omega
theorem Own.store {w:World} {lo hi:Nat} {e:TypeId} {size g n cap:Nat} {vs:List Value} {L:List RowD} (h:Own w lo hi (⟨e,size,some ⟨g,0,none⟩,n,cap,vs⟩ :: L)) (k:Nat) (v:Value):Own (w.setCell ⟨g,k,none⟩ v) lo hi (⟨e,size,some ⟨g,0,none⟩,n,cap,vs.set k v⟩ :: L):=by
 have h0:=h.head
 have hs:=h0.own.stored k v
 exact h.grown (y:=⟨e,size,some ⟨g,0,none⟩,n,cap,vs.set k v⟩) hs.2 ⟨hs.1,h0.top⟩ (fun g' e=>.inl e) (J _)
theorem Own.alloc {w:World} {lo hi:Nat} {L:List RowD} (h:Own w lo hi L) (h1:lo≤w.heap.size) (h2:hi≤w.heap.size) (cs:Array Value) (t:TypeId):Own (w.alloc (.cells cs t)) lo (w.heap.size+1) (⟨t,cs.size,some ⟨w.heap.size,0,none⟩,1,1,cs.toList⟩ :: L):=by
 have ho:=World.ownsRow_lit (base:=lo) (e:=t) (size:=cs.size) w cs 1 h1 (by decide) (by simp)
 refine Own.cons ⟨ho,fun g e=>?_⟩ ((h.below (aE w _)).bounds (J _) (by omega)) fun y hy g e1 e2=>?_
 ·cases e;exact Nat.lt_succ_self _
 ·cases e1
  have h3:w.heap.size < hi:=(h.row y hy).top _ e2
  omega
theorem Own.fresh {w w':World} {lo hi hi':Nat} {L M:List RowD} (h:Own w lo hi L) (h1:lo≤w.heap.size) (h2:hi≤w.heap.size) (hb:Below w.heap.size w w') (hm:Own w' w.heap.size hi' M) (h3:w.heap.size≤hi'):Own w' lo hi' (L ++ M) :=
 Own.append ((h.below hb).bounds (J _) h2) hm h1 h3
theorem Own.cell {w:World} {lo hi:Nat} {e:TypeId} {size g o n cap:Nat} {vs:List Value} {L:List RowD} (h:Own w lo hi L) (hm:⟨e,size,some ⟨g,o,none⟩,n,cap,vs⟩∈L) :
  o=0∧(lo≤g∧g < hi∧g < w.heap.size)∧(∀k,k < vs.length→w.cell? ⟨g,k,none⟩=vs[k]?)∧(∀k,w.frozen? ⟨g,k,none⟩=false):=by
 have h0:=h.row _ hm
 have h00:=h0.own
 have hl:=h00.1
 have h1:o=0:=by
  rcases h0.own.2 with ⟨e1,_⟩ | ⟨g',cap',cur,e1,_⟩
  ·cases e1
  ·cases e1;rfl
 subst h1
 exact ⟨rfl,⟨(h0.own.lt g rfl).1,h0.top g rfl,(h0.own.lt g rfl).2⟩,fun k hk=>h0.own.cellAt k (by have hl2:vs.length=n * size:=hl;show k < n * size;omega),fun k=>h0.own.frozenAt k⟩
theorem Own.setAt {w w':World} {lo hi:Nat} {x y:RowD} {A B:List RowD} (h:Own w lo hi (A ++ x :: B)) (hg:w.grownBy w' x.val.ownBlock) (hy:Row w' y.e y.size lo hi y.val y.n y.vs) (hv:y.val=x.val):Own w' lo hi (A ++ y :: B):=by
 have p:(A ++ x :: B).Perm (x :: (A ++ B)):=List.perm_middle
 have q:(A ++ y :: B).Perm (y :: (A ++ B)):=List.perm_middle
 exact ((h.perm p).grown hg hy (fun g e=>.inl (by rw [←hv];exact e)) (J _)).perm q.symm
structure SeeRow (w:World) (x:RowD):Prop where
 le:x.n≤x.cap
 cap:x.cap≤maxLen
 len:x.vs.length=x.n * x.size
 rd:Rd w x.ad x.vs
theorem SeeRow.below {w w':World} {x:RowD} (h:SeeRow w x) (hb:Below w.heap.size w w'):SeeRow w' x:=⟨h.le,h.cap,h.len,h.rd.below hb (J _)⟩
theorem Row.seeRow {w:World} {lo hi:Nat} {x:RowD} (h:Row w x.e x.size lo hi x.val x.n x.vs):SeeRow w x:=by
 obtain ⟨ad,cap,e1,e2,e3,e4,_⟩:=Rd.of_owns h.own
 unfold RowD.val at e1
 cases e1
 exact ⟨e2,e3,h.own.1,e4⟩
structure RecT (α:Type) where
 e:TypeId
 size:Nat
 cells:α→List Value
 inn:α→List RowD
 ok:α→Prop
 len:∀a,(cells a).length=size
structure OwnR {α:Type} (R:RecT α) (w:World) (lo hi:Nat) (ad:Option Addr) (n cap:Nat) (us:List α):Prop where
 own:Own w lo hi (⟨R.e,R.size,ad,n,cap,us.flatMap R.cells⟩ :: us.flatMap R.inn)
 len:us.length=n
 ok:∀a∈us,R.ok a
structure SeeR {α:Type} (R:RecT α) (w:World) (ad:Option Addr) (cap:Nat) (us:List α):Prop where
 le:us.length≤cap
 cap:cap≤maxLen
 rd:Rd w ad (us.flatMap R.cells)
 inn:∀a∈us,∀x∈R.inn a,SeeRow w x
 ok:∀a∈us,R.ok a
section
variable {α:Type} {R:RecT α} {w w':World} {lo hi:Nat} {ad:Option Addr} {n cap:Nat} {us:List α}
theorem SeeR.below (h:SeeR R w ad cap us) (hb:Below w.heap.size w w'):SeeR R w' ad cap us:=⟨h.le,h.cap,h.rd.below hb (J _),fun a ha x hx=>(h.inn a ha x hx).below hb,h.ok⟩
theorem OwnR.below (h:OwnR R w lo hi ad n cap us) (hb:Below w.heap.size w w'):OwnR R w' lo hi ad n cap us:=⟨h.own.below hb,h.len,h.ok⟩
theorem OwnR.touch {lo2 hi2:Nat} (h:OwnR R w lo hi ad n cap us) (ht:Touch lo2 hi2 w w') (hd:hi≤lo2∨hi2≤lo):OwnR R w' lo hi ad n cap us:=⟨h.own.touch ht hd,h.len,h.ok⟩
theorem OwnR.bounds {lo' hi':Nat} (h:OwnR R w lo hi ad n cap us) (h1:lo'≤lo) (h2:hi≤hi'):OwnR R w lo' hi' ad n cap us:=⟨h.own.bounds h1 h2,h.len,h.ok⟩
theorem OwnR.see (h:OwnR R w lo hi ad n cap us):SeeR R w ad cap us:=by
 have h0:=h.own.head.seeRow
 exact ⟨by rw [h.len];exact h0.le,h0.cap,h0.rd,fun a ha x hx=>(h.own.tail.row x (List.mem_flatMap.2 ⟨a,ha,hx⟩)).seeRow,h.ok⟩
theorem OwnR.nil (R:RecT α) (w:World) (lo hi:Nat):OwnR R w lo hi none 0 0 [] :=
 ⟨Own.one ⟨⟨by simp,.inl ⟨rfl,rfl⟩⟩,fun k e=>(nomatch e)⟩,rfl,fun a ha=>(nomatch ha)⟩
theorem pC (R:RecT α) (us:List α):(us.flatMap R.cells).length=us.length * R.size:=by
 induction us with
 | nil=>simp
 | cons a us ih=>rw [List.flatMap_cons,List.length_append,ih,R.len,List.length_cons,Nat.succ_mul,Nat.add_comm]
theorem pD (R:RecT α) (us:List α) {k j:Nat} {a:α} (hk:us[k]? = some a) (hj:j < R.size):(us.flatMap R.cells)[k * R.size+j]? = (R.cells a)[j]?:=by
 induction us generalizing k with
 | nil=>simp at hk
 | cons x xs ih =>
  rw [List.flatMap_cons]
  cases k with
  | zero =>
   simp at hk;subst hk
   rw [Nat.zero_mul,Nat.zero_add,List.getElem?_append_left (by rw [R.len];exact hj)]
  | succ k =>
   simp at hk
   rw [List.getElem?_append_right (by rw [R.len,Nat.succ_mul];omega),R.len,←ih hk]
   congr 1
   rw [Nat.succ_mul];omega
theorem SeeR.spot (h:SeeR R w ad cap us) {k:Nat} {a:α} (hk:us[k]? = some a) (hs:0 < R.size):∃b off,ad=some ⟨b,off,none⟩∧b < w.heap.size∧∀j,j < R.size→w.cell? ⟨b,off+k * R.size+j,none⟩=(R.cells a)[j]?:=by
 have hkl:k < us.length:=(List.getElem?_eq_some_iff.1 hk).1
 have hl:∀j,j < R.size→k * R.size+j < (us.flatMap R.cells).length:=by
  intro j hj
  rw [pC]
  have:(k+1) * R.size≤us.length * R.size:=Nat.mul_le_mul_right _ hkl
  rw [Nat.succ_mul] at this;omega
 obtain ⟨b,off,e,hb,hc⟩:=h.rd.spot (i:=k * R.size+0) (hl 0 hs)
 exact ⟨b,off,e,hb,fun j hj=>by rw [Nat.add_assoc,hc _ (hl j hj),pD R us hk hj]⟩
theorem OwnR.spot (h:OwnR R w lo hi ad n cap us) {k:Nat} {a:α} (hk:us[k]? = some a) (hs:0 < R.size):∃g,ad=some ⟨g,0,none⟩∧(lo≤g∧g < hi∧g < w.heap.size)∧(∀j,j < R.size→w.cell? ⟨g,k * R.size+j,none⟩=(R.cells a)[j]?)∧∀j,w.frozen? ⟨g,j,none⟩=false:=by
 obtain ⟨b,off,e,hb,hc⟩:=h.see.spot hk hs
 subst e
 obtain ⟨rfl,hr,_,hf⟩:=h.own.cell (List.mem_cons_self ..)
 exact ⟨b,rfl,hr,fun j hj=>by rw [←hc j hj,Nat.zero_add],hf⟩
def iO:List Value→Nat→List Value→List Value
 | vs,_,[]=>vs
 | vs,i,c :: cs=>iO (vs.set i c) (i+1) cs
theorem Av (xs ys:List Value) (i:Nat) (cs:List Value):iO (xs ++ ys) (xs.length+i) cs=xs ++ iO ys i cs:=by
 induction cs generalizing ys i with
 | nil=>rfl
 | cons c cs ih =>
  show iO ((xs ++ ys).set (xs.length+i) c) (xs.length+i+1) cs=xs ++ iO (ys.set i c) (i+1) cs
  rw [List.set_append,if_neg (by omega),Nat.add_sub_cancel_left,Nat.add_assoc]
  exact ih (ys.set i c) (i+1)
theorem Bs (xs ys cs:List Value) (h:xs.length=cs.length):iO (xs ++ ys) 0 cs=cs ++ ys:=by
 have key:∀(pre xs cs:List Value),xs.length=cs.length→iO (pre ++ xs ++ ys) pre.length cs=pre ++ cs ++ ys:=by
  intro pre xs cs
  induction cs generalizing pre xs with
  | nil=>intro h;cases xs with
   | nil=>rfl
   | cons x xs=>simp at h
  | cons c cs ih =>
   intro h
   cases xs with
   | nil=>simp at h
   | cons x xs =>
    have h2:=ih (pre ++ [c]) xs (by simpa using h)
    show iO ((pre ++ x :: xs ++ ys).set pre.length c) (pre.length+1) cs=pre ++ c :: cs ++ ys
    rw [List.append_assoc,List.set_append,if_neg (by omega),Nat.sub_self,List.cons_append,List.set_cons_zero]
    simpa [List.append_assoc] using h2
 simpa using key [] xs cs h
theorem tM (R:RecT α) (us:List α) {k:Nat} (hk:k < us.length) (a:α):iO (us.flatMap R.cells) (k * R.size) (R.cells a)=(us.set k a).flatMap R.cells:=by
 induction us generalizing k with
 | nil=>simp at hk
 | cons x xs ih =>
  cases k with
  | zero =>
   rw [Nat.zero_mul,List.flatMap_cons,List.set_cons_zero,List.flatMap_cons]
   exact Bs _ _ _ (by rw [R.len,R.len])
  | succ k =>
   rw [List.flatMap_cons,List.set_cons_succ,List.flatMap_cons,←ih (by simpa using hk),←Av,R.len,Nat.succ_mul,Nat.add_comm]
theorem OwnR.setNew {w1 w2:World} {hi1:Nat} (h:OwnR R w lo w.heap.size ad n cap us) (hlo:lo≤w.heap.size) (hb:Below w.heap.size w w1) {k:Nat} (hk:k < n) {a:α} (ha:R.ok a) (hn:Own w1 w.heap.size hi1 (R.inn a)) (hi1s:w.heap.size≤hi1)
  (hst:∀M,Own w1 lo hi1 (⟨R.e,R.size,ad,n,cap,us.flatMap R.cells⟩ :: M)→Own w2 lo hi1 (⟨R.e,R.size,ad,n,cap,iO (us.flatMap R.cells) (k * R.size) (R.cells a)⟩ :: M)):OwnR R w2 lo hi1 ad n cap (us.set k a):=by
 have hkl:k < us.length:=by rw [h.len];exact hk
 refine ⟨?_,by rw [List.length_set];exact h.len,fun b hb=>?_⟩
 ·have h1:=Own.fresh h.own hlo (J _) hb hn hi1s
  rw [List.cons_append] at h1
  have h2:=hst _ h1
  rw [tM R us hkl] at h2
  have e1:us.flatMap R.inn=(us.take k).flatMap R.inn ++ (R.inn us[k] ++ (us.drop (k+1)).flatMap R.inn):=by
   rw [←List.flatMap_cons,List.getElem_cons_drop,←List.flatMap_append,List.take_append_drop]
  have e2:(us.set k a).flatMap R.inn=(us.take k).flatMap R.inn ++ (R.inn a ++ (us.drop (k+1)).flatMap R.inn):=by
   rw [List.set_eq_take_append_cons_drop,if_pos hkl,List.flatMap_append,List.flatMap_cons]
  rw [e1] at h2
  rw [e2]
  have h3:=h2.sub (M:=⟨R.e,R.size,ad,n,cap,(us.set k a).flatMap R.cells⟩ :: (((us.take k).flatMap R.inn ++ (us.drop (k+1)).flatMap R.inn) ++ R.inn a)) (List.Sublist.cons_cons _ (List.Sublist.append (List.Sublist.append (List.Sublist.refl _) (List.sublist_append_right _ _)) (List.Sublist.refl _)))
  refine h3.perm (List.Perm.cons _ ?_)
  rw [List.append_assoc]
  exact List.Perm.append_left _ List.perm_append_comm
 ·rcases List.mem_or_eq_of_mem_set hb with hb | rfl
  ·exact h.ok b hb
  ·exact ha
theorem OwnR.snoc {w1 w2:World} {hi1:Nat} {v':Value} {a:α} {o:Obj} (h:OwnR R w lo w.heap.size ad n cap us) (hlo:lo≤w.heap.size) (hb:Below w.heap.size w w1) (ha:R.ok a) (hn:Own w1 w.heap.size hi1 (R.inn a)) (hi1s:hi1≤w1.heap.size) (hi0:w.heap.size≤hi1)
  (ho:w2.ownsRow lo R.e R.size v' (n+1) (us.flatMap R.cells ++ R.cells a)) (hg:(w1.alloc o).grownBy w2 (Value.slice ad n cap).ownBlock) (hat:v'.ownBlock=(Value.slice ad n cap).ownBlock∨v'.ownBlock=some (w1.heap.size+1)) :
  ∃ad' cap',v'=.slice ad' (n+1) cap'∧OwnR R w2 lo w2.heap.size ad' (n+1) cap' (us ++ [a]):=by
 obtain ⟨ad',cap',rfl,_⟩:=Rd.of_owns ho
 refine ⟨ad',cap',rfl,?_,by rw [List.length_append,h.len];rfl,fun b hb=>?_⟩
 ·have h1:=Own.fresh h.own hlo (J _) hb hn hi0
  rw [List.cons_append] at h1
  have h2:Own (w1.alloc o) lo hi1 _:=h1.below (aE w1 o)
  have hs:=hg.size
  have h3:=h2.grown (w':=w2) (hi':=w2.heap.size) (y:=⟨R.e,R.size,ad',n+1,cap',(us ++ [a]).flatMap R.cells⟩) hg (by
   refine Row.mk' ?_
   rw [List.flatMap_append,List.flatMap_singleton]
   exact ho) (fun g e=>?_) (by simp at hs;omega)
  ·have e:(us ++ [a]).flatMap R.inn=us.flatMap R.inn ++ R.inn a:=by rw [List.flatMap_append,List.flatMap_singleton]
   rw [e]
   exact h3
  ·rcases hat with e1 | e1
   ·exact .inl (e1.symm.trans e)
   ·right
    have e2:some g=some (w1.heap.size+1):=e.symm.trans e1
    cases e2
    omega
 ·rcases List.mem_append.1 hb with hb | hb
  ·exact h.ok b hb
  ·simp at hb;subst hb;exact ha
def RowD.void (x:RowD):Prop:=x.ad=none∧x.n=0∧x.cap=0∧x.vs=[]
theorem Own.voids {L:List RowD} (w:World) (lo hi:Nat) (h:∀x∈L,x.void):Own w lo hi L:=by
 induction L with
 | nil=>exact Own.nil _ _ _
 | cons x L ih =>
  obtain ⟨e1,e2,e3,e4⟩:=h x (List.mem_cons_self ..)
  have ev:x.val=.slice none 0 0:=by unfold RowD.val;rw [e1,e2,e3]
  refine Own.cons ⟨?_,fun g e=>by rw [ev] at e;cases e⟩ (ih fun y hy=>h y (List.mem_cons_of_mem _ hy)) fun y hy g e=>by rw [ev] at e;cases e
  rw [ev,e2,e4]
  exact ⟨by simp,.inl ⟨rfl,rfl⟩⟩
theorem OwnR.made {w1:World} {cs:List Value} {z:α} (h:w1.ownsRow w.heap.size R.e R.size (.slice (some ⟨w.heap.size,0,none⟩) n n) n cs) (hc:cs=(List.replicate n z).flatMap R.cells) (hz:∀x∈R.inn z,x.void) (ho:R.ok z) :
  OwnR R w1 w.heap.size w1.heap.size (some ⟨w.heap.size,0,none⟩) n n (List.replicate n z):=by
 refine ⟨?_,by simp,fun a ha=>by rw [List.eq_of_mem_replicate ha];exact ho⟩
 rw [←hc]
 have hv:∀x∈(List.replicate n z).flatMap R.inn,x.void:=by
  intro x hx
  obtain ⟨a,ha,hx⟩:=List.mem_flatMap.1 hx
  rw [List.eq_of_mem_replicate ha] at hx
  exact hz x hx
 refine Own.cons (Row.mk' h) (Own.voids _ _ _ hv) fun y hy g e1 e2=>?_
 obtain ⟨e3,_⟩:=hv y hy
 unfold RowD.val at e2
 rw [e3] at e2
 cases e2
end
end
section
open Go Go.RowKit Ieee

theorem CF (N a:Nat) (hN:16≤N) (ha:a < 2 ^ N):a &&& (2 ^ N - (65535+1))=a / 65536 * 65536:=by
 have h0:65535 < 2 ^ N:=Nat.lt_of_lt_of_le (by decide:65535 < 2 ^ 16) (Nat.pow_le_pow_right (by decide) hN)
 have e:a / 65536 * 65536=(a >>> 16) <<< 16:=by rw [Nat.shiftLeft_eq,Nat.shiftRight_eq_div_pow]
 rw [e]
 apply Nat.eq_of_testBit_eq
 intro i
 rw [Nat.testBit_and,Nat.testBit_two_pow_sub_succ h0,Nat.testBit_shiftLeft,Nat.testBit_shiftRight,show 65535=2 ^ 16 - 1 by decide,Nat.testBit_two_pow_sub_one]
 by_cases h:i < N
 ·by_cases h16:i < 16
  ·have:¬ (i ≥ 16):=by omega
   simp [h,h16,this]
  ·have h2:i ≥ 16:=by omega
   simp [h,h16,h2,show 16+(i - 16)=i by omega]
 ·have h1:a.testBit i=false:=Nat.testBit_lt_two_pow (Nat.lt_of_lt_of_le ha (Nat.pow_le_pow_right (by decide) (by omega)))
  by_cases h2:i ≥ 16
  ·simp [h1,h2,show 16+(i - 16)=i by omega]
  ·simp [h1,h2]
theorem Aw (a:Nat) (ha:a < 4294967296):bits .andNot .u32 (a:Int) 65535=((a / 65536 * 65536:Nat):Int):=by
 have:=u32_andNot_nat a 65535 ha (by decide)
 rw [show ((65535:Nat):Int)=65535 from rfl] at this
 rw [this,show 4294967295 - 65535=2 ^ 32 - (65535+1) by decide,CF 32 a (by decide) (by omega)]
theorem Ax (a:Nat) (ha:a < 4611686018427387904):bits .andNot .i64 (a:Int) 65535=((a / 65536 * 65536:Nat):Int):=by
 show IntKind.i64.wrap ((BitVec.ofInt 64 (a:Int) &&& ~~~BitVec.ofInt 64 65535).toNat:Int) = _
 have h1:(BitVec.ofInt 64 65535).toNat=65535:=by decide
 have h2:(BitVec.ofInt 64 (a:Int)).toNat=a:=by
  rw [BitVec.toNat_ofInt];omega
 rw [BitVec.toNat_and,BitVec.toNat_not,h1,h2,show 2 ^ 64 - 1 - 65535=2 ^ 64 - (65535+1) by decide,CF 64 a (by decide) (by omega)]
 exact wrap_small _ (by omega) (by omega)
def Ex (x:Nat):Nat:=(x+(32767+x / 65536 % 2)) / 65536 * 65536
def mH (c:Nat):Nat:=if eR .f32 c=true then mI .f32 else cn .f32 (Ex c)
theorem tN {x:Nat} (hx:x < 4294967296) (h:eR .f32 x=false):x≤4286578688:=by
 obtain ⟨s,r,rfl,hr⟩:=xE single (x:=x) (by rw [Dw];omega)
 have hle:r≤single.infRung:=by
  rcases Nat.lt_or_ge single.infRung r with h1 | h1
  ·have h2:eR .f32 (single.word s r)=true:=tL single fO s h1 hr
   rw [h] at h2;cases h2
  ·exact h1
 rw [Ej] at hle
 unfold Format.word
 rw [Dw]
 split <;> omega
theorem xK {x:Nat} (hx:x≤4286578688):Ex x < 4294967296∧x+(32767+x / 65536 % 2) < 4294967296:=by
 unfold Ex
 omega
theorem Dz {x:Nat} (h:x=2139095040∨x=4286578688):Ex x=x:=by rcases h with h | h <;> subst h <;> decide
theorem DA {x:Nat} (hx:x < 4294967296) (h:eT x=false) (hn:eR .f32 x=false):x=2139095040∨x=4286578688:=by
 obtain ⟨s,r,rfl,hr⟩:=xE single (x:=x) (by rw [Dw];omega)
 have hle:r=single.infRung:=by
  rcases Nat.lt_trichotomy single.infRung r with h1 | h1 | h1
  ·have h2:eR .f32 (single.word s r)=true:=tL single fO s h1 hr
   rw [hn] at h2;cases h2
  ·exact h1.symm
  ·obtain ⟨m,p,e,_⟩:=iA single s h1
   unfold eT at h
   rw [e] at h;cases h
 subst hle
 cases s
 ·left;exact Ej
 ·right;unfold Format.word;rw [Dw,Ej];rfl
theorem CG (a:Nat) (ha:a < 4294967296):bits .and .u32 (a:Int) 1=((a % 2:Nat):Int):=by
 have:=u32_and_nat a 1 ha (by decide)
 rw [show ((1:Nat):Int)=1 from rfl] at this
 rw [this,Nat.and_one_is_mod]
theorem CH (a:Nat) (ha:a < 4294967296):bits .and .i64 (a:Int) 1=((a % 2:Nat):Int):=by
 show IntKind.i64.wrap ((BitVec.ofInt 64 (a:Int) &&& BitVec.ofInt 64 1).toNat:Int) = _
 have h1:(BitVec.ofInt 64 1).toNat=1:=by decide
 have h2:(BitVec.ofInt 64 (a:Int)).toNat=a:=by
  rw [BitVec.toNat_ofInt];omega
 rw [BitVec.toNat_and,h1,h2,Nat.and_one_is_mod]
 exact wrap_small _ (by omega) (by omega)
theorem El {x:Nat} (h:x≤4286578688):(bits .andNot .u32 (((x:Int)+(32767+bits .and .u32 ((x:Int) / 65536) 1)) % 4294967296) 65535).toNat=Ex x:=by
 have h2:=(xK h).2
 rw [show (x:Int) / 65536=((x / 65536:Nat):Int) by omega,CG _ (by omega),show ((x:Int)+(32767+((x / 65536 % 2:Nat):Int))) % 4294967296=((x+(32767+x / 65536 % 2):Nat):Int) by omega,Aw _ h2]
 rfl
theorem Em {x:Nat} (h:x≤4286578688):bits .andNot .i64 (wrap64 ((x:Int)+wrap64 (32767+bits .and .i64 ((x:Int) / 65536) 1))) 65535=((Ex x:Nat):Int):=by
 have h2:=(xK h).2
 rw [show (x:Int) / 65536=((x / 65536:Nat):Int) by omega,CH _ (by omega),show wrap64 ((x:Int)+wrap64 (32767+((x / 65536 % 2:Nat):Int)))=((x+(32767+x / 65536 % 2):Nat):Int) by unfold wrap64;omega,Ax _ (by omega)]
 rfl
end
section
open Go Go.RowKit
theorem vB (x:Nat) (hx:x < 4294967296) (w:World):Calls Tryz.prog 68 #[.float .f32 x] w fun e w' => ∃r,e=.returned (.float .f32 r)∧Hid (cn .f32 r=mH (cn .f32 x)∧r < 4294967296)∧Dr w w':=by
 have hd:=rE
 have hd2:=rG
 cases h:eR .f32 x
 ·have ho:FloatKind.f32.format.order x x=some .eq:=by rw [fY,h];rfl
  have HN:=I h;clear h
  go_enter Tryz.func68,Tryz.ntmps68
  go_wp2
  go_ret
  have hN:=HN.out
  have hle:=tN hx hN
  refine ⟨_,rfl,I ?_,Dr.refl _⟩
  rw [El hle]
  exact ⟨by unfold mH;rw [iK,hN,if_neg (by decide),dR hN],(xK hle).1⟩
 ·have ho:FloatKind.f32.format.order x x=none:=by rw [fY,h];rfl
  have HN:=I h;clear h
  go_enter Tryz.func68,Tryz.ntmps68
  go_wp2_with fail
  refine (vA _).mono ?_
  rintro e w3 ⟨y,rfl,hy,q2,rfl⟩
  go_wp2
  go_ret
  exact ⟨_,rfl,I ⟨by rw [hy.out.1];unfold mH;rw [iK,if_pos HN.out],hy.out.2⟩,_,rfl⟩
theorem tP (x:Nat) (hx:x < 4294967296) (w:World):Calls Tryz.prog 102 #[.float .f32 x] w fun e w' => ∃r,e=.returned (.float .f32 r)∧Hid (cn .f32 r=mH (cn .f32 x)∧r < 4294967296)∧Dr w w':=by
 cases hf:eT x
 ·go_enter Tryz.func102,Tryz.ntmps102
  go_wp2_with (go_at_call 58;refine (jI _ _).mono ?_;rintro e w' ⟨rfl,⟨q,rfl⟩⟩)
  go_ret
  refine ⟨_,rfl,I ⟨?_,hx⟩,_,rfl⟩
  unfold mH
  rw [iK]
  cases hN:eR .f32 x
  ·rw [if_neg (by decide),dR hN,Dz (DA hx hf hN),dR hN]
  ·rw [if_pos rfl,lC hN]
 ·have hN:=zL hf
  have hb:=xI x hx
  rw [dR hN] at hb
  have HB:=I hb;clear hb
  have hle:=tN hx hN
  have h2:=xK hle
  have HN:=I hN;clear hN
  go_enter Tryz.func102,Tryz.ntmps102
  go_wp2_with fail
  refine (jI _ _).mono ?_
  rintro e w' ⟨rfl,⟨q,rfl⟩⟩
  go_wp2_with fail
  refine (HB.out _).mono ?_
  rintro e w' ⟨rfl,rfl⟩
  go_wp2_with fail
  rw [Em hle]
  refine (xJ _ h2.1 _).mono ?_
  rintro e w' ⟨rfl,rfl⟩
  go_wp2
  go_ret
  exact ⟨_,rfl,I ⟨by unfold mH;rw [iK,HN.out,if_neg (by decide),dR HN.out],h2.1⟩,_,rfl⟩
theorem pE (n:Nat):(List.replicate n 0).map (cn .f32)=bA n (fun _=>0):=by
 apply List.ext_getElem
 ·simp [bA]
 ·intro i h1 h2
  simp [bA,bT]
theorem Bt {w:World} {base n:Nat} {e:TypeId} {v:Value} (h:w.ownsRow base e 1 v n (madeCells #[Value.float .f32 0] n).toList):w.ownsRow base e 1 v n ((List.replicate n 0).map (Value.float .f32)):=by
 rw [toList_madeCells_one] at h
 rwa [List.map_replicate]
theorem CI (n:Nat):∀x∈List.replicate n 0,x < 4294967296:=by
 intro x hx
 rw [(List.mem_replicate.1 hx).2];decide
theorem vY {w:World} {n:Nat} {g:Nat} (h:w.ownsRow g 28 1 (.slice (some ⟨g,0,none⟩) n n) n (madeCells #[Value.float .f32 0] n).toList):RepF w g w.heap.size (some ⟨g,0,none⟩) n n (List.replicate n 0):=by
 obtain ⟨a1,c1,e1,hS⟩:=RepF.of_owns (Bt h) (CI n)
 cases e1
 exact hS

theorem xL (w:World) (ad:Option Addr) (n cap:Nat) (L:Int) (hn:n≤maxLen) (h0:0≤L) (h1:L≤1048576):Calls Tryz.prog 28 #[.slice ad n cap,.int .i64 L] w fun e w'=>e=.returned (.int .i64 (if (n:Int)≤L then L - n else -1))∧w=w':=by
 unfold maxLen at hn
 by_cases h:(n:Int)≤L
 ·rw [if_pos h]
  go_enter Tryz.func28,Tryz.ntmps28
  go_wp2
  go_ret
  exact ⟨rfl,rfl⟩
 ·rw [if_neg h]
  go_enter Tryz.func28,Tryz.ntmps28
  go_wp2
  go_ret
  exact ⟨rfl,rfl⟩
end
section
open Go Go.RowKit Go.ChangeShapes Go.WideShapes
def aK (ad:Option Addr) (cap:Nat) (xs:List Nat):RowD:=⟨28,1,ad,xs.length,cap,xs.map (Value.float .f32)⟩
def okF (xs:List Nat):Prop:=∀x∈xs,x < 4294967296
theorem SeeRow.f32s {w:World} {ad:Option Addr} {cap:Nat} {xs:List Nat} (h:SeeRow w (aK ad cap xs)) (ho:okF xs):F32s w ad cap xs:=⟨h.le,h.cap,h.rd,ho⟩
theorem F32s.seeRow {w:World} {ad:Option Addr} {cap:Nat} {xs:List Nat} (h:F32s w ad cap xs):SeeRow w (aK ad cap xs):=⟨h.len,h.cap,by simp [aK],h.rd⟩
theorem RepF.ownRow {w:World} {lo hi:Nat} {ad:Option Addr} {n cap:Nat} {xs:List Nat} (h:RepF w lo hi ad n cap xs):Own w lo hi [aK ad cap xs]:=by
 have hl:=h.len
 subst hl
 exact Own.one h.row
theorem RepF.okF {w:World} {lo hi:Nat} {ad:Option Addr} {n cap:Nat} {xs:List Nat} (h:RepF w lo hi ad n cap xs):okF xs:=h.lt
theorem Own.repF {w:World} {lo hi:Nat} {ad:Option Addr} {cap:Nat} {xs:List Nat} {L:List RowD} (h:Own w lo hi L) (hm:aK ad cap xs∈L) (ho:okF xs):RepF w lo hi ad xs.length cap xs:=⟨h.row _ hm,rfl,ho⟩
structure TenP where
 r:Int
 c:Int
 xs:List Nat
structure Ten extends TenP where
 ad:Option Addr
 cap:Nat
def TenP.can (t:TenP):TenP:=⟨t.r,t.c,t.xs.map (cn .f32)⟩
def Ten.cells (t:Ten):List Value:=[.int .i64 t.r,.int .i64 t.c,.slice t.ad t.xs.length t.cap]
def bV:RecT Ten:=⟨37,3,Ten.cells,fun t=>[aK t.ad t.cap t.xs],fun t=>okF t.xs,fun _=>rfl⟩
structure OpP where
 k:Int
 a:Int
 b:Int
 num:Nat
 r:Int
 c:Int
 xs:List Nat
structure OpD extends OpP where
 ad:Option Addr
 cap:Nat
def OpP.can (o:OpP):OpP:=⟨o.k,o.a,o.b,cn .f32 o.num,o.r,o.c,o.xs.map (cn .f32)⟩
def OpD.cells (o:OpD):List Value:=[.int .i64 o.k,.int .i64 o.a,.int .i64 o.b,.float .f32 o.num,.int .i64 o.r,.int .i64 o.c,.slice o.ad o.xs.length o.cap]
def OpD.val (o:OpD):Value:=.agg #[.int .i64 o.k,.int .i64 o.a,.int .i64 o.b,.float .f32 o.num,.int .i64 o.r,.int .i64 o.c,.slice o.ad o.xs.length o.cap]
def OpD.ok (o:OpD):Prop:=okF o.xs∧o.num < 4294967296∧(Lit.int .i64 o.k).wf=true∧(Lit.int .i64 o.a).wf=true∧(Lit.int .i64 o.b).wf=true∧(Lit.int .i64 o.r).wf=true∧(Lit.int .i64 o.c).wf=true
def lI:RecT OpD:=⟨74,7,OpD.cells,fun o=>[aK o.ad o.cap o.xs],OpD.ok,fun _=>rfl⟩
theorem sO {w:World} {ad:Option Addr} {cap:Nat} {os:List OpD} (h:SeeR lI w ad cap os) {k:Nat} {o:OpD} (hk:os[k]? = some o):∃b off,ad=some ⟨b,off,none⟩∧b < w.heap.size ∧
  (w.cell? ⟨b,off+k * 7,none⟩=some (.int .i64 o.k)∧w.cell? ⟨b,off+k * 7+1,none⟩=some (.int .i64 o.a)∧w.cell? ⟨b,off+k * 7+2,none⟩=some (.int .i64 o.b)∧w.cell? ⟨b,off+k * 7+3,none⟩=some (.float .f32 o.num)∧w.cell? ⟨b,off+k * 7+4,none⟩=some (.int .i64 o.r)∧w.cell? ⟨b,off+k * 7+5,none⟩=some (.int .i64 o.c)∧w.cell? ⟨b,off+k * 7+6,none⟩=some (.slice o.ad o.xs.length o.cap)) ∧
  F32s w o.ad o.cap o.xs∧o.ok:=by
 obtain ⟨b,off,e,hb,hc⟩:=h.spot hk (by decide)
 have hm:=List.mem_of_getElem? hk
 exact ⟨b,off,e,hb,⟨hc 0 (by decide),hc 1 (by decide),hc 2 (by decide),hc 3 (by decide),hc 4 (by decide),hc 5 (by decide),hc 6 (by decide)⟩,(h.inn o hm _ (List.mem_singleton.2 rfl)).f32s (h.ok o hm).1,h.ok o hm⟩
section
variable {H:Type} {enc:TypeId × Value→H} {w:World} {base:Nat} {spare:Nat→Bool} {held:Bool}
theorem dec_Tensor {n:Nat} {cs:List Value} {y:DataW H × List MemPlace} (h:DataW.trod enc Tryz.prog w base spare held n 27 cs=some y) :
  ∃(r c:Int) (ad:Option Addr) (cap:Nat) (xs:List Nat),cs=[.int .i64 r,.int .i64 c,.slice ad xs.length cap]∧(Lit.int .i64 r).wf=true∧(Lit.int .i64 c).wf=true∧F32s w ad cap xs:=by
 have c0:Tryz.prog.cellsOf 27=3:=by kernel_rfl
 have c1:Tryz.prog.cellsOf 2=1:=by kernel_rfl
 have c2:Tryz.prog.cellsOf 25=1:=by kernel_rfl
 obtain ⟨n,hl,hp⟩:=lE Tryz.underlying27 h
 rw [c0] at hl
 obtain ⟨x0,x1,x2,rfl⟩:=DU hl
 obtain ⟨y0,h0⟩:=hp 0 2 0 1 _ rfl rfl rfl c1
 obtain ⟨y1,h1⟩:=hp 1 2 1 1 _ rfl rfl rfl c1
 obtain ⟨y2,h2⟩:=hp 2 25 2 1 _ rfl rfl rfl c2
 simp only [List.drop_succ_cons,List.drop_zero,List.take_succ_cons,List.take_zero] at h0 h1 h2
 obtain ⟨r,e0,_,w0⟩:=DataW.trod_int Tryz.underlying2 h0
 obtain ⟨g,e1,_,w1⟩:=DataW.trod_int Tryz.underlying2 h1
 obtain ⟨ad,cap,xs,e2,w2⟩:=tF Tryz.underlying25 Tryz.underlying28 h2
 simp only [List.cons.injEq,and_true] at e0 e1 e2
 subst e0 e1 e2
 exact ⟨r,g,ad,cap,xs,rfl,w0,w1,w2⟩
end
end
section
open Go Go.RowKit
theorem gD {w w':World} {lo hi c:Nat} (ht:Touch lo hi w w') (hc:c < w.heap.size) (hd:c < lo∨hi≤c) (o:Nat):w'.cell? ⟨c,o,none⟩=w.cell? ⟨c,o,none⟩∧w'.frozen? ⟨c,o,none⟩=w.frozen? ⟨c,o,none⟩ :=
 ⟨World.cell?_of_block (w:=w) (ht.block c hc hd),by unfold World.frozen?;rw [ht.block c hc hd]⟩
structure Box3 (w:World) (c:Nat) (a b d:Value):Prop where
 lt:c < w.heap.size
 c0:w.cell? ⟨c,0,none⟩=some a
 c1:w.cell? ⟨c,1,none⟩=some b
 c2:w.cell? ⟨c,2,none⟩=some d
 fz:∀o,w.frozen? ⟨c,o,none⟩=false
theorem Box3.alloc (w:World) (a b d:Value) (t:TypeId):Box3 (w.alloc (.cells #[a,b,d] t)) w.heap.size a b d :=
 ⟨by simp,by rw [World.cell?_alloc_at _ _ _ _ rfl];rfl,by rw [World.cell?_alloc_at _ _ _ _ rfl];rfl,by rw [World.cell?_alloc_at _ _ _ _ rfl];rfl,fun o=>World.frozen?_alloc_at _ _ _ _ rfl⟩
theorem Box3.alloc2 (w:World) (o:Obj) (a b d:Value) (t:TypeId):Box3 ((w.alloc o).alloc (.cells #[a,b,d] t)) (w.heap.size+1) a b d:=by
 have h:=Box3.alloc (w.alloc o) a b d t
 rwa [show (w.alloc o).heap.size=w.heap.size+1 by simp] at h
theorem Box3.touch {w w':World} {c lo hi:Nat} {a b d:Value} (h:Box3 w c a b d) (ht:Touch lo hi w w') (hd:c < lo∨hi≤c):Box3 w' c a b d :=
 ⟨Nat.lt_of_lt_of_le h.lt ht.size,(gD ht h.lt hd 0).1.trans h.c0,(gD ht h.lt hd 1).1.trans h.c1,(gD ht h.lt hd 2).1.trans h.c2,fun o=>(gD ht h.lt hd o).2.trans (h.fz o)⟩
theorem Box3.below {w w':World} {c:Nat} {a b d:Value} (h:Box3 w c a b d) (hb:Below w.heap.size w w'):Box3 w' c a b d:=h.touch (lo:=w'.heap.size) (hi:=w'.heap.size) (Touch.of_below hb) (.inl (Nat.lt_of_lt_of_le h.lt hb.size))
theorem sP {w:World} {c i j:Nat} {u v:Value} (h:w.cell? ⟨c,j,none⟩=some u):(w.setCell ⟨c,i,none⟩ v).cell? ⟨c,j,none⟩=some (if i=j then v else u):=by
 by_cases e:i=j
 ·subst e;rw [if_pos rfl];exact World.cell?_setCell_same' _ _ _ (by rw [h];rfl)
 ·rw [if_neg e,World.cell?_setCell_other w ⟨c,i,none⟩ ⟨c,j,none⟩ v (by intro h;cases h;exact e rfl)];exact h
theorem Box3.set {w:World} {c:Nat} {a b d:Value} (h:Box3 w c a b d) (i:Nat) (v:Value):Box3 (w.setCell ⟨c,i,none⟩ v) c (if i=0 then v else a) (if i=1 then v else b) (if i=2 then v else d) :=
 ⟨by simpa [World.setCell] using h.lt,sP h.c0,sP h.c1,sP h.c2,fun o=>by rw [World.frozen?_setCell];exact h.fz o⟩
theorem Box3.far {w:World} {c:Nat} {a b d:Value} (h:Box3 w c a b d) (c' i:Nat) (v:Value) (hc:c'≠c):Box3 (w.setCell ⟨c',i,none⟩ v) c a b d:=by
 have hk:∀j,(w.setCell ⟨c',i,none⟩ v).cell? ⟨c,j,none⟩=w.cell? ⟨c,j,none⟩:=fun j=>World.cell?_setCell_other w ⟨c',i,none⟩ ⟨c,j,none⟩ v (by intro h;cases h;exact hc rfl)
 exact ⟨by simpa [World.setCell] using h.lt,(hk 0).trans h.c0,(hk 1).trans h.c1,(hk 2).trans h.c2,fun o=>by rw [World.frozen?_setCell];exact h.fz o⟩
theorem F32s.cut3 {w:World} {g off cap:Nat} {xs:List Nat} (h:F32s w (some ⟨g,off,none⟩) cap xs) (m:Nat) (hm:m≤xs.length):F32s w (some ⟨g,off,none⟩) cap (xs.take m)∧F32s w (some ⟨g,off+m,none⟩) (cap - m) (xs.drop m):=by
 have h1:=h.len;have h2:=h.cap
 refine ⟨⟨by simp;omega,h2,?_,fun x hx=>h.lt x (List.mem_of_mem_take hx)⟩,⟨by simp;omega,by omega,?_,fun x hx=>h.lt x (List.mem_of_mem_drop hx)⟩⟩
 ·rcases h.rd with h3 | ⟨b,o,e,hb,hc⟩
  ·left;rw [List.map_take,h3];simp
  ·right
   refine ⟨b,o,e,hb,fun j hj=>?_⟩
   simp only [List.length_map,List.length_take] at hj
   rw [hc j (by simp;omega),List.map_take,List.getElem?_take,if_pos (by omega)]
 ·rcases h.rd with h3 | ⟨b,o,e,hb,hc⟩
  ·left;rw [List.map_drop,h3];simp
  ·right
   cases e
   refine ⟨g,off+m,rfl,hb,fun j hj=>?_⟩
   simp only [List.length_map,List.length_drop] at hj
   rw [Nat.add_assoc,hc (m+j) (by simp;omega),List.map_drop,List.getElem?_drop]
theorem Fd {B g:Nat} {w w':World} (hb:Below B w w') (hg:B≤g) (a b d:Value):Below B w (((w'.setCell ⟨g,0,none⟩ a).setCell ⟨g,1,none⟩ b).setCell ⟨g,2,none⟩ d) :=
 Below.setCell (p:=⟨g,2,none⟩) (Below.setCell (p:=⟨g,1,none⟩) (Below.setCell (p:=⟨g,0,none⟩) hb hg a) hg b) hg d
theorem Fe (w':World) (g:Nat) (a b d:Value):Touch g (g+1) w' (((w'.setCell ⟨g,0,none⟩ a).setCell ⟨g,1,none⟩ b).setCell ⟨g,2,none⟩ d) :=
 ((Touch.setCell (J _) (Nat.lt_succ_self _)).trans (Touch.setCell (J _) (Nat.lt_succ_self _))).trans (Touch.setCell (J _) (Nat.lt_succ_self _))
theorem EC (w':World) (g:Nat) (a b d:Value):(((w'.setCell ⟨g,0,none⟩ a).setCell ⟨g,1,none⟩ b).setCell ⟨g,2,none⟩ d).heap.size=w'.heap.size:=by simp [World.setCell]
theorem Ff {w':World} {lo hi lo' g n cap:Nat} {ad:Option Addr} {xs:List Nat} (h:RepF w' lo hi ad n cap xs) (hg:g < lo) (h1:lo'≤lo) (h2:hi≤w'.heap.size) (a b d:Value) :
  RepF (((w'.setCell ⟨g,0,none⟩ a).setCell ⟨g,1,none⟩ b).setCell ⟨g,2,none⟩ d) lo' (((w'.setCell ⟨g,0,none⟩ a).setCell ⟨g,1,none⟩ b).setCell ⟨g,2,none⟩ d).heap.size ad n cap xs :=
 (h.touch (Fe w' g a b d) (.inr (by omega))).bounds h1 (by rw [EC];exact h2)
theorem Ay (w:World) (r c:Int) (ad:Option Addr) (cap:Nat) (xs:List Nat) (h:F32s w ad cap xs) (hn:xs.length≤1048576) :
  Calls Tryz.prog 10 #[.agg #[.int .i64 r,.int .i64 c,.slice ad xs.length cap]] w fun e w' => ∃ad' cap',e=.returned (.agg #[.int .i64 r,.int .i64 c,.slice ad' xs.length cap'])∧Hid (RepF w' w.heap.size w'.heap.size ad' xs.length cap' xs)∧Below w.heap.size w w':=by
 have b3:=dE w (.cells #[.int .i64 r,.int .i64 c,.slice ad xs.length cap] 27) (.cells #[.int .i64 0,.int .i64 0,.slice none 0 0] 37) (.cells #[.int .i64 r,.int .i64 c,.slice none 0 0] 37)
 have K:=I (Eh _ ad cap xs (h.below b3) hn)
 have RB:=I ((Box3.alloc2 w (.cells #[.int .i64 r,.int .i64 c,.slice ad xs.length cap] 27) (.int .i64 0) (.int .i64 0) (.slice none 0 0) 37).below (aE _ (.cells #[.int .i64 r,.int .i64 c,.slice none 0 0] 37)))
 have ob:=Box3.alloc2 (w.alloc (.cells #[.int .i64 r,.int .i64 c,.slice ad xs.length cap] 27)) (.cells #[.int .i64 0,.int .i64 0,.slice none 0 0] 37) (.int .i64 r) (.int .i64 c) (.slice none 0 0) 37
 rw [show (w.alloc (.cells #[.int .i64 r,.int .i64 c,.slice ad xs.length cap] 27)).heap.size=w.heap.size+1 by simp] at ob
 have OB:=I ob;have B:=I b3
 obtain ⟨n,hN⟩:∃n,n=xs.length:=⟨_,rfl⟩
 rw [←hN] at K RB OB B ⊢
 clear ob b3 h hN hn
 go_enter Tryz.func10,Tryz.ntmps10
 go_wp2_with fail
 refine K.out.mono ?_
 rintro e w' ⟨a',c',rfl,hr,hb⟩
 obtain ⟨-,r0,r1,r2,rf⟩:=RB.out.below hb
 obtain ⟨-,o0,o1,o2,of⟩:=OB.out.below hb
 have HR:=I hr;have HB:=I (aA B.out hb)
 have hz:=hb.size
 simp at hz
 clear hr hb
 go_wp2
 refine bodyPost_ret (v:=.agg #[.int .i64 r,.int .i64 c,.slice a' n c']) (by simp [results,Tryz.results10,go_sem,r0,r1,r2,o0,o1,o2]) rfl ⟨_,_,rfl,I ?_,?_⟩
 ·exact Ff (HR.out.touch (lo2:=w.heap.size+2) (hi2:=w.heap.size+3) (Touch.setCell (J _) (Nat.lt_succ_self _)) (.inr (by simp))) (by simp) (by simp;omega) (by simp [World.setCell]) _ _ _
 ·exact Fd (HB.out.setCell (p:=⟨w.heap.size+2,2,none⟩) (by show w.heap.size≤w.heap.size+2;omega) _) (by omega) _ _ _
structure BoxN (w:World) (g:Nat) (vs:List Value):Prop where
 lt:g < w.heap.size
 at':∀j,j < vs.length→w.cell? ⟨g,j,none⟩=vs[j]?
 fz:∀o,w.frozen? ⟨g,o,none⟩=false
theorem BoxN.alloc (w:World) (cs:Array Value) (t:TypeId):BoxN (w.alloc (.cells cs t)) w.heap.size cs.toList :=
 ⟨by simp,fun j hj=>by rw [World.cell?_alloc_at _ _ _ _ rfl];simp,fun o=>World.frozen?_alloc_at _ _ _ _ rfl⟩
theorem BoxN.alloc2 (w:World) (o:Obj) (cs:Array Value) (t:TypeId):BoxN ((w.alloc o).alloc (.cells cs t)) (w.heap.size+1) cs.toList:=by
 have h:=BoxN.alloc (w.alloc o) cs t
 rwa [show (w.alloc o).heap.size=w.heap.size+1 by simp] at h
theorem BoxN.alloc3 (w:World) (o o2:Obj) (cs:Array Value) (t:TypeId):BoxN (((w.alloc o).alloc o2).alloc (.cells cs t)) (w.heap.size+2) cs.toList:=by
 have h:=BoxN.alloc2 (w.alloc o) o2 cs t
 rwa [show (w.alloc o).heap.size=w.heap.size+1 by simp] at h
theorem BoxN.touch {w w':World} {g lo hi:Nat} {vs:List Value} (h:BoxN w g vs) (ht:Touch lo hi w w') (hd:g < lo∨hi≤g):BoxN w' g vs :=
 ⟨Nat.lt_of_lt_of_le h.lt ht.size,fun j hj=>(gD ht h.lt hd j).1.trans (h.at' j hj),fun o=>(gD ht h.lt hd o).2.trans (h.fz o)⟩
theorem BoxN.below {w w':World} {g:Nat} {vs:List Value} (h:BoxN w g vs) (hb:Below w.heap.size w w'):BoxN w' g vs:=h.touch (lo:=w'.heap.size) (hi:=w'.heap.size) (Touch.of_below hb) (.inl (Nat.lt_of_lt_of_le h.lt hb.size))
theorem BoxN.set {w:World} {g:Nat} {vs:List Value} (h:BoxN w g vs) (i:Nat) (v:Value):BoxN (w.setCell ⟨g,i,none⟩ v) g (vs.set i v):=by
 refine ⟨by simpa [World.setCell] using h.lt,fun j hj=>?_,fun o=>by rw [World.frozen?_setCell];exact h.fz o⟩
 rw [List.length_set] at hj
 have h1:=h.at' j hj
 rw [List.getElem?_eq_getElem hj] at h1
 rw [sP h1,List.getElem?_set]
 by_cases e:i=j
 ·subst e;rw [if_pos rfl,if_pos rfl,if_pos hj]
 ·rw [if_neg e,if_neg e,List.getElem?_eq_getElem hj]
theorem BoxN.far {w:World} {g:Nat} {vs:List Value} (h:BoxN w g vs) (g' i:Nat) (v:Value) (hc:g'≠g):BoxN (w.setCell ⟨g',i,none⟩ v) g vs:=by
 have hk:∀j,(w.setCell ⟨g',i,none⟩ v).cell? ⟨g,j,none⟩=w.cell? ⟨g,j,none⟩:=fun j=>World.cell?_setCell_other w ⟨g',i,none⟩ ⟨g,j,none⟩ v (by intro h;cases h;exact hc rfl)
 exact ⟨by simpa [World.setCell] using h.lt,fun j hj=>(hk j).trans (h.at' j hj),fun o=>by rw [World.frozen?_setCell];exact h.fz o⟩
theorem BoxN.seven {w:World} {g:Nat} {a b c d e f k:Value} (h:BoxN w g [a,b,c,d,e,f,k]):g < w.heap.size∧w.cell? ⟨g,0,none⟩=some a∧w.cell? ⟨g,1,none⟩=some b∧w.cell? ⟨g,2,none⟩=some c∧w.cell? ⟨g,3,none⟩=some d∧w.cell? ⟨g,4,none⟩=some e∧w.cell? ⟨g,5,none⟩=some f∧w.cell? ⟨g,6,none⟩=some k∧(∀o,w.frozen? ⟨g,o,none⟩=false) :=
 ⟨h.lt,h.at' 0 (by simp),h.at' 1 (by simp),h.at' 2 (by simp),h.at' 3 (by simp),h.at' 4 (by simp),h.at' 5 (by simp),h.at' 6 (by simp),h.fz⟩
theorem BoxN.three {w:World} {g:Nat} {a b c:Value} (h:BoxN w g [a,b,c]):g < w.heap.size∧w.cell? ⟨g,0,none⟩=some a∧w.cell? ⟨g,1,none⟩=some b∧w.cell? ⟨g,2,none⟩=some c∧(∀o,w.frozen? ⟨g,o,none⟩=false) :=
 ⟨h.lt,h.at' 0 (by simp),h.at' 1 (by simp),h.at' 2 (by simp),h.fz⟩
def setCs:World→Nat→Nat→List Value→World
 | w,_,_,[]=>w
 | w,g,i,v :: vs=>setCs (w.setCell ⟨g,i,none⟩ v) g (i+1) vs
theorem aU (w:World) (g i:Nat) (vs:List Value):(setCs w g i vs).heap.size=w.heap.size:=by
 induction vs generalizing w i with
 | nil=>rfl
 | cons v vs ih=>exact (ih _ _).trans (by simp [World.setCell])
theorem aG {B g:Nat} {w w':World} (hb:Below B w w') (hg:B≤g) (i:Nat) (vs:List Value):Below B w (setCs w' g i vs):=by
 induction vs generalizing w' i with
 | nil=>exact hb
 | cons v vs ih=>exact ih (hb.setCell (p:=⟨g,i,none⟩) hg v) (i+1)
theorem aB (w:World) (g i:Nat) (vs:List Value):Touch g (g+1) w (setCs w g i vs):=by
 induction vs generalizing w i with
 | nil=>exact Touch.refl _ _ _
 | cons v vs ih=>exact Touch.trans (Touch.setCell (J _) (Nat.lt_succ_self _)) (ih _ _)
theorem bF {w':World} {lo hi lo' g n cap:Nat} {ad:Option Addr} {xs:List Nat} (h:RepF w' lo hi ad n cap xs) (hg:g < lo) (h1:lo'≤lo) (h2:hi≤w'.heap.size) (i:Nat) (vs:List Value):RepF (setCs w' g i vs) lo' (setCs w' g i vs).heap.size ad n cap xs :=
 (h.touch (aB w' g i vs) (.inr (by omega))).bounds h1 (by rw [aU];exact h2)
theorem jA {w:World} {lo hi:Nat} {e:TypeId} {size g n cap:Nat} {us:List Value} {L:List RowD} (h:Own w lo hi (⟨e,size,some ⟨g,0,none⟩,n,cap,us⟩ :: L)) (i:Nat) (vs:List Value):Own (setCs w g i vs) lo hi (⟨e,size,some ⟨g,0,none⟩,n,cap,iO us i vs⟩ :: L):=by
 induction vs generalizing w i us with
 | nil=>exact h
 | cons v vs ih=>exact ih (h.store i v) (i+1)
theorem ED (w:World) (r c:Int) (ad:Option Addr) (n cap:Nat) (L:Int) (hn:n≤maxLen) (h0:0≤L) (h1:L≤1048576):Calls Tryz.prog 7 #[.agg #[.int .i64 r,.int .i64 c,.slice ad n cap],.int .i64 L] w fun e w'=>e=.returned (.int .i64 (if (n:Int)≤L then L - n else -1))∧Below w.heap.size w w':=by
 have K:=I (fun W=>xL W ad n cap L hn h0 h1)
 by_cases h:(n:Int)≤L
 ·rw [if_pos h] at K ⊢
  have hp:0≤L - n:=by omega
  go_enter Tryz.func7,Tryz.ntmps7
  go_wp2_with fail
  refine (K.out _).mono ?_
  rintro e w1 ⟨rfl,rfl⟩
  go_wp2
  go_ret
  exact ⟨rfl,aE _ _⟩
 ·rw [if_neg h] at K ⊢
  go_enter Tryz.func7,Tryz.ntmps7
  go_wp2_with fail
  refine (K.out _).mono ?_
  rintro e w1 ⟨rfl,rfl⟩
  go_wp2
  go_ret
  exact ⟨rfl,aE _ _⟩
theorem EG (w:World) (r c:Int) (a1 a2:Option Addr) (c1 c2:Nat) (xs ys:List Nat) (h1:F32s w a1 c1 xs) (h2:F32s w a2 c2 ys) (hn:xs.length≤1048576) (he:xs.map (cn .f32)=ys.map (cn .f32)) :
  Calls Tryz.prog 15 #[.agg #[.int .i64 r,.int .i64 c,.slice a1 xs.length c1],.agg #[.int .i64 r,.int .i64 c,.slice a2 ys.length c2]] w fun e w'=>e=.returned (.bool true)∧Below w.heap.size w w':=by
 have b2:=bZ w (.cells #[.int .i64 r,.int .i64 c,.slice a1 xs.length c1] 37) (.cells #[.int .i64 r,.int .i64 c,.slice a2 ys.length c2] 37)
 have K:=I (iM a1 a2 c1 c2 xs ys _ (h1.below b2) (h2.below b2) hn he)
 have B:=I b2
 obtain ⟨n,hN⟩:∃n,n=xs.length:=⟨_,rfl⟩
 obtain ⟨m,hM⟩:∃m,m=ys.length:=⟨_,rfl⟩
 rw [←hN,←hM] at K B ⊢
 clear b2 h1 h2 hn he hN hM
 go_enter Tryz.func15,Tryz.ntmps15
 go_wp2_with fail
 refine K.out.mono ?_
 rintro e w1 ⟨rfl,hd⟩
 go_wp2
 go_ret
 exact ⟨rfl,aA B.out hd.below⟩
theorem CJ (w:World) {lo hi:Nat} (r c:Int) {ad:Option Addr} {n cap:Nat} {xs:List Nat} (k0:Nat) (h:RepF w lo hi ad n cap xs) (hhi:hi≤w.heap.size) (hn:n≤1048576) (hk:k0≤100000000) :
  Calls Tryz.prog 17 #[.agg #[.int .i64 r,.int .i64 c,.slice ad n cap],.int .i64 k0] w fun e w'=>e=.returned (.int .i64 (k0+n:Nat))∧RepF w' lo hi ad n cap (dP k0 n)∧Touch lo hi w w':=by
 have K:=I (fun W (hW:RepF W lo hi ad n cap xs)=>Ei W k0 hW hn hk)
 have b1:=aE w (.cells #[.int .i64 r,.int .i64 c,.slice ad n cap] 37)
 have H:=I (h.below b1);have B:=I b1
 clear h b1
 go_enter Tryz.func17,Tryz.ntmps17
 go_wp2_with fail
 refine (K.out _ H.out).mono ?_
 rintro e w1 ⟨rfl,hr,ht⟩
 go_wp2
 go_ret
 exact ⟨rfl,hr,(Touch.of_below B.out).trans ht⟩

def jJ {α:Type} (f:α→Nat) (us:List α) (k:Nat):Nat:=((us.take k).map f).sum
theorem Az {α:Type} (f:α→Nat) (us:List α):jJ f us 0=0:=by simp [jJ]
theorem AA {α:Type} (f:α→Nat) {us:List α} {k:Nat} {a:α} (h:us[k]? = some a):jJ f us (k+1)=jJ f us k+f a:=by
 obtain ⟨hk,rfl⟩:=List.getElem?_eq_some_iff.1 h
 unfold jJ
 rw [List.take_succ_eq_append_getElem hk,List.map_append,List.sum_append]
 simp
theorem CK {α:Type} (f:α→Nat) (us:List α) {k n:Nat} (h:k≤n):jJ f us k≤jJ f us n:=by
 unfold jJ
 have:us.take n=us.take k ++ (us.take n).drop k:=by
  have:=(List.take_append_drop k (us.take n)).symm
  rwa [List.take_take,Nat.min_eq_left h] at this
 rw [this,List.map_append,List.sum_append];omega
theorem Bu {α:Type} (f:α→Nat) {us:List α} {a:α} (h:a∈us):f a≤jJ f us us.length:=by
 unfold jJ
 rw [List.take_length]
 induction us with
 | nil=>cases h
 | cons x xs ih =>
  rw [List.map_cons,List.sum_cons]
  rcases List.mem_cons.1 h with rfl | h
  ·omega
  ·have:=ih h;omega
def lJ {α:Type} (f:α→Nat) (us:List α) (L:Int):Int:=if (us.length+jJ f us us.length:Nat)≤L then L - (us.length+jJ f us us.length:Nat) else -1
theorem getElem?_lt {α:Type} {us:List α} {k:Nat} (h:k < us.length):∃a,us[k]? = some a:=⟨us[k],List.getElem?_eq_getElem h⟩
theorem lK:(Tryz.prog.info? 74).map (fun i=>(i.zero,i.size,i.bytes))=some (some (.agg #[.int .i64 0,.int .i64 0,.int .i64 0,.float .f32 0,.int .i64 0,.int .i64 0,.slice none 0 0]),7,72):=by kernel_rfl
theorem pF:(Tryz.prog.info? 37).map (fun i=>(i.zero,i.size,i.bytes))=some (some (.agg #[.int .i64 0,.int .i64 0,.slice none 0 0]),3,40):=by kernel_rfl
theorem vZ {α:Type} (R:RecT α) (z:α) (n:Nat) (cs:Array Value) (hcs:cs.toList=R.cells z) (hs:0 < R.size):(madeCells cs (n * R.size)).toList=(List.replicate n z).flatMap R.cells:=by
 have hsz:cs.size=R.size:=by have:=R.len z;rw [←hcs] at this;simpa using this
 apply List.ext_getElem?
 intro j
 by_cases hj:j < n * R.size
 ·have hk:j / R.size < n:=(Nat.div_lt_iff_lt_mul hs).2 hj
  have hm:=Nat.mod_lt j hs
  have e:j=(j / R.size) * R.size+j % R.size:=by rw [Nat.mul_comm];exact (Nat.div_add_mod j R.size).symm
  have e2:=pD R (List.replicate n z) (k:=j / R.size) (j:=j % R.size) (a:=z) (by rw [List.getElem?_replicate,if_pos hk]) hm
  rw [←e] at e2
  rw [e2,←hcs]
  have hm2:j % cs.size < cs.size:=by rw [hsz];exact hm
  simp [madeCells,hj,hsz]
  rw [getElem!_pos cs (j % R.size) (by rw [hsz];exact hm),Array.getElem?_eq_getElem (by rw [hsz];exact hm)]
 ·rw [List.getElem?_eq_none (by simp [madeCells];omega),List.getElem?_eq_none (by rw [pC];simp;omega)]
theorem CN {α β:Type} (f:α→β) {us:List α} {vs:List β} {k:Nat} {a:α} {b:β} (h:us.map f=vs.take k ++ (us.map f).drop k) (hk:k < us.length) (hl:us.length=vs.length) (hv:vs[k]? = some b) (hb:f a=b):(us.set k a).map f=vs.take (k+1) ++ ((us.set k a).map f).drop (k+1):=by
 have hkv:k < vs.length:=by omega
 have e1:((us.map f).take k)=vs.take k:=by rw [h,List.take_append_of_le_length (by simp;omega),List.take_take];simp
 have e2:(us.set k a).map f=(us.map f).set k b:=by rw [List.map_set,hb]
 rw [e2]
 obtain ⟨h3,rfl⟩:=List.getElem?_eq_some_iff.1 hv
 rw [List.take_succ_eq_append_getElem hkv,←e1,List.drop_set,if_pos (by omega),List.set_eq_take_append_cons_drop,if_pos (by simpa using hk)]
 simp
theorem En {w:World} {lo hi n cap:Nat} {ad:Option Addr} {us:List OpD} (h:OwnR lI w lo hi ad n cap us) {k:Nat} {o:OpD} (hk:us[k]? = some o):∃g,ad=some ⟨g,0,none⟩∧(lo≤g∧g < hi∧g < w.heap.size) ∧
  (w.cell? ⟨g,k * 7,none⟩=some (.int .i64 o.k)∧w.cell? ⟨g,k * 7+1,none⟩=some (.int .i64 o.a)∧w.cell? ⟨g,k * 7+2,none⟩=some (.int .i64 o.b)∧w.cell? ⟨g,k * 7+3,none⟩=some (.float .f32 o.num)∧w.cell? ⟨g,k * 7+4,none⟩=some (.int .i64 o.r)∧w.cell? ⟨g,k * 7+5,none⟩=some (.int .i64 o.c)∧w.cell? ⟨g,k * 7+6,none⟩=some (.slice o.ad o.xs.length o.cap)) ∧
  (∀j,w.frozen? ⟨g,j,none⟩=false)∧RepF w lo hi o.ad o.xs.length o.cap o.xs:=by
 obtain ⟨g,e,hr,hc,hf⟩:=h.spot hk (by decide)
 have hm:=List.mem_of_getElem? hk
 refine ⟨g,e,hr,⟨hc 0 (by decide),hc 1 (by decide),hc 2 (by decide),hc 3 (by decide),hc 4 (by decide),hc 5 (by decide),hc 6 (by decide)⟩,hf,h.own.repF (List.mem_cons_of_mem _ (List.mem_flatMap.2 ⟨o,hm,List.mem_singleton.2 rfl⟩)) (h.ok o hm).1⟩

theorem zO {α:Type} {us:List α} {i:Nat} {a:α} (h:us[i]? = some a):us.set i a=us:=by
 obtain ⟨hi,rfl⟩:=List.getElem?_eq_some_iff.1 h
 exact List.set_getElem_self hi
theorem xM {α:Type} (A B:List α) (o p:α):(A ++ o :: B).set A.length p=A ++ p :: B:=by
 rw [List.set_append,if_neg (by omega),Nat.sub_self,List.set_cons_zero]
theorem xN {α:Type} (A B:List α) (o:α):(A ++ o :: B)[A.length]? = some o:=by
 rw [List.getElem?_append_right (J _),Nat.sub_self];rfl
theorem zP (vs:List Value) (i:Nat) (cs ds:List Value):iO vs i (cs ++ ds)=iO (iO vs i cs) (i+cs.length) ds:=by
 induction cs generalizing vs i with
 | nil=>rfl
 | cons c cs ih =>
  show iO (vs.set i c) (i+1) (cs ++ ds) = _
  rw [ih,List.length_cons,Nat.add_right_comm,Nat.add_assoc];rfl
theorem tQ (vs:List Value) (i:Nat) (cs:List Value) (j:Nat) (h:j < i∨i+cs.length≤j):(iO vs i cs)[j]? = vs[j]?:=by
 induction cs generalizing vs i with
 | nil=>rfl
 | cons c cs ih =>
  show (iO (vs.set i c) (i+1) cs)[j]? = _
  rw [ih _ _ (by simp at h;omega),List.getElem?_set_ne (by simp at h;omega)]




end
section
open Go Go.RowKit Ieee
theorem RepF.nilcap {w:World} {lo hi:Nat} {ad:Option Addr} {n cap:Nat} {xs:List Nat} (h:RepF w lo hi ad n cap xs):ad=none→cap=0:=by
 intro e
 subst e
 rcases h.row.own.2 with ⟨h1,_⟩ | ⟨g,cap',cur,h1,_⟩
 ·cases h1;rfl
 ·cases h1
theorem xO {P:Program} {ops:Array Oper} {rest:List Oper} {o:Oper} {a:Act} {Q:Exit→Act→World→Prop} {e:TypeId} {W:World} (hgd:o.guard=none) (s x:Operand) (t:TypeId)
  (ho:o.op=.call { callee:=.builtin .append,args:=#[s,x],argTypes:=#[t,t] })
  (base:Nat) (i:TypeInfo) (z:Value) (bytes:Nat) (ht:P.underlying t=some (.slice e)) (hi:P.info? e=some i) (hz:i.zero=some z)
  (hsize:i.size=1) (hby:i.bytes=bytes) (hzs:z.cells.size=1)
  (v:Value) (n:Nat) (xs:List Value) (hs:a.eval s=v) (hown:W.ownsRow base e 1 v n xs)
  (ad:Option Addr) (m c:Nat) (news:List Value) (hx:a.eval x=.slice ad m c) (hn:ad=none→c=0) (hl:news.length=m) (hr:Rd W ad news) (h1:∀u∈news,u.oneCell'=true)
  (h63:n+m≤maxLen) (hbytes:(n+m) * bytes≤140737488355328) (hbase:base≤W.heap.size)
  (h:∀v' w',w'.ownsRow base e 1 v' (n+m) (xs ++ news)→Below base W w'→base≤w'.heap.size→wpList P ops Q rest (a.put o.dst v') w'):wpList P ops Q (o :: rest) a W:=by
 cases ad with
 | none =>
  obtain rfl:=hn rfl
  have h0:news=[]:=by
   rcases hr with hr | ⟨b,off,hb,_⟩
   ·exact hr
   ·cases hb
  subst h0
  obtain rfl:m=0:=hl.symm
  exact wpList_append_own_none hgd s x t ho base e i 1 ht hi v n xs hs hown hx (h v W (by simpa using hown) (O _ _) hbase)
 | some p =>
  refine wpList_append_own W hgd s x t ho base e i z 1 bytes ht hi hz hsize hby hzs (by decide) v n xs hs hown p m c news hx (by omega) ?_ h1 h63 hbytes hbase ?_
  ·intro j u hj
   rcases hr with hr | ⟨b,off,hb,_,hc⟩
   ·rw [hr] at hj;cases hj
   ·cases hb
    have hlt:j < news.length:=(List.getElem?_eq_some_iff.1 hj).1
    rw [Addr.add_lit];exact (hc j hlt).trans hj
  ·intro v' w' h2 hg _
   refine h v' w' h2 ((O _ _).grown hg hbase (fun j hj=>(hown.lt j hj).1)) (Nat.le_trans hbase hg.size)
theorem zQ (w:World) (ad:Option Addr) (cap:Nat) (xs:List Nat) (h:F32s w ad cap xs) (hc:ad=none→cap=0) (hn:xs.length≤1048576) :
  Calls Tryz.prog 100 #[.slice ad xs.length cap] w fun e w' => ∃(v:Value),e=.returned v∧w'.ownsRow w.heap.size 28 1 v xs.length (xs.map (Value.float .f32))∧Below w.heap.size w w':=by
 obtain ⟨i0,hi,hz0,hz1,hz2⟩:=info_parts bW
 obtain ⟨n,hN⟩:∃n,n=xs.length:=⟨_,rfl⟩
 have hr:=h.rd
 have h1:∀u∈xs.map (Value.float .f32),u.oneCell'=true:=by intro u hu;obtain ⟨x,_,rfl⟩:=List.mem_map.1 hu;rfl
 have hl:(xs.map (Value.float .f32)).length=n:=by rw [List.length_map,hN]
 rw [←hN] at hn ⊢
 have HL:=I hl;clear hN hl h
 go_enter Tryz.func100,Tryz.ntmps100
 go_wp2_with (at_builtin;refine xO rfl _ _ 25 rfl w.heap.size i0 (.float .f32 0) 4 Tryz.underlying25 hi hz0 hz1 hz2 rfl _ 0 [] rfl (World.ownsRow_made _ _ _ (J _) (Nat.zero_le _) rfl) ad n cap _ rfl hc HL.out (hr.below (aE _ _) (J _)) h1 ?c3 ?c4 ?c5 ?_)
 case c3=>unfold maxLen;omega
 case c4=>omega
 case c5=>simp
 intro v' w9 hown1 hb1 hbs1
 go_wp2
 go_ret
 exact ⟨_,rfl,by simpa using hown1,(aE _ _).trans hb1⟩
theorem xP (w:World) (ad:Option Addr) (cap:Nat) (xs:List Nat) (h:F32s w ad cap xs) (hc:ad=none→cap=0) (hn:xs.length≤1048576) :
  Calls Tryz.prog 77 #[.slice ad xs.length cap] w fun e w' => ∃(v:Value),e=.returned v∧w'.ownsRow w.heap.size 28 1 v xs.length (xs.map (Value.float .f32))∧Below w.heap.size w w':=by
 obtain ⟨i0,hi,hz0,hz1,hz2⟩:=info_parts bW
 obtain ⟨n,hN⟩:∃n,n=xs.length:=⟨_,rfl⟩
 have hr:=h.rd
 have h1:∀u∈xs.map (Value.float .f32),u.oneCell'=true:=by intro u hu;obtain ⟨x,_,rfl⟩:=List.mem_map.1 hu;rfl
 have hl:(xs.map (Value.float .f32)).length=n:=by rw [List.length_map,hN]
 rw [←hN] at hn ⊢
 have HL:=I hl;clear hN hl h
 cases ad with
 | none =>
  obtain rfl:=hc rfl
  have h0:xs=[]:=by
   rcases hr with hr | ⟨b,off,hb,_⟩
   ·simpa using hr
   ·cases hb
  subst h0
  obtain rfl:n=0:=HL.out.symm
  have he:∀w:World,(binOp .eql 25 (.slice none 0 0) (.slice none 0 0)).run Tryz.prog w=.ok (.bool true) w:=fun _=>rfl
  go_enter Tryz.func77,Tryz.ntmps77
  go_wp2
  go_ret
  exact ⟨_,rfl,World.ownsRow_nil _ _ _ _,O _ _⟩
 | some p =>
  have he:∀w:World,(binOp .eql 25 (.slice (some p) n cap) (.slice none 0 0)).run Tryz.prog w=.ok (.bool false) w:=fun _=>rfl
  go_enter Tryz.func77,Tryz.ntmps77
  go_wp2_with (at_builtin;refine xO rfl _ _ 25 rfl w.heap.size i0 (.float .f32 0) 4 Tryz.underlying25 hi hz0 hz1 hz2 rfl _ 0 [] rfl (World.ownsRow_made _ _ _ (J _) (Nat.zero_le _) rfl) (some p) n cap _ rfl (fun h=>nomatch h) HL.out (hr.below (aE _ _) (J _)) h1 ?c3 ?c4 ?c5 ?_)
  case c3=>unfold maxLen;omega
  case c4=>omega
  case c5=>simp
  intro v' w9 hown1 hb1 hbs1
  go_wp2
  go_ret
  exact ⟨_,rfl,by simpa using hown1,(aE _ _).trans hb1⟩
end
section
open Go Go.RowKit
theorem jZ (n:Int) (w:World):Calls Tryz.prog 88 #[.int .i64 n] w fun e w'=>e=.returned (.bool (jU n 1 16))∧w=w':=by
 have k1:=fun W=>jG n 1 16 W
 go_enter Tryz.func88,Tryz.ntmps88
 go_wp2_with fail
 refine (k1 _).mono ?_
 rintro e w1 ⟨rfl,rfl⟩
 go_wp2
 go_ret
 exact ⟨rfl,rfl⟩
def dZ (r c:Int) (n:Nat):Bool:=jU r 1 16 && (jU c 1 16 && decide ((n:Int)=r * c))
theorem eA {r c:Int} {n:Nat}:dZ r c n=true ↔ (1≤r∧r≤16)∧(1≤c∧c≤16)∧(n:Int)=r * c:=by
 unfold dZ;simp only [Bool.and_eq_true,cA,decide_eq_true_eq]
theorem dJ (r c:Int) (ad:Option Addr) (n cap:Nat) (hn:n≤maxLen) (w:World):Calls Tryz.prog 61 #[.agg #[.int .i64 r,.int .i64 c,.slice ad n cap]] w fun e w'=>e=.returned (.bool (dZ r c n))∧Below w.heap.size w w':=by
 unfold maxLen at hn
 have K1:=I (fun W=>jZ r W)
 have K2:=I (fun W=>jZ c W)
 have ht:dZ r c n=(jU r 1 16 && (jU c 1 16 && decide ((n:Int)=r * c))):=rfl
 rw [ht]
 clear ht
 cases h1:jU r 1 16
 ·rw [h1] at K1
  clear h1
  go_enter Tryz.func61,Tryz.ntmps61
  go_wp2_with fail
  refine (K1.out _).mono ?_
  rintro e w1 ⟨rfl,rfl⟩
  go_wp2
  go_ret
  exact ⟨rfl,aE _ _⟩
 ·rw [h1] at K1
  have ⟨a1,a2⟩:=cA.1 h1
  clear h1
  cases h2:jU c 1 16
  ·rw [h2] at K2
   clear h2
   go_enter Tryz.func61,Tryz.ntmps61
   go_wp2_with fail
   refine (K1.out _).mono ?_
   rintro e w1 ⟨rfl,rfl⟩
   go_wp2_with fail
   refine (K2.out _).mono ?_
   rintro e w1 ⟨rfl,rfl⟩
   go_wp2
   go_ret
   exact ⟨rfl,aE _ _⟩
  ·rw [h2] at K2
   have ⟨b1,b2⟩:=cA.1 h2
   clear h2
   obtain ⟨p,hp⟩:∃p,p=r * c:=⟨_,rfl⟩
   have p1:0≤p:=by rw [hp];exact Int.mul_nonneg (by omega) (by omega)
   have p2:p≤256:=by
    rw [hp]
    have h3:r * c≤16 * c:=Int.mul_le_mul_of_nonneg_right a2 (by omega)
    omega
   rw [←hp]
   have hpw:wrap64 (r * c)=p:=by rw [←hp];unfold wrap64;omega
   clear hp
   go_enter Tryz.func61,Tryz.ntmps61
   go_wp2_with fail
   refine (K1.out _).mono ?_
   rintro e w1 ⟨rfl,rfl⟩
   go_wp2_with fail
   refine (K2.out _).mono ?_
   rintro e w1 ⟨rfl,rfl⟩
   go_wp2
   go_ret
   exact ⟨by congr 2,aE _ _⟩
end
section
open Go Go.RowKit Ieee

end
section
open Go Go.RowKit
abbrev Sh:=Int × Int
def fL (k:Int):Bool:=k == 1 || (k == 2 || (k == 3 || (k == 4 || k == 6)))
def Bb (x:Nat):Bool:=decide (cn .f32 x=cn .f32 0)
def fJ (i:Int) (o:OpP):Bool :=
 jU o.k 0 10 && ((o.k == 5 || Bb o.num) && (if o.k=0 then (o.a == 0 && (o.b == 0 && dZ o.r o.c o.xs.length)) else (o.r == 0 && (o.c == 0 && (decide (o.xs.length=0) && (jU o.a 0 (i - 1) && (if fL o.k=true then jU o.b 0 (i - 1) else o.b == 0)))))))
def aQ (k:Int) (v w:Sh):Option Sh :=
 if k=1∨k=3 then (if v=w then some v else none)
 else if k=2∨k=4 then (if w=(1,v.2) then some v else none)
 else if k=6 then (if v.2=w.1 then some (v.1,w.2) else none)
 else if k=7 then some (v.2,v.1)
 else if k=10 then some (1,1)
 else some v
def dL (S:List Sh) (i:Int):Sh:=S.getD i.toNat (0,0)
def dF (S:List Sh) (o:OpP):Option (List Sh) :=
 if fJ S.length o=true then (if o.k=0 then some (S ++ [(o.r,o.c)]) else (aQ o.k (dL S o.a) (dL S o.b)).map fun s=>S ++ [s]) else none
def cD (os:List OpP) (k:Nat):Option (List Sh):=(os.take k).foldlM dF []
def cH (os:List OpP):Option (List Sh):=if 1≤os.length∧os.length≤48 then cD os os.length else none
theorem dS {os:List OpP} {k:Nat} {o:OpP} (h:os[k]? = some o):cD os (k+1)=(cD os k).bind fun S=>dF S o:=by
 obtain ⟨hk,rfl⟩:=List.getElem?_eq_some_iff.1 h
 unfold cD
 rw [List.take_succ_eq_append_getElem hk,List.foldlM_append]
 simp [List.foldlM]
theorem nX {S S':List Sh} {o:OpP} (h:dF S o=some S'):S'.length=S.length+1:=by
 unfold dF at h
 split at h
 ·split at h
  ·cases h;simp
  ·cases e:aQ o.k (dL S o.a) (dL S o.b) with
   | none=>rw [e] at h;cases h
   | some s=>rw [e] at h;cases h;simp
 ·cases h
theorem eC {os:List OpP} {k:Nat} {S:List Sh} (hk:k≤os.length) (h:cD os k=some S):S.length=k:=by
 induction k generalizing S with
 | zero=>unfold cD at h;simp at h;subst h;rfl
 | succ k ih =>
  obtain ⟨o,ho⟩:=getElem?_lt (show k < os.length by omega)
  rw [dS ho] at h
  cases e:cD os k with
  | none=>rw [e] at h;cases h
  | some S0 =>
   rw [e] at h
   have:=nX h
   rw [this,ih (by omega) e]
theorem iX {os:List OpP} {k n:Nat} (h:cD os k=none) (hk:k≤n) (hn:n≤os.length):cD os n=none:=by
 induction n with
 | zero=>have:k=0:=by omega
         subst this;exact h
 | succ n ih =>
  by_cases e:k=n+1
  ·subst e;exact h
  ·obtain ⟨o,ho⟩:=getElem?_lt (show n < os.length by omega)
   rw [dS ho,ih (by omega) (by omega)];rfl
theorem vC (r c:Int) (w:World):Calls Tryz.prog 81 #[.int .i64 r,.int .i64 c] w fun e w'=>e=.returned (.bool (jU r 1 16 && jU c 1 16))∧w=w':=by
 have K1:=I (fun W=>gN r 1 16 W)
 have K2:=I (fun W=>gN c 1 16 W)
 cases h1:jU r 1 16
 ·rw [h1] at K1
  clear h1
  go_enter Tryz.func81,Tryz.ntmps81
  go_wp2_with fail
  refine (K1.out _).mono ?_
  rintro e w1 ⟨rfl,rfl⟩
  go_wp2
  go_ret
  exact ⟨rfl,rfl⟩
 ·rw [h1] at K1
  clear h1
  go_enter Tryz.func81,Tryz.ntmps81
  go_wp2_with fail
  refine (K1.out _).mono ?_
  rintro e w1 ⟨rfl,rfl⟩
  go_wp2_with fail
  refine (K2.out _).mono ?_
  rintro e w1 ⟨rfl,rfl⟩
  go_wp2
  go_ret
  exact ⟨rfl,rfl⟩
theorem fZ (w:World) (g o:Nat) (r c:Int) (ad:Option Addr) (n cap:Nat) (hn:n≤maxLen) (p0:w.cell? ⟨g,o,none⟩=some (.int .i64 r)) (p1:w.cell? ⟨g,o+1,none⟩=some (.int .i64 c)) (p2:w.cell? ⟨g,o+2,none⟩=some (.slice ad n cap)) :
  Calls Tryz.prog 54 #[.pointer (some ⟨g,o,none⟩)] w fun e w'=>e=.returned (.bool (dZ r c n))∧Dr w w':=by
 unfold maxLen at hn
 have KS:=I (fun W=>vC r c W)
 have ht:dZ r c n=((jU r 1 16 && jU c 1 16) && decide ((n:Int)=r * c)):=by unfold dZ;rw [Bool.and_assoc]
 rw [ht]
 clear ht
 obtain ⟨p,hp⟩:∃p,p=r * c:=⟨_,rfl⟩
 cases h1:(jU r 1 16 && jU c 1 16)
 ·rw [h1] at KS
  clear h1 hp
  go_enter Tryz.func54,Tryz.ntmps54
  go_wp2
  refine aN (fun f args v=>v=.bool false) (by kernel_rfl) (by kernel_rfl) ?_
  repeat (refine aV (fun K hK nq=>?_);go_simp;refine hK _ ?_;clear hK K)
  refine aV (fun K hK nq=>?_)
  go_simp
  refine ⟨(KS.out _).mono ?_,?_⟩
  ·rintro e w' ⟨rfl,rfl⟩
   exact ⟨rfl,_,rfl⟩
  refine hK _ ?_
  clear hK K
  repeat (refine aV (fun K hK nq=>?_);go_simp;refine hK _ ?_;clear hK K)
  refine bD ?_
  rintro w' ⟨q,rfl⟩
  go_wp2
  go_ret
  exact ⟨rfl,_,rfl⟩
 ·rw [h1] at KS
  simp only [Bool.and_eq_true] at h1
  have ⟨a1,a2⟩:=cA.1 h1.1
  have ⟨b1,b2⟩:=cA.1 h1.2
  have q1:0≤p:=by rw [hp];exact Int.mul_nonneg (by omega) (by omega)
  have q2:p≤256:=by
   rw [hp]
   have h3:r * c≤16 * c:=Int.mul_le_mul_of_nonneg_right a2 (by omega)
   omega
  rw [←hp]
  have hpw:IntKind.i64.wrap (r * c)=p:=by rw [←hp,IntKind.wrap_i64];omega
  have hq:((n:Int) == IntKind.i64.wrap (r * c))=decide ((n:Int)=p):=by rw [hpw];rfl
  have HQ:=I hq
  clear hp h1 a1 a2 b1 b2 hpw hq
  go_enter Tryz.func54,Tryz.ntmps54
  go_wp2
  refine aN (fun f args v=>v=.bool true) (by kernel_rfl) (by kernel_rfl) ?_
  repeat (refine aV (fun K hK nq=>?_);go_simp;refine hK _ ?_;clear hK K)
  refine aV (fun K hK nq=>?_)
  go_simp
  refine ⟨(KS.out _).mono ?_,?_⟩
  ·rintro e w' ⟨rfl,rfl⟩
   exact ⟨rfl,_,rfl⟩
  refine hK _ ?_
  clear hK K
  repeat (refine aV (fun K hK nq=>?_);go_simp;refine hK _ ?_;clear hK K)
  refine bD ?_
  rintro w' ⟨q,rfl⟩
  go_wp2
  go_ret
  refine ⟨?_,_,rfl⟩
  show Ending.returned (Value.bool _)=Ending.returned (Value.bool _)
  rw [HQ.out];rfl
theorem rH (k:Int) (w:World):Calls Tryz.prog 115 #[.int .i64 k] w fun e w'=>e=.returned (.bool (fL k))∧w=w':=by
 rcases (by omega:k=1∨k=2∨k=3∨k=4∨k=6∨(k≠1∧k≠2∧k≠3∧k≠4∧k≠6)) with rfl | rfl | rfl | rfl | rfl | ⟨h1,h2,h3,h4,h6⟩
 rotate_right
 ·have h1:(k == 1)=false:=by simpa using h1
  have h2:(k == 2)=false:=by simpa using h2
  have h3:(k == 3)=false:=by simpa using h3
  have h4:(k == 4)=false:=by simpa using h4
  have h6:(k == 6)=false:=by simpa using h6
  unfold fL
  go_enter Tryz.func115,Tryz.ntmps115
  go_wp2
  go_ret
  refine ⟨?_,rfl⟩
  rw [h1,h2,h3,h4,h6];rfl
 all_goals
  go_enter Tryz.func115,Tryz.ntmps115
  go_wp2
  go_ret
  exact ⟨rfl,rfl⟩
theorem vD (k:Int) (w:World):Calls Tryz.prog 97 #[.int .i64 k] w fun e w'=>e=.returned (.bool (fL k))∧w=w':=by
 rcases (by omega:k=1∨k=2∨k=3∨k=4∨k=6∨(k≠1∧k≠2∧k≠3∧k≠4∧k≠6)) with rfl | rfl | rfl | rfl | rfl | ⟨h1,h2,h3,h4,h6⟩
 rotate_right
 ·have h1:(k == 1)=false:=by simpa using h1
  have h2:(k == 2)=false:=by simpa using h2
  have h3:(k == 3)=false:=by simpa using h3
  have h4:(k == 4)=false:=by simpa using h4
  have h6:(k == 6)=false:=by simpa using h6
  unfold fL
  go_enter Tryz.func97,Tryz.ntmps97
  go_wp2
  go_ret
  refine ⟨?_,rfl⟩
  rw [h1,h2,h3,h4,h6];rfl
 all_goals
  go_enter Tryz.func97,Tryz.ntmps97
  go_wp2
  go_ret
  exact ⟨rfl,rfl⟩
theorem jK {i:Int} {o:OpP} (h:fJ i o=true):0≤o.k∧o.k≤10:=by
 unfold fJ at h
 simp only [Bool.and_eq_true] at h
 exact cA.1 h.1
theorem dV {i:Int} {o:OpP} (h:fJ i o=true) (h0:o.k≠0):(0≤o.a∧o.a≤i - 1)∧(0≤o.b∧o.b≤i - 1)∧(o.r=0∧o.c=0∧o.xs=[]):=by
 unfold fJ at h
 rw [if_neg h0] at h
 simp only [Bool.and_eq_true,beq_iff_eq,decide_eq_true_eq] at h
 obtain ⟨_,_,h1,h2,h3,h4,h5⟩:=h
 have ⟨a1,a2⟩:=cA.1 h4
 refine ⟨⟨a1,a2⟩,?_,h1,h2,List.eq_nil_of_length_eq_zero h3⟩
 split at h5
 ·exact cA.1 h5
 ·have:o.b=0:=by simpa using h5
  omega
theorem kA {i:Int} {o:OpP} (h:fJ i o=true) (h0:o.k=0):o.a=0∧o.b=0∧dZ o.r o.c o.xs.length=true:=by
 unfold fJ at h
 rw [if_pos h0] at h
 simp only [Bool.and_eq_true,beq_iff_eq] at h
 exact ⟨h.2.2.1,h.2.2.2.1,h.2.2.2.2⟩
end
end Go.Proofs.YtpadlmidojpbeaaGreat
