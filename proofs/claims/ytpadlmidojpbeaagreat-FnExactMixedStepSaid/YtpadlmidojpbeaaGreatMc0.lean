/- Joined texts 0. No condition. -/
import Derived.StillTail
import Derived.Deep.Draws
import Derived.Tactics
import Derived.Tactics2
import Derived.WalkSmall
import Derived.Maps.AppendAt
import Derived.Deep.AppendLies
import Derived.WalkLawsBesides
import Derived.Laws.EntriesVeiled
import Derived.Lib.Hide
set_option linter.unusedVariables false
set_option linter.unusedSimpArgs false
namespace Go.Proofs.YtpadlmidojpbeaaGreat
theorem I {p : Prop} (h : p) : Go.RowKit.Hid p := h
section
open Go
section
variable {P:Program} {ops:Array Oper} {C:World→Prop} {VC:FuncId→Array Value→Value→Prop}
def May (P:Program) (C:World→Prop) (VC:FuncId→Array Value→Value→Prop) (o:Oper) (a:Act) (v:Value):Prop :=
 ∃w w',C w∧((execOp a.eval o).run P w=.ok (.value v) w'∨((execOp a.eval o).run P w=.ok .skip w'∧v=undef)∨∃f args,(execOp a.eval o).run P w=.ok (.enter f args) w'∧VC f args v)
def FineRes (P:Program) (C:World→Prop) (VC:FuncId→Array Value→Value→Prop):Result Next→Prop
 | .ok (.value _) w'=>C w'
 | .ok .skip w'=>C w'
 | .ok (.enter f args) w'=>C w'∧Calls P f args w' (fun e w'' => ∃v,e=.returned v∧C w''∧VC f args v)
 | _=>False
def Fine (P:Program) (C:World→Prop) (VC:FuncId→Array Value→Value→Prop) (o:Oper) (a:Act):Prop:=∀w,C w→FineRes P C VC ((execOp a.eval o).run P w)
def Good (P:Program) (ops:Array Oper) (C:World→Prop) (VC:FuncId→Array Value→Value→Prop) (o:Oper) (a:Act):Prop:=Region.wanted o (yielded ops a.tmps)=true→Fine P C VC o a
def Vals (P:Program) (ops:Array Oper) (C:World→Prop) (VC:FuncId→Array Value→Value→Prop) (o:Oper) (a:Act) (v:Value):Prop :=
 (Region.wanted o (yielded ops a.tmps)=true∧May P C VC o a v)∨(Region.wanted o (yielded ops a.tmps)=false∧v=undef)
def WSet (P:Program) (ops:Array Oper) (C:World→Prop) (VC:FuncId→Array Value→Value→Prop) (Q:Act→Prop):List Oper→Act→Prop
 | [],a=>Q a
 | o :: rest,a=>Good P ops C VC o a∧∀v,Vals P ops C VC o a v→WSet P ops C VC Q rest (a.put o.dst v)
def ASet (P:Program) (md:Region.Mode) (ops:Array Oper) (C:World→Prop) (VC:FuncId→Array Value→Value→Prop) (Q:Act→Prop):Nat→Array Bool→Act→Prop
 | 0,listed,a=>Region.ready md ops listed=[]∧Q a
 | fuel+1,listed,a=>(Region.ready md ops listed=[]→Q a) ∧
  ∀i∈Region.ready md ops listed,∀o,ops[i]? = some o→Good P ops C VC o a∧∀v,Vals P ops C VC o a v→ASet P md ops C VC Q fuel (listed.setIfInBounds i true) (a.put o.dst v)
theorem good_put {o:Oper} {a:Act} {d:Option Tmp} {u:Value} (he:execOp (a.put d u).eval o=execOp a.eval o) (hw:Region.wanted o (yielded ops (a.put d u).tmps)=Region.wanted o (yielded ops a.tmps)) :
  Good P ops C VC o (a.put d u) ↔ Good P ops C VC o a:=by
 unfold Good Fine
 rw [he,hw]
theorem vals_put {o:Oper} {a:Act} {d:Option Tmp} {u v:Value} (he:execOp (a.put d u).eval o=execOp a.eval o) (hw:Region.wanted o (yielded ops (a.put d u).tmps)=Region.wanted o (yielded ops a.tmps)) :
  Vals P ops C VC o (a.put d u) v ↔ Vals P ops C VC o a v:=by
 unfold Vals May
 rw [he,hw]
theorem some_val {o:Oper} {a:Act} {w0:World} (h0:C w0) (h:Good P ops C VC o a):∃v,Vals P ops C VC o a v:=by
 by_cases hw:Region.wanted o (yielded ops a.tmps)=true
 ·have hf:=h hw w0 h0
  unfold FineRes at hf
  split at hf
  ·rename_i v w' he;exact ⟨v,.inl ⟨hw,w0,w',h0,.inl he⟩⟩
  ·rename_i w' he;exact ⟨undef,.inl ⟨hw,w0,w',h0,.inr (.inl ⟨he,rfl⟩)⟩⟩
  ·rename_i f args w' he
   obtain ⟨_,hc⟩:=hf
   obtain ⟨e,w'',fr,⟨v,_,_,hv⟩,_⟩:=hc []
   exact ⟨v,.inl ⟨hw,w0,w',h0,.inr (.inr ⟨f,args,he,hv⟩)⟩⟩
  ·cases hf
 ·exact ⟨undef,.inr ⟨by simpa using hw,rfl⟩⟩
theorem aset_first {md:Region.Mode} {Q:Act→Prop} {w0:World} (h0:C w0) {i:Nat} {oi:Oper} (hi:ops[i]? = some oi) (hsel:∀(j:Nat) (o:Oper) cs b,ops[j]? = some o→o.op≠.select cs b) :
  ∀(fuel:Nat) (listed:Array Bool) (a:Act),
   (∀j oj,ops[j]? = some oj→j≠i→listed.getD j true=false→(∀e∈oj.after,Region.binds md e=true→e.on≠i)→oi.apart ops oj=true) →
   i∈Region.ready md ops listed→Good P ops C VC oi a →
   (∀v,Vals P ops C VC oi a v→ASet P md ops C VC Q fuel (listed.setIfInBounds i true) (a.put oi.dst v))→ASet P md ops C VC Q (fuel+1) listed a
 | 0,listed,a,_,hr,hg,H=>by
  refine ⟨fun e=>(by rw [e] at hr;cases hr),fun j hj o ho=>?_⟩
  by_cases hji:j=i
  ·subst hji
   obtain rfl:oi=o:=Option.some.inj (hi.symm.trans ho)
   exact ⟨hg,H⟩
  ·exfalso
   obtain ⟨v,hv⟩:=some_val h0 hg
   have:=ready_mono hj hji
   rw [(H v hv).1] at this
   cases this
 | fuel+1,listed,a,hfree,hr,hg,H=>by
  refine ⟨fun e=>(by rw [e] at hr;cases hr),fun j hj oj hoj=>?_⟩
  by_cases hji:j=i
  ·subst hji
   obtain rfl:oi=oj:=Option.some.inj (hi.symm.trans hoj)
   exact ⟨hg,H⟩
  ·have hun:listed.getD j true=false:=(mem_ready.1 hj).1
   have hno:∀e∈oj.after,Region.binds md e=true→e.on≠i:=by
    intro e he hb hon
    obtain ⟨_,o',ho',hall⟩:=mem_ready.1 hj
    obtain rfl:oj=o':=Option.some.inj (hoj.symm.trans ho')
    have h1:=hall e he hb
    have h2:=(mem_ready.1 hr).1
    rw [hon] at h1
    rcases Nat.lt_or_ge i listed.size with hl | hl
    ·simp only [Array.getD_eq_getD_getElem?,Array.getElem?_eq_getElem hl,Option.getD_some] at h1 h2
     rw [h1] at h2;cases h2
    ·simp [Array.getElem?_eq_none hl] at h1
   obtain ⟨x1,x2,x3⟩:=Oper.apart_spec (hfree j oj hoj hji hun hno)
   have si:=fun cs b=>hsel i oi cs b hi
   have sj:=fun cs b=>hsel j oj cs b hoj
   -- what the one gives makes no difference to the other
   have gj:∀v,(Good P ops C VC oj (a.put oi.dst v) ↔ Good P ops C VC oj a):=fun v=>good_put (execOp_put oj sj a oi.dst v x1) (wanted_put oj a oi.dst v x1)
   have vj:∀v u,(Vals P ops C VC oj (a.put oi.dst v) u ↔ Vals P ops C VC oj a u):=fun v u=>vals_put (execOp_put oj sj a oi.dst v x1) (wanted_put oj a oi.dst v x1)
   have gi:∀u,(Good P ops C VC oi (a.put oj.dst u) ↔ Good P ops C VC oi a):=fun u=>good_put (execOp_put oi si a oj.dst u x3) (wanted_put oi a oj.dst u x3)
   have vi:∀u v,(Vals P ops C VC oi (a.put oj.dst u) v ↔ Vals P ops C VC oi a v):=fun u v=>vals_put (execOp_put oi si a oj.dst u x3) (wanted_put oi a oj.dst u x3)
   obtain ⟨v0,hv0⟩:=some_val h0 hg
   have hj':=ready_mono hj hji
   refine ⟨(gj v0).1 ((H v0 hv0).2 j hj' oj hoj).1,fun u hu=>?_⟩
   refine aset_first h0 hi hsel fuel (listed.setIfInBounds j true) (a.put oj.dst u) ?_ (ready_mono hr (Ne.symm hji)) ((gi u).2 hg) fun v hv=>?_
   ·intro k ok hk hki hun' hno'
    refine hfree k ok hk hki ?_ hno'
    by_cases hjk:j=k
    ·subst hjk;exact hun
    ·rw [getD_set_ne true hjk] at hun';exact hun'
   ·have:=((H v ((vi u v).1 hv)).2 j hj' oj hoj).2 u ((vj v u).2 hu)
    rw [Array.setIfInBounds_comm _ _ hji,←Act.put_comm a v u x2]
    exact this
theorem aset_lex {md:Region.Mode} {Q:Act→Prop} {w0:World} (h0:C w0) (hs:Region.noSelect ops=true):∀(l:List Oper) (k:Nat) (listed:Array Bool) (a:Act),(∀j,l[j]? = ops[k+j]?) →
  Region.lexFrom md ops l.length k listed=true→WSet P ops C VC Q l a→ASet P md ops C VC Q l.length listed a
 | [],_,_,_,_,hB,h=>⟨by simpa [Region.lexFrom] using hB,h⟩
 | o :: l,k,listed,a,hl,hB,h=>by
  have hk:ops[k]? = some o:=by simpa using (hl 0).symm
  simp only [List.length_cons,Region.lexFrom,Bool.and_eq_true] at hB
  obtain ⟨⟨hr,hf⟩,hB'⟩:=hB
  refine aset_first h0 hk (Region.noSelect_spec hs) l.length listed a (Region.free_spec hk hf) (by simpa using hr) h.1 fun v hv=>?_
  exact aset_lex h0 hs l (k+1) _ _ (fun j=>by have:=hl (j+1);simpa [Nat.add_assoc,Nat.add_comm 1 j] using this) hB' (h.2 v hv)
theorem any_of_aset {md:Region.Mode} {Q:Act→Prop} {Q':Exit→Act→World→Prop} (hQ:∀a w,C w→Q a→Q' .normal a w):∀(fuel:Nat) (listed:Array Bool) (a:Act) (w:World),C w →
  ASet P md ops C VC Q fuel listed a→wpAny P md ops Q' fuel listed a w
 | 0,_,_,_,hw,h=>⟨h.1,hQ _ _ hw h.2⟩
 | fuel+1,listed,a,w,hw,h=>by
  refine ⟨fun e=>hQ _ _ hw (h.1 e),fun i hi=>?_⟩
  obtain ⟨_,o,ho,_⟩:=mem_ready.1 hi
  obtain ⟨hg,hv⟩:=h.2 i hi o ho
  unfold wpOp
  simp only [ho]
  by_cases hwant:Region.wanted o (yielded ops a.tmps)=true
  ·rw [if_pos hwant]
   left
   have hf:=hg hwant w hw
   unfold Oper.wp
   unfold FineRes at hf
   split at hf
   ·rename_i v w' he
    rw [he]
    exact any_of_aset hQ fuel _ _ w' hf (hv v (.inl ⟨hwant,w,w',hw,.inl he⟩))
   ·rename_i w' he
    rw [he]
    exact any_of_aset hQ fuel _ _ w' hf (hv undef (.inl ⟨hwant,w,w',hw,.inr (.inl ⟨he,rfl⟩)⟩))
   ·rename_i f args w' he
    rw [he]
    obtain ⟨hC',hc⟩:=hf
    refine hc.mono fun e w'' ⟨v,hev,hC'',hvc⟩=>?_
    subst hev
    exact any_of_aset hQ fuel _ _ w'' hC'' (hv v (.inl ⟨hwant,w,w',hw,.inr (.inr ⟨f,args,he,hvc⟩)⟩))
   ·cases hf
  ·have hwant':Region.wanted o (yielded ops a.tmps)=false:=by simpa using hwant
   rw [if_neg hwant]
   exact any_of_aset hQ fuel _ _ w hw (hv undef (.inr ⟨hwant',rfl⟩))
theorem wp_region_set {id:Nat} {Q:Exit→Act→World→Prop} {a:Act} {w:World} {l:List Oper} (C:World→Prop) (VC:FuncId→Array Value→Value→Prop) (hm:P.follows .mixedOrders=true) (hB:Region.lexB .any l.toArray=true)
  (hC:C { w with drawn:=w.drawn+1 }) (h:WSet P l.toArray C VC (fun a' => ∀w',C w'→Q .normal a' w') l a):(Code.region id l.toArray true).wp P Q a w:=by
 simp only [Region.lexB,Bool.and_eq_true] at hB
 refine wp_region_any hm (any_of_aset (VC:=VC) (Q:=fun a' => ∀w',C w'→Q .normal a' w') (fun _ w' hw' h=>h w' hw') _ _ _ _ hC ?_)
 have:=aset_lex (VC:=VC) (md:=.any) hC hB.1 l 0 (Array.replicate l.toArray.size false) a (by simp) (by simpa using hB.2) h
 simpa using this
/-! the steps of the walk, at the class 'w behind some draws' -/
def Drawn (w:World):World→Prop:=fun w' => ∃n,w'=w.drewN n
variable {w:World} {Q:Act→Prop} {o:Oper} {rest:List Oper} {a:Act}
@[go_sem] theorem drawn_self (n:Nat):Drawn w (w.drewN n)=True:=eq_true ⟨n,rfl⟩
@[go_sem] def UponS (P:Program) (VC:FuncId→Array Value→Value→Prop) (w:World) (K:Value→Prop):Result Next→Prop
 | .ok (.value v) w'=>Drawn w w'∧K v
 | .ok .skip w'=>Drawn w w'∧K undef
 | .ok (.enter f args) w'=>Drawn w w'∧(Calls P f args w' fun e w'' => ∃v,e=.returned v∧Drawn w w''∧VC f args v)∧∀v,VC f args v→K v
 | _=>False
theorem wset_step (h:∀K:Act→Prop,(∀a,WSet P ops (Drawn w) VC Q rest a→K a)→∀n:Nat,if Region.wanted o (yielded ops a.tmps) then UponS P VC w (fun v=>K (a.put o.dst v)) ((execOp a.eval o).run P (w.drewN n)) else K (a.put o.dst undef)) :
  WSet P ops (Drawn w) VC Q (o :: rest) a:=by
 have h:=h _ (fun _ h=>h)
 refine ⟨fun hw w' ⟨n,hn⟩=>?_,fun v hv=>?_⟩
 ·have:=h n
  rw [if_pos hw] at this
  rw [hn]
  unfold UponS at this
  unfold FineRes
  split at this
  ·exact this.1
  ·exact this.1
  ·exact ⟨this.1,this.2.1⟩
  ·cases this
 ·rcases hv with ⟨hw,w1,w2,⟨n,rfl⟩,hv⟩ | ⟨hw,rfl⟩
  ·have:=h n
   rw [if_pos hw] at this
   unfold UponS at this
   rcases hv with hv | ⟨hv,rfl⟩ | ⟨f,args,hv,hvc⟩
   ·rw [hv] at this;exact this.2
   ·rw [hv] at this;exact this.2
   ·rw [hv] at this;exact this.2.2 v hvc
  ·have:=h 0
   rwa [if_neg (by rw [hw];exact Bool.false_ne_true)] at this
theorem wset_nil (hq:Q a):WSet P ops (Drawn w) VC Q [] a:=hq
/-! a region whose last operations (an append, a store) wait for all others -/
structure HInv (md:Region.Mode) (ops:Array Oper) (n:Nat) (listed:Array Bool):Prop where
 size:listed.size=ops.size
 closed:∀j o,ops[j]? = some o→listed.getD j false=true→∀e∈o.after,Region.binds md e=true→listed.getD e.on false=true
 tail:∀t,n≤t→t < ops.size→listed.getD t true=false
def waitsP (md:Region.Mode) (ops:Array Oper) (k j:Nat):Bool:=match ops[k]? with
 | some o=>o.after.any fun e=>Region.binds md e && e.on == j
 | none=>false
theorem waitsP_spec {md:Region.Mode} {k j:Nat} (h:waitsP md ops k j=true):∃o,ops[k]? = some o∧∃e∈o.after,Region.binds md e=true∧e.on=j:=by
 unfold waitsP at h
 split at h
 ·rename_i o ho
  obtain ⟨e,he,hb⟩:=Array.any_eq_true'.1 h
  simp only [Bool.and_eq_true,beq_iff_eq] at hb
  exact ⟨o,ho,e,he,hb.1,hb.2⟩
 ·cases h
def sinkP (md:Region.Mode) (ops:Array Oper) (p n:Nat):Bool:=(List.range n).all fun j=>decide (j < p) || (List.range (n+1)).any fun k=>decide (j < k) && waitsP md ops k j
def chainP (md:Region.Mode) (ops:Array Oper) (n:Nat):Bool:=(List.range ops.size).all fun t=>decide (t≤n) || waitsP md ops t (t - 1)
theorem getD_two {l:Array Bool} {i:Nat} (h:l.getD i true=false):l.getD i false=false:=by
 rcases Nat.lt_or_ge i l.size with hl | hl
 ·simp only [Array.getD_eq_getD_getElem?,Array.getElem?_eq_getElem hl,Option.getD_some] at h ⊢;exact h
 ·simp [Array.getElem?_eq_none hl] at h
theorem getD_in2 {l:Array Bool} {i:Nat} (hl:i < l.size) (h:l.getD i false=false):l.getD i true=false:=by
 simp only [Array.getD_eq_getD_getElem?,Array.getElem?_eq_getElem hl,Option.getD_some] at h ⊢;exact h
theorem late {md:Region.Mode} {p n:Nat} {listed:Array Bool} (hs:sinkP md ops p n=true) (hc:chainP md ops n=true) (hn:n < ops.size) (inv:HInv md ops n listed) (hp:∀j,j < p→listed.getD j false=true) :
  ∀(d i:Nat),n - i=d→i < n→listed.getD i true=false→∀t,n≤t→t ∉ Region.ready md ops listed:=by
 intro d
 induction d using Nat.strongRecOn with
 | _ d ih =>
  intro i hd hi hun t ht hr
  have hip:¬ i < p:=fun h=>by have:=hp i h;rw [getD_two hun] at this;cases this
  have h1:=List.all_eq_true.1 hs i (List.mem_range.2 hi)
  simp only [Bool.or_eq_true,decide_eq_true_eq,hip,false_or,List.any_eq_true,List.mem_range,Bool.and_eq_true] at h1
  obtain ⟨k,hk,hik,hw⟩:=h1
  obtain ⟨ok,hok,e,he,hb,hon⟩:=waitsP_spec hw
  have hks:k < ops.size:=(Array.getElem?_eq_some_iff.1 hok).1
  obtain ⟨hunt,ot,hot,hall⟩:=mem_ready.1 hr
  have htlt:t < ops.size:=(Array.getElem?_eq_some_iff.1 hot).1
  by_cases hkn:k=n
  ·subst hkn
   by_cases htk:t=k
   ·subst htk
    obtain rfl:ok=ot:=Option.some.inj (hok.symm.trans hot)
    have:=hall e he hb
    rw [hon,getD_two hun] at this;cases this
   ·have h2:=List.all_eq_true.1 hc t (List.mem_range.2 htlt)
    simp only [Bool.or_eq_true,decide_eq_true_eq] at h2
    rcases h2 with h2 | h2
    ·omega
    ·obtain ⟨o',ho',e',he',hb',hon'⟩:=waitsP_spec h2
     obtain rfl:o'=ot:=Option.some.inj (ho'.symm.trans hot)
     have:=hall e' he' hb'
     rw [hon',getD_two (inv.tail (t - 1) (by omega) (by omega))] at this;cases this
  ·have hkl:listed.getD k false=false:=by
    cases hl:listed.getD k false with
    | false=>rfl
    | true=>have:=inv.closed k ok hok hl e he hb;rw [hon,getD_two hun] at this;cases this
   exact ih (n - k) (by omega) k rfl (by omega) (getD_in2 (by rw [inv.size];exact hks) hkl) t ht hr
theorem HInv.set {md:Region.Mode} {n j:Nat} {listed:Array Bool} (h:HInv md ops n listed) (hj:j∈Region.ready md ops listed) (hn:j < n):HInv md ops n (listed.setIfInBounds j true):=by
 refine ⟨by simpa using h.size,fun k o ho hl e he hb=>?_,fun t ht hts=>?_⟩
 ·by_cases hjk:j=k
  ·subst hjk
   obtain ⟨_,o',ho',hall⟩:=mem_ready.1 hj
   obtain rfl:o=o':=Option.some.inj (ho.symm.trans ho')
   exact getD_set_true (hall e he hb)
  ·rw [getD_set_ne false hjk] at hl
   exact getD_set_true (h.closed k o ho hl e he hb)
 ·rw [getD_set_ne true (by omega)];exact h.tail t ht hts
def TSet (P:Program) (md:Region.Mode) (ops:Array Oper) (C:World→Prop) (VC:FuncId→Array Value→Value→Prop) (n:Nat) (L:Array Bool→Act→Prop):Nat→Array Bool→Act→Prop
 | 0,listed,a=>L listed a
 | fuel+1,listed,a=>Region.ready md ops listed≠[] ∧
  ∀i∈Region.ready md ops listed,∀o,ops[i]? = some o→i < n∧Good P ops C VC o a∧∀v,Vals P ops C VC o a v→TSet P md ops C VC n L fuel (listed.setIfInBounds i true) (a.put o.dst v)
theorem tset_first {md:Region.Mode} {p n:Nat} {L:Array Bool→Act→Prop} {w0:World} (h0:C w0) {i:Nat} {oi:Oper} (hi:ops[i]? = some oi) (hsel:∀(j:Nat) (o:Oper) cs b,ops[j]? = some o→o.op≠.select cs b)
  (hs:sinkP md ops p n=true) (hc:chainP md ops n=true) (hn:n < ops.size) (hin:i < n) (hdone:∀listed a,L listed a→∀j∈Region.ready md ops listed,n≤j) :
  ∀(fuel:Nat) (listed:Array Bool) (a:Act),HInv md ops n listed→(∀j,j < p→listed.getD j false=true) →
   (∀j oj,ops[j]? = some oj→j≠i→listed.getD j true=false→(∀e∈oj.after,Region.binds md e=true→e.on≠i)→oi.apart ops oj=true) →
   i∈Region.ready md ops listed→Good P ops C VC oi a →
   (∀v,Vals P ops C VC oi a v→TSet P md ops C VC n L fuel (listed.setIfInBounds i true) (a.put oi.dst v))→TSet P md ops C VC n L (fuel+1) listed a
 | 0,listed,a,inv,hp,_,hr,hg,H=>by
  have hun:=(mem_ready.1 hr).1
  refine ⟨fun e=>(by rw [e] at hr;cases hr),fun j hj o ho=>?_⟩
  have hjn:j < n:=by
   rcases Nat.lt_or_ge j n with h | h
   ·exact h
   ·exact absurd hj (late hs hc hn inv hp _ i rfl hin hun j h)
  by_cases hji:j=i
  ·subst hji
   obtain rfl:oi=o:=Option.some.inj (hi.symm.trans ho)
   exact ⟨hjn,hg,H⟩
  ·exfalso
   obtain ⟨v,hv⟩:=some_val h0 hg
   have:=hdone _ _ (H v hv) j (ready_mono hj hji)
   omega
 | fuel+1,listed,a,inv,hp,hfree,hr,hg,H=>by
  have huni:=(mem_ready.1 hr).1
  refine ⟨fun e=>(by rw [e] at hr;cases hr),fun j hj oj hoj=>?_⟩
  have hjn:j < n:=by
   rcases Nat.lt_or_ge j n with h | h
   ·exact h
   ·exact absurd hj (late hs hc hn inv hp _ i rfl hin huni j h)
  by_cases hji:j=i
  ·subst hji
   obtain rfl:oi=oj:=Option.some.inj (hi.symm.trans hoj)
   exact ⟨hjn,hg,H⟩
  ·have hun:listed.getD j true=false:=(mem_ready.1 hj).1
   have hno:∀e∈oj.after,Region.binds md e=true→e.on≠i:=by
    intro e he hb hon
    obtain ⟨_,o',ho',hall⟩:=mem_ready.1 hj
    obtain rfl:oj=o':=Option.some.inj (hoj.symm.trans ho')
    have h1:=hall e he hb
    rw [hon,getD_two huni] at h1;cases h1
   obtain ⟨x1,x2,x3⟩:=Oper.apart_spec (hfree j oj hoj hji hun hno)
   have si:=fun cs b=>hsel i oi cs b hi
   have sj:=fun cs b=>hsel j oj cs b hoj
   have gj:∀v,(Good P ops C VC oj (a.put oi.dst v) ↔ Good P ops C VC oj a):=fun v=>good_put (execOp_put oj sj a oi.dst v x1) (wanted_put oj a oi.dst v x1)
   have vj:∀v u,(Vals P ops C VC oj (a.put oi.dst v) u ↔ Vals P ops C VC oj a u):=fun v u=>vals_put (execOp_put oj sj a oi.dst v x1) (wanted_put oj a oi.dst v x1)
   have gi:∀u,(Good P ops C VC oi (a.put oj.dst u) ↔ Good P ops C VC oi a):=fun u=>good_put (execOp_put oi si a oj.dst u x3) (wanted_put oi a oj.dst u x3)
   have vi:∀u v,(Vals P ops C VC oi (a.put oj.dst u) v ↔ Vals P ops C VC oi a v):=fun u v=>vals_put (execOp_put oi si a oj.dst u x3) (wanted_put oi a oj.dst u x3)
   obtain ⟨v0,hv0⟩:=some_val h0 hg
   have hj':=ready_mono hj hji
   refine ⟨hjn,(gj v0).1 ((H v0 hv0).2 j hj' oj hoj).2.1,fun u hu=>?_⟩
   refine tset_first h0 hi hsel hs hc hn hin hdone fuel (listed.setIfInBounds j true) (a.put oj.dst u) (inv.set hj hjn) (fun q hq=>getD_set_true (hp q hq)) ?_ (ready_mono hr (Ne.symm hji)) ((gi u).2 hg) fun v hv=>?_
   ·intro k ok hk hki hun' hno'
    refine hfree k ok hk hki ?_ hno'
    by_cases hjk:j=k
    ·subst hjk;exact hun
    ·rw [getD_set_ne true hjk] at hun';exact hun'
   ·have:=((H v ((vi u v).1 hv)).2 j hj' oj hoj).2.2 u ((vj v u).2 hu)
    rw [Array.setIfInBounds_comm _ _ hji,←Act.put_comm a v u x2]
    exact this
theorem tset_lex {md:Region.Mode} {p n g:Nat} {Lq:Act→Prop} {w0:World} (h0:C w0) (hsel:Region.noSelect ops=true) (hs:sinkP md ops p n=true) (hc:chainP md ops n=true) (hn:n < ops.size) :
  ∀(l:List Oper) (k:Nat) (listed:Array Bool) (a:Act),(∀j,j < l.length→l[j]? = ops[k+j]?)→k+l.length=n→HInv md ops n listed→(∀j,j < p→listed.getD j false=true) →
  Region.lexHead md ops g l.length k listed=true→WSet P ops C VC Lq l a →
  TSet P md ops C VC n (fun listed' a'=>Region.seqB md ops g n listed'=true∧Lq a') l.length listed a
 | [],k,listed,a,_,hk,_,_,hB,h=>by
  have:k=n:=by simpa using hk
  subst this
  exact ⟨by simpa [Region.lexHead] using hB,h⟩
 | o :: l,k,listed,a,hl,hk,inv,hp,hB,h=>by
  have hk0:ops[k]? = some o:=by simpa using (hl 0 (by simp)).symm
  simp only [List.length_cons,Region.lexHead,Bool.and_eq_true] at hB
  obtain ⟨⟨hr,hf⟩,hB'⟩:=hB
  have hkn:k < n:=by simp only [List.length_cons] at hk;omega
  have hr':k∈Region.ready md ops listed:=by simpa using hr
  refine tset_first h0 hk0 (Region.noSelect_spec hsel) hs hc hn hkn (fun listed' a' hL=>seqB_ready hL.1) l.length listed a inv hp (Region.free_spec hk0 hf) hr' h.1 fun v hv=>?_
  exact tset_lex h0 hsel hs hc hn l (k+1) _ _ (fun j hj=>by have:=hl (j+1) (by simp;omega);simpa [Nat.add_assoc,Nat.add_comm 1 j] using this) (by simp only [List.length_cons] at hk;omega) (inv.set hr' hkn) (fun q hq=>getD_set_true (hp q hq)) hB' (h.2 v hv)
theorem any_of_tset {md:Region.Mode} {n g:Nat} {L:Array Bool→Act→Prop} {Q':Exit→Act→World→Prop} (hL:∀listed a w,C w→L listed a→wpAny P md ops Q' g listed a w):∀(fuel:Nat) (listed:Array Bool) (a:Act) (w:World),C w →
  TSet P md ops C VC n L fuel listed a→wpAny P md ops Q' (fuel+g) listed a w
 | 0,_,_,_,hw,h=>by rw [Nat.zero_add];exact hL _ _ _ hw h
 | fuel+1,listed,a,w,hw,h=>by
  rw [show fuel+1+g=(fuel+g)+1 by omega]
  refine ⟨fun e=>absurd e h.1,fun i hi=>?_⟩
  obtain ⟨_,o,ho,_⟩:=mem_ready.1 hi
  obtain ⟨_,hg,hv⟩:=h.2 i hi o ho
  unfold wpOp
  simp only [ho]
  by_cases hwant:Region.wanted o (yielded ops a.tmps)=true
  ·rw [if_pos hwant]
   left
   have hf:=hg hwant w hw
   unfold Oper.wp
   unfold FineRes at hf
   split at hf
   ·rename_i v w' he
    rw [he]
    exact any_of_tset hL fuel _ _ w' hf (hv v (.inl ⟨hwant,w,w',hw,.inl he⟩))
   ·rename_i w' he
    rw [he]
    exact any_of_tset hL fuel _ _ w' hf (hv undef (.inl ⟨hwant,w,w',hw,.inr (.inl ⟨he,rfl⟩)⟩))
   ·rename_i f args w' he
    rw [he]
    obtain ⟨hC',hc⟩:=hf
    refine hc.mono fun e w'' ⟨v,hev,hC'',hvc⟩=>?_
    subst hev
    exact any_of_tset hL fuel _ _ w'' hC'' (hv v (.inl ⟨hwant,w,w',hw,.inr (.inr ⟨f,args,he,hvc⟩)⟩))
   ·cases hf
  ·have hwant':Region.wanted o (yielded ops a.tmps)=false:=by simpa using hwant
   rw [if_neg hwant]
   exact any_of_tset hL fuel _ _ w hw (hv undef (.inr ⟨hwant',rfl⟩))
def tailB (ops:Array Oper) (n:Nat):Bool :=
 Region.noSelect ops && decide (n < ops.size) && sinkP .any ops 0 n && chainP .any ops n && Region.lexHead .any ops (ops.size - n) n 0 (Array.replicate ops.size false)
theorem wp_region_tail {id:Nat} {Q:Exit→Act→World→Prop} {a:Act} {w:World} {l:List Oper} (n:Nat) (VC:FuncId→Array Value→Value→Prop) (hm:P.follows .mixedOrders=true) (hB:tailB l.toArray n=true)
  (h:WSet P l.toArray (Drawn w) VC (fun a' => ∀w',Drawn w w'→wpList P l.toArray Q (l.drop n) a' w') (l.take n) a):(Code.region id l.toArray true).wp P Q a w:=by
 simp only [tailB,Bool.and_eq_true,decide_eq_true_eq] at hB
 obtain ⟨⟨⟨⟨hsel,hn⟩,hs⟩,hc⟩,hlex⟩:=hB
 have hn':n < l.length:=by simpa using hn
 have htl:(l.take n).length=n:=by simp;omega
 have hdl:(l.drop n).length=l.toArray.size - n:=by simp
 have gf:∀i,(Array.replicate l.toArray.size false).getD i false=false:=fun i=>by
  simp only [Array.getD_eq_getD_getElem?,Array.getElem?_replicate];split <;> rfl
 have inv0:HInv .any l.toArray n (Array.replicate l.toArray.size false) :=
  ⟨by simp,fun j oj _ hl=>(by rw [gf] at hl;cases hl),fun t _ ht=>getD_in2 (by simpa using ht) (gf t)⟩
 have hd:Drawn w { w with drawn:=w.drawn+1 }:=⟨1,rfl⟩
 have H:=tset_lex (VC:=VC) (md:=.any) (g:=l.toArray.size - n) hd hsel hs hc hn (l.take n) 0 _ a (fun j hj=>by
  have hj':j < n:=by rw [htl] at hj;exact hj
  simp [hj']) (by simpa using htl) inv0 (fun j hj=>by omega) (by rw [htl];exact hlex) h
 refine wp_region_any hm ?_
 have:=any_of_tset (Q':=Q) (g:=l.toArray.size - n) (fun listed a' w' hw' hL=>by
  have:=wpAny_of_seq (md:=.any) (Q':=Q) (l.drop n) n listed a' w' (fun j=>by simp [List.getElem?_drop]) (by rw [hdl];exact hL.1) (hL.2 w' hw')
  rwa [hdl] at this) _ _ _ _ hd H
 rw [htl,show n+(l.toArray.size - n)=l.toArray.size by omega] at this
 exact this
def tailB1 (ops:Array Oper) (n:Nat):Bool :=
 Region.noSelect ops && decide (n < ops.size) && decide (1≤n) && sinkP .any ops 1 n && chainP .any ops n && (Region.ready .any ops (Array.replicate ops.size false)).contains 0 && Region.free .any ops (Array.replicate ops.size false) 0 &&
  Region.lexHead .any ops (ops.size - n) (n - 1) 1 ((Array.replicate ops.size false).setIfInBounds 0 true)
theorem wp_region_tail1 {id:Nat} {Q:Exit→Act→World→Prop} {a:Act} {w:World} {o:Oper} {l:List Oper} (n:Nat) (x:Operand) (VC:FuncId→Array Value→Value→Prop) (hm:P.follows .mixedOrders=true) (hB:tailB1 (o :: l).toArray n=true)
  (ho:o.op=.move x) (hg:o.guard=none) (hQ:∀c b w,Q (.panic c) (b.put o.dst (a.eval x)) w→Q (.panic c) b w)
  (h:WSet P (o :: l).toArray (Drawn w) VC (fun a' => ∀w',Drawn w w'→wpList P (o :: l).toArray Q ((o :: l).drop n) a' w') (l.take (n - 1)) (a.put o.dst (a.eval x))):(Code.region id (o :: l).toArray true).wp P Q a w:=by
 simp only [tailB1,Bool.and_eq_true,decide_eq_true_eq] at hB
 obtain ⟨⟨⟨⟨⟨⟨⟨hsel,hn⟩,h1n⟩,hs⟩,hc⟩,hr0⟩,hf0⟩,hlex⟩:=hB
 have hn':n < l.length+1:=by simpa using hn
 have htl:(l.take (n - 1)).length=n - 1:=by simp;omega
 have hdl:((o :: l).drop n).length=(o :: l).toArray.size - n:=by simp
 have gf:∀i,(Array.replicate (o :: l).toArray.size false).getD i false=false:=fun i=>by
  simp only [Array.getD_eq_getD_getElem?,Array.getElem?_replicate];split <;> rfl
 have inv0:HInv .any (o :: l).toArray n (Array.replicate (o :: l).toArray.size false) :=
  ⟨by simp,fun j oj _ hl=>(by rw [gf] at hl;cases hl),fun t _ ht=>getD_in2 (by simpa using ht) (gf t)⟩
 have hr0':0∈Region.ready .any (o :: l).toArray (Array.replicate (o :: l).toArray.size false):=by simpa using hr0
 have hd:Drawn w { w with drawn:=w.drawn+1 }:=⟨1,rfl⟩
 have h00:(o :: l).toArray[0]? = some o:=by simp
 have H:=tset_lex (VC:=VC) (md:=.any) (p:=1) (g:=(o :: l).toArray.size - n) hd hsel hs hc hn (l.take (n - 1)) 1 ((Array.replicate (o :: l).toArray.size false).setIfInBounds 0 true) (a.put o.dst (a.eval x)) (fun j hj=>by
  have hj':j < n - 1:=by rw [htl] at hj;exact hj
  rw [List.getElem?_take,if_pos hj',Nat.add_comm 1 j];simp) (by rw [htl];omega) (inv0.set hr0' (by omega)) (fun j hj=>by
   obtain rfl:j=0:=by omega
   simp) (by rw [htl];exact hlex) h
 refine wp_region_any hm ?_
 have:=any_of_tset (Q':=Q) (g:=(o :: l).toArray.size - n) (fun listed a' w' hw' hL=>by
  have:=wpAny_of_seq (md:=.any) (Q':=Q) ((o :: l).drop n) n listed a' w' (fun j=>by rw [List.getElem?_drop];simp) (by rw [hdl];exact hL.1) (hL.2 w' hw')
  rwa [hdl] at this) _ _ _ _ hd H
 rw [htl] at this
 have hsz:(o :: l).toArray.size=(n - 1+((o :: l).toArray.size - n))+1:=by omega
 rw [show (wpAny P .any (o :: l).toArray Q (o :: l).toArray.size)=wpAny P .any (o :: l).toArray Q ((n - 1+((o :: l).toArray.size - n))+1) by rw [←hsz]]
 refine wpAny_take h00 hsel hf0 hr0 hQ (.inl ⟨by simp [Region.wanted,hg],fun w=>?_⟩) this
 simp [execOp,ho]
theorem wp_region_drawn {id:Nat} {Q:Exit→Act→World→Prop} {a:Act} {w:World} {l:List Oper} (VC:FuncId→Array Value→Value→Prop) (hm:P.follows .mixedOrders=true) (hB:Region.lexB .any l.toArray=true)
  (h:WSet P l.toArray (Drawn w) VC (fun a' => ∀w',Drawn w w'→Q .normal a' w') l a):(Code.region id l.toArray true).wp P Q a w :=
 wp_region_set (Drawn w) VC hm hB ⟨1,rfl⟩ h
end
end
section
open Go Go.RowKit
section
variable {P:Program} {ops:Array Oper} {C:World→Prop} {VC:FuncId→Array Value→Value→Prop} {Q:Act→Prop} {o:Oper} {rest:List Oper} {a:Act}
@[go_sem] def UponC (P:Program) (VC:FuncId→Array Value→Value→Prop) (C:World→Prop) (K:Value→Prop):Result Next→Prop
 | .ok (.value v) w'=>C w'∧K v
 | .ok .skip w'=>C w'∧K undef
 | .ok (.enter f args) w'=>C w'∧(Calls P f args w' fun e w'' => ∃v,e=.returned v∧C w''∧VC f args v)∧∀v,VC f args v→K v
 | _=>False
theorem cset_step {w0:World} (h0:C w0) (h:∀K:Act→Prop,(∀a,WSet P ops C VC Q rest a→K a)→∀W:World,C W→if Region.wanted o (yielded ops a.tmps) then UponC P VC C (fun v=>K (a.put o.dst v)) ((execOp a.eval o).run P W) else K (a.put o.dst undef)) :
  WSet P ops C VC Q (o :: rest) a:=by
 have h:=h _ (fun _ h=>h)
 refine ⟨fun hw w' hC=>?_,fun v hv=>?_⟩
 ·have:=h w' hC
  rw [if_pos hw] at this
  revert this
  generalize (execOp a.eval o).run P w'=r
  intro this
  unfold UponC at this
  unfold FineRes
  split at this
  ·exact this.1
  ·exact this.1
  ·exact ⟨this.1,this.2.1⟩
  ·cases this
 ·rcases hv with ⟨hw,w1,w2,hC,hv⟩ | ⟨hw,rfl⟩
  ·have:=h w1 hC
   rw [if_pos hw] at this
   unfold UponC at this
   rcases hv with hv | ⟨hv,rfl⟩ | ⟨f,args,hv,hvc⟩
   ·rw [hv] at this;exact this.2
   ·rw [hv] at this;exact this.2
   ·rw [hv] at this;exact this.2.2 v hvc
  ·have:=h w0 h0
   rwa [if_neg (by rw [hw];exact Bool.false_ne_true)] at this
theorem cset_nil (hq:Q a):WSet P ops C VC Q [] a:=hq
def VC1 (va:Value) (f:FuncId) (args:Array Value) (u:Value):Prop:=u=va
def Low (w W:World):Prop:=Below w.heap.size w W
@[go_sem] theorem low_drawn {w W:World} (h:Low w W) (n:Nat):Low w (W.drewN n)=True:=by
 exact eq_true (below_drewN h n)
theorem low_self (w:World):Low w w:=Below.refl _ _
theorem low_drew1 (w:World):Low w { w with drawn:=w.drawn+1 }:=Below.drew (Below.refl _ _)
theorem wp_region_low {id:Nat} {Q:Exit→Act→World→Prop} {a:Act} {w:World} {l:List Oper} (VC:FuncId→Array Value→Value→Prop) (hm:P.follows .mixedOrders=true) (hB:Region.lexB .any l.toArray=true)
  (h:WSet P l.toArray (Low w) VC (fun a' => ∀w',Low w w'→Q .normal a' w') l a):(Code.region id l.toArray true).wp P Q a w :=
 wp_region_set (Low w) VC hm hB (low_drew1 w) h
end
section
variable {P:Program} {ops:Array Oper} {S:World→Prop} {VC:FuncId→Array Value→Value→Prop} {D:FuncId→Array Value→World→Value→World→Prop} {sp:List Nat}
def GoodM (P:Program) (ops:Array Oper) (S:World→Prop) (VC:FuncId→Array Value→Value→Prop) (o:Oper) (a:Act):Prop:=Region.wanted o (yielded ops a.tmps)=true→∀W,S W→FineRes P (Drawn W) VC ((execOp a.eval o).run P W)
@[go_sem] def SpecRes (P:Program) (D:FuncId→Array Value→World→Value→World→Prop) (K:Value→World→Prop):Result Next→Prop
 | .ok (.value v) w'=>K v w'
 | .ok .skip w'=>K undef w'
 | .ok (.enter f args) w'=>(Calls P f args w' fun e w'' => ∃v,e=.returned v∧D f args w' v w'')∧∀v w'',D f args w' v w''→K v w''
 | _=>False
def SpecAt (P:Program) (ops:Array Oper) (D:FuncId→Array Value→World→Value→World→Prop) (o:Oper) (a:Act) (w:World) (K:Value→World→Prop):Prop :=
 (Region.wanted o (yielded ops a.tmps)=true→∀n:Nat,SpecRes P D K ((execOp a.eval o).run P (w.drewN n)))∧(Region.wanted o (yielded ops a.tmps)=false→K undef w)
theorem SpecRes.mono {K K':Value→World→Prop} {r:Result Next} (h:SpecRes P D K r) (hk:∀v w,K v w→K' v w):SpecRes P D K' r:=by
 revert h
 unfold SpecRes
 split
 ·exact fun h=>hk _ _ h
 ·exact fun h=>hk _ _ h
 ·exact fun h=>⟨h.1,fun v w'' hd=>hk _ _ (h.2 v w'' hd)⟩
 ·exact fun h=>h
theorem SpecRes.all {ι:Type} {V:ι→Prop} {K:ι→Value→World→Prop} {r:Result Next} (i0:ι) (h0:V i0) (h:∀i,V i→SpecRes P D (K i) r):SpecRes P D (fun v w => ∀i,V i→K i v w) r:=by
 revert h
 unfold SpecRes
 split
 ·exact fun h i hi=>h i hi
 ·exact fun h i hi=>h i hi
 ·exact fun h=>⟨(h i0 h0).1,fun v w'' hd i hi=>(h i hi).2 v w'' hd⟩
 ·exact fun h=>h i0 h0
theorem SpecRes.some {K:Value→World→Prop} {r:Result Next} (h:SpecRes P D K r):∃v w,K v w:=by
 revert h
 unfold SpecRes
 split
 ·exact fun h=>⟨_,_,h⟩
 ·exact fun h=>⟨_,_,h⟩
 ·intro h
  obtain ⟨e,w'',fr,⟨v,_,hd⟩,_⟩:=h.1 []
  exact ⟨v,w'',h.2 v w'' hd⟩
 ·exact fun h=>h.elim
theorem SpecAt.mono {o:Oper} {a:Act} {w:World} {K K':Value→World→Prop} (h:SpecAt P ops D o a w K) (hk:∀v w,K v w→K' v w):SpecAt P ops D o a w K' :=
 ⟨fun hw n=>(h.1 hw n).mono hk,fun hw=>hk _ _ (h.2 hw)⟩
theorem SpecAt.all {o:Oper} {a:Act} {w:World} {ι:Type} {V:ι→Prop} {K:ι→Value→World→Prop} (i0:ι) (h0:V i0) (h:∀i,V i→SpecAt P ops D o a w (K i)):SpecAt P ops D o a w (fun v w => ∀i,V i→K i v w) :=
 ⟨fun hw n=>SpecRes.all i0 h0 fun i hi=>(h i hi).1 hw n,fun hw i hi=>(h i hi).2 hw⟩
theorem SpecAt.some {o:Oper} {a:Act} {w:World} {K:Value→World→Prop} (h:SpecAt P ops D o a w K):∃v w,K v w:=by
 cases hw:Region.wanted o (yielded ops a.tmps)
 ·exact ⟨_,_,h.2 hw⟩
 ·exact (h.1 hw 0).some
theorem specAt_put {o:Oper} {a:Act} {d:Option Tmp} {u:Value} {w:World} {K:Value→World→Prop} (he:execOp (a.put d u).eval o=execOp a.eval o) (hw:Region.wanted o (yielded ops (a.put d u).tmps)=Region.wanted o (yielded ops a.tmps)) :
  SpecAt P ops D o (a.put d u) w K ↔ SpecAt P ops D o a w K:=by
 unfold SpecAt
 rw [he,hw]
theorem goodM_put {o:Oper} {a:Act} {d:Option Tmp} {u:Value} (he:execOp (a.put d u).eval o=execOp a.eval o) (hw:Region.wanted o (yielded ops (a.put d u).tmps)=Region.wanted o (yielded ops a.tmps)) :
  GoodM P ops S VC o (a.put d u) ↔ GoodM P ops S VC o a:=by
 unfold GoodM
 rw [he,hw]
theorem some_valM {o:Oper} {a:Act} {w0:World} (h0:S w0) (h:GoodM P ops S VC o a):∃v,Vals P ops S VC o a v:=by
 by_cases hw:Region.wanted o (yielded ops a.tmps)=true
 ·have hf:=h hw w0 h0
  unfold FineRes at hf
  split at hf
  ·rename_i v w' he;exact ⟨v,.inl ⟨hw,w0,w',h0,.inl he⟩⟩
  ·rename_i w' he;exact ⟨undef,.inl ⟨hw,w0,w',h0,.inr (.inl ⟨he,rfl⟩)⟩⟩
  ·rename_i f args w' he
   obtain ⟨_,hc⟩:=hf
   obtain ⟨e,w'',fr,⟨v,_,_,hv⟩,_⟩:=hc []
   exact ⟨v,.inl ⟨hw,w0,w',h0,.inr (.inr ⟨f,args,he,hv⟩)⟩⟩
  ·cases hf
 ·exact ⟨undef,.inr ⟨by simpa using hw,rfl⟩⟩
def MSet (P:Program) (md:Region.Mode) (ops:Array Oper) (S:World→Prop) (VC:FuncId→Array Value→Value→Prop) (D:FuncId→Array Value→World→Value→World→Prop) (sp:List Nat) (n:Nat) (L:Array Bool→Act→World→Prop):Nat→Array Bool→Act→World→Prop
 | 0,listed,a,w=>L listed a w
 | fuel+1,listed,a,w=>Region.ready md ops listed≠[] ∧
  ∀i∈Region.ready md ops listed,∀o,ops[i]? = some o→i < n ∧
   (sp.contains i=true→SpecAt P ops D o a w fun v w'=>S w'∧MSet P md ops S VC D sp n L fuel (listed.setIfInBounds i true) (a.put o.dst v) w') ∧
   (sp.contains i=false→GoodM P ops S VC o a∧∀v,Vals P ops S VC o a v→MSet P md ops S VC D sp n L fuel (listed.setIfInBounds i true) (a.put o.dst v) w)
structure MInv (md:Region.Mode) (ops:Array Oper) (n:Nat) (listed:Array Bool):Prop where
 inv:HInv md ops n listed
theorem mset_plain {md:Region.Mode} {n:Nat} {L:Array Bool→Act→World→Prop} {i:Nat} {oi:Oper} (hi:ops[i]? = some oi) (hsp:sp.contains i=false) (hsel:∀(j:Nat) (o:Oper) cs b,ops[j]? = some o→o.op≠.select cs b)
  (hlt:∀listed,HInv md ops n listed→listed.getD i true=false→∀j∈Region.ready md ops listed,j < n) (hdone:∀listed a w,L listed a w→∀j∈Region.ready md ops listed,n≤j) :
  ∀(fuel:Nat) (listed:Array Bool) (a:Act) (w:World),S w→HInv md ops n listed →
   (∀j oj,ops[j]? = some oj→j≠i→listed.getD j true=false→(∀e∈oj.after,Region.binds md e=true→e.on≠i)→oi.apart ops oj=true) →
   i∈Region.ready md ops listed→GoodM P ops S VC oi a →
   (∀v,Vals P ops S VC oi a v→MSet P md ops S VC D sp n L fuel (listed.setIfInBounds i true) (a.put oi.dst v) w)→MSet P md ops S VC D sp n L (fuel+1) listed a w
 | 0,listed,a,w,h0,inv,_,hr,hg,H=>by
  have hun:=(mem_ready.1 hr).1
  refine ⟨fun e=>(by rw [e] at hr;cases hr),fun j hj o ho=>?_⟩
  have hjn:=hlt listed inv hun j hj
  by_cases hji:j=i
  ·subst hji
   obtain rfl:oi=o:=Option.some.inj (hi.symm.trans ho)
   exact ⟨hjn,fun h=>(by rw [hsp] at h;cases h),fun _=>⟨hg,H⟩⟩
  ·exfalso
   obtain ⟨v,hv⟩:=some_valM h0 hg
   have:=hdone _ _ _ (H v hv) j (ready_mono hj hji)
   omega
 | fuel+1,listed,a,w,h0,inv,hfree,hr,hg,H=>by
  have huni:=(mem_ready.1 hr).1
  refine ⟨fun e=>(by rw [e] at hr;cases hr),fun j hj oj hoj=>?_⟩
  have hjn:=hlt listed inv huni j hj
  by_cases hji:j=i
  ·subst hji
   obtain rfl:oi=oj:=Option.some.inj (hi.symm.trans hoj)
   exact ⟨hjn,fun h=>(by rw [hsp] at h;cases h),fun _=>⟨hg,H⟩⟩
  ·have hun:listed.getD j true=false:=(mem_ready.1 hj).1
   have hno:∀e∈oj.after,Region.binds md e=true→e.on≠i:=by
    intro e he hb hon
    obtain ⟨_,o',ho',hall⟩:=mem_ready.1 hj
    obtain rfl:oj=o':=Option.some.inj (hoj.symm.trans ho')
    have h1:=hall e he hb
    rw [hon,getD_two huni] at h1;cases h1
   obtain ⟨x1,x2,x3⟩:=Oper.apart_spec (hfree j oj hoj hji hun hno)
   have si:=fun cs b=>hsel i oi cs b hi
   have sj:=fun cs b=>hsel j oj cs b hoj
   have ej:∀v,execOp (a.put oi.dst v).eval oj=execOp a.eval oj:=fun v=>execOp_put oj sj a oi.dst v x1
   have wj:∀v,Region.wanted oj (yielded ops (a.put oi.dst v).tmps)=Region.wanted oj (yielded ops a.tmps):=fun v=>wanted_put oj a oi.dst v x1
   have gi:∀u,(GoodM P ops S VC oi (a.put oj.dst u) ↔ GoodM P ops S VC oi a):=fun u=>goodM_put (execOp_put oi si a oj.dst u x3) (wanted_put oi a oj.dst u x3)
   have vi:∀u v,(Vals P ops S VC oi (a.put oj.dst u) v ↔ Vals P ops S VC oi a v):=fun u v=>vals_put (execOp_put oi si a oj.dst u x3) (wanted_put oi a oj.dst u x3)
   obtain ⟨v0,hv0⟩:=some_valM h0 hg
   have hj':=ready_mono hj hji
   have hfree':∀k ok,ops[k]? = some ok→k≠i→(listed.setIfInBounds j true).getD k true=false→(∀e∈ok.after,Region.binds md e=true→e.on≠i)→oi.apart ops ok=true:=by
    intro k ok hk hki hun' hno'
    refine hfree k ok hk hki ?_ hno'
    by_cases hjk:j=k
    ·subst hjk;exact hun
    ·rw [getD_set_ne true hjk] at hun';exact hun'
   refine ⟨hjn,fun hs=>?_,fun hs=>?_⟩
   ·have h1:∀v,Vals P ops S VC oi a v→SpecAt P ops D oj a w fun u w'=>S w'∧MSet P md ops S VC D sp n L fuel ((listed.setIfInBounds i true).setIfInBounds j true) ((a.put oi.dst v).put oj.dst u) w':=fun v hv =>
     (specAt_put (ej v) (wj v)).1 (((H v hv).2 j hj' oj hoj).2.1 hs)
    refine (SpecAt.all v0 hv0 h1).mono fun u w' hK=>⟨(hK v0 hv0).1,?_⟩
    refine mset_plain hi hsp hsel hlt hdone fuel (listed.setIfInBounds j true) (a.put oj.dst u) w' (hK v0 hv0).1 (inv.set hj hjn) hfree' (ready_mono hr (Ne.symm hji)) ((gi u).2 hg) fun v hv=>?_
    have:=(hK v ((vi u v).1 hv)).2
    rw [Array.setIfInBounds_comm _ _ hji,←Act.put_comm a v u x2]
    exact this
   ·have gj:∀v,(GoodM P ops S VC oj (a.put oi.dst v) ↔ GoodM P ops S VC oj a):=fun v=>goodM_put (ej v) (wj v)
    have vj:∀v u,(Vals P ops S VC oj (a.put oi.dst v) u ↔ Vals P ops S VC oj a u):=fun v u=>vals_put (ej v) (wj v)
    refine ⟨(gj v0).1 (((H v0 hv0).2 j hj' oj hoj).2.2 hs).1,fun u hu=>?_⟩
    refine mset_plain hi hsp hsel hlt hdone fuel (listed.setIfInBounds j true) (a.put oj.dst u) w h0 (inv.set hj hjn) hfree' (ready_mono hr (Ne.symm hji)) ((gi u).2 hg) fun v hv=>?_
    have:=(((H v ((vi u v).1 hv)).2 j hj' oj hoj).2.2 hs).2 u ((vj v u).2 hu)
    rw [Array.setIfInBounds_comm _ _ hji,←Act.put_comm a v u x2]
    exact this
theorem mset_spec {md:Region.Mode} {n:Nat} {L:Array Bool→Act→World→Prop} {i:Nat} {oi:Oper} (hi:ops[i]? = some oi) (hsp:sp.contains i=true) (hsel:∀(j:Nat) (o:Oper) cs b,ops[j]? = some o→o.op≠.select cs b)
  (hlt:∀listed,HInv md ops n listed→listed.getD i true=false→∀j∈Region.ready md ops listed,j < n) (hdone:∀listed a w,L listed a w→∀j∈Region.ready md ops listed,n≤j)
  (hone:∀listed,HInv md ops n listed→(∀j,j < i→listed.getD j false=true)→listed.getD i true=false→∀j∈Region.ready md ops listed,j≠i→sp.contains j=false) :
  ∀(fuel:Nat) (listed:Array Bool) (a:Act) (w:World),S w→HInv md ops n listed→(∀j,j < i→listed.getD j false=true) →
   (∀j oj,ops[j]? = some oj→j≠i→listed.getD j true=false→(∀e∈oj.after,Region.binds md e=true→e.on≠i)→oi.apart ops oj=true) →
   i∈Region.ready md ops listed →
   (SpecAt P ops D oi a w fun v w'=>S w'∧MSet P md ops S VC D sp n L fuel (listed.setIfInBounds i true) (a.put oi.dst v) w')→MSet P md ops S VC D sp n L (fuel+1) listed a w
 | 0,listed,a,w,h0,inv,hp,_,hr,H=>by
  have hun:=(mem_ready.1 hr).1
  refine ⟨fun e=>(by rw [e] at hr;cases hr),fun j hj o ho=>?_⟩
  have hjn:=hlt listed inv hun j hj
  by_cases hji:j=i
  ·subst hji
   obtain rfl:oi=o:=Option.some.inj (hi.symm.trans ho)
   exact ⟨hjn,fun _=>H,fun h=>(by rw [hsp] at h;cases h)⟩
  ·exfalso
   obtain ⟨v,w',_,hL⟩:=H.some
   have:=hdone _ _ _ hL j (ready_mono hj hji)
   omega
 | fuel+1,listed,a,w,h0,inv,hp,hfree,hr,H=>by
  have huni:=(mem_ready.1 hr).1
  refine ⟨fun e=>(by rw [e] at hr;cases hr),fun j hj oj hoj=>?_⟩
  have hjn:=hlt listed inv huni j hj
  by_cases hji:j=i
  ·subst hji
   obtain rfl:oi=oj:=Option.some.inj (hi.symm.trans hoj)
   exact ⟨hjn,fun _=>H,fun h=>(by rw [hsp] at h;cases h)⟩
  ·have hun:listed.getD j true=false:=(mem_ready.1 hj).1
   have hjs:=hone listed inv hp huni j hj hji
   have hno:∀e∈oj.after,Region.binds md e=true→e.on≠i:=by
    intro e he hb hon
    obtain ⟨_,o',ho',hall⟩:=mem_ready.1 hj
    obtain rfl:oj=o':=Option.some.inj (hoj.symm.trans ho')
    have h1:=hall e he hb
    rw [hon,getD_two huni] at h1;cases h1
   obtain ⟨x1,x2,x3⟩:=Oper.apart_spec (hfree j oj hoj hji hun hno)
   have si:=fun cs b=>hsel i oi cs b hi
   have sj:=fun cs b=>hsel j oj cs b hoj
   have ej:∀v,execOp (a.put oi.dst v).eval oj=execOp a.eval oj:=fun v=>execOp_put oj sj a oi.dst v x1
   have wj:∀v,Region.wanted oj (yielded ops (a.put oi.dst v).tmps)=Region.wanted oj (yielded ops a.tmps):=fun v=>wanted_put oj a oi.dst v x1
   have gj:∀v,(GoodM P ops S VC oj (a.put oi.dst v) ↔ GoodM P ops S VC oj a):=fun v=>goodM_put (ej v) (wj v)
   have vj:∀v u,(Vals P ops S VC oj (a.put oi.dst v) u ↔ Vals P ops S VC oj a u):=fun v u=>vals_put (ej v) (wj v)
   have hj':=ready_mono hj hji
   have hfree':∀k ok,ops[k]? = some ok→k≠i→(listed.setIfInBounds j true).getD k true=false→(∀e∈ok.after,Region.binds md e=true→e.on≠i)→oi.apart ops ok=true:=by
    intro k ok hk hki hun' hno'
    refine hfree k ok hk hki ?_ hno'
    by_cases hjk:j=k
    ·subst hjk;exact hun
    ·rw [getD_set_ne true hjk] at hun';exact hun'
   refine ⟨hjn,fun hs=>(by rw [hjs] at hs;cases hs),fun hs=>?_⟩
   obtain ⟨v0,w0,_,hv0⟩:=H.some
   refine ⟨(gj v0).1 ((hv0.2 j hj' oj hoj).2.2 hs).1,fun u hu=>?_⟩
   refine mset_spec hi hsp hsel hlt hdone hone fuel (listed.setIfInBounds j true) (a.put oj.dst u) w h0 (inv.set hj hjn) (fun q hq=>getD_set_true (hp q hq)) hfree' (ready_mono hr (Ne.symm hji)) ?_
   refine (specAt_put (execOp_put oi si a oj.dst u x3) (wanted_put oi a oj.dst u x3)).2 (H.mono fun v w' hK=>⟨hK.1,?_⟩)
   have:=((hK.2.2 j hj' oj hoj).2.2 hs).2 u ((vj v u).2 hu)
   rw [Array.setIfInBounds_comm _ _ hji,←Act.put_comm a v u x2]
   exact this
def MWalk (P:Program) (ops:Array Oper) (S:World→Prop) (VC:FuncId→Array Value→Value→Prop) (D:FuncId→Array Value→World→Value→World→Prop) (sp:List Nat) (Q:Act→World→Prop):Nat→List Oper→Act→World→Prop
 | _,[],a,w=>Q a w
 | k,o :: rest,a,w =>
  (sp.contains k=true→SpecAt P ops D o a w fun v w'=>S w'∧MWalk P ops S VC D sp Q (k+1) rest (a.put o.dst v) w') ∧
  (sp.contains k=false→GoodM P ops S VC o a∧∀v,Vals P ops S VC o a v→MWalk P ops S VC D sp Q (k+1) rest (a.put o.dst v) w)
def depB (md:Region.Mode) (ops:Array Oper):Nat→Nat→Nat→Bool
 | 0,_,_=>false
 | f+1,t,i=>match ops[t]? with
  | none=>false
  | some o=>o.after.any fun e=>Region.binds md e && (e.on == i || depB md ops f e.on i)
theorem depB_listed {md:Region.Mode} {n:Nat} {listed:Array Bool} (inv:HInv md ops n listed) {i:Nat}:∀(f t:Nat),listed.getD t false=true→depB md ops f t i=true→listed.getD i false=true
 | 0,_,_,h=>by cases h
 | f+1,t,ht,h=>by
  unfold depB at h
  split at h
  ·cases h
  ·rename_i o ho
   obtain ⟨e,he,hb⟩:=Array.any_eq_true'.1 h
   simp only [Bool.and_eq_true,Bool.or_eq_true,beq_iff_eq] at hb
   have h1:=inv.closed t o ho ht e he hb.1
   rcases hb.2 with h2 | h2
   ·rw [←h2];exact h1
   ·exact depB_listed inv f e.on h1 h2
theorem depB_ready {md:Region.Mode} {n:Nat} {listed:Array Bool} (inv:HInv md ops n listed) {i:Nat} (f t:Nat) (ht:t∈Region.ready md ops listed) (h:depB md ops f t i=true):listed.getD i false=true:=by
 cases f with
 | zero=>cases h
 | succ f =>
  unfold depB at h
  obtain ⟨_,ot,hot,hall⟩:=mem_ready.1 ht
  rw [hot] at h
  obtain ⟨e,he,hb⟩:=Array.any_eq_true'.1 h
  simp only [Bool.and_eq_true,Bool.or_eq_true,beq_iff_eq] at hb
  have h1:=hall e he hb.1
  rcases hb.2 with h2 | h2
  ·rw [←h2];exact h1
  ·exact depB_listed inv f e.on h1 h2
def specB (md:Region.Mode) (ops:Array Oper) (sp:List Nat):Bool:=sp.all fun i=>sp.all fun j=>decide (j≤i) || depB md ops ops.size j i
theorem one_of_specB {md:Region.Mode} {n i:Nat} (hB:specB md ops sp=true) (hi:sp.contains i=true) (listed:Array Bool) (inv:HInv md ops n listed) (hp:∀j,j < i→listed.getD j false=true) (hun:listed.getD i true=false) :
  ∀j∈Region.ready md ops listed,j≠i→sp.contains j=false:=by
 intro j hj hji
 cases hs:sp.contains j with
 | false=>rfl
 | true =>
  exfalso
  have h1:=List.all_eq_true.1 (List.all_eq_true.1 hB i (by simpa using hi)) j (by simpa using hs)
  simp only [Bool.or_eq_true,decide_eq_true_eq] at h1
  rcases h1 with h1 | h1
  ·have h2:=hp j (by omega)
   have h3:=getD_two (mem_ready.1 hj).1
   rw [h2] at h3;cases h3
  ·have h2:=depB_ready inv _ j hj h1
   rw [getD_two hun] at h2;cases h2
theorem mset_lex {md:Region.Mode} {n:Nat} {L:Array Bool→Act→World→Prop} {Lq:Act→World→Prop} (hS:∀W q,S W→S (W.drewN q)) (hsel:Region.noSelect ops=true) (hB2:specB md ops sp=true)
  (hlt:∀i,i < n→∀listed,HInv md ops n listed→listed.getD i true=false→∀j∈Region.ready md ops listed,j < n) (hdone:∀listed a w,L listed a w→∀j∈Region.ready md ops listed,n≤j)
  (lex:Nat→Nat→Array Bool→Bool) (hlex:∀len k listed,lex (len+1) k listed=true→(Region.ready md ops listed).contains k=true∧Region.free md ops listed k=true∧lex len (k+1) (listed.setIfInBounds k true)=true)
  (hend:∀listed a w,lex 0 n listed=true→Lq a w→L listed a w) :
  ∀(l:List Oper) (k:Nat) (listed:Array Bool) (a:Act) (w:World),S w→(∀j,j < l.length→l[j]? = ops[k+j]?)→k+l.length=n→HInv md ops n listed→(∀j,j < k→listed.getD j false=true) →
  lex l.length k listed=true→MWalk P ops S VC D sp Lq k l a w→MSet P md ops S VC D sp n L l.length listed a w
 | [],k,listed,a,w,_,_,hk,_,_,hB,h=>by
  have:k=n:=by simpa using hk
  subst this
  exact hend listed a w hB h
 | o :: l,k,listed,a,w,h0,hl,hk,inv,hp,hB,h=>by
  have hk0:ops[k]? = some o:=by simpa using (hl 0 (by simp)).symm
  obtain ⟨hr,hf,hB'⟩:=hlex _ _ _ hB
  have hkn:k < n:=by simp only [List.length_cons] at hk;omega
  have hks:k < ops.size:=(Array.getElem?_eq_some_iff.1 hk0).1
  have hr':k∈Region.ready md ops listed:=by simpa using hr
  have hl':∀j,j < l.length→l[j]? = ops[k+1+j]?:=fun j hj=>by have:=hl (j+1) (by simp;omega);simpa [Nat.add_assoc,Nat.add_comm 1 j] using this
  have hkl:k+1+l.length=n:=by simp only [List.length_cons] at hk;omega
  have hp':∀j,j < k+1→(listed.setIfInBounds k true).getD j false=true:=fun j hj=>by
   by_cases e:j=k
   ·subst e
    have:j < listed.size:=by rw [inv.size];exact hks
    simp [Array.getD_eq_getD_getElem?,this]
   ·exact getD_set_true (hp j (by omega))
  cases hsp:sp.contains k with
  | true =>
   refine mset_spec hk0 hsp (Region.noSelect_spec hsel) (hlt k hkn) hdone (one_of_specB hB2 hsp) l.length listed a w h0 inv hp (Region.free_spec hk0 hf) hr' ?_
   exact (h.1 hsp).mono fun v w' hK=>⟨hK.1,mset_lex hS hsel hB2 hlt hdone lex hlex hend l (k+1) _ _ w' hK.1 hl' hkl (inv.set hr' hkn) hp' hB' hK.2⟩
  | false =>
   refine mset_plain hk0 hsp (Region.noSelect_spec hsel) (hlt k hkn) hdone l.length listed a w h0 inv (Region.free_spec hk0 hf) hr' (h.2 hsp).1 fun v hv=>?_
   exact mset_lex hS hsel hB2 hlt hdone lex hlex hend l (k+1) _ _ w h0 hl' hkl (inv.set hr' hkn) hp' hB' ((h.2 hsp).2 v hv)
theorem any_of_mset {md:Region.Mode} {n g:Nat} {L:Array Bool→Act→World→Prop} {Q':Exit→Act→World→Prop} (hS:∀W q,S W→S (W.drewN q)) (hL:∀listed a w q,S w→L listed a w→wpAny P md ops Q' g listed a (w.drewN q)) :
  ∀(fuel:Nat) (listed:Array Bool) (a:Act) (w:World) (q:Nat),S w→MSet P md ops S VC D sp n L fuel listed a w→wpAny P md ops Q' (fuel+g) listed a (w.drewN q)
 | 0,_,_,_,_,hw,h=>by rw [Nat.zero_add];exact hL _ _ _ _ hw h
 | fuel+1,listed,a,w,q,hw,h=>by
  rw [show fuel+1+g=(fuel+g)+1 by omega]
  refine ⟨fun e=>absurd e h.1,fun i hi=>?_⟩
  obtain ⟨_,o,ho,_⟩:=mem_ready.1 hi
  obtain ⟨_,h1,h2⟩:=h.2 i hi o ho
  unfold wpOp
  simp only [ho]
  cases hsp:sp.contains i with
  | true =>
   obtain ⟨h3,h4⟩:=h1 hsp
   by_cases hwant:Region.wanted o (yielded ops a.tmps)=true
   ·rw [if_pos hwant]
    left
    have hf:=h3 hwant q
    unfold Oper.wp
    unfold SpecRes at hf
    split at hf
    ·rename_i v w' he
     rw [he]
     exact any_of_mset hS hL fuel _ _ w' 0 hf.1 hf.2
    ·rename_i w' he
     rw [he]
     exact any_of_mset hS hL fuel _ _ w' 0 hf.1 hf.2
    ·rename_i f args w' he
     rw [he]
     obtain ⟨hc,hk⟩:=hf
     refine hc.mono fun e w'' ⟨v,hev,hd⟩=>?_
     subst hev
     exact any_of_mset hS hL fuel _ _ w'' 0 (hk v w'' hd).1 (hk v w'' hd).2
    ·cases hf
   ·have hwant':Region.wanted o (yielded ops a.tmps)=false:=by simpa using hwant
    rw [if_neg hwant]
    exact any_of_mset hS hL fuel _ _ w q (h4 hwant').1 (h4 hwant').2
  | false =>
   obtain ⟨hg,hv⟩:=h2 hsp
   have hSq:=hS w q hw
   have hadd:∀m,(w.drewN q).drewN m=w.drewN (q+m):=fun m=>by simp [World.drewN,Nat.add_assoc]
   by_cases hwant:Region.wanted o (yielded ops a.tmps)=true
   ·rw [if_pos hwant]
    left
    have hf:=hg hwant _ hSq
    unfold Oper.wp
    unfold FineRes at hf
    split at hf
    ·rename_i v w' he
     rw [he]
     obtain ⟨m,rfl⟩:=hf
     have h5:=any_of_mset hS hL fuel _ _ w (q+m) hw (hv v (.inl ⟨hwant,_,_,hSq,.inl he⟩))
     rw [←hadd] at h5
     exact h5
    ·rename_i w' he
     rw [he]
     obtain ⟨m,rfl⟩:=hf
     have h5:=any_of_mset hS hL fuel _ _ w (q+m) hw (hv undef (.inl ⟨hwant,_,_,hSq,.inr (.inl ⟨he,rfl⟩)⟩))
     rw [←hadd] at h5
     exact h5
    ·rename_i f args w' he
     rw [he]
     obtain ⟨hC',hc⟩:=hf
     refine hc.mono fun e w'' ⟨v,hev,⟨m,hm⟩,hvc⟩=>?_
     subst hev
     subst hm
     have h5:=any_of_mset hS hL fuel _ _ w (q+m) hw (hv v (.inl ⟨hwant,_,_,hSq,.inr (.inr ⟨f,args,he,hvc⟩)⟩))
     rw [←hadd] at h5
     exact h5
    ·cases hf
   ·have hwant':Region.wanted o (yielded ops a.tmps)=false:=by simpa using hwant
    rw [if_neg hwant]
    exact any_of_mset hS hL fuel _ _ w q hw (hv undef (.inr ⟨hwant',rfl⟩))
def mixB (ops:Array Oper) (n:Nat) (sp:List Nat):Bool :=
 Region.noSelect ops && decide (n < ops.size) && sinkP .any ops 0 n && chainP .any ops n && specB .any ops sp && Region.lexHead .any ops (ops.size - n) n 0 (Array.replicate ops.size false)
def mixB0 (ops:Array Oper) (sp:List Nat):Bool:=Region.noSelect ops && specB .any ops sp && Region.lexFrom .any ops ops.size 0 (Array.replicate ops.size false)
theorem wp_region_mix {id:Nat} {Q:Exit→Act→World→Prop} {a:Act} {w:World} {l:List Oper} (n:Nat) (sp:List Nat) (S:World→Prop) (VC:FuncId→Array Value→Value→Prop) (D:FuncId→Array Value→World→Value→World→Prop) (hm:P.follows .mixedOrders=true) (hB:mixB l.toArray n sp=true)
  (hS0:S w) (hS:∀W q,S W→S (W.drewN q)) (h:MWalk P l.toArray S VC D sp (fun a' w1 => ∀q,wpList P l.toArray Q (l.drop n) a' (w1.drewN q)) 0 (l.take n) a w):(Code.region id l.toArray true).wp P Q a w:=by
 simp only [mixB,Bool.and_eq_true,decide_eq_true_eq] at hB
 obtain ⟨⟨⟨⟨⟨hsel,hn⟩,hs⟩,hc⟩,hsp⟩,hlex⟩:=hB
 have hn':n < l.length:=by simpa using hn
 have htl:(l.take n).length=n:=by simp;omega
 have hdl:(l.drop n).length=l.toArray.size - n:=by simp
 have gf:∀i,(Array.replicate l.toArray.size false).getD i false=false:=fun i=>by
  simp only [Array.getD_eq_getD_getElem?,Array.getElem?_replicate];split <;> rfl
 have inv0:HInv .any l.toArray n (Array.replicate l.toArray.size false) :=
  ⟨by simp,fun j oj _ hl=>(by rw [gf] at hl;cases hl),fun t _ ht=>getD_in2 (by simpa using ht) (gf t)⟩
 have H:=mset_lex (md:=.any) (L:=fun listed' a' w'=>Region.seqB .any l.toArray (l.toArray.size - n) n listed'=true∧∀q,wpList P l.toArray Q (l.drop n) a' (w'.drewN q)) hS hsel hsp
  (fun i hi listed inv hun j hj=>by
    rcases Nat.lt_or_ge j n with h | h
    ·exact h
    ·exact absurd hj (late hs hc hn inv (p:=0) (fun j hj=>by omega) _ i rfl hi hun j h))
  (fun listed a w hL=>seqB_ready hL.1) (fun len k listed=>Region.lexHead .any l.toArray (l.toArray.size - n) len k listed)
  (fun len k listed h=>by
    have h:Region.lexHead .any l.toArray (l.toArray.size - n) (len+1) k listed=true:=h
    simp only [Region.lexHead,Bool.and_eq_true] at h
    exact ⟨h.1.1,h.1.2,h.2⟩)
  (fun listed a w he hq=>⟨by simpa [Region.lexHead] using he,hq⟩)
  (l.take n) 0 _ a w hS0 (fun j hj=>by
   have hj':j < n:=by rw [htl] at hj;exact hj
   simp [hj']) (by simpa using htl) inv0 (fun j hj=>by omega) (by rw [htl];exact hlex) h
 refine wp_region_any hm ?_
 have:=any_of_mset (Q':=Q) (g:=l.toArray.size - n) hS (fun listed a' w' q hw' hL=>by
  have:=wpAny_of_seq (md:=.any) (Q':=Q) (l.drop n) n listed a' (w'.drewN q) (fun j=>by simp [List.getElem?_drop]) (by rw [hdl];exact hL.1) (hL.2 q)
  rwa [hdl] at this) _ _ _ _ 1 hS0 H
 rw [htl,show n+(l.toArray.size - n)=l.toArray.size by omega] at this
 exact this
theorem wp_region_mix0 {id:Nat} {Q:Exit→Act→World→Prop} {a:Act} {w:World} {l:List Oper} (sp:List Nat) (S:World→Prop) (VC:FuncId→Array Value→Value→Prop) (D:FuncId→Array Value→World→Value→World→Prop) (hm:P.follows .mixedOrders=true) (hB:mixB0 l.toArray sp=true)
  (hS0:S w) (hS:∀W q,S W→S (W.drewN q)) (h:MWalk P l.toArray S VC D sp (fun a' w1 => ∀q,Q .normal a' (w1.drewN q)) 0 l a w):(Code.region id l.toArray true).wp P Q a w:=by
 simp only [mixB0,Bool.and_eq_true] at hB
 obtain ⟨⟨hsel,hsp⟩,hlex⟩:=hB
 have gf:∀i,(Array.replicate l.toArray.size false).getD i false=false:=fun i=>by
  simp only [Array.getD_eq_getD_getElem?,Array.getElem?_replicate];split <;> rfl
 have inv0:HInv .any l.toArray l.length (Array.replicate l.toArray.size false) :=
  ⟨by simp,fun j oj _ hl=>(by rw [gf] at hl;cases hl),fun t h1 ht=>getD_in2 (by simpa using ht) (gf t)⟩
 have H:=mset_lex (md:=.any) (L:=fun listed' a' w'=>Region.ready .any l.toArray listed'=[]∧∀q,Q .normal a' (w'.drewN q)) hS hsel hsp
  (fun i hi listed inv hun j hj=>by
    obtain ⟨_,oj,hoj,_⟩:=mem_ready.1 hj
    have:=(Array.getElem?_eq_some_iff.1 hoj).1
    simpa using this)
  (fun listed a w hL j hj=>by rw [hL.1] at hj;cases hj) (fun len k listed=>Region.lexFrom .any l.toArray len k listed)
  (fun len k listed h=>by
    have h:Region.lexFrom .any l.toArray (len+1) k listed=true:=h
    simp only [Region.lexFrom,Bool.and_eq_true] at h
    exact ⟨h.1.1,h.1.2,h.2⟩)
  (fun listed a w he hq=>⟨by simpa [Region.lexFrom] using he,hq⟩)
  l 0 _ a w hS0 (fun j hj=>by simp) (by simp) inv0 (fun j hj=>by omega) (by simpa using hlex) h
 refine wp_region_any hm ?_
 have:=any_of_mset (Q':=Q) (g:=0) hS (fun listed a' w' q hw' hL=>⟨hL.1,hL.2 q⟩) _ _ _ _ 1 hS0 H
 rw [Nat.add_zero] at this
 exact this
/-! the steps of the walk -/
variable {Q:Act→World→Prop} {o:Oper} {rest:List Oper} {a:Act} {w:World} {k:Nat}
@[go_sem] theorem drawn_refl (w:World):Drawn w w=True:=eq_true ⟨0,rfl⟩
theorem mwalk_plain (hk:sp.contains k=false) (h0:S w) (h:∀K:Act→Prop,(∀a,MWalk P ops S VC D sp Q (k+1) rest a w→K a)→∀W:World,S W→if Region.wanted o (yielded ops a.tmps) then UponC P VC (Drawn W) (fun v=>K (a.put o.dst v)) ((execOp a.eval o).run P W) else K (a.put o.dst undef)) :
  MWalk P ops S VC D sp Q k (o :: rest) a w:=by
 have h:=h _ (fun _ h=>h)
 refine ⟨fun e=>(by rw [hk] at e;cases e),fun _=>⟨fun hw W hW=>?_,fun v hv=>?_⟩⟩
 ·have:=h W hW
  rw [if_pos hw] at this
  revert this
  generalize (execOp a.eval o).run P W=r
  intro this
  unfold UponC at this
  unfold FineRes
  split at this
  ·exact this.1
  ·exact this.1
  ·exact ⟨this.1,this.2.1⟩
  ·cases this
 ·rcases hv with ⟨hw,w1,w2,hS,hv⟩ | ⟨hw,rfl⟩
  ·have:=h w1 hS
   rw [if_pos hw] at this
   unfold UponC at this
   rcases hv with hv | ⟨hv,rfl⟩ | ⟨f,args,hv,hvc⟩
   ·rw [hv] at this;exact this.2
   ·rw [hv] at this;exact this.2
   ·rw [hv] at this;exact this.2.2 v hvc
  ·have:=h w h0
   rwa [if_neg (by rw [hw];exact Bool.false_ne_true)] at this
theorem mwalk_spec (hk:sp.contains k=true) (h0:S w) (h:∀K:Act→World→Prop,(∀a w',MWalk P ops S VC D sp Q (k+1) rest a w'→K a w')→∀n:Nat,if Region.wanted o (yielded ops a.tmps) then SpecRes P D (fun v w'=>S w'∧K (a.put o.dst v) w') ((execOp a.eval o).run P (w.drewN n)) else K (a.put o.dst undef) w) :
  MWalk P ops S VC D sp Q k (o :: rest) a w:=by
 have h:=h _ (fun _ _ h=>h)
 refine ⟨fun _=>⟨fun hw n=>?_,fun hw=>?_⟩,fun e=>(by rw [hk] at e;cases e)⟩
 ·have:=h n
  rwa [if_pos hw] at this
 ·have:=h 0
  rw [if_neg (by rw [hw];exact Bool.false_ne_true)] at this
  exact ⟨h0,this⟩
theorem mwalk_nil (hq:Q a w):MWalk P ops S VC D sp Q k [] a w:=hq
theorem specRes_append {K:Value→World→Prop} {E:Prop} (hgd:o.guard=none) (s x:Operand) (t:TypeId)
  (ho:o.op=.call { callee:=.builtin .append,args:=#[s,x],argTypes:=#[t,t] })
  (base:Nat) (e:TypeId) (i:TypeInfo) (z:Value) (size bytes:Nat) (ht:P.underlying t=some (.slice e)) (hi:P.info? e=some i) (hz:i.zero=some z)
  (hsize:i.size=size) (hby:i.bytes=bytes) (hzs:z.cells.size=size) (hsz:0 < size)
  (v:Value) (n:Nat) (xs:List Value) (hs:a.eval s=v) (hown:w.ownsRow base e size v n xs)
  (ad:Addr) (m c:Nat) (news:List Value) (hx:a.eval x=.slice (some ad) m c) (hl:news.length=m * size) (hnews:∀j u,news[j]? = some u→w.cell? (ad.add j)=some u) (h1:∀u∈news,u.oneCell'=true)
  (h63:n+m≤maxLen) (hbytes:(n+m) * bytes≤140737488355328) (hbase:base≤w.heap.size)
  (h:∀v' w',w'.ownsRow base e size v' (n+m) (xs ++ news)→w.grownBy w' v.ownBlock→(v'.ownBlock=v.ownBlock∨v'.ownBlock=some w.heap.size)→Below base w w'→K v' w') :
  if Region.wanted o (yielded ops a.tmps)=true then SpecRes P D K ((execOp a.eval o).run P w) else E:=by
 have hw:Region.wanted o (yielded ops a.tmps)=true:=by simp [Region.wanted,hgd]
 rw [if_pos hw]
 obtain ⟨v',w',hr,h2,h3,_,h5⟩:=run_append_own_at (P:=P) w base t o.type e i z size bytes ht hi hz hsize hby hzs hsz v n xs hown ad m c news hl hnews h1 h63 hbytes hbase
 unfold execOp
 simp only [ho,resolve,invoke,builtin,Sem.run_bind,Sem.run_pure,Result.andThen_ok,List.map_toArray,List.map_cons,List.map_nil,hs,hx,hr]
 exact h v' w' h2 h3 h5 ((Below.refl _ _).grown h3 hbase (fun j hj=>(hown.lt j hj).1))
end
section
variable {P:Program} {ops:Array Oper} {Q:Exit→Act→World→Prop}
def backB (ops:Array Oper):Bool:=(List.range ops.size).all fun i=>match ops[i]? with
 | some o=>o.after.all fun e => !Region.binds .any e || decide (e.on < i)
 | none=>true
theorem all_listed (hB:backB ops=true) {listed:Array Bool} (hr:Region.ready .any ops listed=[]):∀i,i < ops.size→listed.getD i true=true:=by
 intro i
 induction i using Nat.strongRecOn with
 | _ i ih =>
  intro hi
  cases hl:listed.getD i true with
  | true=>rfl
  | false =>
   exfalso
   have hm:i∈Region.ready .any ops listed:=by
    refine mem_ready.2 ⟨hl,ops[i],Array.getElem?_eq_getElem hi,fun e he hb=>?_⟩
    have h1:=List.all_eq_true.1 hB i (List.mem_range.2 hi)
    rw [Array.getElem?_eq_getElem hi] at h1
    have h2:=Array.all_eq_true'.1 h1 e he
    rw [hb] at h2
    have h3:e.on < i:=by simpa using h2
    have h4:=ih e.on h3 (by omega)
    rw [Array.getD_eq_getD_getElem?] at h4 ⊢
    have h5:e.on < listed.size:=by
     rw [Array.getD_eq_getD_getElem?] at hl
     by_cases h6:i < listed.size
     ·omega
     ·rw [Array.getElem?_eq_none (by omega)] at hl;cases hl
    rw [Array.getElem?_eq_getElem h5] at h4 ⊢
    exact h4
   rw [hr] at hm;cases hm
theorem wpAny_of_inv {Inv:Array Bool→Act→World→Prop}
  (hend:∀listed a w,Region.ready .any ops listed=[]→Inv listed a w→Q .normal a w)
  (hstep:∀listed a w i o,ops[i]? = some o→listed.getD i true=false→(∀e∈o.after,Region.binds .any e=true→listed.getD e.on false=true)→Inv listed a w→if Region.wanted o (yielded ops a.tmps) then o.wp P a w (Inv (listed.setIfInBounds i true)) Q else Inv (listed.setIfInBounds i true) (a.put o.dst undef) w) :
  ∀(fuel:Nat) (listed:Array Bool) (a:Act) (w:World) (U:List Nat),(∀i,listed.getD i true=false→i∈U)→U.length≤fuel→Inv listed a w→wpAny P .any ops Q fuel listed a w
 | 0,listed,a,w,U,hU,hl,hI=>by
  have h0:U=[]:=List.eq_nil_of_length_eq_zero (by omega)
  have hr:Region.ready .any ops listed=[]:=List.eq_nil_iff_forall_not_mem.2 fun i hi=>by
   have:=hU i (mem_ready.1 hi).1
   rw [h0] at this;cases this
  exact ⟨hr,hend _ _ _ hr hI⟩
 | fuel+1,listed,a,w,U,hU,hl,hI=>by
  refine ⟨fun hr=>hend _ _ _ hr hI,fun i hi=>?_⟩
  obtain ⟨h1,o,ho,h2⟩:=mem_ready.1 hi
  have hs:=hstep listed a w i o ho h1 h2 hI
  have hrec:∀a' w',Inv (listed.setIfInBounds i true) a' w'→wpAny P .any ops Q fuel (listed.setIfInBounds i true) a' w':=fun a' w' h' =>
   wpAny_of_inv hend hstep fuel _ a' w' (U.erase i) (fun j hj=>by
    have hne:j≠i:=fun e=>by
     subst e
     rw [Array.getD_eq_getD_getElem?] at hj h1
     by_cases h6:j < listed.size
     ·simp [h6] at hj
     ·simp [h6] at h1
    refine (List.mem_erase_of_ne hne).2 (hU j ?_)
    rw [Array.getD_eq_getD_getElem?] at hj ⊢
    rwa [Array.getElem?_setIfInBounds_ne (Ne.symm hne)] at hj) (by
    have:=List.length_erase_of_mem (hU i h1)
    omega) h'
  unfold wpOp
  simp only [ho]
  by_cases hw:Region.wanted o (yielded ops a.tmps)=true
  ·rw [if_pos hw] at hs ⊢
   exact .inl (Oper.wp_mono hrec hs)
  ·rw [if_neg hw] at hs ⊢
   exact hrec _ _ hs
theorem wp_region_inv {id:Nat} {a:Act} {w:World} {l:List Oper} {Inv:Array Bool→Act→World→Prop} (hm:P.follows .mixedOrders=true) (hB:backB l.toArray=true)
  (h0:Inv (Array.replicate l.toArray.size false) a (w.drewN 1))
  (hstep:∀listed a w i o,l.toArray[i]? = some o→listed.getD i true=false→(∀e∈o.after,Region.binds .any e=true→listed.getD e.on false=true)→Inv listed a w→if Region.wanted o (yielded l.toArray a.tmps) then o.wp P a w (Inv (listed.setIfInBounds i true)) Q else Inv (listed.setIfInBounds i true) (a.put o.dst undef) w)
  (hend:∀listed a w,(∀i,i < l.toArray.size→listed.getD i true=true)→Inv listed a w→Q .normal a w):(Code.region id l.toArray true).wp P Q a w :=
 wp_region_any hm (wpAny_of_inv (fun listed a w hr hI=>hend listed a w (all_listed hB hr) hI) hstep _ _ _ _ (List.range l.toArray.size) (fun i hi=>by
  rw [Array.getD_eq_getD_getElem?] at hi
  by_cases h6:i < l.toArray.size
  ·exact List.mem_range.2 h6
  ·rw [Array.getElem?_eq_none (by simpa using h6)] at hi;cases hi) (by simp) h0)
end
end
section
open Go Ieee
def nanOf:FloatKind→Nat
 | .f32=>2143289344
 | .f64=>9221120237041090560
def isN (k:FloatKind) (x:Nat):Bool:=(k.format.read x).isNaN
def cn (k:FloatKind) (x:Nat):Nat:=if isN k x=true then nanOf k else x
def fop (op:BinOp) (k:FloatKind) (x y:Nat):Nat:=(floatBits op k x y).getD (nanOf k)
def fbits (op:BinOp) (k:FloatKind) (x y:Nat) (w:World):Nat:=(floatBits op k x y).getD ((Question.nanBits k x y).cut (w.tape w.drawn (.nanBits k x y)))
def fdr (op:BinOp) (k:FloatKind) (x y:Nat):Nat:=if (floatBits op k x y).isSome then 0 else 1
theorem World.drewN_none (w:World):w.drewN 0=w:=rfl
theorem run_fl {P:Program} (w:World) (op:BinOp) (t:TypeId) (k:FloatKind) (x y:Nat) (ho:op=.add∨op=.sub∨op=.mul∨op=.quo) :
  (binOp op t (.float k x) (.float k y)).run P w=.ok (.float k (fbits op k x y w)) (w.drewN (fdr op k x y)):=by
 cases h:floatBits op k x y with
 | some r=>simp only [fbits,fdr,h,Option.getD_some,Option.isSome_some,if_true];exact run_float_arith w op t k x y r h
 | none =>
  simp only [fbits,fdr,h,Option.getD_none,Option.isSome_none]
  unfold floatBits at h
  rcases ho with rfl | rfl | rfl | rfl
  all_goals
   simp only at h
   simp [binOp,Op.floatArith,h,choose,Sem.run,Question.forced,World.drewN]
section
variable {P:Program} (w:World) (t:TypeId) (k:FloatKind) (x y:Nat)
@[go_sem] theorem run_fl_add:(binOp .add t (.float k x) (.float k y)).run P w=.ok (.float k (fbits .add k x y w)) (w.drewN (fdr .add k x y)):=run_fl w _ t k x y (by simp)
@[go_sem] theorem run_fl_sub:(binOp .sub t (.float k x) (.float k y)).run P w=.ok (.float k (fbits .sub k x y w)) (w.drewN (fdr .sub k x y)):=run_fl w _ t k x y (by simp)
@[go_sem] theorem run_fl_mul:(binOp .mul t (.float k x) (.float k y)).run P w=.ok (.float k (fbits .mul k x y w)) (w.drewN (fdr .mul k x y)):=run_fl w _ t k x y (by simp)
@[go_sem] theorem run_fl_quo:(binOp .quo t (.float k x) (.float k y)).run P w=.ok (.float k (fbits .quo k x y w)) (w.drewN (fdr .quo k x y)):=run_fl w _ t k x y (by simp)
end
@[go_sem] theorem run_store_float (P:Program) (w:World) (a:Addr) (m:Mode) (k:FloatKind) (n:Nat):(store a (.float k n) m).run P w=stored P w a (.float k n) m:=run_store P w a _ m rfl
/-! what a word reads as -/
theorem word_div (f:Format) (neg:Bool) {r:Nat} (h:r < f.signWeight):f.word neg r / f.signWeight % 2=neg.toNat:=by
 have hp:0 < f.signWeight:=Nat.two_pow_pos _
 unfold Format.word
 cases neg
 ·simp [Nat.div_eq_of_lt h]
 ·simp only [if_true,Bool.toNat_true]
  rw [Nat.add_div_left _ hp,Nat.div_eq_of_lt h]
theorem word_mod (f:Format) (neg:Bool) {r:Nat} (h:r < f.signWeight):f.word neg r % f.signWeight=r:=by
 unfold Format.word
 cases neg
 ·simp [Nat.mod_eq_of_lt h]
 ·simp only [if_true]
  rw [Nat.add_mod_left,Nat.mod_eq_of_lt h]
theorem read_word (f:Format) (neg:Bool) {r:Nat} (h:r < f.signWeight):f.read (f.word neg r) =
  if r < f.binade then .number neg r f.leastPlace
  else if r < f.infRung then .number neg (f.binade+r % f.binade) (f.leastPlace+(r / f.binade - 1:Nat))
  else if r=f.infRung then .infinity neg
  else .nan neg (r - f.infRung):=by
 unfold Format.read
 simp only [word_div f neg h,word_mod f neg h]
 cases neg <;> rfl
theorem read_word_le (f:Format) (neg:Bool) {r:Nat} (h:r≤f.infRung):(f.read (f.word neg r)).isNaN=false:=by
 rw [read_word f neg (Nat.lt_of_le_of_lt h f.infRung_lt)]
 split
 ·rfl
 ·split
  ·rfl
  ·rw [if_pos (by omega)];rfl
theorem nearest_not (f:Format) (neg:Bool) (m:Nat) (p:Int):(f.read (f.nearest neg m p)).isNaN=false:=by
 unfold Format.nearest
 split
 ·exact read_word_le f neg (Nat.zero_le _)
 ·exact read_word_le f neg (Nat.min_le_right ..)
theorem write_not (f:Format) {d:Datum} (h:d.isNaN=false):(f.read (f.write d)).isNaN=false:=by
 cases d with
 | number s m p=>exact nearest_not f s m p
 | infinity s=>exact read_word_le f s (Nat.le_refl _)
 | nan s t=>simp [Datum.isNaN] at h
theorem sum_not {a b d:Datum} (h:a.sum b=some d):a.isNaN=false∧b.isNaN=false∧d.isNaN=false:=by
 cases a <;> cases b <;> simp [Datum.sum,Datum.isNaN] at h ⊢
 all_goals first | (obtain ⟨_,h⟩:=h;subst h;rfl) | (subst h;rfl)
theorem opposite_not (a:Datum):a.opposite.isNaN=a.isNaN:=by cases a <;> rfl
theorem product_not {a b d:Datum} (h:a.product b=some d):a.isNaN=false∧b.isNaN=false∧d.isNaN=false:=by
 cases a <;> cases b <;> simp [Datum.product,Datum.isNaN] at h ⊢ <;> first | (obtain ⟨_,h⟩:=h;subst h;rfl) | (subst h;rfl)
theorem quotient_not {n:Nat} {a b d:Datum} (h:a.quotient n b=some d):a.isNaN=false∧b.isNaN=false∧d.isNaN=false:=by
 cases a <;> cases b <;> simp [Datum.quotient,Datum.isNaN] at h ⊢
 all_goals first | (subst h;rfl) | skip
 split at h
 ·split at h
  ·cases h
  ·cases h;rfl
 ·cases h;rfl
theorem map_write_not (f:Format) {o:Option Datum} {r:Nat} (ho:∀d,o=some d→d.isNaN=false) (h:o.map f.write=some r):(f.read r).isNaN=false:=by
 cases o with
 | none=>cases h
 | some d=>cases h;exact write_not f (ho d rfl)
theorem bits_not {op:BinOp} {k:FloatKind} {x y r:Nat} (h:floatBits op k x y=some r):isN k x=false∧isN k y=false∧isN k r=false:=by
 unfold floatBits at h
 have key:∀(o:Option Datum),o.map k.format.write=some r→∃d,o=some d:=fun o ho=>by cases o with | none=>cases ho | some d=>exact ⟨d,rfl⟩
 split at h
 ·obtain ⟨d,hd⟩:=key _ h;obtain ⟨h1,h2,h3⟩:=sum_not hd
  exact ⟨h1,h2,map_write_not _ (fun d' e=>by rw [hd] at e;cases e;exact h3) h⟩
 ·obtain ⟨d,hd⟩:=key _ h;obtain ⟨h1,h2,h3⟩:=sum_not hd
  exact ⟨h1,by rw [opposite_not] at h2;exact h2,map_write_not _ (fun d' e=>by rw [hd] at e;cases e;exact h3) h⟩
 ·obtain ⟨d,hd⟩:=key _ h;obtain ⟨h1,h2,h3⟩:=product_not hd
  exact ⟨h1,h2,map_write_not _ (fun d' e=>by rw [hd] at e;cases e;exact h3) h⟩
 ·obtain ⟨d,hd⟩:=key _ h;obtain ⟨h1,h2,h3⟩:=quotient_not hd
  exact ⟨h1,h2,map_write_not _ (fun d' e=>by rw [hd] at e;cases e;exact h3) h⟩
 ·cases h
theorem cn_not {k:FloatKind} {x:Nat} (h:isN k x=false):cn k x=x:=by simp [cn,h]
theorem cn_nan {k:FloatKind} {x:Nat} (h:isN k x=true):cn k x=nanOf k:=by simp [cn,h]
theorem isN_nanOf (k:FloatKind):isN k (nanOf k)=true:=by cases k <;> decide +kernel
theorem isN_cn (k:FloatKind) (x:Nat):isN k (cn k x)=isN k x:=by
 cases h:isN k x
 ·rw [cn_not h,h]
 ·rw [cn_nan h,isN_nanOf]
theorem cn_cn (k:FloatKind) (x:Nat):cn k (cn k x)=cn k x:=by
 cases h:isN k x
 ·rw [cn_not h,cn_not h]
 ·rw [cn_nan h,cn_nan (isN_nanOf k)]
theorem bits_none_left {op:BinOp} {k:FloatKind} {x y:Nat} (h:isN k x=true):floatBits op k x y=none:=by
 cases e:floatBits op k x y with
 | none=>rfl
 | some r=>have:=(bits_not e).1;rw [h] at this;cases this
theorem bits_none_right {op:BinOp} {k:FloatKind} {x y:Nat} (h:isN k y=true):floatBits op k x y=none:=by
 cases e:floatBits op k x y with
 | none=>rfl
 | some r=>have:=(bits_not e).2.1;rw [h] at this;cases this
theorem bits_cn (op:BinOp) (k:FloatKind) (x y:Nat):floatBits op k (cn k x) (cn k y)=floatBits op k x y:=by
 cases hx:isN k x
 ·cases hy:isN k y
  ·rw [cn_not hx,cn_not hy]
  ·rw [bits_none_right hy,bits_none_right (by rw [isN_cn,hy])]
 ·rw [bits_none_left hx,bits_none_left (by rw [isN_cn,hx])]
theorem fop_cn (op:BinOp) (k:FloatKind) (x y:Nat):fop op k (cn k x) (cn k y)=fop op k x y:=by unfold fop;rw [bits_cn]
theorem read_high (f:Format) (hb:f.binade≤f.infRung) (neg:Bool) (r:Nat) (h1:f.infRung < r) (h2:r < f.signWeight):(f.read (f.word neg r)).isNaN=true:=by
 rw [read_word f _ h2,if_neg (by omega),if_neg (by omega),if_neg (by omega)];rfl
theorem drawn_nan (k:FloatKind) (x y t:Nat):isN k ((Question.nanBits k x y).cut t)=true:=by
 cases k
 ·have h2:=Nat.mod_lt (t / 2) (show 0 < 2 ^ 23 - 1 by omega)
  have e1:single.infRung=0x7f800000:=by decide +kernel
  have e2:single.signWeight=2 ^ 31:=by decide +kernel
  have e3:single.binade=2 ^ 23:=by decide +kernel
  have key:=read_high single (by omega) (t % 2 == 1) (0x7f800000+1+(t / 2) % (2 ^ 23 - 1)) (by omega) (by omega)
  have e:single.word (t % 2 == 1) (0x7f800000+1+(t / 2) % (2 ^ 23 - 1))=(Question.nanBits .f32 x y).cut t:=by
   unfold Format.word
   simp only [Question.cut,e2]
   have:=Nat.mod_two_eq_zero_or_one t
   rcases this with h | h <;> simp [h] <;> omega
  rw [e] at key;exact key
 ·have h2:=Nat.mod_lt (t / 2) (show 0 < 2 ^ 52 - 1 by omega)
  have e1:double.infRung=0x7ff0000000000000:=by decide +kernel
  have e2:double.signWeight=2 ^ 63:=by decide +kernel
  have e3:double.binade=2 ^ 52:=by decide +kernel
  have key:=read_high double (by omega) (t % 2 == 1) (0x7ff0000000000000+1+(t / 2) % (2 ^ 52 - 1)) (by omega) (by omega)
  have e:double.word (t % 2 == 1) (0x7ff0000000000000+1+(t / 2) % (2 ^ 52 - 1))=(Question.nanBits .f64 x y).cut t:=by
   unfold Format.word
   simp only [Question.cut,e2]
   have:=Nat.mod_two_eq_zero_or_one t
   rcases this with h | h <;> simp [h] <;> omega
  rw [e] at key;exact key
theorem cn_fbits (op:BinOp) (k:FloatKind) (x y:Nat) (w:World):cn k (fbits op k x y w)=fop op k (cn k x) (cn k y):=by
 rw [fop_cn]
 unfold fbits fop
 cases h:floatBits op k x y with
 | none=>exact cn_nan (drawn_nan k x y _)
 | some r=>exact cn_not (bits_not h).2.2
theorem drawn_lt (k:FloatKind) (x y t:Nat):(Question.nanBits k x y).cut t < 2 ^ k.format.width:=by
 cases k
 ·simp only [Question.cut]
  have h1:=Nat.mod_lt t (show 0 < 2 by omega)
  have h2:=Nat.mod_lt (t / 2) (show 0 < 2 ^ 23 - 1 by omega)
  show _ < 2 ^ 32
  omega
 ·simp only [Question.cut]
  have h1:=Nat.mod_lt t (show 0 < 2 by omega)
  have h2:=Nat.mod_lt (t / 2) (show 0 < 2 ^ 52 - 1 by omega)
  show _ < 2 ^ 64
  omega
theorem fbits_lt (op:BinOp) (k:FloatKind) (x y:Nat) (w:World):fbits op k x y w < 2 ^ k.format.width:=by
 unfold fbits
 cases h:floatBits op k x y with
 | none=>exact drawn_lt k x y _
 | some r =>
  have:=floatBits_wf h
  cases k
  ·show r < 2 ^ 32
   simpa [Lit.wf] using this
  ·show r < 2 ^ 64
   simpa [Lit.wf] using this
/-! comparisons -/
theorem order_none {k:FloatKind} {x y:Nat} (h:isN k x=true∨isN k y=true):k.format.order x y=none:=by
 unfold Format.order
 unfold isN at h
 cases hx:k.format.read x <;> cases hy:k.format.read y <;> simp [hx,hy,Datum.isNaN] at h <;> rfl
theorem order_cn (k:FloatKind) (x y:Nat):k.format.order (cn k x) (cn k y)=k.format.order x y:=by
 cases hx:isN k x
 ·cases hy:isN k y
  ·rw [cn_not hx,cn_not hy]
  ·rw [order_none (.inr hy),order_none (.inr (by rw [isN_cn,hy]))]
 ·rw [order_none (.inl hx),order_none (.inl (by rw [isN_cn,hx]))]
theorem order_self (k:FloatKind) (x:Nat):k.format.order x x=if isN k x=true then none else some .eq:=by
 unfold Format.order isN
 cases h:k.format.read x with
 | nan s t=>rfl
 | infinity s=>simp [Datum.order,Datum.isNaN]
 | number s m p=>simp [Datum.order,Datum.isNaN]
/-! conversions between the two kinds -/
def cvbits (src:FloatKind) (b:Nat) (dst:FloatKind) (w:World):Nat :=
 if src=dst then b else
 match src.decode b with
 | .nan _ _=>(Question.nanConv dst b).cut (w.tape w.drawn (.nanConv dst b))
 | .infinity s=>dst.encode (.infinity s)
 | .number s m e=>if (dst.decode (dst.encode (.number s m e))).isInfinity then (Question.floatToFloat b).cut (w.tape w.drawn (.floatToFloat b)) else dst.encode (.number s m e)
def cvdr (src:FloatKind) (b:Nat) (dst:FloatKind):Nat:=if (floatToFloatBits src b dst).isSome then 0 else 1
def fcv (src:FloatKind) (b:Nat) (dst:FloatKind):Nat :=
 if src=dst then cn dst b else
 match src.decode b with
 | .nan _ _=>nanOf dst
 | d=>dst.encode d
def cvWide (src:FloatKind) (b:Nat) (dst:FloatKind):Bool :=
 if src=dst then false else
 match src.decode b with
 | .number s m e=>(dst.decode (dst.encode (.number s m e))).isInfinity
 | _=>false
@[go_sem] theorem run_cv {P:Program} (w:World) (src dst:TypeId) (s k:FloatKind) (b:Nat) (hs:(P.underlying src).isSome=true) (hd:P.underlying dst=some (.float k)) :
  (convert src dst (.float s b)).run P w=.ok (.float k (cvbits s b k w)) (w.drewN (cvdr s b k)):=by
 cases h:floatToFloatBits s b k with
 | some r =>
  have hr:=run_convert_float_float (P:=P) w src dst s k b r hs hd h
  rw [hr]
  have e1:cvdr s b k=0:=by simp [cvdr,h]
  have e2:cvbits s b k w=r:=by
   unfold floatToFloatBits at h
   unfold cvbits
   split at h
   ·rename_i e;rw [if_pos e];exact Option.some.inj h
   ·rename_i e;rw [if_neg e]
    split at h
    ·cases h
    ·rename_i sg he;simp only [he];exact Option.some.inj h
    ·rename_i sg m ex he
     split at h
     ·cases h
     ·rename_i ho;simp only [he];rw [if_neg ho];exact Option.some.inj h
  rw [e1,e2];rfl
 | none =>
  obtain ⟨u,hs'⟩:=Option.isSome_iff_exists.1 hs
  have e1:cvdr s b k=1:=by simp [cvdr,h]
  rw [e1]
  unfold floatToFloatBits at h
  unfold cvbits
  split at h
  ·cases h
  ·rename_i ne
   rw [if_neg ne]
   split at h
   ·rename_i sg fr he
    simp only [he]
    cases u <;> simp [convert,run_underlying hs',run_underlying hd,Conv.floatToFloat,ne,he,choose,Sem.run,Question.forced,World.drewN]
   ·cases h
   ·rename_i sg m ex he
    split at h
    ·rename_i ho
     simp only [he]
     rw [if_pos ho]
     cases u <;> simp [convert,run_underlying hs',run_underlying hd,Conv.floatToFloat,ne,he,ho,choose,Sem.run,Question.forced,World.drewN]
    ·cases h
theorem drawn_nan_cv (k:FloatKind) (b t:Nat):isN k ((Question.nanConv k b).cut t)=true:=by
 have:=drawn_nan k 0 0 t
 cases k <;> exact this
theorem cn_cvbits {s:FloatKind} {b:Nat} {k:FloatKind} (w:World) (h:cvWide s b k=false):cn k (cvbits s b k w)=fcv s (cn s b) k:=by
 unfold cvbits fcv
 unfold cvWide at h
 by_cases e:s=k
 ·subst e
  rw [if_pos rfl,if_pos rfl,cn_cn]
 ·rw [if_neg e,if_neg e]
  rw [if_neg e] at h
  cases hd:s.decode b with
  | nan sg fr =>
   have hn:isN s b=true:=by unfold isN;rw [show s.format.read b = _ from hd];rfl
   rw [cn_nan hn]
   have:=isN_nanOf s
   unfold isN at this
   cases hz:s.decode (nanOf s) with
   | nan=>exact cn_nan (drawn_nan_cv k b _)
   | infinity sg=>rw [show s.format.read (nanOf s) = _ from hz] at this;cases this
   | number sg m e=>rw [show s.format.read (nanOf s) = _ from hz] at this;cases this
  | infinity sg =>
   have hn:isN s b=false:=by unfold isN;rw [show s.format.read b = _ from hd];rfl
   rw [cn_not hn,hd]
   exact cn_not (write_not k.format rfl)
  | number sg m e =>
   have hn:isN s b=false:=by unfold isN;rw [show s.format.read b = _ from hd];rfl
   rw [hd] at h
   simp only at h
   rw [cn_not hn,hd]
   simp only [h,Bool.false_eq_true,if_false]
   exact cn_not (write_not k.format rfl)
theorem isN_floatOfInt (k:FloatKind) (n:Int):isN k (floatOfInt k n)=false:=nearest_not k.format _ _ _
theorem cn_floatOfInt (k:FloatKind) (n:Int):cn k (floatOfInt k n)=floatOfInt k n:=cn_not (isN_floatOfInt k n)
theorem read_single {b:Nat} {s:Bool} {m:Nat} {e:Int} (h:single.read b=.number s m e):m < 2 ^ 24∧-149≤e∧e≤104:=by
 have h1:single.binade=2 ^ 23:=by decide +kernel
 have h2:single.infRung=255 * 2 ^ 23:=by decide +kernel
 have h3:single.leastPlace = -149:=by decide +kernel
 unfold Format.read at h
 simp only at h
 split at h
 ·rename_i hlt
  cases h
  rw [h1] at hlt;rw [h3]
  omega
 ·split at h
  ·rename_i hlt
   cases h
   rw [h1] at *;rw [h2] at hlt;rw [h3]
   have:=Nat.mod_lt (b % single.signWeight) (show 0 < 2 ^ 23 by omega)
   have hq:b % single.signWeight / 2 ^ 23 < 255:=by rw [Nat.div_lt_iff_lt_mul (by omega)];exact hlt
   omega
  ·split at h <;> cases h
theorem cut_zero (way:Toward) (neg:Bool) (n:Nat):way.cut neg n 0=n:=by
 unfold Toward.cut
 simp only [Nat.zero_min,Nat.shiftLeft_zero,Nat.div_one,Nat.mod_one]
 cases way <;> simp
theorem nearest_double {neg:Bool} {m:Nat} {e:Int} (hm:m≠0) (h24:m < 2 ^ 24) (h1 : -149≤e) (h2:e≤104) :
  double.nearest neg m e=double.word neg ((e+m.log2 - 52+1074).toNat * 2 ^ 52+m * 2 ^ (52 - m.log2))∧(e+m.log2 - 52+1074).toNat * 2 ^ 52+m * 2 ^ (52 - m.log2) < double.infRung:=by
 have hl:m.log2≤23:=by have:=(Nat.log2_lt hm (k:=24)).2 h24;omega
 have b1:double.binade=2 ^ 52:=by decide +kernel
 have b2:double.infRung=2047 * 2 ^ 52:=by decide +kernel
 have b3:double.leastPlace = -1074:=by decide +kernel
 have b4:double.fractionBits=52:=rfl
 have hlast:max (e+m.log2 - (double.fractionBits:Nat)) double.leastPlace=e+m.log2 - 52:=by rw [b4,b3];omega
 have hk:m * 2 ^ (52 - m.log2) < 2 ^ 53:=by
  have h:=Nat.lt_log2_self (n:=m)
  have:m * 2 ^ (52 - m.log2) < 2 ^ (m.log2+1) * 2 ^ (52 - m.log2):=Nat.mul_lt_mul_of_pos_right h (Nat.two_pow_pos _)
  rw [←Nat.pow_add] at this
  rwa [show m.log2+1+(52 - m.log2)=53 by omega] at this
 have hrung:(e+m.log2 - 52+1074).toNat * 2 ^ 52+m * 2 ^ (52 - m.log2) < double.infRung:=by
  rw [b2]
  have:(e+m.log2 - 52+1074).toNat≤1149:=by omega
  have:=Nat.mul_le_mul_right (2 ^ 52) this
  omega
 refine ⟨?_,hrung⟩
 unfold Format.nearest
 rw [if_neg hm]
 simp only [hlast]
 rw [show (e+(m.log2:Int) - 52 - e).toNat=0 by omega,show (e - (e+(m.log2:Int) - 52)).toNat=52 - m.log2 by omega,cut_zero,Nat.shiftLeft_eq,b1,b3]
 rw [show e+(m.log2:Int) - 52 - -1074=e+m.log2 - 52+1074 by omega,Nat.min_eq_left (Nat.le_of_lt hrung)]
theorem not_inf_of_lt (f:Format) (neg:Bool) {r:Nat} (h:r < f.infRung):(f.read (f.word neg r)).isInfinity=false:=by
 rw [read_word f neg (Nat.lt_trans h f.infRung_lt)]
 split <;> rfl
theorem wide_ok (b:Nat):cvWide .f32 b .f64=false:=by
 unfold cvWide
 rw [if_neg (by decide)]
 split
 ·rename_i s m e h
  obtain ⟨h1,h2,h3⟩:=read_single h
  show (double.read (double.nearest s m e)).isInfinity=false
  by_cases hm:m=0
  ·subst hm
   unfold Format.nearest
   rw [if_pos rfl]
   exact not_inf_of_lt _ _ (by decide +kernel)
  ·obtain ⟨e1,e2⟩:=nearest_double (neg:=s) hm h1 h2 h3
   rw [e1]
   exact not_inf_of_lt _ _ e2
 ·rfl
theorem cn_wide (b:Nat) (w:World):cn .f64 (cvbits .f32 b .f64 w)=fcv .f32 (cn .f32 b) .f64:=cn_cvbits w (wide_ok b)
theorem one_over {a:Nat} (h:isN .f64 a=false):∃r,floatBits .quo .f64 4607182418800017408 a=some r:=by
 show ∃r,((double.read 4607182418800017408).quotient (double.fractionBits+2) (double.read a)).map double.write=some r
 have e1:double.read 4607182418800017408=.number false 4503599627370496 (-52):=by decide +kernel
 rw [e1]
 unfold isN at h
 have h':(double.read a).isNaN=false:=h
 cases hd:double.read a with
 | nan s t=>rw [hd] at h';cases h'
 | infinity s=>exact ⟨_,rfl⟩
 | number s m p =>
  by_cases hm:m=0
  ·subst hm;exact ⟨_,by simp [Datum.quotient];rfl⟩
  ·refine ⟨_,by simp only [Datum.quotient,if_neg hm];rfl⟩
theorem fbits_some {op:BinOp} {k:FloatKind} {x y r:Nat} (h:floatBits op k x y=some r) (w:World):fbits op k x y w=r:=by simp [fbits,h]
theorem fdr_some {op:BinOp} {k:FloatKind} {x y r:Nat} (h:floatBits op k x y=some r):fdr op k x y=0:=by simp [fdr,h]
theorem isN_of_cn {k:FloatKind} {a b:Nat} (h:cn k a=cn k b):isN k a=isN k b:=by rw [←isN_cn k a,h,isN_cn]
theorem eq_of_cn {k:FloatKind} {a b:Nat} (h:cn k a=cn k b) (ha:isN k a=false):a=b:=by
 have hb:isN k b=false:=by rw [←isN_of_cn h];exact ha
 rwa [cn_not ha,cn_not hb] at h
end
end Go.Proofs.YtpadlmidojpbeaaGreat
