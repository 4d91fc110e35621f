/- Joined texts 1. No condition. -/
import Derived.WalkKit
import Derived.WalkSpells
import Derived.ProofKit
import Derived.OpenShut
import Derived.Below
import Derived.Carry
import Derived.DataElems
import Derived.Lib.SmallJoins
import Derived.Test.YtpadlmidojpbeaaGreatRows
import Derived.Lib.Hide
import Derived.Laws.BitsAllLaws
import Derived.Laws.Runes
import GoSem.Extern.MathSqrt
import Derived.Deep.RegionWith
import Derived.Test.YtpadlmidojpbeaaGreatMc0
set_option linter.unusedVariables false
set_option linter.unusedSimpArgs false
namespace Go.Proofs.YtpadlmidojpbeaaGreat
section
open Go Go.RowKit Go.ChangeShapes Go.WideShapes
def Rd (w:World) (ad:Option Addr) (vs:List Value):Prop :=
 vs=[]∨∃b off,ad=some ⟨b,off,none⟩∧b < w.heap.size∧∀i,i < vs.length→w.cell? ⟨b,off+i,none⟩=vs[i]?
theorem Rd.kept {w w':World} {ad:Option Addr} {vs:List Value} (h:Rd w ad vs) (hs:w.heap.size≤w'.heap.size) (hc:∀b off,ad=some ⟨b,off,none⟩→b < w.heap.size→w'.heap[b]? = w.heap[b]?):Rd w' ad vs:=by
 rcases h with h | ⟨b,off,h1,h2,h3⟩
 ·exact .inl h
 ·exact .inr ⟨b,off,h1,by omega,fun i hi=>by rw [World.cell?_of_block (w:=w) (hc b off h1 h2)];exact h3 i hi⟩
theorem Rd.below {w w':World} {B:Nat} {ad:Option Addr} {vs:List Value} (h:Rd w ad vs) (hb:Below B w w') (hB:w.heap.size≤B):Rd w' ad vs :=
 h.kept hb.size fun b _ _ hl=>hb.block b (by omega)
theorem Rd.belowLt {w w':World} {B:Nat} {ad:Option Addr} {vs:List Value} (h:Rd w ad vs) (hb:Below B w w') (hB:∀b off,ad=some ⟨b,off,none⟩→b < B):Rd w' ad vs :=
 h.kept hb.size fun b off e _=>hb.block b (hB b off e)
theorem Rd.spot {w:World} {ad:Option Addr} {vs:List Value} (h:Rd w ad vs) {i:Nat} (hi:i < vs.length):∃b off,ad=some ⟨b,off,none⟩∧b < w.heap.size∧∀j,j < vs.length→w.cell? ⟨b,off+j,none⟩=vs[j]?:=by
 rcases h with h | h
 ·rw [h] at hi;simp at hi
 ·exact h
theorem Rd.of_owns {w:World} {base size n:Nat} {e:TypeId} {v:Value} {vs:List Value} (h:w.ownsRow base e size v n vs):∃ad cap,v=.slice ad n cap∧n≤cap∧cap≤maxLen∧Rd w ad vs∧(∀b off,ad=some ⟨b,off,none⟩→base≤b∧b < w.heap.size):=by
 rcases h.2 with ⟨rfl,rfl⟩ | ⟨g,cap,cur,rfl,hb,hg,hn,hm,hs,ht⟩
 ·have:vs=[]:=by have:=h.1;simpa using this
  exact ⟨none,0,rfl,Nat.le_refl _,Nat.zero_le _,.inl this,fun b off e=>by cases e⟩
 ·have hlt:g < w.heap.size:=(Array.getElem?_eq_some_iff.1 hg).1
  refine ⟨_,cap,rfl,hn,hm,.inr ⟨g,0,rfl,hlt,fun i hi=>?_⟩,fun b off e=>?_⟩
  ·have:=h.cells (g:=g) rfl i (vs[i]) (List.getElem?_eq_getElem hi)
   rw [List.getElem?_eq_getElem hi]
   rw [←this]
   congr 1
   unfold Addr.add
   split <;> simp_all
  ·simp only [Option.some.injEq,Addr.mk.injEq] at e
   obtain ⟨rfl,_,_⟩:=e
   exact ⟨hb,hlt⟩
section
variable {H:Type} {enc:TypeId × Value→H} {P:Program} {w:World} {base:Nat} {spare:Nat→Bool} {held:Bool}
theorem trod_float {t:TypeId} {k:FloatKind} {fuel:Nat} {cs:List Value} {x:DataW H × List MemPlace} (ht:P.underlying t=some (.float k)) (h:DataW.trod enc P w base spare held fuel t cs=some x):∃b,cs=[.float k b]∧(Lit.float k b).wf=true:=by
 cases fuel with
 | zero=>simp [DataW.trod] at h
 | succ n =>
  unfold DataW.trod at h
  rw [ht] at h
  split at h <;> simp_all
theorem f32_lt {b:Nat} (h:(Lit.float .f32 b).wf=true):b < 4294967296:=by simpa [Lit.wf] using h
theorem f64_lt {b:Nat} (h:(Lit.float .f64 b).wf=true):b < 18446744073709551616:=by simpa [Lit.wf] using h
theorem open_rows {β:Type} {t e:TypeId} {v:Value} {d:DataW H} {ps:List MemPlace} (cellsOf:β→List Value) (Good:β→Prop) (ht:P.underlying t=some (.slice e))
  (hdec:∀(n:Nat) (cs:List Value) (y:DataW H × List MemPlace),DataW.trod enc P w base spare held n e cs=some y→∃b,cs=cellsOf b∧Good b)
  (h:DataW.Trod enc P w base spare held t v d ps) (hv:∃a l c,v=.slice a l c):∃(ad:Option Addr) (cap:Nat) (bs:List β),v=.slice ad (bs.length) cap∧bs.length≤cap∧cap≤maxLen∧Rd w ad (bs.flatMap cellsOf)∧(∀b∈bs,Good b):=by
 obtain ⟨fuel,hf⟩:=h
 obtain ⟨a0,l0,c0,rfl⟩:=hv
 rcases DataW.trod_slice ht hf with ⟨hcs,_⟩ | ⟨a,len,cap,elems,rest,n,_,hcs,_,hb,hl,hm,hlen,hel,_⟩
 ·simp [Value.cells] at hcs
  obtain ⟨rfl,rfl,rfl⟩:=hcs
  exact ⟨none,0,[],rfl,Nat.le_refl _,Nat.zero_le _,.inl rfl,fun b hb=>by cases hb⟩
 ·simp [Value.cells] at hcs
  obtain ⟨rfl,rfl,rfl⟩:=hcs
  have key:∀m,m≤l0→∃bs:List β,bs.length=m∧(∀b∈bs,Good b)∧(bs.flatMap cellsOf).length=m * P.cellsOf e∧(∀i,i < m * P.cellsOf e→w.cell? (a.add i)=(bs.flatMap cellsOf)[i]?):=by
   intro m
   induction m with
   | zero=>intro _;exact ⟨[],rfl,(fun b hb=>nomatch hb),by simp,(fun i hi=>by simp at hi)⟩
   | succ m ih =>
    intro hm'
    obtain ⟨bs,h1,h2,h3,h4⟩:=ih (by omega)
    have hy:=hel m (by omega)
    have hlt:m < elems.length:=by omega
    rw [List.getElem?_eq_getElem hlt,Option.bind_eq_some_iff] at hy
    obtain ⟨cs,hcs,hy⟩:=hy
    obtain ⟨b,rfl,hg⟩:=hdec _ _ _ hy
    obtain ⟨_,hsz,hcell⟩:=World.cells?_some hcs
    refine ⟨bs ++ [b],by simp [h1],?_,?_,?_⟩
    ·intro b' hb'
     rcases List.mem_append.1 hb' with hb' | hb'
     ·exact h2 b' hb'
     ·simp at hb';subst hb';exact hg
    ·simp [h3,hsz,Nat.succ_mul]
    ·intro i hi
     rw [List.flatMap_append,List.flatMap_singleton]
     by_cases hlt':i < m * P.cellsOf e
     ·rw [List.getElem?_append_left (by omega)];exact h4 i hlt'
     ·rw [List.getElem?_append_right (by omega),h3]
      rw [Nat.succ_mul] at hi
      have:=hcell (i - m * P.cellsOf e) (by omega)
      rw [←this,Addr.add_add]
      congr 2
      omega
  obtain ⟨bs,h1,h2,h3,h4⟩:=key l0 (Nat.le_refl _)
  refine ⟨some a,c0,bs,by rw [h1],by omega,hm,?_,h2⟩
  by_cases hz:bs.flatMap cellsOf=[]
  ·exact .inl hz
  ·have hpos:0 < (bs.flatMap cellsOf).length:=List.length_pos_iff.2 hz
   have h0:=h4 0 (by omega)
   rw [List.getElem?_eq_getElem hpos] at h0
   have hsp:a.spot=none:=by
    have:=World.cell?_spot h0
    unfold Addr.add at this
    split at this <;> simp_all
   obtain ⟨b,off,spot⟩:=a
   simp at hsp;subst hsp
   refine .inr ⟨b,off,rfl,?_,fun i hi=>?_⟩
   ·have:=World.block_lt_of_cell? w _ h0
    simpa [Addr.add] using this
   ·have:=h4 i (by omega)
    rw [Addr.add_lit] at this;exact this
structure Ints (k:IntKind) (w:World) (ad:Option Addr) (cap:Nat) (xs:List Int):Prop where
 len:xs.length≤cap
 cap:cap≤maxLen
 rd:Rd w ad (xs.map (Value.int k))
 wf:∀x∈xs,(Lit.int k x).wf=true
structure F32s (w:World) (ad:Option Addr) (cap:Nat) (xs:List Nat):Prop where
 len:xs.length≤cap
 cap:cap≤maxLen
 rd:Rd w ad (xs.map (Value.float .f32))
 lt:∀x∈xs,x < 4294967296
theorem dec_f32s {t e:TypeId} {n:Nat} {cs:List Value} {y:DataW H × List MemPlace} (ht:P.underlying t=some (.slice e)) (he:P.underlying e=some (.float .f32))
  (h:DataW.trod enc P w base spare held n t cs=some y):∃ad cap xs,cs=[.slice ad (List.length xs) cap]∧F32s w ad cap xs:=by
 obtain ⟨a,l,c,rfl⟩:=Joins.slice_form ht h
 obtain ⟨ad,cap,bs,h1,h2,h3,h4,h5⟩:=open_rows (v:=.slice a l c) (fun b=>[Value.float .f32 b]) (fun b=>b < 4294967296) ht (fun n cs y hy=>by
  obtain ⟨b,hb,hw⟩:=trod_float he hy
  exact ⟨b,hb,f32_lt hw⟩) ⟨n,by simpa [Value.cells] using h⟩ ⟨a,l,c,rfl⟩
 exact ⟨ad,cap,bs,by rw [h1],⟨h2,h3,by rw [←List.map_eq_flatMap] at h4;exact h4,h5⟩⟩
theorem dec_ints {t e:TypeId} {k:IntKind} {n:Nat} {cs:List Value} {y:DataW H × List MemPlace} (ht:P.underlying t=some (.slice e)) (he:P.underlying e=some (.int k))
  (h:DataW.trod enc P w base spare held n t cs=some y):∃ad cap xs,cs=[.slice ad (List.length xs) cap]∧Ints k w ad cap xs:=by
 obtain ⟨a,l,c,rfl⟩:=Joins.slice_form ht h
 obtain ⟨ad,cap,bs,h1,h2,h3,h4,h5⟩:=open_rows (v:=.slice a l c) (fun b=>[Value.int k b]) (fun b=>(Lit.int k b).wf=true) ht (fun n cs y hy=>by
  obtain ⟨b,hb,_,hw⟩:=DataW.trod_int he hy
  exact ⟨b,hb,hw⟩) ⟨n,by simpa [Value.cells] using h⟩ ⟨a,l,c,rfl⟩
 exact ⟨ad,cap,bs,by rw [h1],⟨h2,h3,by rw [←List.map_eq_flatMap] at h4;exact h4,h5⟩⟩
theorem arg_slice {t e:TypeId} {r:Reach} {b0:Nat} {v:Value} {d:DataW H} {ps:List MemPlace} (ht:P.underlying t=some (.slice e)) (hval:Value.okWide P w r b0 t v)
  (h:DataW.Trod enc P w base spare held t v d ps):∃n,DataW.trod enc P w base spare held n t [v]=some (d,ps):=by
 obtain ⟨a,l,c,rfl⟩:=okWide_slice ht hval
 obtain ⟨n,hn⟩:=h
 exact ⟨n,by simpa [Value.cells] using hn⟩
theorem open_f32 {t:TypeId} {r:Reach} {b0:Nat} {v:Value} {d:DataW H} {ps:List MemPlace} (ht:P.underlying t=some (.float .f32)) (hval:Value.okWide P w r b0 t v) (h:DataW.Trod enc P w base spare held t v d ps) :
  ∃b,v=.float .f32 b∧b < 4294967296:=by
 obtain ⟨b,h1,_,_,h4⟩:=open_float ht hval h
 exact ⟨b,h1,f32_lt h4⟩
theorem open_f64 {t:TypeId} {r:Reach} {b0:Nat} {v:Value} {d:DataW H} {ps:List MemPlace} (ht:P.underlying t=some (.float .f64)) (hval:Value.okWide P w r b0 t v) (h:DataW.Trod enc P w base spare held t v d ps) :
  ∃b,v=.float .f64 b∧b < 18446744073709551616:=by
 obtain ⟨b,h1,_,_,h4⟩:=open_float ht hval h
 exact ⟨b,h1,f64_lt h4⟩
theorem agg_of {t:TypeId} {fs:Array Field} {r:Reach} {b0:Nat} {v:Value} (hs:P.underlying t=some (.struct fs)) (hv:Value.okWide P w r b0 t v):∃l:List Value,v=.agg l.toArray∧l.length=P.cellsOf t:=by
 obtain ⟨cs,rfl,hsz⟩:=okWide_struct hs hv
 exact ⟨cs.toList,by simp,by simpa using hsz⟩
theorem trod_parts {t:TypeId} {fs:Array Field} {fuel:Nat} {cs:List Value} {x:DataW H × List MemPlace} (ht:P.underlying t=some (.struct fs)) (h:DataW.trod enc P w base spare held fuel t cs=some x) :
  ∃n,cs.length=P.cellsOf t∧∀(i ty off c:Nat) (f:Field),fs[i]? = some f→f.type=ty→f.offset=off→P.cellsOf ty=c→∃y,DataW.trod enc P w base spare held n ty ((cs.drop off).take c)=some y:=by
 obtain ⟨xs,n,_,_,hl,hlen,hf⟩:=DataW.trod_struct ht h
 refine ⟨n,hl,fun i ty off c f hi hty hoff hc=>?_⟩
 subst hty hoff hc
 rw [hf i f hi]
 have:i < fs.size:=(Array.getElem?_eq_some_iff.1 hi).1
 exact ⟨_,List.getElem?_eq_getElem (by omega)⟩
end
theorem arg_agg {H:Type} {enc:TypeId × Value→H} {P:Program} {w:World} {base:Nat} {spare:Nat→Bool} {held:Bool} {t:TypeId} {fs:Array Field} {r:Reach} {b0:Nat} {v:Value} {d:DataW H} {ps:List MemPlace} (hs:P.underlying t=some (.struct fs)) (hv:Value.okWide P w r b0 t v)
  (h:DataW.Trod enc P w base spare held t v d ps):∃l:List Value,v=.agg l.toArray∧∃n,DataW.trod enc P w base spare held n t l=some (d,ps):=by
 obtain ⟨l,rfl,_⟩:=agg_of hs hv
 obtain ⟨n,hn⟩:=h
 exact ⟨l,rfl,n,by simpa [Value.cells] using hn⟩
theorem bkeep {W w1:World} (b:Nat) (hb:Below W.heap.size W w1) (h:b < W.heap.size):(∀o,w1.cell? ⟨b,o,none⟩=W.cell? ⟨b,o,none⟩)∧(∀o,w1.frozen? ⟨b,o,none⟩=W.frozen? ⟨b,o,none⟩)∧b < w1.heap.size :=
 ⟨fun o=>hb.cell (p:=⟨b,o,none⟩) h,fun o=>hb.frozen (p:=⟨b,o,none⟩) h,Nat.lt_of_lt_of_le h hb.size⟩
theorem bthen {a w w':World} (h:Below a.heap.size a w) (h2:Below w.heap.size w w'):Below a.heap.size a w':=h.trans (h2.mono h.size)
theorem list3 {α:Type} {l:List α} (h:l.length=3):∃a b c,l=[a,b,c]:=by
 match l,h with
 | [a,b,c],_=>exact ⟨a,b,c,rfl⟩
theorem list5 {α:Type} {l:List α} (h:l.length=5):∃a b c d e,l=[a,b,c,d,e]:=by
 match l,h with
 | [a,b,c,d,e],_=>exact ⟨a,b,c,d,e,rfl⟩
theorem own_knob:ownKnob Tryz.prog.godebug=none:=by kernel_rfl
theorem laid_out:laidOutB Tryz.prog=true:=by kernel_rfl
section
variable {H:Type} {enc:TypeId × Value→H} {w:World} {base:Nat} {spare:Nat→Bool} {held:Bool}
theorem dec_Scale {n:Nat} {cs:List Value} {y:DataW H × List MemPlace} (h:DataW.trod enc Tryz.prog w base spare held n 49 cs=some y) :
  ∃(s:Nat) (gd gw:Int),cs=[.float .f32 s,.int .i64 gd,.int .i64 gw]∧s < 4294967296∧(Lit.int .i64 gd).wf=true∧(Lit.int .i64 gw).wf=true:=by
 have c0:Tryz.prog.cellsOf 49=3:=by kernel_rfl
 have c1:Tryz.prog.cellsOf 2=1:=by kernel_rfl
 have c2:Tryz.prog.cellsOf 28=1:=by kernel_rfl
 obtain ⟨n,hl,hp⟩:=trod_parts Tryz.underlying49 h
 rw [c0] at hl
 obtain ⟨x0,x1,x2,rfl⟩:=list3 hl
 obtain ⟨y0,h0⟩:=hp 0 28 0 1 _ rfl rfl rfl c2
 obtain ⟨y1,h1⟩:=hp 1 2 1 1 _ rfl rfl rfl c1
 obtain ⟨y2,h2⟩:=hp 2 2 2 1 _ rfl rfl rfl c1
 simp only [List.drop_succ_cons,List.drop_zero,List.take_succ_cons,List.take_zero] at h0 h1 h2
 obtain ⟨r,e0,w0⟩:=trod_float Tryz.underlying28 h0
 obtain ⟨g,e1,_,w1⟩:=DataW.trod_int Tryz.underlying2 h1
 obtain ⟨q,e2,_,w2⟩:=DataW.trod_int Tryz.underlying2 h2
 simp only [List.cons.injEq,and_true] at e0 e1 e2
 subst e0 e1 e2
 exact ⟨r,g,q,rfl,f32_lt w0,w1,w2⟩
end
end
section
open Go Go.RowKit
def inB (n lo hi:Int):Bool:=decide (lo≤n) && decide (n≤hi)
theorem inB_iff {n lo hi:Int}:inB n lo hi=true ↔ lo≤n∧n≤hi:=by simp [inB]
theorem below1 (w:World) (o:Obj):Below w.heap.size w (w.alloc o):=(Below.refl _ _).alloc (Nat.le_refl _) o
theorem below2 (w:World) (o o':Obj):Below w.heap.size w ((w.alloc o).alloc o'):=(below1 w o).alloc (by simp) o'
theorem below3 (w:World) (o o' o'':Obj):Below w.heap.size w (((w.alloc o).alloc o').alloc o''):=(below2 w o o').alloc (by simp;omega) o''
theorem within_any (n lo hi:Int) (w:World):Calls Tryz.prog 51 #[.int .i64 n,.int .i64 lo,.int .i64 hi] w fun e w'=>e=.returned (.bool (inB n lo hi))∧w=w':=by
 go_enter Tryz.func51,Tryz.ntmps51
 go_wp2
 all_goals (go_ret;refine ⟨?_,rfl⟩;simp [inB];try omega)
theorem l00In_any (n lo hi:Int) (w:World):Calls Tryz.prog 48 #[.int .i64 n,.int .i64 lo,.int .i64 hi] w fun e w'=>e=.returned (.bool (inB n lo hi))∧w=w':=by
 go_enter Tryz.func48,Tryz.ntmps48
 go_wp2
 all_goals (go_ret;refine ⟨?_,rfl⟩;simp [inB];try omega)
def Dr (w w':World):Prop:=∃n,w'=w.drewN n
theorem Dr.refl (w:World):Dr w w:=⟨0,rfl⟩
theorem Dr.below {w w':World} (h:Dr w w'):Below w.heap.size w w':=by obtain ⟨n,rfl⟩:=h;exact below_drewN (Below.refl _ _) n
theorem sameFloat_any (a b:Nat) (h:cn .f64 a=cn .f64 b) (w:World):Calls Tryz.prog 13 #[.float .f64 a,.float .f64 b] w fun e w'=>e=.returned (.bool true)∧Dr w w':=by
 by_cases ha:isN .f64 a=true
 ·have hb:isN .f64 b=true:=by rw [←isN_of_cn h];exact ha
  have h1:FloatKind.f64.format.order a a=none:=order_none (.inl ha)
  have h2:FloatKind.f64.format.order b b=none:=order_none (.inl hb)
  clear h ha hb
  go_enter Tryz.func13,Tryz.ntmps13
  go_wp2
  go_ret
  exact ⟨rfl,Dr.refl _⟩
 ·have ha':isN .f64 a=false:=by simpa using ha
  obtain rfl:=eq_of_cn h ha'
  obtain ⟨r,hr⟩:=one_over ha'
  have h1:FloatKind.f64.format.order a a=some .eq:=by rw [order_self,if_neg ha]
  have h2:=fun w=>fbits_some hr w
  have h3:=fdr_some hr
  clear h ha ha' hr
  go_enter Tryz.func13,Tryz.ntmps13
  go_wp2
  all_goals (go_ret;first | exact ⟨rfl,Dr.refl _⟩ | exact ⟨rfl,_,rfl⟩)
theorem F32s.below {w w':World} {ad:Option Addr} {cap:Nat} {xs:List Nat} (h:F32s w ad cap xs) (hb:Below w.heap.size w w'):F32s w' ad cap xs:=⟨h.len,h.cap,h.rd.below hb (Nat.le_refl _),h.lt⟩
theorem Ints.below {k:IntKind} {w w':World} {ad:Option Addr} {cap:Nat} {xs:List Int} (h:Ints k w ad cap xs) (hb:Below w.heap.size w w'):Ints k w' ad cap xs:=⟨h.len,h.cap,h.rd.below hb (Nat.le_refl _),h.wf⟩
theorem F32s.of_owns {w:World} {base n cap:Nat} {e:TypeId} {ad:Option Addr} {xs:List Nat} (h:w.ownsRow base e 1 (.slice ad n cap) n (xs.map (Value.float .f32))) (hx:∀x∈xs,x < 4294967296):n=xs.length∧F32s w ad cap xs:=by
 obtain ⟨ad',cap',e1,e2,e3,e4,_⟩:=Rd.of_owns h
 cases e1
 have hl:n=xs.length:=by have:=h.1;simpa using this.symm
 exact ⟨hl,by omega,e3,e4,hx⟩
theorem Ints.of_owns {k:IntKind} {w:World} {base n cap:Nat} {e:TypeId} {ad:Option Addr} {xs:List Int} (h:w.ownsRow base e 1 (.slice ad n cap) n (xs.map (Value.int k))) (hx:∀x∈xs,(Lit.int k x).wf=true):n=xs.length∧Ints k w ad cap xs:=by
 obtain ⟨ad',cap',e1,e2,e3,e4,_⟩:=Rd.of_owns h
 cases e1
 have hl:n=xs.length:=by have:=h.1;simpa using this.symm
 exact ⟨hl,by omega,e3,e4,hx⟩
theorem F32s.spot {w:World} {ad:Option Addr} {cap:Nat} {xs:List Nat} (h:F32s w ad cap xs) {k:Nat} (hk:k < xs.length):∃b off,ad=some ⟨b,off,none⟩∧b < w.heap.size∧∀j,j < xs.length→w.cell? ⟨b,off+j,none⟩=some (.float .f32 (xs.getD j 0)):=by
 obtain ⟨b,off,e,hb,hc⟩:=h.rd.spot (i:=k) (by simpa using hk)
 refine ⟨b,off,e,hb,fun j hj=>?_⟩
 rw [hc j (by simpa using hj),List.getElem?_map,List.getElem?_eq_getElem hj,List.getD_eq_getElem?_getD,List.getElem?_eq_getElem hj]
 rfl
theorem wp_app {P:Program} {ops:Array Oper} {rest:List Oper} {o:Oper} {a:Act} {Q:Exit→Act→World→Prop} {e:TypeId} {W:World} {cs:Array Value} (hgd:o.guard=none) (s x:Operand) (t:TypeId)
  (ho:o.op=.call { callee:=.builtin .append,args:=#[s,x],argTypes:=#[t,t] })
  (base:Nat) (i:TypeInfo) (z:Value) (size bytes:Nat) (ht:P.underlying t=some (.slice e)) (hi:P.info? e=some i) (hz:i.zero=some z)
  (hsize:i.size=size) (hby:i.bytes=bytes) (hzs:z.cells.size=size) (hsz:0 < size)
  (hcs:cs.size=size) (h1:∀u∈cs.toList,u.oneCell'=true)
  (v:Value) (n:Nat) (xs:List Value) (hs:a.eval s=v) (hown:W.ownsRow base e size v n xs) (hx:a.eval x=.slice (some ⟨W.heap.size,0,none⟩) 1 1)
  (h63:n+1≤maxLen) (hbytes:(n+1) * bytes≤140737488355328) (hbase:base≤W.heap.size)
  (h:∀v' w',w'.ownsRow base e size v' (n+1) (xs ++ cs.toList)→Below base W w'→base≤w'.heap.size→wpList P ops Q rest (a.put o.dst v') w'):wpList P ops Q (o :: rest) a (W.alloc (.cells cs e)):=by
 refine wpList_append_own (W.alloc (.cells cs e)) hgd s x t ho base e i z size bytes ht hi hz hsize hby hzs hsz v n xs hs (hown.alloc _) ⟨W.heap.size,0,none⟩ 1 1 cs.toList hx (by simpa using hcs) ?_ h1 h63 hbytes (by simp;omega) ?_
 ·intro j u hj
  rw [Addr.add_lit,World.cell?_alloc_at _ _ _ _ rfl]
  simpa using hj
 ·intro v' w' h2 hg _
  refine h v' w' h2 (((Below.refl _ _).alloc hbase _).grown hg (by simp;omega) (fun j hj=>(hown.lt j hj).1)) ?_
  have:=hg.size
  simp at this
  omega
theorem one_cell (x:Value) (h:x.oneCell'=true):∀u∈(#[x]:Array Value).toList,u.oneCell'=true:=by
 intro u hu
 simp at hu
 rw [hu];exact h
theorem take_set_next {α:Type} {ys zs:List α} {k:Nat} {x:α} (h:ys.take k=zs.take k) (hk:k < ys.length) (hz:zs[k]? = some x):(ys.set k x).take (k+1)=zs.take (k+1):=by
 have hk2:k < zs.length:=(List.getElem?_eq_some_iff.1 hz).1
 rw [List.take_succ_eq_append_getElem (by simpa using hk),List.take_succ_eq_append_getElem hk2,List.take_set,List.set_eq_of_length_le (by simp;omega),h]
 simp [List.getElem?_eq_some_iff.1 hz |>.2]
def markF (k0 n:Nat):List Nat:=(List.range n).map fun i=>floatOfInt .f32 (k0+i:Nat)
theorem markF_lt (k0 n:Nat):∀x∈markF k0 n,x < 4294967296:=by
 intro x hx
 obtain ⟨i,_,rfl⟩:=List.mem_map.1 hx
 exact FloatKind.f32.format.nearest_lt _ _ _
theorem markF_length (k0 n:Nat):(markF k0 n).length=n:=by simp [markF]
structure Row (w:World) (e:TypeId) (size lo hi:Nat) (v:Value) (n:Nat) (cs:List Value):Prop where
 own:w.ownsRow lo e size v n cs
 top:∀k,v.ownBlock=some k→k < hi
theorem Row.mk' {w:World} {e:TypeId} {size lo:Nat} {v:Value} {n:Nat} {cs:List Value} (h:w.ownsRow lo e size v n cs):Row w e size lo w.heap.size v n cs:=⟨h,fun k hk=>(h.lt k hk).2⟩
theorem owns_below {w w':World} {e:TypeId} {size lo:Nat} {v:Value} {n:Nat} {cs:List Value} (h:w.ownsRow lo e size v n cs) (hb:Below w.heap.size w w'):w'.ownsRow lo e size v n cs:=by
 refine ⟨h.1,?_⟩
 rcases h.2 with h2 | ⟨g,cap,cur,hv,hg,hh,r⟩
 ·exact .inl h2
 ·exact .inr ⟨g,cap,cur,hv,hg,by rw [hb.block g (Array.getElem?_eq_some_iff.1 hh).1];exact hh,r⟩
theorem Row.below {w w':World} {e:TypeId} {size lo hi:Nat} {v:Value} {n:Nat} {cs:List Value} (h:Row w e size lo hi v n cs) (hb:Below w.heap.size w w'):Row w' e size lo hi v n cs:=⟨owns_below h.own hb,h.top⟩
theorem Row.nil (w:World) (e:TypeId) (lo hi:Nat):Row w e 1 lo hi (.slice none 0 0) 0 []:=⟨World.ownsRow_nil _ _ _ _,fun k hk=>by cases hk⟩
theorem info_f32:(Tryz.prog.info? 28).map (fun i=>(i.zero,i.size,i.bytes))=some (some (.float .f32 0),1,4):=by kernel_rfl
theorem info_i64:(Tryz.prog.info? 2).map (fun i=>(i.zero,i.size,i.bytes))=some (some (.int .i64 0),1,8):=by kernel_rfl
set_option maxHeartbeats 1000000 in
theorem laws_toFloat32S (ad:Option Addr) (cap:Nat) (xs:List Nat) (w:World) (h:F32s w ad cap xs) (hn:xs.length≤1048576) :
  Calls Tryz.prog 32 #[.slice ad xs.length cap] w fun e w'=>e=.returned (.slice (some ⟨w.heap.size,0,none⟩) xs.length xs.length) ∧
   w'.ownsRow w.heap.size 28 1 (.slice (some ⟨w.heap.size,0,none⟩) xs.length xs.length) xs.length (xs.map (Value.float .f32))∧Below w.heap.size w w':=by
 obtain ⟨i0,hi,hz0,hz1,hz2⟩:=info_parts info_f32
 obtain ⟨n,hN⟩:∃n,n=xs.length:=⟨_,rfl⟩
 rw [←hN] at hn ⊢
 have HN:=I hN;clear hN
 go_enter Tryz.func32,Tryz.ntmps32
 go_wp2_with (at_make;refine wpList_make_full _ rfl _ _ 25 rfl w.heap.size 28 i0 (.float .f32 0) 1 Tryz.underlying25 hi hz0 hz1 .i64 .i64 _ _ n rfl rfl rfl rfl ?c1 ?c2 ?c3 ?_)
 case c1=>rw [hz2];omega
 case c2=>unfold maxLen;omega
 case c3=>exact Nat.le_refl _
 intro w1 hown hg
 have hb1:Below w.heap.size w w1:=(Below.refl _ _).grown hg (Nat.le_refl _) (fun k e=>by cases e)
 obtain ⟨ys,hys⟩:∃ys:List Value,ys=(madeCells #[Value.float .f32 0] n).toList:=⟨_,rfl⟩
 rw [←hys] at hown
 have hyl:ys.length=n:=by have:=hown.1;omega
 clear hys hg
 have HY:=I hyl;clear hyl
 go_wp2
 go_loopw [4] (fun i wr => ∃k:Nat,i=.int .i64 k∧k≤n∧∃ys:List Value,wr.ownsRow w.heap.size 28 1 (.slice (some ⟨w.heap.size,0,none⟩) n n) n ys∧ys.length=n∧ys.take k=(xs.map (Value.float .f32)).take k∧Below w.heap.size w wr) (fun i _=>n - (intOf i).toNat)
 case atStart=>exact ⟨0,rfl,Nat.zero_le _,ys,hown,HY.out,by simp,hb1⟩
 case round =>
  clear hown hb1 HY
  obtain ⟨k,rfl,hk,zs,hown,hzl,htk,hb⟩:=hrel
  have HZ:=I hzl;have HT:=I htk;clear hzl htk
  by_cases hlt:k < n
  ·obtain ⟨b,off,rfl,hbl,hc⟩:=h.spot (k:=k) (by rw [←HN.out];exact hlt)
   have hcell:wr.cell? ⟨b,off+k,none⟩=some (.float .f32 (xs.getD k 0)):=(hb.cell (p:=⟨b,off+k,none⟩) hbl).trans (hc k (by rw [←HN.out];exact hlt))
   obtain ⟨x,hx⟩:∃x,x=xs.getD k 0:=⟨_,rfl⟩
   rw [←hx] at hcell
   have HX:=I hx;clear hx hc
   have hd:wr.cell? ⟨w.heap.size,k,none⟩=some (zs[k]'(by rw [HZ.out];exact hlt)):=by rw [hown.cellAt k (by omega),List.getElem?_eq_getElem (by rw [HZ.out];exact hlt)]
   obtain ⟨y,hy⟩:∃y,y=zs[k]'(by rw [HZ.out];exact hlt):=⟨_,rfl⟩
   rw [←hy] at hd
   clear hy
   have hfz:=hown.frozenAt k
   have hst:=hown.stored k (.float .f32 x)
   go_wp2
   go_roundw
   case rel =>
    refine ⟨k+1,by go_num,hlt,zs.set k (.float .f32 x),hst.1,by simpa using HZ.out,take_set_next HT.out (by rw [HZ.out];exact hlt) ?_,hb.setCell (Nat.le_refl _) _⟩
    have hkx:k < xs.length:=by rw [←HN.out];exact hlt
    rw [List.getElem?_map,List.getElem?_eq_getElem hkx,HX.out,List.getD_eq_getElem?_getD,List.getElem?_eq_getElem hkx]
    rfl
   case measure=>simp [intOf];omega
  ·have hkn:k=n:=by omega
   subst hkn
   go_wp2
   go_ret
   refine ⟨rfl,?_,hb⟩
   have e1:=HT.out
   rw [List.take_of_length_le (by rw [HZ.out];exact Nat.le_refl _),List.take_of_length_le (by simp [HN.out])] at e1
   rw [←e1]
   exact hown
set_option maxHeartbeats 1000000 in
theorem laws_eqFloat32S (ad1 ad2:Option Addr) (c1 c2:Nat) (xs ys:List Nat) (w:World) (h1:F32s w ad1 c1 xs) (h2:F32s w ad2 c2 ys) (hn:xs.length≤1048576) (he:xs.map (cn .f32)=ys.map (cn .f32)) :
  Calls Tryz.prog 12 #[.slice ad1 xs.length c1,.slice ad2 ys.length c2] w fun e w'=>e=.returned (.bool true)∧Dr w w':=by
 have hl:xs.length=ys.length:=by have:=congrArg List.length he;simpa using this
 rw [←hl]
 obtain ⟨n,hN⟩:∃n,n=xs.length:=⟨_,rfl⟩
 have HL:=I hl;clear hl
 rw [←hN] at hn ⊢
 have HN:=I hN;clear hN
 have HE:=I he;clear he
 go_enter Tryz.func12,Tryz.ntmps12
 go_wp2
 go_loopw [5] (fun i wr => ∃k:Nat,i=.int .i64 k∧k≤n∧Dr w wr) (fun i _=>n - (intOf i).toNat)
 case atStart=>exact ⟨0,rfl,Nat.zero_le _,Dr.refl _⟩
 case round =>
  obtain ⟨k,rfl,hk,hdr⟩:=hrel
  have h1:=h1.below hdr.below
  have h2:=h2.below hdr.below
  by_cases hlt:k < n
  ·obtain ⟨b,off,rfl,_,hc⟩:=h1.spot (k:=k) (by rw [←HN.out];exact hlt)
   obtain ⟨b',off',rfl,_,hc'⟩:=h2.spot (k:=k) (by rw [←HL.out,←HN.out];exact hlt)
   have hcell:=hc k (by rw [←HN.out];exact hlt)
   have hcell':=hc' k (by rw [←HL.out,←HN.out];exact hlt)
   obtain ⟨x,hx⟩:∃x,x=xs.getD k 0:=⟨_,rfl⟩
   obtain ⟨y,hy⟩:∃y,y=ys.getD k 0:=⟨_,rfl⟩
   rw [←hx] at hcell
   rw [←hy] at hcell'
   have hxy:cn .f32 x=cn .f32 y:=by
    have hkx:k < xs.length:=by rw [←HN.out];exact hlt
    have hky:k < ys.length:=by rw [←HL.out];exact hkx
    have e1:=congrArg (fun l=>l[k]?) HE.out
    simp only [List.getElem?_map,List.getElem?_eq_getElem hkx,List.getElem?_eq_getElem hky,Option.map_some,Option.some.injEq] at e1
    rw [hx,hy,List.getD_eq_getElem?_getD,List.getD_eq_getElem?_getD,List.getElem?_eq_getElem hkx,List.getElem?_eq_getElem hky]
    exact e1
   have HXY:=I hxy;clear hxy hx hy hc hc'
   have HD:=I hdr;clear hdr h1 h2
   go_wp2
   refine wp_region_drawn (fun f args v=>v=.bool true) (by kernel_rfl) (by kernel_rfl) ?_
   repeat (refine wset_step (fun K hK nq=>?_);go_simp;refine hK _ ?_;clear hK K)
   refine wset_step (fun K hK nq=>?_)
   go_simp
   refine ⟨(sameFloat_any _ _ (by rw [cn_wide,cn_wide,HXY.out]) _).mono ?_,?_⟩
   ·rintro e w' ⟨rfl,q,rfl⟩
    exact ⟨rfl,_,World.drewN_drewN _ _ _⟩
   refine hK _ ?_
   clear hK K
   repeat (refine wset_step (fun K hK nq=>?_);go_simp;refine hK _ ?_;clear hK K)
   refine wset_nil ?_
   rintro w' ⟨q,rfl⟩
   go_wp2
   go_roundw
   case rel=>exact ⟨k+1,by go_num,hlt,by obtain ⟨q',hq⟩:=HD.out;exact ⟨_,by rw [hq,World.drewN_drewN]⟩⟩
   case measure=>simp [intOf];omega
  ·go_wp2
   go_ret
   exact ⟨rfl,hdr⟩
set_option maxHeartbeats 1000000 in
theorem laws_markFloat32S (base:Nat) (ad:Option Addr) (cap n:Nat) (ys:List Value) (k0:Nat) (w:World) (hn:n≤1048576) (hk0:k0≤100000000) (h:w.ownsRow base 28 1 (.slice ad n cap) n ys) :
  Calls Tryz.prog 18 #[.slice ad n cap,.int .i64 k0] w fun e w'=>e=.returned (.int .i64 (k0+n:Nat)) ∧
   w'.ownsRow base 28 1 (.slice ad n cap) n ((markF k0 n).map (Value.float .f32))∧w.grownBy w' (Value.slice ad n cap).ownBlock:=by
 have hyl:ys.length=n:=by have:=h.1;omega
 have HY:=I hyl;clear hyl
 go_enter Tryz.func18,Tryz.ntmps18
 go_wp2
 go_loopw [1,5] (fun q i wr => ∃k:Nat,i=.int .i64 k∧q=.int .i64 (k0+k:Nat)∧k≤n∧∃ys:List Value,wr.ownsRow base 28 1 (.slice ad n cap) n ys∧ys.length=n∧ys.take k=((markF k0 n).map (Value.float .f32)).take k∧w.grownBy wr (Value.slice ad n cap).ownBlock) (fun _ i _=>n - (intOf i).toNat)
 case atStart=>exact ⟨0,rfl,rfl,Nat.zero_le _,ys,h,HY.out,by simp,⟨rfl,rfl,rfl,Nat.le_refl _,fun _ _ _=>rfl⟩⟩
 case round =>
  obtain ⟨k,rfl,rfl,hk,zs,hown,hzl,htk,hb⟩:=hrel
  have HZ:=I hzl;have HT:=I htk;clear hzl htk h HY
  by_cases hlt:k < n
  ·obtain ⟨g,cap',hform⟩:=Joins.ownsRow_form hown (by omega)
   have had:ad=some ⟨g,0,none⟩:=by cases hform;rfl
   clear hform
   subst had
   have hd:wr.cell? ⟨g,k,none⟩=some (zs[k]'(by rw [HZ.out];exact hlt)):=by rw [hown.cellAt k (by omega),List.getElem?_eq_getElem (by rw [HZ.out];exact hlt)]
   obtain ⟨y,hy⟩:∃y,y=zs[k]'(by rw [HZ.out];exact hlt):=⟨_,rfl⟩
   rw [←hy] at hd
   clear hy
   have hfz:=hown.frozenAt k
   have hst:=hown.stored k (.float .f32 (floatOfInt .f32 (k0+k:Nat)))
   go_wp2
   go_roundw
   case rel =>
    refine ⟨k+1,by go_num,by go_num,hlt,zs.set k (.float .f32 (floatOfInt .f32 (k0+k:Nat))),hst.1,by simpa using HZ.out,take_set_next HT.out (by rw [HZ.out];exact hlt) ?_,?_⟩
    ·rw [markF,List.map_map,List.getElem?_map,List.getElem?_range hlt];rfl
    ·have hg2:=hst.2
     exact ⟨hg2.os.trans hb.os,hg2.tape.trans hb.tape,hg2.output.trans hb.output,Nat.le_trans hb.size hg2.size,fun i hi hne=>(hg2.block i (by have:=hb.size;omega) hne).trans (hb.block i hi hne)⟩
   case measure=>simp [intOf];omega
  ·have hkn:k=n:=by omega
   subst hkn
   go_wp2
   go_ret
   refine ⟨rfl,?_,hb⟩
   have e1:=HT.out
   rw [List.take_of_length_le (by rw [HZ.out];exact Nat.le_refl _),List.take_of_length_le (by simp [markF])] at e1
   rw [←e1]
   exact hown
set_option maxHeartbeats 1000000 in
theorem laws_heldFloat32S (ad:Option Addr) (cap n:Nat) (xs:List Nat) (k0:Nat) (w:World) (hn:n≤1048576) (hk0:k0≤100000000) (h:F32s w ad cap xs) (hx:xs=markF k0 n) :
  Calls Tryz.prog 19 #[.slice ad n cap,.int .i64 k0] w fun e w'=>e=.returned (.int .i64 (k0+n:Nat))∧w=w':=by
 have hxl:xs.length=n:=by rw [hx];simp [markF]
 have HX:=I hx;clear hx
 have HL:=I hxl;clear hxl
 go_enter Tryz.func19,Tryz.ntmps19
 go_wp2
 go_loop [1,5] (fun q i => ∃k:Nat,i=.int .i64 k∧q=.int .i64 (k0+k:Nat)∧k≤n) (fun _ i=>n - (intOf i).toNat)
 case atStart=>exact ⟨0,rfl,rfl,Nat.zero_le _⟩
 case round =>
  obtain ⟨k,rfl,rfl,hk⟩:=hrel
  by_cases hlt:k < n
  ·obtain ⟨b,off,rfl,_,hc⟩:=h.spot (k:=k) (by rw [HL.out];exact hlt)
   have hcell:=hc k (by rw [HL.out];exact hlt)
   have e1:xs.getD k 0=floatOfInt .f32 (k0+k:Nat):=by
    rw [HX.out,markF,List.getD_eq_getElem?_getD,List.getElem?_map,List.getElem?_range hlt];rfl
   rw [e1] at hcell
   have ho:FloatKind.f32.format.order (floatOfInt .f32 (k0+k:Nat)) (floatOfInt .f32 (k0+k:Nat))=some .eq:=by rw [order_self,isN_floatOfInt];rfl
   have ec:((k0+k:Nat):Int)=(k0:Int)+k:=by omega
   rw [ec] at hcell ho
   clear e1 ec hc
   go_wp2
   go_round
   case rel=>exact ⟨k+1,by go_num,by go_num,hlt⟩
   case measure=>simp [intOf];omega
  ·have hkn:k=n:=by omega
   go_wp2
   go_ret
   exact ⟨rfl,rfl⟩
structure Touch (lo hi:Nat) (w w':World):Prop where
 os:w'.os=w.os
 tape:w'.tape=w.tape
 output:w'.output=w.output
 size:w.heap.size≤w'.heap.size
 block:∀k,k < w.heap.size→(k < lo∨hi≤k)→w'.heap[k]? = w.heap[k]?
theorem Touch.of_grown {w w':World} {e:TypeId} {size lo hi:Nat} {v:Value} {n:Nat} {cs:List Value} (h:Row w e size lo hi v n cs) (hg:w.grownBy w' v.ownBlock):Touch lo hi w w' :=
 ⟨hg.os,hg.tape,hg.output,hg.size,fun k hk hd=>hg.block k hk fun e3=>by have h3:=(h.own.lt k e3.symm).1;have h4:=h.top k e3.symm;omega⟩
theorem Touch.of_below {lo hi:Nat} {w w':World} (h:Below w.heap.size w w'):Touch lo hi w w':=⟨h.os,h.tape,h.output,h.size,fun k hk _=>h.block k hk⟩
theorem Touch.refl (lo hi:Nat) (w:World):Touch lo hi w w:=⟨rfl,rfl,rfl,Nat.le_refl _,fun _ _ _=>rfl⟩
theorem Touch.trans {lo hi:Nat} {a b c:World} (h:Touch lo hi a b) (k:Touch lo hi b c):Touch lo hi a c :=
 ⟨k.os.trans h.os,k.tape.trans h.tape,k.output.trans h.output,Nat.le_trans h.size k.size,fun i hi hd=>(k.block i (Nat.lt_of_lt_of_le hi h.size) hd).trans (h.block i hi hd)⟩
theorem Touch.mono {lo hi lo' hi':Nat} {a b:World} (h:Touch lo hi a b) (h1:lo'≤lo) (h2:hi≤hi'):Touch lo' hi' a b:=⟨h.os,h.tape,h.output,h.size,fun k hk hd=>h.block k hk (by omega)⟩
theorem touch_below {w0 w w':World} {lo hi:Nat} (hb:Below w0.heap.size w0 w) (ht:Touch lo hi w w') (hl:w0.heap.size≤lo):Below w0.heap.size w0 w' :=
 hb.trans ⟨ht.os,ht.tape,ht.output,ht.size,fun k hk=>ht.block k (Nat.lt_of_lt_of_le hk hb.size) (.inl (by omega))⟩
theorem Row.touch {w w':World} {e:TypeId} {size lo hi lo2 hi2:Nat} {v:Value} {n:Nat} {cs:List Value} (h:Row w e size lo hi v n cs) (ht:Touch lo2 hi2 w w') (hd:hi≤lo2∨hi2≤lo):Row w' e size lo hi v n cs:=by
 refine ⟨⟨h.own.1,?_⟩,h.top⟩
 rcases h.own.2 with h2 | ⟨g,cap,cur,hv,hg,hh,r⟩
 ·exact .inl h2
 ·have h4:=h.top g (by rw [hv];rfl)
  exact .inr ⟨g,cap,cur,hv,hg,by rw [ht.block g (Array.getElem?_eq_some_iff.1 hh).1 (by omega)];exact hh,r⟩
theorem Row.bounds {w:World} {e:TypeId} {size lo hi lo' hi':Nat} {v:Value} {n:Nat} {cs:List Value} (h:Row w e size lo hi v n cs) (h1:lo'≤lo) (h2:hi≤hi'):Row w e size lo' hi' v n cs :=
 ⟨Joins.ownsRow_le h.own h1,fun k hk=>Nat.lt_of_lt_of_le (h.top k hk) h2⟩
structure RepF (w:World) (lo hi:Nat) (ad:Option Addr) (n cap:Nat) (xs:List Nat):Prop where
 row:Row w 28 1 lo hi (.slice ad n cap) n (xs.map (Value.float .f32))
 len:xs.length=n
 lt:∀x∈xs,x < 4294967296
theorem RepF.arg {w:World} {lo hi:Nat} {ad:Option Addr} {n cap:Nat} {xs:List Nat} (h:RepF w lo hi ad n cap xs):F32s w ad cap xs:=(F32s.of_owns h.row.own h.lt).2
theorem RepF.below {w w':World} {lo hi:Nat} {ad:Option Addr} {n cap:Nat} {xs:List Nat} (h:RepF w lo hi ad n cap xs) (hb:Below w.heap.size w w'):RepF w' lo hi ad n cap xs:=⟨h.row.below hb,h.len,h.lt⟩
theorem RepF.touch {w w':World} {lo hi lo2 hi2:Nat} {ad:Option Addr} {n cap:Nat} {xs:List Nat} (h:RepF w lo hi ad n cap xs) (ht:Touch lo2 hi2 w w') (hd:hi≤lo2∨hi2≤lo):RepF w' lo hi ad n cap xs:=⟨h.row.touch ht hd,h.len,h.lt⟩
theorem RepF.bounds {w:World} {lo hi lo' hi':Nat} {ad:Option Addr} {n cap:Nat} {xs:List Nat} (h:RepF w lo hi ad n cap xs) (h1:lo'≤lo) (h2:hi≤hi'):RepF w lo' hi' ad n cap xs:=⟨h.row.bounds h1 h2,h.len,h.lt⟩
theorem RepF.nil (w:World) (lo hi:Nat):RepF w lo hi none 0 0 []:=⟨Row.nil _ _ _ _,rfl,fun x hx=>nomatch hx⟩
theorem RepF.of_owns {w:World} {lo:Nat} {v:Value} {n:Nat} {xs:List Nat} (h:w.ownsRow lo 28 1 v n (xs.map (Value.float .f32))) (hx:∀x∈xs,x < 4294967296):∃ad cap,v=.slice ad n cap∧RepF w lo w.heap.size ad n cap xs:=by
 obtain ⟨ad,cap,rfl,_⟩:=Rd.of_owns h
 exact ⟨ad,cap,rfl,Row.mk' h,by have:=h.1;simpa using this,hx⟩
theorem F_to (w:World) (ad:Option Addr) (cap:Nat) (xs:List Nat) (h:F32s w ad cap xs) (hn:xs.length≤1048576) :
  Calls Tryz.prog 32 #[.slice ad xs.length cap] w fun e w' => ∃ad' cap',e=.returned (.slice ad' xs.length cap')∧RepF w' w.heap.size w'.heap.size ad' xs.length cap' xs∧Below w.heap.size w w' :=
 (laws_toFloat32S ad cap xs w h hn).mono fun e w' ⟨he,ho,hb⟩=>⟨_,_,he,⟨Row.mk' ho,rfl,h.lt⟩,hb⟩
theorem F_mark (w:World) {lo hi:Nat} {ad:Option Addr} {n cap:Nat} {xs:List Nat} (k0:Nat) (h:RepF w lo hi ad n cap xs) (hn:n≤1048576) (hk:k0≤100000000) :
  Calls Tryz.prog 18 #[.slice ad n cap,.int .i64 k0] w fun e w'=>e=.returned (.int .i64 (k0+n:Nat))∧RepF w' lo hi ad n cap (markF k0 n)∧Touch lo hi w w' :=
 (laws_markFloat32S lo ad cap n _ k0 w hn hk h.row.own).mono fun e w' ⟨he,ho,hg⟩=>⟨he,⟨⟨ho,h.row.top⟩,markF_length _ _,markF_lt _ _⟩,Touch.of_grown h.row hg⟩
structure RepI (w:World) (lo hi:Nat) (ad:Option Addr) (n cap:Nat) (xs:List Int):Prop where
 row:Row w 2 1 lo hi (.slice ad n cap) n (xs.map (Value.int .i64))
 len:xs.length=n
 lt:∀x∈xs,(Lit.int .i64 x).wf=true
theorem RepI.arg {w:World} {lo hi:Nat} {ad:Option Addr} {n cap:Nat} {xs:List Int} (h:RepI w lo hi ad n cap xs):Ints .i64 w ad cap xs:=(Ints.of_owns h.row.own h.lt).2
def listOf (n:Nat) (f:Nat→Nat):List Nat:=(List.range n).map f
theorem listOf_succ (k:Nat) (f:Nat→Nat):listOf (k+1) f=listOf k f ++ [f k]:=by simp [listOf,List.range_succ]
theorem listOf_length (n:Nat) (f:Nat→Nat):(listOf n f).length=n:=by simp [listOf]
theorem listOf_getD {n k:Nat} (f:Nat→Nat) (h:k < n):(listOf n f).getD k 0=f k:=by simp [listOf,h]
theorem listOf_congr {n:Nat} {f g:Nat→Nat} (h:∀i,i < n→f i=g i):listOf n f=listOf n g:=List.map_congr_left fun i hi=>h i (List.mem_range.1 hi)
theorem cn_zero:cn .f32 0=0:=by decide +kernel
theorem cn_getD (xs:List Nat) (k:Nat):(xs.map (cn .f32)).getD k 0=cn .f32 (xs.getD k 0):=by
 simp only [List.getD_eq_getElem?_getD,List.getElem?_map]
 cases xs[k]? with
 | none=>simp [cn_zero]
 | some x=>rfl
theorem cn_at {xs:List Nat} {n k:Nat} {f:Nat→Nat} (h:xs.map (cn .f32)=listOf n f) (hk:k < n):cn .f32 (xs.getD k 0)=f k:=by
 rw [←cn_getD,h,listOf_getD f hk]
theorem Dr.drewN {w w':World} (h:Dr w w') (n:Nat):Dr w (w'.drewN n):=by
 obtain ⟨m,rfl⟩:=h
 exact ⟨m+n,by simp [World.drewN,Nat.add_assoc]⟩
def dotS (X Y:List Nat):Nat→Nat
 | 0=>0
 | k+1=>fop .add .f32 (dotS X Y k) (fop .mul .f32 (X.getD k 0) (Y.getD k 0))
def sumS (X:List Nat):Nat→Nat
 | 0=>0
 | k+1=>fop .add .f32 (sumS X k) (X.getD k 0)
def both (n m:Nat):Bool:=decide (1≤n) && decide (n≤256) && decide (n=m)
set_option maxHeartbeats 1000000 in
theorem impl_dot (w:World) (a1:Option Addr) (c1:Nat) (xs:List Nat) (h1:F32s w a1 c1 xs) (a2:Option Addr) (c2:Nat) (ys:List Nat) (h2:F32s w a2 c2 ys) (hl:xs.length=ys.length) :
  Calls Tryz.prog 138 #[.slice a1 xs.length c1,.slice a2 ys.length c2] w fun e w' => ∃r,e=.returned (.float .f32 r)∧Hid (cn .f32 r=dotS (xs.map (cn .f32)) (ys.map (cn .f32)) xs.length∧r < 4294967296)∧Dr w w':=by
 obtain ⟨X,hX⟩:∃X,X=xs.map (cn .f32):=⟨_,rfl⟩
 obtain ⟨Y,hY⟩:∃X,X=ys.map (cn .f32):=⟨_,rfl⟩
 rw [←hX,←hY]
 have hm:=Nat.le_trans h1.len h1.cap
 unfold maxLen at hm
 obtain ⟨n,e1⟩:∃n,n=xs.length:=⟨_,rfl⟩
 have e2:n=ys.length:=e1.trans hl
 rw [←e1] at hm
 rw [←e1,←e2]
 have E1:=I e1;have E2:=I e2;have HX:=I hX;have HY:=I hY
 clear e1 e2 hl hX hY
 go_enter Tryz.func138,Tryz.ntmps138
 go_wp2
 go_loopw [5,9] (fun v i wr => ∃k:Nat,i=.int .i64 k∧k≤n∧∃s:Nat,v=.float .f32 s∧s < 4294967296∧cn .f32 s=dotS X Y k∧Dr w wr) (fun _ i _=>n - (intOf i).toNat)
 case atStart=>exact ⟨0,rfl,Nat.zero_le _,0,rfl,by decide,cn_zero,Dr.refl _⟩
 case round =>
  obtain ⟨k,rfl,hk,s,rfl,hsl,hs,hdr⟩:=hrel
  have h1:=h1.below hdr.below
  have h2:=h2.below hdr.below
  have HS:=I hs;have HD:=I hdr;clear hs hdr
  by_cases hlt:k < n
  ·have hk1:k < xs.length:=by rw [←E1.out];exact hlt
   have hk2:k < ys.length:=by rw [←E2.out];exact hlt
   obtain ⟨bx,offx,rfl,_,hqx⟩:=F32s.spot h1 (k:=k) hk1
   have hcx:=hqx k hk1
   obtain ⟨x,px⟩:∃x,x=xs.getD k 0:=⟨_,rfl⟩
   rw [←px] at hcx
   have Px:=I px;clear px hqx
   obtain ⟨bu,offu,rfl,_,hqu⟩:=F32s.spot h2 (k:=k) hk2
   have hcy:=hqu k hk2
   obtain ⟨u,pu⟩:∃x,x=ys.getD k 0:=⟨_,rfl⟩
   rw [←pu] at hcy
   have Pu:=I pu;clear pu hqu
   clear h1 h2
   go_wp2
   refine wp_region_drawn (fun f args v=>False) (by kernel_rfl) (by kernel_rfl) ?_
   repeat (refine wset_step (fun K hK nq=>?_);go_simp;refine hK _ ?_;clear hK K)
   refine wset_nil ?_
   rintro w' ⟨q,rfl⟩
   go_wp2
   go_roundw
   case rel=>exact ⟨k+1,by go_num,hlt,_,rfl,fbits_lt _ .f32 _ _ _,by rw [cn_fbits,cn_fbits,HS.out,Px.out,Pu.out,←cn_getD,←cn_getD,←HX.out,←HY.out];rfl,HD.out.drewN _⟩
   case measure=>simp [intOf];omega
  ·have hkn:k=n:=by omega
   subst hkn
   go_wp2
   go_ret
   exact ⟨_,rfl,I ⟨HS.out,hsl⟩,HD.out⟩
set_option maxHeartbeats 1000000 in
theorem impl_sumOf (w:World) (a1:Option Addr) (c1:Nat) (xs:List Nat) (h1:F32s w a1 c1 xs) :
  Calls Tryz.prog 124 #[.slice a1 xs.length c1] w fun e w' => ∃r,e=.returned (.float .f32 r)∧Hid (cn .f32 r=sumS (xs.map (cn .f32)) xs.length∧r < 4294967296)∧Dr w w':=by
 obtain ⟨X,hX⟩:∃X,X=xs.map (cn .f32):=⟨_,rfl⟩
 rw [←hX]
 have hm:=Nat.le_trans h1.len h1.cap
 unfold maxLen at hm
 obtain ⟨n,e1⟩:∃n,n=xs.length:=⟨_,rfl⟩
 rw [←e1] at hm
 rw [←e1]
 have E1:=I e1;have HX:=I hX
 clear e1 hX
 go_enter Tryz.func124,Tryz.ntmps124
 go_wp2
 go_loopw [3,8] (fun v i wr => ∃k:Nat,i=.int .i64 k∧k≤n∧∃s:Nat,v=.float .f32 s∧s < 4294967296∧cn .f32 s=sumS X k∧Dr w wr) (fun _ i _=>n - (intOf i).toNat)
 case atStart=>exact ⟨0,rfl,Nat.zero_le _,0,rfl,by decide,cn_zero,Dr.refl _⟩
 case round =>
  obtain ⟨k,rfl,hk,s,rfl,hsl,hs,hdr⟩:=hrel
  have h1:=h1.below hdr.below
  have HS:=I hs;have HD:=I hdr;clear hs hdr
  by_cases hlt:k < n
  ·have hk1:k < xs.length:=by rw [←E1.out];exact hlt
   obtain ⟨bx,offx,rfl,_,hqx⟩:=F32s.spot h1 (k:=k) hk1
   have hcx:=hqx k hk1
   obtain ⟨x,px⟩:∃x,x=xs.getD k 0:=⟨_,rfl⟩
   rw [←px] at hcx
   have Px:=I px;clear px hqx
   clear h1
   go_wp2
   go_roundw
   case rel=>exact ⟨k+1,by go_num,hlt,_,rfl,fbits_lt _ .f32 _ _ _,by rw [cn_fbits,HS.out,Px.out,←cn_getD,←HX.out];rfl,HD.out.drewN _⟩
   case measure=>simp [intOf];omega
  ·have hkn:k=n:=by omega
   subst hkn
   go_wp2
   go_ret
   exact ⟨_,rfl,I ⟨HS.out,hsl⟩,HD.out⟩
set_option maxHeartbeats 1000000 in
theorem spec_l01Sum (w:World) (a1:Option Addr) (c1:Nat) (xs:List Nat) (h1:F32s w a1 c1 xs) :
  Calls Tryz.prog 113 #[.slice a1 xs.length c1] w fun e w' => ∃r,e=.returned (.float .f32 r)∧Hid (cn .f32 r=sumS (xs.map (cn .f32)) xs.length∧r < 4294967296)∧Dr w w':=by
 obtain ⟨X,hX⟩:∃X,X=xs.map (cn .f32):=⟨_,rfl⟩
 rw [←hX]
 have hm:=Nat.le_trans h1.len h1.cap
 unfold maxLen at hm
 obtain ⟨n,e1⟩:∃n,n=xs.length:=⟨_,rfl⟩
 rw [←e1] at hm
 rw [←e1]
 have E1:=I e1;have HX:=I hX
 clear e1 hX
 go_enter Tryz.func113,Tryz.ntmps113
 go_wp2
 go_loopw [3,4] (fun v i wr => ∃k:Nat,i=.int .i64 k∧k≤n∧∃s:Nat,v=.float .f32 s∧s < 4294967296∧cn .f32 s=sumS X k∧Dr w wr) (fun _ i _=>n - (intOf i).toNat)
 case atStart=>exact ⟨0,rfl,Nat.zero_le _,0,rfl,by decide,cn_zero,Dr.refl _⟩
 case round =>
  obtain ⟨k,rfl,hk,s,rfl,hsl,hs,hdr⟩:=hrel
  have h1:=h1.below hdr.below
  have HS:=I hs;have HD:=I hdr;clear hs hdr
  by_cases hlt:k < n
  ·have hk1:k < xs.length:=by rw [←E1.out];exact hlt
   obtain ⟨bx,offx,rfl,_,hqx⟩:=F32s.spot h1 (k:=k) hk1
   have hcx:=hqx k hk1
   obtain ⟨x,px⟩:∃x,x=xs.getD k 0:=⟨_,rfl⟩
   rw [←px] at hcx
   have Px:=I px;clear px hqx
   clear h1
   go_wp2
   go_roundw
   case rel=>exact ⟨k+1,by go_num,hlt,_,rfl,fbits_lt _ .f32 _ _ _,by rw [cn_fbits,HS.out,Px.out,←cn_getD,←HX.out];rfl,HD.out.drewN _⟩
   case measure=>simp [intOf];omega
  ·have hkn:k=n:=by omega
   subst hkn
   go_wp2
   go_ret
   exact ⟨_,rfl,I ⟨HS.out,hsl⟩,HD.out⟩
theorem RepF.open {w:World} {lo hi:Nat} {ad:Option Addr} {n cap:Nat} {zs:List Nat} (h:RepF w lo hi ad n cap zs) (hp:0 < n) :
  ∃g,ad=some ⟨g,0,none⟩∧lo≤g∧(∀k,k < n→w.cell? ⟨g,k,none⟩=some (.float .f32 (zs.getD k 0)))∧(∀k,w.frozen? ⟨g,k,none⟩=false) ∧
   (∀k y,y < 4294967296→RepF (w.setCell ⟨g,k,none⟩ (.float .f32 y)) lo hi (some ⟨g,0,none⟩) n cap (zs.set k y)):=by
 obtain ⟨hrow,hlen,hlt⟩:=h
 obtain ⟨g,cap',hform⟩:=Joins.ownsRow_form hrow.own hp
 have had:ad=some ⟨g,0,none⟩:=by cases hform;rfl
 clear hform
 subst had
 refine ⟨g,rfl,(hrow.own.lt g rfl).1,fun k hk=>?_,fun k=>hrow.own.frozenAt k,fun k y hy=>⟨⟨?_,?_⟩,?_,?_⟩⟩
 ·rw [hrow.own.cellAt k (by omega),List.getElem?_map,List.getD_eq_getElem?_getD,List.getElem?_eq_getElem (by omega)];rfl
 ·rw [List.map_set];exact (hrow.own.stored k (.float .f32 y)).1
 ·exact hrow.top
 ·rw [List.length_set];exact hlen
 ·intro x hx
  rcases List.mem_or_eq_of_mem_set hx with hx | rfl
  ·exact hlt x hx
  ·exact hy
theorem RepF.setAt {w:World} {lo hi g n cap:Nat} {zs:List Nat} (h:RepF w lo hi (some ⟨g,0,none⟩) n cap zs) (k y:Nat) (hy:y < 4294967296) (hp:0 < n):RepF (w.setCell ⟨g,k,none⟩ (.float .f32 y)) lo hi (some ⟨g,0,none⟩) n cap (zs.set k y):=by
 obtain ⟨g',hg,_,_,_,hs⟩:=h.open hp
 obtain rfl:g=g':=by simpa using hg
 exact hs k y hy
end
section
open Go Ieee
def nval (f:Format) (r:Nat):Nat:=if r < f.binade then r else (f.binade+r % f.binade) * 2 ^ (r / f.binade - 1)
theorem nval_succ (f:Format) (r:Nat):nval f r < nval f (r+1):=by
 have hb:0 < f.binade:=Nat.two_pow_pos _
 unfold nval
 by_cases h1:r+1 < f.binade
 ·rw [if_pos (by omega),if_pos h1];omega
 ·rw [if_neg h1]
  by_cases h2:r < f.binade
  ·rw [if_pos h2]
   have e:r+1=f.binade:=by omega
   rw [e,Nat.mod_self,Nat.div_self hb]
   simp;omega
  ·rw [if_neg h2]
   have hd:=Nat.div_add_mod r f.binade
   have hm:=Nat.mod_lt r hb
   have hq:1≤r / f.binade:=(Nat.le_div_iff_mul_le hb).2 (by omega)
   by_cases h3:r % f.binade+1 < f.binade
   ·have e1:(r+1) / f.binade=r / f.binade:=by
     rw [Nat.div_eq_iff (by omega)]
     have:r / f.binade * f.binade=f.binade * (r / f.binade):=Nat.mul_comm _ _
     constructor <;> omega
    have e2:(r+1) % f.binade=r % f.binade+1:=by
     have:=Nat.div_add_mod (r+1) f.binade
     rw [e1] at this;omega
    rw [e1,e2]
    exact Nat.mul_lt_mul_of_pos_right (by omega) (Nat.two_pow_pos _)
   ·have e0:r % f.binade=f.binade - 1:=by omega
    have e1:(r+1) / f.binade=r / f.binade+1:=by
     rw [Nat.div_eq_iff (by omega),Nat.add_mul]
     have:r / f.binade * f.binade=f.binade * (r / f.binade):=Nat.mul_comm _ _
     constructor <;> omega
    have e2:(r+1) % f.binade=0:=by
     have:=Nat.div_add_mod (r+1) f.binade
     rw [e1,Nat.mul_add] at this;omega
    rw [e1,e2,e0,show r / f.binade+1 - 1=(r / f.binade - 1)+1 by omega,Nat.pow_succ]
    have hp:=Nat.two_pow_pos (r / f.binade - 1)
    rw [Nat.add_zero,Nat.mul_comm (2 ^ (r / f.binade - 1)) 2,←Nat.mul_assoc]
    exact Nat.mul_lt_mul_of_pos_right (by omega) hp
theorem nval_lt {f:Format} {x y:Nat} (h:x < y):nval f x < nval f y:=by
 induction y with
 | zero=>omega
 | succ y ih =>
  by_cases e:x=y
  ·subst e;exact nval_succ f x
  ·exact Nat.lt_trans (ih (by omega)) (nval_succ f y)
theorem nval_lt_iff {f:Format} {x y:Nat}:nval f x < nval f y ↔ x < y:=by
 constructor
 ·intro h
  rcases Nat.lt_trichotomy x y with h1 | h1 | h1
  ·exact h1
  ·subst h1;omega
  ·have:=nval_lt (f:=f) h1;omega
 ·exact nval_lt
theorem nval_inj {f:Format} {x y:Nat} (h:nval f x=nval f y):x=y:=by
 rcases Nat.lt_trichotomy x y with h1 | h1 | h1
 ·have:=nval_lt (f:=f) h1;omega
 ·exact h1
 ·have:=nval_lt (f:=f) h1;omega
theorem nval_zero (f:Format):nval f 0=0:=by unfold nval;rw [if_pos (show 0 < f.binade from Nat.two_pow_pos _)]
theorem read_fin (f:Format) (neg:Bool) {r:Nat} (h:r < f.infRung):∃m p,f.read (f.word neg r)=.number neg m p∧f.leastPlace≤p∧m <<< (p - f.leastPlace).toNat=nval f r:=by
 rw [read_word f neg (Nat.lt_trans h f.infRung_lt)]
 unfold nval
 by_cases h1:r < f.binade
 ·rw [if_pos h1,if_pos h1]
  exact ⟨r,f.leastPlace,rfl,Int.le_refl _,by simp⟩
 ·rw [if_neg h1,if_pos h,if_neg h1]
  refine ⟨_,_,rfl,by omega,?_⟩
  rw [Nat.shiftLeft_eq]
  congr 2
  omega
theorem read_inf (f:Format) (hb:f.binade≤f.infRung) (neg:Bool):f.read (f.word neg f.infRung)=.infinity neg:=by
 rw [read_word f neg f.infRung_lt,if_neg (by omega),if_neg (by omega),if_pos rfl]
theorem signed_scale (s:Bool) (m k:Nat) (d:Nat):signed s m (k+d)=signed s m k * (2 ^ d:Nat):=by
 unfold signed
 simp only [Nat.shiftLeft_eq,Nat.pow_add]
 split <;> simp [←Nat.mul_assoc,Int.neg_mul]
theorem signed_eq (s:Bool) (m k:Nat):signed s m k=if s=true then -((m <<< k:Nat):Int) else ((m <<< k:Nat):Int):=by
 unfold signed;cases s <;> simp
theorem compare_scale (a b:Int) (d:Nat):compare (a * (2 ^ d:Nat)) (b * (2 ^ d:Nat))=compare a b:=by
 have hp:(0:Int) < ((2 ^ d:Nat):Int):=by exact_mod_cast Nat.two_pow_pos d
 simp only [compare,compareOfLessAndEq]
 have h1:a * ((2 ^ d:Nat):Int) < b * ((2 ^ d:Nat):Int) ↔ a < b:=⟨fun h=>Int.lt_of_mul_lt_mul_right h (Int.le_of_lt hp),fun h=>Int.mul_lt_mul_of_pos_right h hp⟩
 have h2:a * ((2 ^ d:Nat):Int)=b * ((2 ^ d:Nat):Int) ↔ a=b:=⟨fun h=>Int.eq_of_mul_eq_mul_right (by omega) h,fun h=>by rw [h]⟩
 simp only [h1,h2]
theorem order_numbers {s t:Bool} {m n:Nat} {p q l:Int} (hp:l≤p) (hq:l≤q) :
  (Datum.number s m p).order (.number t n q)=some (compare (signed s m (p - l).toNat) (signed t n (q - l).toNat)):=by
 simp only [Datum.order]
 congr 1
 have hb:l≤min p q:=by omega
 have e1:(p - l).toNat=(p - min p q).toNat+(min p q - l).toNat:=by omega
 have e2:(q - l).toNat=(q - min p q).toNat+(min p q - l).toNat:=by omega
 rw [e1,e2,signed_scale,signed_scale,compare_scale]
def sval (f:Format) (neg:Bool) (r:Nat):Int:=if neg=true then -(nval f r:Int) else (nval f r:Int)
theorem order_fin (f:Format) (s t:Bool) {x y:Nat} (hx:x < f.infRung) (hy:y < f.infRung):f.order (f.word s x) (f.word t y)=some (compare (sval f s x) (sval f t y)):=by
 obtain ⟨m,p,e1,e2,e3⟩:=read_fin f s hx
 obtain ⟨n,q,e4,e5,e6⟩:=read_fin f t hy
 unfold Format.order
 rw [e1,e4,order_numbers e2 e5,signed_eq,signed_eq,e3,e6]
 rfl
theorem compare_nat (a b:Nat):compare (a:Int) (b:Int)=compare a b:=by
 simp only [compare,compareOfLessAndEq,Int.ofNat_lt,Int.natCast_inj]
theorem order_pos (f:Format) {x y:Nat} (hx:x < f.infRung) (hy:y < f.infRung):f.order x y=some (compare x y):=by
 have:=order_fin f false false hx hy
 have e1:f.word false x=x:=rfl
 have e2:f.word false y=y:=rfl
 rw [e1,e2] at this
 rw [this]
 simp only [sval,Bool.false_eq_true,if_false]
 rw [compare_nat]
 congr 1
 have h1:(nval f x < nval f y)=(x < y):=propext nval_lt_iff
 have h2:(nval f x=nval f y)=(x=y):=propext ⟨nval_inj,fun e=>by rw [e]⟩
 show compareOfLessAndEq _ _ = compareOfLessAndEq _ _
 unfold compareOfLessAndEq
 simp only [h1,h2]
/-! the greater and the less of two numbers -/
def maxF (k:FloatKind) (x y:Nat):Option Nat:=match k.format.order x y with
 | none=>none
 | some .lt=>some y
 | some .gt=>some x
 | some .eq=>some (if (k.decode x).neg=true then y else x)
def minF (k:FloatKind) (x y:Nat):Option Nat:=match k.format.order x y with
 | none=>none
 | some .lt=>some x
 | some .gt=>some y
 | some .eq=>some (if (k.decode x).neg=true then x else y)
theorem run_max_f {P:Program} (w:World) (A:Array TypeId) (T:TypeId) (k:FloatKind) (x y z:Nat) (h:maxF k x y=some z):(Builtin.max_ A T #[.float k x,.float k y]).run P w=.ok (.float k z) w:=by
 unfold maxF at h
 cases ho:k.format.order x y with
 | none=>rw [ho] at h;cases h
 | some c=>cases c <;> (rw [ho] at h;simp only [Option.some.injEq] at h;subst h;simp [Builtin.max_,Builtin.max2,ho])
theorem run_min_f {P:Program} (w:World) (A:Array TypeId) (T:TypeId) (k:FloatKind) (x y z:Nat) (h:minF k x y=some z):(Builtin.min_ A T #[.float k x,.float k y]).run P w=.ok (.float k z) w:=by
 unfold minF at h
 cases ho:k.format.order x y with
 | none=>rw [ho] at h;cases h
 | some c=>cases c <;> (rw [ho] at h;simp only [Option.some.injEq] at h;subst h;simp [Builtin.min_,Builtin.min2,ho])
theorem neg_word (f:Format) (neg:Bool) {r:Nat} (h:r≤f.infRung):(f.read (f.word neg r)).neg=neg:=by
 rw [read_word f neg (Nat.lt_of_le_of_lt h f.infRung_lt)]
 split
 ·rfl
 ·split
  ·rfl
  ·rw [if_pos (by omega)];rfl
theorem nearest_word (f:Format) (neg:Bool) (m:Nat) (p:Int):∃r,f.nearest neg m p=f.word neg r∧r≤f.infRung:=by
 unfold Format.nearest
 split
 ·exact ⟨0,rfl,Nat.zero_le _⟩
 ·exact ⟨_,rfl,Nat.min_le_right ..⟩
theorem word_of (f:Format) {x:Nat} (h:x < 2 * f.signWeight):∃neg r,x=f.word neg r∧r < f.signWeight:=by
 by_cases hx:x < f.signWeight
 ·exact ⟨false,x,rfl,hx⟩
 ·exact ⟨true,x - f.signWeight,by unfold Format.word;simp;omega,by omega⟩
theorem nan_word (f:Format) (hb:f.binade≤f.infRung) (neg:Bool) {r:Nat} (h1:f.infRung < r) (h2:r < f.signWeight):(f.read (f.word neg r)).isNaN=true:=read_high f hb neg r h1 h2
theorem single_binade:single.binade≤single.infRung:=by decide +kernel
theorem between {s a b:Nat} (hs:s < 4294967296) (ha:0 < a) (ha2:a < single.infRung) (hb2:b < single.infRung)
  (h1:single.order s a=some .gt∨single.order s a=some .eq) (h2:single.order s b=some .lt∨single.order s b=some .eq):a≤s∧s≤b:=by
 obtain ⟨neg,r,rfl,hr⟩:=word_of single (x:=s) (by have:single.signWeight=2147483648:=by decide +kernel
                                                  omega)
 by_cases hfin:r < single.infRung
 ·cases neg
  ·have e:single.word false r=r:=rfl
   rw [e] at h1 h2 ⊢
   rw [order_pos single hfin ha2] at h1
   rw [order_pos single hfin hb2] at h2
   constructor
   ·rcases h1 with h1 | h1
    ·have:=Nat.compare_eq_gt.1 (Option.some.inj h1);omega
    ·have:=Nat.compare_eq_eq.1 (Option.some.inj h1);omega
   ·rcases h2 with h2 | h2
    ·have:=Nat.compare_eq_lt.1 (Option.some.inj h2);omega
    ·have:=Nat.compare_eq_eq.1 (Option.some.inj h2);omega
  ·exfalso
   have:=order_fin single true false hfin ha2
   have e:single.word false a=a:=rfl
   rw [e] at this
   rw [this] at h1
   simp only [sval,if_true,Bool.false_eq_true,if_false] at h1
   have hp:0 < nval single a:=by have:=nval_lt (f:=single) ha;rw [nval_zero] at this;exact this
   have hlt : -(nval single r:Int) < (nval single a:Int):=by omega
   rw [show compare (-(nval single r:Int)) (nval single a:Int)=.lt from by simp [compare,compareOfLessAndEq,hlt]] at h1
   rcases h1 with h1 | h1 <;> cases h1
 ·by_cases hinf:r=single.infRung
  ·subst hinf
   have e1:=read_inf single single_binade neg
   obtain ⟨m,p,e2,_⟩:=read_fin single false ha2
   obtain ⟨m',p',e3,_⟩:=read_fin single false hb2
   have e4:single.word false a=a:=rfl
   have e5:single.word false b=b:=rfl
   rw [e4] at e2;rw [e5] at e3
   unfold Format.order at h1 h2
   rw [e1,e2] at h1
   rw [e1,e3] at h2
   cases neg
   ·simp [Datum.order] at h2
   ·simp [Datum.order] at h1
  ·exfalso
   have:=nan_word single single_binade neg (by omega) hr
   have hn:isN .f32 (single.word neg r)=true:=this
   rw [show single.order (single.word neg r) a=none from order_none (k:=.f32) (.inl hn)] at h1
   rcases h1 with h1 | h1 <;> cases h1
theorem half_pos {s:Nat} (h0:0 < s) (h1:s < single.infRung):∃r,floatBits .quo .f32 s 1073741824=some r∧(single.read r).neg=false∧isN .f32 r=false:=by
 obtain ⟨m,p,e1,_,e3⟩:=read_fin single false h1
 have e0:single.word false s=s:=rfl
 rw [e0] at e1
 have e2:single.read 1073741824=.number false 8388608 (-22):=by decide +kernel
 have hm:m≠0:=by
  intro e;subst e
  have:=nval_lt (f:=single) h0
  rw [nval_zero,←e3] at this;simp at this
 have:∃m' p',floatBits .quo .f32 s 1073741824=some (single.nearest false m' p'):=by
  show ∃m' p',((single.read s).quotient (single.fractionBits+2) (single.read 1073741824)).map single.write=some _
  rw [e1,e2]
  exact ⟨_,_,rfl⟩
 obtain ⟨m',p',e⟩:=this
 obtain ⟨r,hr,hle⟩:=nearest_word single false m' p'
 exact ⟨_,e,by rw [hr];exact neg_word single false hle,nearest_not single false m' p'⟩
theorem twice_pos {s:Nat} (h0:0 < s) (h1:s < single.infRung):∃r,floatBits .mul .f32 1073741824 s=some r∧floatBits .mul .f32 s 1073741824=some r∧r≤single.infRung:=by
 obtain ⟨m,p,e1,_,e3⟩:=read_fin single false h1
 have e0:single.word false s=s:=rfl
 rw [e0] at e1
 have e2:single.read 1073741824=.number false 8388608 (-22):=by decide +kernel
 have h3:floatBits .mul .f32 1073741824 s=some (single.nearest false (8388608 * m) (-22+p)):=by
  show ((single.read 1073741824).product (single.read s)).map single.write=some _
  rw [e1,e2];rfl
 have h4:floatBits .mul .f32 s 1073741824=some (single.nearest false (8388608 * m) (-22+p)):=by
  show ((single.read s).product (single.read 1073741824)).map single.write=some _
  rw [e1,e2,Nat.mul_comm 8388608 m,Int.add_comm (-22) p];rfl
 obtain ⟨r,hr,hle⟩:=nearest_word single false (8388608 * m) (-22+p)
 rw [hr] at h3 h4
 exact ⟨_,h3,h4,hle⟩
theorem eq_of_order {x y:Nat} (hx:x≤single.infRung) (hy:y < single.infRung) (h:single.order x y=some .eq):x=y:=by
 by_cases hfin:x < single.infRung
 ·rw [order_pos single hfin hy] at h
  exact Nat.compare_eq_eq.1 (Option.some.inj h)
 ·exfalso
  obtain rfl:x=single.infRung:=by omega
  have e1:=read_inf single single_binade false
  obtain ⟨m,p,e2,_⟩:=read_fin single false hy
  have e4:single.word false y=y:=rfl
  have e5:single.word false single.infRung=single.infRung:=rfl
  rw [e4] at e2;rw [e5] at e1
  unfold Format.order at h
  rw [e1,e2] at h
  simp [Datum.order] at h
end
section
open Go Go.RowKit Ieee
def finB (x:Nat):Bool:=match single.read x with
 | .number .. => true
 | _=>false
theorem finB_not {x:Nat} (h:finB x=true):isN .f32 x=false:=by
 unfold finB at h
 unfold isN
 show (single.read x).isNaN=false
 cases hd:single.read x with
 | nan s t=>rw [hd] at h;cases h
 | infinity s=>rw [hd] at h;cases h
 | number s m p=>rfl
theorem sub_self_fin {x:Nat} (h:finB x=true):floatBits .sub .f32 x x=some 0:=by
 show ((single.read x).sum (single.read x).opposite).map single.write=some 0
 unfold finB at h
 cases hd:single.read x with
 | nan s t=>rw [hd] at h;cases h
 | infinity s=>rw [hd] at h;cases h
 | number s m p =>
  have hs:∀k,signed s m k+signed (!s) m k=0:=by intro k;unfold signed;cases s <;> simp <;> omega
  simp only [Datum.sum,Datum.opposite,hs,Option.map_some]
  cases s <;> simp [Format.write,Format.nearest,Format.word]
theorem sub_self_not {x:Nat} (h:finB x=false):floatBits .sub .f32 x x=none:=by
 show ((single.read x).sum (single.read x).opposite).map single.write=none
 unfold finB at h
 cases hd:single.read x with
 | nan s t=>rfl
 | infinity s=>cases s <;> rfl
 | number s m p=>rw [hd] at h;cases h
theorem order_sub_self (x:Nat) (w:World):(FloatKind.f32.format.order (fbits .sub .f32 x x w) 0 == some .eq)=finB x:=by
 cases h:finB x
 ·have hn:isN .f32 (fbits .sub .f32 x x w)=true:=by
   unfold fbits
   rw [sub_self_not h]
   exact drawn_nan .f32 x x _
  rw [order_none (.inl hn)];rfl
 ·rw [fbits_some (sub_self_fin h)]
  have:FloatKind.f32.format.order 0 0=some .eq:=by decide +kernel
  rw [this];rfl
theorem impl_IsFinite (x:Nat) (w:World):Calls Tryz.prog 73 #[.float .f32 x] w fun e w'=>e=.returned (.bool (finB x))∧Dr w w':=by
 have h:=fun w=>order_sub_self x w
 go_enter Tryz.func73,Tryz.ntmps73
 go_wp2
 go_ret
 exact ⟨rfl,_,rfl⟩
theorem spec_l01Finite (x:Nat) (w:World):Calls Tryz.prog 58 #[.float .f32 x] w fun e w'=>e=.returned (.bool (finB x))∧Dr w w':=by
 have h:=fun w=>order_sub_self x w
 go_enter Tryz.func58,Tryz.ntmps58
 go_wp2
 go_ret
 exact ⟨rfl,_,rfl⟩
theorem run_f32bits (x:Nat) (w:World):(callFunc 90 #[.float .f32 x]).run Tryz.prog w=.ok (.value (.int .u32 (x:Nat))) w:=by
 rw [run_callFunc_extern (show Tryz.prog.funcs[90]? = some Tryz.f90 by kernel_rfl) (by kernel_rfl) (by kernel_rfl) (by kernel_rfl) (e:=Extern.MathFloatBits.float32bits) (by kernel_rfl)]
 rfl
theorem spec_l01Bits (x:Nat) (hx:x < 4294967296) (w:World):Calls Tryz.prog 130 #[.float .f32 x] w fun e w'=>e=.returned (.int .i64 (cn .f32 x:Nat))∧w=w':=by
 have hd:=run_f32bits
 cases h:isN .f32 x
 ·have ho:FloatKind.f32.format.order x x=some .eq:=by rw [order_self,h];rfl
  rw [cn_not h]
  clear h
  go_enter Tryz.func130,Tryz.ntmps130
  go_wp2
  go_ret
  exact ⟨rfl,rfl⟩
 ·have ho:FloatKind.f32.format.order x x=none:=by rw [order_self,h];rfl
  rw [cn_nan h]
  clear h
  go_enter Tryz.func130,Tryz.ntmps130
  go_wp2
  go_ret
  exact ⟨rfl,rfl⟩
end
section
open Go Ieee

theorem s_sw:single.signWeight=2147483648:=by decide +kernel
theorem s_ir:single.infRung=2139095040:=by decide +kernel
theorem cv_num {k k2:FloatKind} {b:Nat} {s:Bool} {m:Nat} {e:Int} (hd:k.decode b=.number s m e) (hne:k≠k2) (hi:cvWide k b k2=false) (w:World):cvbits k b k2 w=k2.format.nearest s m e:=by
 unfold cvWide at hi
 rw [if_neg hne,hd] at hi
 simp only at hi
 unfold cvbits
 rw [if_neg hne,hd]
 simp only
 rw [hi]
 rfl
end
section
open Go Go.RowKit Ieee
@[go_sem] theorem run_neg_f {P:Program} (w:World) (k:FloatKind) (b:Nat):(Op.unary .neg (.float k b)).run P w=.ok (.float k (Op.negFloat k b)) w:=rfl
theorem word_lt (f:Format) (neg:Bool) {r:Nat} (h:r < f.signWeight):f.word neg r < 2 * f.signWeight:=by
 unfold Format.word;split <;> omega
theorem cv_lt32 {b:Nat} (w:World) (h:cvWide .f64 b .f32=false):cvbits .f64 b .f32 w < 4294967296:=by
 have hk:2 * single.signWeight=4294967296:=by decide +kernel
 cases hd:FloatKind.f64.decode b with
 | nan s t =>
  unfold cvbits
  rw [if_neg (by decide),hd]
  exact drawn_lt .f32 0 0 _
 | infinity s =>
  unfold cvbits
  rw [if_neg (by decide),hd]
  show FloatKind.f32.encode (.infinity s) < _
  cases s <;> decide +kernel
 | number s m e =>
  rw [cv_num (k:=.f64) (k2:=.f32) hd (by decide) h w]
  obtain ⟨q,hq,hle⟩:=nearest_word single s m e
  rw [show FloatKind.f32.format.nearest s m e = _ from hq,←hk]
  exact word_lt single s (Nat.lt_of_le_of_lt hle single.infRung_lt)
theorem wide_nan {b:Nat} (h:isN .f64 b=true):cvWide .f64 b .f32=false:=by
 unfold cvWide
 rw [if_neg (by decide)]
 unfold isN at h
 cases hd:FloatKind.f64.decode b with
 | nan s t=>rfl
 | infinity s=>rfl
 | number s m e=>rw [show FloatKind.f64.format.read b = _ from hd] at h;cases h
end
section
open Go Go.RowKit
theorem run_f64from (x:Int) (w:World):(callFunc 132 #[.int .u64 x]).run Tryz.prog w=.ok (.value (.float .f64 x.toNat)) w:=by
 rw [run_callFunc_extern (show Tryz.prog.funcs[132]? = some Tryz.f132 by kernel_rfl) (by kernel_rfl) (by kernel_rfl) (by kernel_rfl) (e:=Extern.MathFloatBits.float64frombits) (by kernel_rfl)]
 rfl
theorem run_f32from (x:Int) (w:World):(callFunc 91 #[.int .u32 x]).run Tryz.prog w=.ok (.value (.float .f32 x.toNat)) w:=by
 rw [run_callFunc_extern (show Tryz.prog.funcs[91]? = some Tryz.f91 by kernel_rfl) (by kernel_rfl) (by kernel_rfl) (by kernel_rfl) (e:=Extern.MathFloatBits.float32frombits) (by kernel_rfl)]
 rfl
theorem spec_l01From (n:Nat) (hn:n < 4294967296) (w:World):Calls Tryz.prog 131 #[.int .i64 n] w fun e w'=>e=.returned (.float .f32 n)∧w=w':=by
 have hd:=run_f32from
 go_enter Tryz.func131,Tryz.ntmps131
 go_wp2
 go_ret
 exact ⟨rfl,rfl⟩
theorem math_NaN (w:World):Calls Tryz.prog 116 #[] w fun e w'=>e=.returned (.float .f64 9221120237041090561)∧w=w':=by
 have hd2:=run_f64from
 go_enter Tryz.func116,Tryz.ntmps116
 go_wp2
 go_ret
 exact ⟨rfl,rfl⟩
theorem impl_noNumber (w:World):Calls Tryz.prog 89 #[] w fun e w' => ∃r,e=.returned (.float .f32 r)∧Hid (cn .f32 r=nanOf .f32∧r < 4294967296)∧Dr w w':=by
 go_enter Tryz.func89,Tryz.ntmps89
 go_wp2_with (go_at_call 116;refine (math_NaN _).mono ?_;rintro e w' ⟨rfl,rfl⟩)
 go_ret
 have hn:isN .f64 9221120237041090561=true:=by decide +kernel
 exact ⟨_,rfl,I ⟨by rw [cn_cvbits _ (wide_nan hn),cn_nan hn];decide +kernel,cv_lt32 _ (wide_nan hn)⟩,_,rfl⟩
theorem Touch.setCell {w:World} {lo hi g k:Nat} {v:Value} (h1:lo≤g) (h2:g < hi):Touch lo hi w (w.setCell ⟨g,k,none⟩ v) :=
 ⟨rfl,rfl,rfl,by simp [World.setCell],fun j hj hd=>Below.heap_setCell _ _ _ _ (by intro e;simp at e;omega)⟩
theorem mem_getD {xs:List Nat} {k:Nat} (h:k < xs.length):xs.getD k 0∈xs:=by
 rw [List.getD_eq_getElem?_getD,List.getElem?_eq_getElem h];exact List.getElem_mem h
theorem isN_none {x:Nat} (h:FloatKind.f32.format.order x 0=none):isN .f32 x=true:=by
 cases hx:isN .f32 x
 ·exfalso
  have h0:isN .f32 0=false:=by decide +kernel
  unfold isN at hx h0
  have h1:(FloatKind.f32.format.read x).order (FloatKind.f32.format.read 0)=none:=h
  cases e1:FloatKind.f32.format.read x with
  | nan s t=>rw [e1] at hx;cases hx
  | infinity s=>rw [e1] at h1;cases e2:FloatKind.f32.format.read 0 with
   | nan s t=>rw [e2] at h0;cases h0
   | infinity t=>rw [e2] at h1;cases h1
   | number t m p=>rw [e2] at h1;cases h1
  | number s m p=>rw [e1] at h1;cases e2:FloatKind.f32.format.read 0 with
   | nan s t=>rw [e2] at h0;cases h0
   | infinity t=>rw [e2] at h1;cases h1
   | number t m p=>rw [e2] at h1;cases h1
 ·rfl


structure RowD where
 e:TypeId
 size:Nat
 ad:Option Addr
 n:Nat
 cap:Nat
 vs:List Value
def RowD.val (x:RowD):Value:=.slice x.ad x.n x.cap
def Apart (v u:Value):Prop:=∀g,v.ownBlock=some g→u.ownBlock≠some g
theorem Apart.symm {v u:Value} (h:Apart v u):Apart u v:=fun g e1 e2=>h g e2 e1
structure Own (w:World) (lo hi:Nat) (L:List RowD):Prop where
 row:∀x∈L,Row w x.e x.size lo hi x.val x.n x.vs
 sep:(L.map RowD.val).Pairwise Apart
theorem Own.nil (w:World) (lo hi:Nat):Own w lo hi []:=⟨fun x hx=>(nomatch hx),List.Pairwise.nil⟩
theorem Own.below {w w':World} {lo hi:Nat} {L:List RowD} (h:Own w lo hi L) (hb:Below w.heap.size w w'):Own w' lo hi L:=⟨fun x hx=>(h.row x hx).below hb,h.sep⟩
theorem Own.touch {w w':World} {lo hi lo2 hi2:Nat} {L:List RowD} (h:Own w lo hi L) (ht:Touch lo2 hi2 w w') (hd:hi≤lo2∨hi2≤lo):Own w' lo hi L:=⟨fun x hx=>(h.row x hx).touch ht hd,h.sep⟩
theorem Own.bounds {w:World} {lo hi lo' hi':Nat} {L:List RowD} (h:Own w lo hi L) (h1:lo'≤lo) (h2:hi≤hi'):Own w lo' hi' L:=⟨fun x hx=>(h.row x hx).bounds h1 h2,h.sep⟩
theorem Own.perm {w:World} {lo hi:Nat} {L M:List RowD} (h:Own w lo hi L) (p:L.Perm M):Own w lo hi M :=
 ⟨fun x hx=>h.row x (p.mem_iff.2 hx),((p.map RowD.val).pairwise_iff (fun {a b} h=>h.symm)).1 h.sep⟩
theorem Own.sub {w:World} {lo hi:Nat} {L M:List RowD} (h:Own w lo hi L) (s:M.Sublist L):Own w lo hi M :=
 ⟨fun x hx=>h.row x (s.subset hx),h.sep.sublist (s.map RowD.val)⟩
theorem Own.tail {w:World} {lo hi:Nat} {x:RowD} {L:List RowD} (h:Own w lo hi (x :: L)):Own w lo hi L:=h.sub (List.sublist_cons_self x L)
theorem Own.head {w:World} {lo hi:Nat} {x:RowD} {L:List RowD} (h:Own w lo hi (x :: L)):Row w x.e x.size lo hi x.val x.n x.vs:=h.row x (List.mem_cons_self ..)
theorem Own.apart {w:World} {lo hi:Nat} {x:RowD} {L:List RowD} (h:Own w lo hi (x :: L)) {y:RowD} (hy:y∈L):Apart x.val y.val:=(List.pairwise_cons.1 h.sep).1 _ (List.mem_map_of_mem hy)
theorem Own.cons {w:World} {lo hi:Nat} {x:RowD} {L:List RowD} (hx:Row w x.e x.size lo hi x.val x.n x.vs) (h:Own w lo hi L) (hs:∀y∈L,Apart x.val y.val):Own w lo hi (x :: L):=by
 refine ⟨fun y hy=>?_,?_⟩
 ·rcases List.mem_cons.1 hy with rfl | hy
  ·exact hx
  ·exact h.row y hy
 ·rw [List.map_cons,List.pairwise_cons]
  refine ⟨fun v hv=>?_,h.sep⟩
  obtain ⟨y,hy,rfl⟩:=List.mem_map.1 hv
  exact hs y hy
theorem Own.one {w:World} {lo hi:Nat} {x:RowD} (hx:Row w x.e x.size lo hi x.val x.n x.vs):Own w lo hi [x]:=Own.cons hx (Own.nil _ _ _) (fun y hy=>(nomatch hy))
theorem Own.append {w:World} {lo mi hi:Nat} {L M:List RowD} (h:Own w lo mi L) (h2:Own w mi hi M) (h3:lo≤mi) (h4:mi≤hi):Own w lo hi (L ++ M):=by
 refine ⟨fun x hx=>?_,?_⟩
 ·rcases List.mem_append.1 hx with hx | hx
  ·exact (h.row x hx).bounds (Nat.le_refl _) h4
  ·exact (h2.row x hx).bounds h3 (Nat.le_refl _)
 ·rw [List.map_append,List.pairwise_append]
  refine ⟨h.sep,h2.sep,fun v hv u hu=>?_⟩
  obtain ⟨x,hx,rfl⟩:=List.mem_map.1 hv
  obtain ⟨y,hy,rfl⟩:=List.mem_map.1 hu
  intro g e1 e2
  have:=(h.row x hx).top g e1
  have:=((h2.row y hy).own.lt g e2).1
  omega
theorem Own.grown {w w':World} {lo hi hi':Nat} {x y:RowD} {L:List RowD} (h:Own w lo hi (x :: L)) (hg:w.grownBy w' x.val.ownBlock) (hy:Row w' y.e y.size lo hi' y.val y.n y.vs) (hb:∀g,y.val.ownBlock=some g→x.val.ownBlock=some g∨hi≤g) (hh:hi≤hi'):Own w' lo hi' (y :: L):=by
 refine Own.cons hy ⟨fun z hz=>⟨((h.row z (List.mem_cons_of_mem _ hz)).own.kept hg ?_),fun g e=>Nat.lt_of_lt_of_le ((h.row z (List.mem_cons_of_mem _ hz)).top g e) hh⟩,h.tail.sep⟩ fun z hz g e1 e2=>?_
 ·cases e:z.val.ownBlock with
  | none=>exact .inl rfl
  | some g=>exact .inr (fun e2=>(h.apart hz) g e2.symm e)
 ·rcases hb g e1 with e3 | e3
  ·exact h.apart hz g e3 e2
  ·have:=(h.row z (List.mem_cons_of_mem _ hz)).top g e2
   omega
theorem Own.store {w:World} {lo hi:Nat} {e:TypeId} {size g n cap:Nat} {vs:List Value} {L:List RowD} (h:Own w lo hi (⟨e,size,some ⟨g,0,none⟩,n,cap,vs⟩ :: L)) (k:Nat) (v:Value):Own (w.setCell ⟨g,k,none⟩ v) lo hi (⟨e,size,some ⟨g,0,none⟩,n,cap,vs.set k v⟩ :: L):=by
 have h0:=h.head
 have hs:=h0.own.stored k v
 exact h.grown (y:=⟨e,size,some ⟨g,0,none⟩,n,cap,vs.set k v⟩) hs.2 ⟨hs.1,h0.top⟩ (fun g' e=>.inl e) (Nat.le_refl _)
theorem Own.alloc {w:World} {lo hi:Nat} {L:List RowD} (h:Own w lo hi L) (h1:lo≤w.heap.size) (h2:hi≤w.heap.size) (cs:Array Value) (t:TypeId):Own (w.alloc (.cells cs t)) lo (w.heap.size+1) (⟨t,cs.size,some ⟨w.heap.size,0,none⟩,1,1,cs.toList⟩ :: L):=by
 have ho:=World.ownsRow_lit (base:=lo) (e:=t) (size:=cs.size) w cs 1 h1 (by decide) (by simp)
 refine Own.cons ⟨ho,fun g e=>?_⟩ ((h.below (below1 w _)).bounds (Nat.le_refl _) (by omega)) fun y hy g e1 e2=>?_
 ·cases e;exact Nat.lt_succ_self _
 ·cases e1
  have h3:w.heap.size < hi:=(h.row y hy).top _ e2
  omega
theorem Own.fresh {w w':World} {lo hi hi':Nat} {L M:List RowD} (h:Own w lo hi L) (h1:lo≤w.heap.size) (h2:hi≤w.heap.size) (hb:Below w.heap.size w w') (hm:Own w' w.heap.size hi' M) (h3:w.heap.size≤hi'):Own w' lo hi' (L ++ M) :=
 Own.append ((h.below hb).bounds (Nat.le_refl _) h2) hm h1 h3
theorem Own.cell {w:World} {lo hi:Nat} {e:TypeId} {size g o n cap:Nat} {vs:List Value} {L:List RowD} (h:Own w lo hi L) (hm:⟨e,size,some ⟨g,o,none⟩,n,cap,vs⟩∈L) :
  o=0∧(lo≤g∧g < hi∧g < w.heap.size)∧(∀k,k < vs.length→w.cell? ⟨g,k,none⟩=vs[k]?)∧(∀k,w.frozen? ⟨g,k,none⟩=false):=by
 have h0:=h.row _ hm
 have h00:=h0.own
 have hl:=h00.1
 have h1:o=0:=by
  rcases h0.own.2 with ⟨e1,_⟩ | ⟨g',cap',cur,e1,_⟩
  ·cases e1
  ·cases e1;rfl
 subst h1
 exact ⟨rfl,⟨(h0.own.lt g rfl).1,h0.top g rfl,(h0.own.lt g rfl).2⟩,fun k hk=>h0.own.cellAt k (by have hl2:vs.length=n * size:=hl;show k < n * size;omega),fun k=>h0.own.frozenAt k⟩
theorem Own.setAt {w w':World} {lo hi:Nat} {x y:RowD} {A B:List RowD} (h:Own w lo hi (A ++ x :: B)) (hg:w.grownBy w' x.val.ownBlock) (hy:Row w' y.e y.size lo hi y.val y.n y.vs) (hv:y.val=x.val):Own w' lo hi (A ++ y :: B):=by
 have p:(A ++ x :: B).Perm (x :: (A ++ B)):=List.perm_middle
 have q:(A ++ y :: B).Perm (y :: (A ++ B)):=List.perm_middle
 exact ((h.perm p).grown hg hy (fun g e=>.inl (by rw [←hv];exact e)) (Nat.le_refl _)).perm q.symm
structure SeeRow (w:World) (x:RowD):Prop where
 le:x.n≤x.cap
 cap:x.cap≤maxLen
 len:x.vs.length=x.n * x.size
 rd:Rd w x.ad x.vs
theorem SeeRow.below {w w':World} {x:RowD} (h:SeeRow w x) (hb:Below w.heap.size w w'):SeeRow w' x:=⟨h.le,h.cap,h.len,h.rd.below hb (Nat.le_refl _)⟩
theorem Row.seeRow {w:World} {lo hi:Nat} {x:RowD} (h:Row w x.e x.size lo hi x.val x.n x.vs):SeeRow w x:=by
 obtain ⟨ad,cap,e1,e2,e3,e4,_⟩:=Rd.of_owns h.own
 unfold RowD.val at e1
 cases e1
 exact ⟨e2,e3,h.own.1,e4⟩
structure RecT (α:Type) where
 e:TypeId
 size:Nat
 cells:α→List Value
 inn:α→List RowD
 ok:α→Prop
 len:∀a,(cells a).length=size
structure OwnR {α:Type} (R:RecT α) (w:World) (lo hi:Nat) (ad:Option Addr) (n cap:Nat) (us:List α):Prop where
 own:Own w lo hi (⟨R.e,R.size,ad,n,cap,us.flatMap R.cells⟩ :: us.flatMap R.inn)
 len:us.length=n
 ok:∀a∈us,R.ok a
structure SeeR {α:Type} (R:RecT α) (w:World) (ad:Option Addr) (cap:Nat) (us:List α):Prop where
 le:us.length≤cap
 cap:cap≤maxLen
 rd:Rd w ad (us.flatMap R.cells)
 inn:∀a∈us,∀x∈R.inn a,SeeRow w x
 ok:∀a∈us,R.ok a
section
variable {α:Type} {R:RecT α} {w w':World} {lo hi:Nat} {ad:Option Addr} {n cap:Nat} {us:List α}
theorem SeeR.below (h:SeeR R w ad cap us) (hb:Below w.heap.size w w'):SeeR R w' ad cap us:=⟨h.le,h.cap,h.rd.below hb (Nat.le_refl _),fun a ha x hx=>(h.inn a ha x hx).below hb,h.ok⟩
theorem OwnR.below (h:OwnR R w lo hi ad n cap us) (hb:Below w.heap.size w w'):OwnR R w' lo hi ad n cap us:=⟨h.own.below hb,h.len,h.ok⟩
theorem OwnR.touch {lo2 hi2:Nat} (h:OwnR R w lo hi ad n cap us) (ht:Touch lo2 hi2 w w') (hd:hi≤lo2∨hi2≤lo):OwnR R w' lo hi ad n cap us:=⟨h.own.touch ht hd,h.len,h.ok⟩
theorem OwnR.bounds {lo' hi':Nat} (h:OwnR R w lo hi ad n cap us) (h1:lo'≤lo) (h2:hi≤hi'):OwnR R w lo' hi' ad n cap us:=⟨h.own.bounds h1 h2,h.len,h.ok⟩
theorem OwnR.see (h:OwnR R w lo hi ad n cap us):SeeR R w ad cap us:=by
 have h0:=h.own.head.seeRow
 exact ⟨by rw [h.len];exact h0.le,h0.cap,h0.rd,fun a ha x hx=>(h.own.tail.row x (List.mem_flatMap.2 ⟨a,ha,hx⟩)).seeRow,h.ok⟩
theorem OwnR.nil (R:RecT α) (w:World) (lo hi:Nat):OwnR R w lo hi none 0 0 [] :=
 ⟨Own.one ⟨⟨by simp,.inl ⟨rfl,rfl⟩⟩,fun k e=>(nomatch e)⟩,rfl,fun a ha=>(nomatch ha)⟩
theorem flat_len (R:RecT α) (us:List α):(us.flatMap R.cells).length=us.length * R.size:=by
 induction us with
 | nil=>simp
 | cons a us ih=>rw [List.flatMap_cons,List.length_append,ih,R.len,List.length_cons,Nat.succ_mul,Nat.add_comm]
theorem flat_at (R:RecT α) (us:List α) {k j:Nat} {a:α} (hk:us[k]? = some a) (hj:j < R.size):(us.flatMap R.cells)[k * R.size+j]? = (R.cells a)[j]?:=by
 induction us generalizing k with
 | nil=>simp at hk
 | cons x xs ih =>
  rw [List.flatMap_cons]
  cases k with
  | zero =>
   simp at hk;subst hk
   rw [Nat.zero_mul,Nat.zero_add,List.getElem?_append_left (by rw [R.len];exact hj)]
  | succ k =>
   simp at hk
   rw [List.getElem?_append_right (by rw [R.len,Nat.succ_mul];omega),R.len,←ih hk]
   congr 1
   rw [Nat.succ_mul];omega
theorem SeeR.spot (h:SeeR R w ad cap us) {k:Nat} {a:α} (hk:us[k]? = some a) (hs:0 < R.size):∃b off,ad=some ⟨b,off,none⟩∧b < w.heap.size∧∀j,j < R.size→w.cell? ⟨b,off+k * R.size+j,none⟩=(R.cells a)[j]?:=by
 have hkl:k < us.length:=(List.getElem?_eq_some_iff.1 hk).1
 have hl:∀j,j < R.size→k * R.size+j < (us.flatMap R.cells).length:=by
  intro j hj
  rw [flat_len]
  have:(k+1) * R.size≤us.length * R.size:=Nat.mul_le_mul_right _ hkl
  rw [Nat.succ_mul] at this;omega
 obtain ⟨b,off,e,hb,hc⟩:=h.rd.spot (i:=k * R.size+0) (hl 0 hs)
 exact ⟨b,off,e,hb,fun j hj=>by rw [Nat.add_assoc,hc _ (hl j hj),flat_at R us hk hj]⟩
theorem OwnR.spot (h:OwnR R w lo hi ad n cap us) {k:Nat} {a:α} (hk:us[k]? = some a) (hs:0 < R.size):∃g,ad=some ⟨g,0,none⟩∧(lo≤g∧g < hi∧g < w.heap.size)∧(∀j,j < R.size→w.cell? ⟨g,k * R.size+j,none⟩=(R.cells a)[j]?)∧∀j,w.frozen? ⟨g,j,none⟩=false:=by
 obtain ⟨b,off,e,hb,hc⟩:=h.see.spot hk hs
 subst e
 obtain ⟨rfl,hr,_,hf⟩:=h.own.cell (List.mem_cons_self ..)
 exact ⟨b,rfl,hr,fun j hj=>by rw [←hc j hj,Nat.zero_add],hf⟩
def setL:List Value→Nat→List Value→List Value
 | vs,_,[]=>vs
 | vs,i,c :: cs=>setL (vs.set i c) (i+1) cs
theorem setL_right (xs ys:List Value) (i:Nat) (cs:List Value):setL (xs ++ ys) (xs.length+i) cs=xs ++ setL ys i cs:=by
 induction cs generalizing ys i with
 | nil=>rfl
 | cons c cs ih =>
  show setL ((xs ++ ys).set (xs.length+i) c) (xs.length+i+1) cs=xs ++ setL (ys.set i c) (i+1) cs
  rw [List.set_append,if_neg (by omega),Nat.add_sub_cancel_left,Nat.add_assoc]
  exact ih (ys.set i c) (i+1)
theorem setL_left (xs ys cs:List Value) (h:xs.length=cs.length):setL (xs ++ ys) 0 cs=cs ++ ys:=by
 have key:∀(pre xs cs:List Value),xs.length=cs.length→setL (pre ++ xs ++ ys) pre.length cs=pre ++ cs ++ ys:=by
  intro pre xs cs
  induction cs generalizing pre xs with
  | nil=>intro h;cases xs with
   | nil=>rfl
   | cons x xs=>simp at h
  | cons c cs ih =>
   intro h
   cases xs with
   | nil=>simp at h
   | cons x xs =>
    have h2:=ih (pre ++ [c]) xs (by simpa using h)
    show setL ((pre ++ x :: xs ++ ys).set pre.length c) (pre.length+1) cs=pre ++ c :: cs ++ ys
    rw [List.append_assoc,List.set_append,if_neg (by omega),Nat.sub_self,List.cons_append,List.set_cons_zero]
    simpa [List.append_assoc] using h2
 simpa using key [] xs cs h
theorem flat_set (R:RecT α) (us:List α) {k:Nat} (hk:k < us.length) (a:α):setL (us.flatMap R.cells) (k * R.size) (R.cells a)=(us.set k a).flatMap R.cells:=by
 induction us generalizing k with
 | nil=>simp at hk
 | cons x xs ih =>
  cases k with
  | zero =>
   rw [Nat.zero_mul,List.flatMap_cons,List.set_cons_zero,List.flatMap_cons]
   exact setL_left _ _ _ (by rw [R.len,R.len])
  | succ k =>
   rw [List.flatMap_cons,List.set_cons_succ,List.flatMap_cons,←ih (by simpa using hk),←setL_right,R.len,Nat.succ_mul,Nat.add_comm]
theorem OwnR.setNew {w1 w2:World} {hi1:Nat} (h:OwnR R w lo w.heap.size ad n cap us) (hlo:lo≤w.heap.size) (hb:Below w.heap.size w w1) {k:Nat} (hk:k < n) {a:α} (ha:R.ok a) (hn:Own w1 w.heap.size hi1 (R.inn a)) (hi1s:w.heap.size≤hi1)
  (hst:∀M,Own w1 lo hi1 (⟨R.e,R.size,ad,n,cap,us.flatMap R.cells⟩ :: M)→Own w2 lo hi1 (⟨R.e,R.size,ad,n,cap,setL (us.flatMap R.cells) (k * R.size) (R.cells a)⟩ :: M)):OwnR R w2 lo hi1 ad n cap (us.set k a):=by
 have hkl:k < us.length:=by rw [h.len];exact hk
 refine ⟨?_,by rw [List.length_set];exact h.len,fun b hb=>?_⟩
 ·have h1:=Own.fresh h.own hlo (Nat.le_refl _) hb hn hi1s
  rw [List.cons_append] at h1
  have h2:=hst _ h1
  rw [flat_set R us hkl] at h2
  have e1:us.flatMap R.inn=(us.take k).flatMap R.inn ++ (R.inn us[k] ++ (us.drop (k+1)).flatMap R.inn):=by
   rw [←List.flatMap_cons,List.getElem_cons_drop,←List.flatMap_append,List.take_append_drop]
  have e2:(us.set k a).flatMap R.inn=(us.take k).flatMap R.inn ++ (R.inn a ++ (us.drop (k+1)).flatMap R.inn):=by
   rw [List.set_eq_take_append_cons_drop,if_pos hkl,List.flatMap_append,List.flatMap_cons]
  rw [e1] at h2
  rw [e2]
  have h3:=h2.sub (M:=⟨R.e,R.size,ad,n,cap,(us.set k a).flatMap R.cells⟩ :: (((us.take k).flatMap R.inn ++ (us.drop (k+1)).flatMap R.inn) ++ R.inn a)) (List.Sublist.cons_cons _ (List.Sublist.append (List.Sublist.append (List.Sublist.refl _) (List.sublist_append_right _ _)) (List.Sublist.refl _)))
  refine h3.perm (List.Perm.cons _ ?_)
  rw [List.append_assoc]
  exact List.Perm.append_left _ List.perm_append_comm
 ·rcases List.mem_or_eq_of_mem_set hb with hb | rfl
  ·exact h.ok b hb
  ·exact ha
theorem OwnR.snoc {w1 w2:World} {hi1:Nat} {v':Value} {a:α} {o:Obj} (h:OwnR R w lo w.heap.size ad n cap us) (hlo:lo≤w.heap.size) (hb:Below w.heap.size w w1) (ha:R.ok a) (hn:Own w1 w.heap.size hi1 (R.inn a)) (hi1s:hi1≤w1.heap.size) (hi0:w.heap.size≤hi1)
  (ho:w2.ownsRow lo R.e R.size v' (n+1) (us.flatMap R.cells ++ R.cells a)) (hg:(w1.alloc o).grownBy w2 (Value.slice ad n cap).ownBlock) (hat:v'.ownBlock=(Value.slice ad n cap).ownBlock∨v'.ownBlock=some (w1.heap.size+1)) :
  ∃ad' cap',v'=.slice ad' (n+1) cap'∧OwnR R w2 lo w2.heap.size ad' (n+1) cap' (us ++ [a]):=by
 obtain ⟨ad',cap',rfl,_⟩:=Rd.of_owns ho
 refine ⟨ad',cap',rfl,?_,by rw [List.length_append,h.len];rfl,fun b hb=>?_⟩
 ·have h1:=Own.fresh h.own hlo (Nat.le_refl _) hb hn hi0
  rw [List.cons_append] at h1
  have h2:Own (w1.alloc o) lo hi1 _:=h1.below (below1 w1 o)
  have hs:=hg.size
  have h3:=h2.grown (w':=w2) (hi':=w2.heap.size) (y:=⟨R.e,R.size,ad',n+1,cap',(us ++ [a]).flatMap R.cells⟩) hg (by
   refine Row.mk' ?_
   rw [List.flatMap_append,List.flatMap_singleton]
   exact ho) (fun g e=>?_) (by simp at hs;omega)
  ·have e:(us ++ [a]).flatMap R.inn=us.flatMap R.inn ++ R.inn a:=by rw [List.flatMap_append,List.flatMap_singleton]
   rw [e]
   exact h3
  ·rcases hat with e1 | e1
   ·exact .inl (e1.symm.trans e)
   ·right
    have e2:some g=some (w1.heap.size+1):=e.symm.trans e1
    cases e2
    omega
 ·rcases List.mem_append.1 hb with hb | hb
  ·exact h.ok b hb
  ·simp at hb;subst hb;exact ha
def RowD.void (x:RowD):Prop:=x.ad=none∧x.n=0∧x.cap=0∧x.vs=[]
theorem Own.voids {L:List RowD} (w:World) (lo hi:Nat) (h:∀x∈L,x.void):Own w lo hi L:=by
 induction L with
 | nil=>exact Own.nil _ _ _
 | cons x L ih =>
  obtain ⟨e1,e2,e3,e4⟩:=h x (List.mem_cons_self ..)
  have ev:x.val=.slice none 0 0:=by unfold RowD.val;rw [e1,e2,e3]
  refine Own.cons ⟨?_,fun g e=>by rw [ev] at e;cases e⟩ (ih fun y hy=>h y (List.mem_cons_of_mem _ hy)) fun y hy g e=>by rw [ev] at e;cases e
  rw [ev,e2,e4]
  exact ⟨by simp,.inl ⟨rfl,rfl⟩⟩
theorem OwnR.made {w1:World} {cs:List Value} {z:α} (h:w1.ownsRow w.heap.size R.e R.size (.slice (some ⟨w.heap.size,0,none⟩) n n) n cs) (hc:cs=(List.replicate n z).flatMap R.cells) (hz:∀x∈R.inn z,x.void) (ho:R.ok z) :
  OwnR R w1 w.heap.size w1.heap.size (some ⟨w.heap.size,0,none⟩) n n (List.replicate n z):=by
 refine ⟨?_,by simp,fun a ha=>by rw [List.eq_of_mem_replicate ha];exact ho⟩
 rw [←hc]
 have hv:∀x∈(List.replicate n z).flatMap R.inn,x.void:=by
  intro x hx
  obtain ⟨a,ha,hx⟩:=List.mem_flatMap.1 hx
  rw [List.eq_of_mem_replicate ha] at hx
  exact hz x hx
 refine Own.cons (Row.mk' h) (Own.voids _ _ _ hv) fun y hy g e1 e2=>?_
 obtain ⟨e3,_⟩:=hv y hy
 unfold RowD.val at e2
 rw [e3] at e2
 cases e2
end
end
section
open Go Go.RowKit Ieee

theorem and_16 (N a:Nat) (hN:16≤N) (ha:a < 2 ^ N):a &&& (2 ^ N - (65535+1))=a / 65536 * 65536:=by
 have h0:65535 < 2 ^ N:=Nat.lt_of_lt_of_le (by decide:65535 < 2 ^ 16) (Nat.pow_le_pow_right (by decide) hN)
 have e:a / 65536 * 65536=(a >>> 16) <<< 16:=by rw [Nat.shiftLeft_eq,Nat.shiftRight_eq_div_pow]
 rw [e]
 apply Nat.eq_of_testBit_eq
 intro i
 rw [Nat.testBit_and,Nat.testBit_two_pow_sub_succ h0,Nat.testBit_shiftLeft,Nat.testBit_shiftRight,show 65535=2 ^ 16 - 1 by decide,Nat.testBit_two_pow_sub_one]
 by_cases h:i < N
 ·by_cases h16:i < 16
  ·have:¬ (i ≥ 16):=by omega
   simp [h,h16,this]
  ·have h2:i ≥ 16:=by omega
   simp [h,h16,h2,show 16+(i - 16)=i by omega]
 ·have h1:a.testBit i=false:=Nat.testBit_lt_two_pow (Nat.lt_of_lt_of_le ha (Nat.pow_le_pow_right (by decide) (by omega)))
  by_cases h2:i ≥ 16
  ·simp [h1,h2,show 16+(i - 16)=i by omega]
  ·simp [h1,h2]
theorem andNot_u32 (a:Nat) (ha:a < 4294967296):bits .andNot .u32 (a:Int) 65535=((a / 65536 * 65536:Nat):Int):=by
 have:=u32_andNot_nat a 65535 ha (by decide)
 rw [show ((65535:Nat):Int)=65535 from rfl] at this
 rw [this,show 4294967295 - 65535=2 ^ 32 - (65535+1) by decide,and_16 32 a (by decide) (by omega)]
theorem andNot_i64 (a:Nat) (ha:a < 4611686018427387904):bits .andNot .i64 (a:Int) 65535=((a / 65536 * 65536:Nat):Int):=by
 show IntKind.i64.wrap ((BitVec.ofInt 64 (a:Int) &&& ~~~BitVec.ofInt 64 65535).toNat:Int) = _
 have h1:(BitVec.ofInt 64 65535).toNat=65535:=by decide
 have h2:(BitVec.ofInt 64 (a:Int)).toNat=a:=by
  rw [BitVec.toNat_ofInt];omega
 rw [BitVec.toNat_and,BitVec.toNat_not,h1,h2,show 2 ^ 64 - 1 - 65535=2 ^ 64 - (65535+1) by decide,and_16 64 a (by decide) (by omega)]
 exact wrap_small _ (by omega) (by omega)
def bfW (x:Nat):Nat:=(x+(32767+x / 65536 % 2)) / 65536 * 65536
def bfE (c:Nat):Nat:=if isN .f32 c=true then nanOf .f32 else cn .f32 (bfW c)
theorem not_nan_bd {x:Nat} (hx:x < 4294967296) (h:isN .f32 x=false):x≤4286578688:=by
 obtain ⟨s,r,rfl,hr⟩:=word_of single (x:=x) (by rw [s_sw];omega)
 have hle:r≤single.infRung:=by
  rcases Nat.lt_or_ge single.infRung r with h1 | h1
  ·have h2:isN .f32 (single.word s r)=true:=nan_word single single_binade s h1 hr
   rw [h] at h2;cases h2
  ·exact h1
 rw [s_ir] at hle
 unfold Format.word
 rw [s_sw]
 split <;> omega
theorem bfW_lt {x:Nat} (hx:x≤4286578688):bfW x < 4294967296∧x+(32767+x / 65536 % 2) < 4294967296:=by
 unfold bfW
 omega
theorem bfW_inf {x:Nat} (h:x=2139095040∨x=4286578688):bfW x=x:=by rcases h with h | h <;> subst h <;> decide
theorem not_fin {x:Nat} (hx:x < 4294967296) (h:finB x=false) (hn:isN .f32 x=false):x=2139095040∨x=4286578688:=by
 obtain ⟨s,r,rfl,hr⟩:=word_of single (x:=x) (by rw [s_sw];omega)
 have hle:r=single.infRung:=by
  rcases Nat.lt_trichotomy single.infRung r with h1 | h1 | h1
  ·have h2:isN .f32 (single.word s r)=true:=nan_word single single_binade s h1 hr
   rw [hn] at h2;cases h2
  ·exact h1.symm
  ·obtain ⟨m,p,e,_⟩:=read_fin single s h1
   unfold finB at h
   rw [e] at h;cases h
 subst hle
 cases s
 ·left;exact s_ir
 ·right;unfold Format.word;rw [s_sw,s_ir];rfl
theorem and1_u32 (a:Nat) (ha:a < 4294967296):bits .and .u32 (a:Int) 1=((a % 2:Nat):Int):=by
 have:=u32_and_nat a 1 ha (by decide)
 rw [show ((1:Nat):Int)=1 from rfl] at this
 rw [this,Nat.and_one_is_mod]
theorem and1_i64 (a:Nat) (ha:a < 4294967296):bits .and .i64 (a:Int) 1=((a % 2:Nat):Int):=by
 show IntKind.i64.wrap ((BitVec.ofInt 64 (a:Int) &&& BitVec.ofInt 64 1).toNat:Int) = _
 have h1:(BitVec.ofInt 64 1).toNat=1:=by decide
 have h2:(BitVec.ofInt 64 (a:Int)).toNat=a:=by
  rw [BitVec.toNat_ofInt];omega
 rw [BitVec.toNat_and,h1,h2,Nat.and_one_is_mod]
 exact wrap_small _ (by omega) (by omega)
theorem bf_u32 {x:Nat} (h:x≤4286578688):(bits .andNot .u32 (((x:Int)+(32767+bits .and .u32 ((x:Int) / 65536) 1)) % 4294967296) 65535).toNat=bfW x:=by
 have h2:=(bfW_lt h).2
 rw [show (x:Int) / 65536=((x / 65536:Nat):Int) by omega,and1_u32 _ (by omega),show ((x:Int)+(32767+((x / 65536 % 2:Nat):Int))) % 4294967296=((x+(32767+x / 65536 % 2):Nat):Int) by omega,andNot_u32 _ h2]
 rfl
theorem bf_i64 {x:Nat} (h:x≤4286578688):bits .andNot .i64 (wrap64 ((x:Int)+wrap64 (32767+bits .and .i64 ((x:Int) / 65536) 1))) 65535=((bfW x:Nat):Int):=by
 have h2:=(bfW_lt h).2
 rw [show (x:Int) / 65536=((x / 65536:Nat):Int) by omega,and1_i64 _ (by omega),show wrap64 ((x:Int)+wrap64 (32767+((x / 65536 % 2:Nat):Int)))=((x+(32767+x / 65536 % 2):Nat):Int) by unfold wrap64;omega,andNot_i64 _ (by omega)]
 rfl
end
section
open Go Go.RowKit
theorem impl_BfloatOf (x:Nat) (hx:x < 4294967296) (w:World):Calls Tryz.prog 68 #[.float .f32 x] w fun e w' => ∃r,e=.returned (.float .f32 r)∧Hid (cn .f32 r=bfE (cn .f32 x)∧r < 4294967296)∧Dr w w':=by
 have hd:=run_f32bits
 have hd2:=run_f32from
 cases h:isN .f32 x
 ·have ho:FloatKind.f32.format.order x x=some .eq:=by rw [order_self,h];rfl
  have HN:=I h;clear h
  go_enter Tryz.func68,Tryz.ntmps68
  go_wp2
  go_ret
  have hN:=HN.out
  have hle:=not_nan_bd hx hN
  refine ⟨_,rfl,I ?_,Dr.refl _⟩
  rw [bf_u32 hle]
  exact ⟨by unfold bfE;rw [isN_cn,hN,if_neg (by decide),cn_not hN],(bfW_lt hle).1⟩
 ·have ho:FloatKind.f32.format.order x x=none:=by rw [order_self,h];rfl
  have HN:=I h;clear h
  go_enter Tryz.func68,Tryz.ntmps68
  go_wp2_with fail
  refine (impl_noNumber _).mono ?_
  rintro e w3 ⟨y,rfl,hy,q2,rfl⟩
  go_wp2
  go_ret
  exact ⟨_,rfl,I ⟨by rw [hy.out.1];unfold bfE;rw [isN_cn,if_pos HN.out],hy.out.2⟩,_,rfl⟩
theorem spec_l01Bfloat (x:Nat) (hx:x < 4294967296) (w:World):Calls Tryz.prog 102 #[.float .f32 x] w fun e w' => ∃r,e=.returned (.float .f32 r)∧Hid (cn .f32 r=bfE (cn .f32 x)∧r < 4294967296)∧Dr w w':=by
 cases hf:finB x
 ·go_enter Tryz.func102,Tryz.ntmps102
  go_wp2_with (go_at_call 58;refine (spec_l01Finite _ _).mono ?_;rintro e w' ⟨rfl,⟨q,rfl⟩⟩)
  go_ret
  refine ⟨_,rfl,I ⟨?_,hx⟩,_,rfl⟩
  unfold bfE
  rw [isN_cn]
  cases hN:isN .f32 x
  ·rw [if_neg (by decide),cn_not hN,bfW_inf (not_fin hx hf hN),cn_not hN]
  ·rw [if_pos rfl,cn_nan hN]
 ·have hN:=finB_not hf
  have hb:=spec_l01Bits x hx
  rw [cn_not hN] at hb
  have HB:=I hb;clear hb
  have hle:=not_nan_bd hx hN
  have h2:=bfW_lt hle
  have HN:=I hN;clear hN
  go_enter Tryz.func102,Tryz.ntmps102
  go_wp2_with fail
  refine (spec_l01Finite _ _).mono ?_
  rintro e w' ⟨rfl,⟨q,rfl⟩⟩
  go_wp2_with fail
  refine (HB.out _).mono ?_
  rintro e w' ⟨rfl,rfl⟩
  go_wp2_with fail
  rw [bf_i64 hle]
  refine (spec_l01From _ h2.1 _).mono ?_
  rintro e w' ⟨rfl,rfl⟩
  go_wp2
  go_ret
  exact ⟨_,rfl,I ⟨by unfold bfE;rw [isN_cn,HN.out,if_neg (by decide),cn_not HN.out],h2.1⟩,_,rfl⟩
theorem zeros_listOf (n:Nat):(List.replicate n 0).map (cn .f32)=listOf n (fun _=>0):=by
 apply List.ext_getElem
 ·simp [listOf]
 ·intro i h1 h2
  simp [listOf,cn_zero]
theorem zeros_own {w:World} {base n:Nat} {e:TypeId} {v:Value} (h:w.ownsRow base e 1 v n (madeCells #[Value.float .f32 0] n).toList):w.ownsRow base e 1 v n ((List.replicate n 0).map (Value.float .f32)):=by
 rw [toList_madeCells_one] at h
 rwa [List.map_replicate]
theorem zeros_lt (n:Nat):∀x∈List.replicate n 0,x < 4294967296:=by
 intro x hx
 rw [(List.mem_replicate.1 hx).2];decide
theorem zeros_rep {w:World} {n:Nat} {g:Nat} (h:w.ownsRow g 28 1 (.slice (some ⟨g,0,none⟩) n n) n (madeCells #[Value.float .f32 0] n).toList):RepF w g w.heap.size (some ⟨g,0,none⟩) n n (List.replicate n 0):=by
 obtain ⟨a1,c1,e1,hS⟩:=RepF.of_owns (zeros_own h) (zeros_lt n)
 cases e1
 exact hS

theorem sz_f32s (w:World) (ad:Option Addr) (n cap:Nat) (L:Int) (hn:n≤maxLen) (h0:0≤L) (h1:L≤1048576):Calls Tryz.prog 28 #[.slice ad n cap,.int .i64 L] w fun e w'=>e=.returned (.int .i64 (if (n:Int)≤L then L - n else -1))∧w=w':=by
 unfold maxLen at hn
 by_cases h:(n:Int)≤L
 ·rw [if_pos h]
  go_enter Tryz.func28,Tryz.ntmps28
  go_wp2
  go_ret
  exact ⟨rfl,rfl⟩
 ·rw [if_neg h]
  go_enter Tryz.func28,Tryz.ntmps28
  go_wp2
  go_ret
  exact ⟨rfl,rfl⟩
end
end Go.Proofs.YtpadlmidojpbeaaGreat
