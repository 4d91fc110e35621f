/- Joined texts 2. No condition. -/
import Derived.Lib.Hide
import Derived.RegionTactic
import Derived.BigRegion
import Derived.Laws.AppendOwnNone
import Derived.Maps.AppendAt
import Derived.Deep.CutRange
import Derived.Deep.CutBlock
import Derived.Deep.DeepCutAuto
import Derived.Deep.RegionHeld3
import Derived.Test.YtpadlmidojpbeaaGreatMc0
import Derived.Test.YtpadlmidojpbeaaGreatMc1
set_option linter.unusedVariables false
set_option linter.unusedSimpArgs false
namespace Go.Proofs.YtpadlmidojpbeaaGreat
section
open Go Go.RowKit Go.ChangeShapes Go.WideShapes
def floatRow (ad:Option Addr) (cap:Nat) (xs:List Nat):RowD:=⟨28,1,ad,xs.length,cap,xs.map (Value.float .f32)⟩
def okF (xs:List Nat):Prop:=∀x∈xs,x < 4294967296
theorem SeeRow.f32s {w:World} {ad:Option Addr} {cap:Nat} {xs:List Nat} (h:SeeRow w (floatRow ad cap xs)) (ho:okF xs):F32s w ad cap xs:=⟨h.le,h.cap,h.rd,ho⟩
theorem F32s.seeRow {w:World} {ad:Option Addr} {cap:Nat} {xs:List Nat} (h:F32s w ad cap xs):SeeRow w (floatRow ad cap xs):=⟨h.len,h.cap,by simp [floatRow],h.rd⟩
theorem RepF.ownRow {w:World} {lo hi:Nat} {ad:Option Addr} {n cap:Nat} {xs:List Nat} (h:RepF w lo hi ad n cap xs):Own w lo hi [floatRow ad cap xs]:=by
 have hl:=h.len
 subst hl
 exact Own.one h.row
theorem RepF.okF {w:World} {lo hi:Nat} {ad:Option Addr} {n cap:Nat} {xs:List Nat} (h:RepF w lo hi ad n cap xs):okF xs:=h.lt
theorem Own.repF {w:World} {lo hi:Nat} {ad:Option Addr} {cap:Nat} {xs:List Nat} {L:List RowD} (h:Own w lo hi L) (hm:floatRow ad cap xs∈L) (ho:okF xs):RepF w lo hi ad xs.length cap xs:=⟨h.row _ hm,rfl,ho⟩
structure TenP where
 r:Int
 c:Int
 xs:List Nat
structure Ten extends TenP where
 ad:Option Addr
 cap:Nat
def TenP.can (t:TenP):TenP:=⟨t.r,t.c,t.xs.map (cn .f32)⟩
def Ten.cells (t:Ten):List Value:=[.int .i64 t.r,.int .i64 t.c,.slice t.ad t.xs.length t.cap]
def tenR:RecT Ten:=⟨37,3,Ten.cells,fun t=>[floatRow t.ad t.cap t.xs],fun t=>okF t.xs,fun _=>rfl⟩
structure OpP where
 k:Int
 a:Int
 b:Int
 num:Nat
 r:Int
 c:Int
 xs:List Nat
structure OpD extends OpP where
 ad:Option Addr
 cap:Nat
def OpP.can (o:OpP):OpP:=⟨o.k,o.a,o.b,cn .f32 o.num,o.r,o.c,o.xs.map (cn .f32)⟩
def OpD.cells (o:OpD):List Value:=[.int .i64 o.k,.int .i64 o.a,.int .i64 o.b,.float .f32 o.num,.int .i64 o.r,.int .i64 o.c,.slice o.ad o.xs.length o.cap]
def OpD.val (o:OpD):Value:=.agg #[.int .i64 o.k,.int .i64 o.a,.int .i64 o.b,.float .f32 o.num,.int .i64 o.r,.int .i64 o.c,.slice o.ad o.xs.length o.cap]
def OpD.ok (o:OpD):Prop:=okF o.xs∧o.num < 4294967296∧(Lit.int .i64 o.k).wf=true∧(Lit.int .i64 o.a).wf=true∧(Lit.int .i64 o.b).wf=true∧(Lit.int .i64 o.r).wf=true∧(Lit.int .i64 o.c).wf=true
def opR:RecT OpD:=⟨74,7,OpD.cells,fun o=>[floatRow o.ad o.cap o.xs],OpD.ok,fun _=>rfl⟩
theorem op_spot {w:World} {ad:Option Addr} {cap:Nat} {os:List OpD} (h:SeeR opR w ad cap os) {k:Nat} {o:OpD} (hk:os[k]? = some o):∃b off,ad=some ⟨b,off,none⟩∧b < w.heap.size ∧
  (w.cell? ⟨b,off+k * 7,none⟩=some (.int .i64 o.k)∧w.cell? ⟨b,off+k * 7+1,none⟩=some (.int .i64 o.a)∧w.cell? ⟨b,off+k * 7+2,none⟩=some (.int .i64 o.b)∧w.cell? ⟨b,off+k * 7+3,none⟩=some (.float .f32 o.num)∧w.cell? ⟨b,off+k * 7+4,none⟩=some (.int .i64 o.r)∧w.cell? ⟨b,off+k * 7+5,none⟩=some (.int .i64 o.c)∧w.cell? ⟨b,off+k * 7+6,none⟩=some (.slice o.ad o.xs.length o.cap)) ∧
  F32s w o.ad o.cap o.xs∧o.ok:=by
 obtain ⟨b,off,e,hb,hc⟩:=h.spot hk (by decide)
 have hm:=List.mem_of_getElem? hk
 exact ⟨b,off,e,hb,⟨hc 0 (by decide),hc 1 (by decide),hc 2 (by decide),hc 3 (by decide),hc 4 (by decide),hc 5 (by decide),hc 6 (by decide)⟩,(h.inn o hm _ (List.mem_singleton.2 rfl)).f32s (h.ok o hm).1,h.ok o hm⟩
section
variable {H:Type} {enc:TypeId × Value→H} {w:World} {base:Nat} {spare:Nat→Bool} {held:Bool}
theorem dec_Tensor {n:Nat} {cs:List Value} {y:DataW H × List MemPlace} (h:DataW.trod enc Tryz.prog w base spare held n 27 cs=some y) :
  ∃(r c:Int) (ad:Option Addr) (cap:Nat) (xs:List Nat),cs=[.int .i64 r,.int .i64 c,.slice ad xs.length cap]∧(Lit.int .i64 r).wf=true∧(Lit.int .i64 c).wf=true∧F32s w ad cap xs:=by
 have c0:Tryz.prog.cellsOf 27=3:=by kernel_rfl
 have c1:Tryz.prog.cellsOf 2=1:=by kernel_rfl
 have c2:Tryz.prog.cellsOf 25=1:=by kernel_rfl
 obtain ⟨n,hl,hp⟩:=trod_parts Tryz.underlying27 h
 rw [c0] at hl
 obtain ⟨x0,x1,x2,rfl⟩:=list3 hl
 obtain ⟨y0,h0⟩:=hp 0 2 0 1 _ rfl rfl rfl c1
 obtain ⟨y1,h1⟩:=hp 1 2 1 1 _ rfl rfl rfl c1
 obtain ⟨y2,h2⟩:=hp 2 25 2 1 _ rfl rfl rfl c2
 simp only [List.drop_succ_cons,List.drop_zero,List.take_succ_cons,List.take_zero] at h0 h1 h2
 obtain ⟨r,e0,_,w0⟩:=DataW.trod_int Tryz.underlying2 h0
 obtain ⟨g,e1,_,w1⟩:=DataW.trod_int Tryz.underlying2 h1
 obtain ⟨ad,cap,xs,e2,w2⟩:=dec_f32s Tryz.underlying25 Tryz.underlying28 h2
 simp only [List.cons.injEq,and_true] at e0 e1 e2
 subst e0 e1 e2
 exact ⟨r,g,ad,cap,xs,rfl,w0,w1,w2⟩
end
end
section
open Go Go.RowKit
theorem touch_keep3 {w w':World} {lo hi c:Nat} (ht:Touch lo hi w w') (hc:c < w.heap.size) (hd:c < lo∨hi≤c) (o:Nat):w'.cell? ⟨c,o,none⟩=w.cell? ⟨c,o,none⟩∧w'.frozen? ⟨c,o,none⟩=w.frozen? ⟨c,o,none⟩ :=
 ⟨World.cell?_of_block (w:=w) (ht.block c hc hd),by unfold World.frozen?;rw [ht.block c hc hd]⟩
structure Box3 (w:World) (c:Nat) (a b d:Value):Prop where
 lt:c < w.heap.size
 c0:w.cell? ⟨c,0,none⟩=some a
 c1:w.cell? ⟨c,1,none⟩=some b
 c2:w.cell? ⟨c,2,none⟩=some d
 fz:∀o,w.frozen? ⟨c,o,none⟩=false
theorem Box3.alloc (w:World) (a b d:Value) (t:TypeId):Box3 (w.alloc (.cells #[a,b,d] t)) w.heap.size a b d :=
 ⟨by simp,by rw [World.cell?_alloc_at _ _ _ _ rfl];rfl,by rw [World.cell?_alloc_at _ _ _ _ rfl];rfl,by rw [World.cell?_alloc_at _ _ _ _ rfl];rfl,fun o=>World.frozen?_alloc_at _ _ _ _ rfl⟩
theorem Box3.alloc2 (w:World) (o:Obj) (a b d:Value) (t:TypeId):Box3 ((w.alloc o).alloc (.cells #[a,b,d] t)) (w.heap.size+1) a b d:=by
 have h:=Box3.alloc (w.alloc o) a b d t
 rwa [show (w.alloc o).heap.size=w.heap.size+1 by simp] at h
theorem Box3.touch {w w':World} {c lo hi:Nat} {a b d:Value} (h:Box3 w c a b d) (ht:Touch lo hi w w') (hd:c < lo∨hi≤c):Box3 w' c a b d :=
 ⟨Nat.lt_of_lt_of_le h.lt ht.size,(touch_keep3 ht h.lt hd 0).1.trans h.c0,(touch_keep3 ht h.lt hd 1).1.trans h.c1,(touch_keep3 ht h.lt hd 2).1.trans h.c2,fun o=>(touch_keep3 ht h.lt hd o).2.trans (h.fz o)⟩
theorem Box3.below {w w':World} {c:Nat} {a b d:Value} (h:Box3 w c a b d) (hb:Below w.heap.size w w'):Box3 w' c a b d:=h.touch (lo:=w'.heap.size) (hi:=w'.heap.size) (Touch.of_below hb) (.inl (Nat.lt_of_lt_of_le h.lt hb.size))
theorem set_at3 {w:World} {c i j:Nat} {u v:Value} (h:w.cell? ⟨c,j,none⟩=some u):(w.setCell ⟨c,i,none⟩ v).cell? ⟨c,j,none⟩=some (if i=j then v else u):=by
 by_cases e:i=j
 ·subst e;rw [if_pos rfl];exact World.cell?_setCell_same' _ _ _ (by rw [h];rfl)
 ·rw [if_neg e,World.cell?_setCell_other w ⟨c,i,none⟩ ⟨c,j,none⟩ v (by intro h;cases h;exact e rfl)];exact h
theorem Box3.set {w:World} {c:Nat} {a b d:Value} (h:Box3 w c a b d) (i:Nat) (v:Value):Box3 (w.setCell ⟨c,i,none⟩ v) c (if i=0 then v else a) (if i=1 then v else b) (if i=2 then v else d) :=
 ⟨by simpa [World.setCell] using h.lt,set_at3 h.c0,set_at3 h.c1,set_at3 h.c2,fun o=>by rw [World.frozen?_setCell];exact h.fz o⟩
theorem Box3.far {w:World} {c:Nat} {a b d:Value} (h:Box3 w c a b d) (c' i:Nat) (v:Value) (hc:c'≠c):Box3 (w.setCell ⟨c',i,none⟩ v) c a b d:=by
 have hk:∀j,(w.setCell ⟨c',i,none⟩ v).cell? ⟨c,j,none⟩=w.cell? ⟨c,j,none⟩:=fun j=>World.cell?_setCell_other w ⟨c',i,none⟩ ⟨c,j,none⟩ v (by intro h;cases h;exact hc rfl)
 exact ⟨by simpa [World.setCell] using h.lt,(hk 0).trans h.c0,(hk 1).trans h.c1,(hk 2).trans h.c2,fun o=>by rw [World.frozen?_setCell];exact h.fz o⟩
theorem F32s.cut3 {w:World} {g off cap:Nat} {xs:List Nat} (h:F32s w (some ⟨g,off,none⟩) cap xs) (m:Nat) (hm:m≤xs.length):F32s w (some ⟨g,off,none⟩) cap (xs.take m)∧F32s w (some ⟨g,off+m,none⟩) (cap - m) (xs.drop m):=by
 have h1:=h.len;have h2:=h.cap
 refine ⟨⟨by simp;omega,h2,?_,fun x hx=>h.lt x (List.mem_of_mem_take hx)⟩,⟨by simp;omega,by omega,?_,fun x hx=>h.lt x (List.mem_of_mem_drop hx)⟩⟩
 ·rcases h.rd with h3 | ⟨b,o,e,hb,hc⟩
  ·left;rw [List.map_take,h3];simp
  ·right
   refine ⟨b,o,e,hb,fun j hj=>?_⟩
   simp only [List.length_map,List.length_take] at hj
   rw [hc j (by simp;omega),List.map_take,List.getElem?_take,if_pos (by omega)]
 ·rcases h.rd with h3 | ⟨b,o,e,hb,hc⟩
  ·left;rw [List.map_drop,h3];simp
  ·right
   cases e
   refine ⟨g,off+m,rfl,hb,fun j hj=>?_⟩
   simp only [List.length_map,List.length_drop] at hj
   rw [Nat.add_assoc,hc (m+j) (by simp;omega),List.map_drop,List.getElem?_drop]
theorem bel3 {B g:Nat} {w w':World} (hb:Below B w w') (hg:B≤g) (a b d:Value):Below B w (((w'.setCell ⟨g,0,none⟩ a).setCell ⟨g,1,none⟩ b).setCell ⟨g,2,none⟩ d) :=
 Below.setCell (p:=⟨g,2,none⟩) (Below.setCell (p:=⟨g,1,none⟩) (Below.setCell (p:=⟨g,0,none⟩) hb hg a) hg b) hg d
theorem tch3 (w':World) (g:Nat) (a b d:Value):Touch g (g+1) w' (((w'.setCell ⟨g,0,none⟩ a).setCell ⟨g,1,none⟩ b).setCell ⟨g,2,none⟩ d) :=
 ((Touch.setCell (Nat.le_refl _) (Nat.lt_succ_self _)).trans (Touch.setCell (Nat.le_refl _) (Nat.lt_succ_self _))).trans (Touch.setCell (Nat.le_refl _) (Nat.lt_succ_self _))
theorem size3 (w':World) (g:Nat) (a b d:Value):(((w'.setCell ⟨g,0,none⟩ a).setCell ⟨g,1,none⟩ b).setCell ⟨g,2,none⟩ d).heap.size=w'.heap.size:=by simp [World.setCell]
theorem rep3 {w':World} {lo hi lo' g n cap:Nat} {ad:Option Addr} {xs:List Nat} (h:RepF w' lo hi ad n cap xs) (hg:g < lo) (h1:lo'≤lo) (h2:hi≤w'.heap.size) (a b d:Value) :
  RepF (((w'.setCell ⟨g,0,none⟩ a).setCell ⟨g,1,none⟩ b).setCell ⟨g,2,none⟩ d) lo' (((w'.setCell ⟨g,0,none⟩ a).setCell ⟨g,1,none⟩ b).setCell ⟨g,2,none⟩ d).heap.size ad n cap xs :=
 (h.touch (tch3 w' g a b d) (.inr (by omega))).bounds h1 (by rw [size3];exact h2)
set_option maxHeartbeats 2000000 in
theorem T_to (w:World) (r c:Int) (ad:Option Addr) (cap:Nat) (xs:List Nat) (h:F32s w ad cap xs) (hn:xs.length≤1048576) :
  Calls Tryz.prog 10 #[.agg #[.int .i64 r,.int .i64 c,.slice ad xs.length cap]] w fun e w' => ∃ad' cap',e=.returned (.agg #[.int .i64 r,.int .i64 c,.slice ad' xs.length cap'])∧Hid (RepF w' w.heap.size w'.heap.size ad' xs.length cap' xs)∧Below w.heap.size w w':=by
 have b3:=below3 w (.cells #[.int .i64 r,.int .i64 c,.slice ad xs.length cap] 27) (.cells #[.int .i64 0,.int .i64 0,.slice none 0 0] 37) (.cells #[.int .i64 r,.int .i64 c,.slice none 0 0] 37)
 have K:=I (F_to _ ad cap xs (h.below b3) hn)
 have RB:=I ((Box3.alloc2 w (.cells #[.int .i64 r,.int .i64 c,.slice ad xs.length cap] 27) (.int .i64 0) (.int .i64 0) (.slice none 0 0) 37).below (below1 _ (.cells #[.int .i64 r,.int .i64 c,.slice none 0 0] 37)))
 have ob:=Box3.alloc2 (w.alloc (.cells #[.int .i64 r,.int .i64 c,.slice ad xs.length cap] 27)) (.cells #[.int .i64 0,.int .i64 0,.slice none 0 0] 37) (.int .i64 r) (.int .i64 c) (.slice none 0 0) 37
 rw [show (w.alloc (.cells #[.int .i64 r,.int .i64 c,.slice ad xs.length cap] 27)).heap.size=w.heap.size+1 by simp] at ob
 have OB:=I ob;have B:=I b3
 obtain ⟨n,hN⟩:∃n,n=xs.length:=⟨_,rfl⟩
 rw [←hN] at K RB OB B ⊢
 clear ob b3 h hN hn
 go_enter Tryz.func10,Tryz.ntmps10
 go_wp2_with fail
 refine K.out.mono ?_
 rintro e w' ⟨a',c',rfl,hr,hb⟩
 obtain ⟨-,r0,r1,r2,rf⟩:=RB.out.below hb
 obtain ⟨-,o0,o1,o2,of⟩:=OB.out.below hb
 have HR:=I hr;have HB:=I (bthen B.out hb)
 have hz:=hb.size
 simp at hz
 clear hr hb
 go_wp2
 refine bodyPost_ret (v:=.agg #[.int .i64 r,.int .i64 c,.slice a' n c']) (by simp [results,Tryz.results10,go_sem,r0,r1,r2,o0,o1,o2]) rfl ⟨_,_,rfl,I ?_,?_⟩
 ·exact rep3 (HR.out.touch (lo2:=w.heap.size+2) (hi2:=w.heap.size+3) (Touch.setCell (Nat.le_refl _) (Nat.lt_succ_self _)) (.inr (by simp))) (by simp) (by simp;omega) (by simp [World.setCell]) _ _ _
 ·exact bel3 (HB.out.setCell (p:=⟨w.heap.size+2,2,none⟩) (by show w.heap.size≤w.heap.size+2;omega) _) (by omega) _ _ _
structure BoxN (w:World) (g:Nat) (vs:List Value):Prop where
 lt:g < w.heap.size
 at':∀j,j < vs.length→w.cell? ⟨g,j,none⟩=vs[j]?
 fz:∀o,w.frozen? ⟨g,o,none⟩=false
theorem BoxN.alloc (w:World) (cs:Array Value) (t:TypeId):BoxN (w.alloc (.cells cs t)) w.heap.size cs.toList :=
 ⟨by simp,fun j hj=>by rw [World.cell?_alloc_at _ _ _ _ rfl];simp,fun o=>World.frozen?_alloc_at _ _ _ _ rfl⟩
theorem BoxN.alloc2 (w:World) (o:Obj) (cs:Array Value) (t:TypeId):BoxN ((w.alloc o).alloc (.cells cs t)) (w.heap.size+1) cs.toList:=by
 have h:=BoxN.alloc (w.alloc o) cs t
 rwa [show (w.alloc o).heap.size=w.heap.size+1 by simp] at h
theorem BoxN.alloc3 (w:World) (o o2:Obj) (cs:Array Value) (t:TypeId):BoxN (((w.alloc o).alloc o2).alloc (.cells cs t)) (w.heap.size+2) cs.toList:=by
 have h:=BoxN.alloc2 (w.alloc o) o2 cs t
 rwa [show (w.alloc o).heap.size=w.heap.size+1 by simp] at h
theorem BoxN.touch {w w':World} {g lo hi:Nat} {vs:List Value} (h:BoxN w g vs) (ht:Touch lo hi w w') (hd:g < lo∨hi≤g):BoxN w' g vs :=
 ⟨Nat.lt_of_lt_of_le h.lt ht.size,fun j hj=>(touch_keep3 ht h.lt hd j).1.trans (h.at' j hj),fun o=>(touch_keep3 ht h.lt hd o).2.trans (h.fz o)⟩
theorem BoxN.below {w w':World} {g:Nat} {vs:List Value} (h:BoxN w g vs) (hb:Below w.heap.size w w'):BoxN w' g vs:=h.touch (lo:=w'.heap.size) (hi:=w'.heap.size) (Touch.of_below hb) (.inl (Nat.lt_of_lt_of_le h.lt hb.size))
theorem BoxN.set {w:World} {g:Nat} {vs:List Value} (h:BoxN w g vs) (i:Nat) (v:Value):BoxN (w.setCell ⟨g,i,none⟩ v) g (vs.set i v):=by
 refine ⟨by simpa [World.setCell] using h.lt,fun j hj=>?_,fun o=>by rw [World.frozen?_setCell];exact h.fz o⟩
 rw [List.length_set] at hj
 have h1:=h.at' j hj
 rw [List.getElem?_eq_getElem hj] at h1
 rw [set_at3 h1,List.getElem?_set]
 by_cases e:i=j
 ·subst e;rw [if_pos rfl,if_pos rfl,if_pos hj]
 ·rw [if_neg e,if_neg e,List.getElem?_eq_getElem hj]
theorem BoxN.far {w:World} {g:Nat} {vs:List Value} (h:BoxN w g vs) (g' i:Nat) (v:Value) (hc:g'≠g):BoxN (w.setCell ⟨g',i,none⟩ v) g vs:=by
 have hk:∀j,(w.setCell ⟨g',i,none⟩ v).cell? ⟨g,j,none⟩=w.cell? ⟨g,j,none⟩:=fun j=>World.cell?_setCell_other w ⟨g',i,none⟩ ⟨g,j,none⟩ v (by intro h;cases h;exact hc rfl)
 exact ⟨by simpa [World.setCell] using h.lt,fun j hj=>(hk j).trans (h.at' j hj),fun o=>by rw [World.frozen?_setCell];exact h.fz o⟩
theorem BoxN.seven {w:World} {g:Nat} {a b c d e f k:Value} (h:BoxN w g [a,b,c,d,e,f,k]):g < w.heap.size∧w.cell? ⟨g,0,none⟩=some a∧w.cell? ⟨g,1,none⟩=some b∧w.cell? ⟨g,2,none⟩=some c∧w.cell? ⟨g,3,none⟩=some d∧w.cell? ⟨g,4,none⟩=some e∧w.cell? ⟨g,5,none⟩=some f∧w.cell? ⟨g,6,none⟩=some k∧(∀o,w.frozen? ⟨g,o,none⟩=false) :=
 ⟨h.lt,h.at' 0 (by simp),h.at' 1 (by simp),h.at' 2 (by simp),h.at' 3 (by simp),h.at' 4 (by simp),h.at' 5 (by simp),h.at' 6 (by simp),h.fz⟩
theorem BoxN.three {w:World} {g:Nat} {a b c:Value} (h:BoxN w g [a,b,c]):g < w.heap.size∧w.cell? ⟨g,0,none⟩=some a∧w.cell? ⟨g,1,none⟩=some b∧w.cell? ⟨g,2,none⟩=some c∧(∀o,w.frozen? ⟨g,o,none⟩=false) :=
 ⟨h.lt,h.at' 0 (by simp),h.at' 1 (by simp),h.at' 2 (by simp),h.fz⟩
def setCs:World→Nat→Nat→List Value→World
 | w,_,_,[]=>w
 | w,g,i,v :: vs=>setCs (w.setCell ⟨g,i,none⟩ v) g (i+1) vs
theorem setCs_size (w:World) (g i:Nat) (vs:List Value):(setCs w g i vs).heap.size=w.heap.size:=by
 induction vs generalizing w i with
 | nil=>rfl
 | cons v vs ih=>exact (ih _ _).trans (by simp [World.setCell])
theorem setCs_below {B g:Nat} {w w':World} (hb:Below B w w') (hg:B≤g) (i:Nat) (vs:List Value):Below B w (setCs w' g i vs):=by
 induction vs generalizing w' i with
 | nil=>exact hb
 | cons v vs ih=>exact ih (hb.setCell (p:=⟨g,i,none⟩) hg v) (i+1)
theorem setCs_touch (w:World) (g i:Nat) (vs:List Value):Touch g (g+1) w (setCs w g i vs):=by
 induction vs generalizing w i with
 | nil=>exact Touch.refl _ _ _
 | cons v vs ih=>exact Touch.trans (Touch.setCell (Nat.le_refl _) (Nat.lt_succ_self _)) (ih _ _)
theorem setCs_repF {w':World} {lo hi lo' g n cap:Nat} {ad:Option Addr} {xs:List Nat} (h:RepF w' lo hi ad n cap xs) (hg:g < lo) (h1:lo'≤lo) (h2:hi≤w'.heap.size) (i:Nat) (vs:List Value):RepF (setCs w' g i vs) lo' (setCs w' g i vs).heap.size ad n cap xs :=
 (h.touch (setCs_touch w' g i vs) (.inr (by omega))).bounds h1 (by rw [setCs_size];exact h2)
theorem setCs_own {w:World} {lo hi:Nat} {e:TypeId} {size g n cap:Nat} {us:List Value} {L:List RowD} (h:Own w lo hi (⟨e,size,some ⟨g,0,none⟩,n,cap,us⟩ :: L)) (i:Nat) (vs:List Value):Own (setCs w g i vs) lo hi (⟨e,size,some ⟨g,0,none⟩,n,cap,setL us i vs⟩ :: L):=by
 induction vs generalizing w i us with
 | nil=>exact h
 | cons v vs ih=>exact ih (h.store i v) (i+1)
theorem T_sz (w:World) (r c:Int) (ad:Option Addr) (n cap:Nat) (L:Int) (hn:n≤maxLen) (h0:0≤L) (h1:L≤1048576):Calls Tryz.prog 7 #[.agg #[.int .i64 r,.int .i64 c,.slice ad n cap],.int .i64 L] w fun e w'=>e=.returned (.int .i64 (if (n:Int)≤L then L - n else -1))∧Below w.heap.size w w':=by
 have K:=I (fun W=>sz_f32s W ad n cap L hn h0 h1)
 by_cases h:(n:Int)≤L
 ·rw [if_pos h] at K ⊢
  have hp:0≤L - n:=by omega
  go_enter Tryz.func7,Tryz.ntmps7
  go_wp2_with fail
  refine (K.out _).mono ?_
  rintro e w1 ⟨rfl,rfl⟩
  go_wp2
  go_ret
  exact ⟨rfl,below1 _ _⟩
 ·rw [if_neg h] at K ⊢
  go_enter Tryz.func7,Tryz.ntmps7
  go_wp2_with fail
  refine (K.out _).mono ?_
  rintro e w1 ⟨rfl,rfl⟩
  go_wp2
  go_ret
  exact ⟨rfl,below1 _ _⟩
set_option maxHeartbeats 1000000 in
theorem T_eq (w:World) (r c:Int) (a1 a2:Option Addr) (c1 c2:Nat) (xs ys:List Nat) (h1:F32s w a1 c1 xs) (h2:F32s w a2 c2 ys) (hn:xs.length≤1048576) (he:xs.map (cn .f32)=ys.map (cn .f32)) :
  Calls Tryz.prog 15 #[.agg #[.int .i64 r,.int .i64 c,.slice a1 xs.length c1],.agg #[.int .i64 r,.int .i64 c,.slice a2 ys.length c2]] w fun e w'=>e=.returned (.bool true)∧Below w.heap.size w w':=by
 have b2:=below2 w (.cells #[.int .i64 r,.int .i64 c,.slice a1 xs.length c1] 37) (.cells #[.int .i64 r,.int .i64 c,.slice a2 ys.length c2] 37)
 have K:=I (laws_eqFloat32S a1 a2 c1 c2 xs ys _ (h1.below b2) (h2.below b2) hn he)
 have B:=I b2
 obtain ⟨n,hN⟩:∃n,n=xs.length:=⟨_,rfl⟩
 obtain ⟨m,hM⟩:∃m,m=ys.length:=⟨_,rfl⟩
 rw [←hN,←hM] at K B ⊢
 clear b2 h1 h2 hn he hN hM
 go_enter Tryz.func15,Tryz.ntmps15
 go_wp2_with fail
 refine K.out.mono ?_
 rintro e w1 ⟨rfl,hd⟩
 go_wp2
 go_ret
 exact ⟨rfl,bthen B.out hd.below⟩
theorem T_mark (w:World) {lo hi:Nat} (r c:Int) {ad:Option Addr} {n cap:Nat} {xs:List Nat} (k0:Nat) (h:RepF w lo hi ad n cap xs) (hhi:hi≤w.heap.size) (hn:n≤1048576) (hk:k0≤100000000) :
  Calls Tryz.prog 17 #[.agg #[.int .i64 r,.int .i64 c,.slice ad n cap],.int .i64 k0] w fun e w'=>e=.returned (.int .i64 (k0+n:Nat))∧RepF w' lo hi ad n cap (markF k0 n)∧Touch lo hi w w':=by
 have K:=I (fun W (hW:RepF W lo hi ad n cap xs)=>F_mark W k0 hW hn hk)
 have b1:=below1 w (.cells #[.int .i64 r,.int .i64 c,.slice ad n cap] 37)
 have H:=I (h.below b1);have B:=I b1
 clear h b1
 go_enter Tryz.func17,Tryz.ntmps17
 go_wp2_with fail
 refine (K.out _ H.out).mono ?_
 rintro e w1 ⟨rfl,hr,ht⟩
 go_wp2
 go_ret
 exact ⟨rfl,hr,(Touch.of_below B.out).trans ht⟩

def sumBy {α:Type} (f:α→Nat) (us:List α) (k:Nat):Nat:=((us.take k).map f).sum
theorem sumBy_zero {α:Type} (f:α→Nat) (us:List α):sumBy f us 0=0:=by simp [sumBy]
theorem sumBy_succ {α:Type} (f:α→Nat) {us:List α} {k:Nat} {a:α} (h:us[k]? = some a):sumBy f us (k+1)=sumBy f us k+f a:=by
 obtain ⟨hk,rfl⟩:=List.getElem?_eq_some_iff.1 h
 unfold sumBy
 rw [List.take_succ_eq_append_getElem hk,List.map_append,List.sum_append]
 simp
theorem sumBy_le {α:Type} (f:α→Nat) (us:List α) {k n:Nat} (h:k≤n):sumBy f us k≤sumBy f us n:=by
 unfold sumBy
 have:us.take n=us.take k ++ (us.take n).drop k:=by
  have:=(List.take_append_drop k (us.take n)).symm
  rwa [List.take_take,Nat.min_eq_left h] at this
 rw [this,List.map_append,List.sum_append];omega
theorem sumBy_mem {α:Type} (f:α→Nat) {us:List α} {a:α} (h:a∈us):f a≤sumBy f us us.length:=by
 unfold sumBy
 rw [List.take_length]
 induction us with
 | nil=>cases h
 | cons x xs ih =>
  rw [List.map_cons,List.sum_cons]
  rcases List.mem_cons.1 h with rfl | h
  ·omega
  ·have:=ih h;omega
def leftBy {α:Type} (f:α→Nat) (us:List α) (L:Int):Int:=if (us.length+sumBy f us us.length:Nat)≤L then L - (us.length+sumBy f us us.length:Nat) else -1
theorem getElem?_lt {α:Type} {us:List α} {k:Nat} (h:k < us.length):∃a,us[k]? = some a:=⟨us[k],List.getElem?_eq_getElem h⟩
theorem info_op:(Tryz.prog.info? 74).map (fun i=>(i.zero,i.size,i.bytes))=some (some (.agg #[.int .i64 0,.int .i64 0,.int .i64 0,.float .f32 0,.int .i64 0,.int .i64 0,.slice none 0 0]),7,72):=by kernel_rfl
theorem info_ten:(Tryz.prog.info? 37).map (fun i=>(i.zero,i.size,i.bytes))=some (some (.agg #[.int .i64 0,.int .i64 0,.slice none 0 0]),3,40):=by kernel_rfl
theorem made_flat {α:Type} (R:RecT α) (z:α) (n:Nat) (cs:Array Value) (hcs:cs.toList=R.cells z) (hs:0 < R.size):(madeCells cs (n * R.size)).toList=(List.replicate n z).flatMap R.cells:=by
 have hsz:cs.size=R.size:=by have:=R.len z;rw [←hcs] at this;simpa using this
 apply List.ext_getElem?
 intro j
 by_cases hj:j < n * R.size
 ·have hk:j / R.size < n:=(Nat.div_lt_iff_lt_mul hs).2 hj
  have hm:=Nat.mod_lt j hs
  have e:j=(j / R.size) * R.size+j % R.size:=by rw [Nat.mul_comm];exact (Nat.div_add_mod j R.size).symm
  have e2:=flat_at R (List.replicate n z) (k:=j / R.size) (j:=j % R.size) (a:=z) (by rw [List.getElem?_replicate,if_pos hk]) hm
  rw [←e] at e2
  rw [e2,←hcs]
  have hm2:j % cs.size < cs.size:=by rw [hsz];exact hm
  simp [madeCells,hj,hsz]
  rw [getElem!_pos cs (j % R.size) (by rw [hsz];exact hm),Array.getElem?_eq_getElem (by rw [hsz];exact hm)]
 ·rw [List.getElem?_eq_none (by simp [madeCells];omega),List.getElem?_eq_none (by rw [flat_len];simp;omega)]
theorem set_take {α β:Type} (f:α→β) {us:List α} {vs:List β} {k:Nat} {a:α} {b:β} (h:us.map f=vs.take k ++ (us.map f).drop k) (hk:k < us.length) (hl:us.length=vs.length) (hv:vs[k]? = some b) (hb:f a=b):(us.set k a).map f=vs.take (k+1) ++ ((us.set k a).map f).drop (k+1):=by
 have hkv:k < vs.length:=by omega
 have e1:((us.map f).take k)=vs.take k:=by rw [h,List.take_append_of_le_length (by simp;omega),List.take_take];simp
 have e2:(us.set k a).map f=(us.map f).set k b:=by rw [List.map_set,hb]
 rw [e2]
 obtain ⟨h3,rfl⟩:=List.getElem?_eq_some_iff.1 hv
 rw [List.take_succ_eq_append_getElem hkv,←e1,List.drop_set,if_pos (by omega),List.set_eq_take_append_cons_drop,if_pos (by simpa using hk)]
 simp
theorem op_own {w:World} {lo hi n cap:Nat} {ad:Option Addr} {us:List OpD} (h:OwnR opR w lo hi ad n cap us) {k:Nat} {o:OpD} (hk:us[k]? = some o):∃g,ad=some ⟨g,0,none⟩∧(lo≤g∧g < hi∧g < w.heap.size) ∧
  (w.cell? ⟨g,k * 7,none⟩=some (.int .i64 o.k)∧w.cell? ⟨g,k * 7+1,none⟩=some (.int .i64 o.a)∧w.cell? ⟨g,k * 7+2,none⟩=some (.int .i64 o.b)∧w.cell? ⟨g,k * 7+3,none⟩=some (.float .f32 o.num)∧w.cell? ⟨g,k * 7+4,none⟩=some (.int .i64 o.r)∧w.cell? ⟨g,k * 7+5,none⟩=some (.int .i64 o.c)∧w.cell? ⟨g,k * 7+6,none⟩=some (.slice o.ad o.xs.length o.cap)) ∧
  (∀j,w.frozen? ⟨g,j,none⟩=false)∧RepF w lo hi o.ad o.xs.length o.cap o.xs:=by
 obtain ⟨g,e,hr,hc,hf⟩:=h.spot hk (by decide)
 have hm:=List.mem_of_getElem? hk
 refine ⟨g,e,hr,⟨hc 0 (by decide),hc 1 (by decide),hc 2 (by decide),hc 3 (by decide),hc 4 (by decide),hc 5 (by decide),hc 6 (by decide)⟩,hf,h.own.repF (List.mem_cons_of_mem _ (List.mem_flatMap.2 ⟨o,hm,List.mem_singleton.2 rfl⟩)) (h.ok o hm).1⟩

theorem set_same {α:Type} {us:List α} {i:Nat} {a:α} (h:us[i]? = some a):us.set i a=us:=by
 obtain ⟨hi,rfl⟩:=List.getElem?_eq_some_iff.1 h
 exact List.set_getElem_self hi
theorem set_mid {α:Type} (A B:List α) (o p:α):(A ++ o :: B).set A.length p=A ++ p :: B:=by
 rw [List.set_append,if_neg (by omega),Nat.sub_self,List.set_cons_zero]
theorem get_mid {α:Type} (A B:List α) (o:α):(A ++ o :: B)[A.length]? = some o:=by
 rw [List.getElem?_append_right (Nat.le_refl _),Nat.sub_self];rfl
theorem setL_append (vs:List Value) (i:Nat) (cs ds:List Value):setL vs i (cs ++ ds)=setL (setL vs i cs) (i+cs.length) ds:=by
 induction cs generalizing vs i with
 | nil=>rfl
 | cons c cs ih =>
  show setL (vs.set i c) (i+1) (cs ++ ds) = _
  rw [ih,List.length_cons,Nat.add_right_comm,Nat.add_assoc];rfl
theorem setL_get (vs:List Value) (i:Nat) (cs:List Value) (j:Nat) (h:j < i∨i+cs.length≤j):(setL vs i cs)[j]? = vs[j]?:=by
 induction cs generalizing vs i with
 | nil=>rfl
 | cons c cs ih =>
  show (setL (vs.set i c) (i+1) cs)[j]? = _
  rw [ih _ _ (by simp at h;omega),List.getElem?_set_ne (by simp at h;omega)]




end
section
open Go Go.RowKit Ieee
theorem RepF.nilcap {w:World} {lo hi:Nat} {ad:Option Addr} {n cap:Nat} {xs:List Nat} (h:RepF w lo hi ad n cap xs):ad=none→cap=0:=by
 intro e
 subst e
 rcases h.row.own.2 with ⟨h1,_⟩ | ⟨g,cap',cur,h1,_⟩
 ·cases h1;rfl
 ·cases h1
theorem wp_cat {P:Program} {ops:Array Oper} {rest:List Oper} {o:Oper} {a:Act} {Q:Exit→Act→World→Prop} {e:TypeId} {W:World} (hgd:o.guard=none) (s x:Operand) (t:TypeId)
  (ho:o.op=.call { callee:=.builtin .append,args:=#[s,x],argTypes:=#[t,t] })
  (base:Nat) (i:TypeInfo) (z:Value) (bytes:Nat) (ht:P.underlying t=some (.slice e)) (hi:P.info? e=some i) (hz:i.zero=some z)
  (hsize:i.size=1) (hby:i.bytes=bytes) (hzs:z.cells.size=1)
  (v:Value) (n:Nat) (xs:List Value) (hs:a.eval s=v) (hown:W.ownsRow base e 1 v n xs)
  (ad:Option Addr) (m c:Nat) (news:List Value) (hx:a.eval x=.slice ad m c) (hn:ad=none→c=0) (hl:news.length=m) (hr:Rd W ad news) (h1:∀u∈news,u.oneCell'=true)
  (h63:n+m≤maxLen) (hbytes:(n+m) * bytes≤140737488355328) (hbase:base≤W.heap.size)
  (h:∀v' w',w'.ownsRow base e 1 v' (n+m) (xs ++ news)→Below base W w'→base≤w'.heap.size→wpList P ops Q rest (a.put o.dst v') w'):wpList P ops Q (o :: rest) a W:=by
 cases ad with
 | none =>
  obtain rfl:=hn rfl
  have h0:news=[]:=by
   rcases hr with hr | ⟨b,off,hb,_⟩
   ·exact hr
   ·cases hb
  subst h0
  obtain rfl:m=0:=hl.symm
  exact wpList_append_own_none hgd s x t ho base e i 1 ht hi v n xs hs hown hx (h v W (by simpa using hown) (Below.refl _ _) hbase)
 | some p =>
  refine wpList_append_own W hgd s x t ho base e i z 1 bytes ht hi hz hsize hby hzs (by decide) v n xs hs hown p m c news hx (by omega) ?_ h1 h63 hbytes hbase ?_
  ·intro j u hj
   rcases hr with hr | ⟨b,off,hb,_,hc⟩
   ·rw [hr] at hj;cases hj
   ·cases hb
    have hlt:j < news.length:=(List.getElem?_eq_some_iff.1 hj).1
    rw [Addr.add_lit];exact (hc j hlt).trans hj
  ·intro v' w' h2 hg _
   refine h v' w' h2 ((Below.refl _ _).grown hg hbase (fun j hj=>(hown.lt j hj).1)) (Nat.le_trans hbase hg.size)
set_option maxRecDepth 100000 in
theorem spec_l02Own (w:World) (ad:Option Addr) (cap:Nat) (xs:List Nat) (h:F32s w ad cap xs) (hc:ad=none→cap=0) (hn:xs.length≤1048576) :
  Calls Tryz.prog 100 #[.slice ad xs.length cap] w fun e w' => ∃(v:Value),e=.returned v∧w'.ownsRow w.heap.size 28 1 v xs.length (xs.map (Value.float .f32))∧Below w.heap.size w w':=by
 obtain ⟨i0,hi,hz0,hz1,hz2⟩:=info_parts info_f32
 obtain ⟨n,hN⟩:∃n,n=xs.length:=⟨_,rfl⟩
 have hr:=h.rd
 have h1:∀u∈xs.map (Value.float .f32),u.oneCell'=true:=by intro u hu;obtain ⟨x,_,rfl⟩:=List.mem_map.1 hu;rfl
 have hl:(xs.map (Value.float .f32)).length=n:=by rw [List.length_map,hN]
 rw [←hN] at hn ⊢
 have HL:=I hl;clear hN hl h
 go_enter Tryz.func100,Tryz.ntmps100
 go_wp2_with (at_builtin;refine wp_cat rfl _ _ 25 rfl w.heap.size i0 (.float .f32 0) 4 Tryz.underlying25 hi hz0 hz1 hz2 rfl _ 0 [] rfl (World.ownsRow_made _ _ _ (Nat.le_refl _) (Nat.zero_le _) rfl) ad n cap _ rfl hc HL.out (hr.below (below1 _ _) (Nat.le_refl _)) h1 ?c3 ?c4 ?c5 ?_)
 case c3=>unfold maxLen;omega
 case c4=>omega
 case c5=>simp
 intro v' w9 hown1 hb1 hbs1
 go_wp2
 go_ret
 exact ⟨_,rfl,by simpa using hown1,(below1 _ _).trans hb1⟩
set_option maxRecDepth 100000 in
theorem slices_Clone (w:World) (ad:Option Addr) (cap:Nat) (xs:List Nat) (h:F32s w ad cap xs) (hc:ad=none→cap=0) (hn:xs.length≤1048576) :
  Calls Tryz.prog 77 #[.slice ad xs.length cap] w fun e w' => ∃(v:Value),e=.returned v∧w'.ownsRow w.heap.size 28 1 v xs.length (xs.map (Value.float .f32))∧Below w.heap.size w w':=by
 obtain ⟨i0,hi,hz0,hz1,hz2⟩:=info_parts info_f32
 obtain ⟨n,hN⟩:∃n,n=xs.length:=⟨_,rfl⟩
 have hr:=h.rd
 have h1:∀u∈xs.map (Value.float .f32),u.oneCell'=true:=by intro u hu;obtain ⟨x,_,rfl⟩:=List.mem_map.1 hu;rfl
 have hl:(xs.map (Value.float .f32)).length=n:=by rw [List.length_map,hN]
 rw [←hN] at hn ⊢
 have HL:=I hl;clear hN hl h
 cases ad with
 | none =>
  obtain rfl:=hc rfl
  have h0:xs=[]:=by
   rcases hr with hr | ⟨b,off,hb,_⟩
   ·simpa using hr
   ·cases hb
  subst h0
  obtain rfl:n=0:=HL.out.symm
  have he:∀w:World,(binOp .eql 25 (.slice none 0 0) (.slice none 0 0)).run Tryz.prog w=.ok (.bool true) w:=fun _=>rfl
  go_enter Tryz.func77,Tryz.ntmps77
  go_wp2
  go_ret
  exact ⟨_,rfl,World.ownsRow_nil _ _ _ _,Below.refl _ _⟩
 | some p =>
  have he:∀w:World,(binOp .eql 25 (.slice (some p) n cap) (.slice none 0 0)).run Tryz.prog w=.ok (.bool false) w:=fun _=>rfl
  go_enter Tryz.func77,Tryz.ntmps77
  go_wp2_with (at_builtin;refine wp_cat rfl _ _ 25 rfl w.heap.size i0 (.float .f32 0) 4 Tryz.underlying25 hi hz0 hz1 hz2 rfl _ 0 [] rfl (World.ownsRow_made _ _ _ (Nat.le_refl _) (Nat.zero_le _) rfl) (some p) n cap _ rfl (fun h=>nomatch h) HL.out (hr.below (below1 _ _) (Nat.le_refl _)) h1 ?c3 ?c4 ?c5 ?_)
  case c3=>unfold maxLen;omega
  case c4=>omega
  case c5=>simp
  intro v' w9 hown1 hb1 hbs1
  go_wp2
  go_ret
  exact ⟨_,rfl,by simpa using hown1,(below1 _ _).trans hb1⟩
end
section
open Go Go.RowKit
theorem impl_isTensorSide (n:Int) (w:World):Calls Tryz.prog 88 #[.int .i64 n] w fun e w'=>e=.returned (.bool (inB n 1 16))∧w=w':=by
 have k1:=fun W=>within_any n 1 16 W
 go_enter Tryz.func88,Tryz.ntmps88
 go_wp2_with fail
 refine (k1 _).mono ?_
 rintro e w1 ⟨rfl,rfl⟩
 go_wp2
 go_ret
 exact ⟨rfl,rfl⟩
def tenB (r c:Int) (n:Nat):Bool:=inB r 1 16 && (inB c 1 16 && decide ((n:Int)=r * c))
theorem tenB_iff {r c:Int} {n:Nat}:tenB r c n=true ↔ (1≤r∧r≤16)∧(1≤c∧c≤16)∧(n:Int)=r * c:=by
 unfold tenB;simp only [Bool.and_eq_true,inB_iff,decide_eq_true_eq]
set_option maxHeartbeats 1000000 in
theorem impl_ValidTensor (r c:Int) (ad:Option Addr) (n cap:Nat) (hn:n≤maxLen) (w:World):Calls Tryz.prog 61 #[.agg #[.int .i64 r,.int .i64 c,.slice ad n cap]] w fun e w'=>e=.returned (.bool (tenB r c n))∧Below w.heap.size w w':=by
 unfold maxLen at hn
 have K1:=I (fun W=>impl_isTensorSide r W)
 have K2:=I (fun W=>impl_isTensorSide c W)
 have ht:tenB r c n=(inB r 1 16 && (inB c 1 16 && decide ((n:Int)=r * c))):=rfl
 rw [ht]
 clear ht
 cases h1:inB r 1 16
 ·rw [h1] at K1
  clear h1
  go_enter Tryz.func61,Tryz.ntmps61
  go_wp2_with fail
  refine (K1.out _).mono ?_
  rintro e w1 ⟨rfl,rfl⟩
  go_wp2
  go_ret
  exact ⟨rfl,below1 _ _⟩
 ·rw [h1] at K1
  have ⟨a1,a2⟩:=inB_iff.1 h1
  clear h1
  cases h2:inB c 1 16
  ·rw [h2] at K2
   clear h2
   go_enter Tryz.func61,Tryz.ntmps61
   go_wp2_with fail
   refine (K1.out _).mono ?_
   rintro e w1 ⟨rfl,rfl⟩
   go_wp2_with fail
   refine (K2.out _).mono ?_
   rintro e w1 ⟨rfl,rfl⟩
   go_wp2
   go_ret
   exact ⟨rfl,below1 _ _⟩
  ·rw [h2] at K2
   have ⟨b1,b2⟩:=inB_iff.1 h2
   clear h2
   obtain ⟨p,hp⟩:∃p,p=r * c:=⟨_,rfl⟩
   have p1:0≤p:=by rw [hp];exact Int.mul_nonneg (by omega) (by omega)
   have p2:p≤256:=by
    rw [hp]
    have h3:r * c≤16 * c:=Int.mul_le_mul_of_nonneg_right a2 (by omega)
    omega
   rw [←hp]
   have hpw:wrap64 (r * c)=p:=by rw [←hp];unfold wrap64;omega
   clear hp
   go_enter Tryz.func61,Tryz.ntmps61
   go_wp2_with fail
   refine (K1.out _).mono ?_
   rintro e w1 ⟨rfl,rfl⟩
   go_wp2_with fail
   refine (K2.out _).mono ?_
   rintro e w1 ⟨rfl,rfl⟩
   go_wp2
   go_ret
   exact ⟨by congr 2,below1 _ _⟩
end
section
open Go Go.RowKit Ieee

end
section
open Go Go.RowKit
abbrev Sh:=Int × Int
def twoB (k:Int):Bool:=k == 1 || (k == 2 || (k == 3 || (k == 4 || k == 6)))
def zeroB (x:Nat):Bool:=decide (cn .f32 x=cn .f32 0)
def fitsB (i:Int) (o:OpP):Bool :=
 inB o.k 0 10 && ((o.k == 5 || zeroB o.num) && (if o.k=0 then (o.a == 0 && (o.b == 0 && tenB o.r o.c o.xs.length)) else (o.r == 0 && (o.c == 0 && (decide (o.xs.length=0) && (inB o.a 0 (i - 1) && (if twoB o.k=true then inB o.b 0 (i - 1) else o.b == 0)))))))
def shapeOf (k:Int) (v w:Sh):Option Sh :=
 if k=1∨k=3 then (if v=w then some v else none)
 else if k=2∨k=4 then (if w=(1,v.2) then some v else none)
 else if k=6 then (if v.2=w.1 then some (v.1,w.2) else none)
 else if k=7 then some (v.2,v.1)
 else if k=10 then some (1,1)
 else some v
def shGet (S:List Sh) (i:Int):Sh:=S.getD i.toNat (0,0)
def stepSh (S:List Sh) (o:OpP):Option (List Sh) :=
 if fitsB S.length o=true then (if o.k=0 then some (S ++ [(o.r,o.c)]) else (shapeOf o.k (shGet S o.a) (shGet S o.b)).map fun s=>S ++ [s]) else none
def shapesN (os:List OpP) (k:Nat):Option (List Sh):=(os.take k).foldlM stepSh []
def shapesP (os:List OpP):Option (List Sh):=if 1≤os.length∧os.length≤48 then shapesN os os.length else none
theorem shapesN_succ {os:List OpP} {k:Nat} {o:OpP} (h:os[k]? = some o):shapesN os (k+1)=(shapesN os k).bind fun S=>stepSh S o:=by
 obtain ⟨hk,rfl⟩:=List.getElem?_eq_some_iff.1 h
 unfold shapesN
 rw [List.take_succ_eq_append_getElem hk,List.foldlM_append]
 simp [List.foldlM]
theorem stepSh_length {S S':List Sh} {o:OpP} (h:stepSh S o=some S'):S'.length=S.length+1:=by
 unfold stepSh at h
 split at h
 ·split at h
  ·cases h;simp
  ·cases e:shapeOf o.k (shGet S o.a) (shGet S o.b) with
   | none=>rw [e] at h;cases h
   | some s=>rw [e] at h;cases h;simp
 ·cases h
theorem shapesN_length {os:List OpP} {k:Nat} {S:List Sh} (hk:k≤os.length) (h:shapesN os k=some S):S.length=k:=by
 induction k generalizing S with
 | zero=>unfold shapesN at h;simp at h;subst h;rfl
 | succ k ih =>
  obtain ⟨o,ho⟩:=getElem?_lt (show k < os.length by omega)
  rw [shapesN_succ ho] at h
  cases e:shapesN os k with
  | none=>rw [e] at h;cases h
  | some S0 =>
   rw [e] at h
   have:=stepSh_length h
   rw [this,ih (by omega) e]
theorem shapesN_none {os:List OpP} {k n:Nat} (h:shapesN os k=none) (hk:k≤n) (hn:n≤os.length):shapesN os n=none:=by
 induction n with
 | zero=>have:k=0:=by omega
         subst this;exact h
 | succ n ih =>
  by_cases e:k=n+1
  ·subst e;exact h
  ·obtain ⟨o,ho⟩:=getElem?_lt (show n < os.length by omega)
   rw [shapesN_succ ho,ih (by omega) (by omega)];rfl
theorem spec_l02Shape (r c:Int) (w:World):Calls Tryz.prog 81 #[.int .i64 r,.int .i64 c] w fun e w'=>e=.returned (.bool (inB r 1 16 && inB c 1 16))∧w=w':=by
 have K1:=I (fun W=>l00In_any r 1 16 W)
 have K2:=I (fun W=>l00In_any c 1 16 W)
 cases h1:inB r 1 16
 ·rw [h1] at K1
  clear h1
  go_enter Tryz.func81,Tryz.ntmps81
  go_wp2_with fail
  refine (K1.out _).mono ?_
  rintro e w1 ⟨rfl,rfl⟩
  go_wp2
  go_ret
  exact ⟨rfl,rfl⟩
 ·rw [h1] at K1
  clear h1
  go_enter Tryz.func81,Tryz.ntmps81
  go_wp2_with fail
  refine (K1.out _).mono ?_
  rintro e w1 ⟨rfl,rfl⟩
  go_wp2_with fail
  refine (K2.out _).mono ?_
  rintro e w1 ⟨rfl,rfl⟩
  go_wp2
  go_ret
  exact ⟨rfl,rfl⟩
set_option maxHeartbeats 2000000 in
theorem spec_l02Is (w:World) (g o:Nat) (r c:Int) (ad:Option Addr) (n cap:Nat) (hn:n≤maxLen) (p0:w.cell? ⟨g,o,none⟩=some (.int .i64 r)) (p1:w.cell? ⟨g,o+1,none⟩=some (.int .i64 c)) (p2:w.cell? ⟨g,o+2,none⟩=some (.slice ad n cap)) :
  Calls Tryz.prog 54 #[.pointer (some ⟨g,o,none⟩)] w fun e w'=>e=.returned (.bool (tenB r c n))∧Dr w w':=by
 unfold maxLen at hn
 have KS:=I (fun W=>spec_l02Shape r c W)
 have ht:tenB r c n=((inB r 1 16 && inB c 1 16) && decide ((n:Int)=r * c)):=by unfold tenB;rw [Bool.and_assoc]
 rw [ht]
 clear ht
 obtain ⟨p,hp⟩:∃p,p=r * c:=⟨_,rfl⟩
 cases h1:(inB r 1 16 && inB c 1 16)
 ·rw [h1] at KS
  clear h1 hp
  go_enter Tryz.func54,Tryz.ntmps54
  go_wp2
  refine wp_region_drawn (fun f args v=>v=.bool false) (by kernel_rfl) (by kernel_rfl) ?_
  repeat (refine wset_step (fun K hK nq=>?_);go_simp;refine hK _ ?_;clear hK K)
  refine wset_step (fun K hK nq=>?_)
  go_simp
  refine ⟨(KS.out _).mono ?_,?_⟩
  ·rintro e w' ⟨rfl,rfl⟩
   exact ⟨rfl,_,rfl⟩
  refine hK _ ?_
  clear hK K
  repeat (refine wset_step (fun K hK nq=>?_);go_simp;refine hK _ ?_;clear hK K)
  refine wset_nil ?_
  rintro w' ⟨q,rfl⟩
  go_wp2
  go_ret
  exact ⟨rfl,_,rfl⟩
 ·rw [h1] at KS
  simp only [Bool.and_eq_true] at h1
  have ⟨a1,a2⟩:=inB_iff.1 h1.1
  have ⟨b1,b2⟩:=inB_iff.1 h1.2
  have q1:0≤p:=by rw [hp];exact Int.mul_nonneg (by omega) (by omega)
  have q2:p≤256:=by
   rw [hp]
   have h3:r * c≤16 * c:=Int.mul_le_mul_of_nonneg_right a2 (by omega)
   omega
  rw [←hp]
  have hpw:IntKind.i64.wrap (r * c)=p:=by rw [←hp,IntKind.wrap_i64];omega
  have hq:((n:Int) == IntKind.i64.wrap (r * c))=decide ((n:Int)=p):=by rw [hpw];rfl
  have HQ:=I hq
  clear hp h1 a1 a2 b1 b2 hpw hq
  go_enter Tryz.func54,Tryz.ntmps54
  go_wp2
  refine wp_region_drawn (fun f args v=>v=.bool true) (by kernel_rfl) (by kernel_rfl) ?_
  repeat (refine wset_step (fun K hK nq=>?_);go_simp;refine hK _ ?_;clear hK K)
  refine wset_step (fun K hK nq=>?_)
  go_simp
  refine ⟨(KS.out _).mono ?_,?_⟩
  ·rintro e w' ⟨rfl,rfl⟩
   exact ⟨rfl,_,rfl⟩
  refine hK _ ?_
  clear hK K
  repeat (refine wset_step (fun K hK nq=>?_);go_simp;refine hK _ ?_;clear hK K)
  refine wset_nil ?_
  rintro w' ⟨q,rfl⟩
  go_wp2
  go_ret
  refine ⟨?_,_,rfl⟩
  show Ending.returned (Value.bool _)=Ending.returned (Value.bool _)
  rw [HQ.out];rfl
theorem spec_l04Two (k:Int) (w:World):Calls Tryz.prog 115 #[.int .i64 k] w fun e w'=>e=.returned (.bool (twoB k))∧w=w':=by
 rcases (by omega:k=1∨k=2∨k=3∨k=4∨k=6∨(k≠1∧k≠2∧k≠3∧k≠4∧k≠6)) with rfl | rfl | rfl | rfl | rfl | ⟨h1,h2,h3,h4,h6⟩
 rotate_right
 ·have h1:(k == 1)=false:=by simpa using h1
  have h2:(k == 2)=false:=by simpa using h2
  have h3:(k == 3)=false:=by simpa using h3
  have h4:(k == 4)=false:=by simpa using h4
  have h6:(k == 6)=false:=by simpa using h6
  unfold twoB
  go_enter Tryz.func115,Tryz.ntmps115
  go_wp2
  go_ret
  refine ⟨?_,rfl⟩
  rw [h1,h2,h3,h4,h6];rfl
 all_goals
  go_enter Tryz.func115,Tryz.ntmps115
  go_wp2
  go_ret
  exact ⟨rfl,rfl⟩
theorem impl_takesTwo (k:Int) (w:World):Calls Tryz.prog 97 #[.int .i64 k] w fun e w'=>e=.returned (.bool (twoB k))∧w=w':=by
 rcases (by omega:k=1∨k=2∨k=3∨k=4∨k=6∨(k≠1∧k≠2∧k≠3∧k≠4∧k≠6)) with rfl | rfl | rfl | rfl | rfl | ⟨h1,h2,h3,h4,h6⟩
 rotate_right
 ·have h1:(k == 1)=false:=by simpa using h1
  have h2:(k == 2)=false:=by simpa using h2
  have h3:(k == 3)=false:=by simpa using h3
  have h4:(k == 4)=false:=by simpa using h4
  have h6:(k == 6)=false:=by simpa using h6
  unfold twoB
  go_enter Tryz.func97,Tryz.ntmps97
  go_wp2
  go_ret
  refine ⟨?_,rfl⟩
  rw [h1,h2,h3,h4,h6];rfl
 all_goals
  go_enter Tryz.func97,Tryz.ntmps97
  go_wp2
  go_ret
  exact ⟨rfl,rfl⟩
theorem fitsB_in {i:Int} {o:OpP} (h:fitsB i o=true):0≤o.k∧o.k≤10:=by
 unfold fitsB at h
 simp only [Bool.and_eq_true] at h
 exact inB_iff.1 h.1
theorem fitsB_args {i:Int} {o:OpP} (h:fitsB i o=true) (h0:o.k≠0):(0≤o.a∧o.a≤i - 1)∧(0≤o.b∧o.b≤i - 1)∧(o.r=0∧o.c=0∧o.xs=[]):=by
 unfold fitsB at h
 rw [if_neg h0] at h
 simp only [Bool.and_eq_true,beq_iff_eq,decide_eq_true_eq] at h
 obtain ⟨_,_,h1,h2,h3,h4,h5⟩:=h
 have ⟨a1,a2⟩:=inB_iff.1 h4
 refine ⟨⟨a1,a2⟩,?_,h1,h2,List.eq_nil_of_length_eq_zero h3⟩
 split at h5
 ·exact inB_iff.1 h5
 ·have:o.b=0:=by simpa using h5
  omega
theorem fitsB_input {i:Int} {o:OpP} (h:fitsB i o=true) (h0:o.k=0):o.a=0∧o.b=0∧tenB o.r o.c o.xs.length=true:=by
 unfold fitsB at h
 rw [if_pos h0] at h
 simp only [Bool.and_eq_true,beq_iff_eq] at h
 exact ⟨h.2.2.1,h.2.2.2.1,h.2.2.2.2⟩
def sideP (s:Sh):Prop:=(1≤s.1∧s.1≤16)∧(1≤s.2∧s.2≤16)
theorem shGet_mem {S:List Sh} {i:Int} (h0:0≤i) (h1:i≤S.length - 1):shGet S i∈S:=by
 have hl:i.toNat < S.length:=by omega
 unfold shGet
 rw [List.getD_eq_getElem?_getD,List.getElem?_eq_getElem hl]
 exact List.getElem_mem hl
theorem shapeOf_side {k:Int} {v w s:Sh} (hv:sideP v) (hw:sideP w) (h:shapeOf k v w=some s):sideP s:=by
 unfold shapeOf at h
 unfold sideP at hv hw ⊢
 split at h
 ·split at h
  ·cases h;exact hv
  ·cases h
 ·split at h
  ·split at h
   ·cases h;exact hv
   ·cases h
  ·split at h
   ·split at h
    ·cases h;exact ⟨hv.1,hw.2⟩
    ·cases h
   ·split at h
    ·cases h;exact ⟨hv.2,hv.1⟩
    ·split at h
     ·cases h;exact ⟨⟨by decide,by decide⟩,⟨by decide,by decide⟩⟩
     ·cases h;exact hv
theorem stepSh_side {S S':List Sh} {o:OpP} (hS:∀s∈S,sideP s) (h:stepSh S o=some S'):∀s∈S',sideP s:=by
 unfold stepSh at h
 split at h
 ·rename_i hf
  by_cases hk:o.k=0
  ·rw [if_pos hk] at h
   cases h
   intro s hs
   rcases List.mem_append.1 hs with hs | hs
   ·exact hS s hs
   ·have e:s=(o.r,o.c):=by simpa using hs
    subst e
    have:=tenB_iff.1 (fitsB_input hf hk).2.2
    exact ⟨this.1,this.2.1⟩
  ·rw [if_neg hk] at h
   have ha:=fitsB_args hf hk
   cases e:shapeOf o.k (shGet S o.a) (shGet S o.b) with
   | none=>rw [e] at h;cases h
   | some t =>
    rw [e] at h
    cases h
    intro s hs
    rcases List.mem_append.1 hs with hs | hs
    ·exact hS s hs
    ·have e2:s=t:=by simpa using hs
     subst e2
     exact shapeOf_side (hS _ (shGet_mem ha.1.1 ha.1.2)) (hS _ (shGet_mem ha.2.1.1 ha.2.1.2)) e
 ·cases h
theorem shapesN_side {os:List OpP} {k:Nat} {S:List Sh} (hk:k≤os.length) (h:shapesN os k=some S):∀s∈S,sideP s:=by
 induction k generalizing S with
 | zero=>unfold shapesN at h;simp at h;subst h;intro s hs;cases hs
 | succ k ih =>
  obtain ⟨o,ho⟩:=getElem?_lt (show k < os.length by omega)
  rw [shapesN_succ ho] at h
  cases e:shapesN os k with
  | none=>rw [e] at h;cases h
  | some S0=>rw [e] at h;exact stepSh_side (ih (by omega) e) h
theorem shapesP_some {os:List OpP} {S:List Sh} (h:shapesP os=some S):(1≤os.length∧os.length≤48)∧shapesN os os.length=some S∧S.length=os.length∧∀s∈S,sideP s:=by
 unfold shapesP at h
 split at h
 ·rename_i hl
  exact ⟨hl,h,shapesN_length (Nat.le_refl _) h,shapesN_side (Nat.le_refl _) h⟩
 ·cases h
def stepU (U:List Bool) (i:Nat) (o:OpP):List Bool :=
 if U.getD i false=true∧o.k≠0 then (if twoB o.k=true then (U.set o.a.toNat true).set o.b.toNat true else U.set o.a.toNat true) else U
def opAtP (os:List OpP) (i:Nat):OpP:=os.getD i ⟨0,0,0,0,0,0,[]⟩
def usedM (os:List OpP):Nat→List Bool
 | 0=>(List.replicate os.length false).set (os.length - 1) true
 | m+1=>stepU (usedM os m) (os.length - 1 - m) (opAtP os (os.length - 1 - m))
theorem stepU_length (U:List Bool) (i:Nat) (o:OpP):(stepU U i o).length=U.length:=by
 unfold stepU;split
 ·split <;> simp
 ·rfl
theorem usedM_length (os:List OpP) (m:Nat):(usedM os m).length=os.length:=by
 induction m with
 | zero=>simp [usedM]
 | succ m ih=>rw [usedM,stepU_length,ih]
theorem opAtP_some {os:List OpP} {i:Nat} {o:OpP} (h:os[i]? = some o):opAtP os i=o:=by
 unfold opAtP;rw [List.getD_eq_getElem?_getD,h];rfl
theorem shapesN_fit {os:List OpP} {k:Nat} {S:List Sh} (hk:k≤os.length) (h:shapesN os k=some S):∀i o,i < k→os[i]? = some o→fitsB i o=true:=by
 induction k generalizing S with
 | zero=>intro i o hi;omega
 | succ k ih =>
  obtain ⟨o,ho⟩:=getElem?_lt (show k < os.length by omega)
  rw [shapesN_succ ho] at h
  cases e:shapesN os k with
  | none=>rw [e] at h;cases h
  | some S0 =>
   rw [e] at h
   intro i p hi hp
   by_cases hik:i=k
   ·subst hik
    rw [ho] at hp;cases hp
    have hl:=shapesN_length (by omega) e
    have h2:stepSh S0 o=some S:=h
    unfold stepSh at h2
    split at h2
    ·rename_i hf;rw [hl] at hf;exact hf
    ·cases h2
   ·exact ih (by omega) e i p (by omega) hp
theorem valid_fit {os:List OpP} {S:List Sh} (h:shapesP os=some S) {i:Nat} {o:OpP} (ho:os[i]? = some o):fitsB i o=true :=
 shapesN_fit (Nat.le_refl _) (shapesP_some h).2.1 i o (List.getElem?_eq_some_iff.1 ho).1 ho

theorem wp_appA {P:Program} {ops:Array Oper} {rest:List Oper} {o:Oper} {a:Act} {Q:Exit→Act→World→Prop} {e:TypeId} {W:World} {cs:Array Value} (hgd:o.guard=none) (s x:Operand) (t:TypeId)
  (ho:o.op=.call { callee:=.builtin .append,args:=#[s,x],argTypes:=#[t,t] })
  (base:Nat) (i:TypeInfo) (z:Value) (size bytes:Nat) (ht:P.underlying t=some (.slice e)) (hi:P.info? e=some i) (hz:i.zero=some z)
  (hsize:i.size=size) (hby:i.bytes=bytes) (hzs:z.cells.size=size) (hsz:0 < size)
  (hcs:cs.size=size) (h1:∀u∈cs.toList,u.oneCell'=true)
  (v:Value) (n:Nat) (xs:List Value) (hs:a.eval s=v) (hown:W.ownsRow base e size v n xs) (hx:a.eval x=.slice (some ⟨W.heap.size,0,none⟩) 1 1)
  (h63:n+1≤maxLen) (hbytes:(n+1) * bytes≤140737488355328) (hbase:base≤W.heap.size)
  (h:∀v' w',w'.ownsRow base e size v' (n+1) (xs ++ cs.toList)→(W.alloc (.cells cs e)).grownBy w' v.ownBlock→(v'.ownBlock=v.ownBlock∨v'.ownBlock=some (W.heap.size+1))→Below base W w'→base≤w'.heap.size→wpList P ops Q rest (a.put o.dst v') w'):wpList P ops Q (o :: rest) a (W.alloc (.cells cs e)):=by
 refine wpList_append_own_at (W.alloc (.cells cs e)) hgd s x t ho base e i z size bytes ht hi hz hsize hby hzs hsz v n xs hs (hown.alloc _) ⟨W.heap.size,0,none⟩ 1 1 cs.toList hx (by simpa using hcs) ?_ h1 h63 hbytes (by simp;omega) ?_
 ·intro j u hj
  rw [Addr.add_lit,World.cell?_alloc_at _ _ _ _ rfl]
  simpa using hj
 ·intro v' w' h2 hg _ hat
  have hb:Below base W w':=((Below.refl _ _).alloc hbase _).grown hg (by simp;omega) (fun j hj=>(hown.lt j hj).1)
  refine h v' w' h2 hg (by simpa using hat) hb ?_
  have:=hg.size
  simp at this
  omega

theorem info_bool:(Tryz.prog.info? 4).map (fun i=>(i.zero,i.size,i.bytes))=some (some (.bool false),1,1):=by kernel_rfl



theorem impl_row (w:World) (r c:Nat) (ad:Option Addr) (n cap:Nat) (hn:n=r * c) (hc1:1≤c) (hc2:c≤16) (hr2:r≤16) (hcap:n≤cap) (i:Nat) (hi:i < r) (b off:Nat) (had:ad=some ⟨b,off,none⟩) :
  Calls Tryz.prog 139 #[.agg #[.int .i64 r,.int .i64 c,.slice ad n cap],.int .i64 i] w fun e w'=>e=.returned (.slice (some ⟨b,off+i * c,none⟩) c (cap - i * c))∧Below w.heap.size w w':=by
 subst had
 have h1:i * c+c≤n:=by
  rw [hn]
  have:(i+1) * c≤r * c:=Nat.mul_le_mul_right c (by omega)
  rw [Nat.succ_mul] at this;exact this
 have hnb:n≤256:=by rw [hn];exact Nat.le_trans (Nat.mul_le_mul hr2 hc2) (by decide)
 obtain ⟨p,hp⟩:∃p,p=i * c:=⟨_,rfl⟩
 have e1:((i:Int) * (c:Int))=(p:Int):=by rw [hp];rfl
 have e2:(((i:Int)+1) * (c:Int))=((p+c:Nat):Int):=by rw [hp,Int.add_mul,Int.one_mul];rfl
 rw [←hp] at h1 ⊢
 clear hp hn
 go_enter Tryz.func139,Tryz.ntmps139
 go_wp2
 go_ret
 exact ⟨by rw [Nat.add_sub_cancel_left];rfl,below1 _ _⟩
theorem slices_CloneF (w:World) (ad:Option Addr) (cap:Nat) (xs:List Nat) (h:F32s w ad cap xs) (hc:ad=none→cap=0) (hn:xs.length≤1048576) :
  Calls Tryz.prog 77 #[.slice ad xs.length cap] w fun e w' => ∃ad' cap',e=.returned (.slice ad' xs.length cap')∧Hid (RepF w' w.heap.size w'.heap.size ad' xs.length cap' xs)∧Below w.heap.size w w':=by
 refine (slices_Clone w ad cap xs h hc hn).mono ?_
 rintro e w' ⟨v,rfl,ho,hb⟩
 obtain ⟨ad',cap',rfl,hr⟩:=RepF.of_owns ho h.lt
 exact ⟨ad',cap',rfl,I hr,hb⟩
theorem wrap_ok {x:Int} (h1 : -1000000≤x) (h2:x≤1000000):IntKind.i64.wrap x=x:=by rw [IntKind.wrap_i64];omega
def nilOK (os:List OpD):Prop:=∀o∈os,o.ad=none→o.cap=0
theorem OwnR.nilOK {w:World} {lo hi n cap:Nat} {ad:Option Addr} {us:List OpD} (h:OwnR opR w lo hi ad n cap us):nilOK us:=fun o ho =>
 (h.own.repF (List.mem_cons_of_mem _ (List.mem_flatMap.2 ⟨o,ho,List.mem_singleton.2 rfl⟩)) (h.ok o ho).1).nilcap
set_option maxHeartbeats 2000000 in
theorem impl_copyTensor (w:World) (r c:Int) (ad:Option Addr) (cap:Nat) (xs:List Nat) (h:F32s w ad cap xs) (hc:ad=none→cap=0) (hn:xs.length≤1048576) :
  Calls Tryz.prog 66 #[.agg #[.int .i64 r,.int .i64 c,.slice ad xs.length cap]] w fun e w' => ∃ad' cap',e=.returned (.agg #[.int .i64 r,.int .i64 c,.slice ad' xs.length cap'])∧Hid (RepF w' w.heap.size w'.heap.size ad' xs.length cap' xs)∧Below w.heap.size w w':=by
 have b2:=below2 w (.cells #[.int .i64 r,.int .i64 c,.slice ad xs.length cap] 37) (.cells #[.int .i64 0,.int .i64 0,.slice none 0 0] 37)
 have K:=I (slices_CloneF _ ad cap xs (h.below b2) hc hn)
 have XB:=I ((BoxN.alloc w #[.int .i64 r,.int .i64 c,.slice ad xs.length cap] 37).below (below1 _ (.cells #[.int .i64 0,.int .i64 0,.slice none 0 0] 37)))
 have RB:=I (BoxN.alloc2 w (.cells #[.int .i64 r,.int .i64 c,.slice ad xs.length cap] 37) #[.int .i64 0,.int .i64 0,.slice none 0 0] 37)
 have B:=I b2
 obtain ⟨n,hN⟩:∃n,n=xs.length:=⟨_,rfl⟩
 rw [←hN] at K XB RB B ⊢
 clear b2 h hN hn hc
 go_enter Tryz.func66,Tryz.ntmps66
 go_wp2_with fail
 refine K.out.mono ?_
 rintro e w' ⟨a',c',rfl,HR,hb⟩
 obtain ⟨-,x0,x1,x2,xf⟩:=(XB.out.below hb).three
 obtain ⟨-,r0,r1,r2,rf⟩:=(RB.out.below hb).three
 have HB:=I (bthen B.out hb)
 have hz:=hb.size
 simp at hz
 clear hb
 go_wp2
 refine bodyPost_ret (v:=.agg #[.int .i64 r,.int .i64 c,.slice a' n c']) (by simp [results,Tryz.results66,go_sem,r0,r1,r2,x0,x1,x2]) rfl ⟨_,_,rfl,I ?_,?_⟩
 ·have h1:=setCs_repF (g:=w.heap.size) (lo':=w.heap.size+2) (i:=2) HR.out (by simp;omega) (by simp) (Nat.le_refl _) [.slice a' n c']
  have h2:=setCs_repF (g:=w.heap.size+1) (lo':=w.heap.size) (i:=0) h1 (by omega) (by omega) (Nat.le_refl _) [.int .i64 r,.int .i64 c,.slice a' n c']
  exact h2
 ·exact setCs_below (setCs_below HB.out (g:=w.heap.size) (by omega) 2 [.slice a' n c']) (g:=w.heap.size+1) (by omega) 0 [.int .i64 r,.int .i64 c,.slice a' n c']
theorem spec_l02OwnF (w:World) (ad:Option Addr) (cap:Nat) (xs:List Nat) (h:F32s w ad cap xs) (hc:ad=none→cap=0) (hn:xs.length≤1048576) :
  Calls Tryz.prog 100 #[.slice ad xs.length cap] w fun e w' => ∃ad' cap',e=.returned (.slice ad' xs.length cap')∧Hid (RepF w' w.heap.size w'.heap.size ad' xs.length cap' xs)∧Below w.heap.size w w':=by
 refine (spec_l02Own w ad cap xs h hc hn).mono ?_
 rintro e w' ⟨v,rfl,ho,hb⟩
 obtain ⟨ad',cap',rfl,hr⟩:=RepF.of_owns ho h.lt
 exact ⟨ad',cap',rfl,I hr,hb⟩
theorem OwnR.nil1 {α:Type} (R:RecT α) (w:World):OwnR R (w.alloc (.cells #[] R.e)) w.heap.size (w.alloc (.cells #[] R.e)).heap.size (some ⟨w.heap.size,0,none⟩) 0 0 [] :=
 ⟨Own.one (Row.mk' (World.ownsRow_made _ _ _ (Nat.le_refl _) (Nat.zero_le _) (by simp))),rfl,fun a ha=>(nomatch ha)⟩
def OwnF (n:Nat) (xs:List Nat) (f:FuncId) (args:Array Value) (w1:World) (v:Value) (w2:World):Prop:=∃ad cap,v=.slice ad n cap∧RepF w2 w1.heap.size w2.heap.size ad n cap xs∧Below w1.heap.size w1 w2
structure OwnX {α:Type} (R:RecT α) (w:World) (lo hi:Nat) (ad:Option Addr) (n cap:Nat) (us:List α) (E:List RowD):Prop where
 own:Own w lo hi (⟨R.e,R.size,ad,n,cap,us.flatMap R.cells⟩ :: (us.flatMap R.inn ++ E))
 len:us.length=n
 ok:∀a∈us,R.ok a
section
variable {α:Type} {R:RecT α} {w w':World} {lo hi:Nat} {ad:Option Addr} {n cap:Nat} {us:List α} {E:List RowD}
theorem OwnX.r (h:OwnX R w lo hi ad n cap us E):OwnR R w lo hi ad n cap us:=⟨h.own.sub (List.Sublist.cons_cons _ (List.sublist_append_left _ _)),h.len,h.ok⟩
theorem OwnX.below (h:OwnX R w lo hi ad n cap us E) (hb:Below w.heap.size w w'):OwnX R w' lo hi ad n cap us E:=⟨h.own.below hb,h.len,h.ok⟩
theorem OwnX.bounds {lo' hi':Nat} (h:OwnX R w lo hi ad n cap us E) (h1:lo'≤lo) (h2:hi≤hi'):OwnX R w lo' hi' ad n cap us E:=⟨h.own.bounds h1 h2,h.len,h.ok⟩
theorem OwnX.beside (h:OwnR R w lo hi ad n cap us) {hi2:Nat} (hE:Own w hi hi2 E) (h1:lo≤hi) (h2:hi≤hi2):OwnX R w lo hi2 ad n cap us E:=by
 refine ⟨?_,h.len,h.ok⟩
 rw [←List.cons_append]
 exact Own.append h.own hE h1 h2
theorem OwnX.setNew {w1 w2:World} {hi1:Nat} (h:OwnX R w lo w.heap.size ad n cap us E) (hlo:lo≤w.heap.size) (hb:Below w.heap.size w w1) {k:Nat} (hk:k < n) {a:α} (ha:R.ok a) (hn:Own w1 w.heap.size hi1 (R.inn a)) (hi1s:w.heap.size≤hi1)
  (hst:∀M,Own w1 lo hi1 (⟨R.e,R.size,ad,n,cap,us.flatMap R.cells⟩ :: M)→Own w2 lo hi1 (⟨R.e,R.size,ad,n,cap,setL (us.flatMap R.cells) (k * R.size) (R.cells a)⟩ :: M)):OwnX R w2 lo hi1 ad n cap (us.set k a) E:=by
 have hkl:k < us.length:=by rw [h.len];exact hk
 refine ⟨?_,by rw [List.length_set];exact h.len,fun b hb=>?_⟩
 ·have h1:=Own.fresh h.own hlo (Nat.le_refl _) hb hn hi1s
  rw [List.cons_append] at h1
  have h2:=hst _ h1
  rw [flat_set R us hkl] at h2
  have e1:us.flatMap R.inn=(us.take k).flatMap R.inn ++ (R.inn us[k] ++ (us.drop (k+1)).flatMap R.inn):=by
   rw [←List.flatMap_cons,List.getElem_cons_drop,←List.flatMap_append,List.take_append_drop]
  have e2:(us.set k a).flatMap R.inn=(us.take k).flatMap R.inn ++ (R.inn a ++ (us.drop (k+1)).flatMap R.inn):=by
   rw [List.set_eq_take_append_cons_drop,if_pos hkl,List.flatMap_append,List.flatMap_cons]
  rw [e1] at h2
  rw [e2]
  have h3:=h2.sub (M:=⟨R.e,R.size,ad,n,cap,(us.set k a).flatMap R.cells⟩ :: ((((us.take k).flatMap R.inn ++ (us.drop (k+1)).flatMap R.inn) ++ E) ++ R.inn a)) (List.Sublist.cons_cons _ (List.Sublist.append (List.Sublist.append (List.Sublist.append (List.Sublist.refl _) (List.sublist_append_right _ _)) (List.Sublist.refl _)) (List.Sublist.refl _)))
  refine h3.perm (List.Perm.cons _ ?_)
  simp only [List.append_assoc]
  refine List.Perm.append_left _ ?_
  rw [←List.append_assoc,←List.append_assoc]
  refine List.perm_append_comm.trans ?_
  rw [List.append_assoc]
 ·rcases List.mem_or_eq_of_mem_set hb with hb | rfl
  ·exact h.ok b hb
  ·exact ha
theorem OwnX.snoc {w1 w2:World} {hi1:Nat} {v':Value} {a:α} {o:Obj} (h:OwnX R w lo w.heap.size ad n cap us E) (hlo:lo≤w.heap.size) (hb:Below w.heap.size w w1) (ha:R.ok a) (hn:Own w1 w.heap.size hi1 (R.inn a)) (hi1s:hi1≤w1.heap.size) (hi0:w.heap.size≤hi1)
  (ho:w2.ownsRow lo R.e R.size v' (n+1) (us.flatMap R.cells ++ R.cells a)) (hg:(w1.alloc o).grownBy w2 (Value.slice ad n cap).ownBlock) (hat:v'.ownBlock=(Value.slice ad n cap).ownBlock∨v'.ownBlock=some (w1.heap.size+1)) :
  ∃ad' cap',v'=.slice ad' (n+1) cap'∧OwnX R w2 lo w2.heap.size ad' (n+1) cap' (us ++ [a]) E:=by
 obtain ⟨ad',cap',rfl,_⟩:=Rd.of_owns ho
 refine ⟨ad',cap',rfl,?_,by rw [List.length_append,h.len];rfl,fun b hb=>?_⟩
 ·have h1:=Own.fresh h.own hlo (Nat.le_refl _) hb hn hi0
  rw [List.cons_append] at h1
  have h2:Own (w1.alloc o) lo hi1 _:=h1.below (below1 w1 o)
  have hs:=hg.size
  have h3:=h2.grown (w':=w2) (hi':=w2.heap.size) (y:=⟨R.e,R.size,ad',n+1,cap',(us ++ [a]).flatMap R.cells⟩) hg (by
   refine Row.mk' ?_
   rw [List.flatMap_append,List.flatMap_singleton]
   exact ho) (fun g e=>?_) (by simp at hs;omega)
  ·have e:(us ++ [a]).flatMap R.inn=us.flatMap R.inn ++ R.inn a:=by rw [List.flatMap_append,List.flatMap_singleton]
   rw [e]
   refine h3.perm (List.Perm.cons _ ?_)
   simp only [List.append_assoc]
   exact List.Perm.append_left _ List.perm_append_comm
  ·rcases hat with e1 | e1
   ·exact .inl (e1.symm.trans e)
   ·right
    have e2:some g=some (w1.heap.size+1):=e.symm.trans e1
    cases e2
    omega
 ·rcases List.mem_append.1 hb with hb | hb
  ·exact h.ok b hb
  ·simp at hb;subst hb;exact ha
theorem OwnX.storeE {e:TypeId} {size g m c:Nat} {vs:List Value} {E:List RowD} (h:OwnX R w lo hi ad n cap us (⟨e,size,some ⟨g,0,none⟩,m,c,vs⟩ :: E)) (k:Nat) (v:Value):OwnX R (w.setCell ⟨g,k,none⟩ v) lo hi ad n cap us (⟨e,size,some ⟨g,0,none⟩,m,c,vs.set k v⟩ :: E):=by
 refine ⟨?_,h.len,h.ok⟩
 have p:∀(x:RowD),(⟨R.e,R.size,ad,n,cap,us.flatMap R.cells⟩ :: (us.flatMap R.inn ++ x :: E)).Perm (x :: (⟨R.e,R.size,ad,n,cap,us.flatMap R.cells⟩ :: (us.flatMap R.inn ++ E))):=fun x =>
  (List.Perm.cons _ List.perm_middle).trans (List.Perm.swap _ _ _)
 exact ((h.own.perm (p _)).store k v).perm (p _).symm
theorem OwnX.memE {x:RowD} (h:OwnX R w lo hi ad n cap us E) (hx:x∈E):x∈(⟨R.e,R.size,ad,n,cap,us.flatMap R.cells⟩ :: (us.flatMap R.inn ++ E):List RowD):=List.mem_cons_of_mem _ (List.mem_append_right _ hx)
end
def uRow (g n:Nat) (U:List Bool):RowD:=⟨4,1,some ⟨g,0,none⟩,n,n,U.map Value.bool⟩
section
variable {α:Type} {R:RecT α} {w w':World} {lo hi:Nat} {ad:Option Addr} {n cap:Nat} {us:List α} {g m:Nat} {U:List Bool} {E:List RowD}
theorem OwnX.u (h:OwnX R w lo hi ad n cap us (uRow g m U :: E)):g < w.heap.size∧lo≤g∧(∀k,k < U.length→w.cell? ⟨g,k,none⟩=some (.bool (U.getD k false)))∧∀k,w.frozen? ⟨g,k,none⟩=false:=by
 obtain ⟨_,h1,h2,h3⟩:=h.own.cell (h.memE (List.mem_cons_self ..))
 refine ⟨h1.2.2,h1.1,fun k hk=>?_,h3⟩
 rw [h2 k (by simpa using hk),List.getElem?_map,List.getElem?_eq_getElem hk,List.getD_eq_getElem?_getD,List.getElem?_eq_getElem hk];rfl
theorem OwnX.setU (h:OwnX R w lo hi ad n cap us (uRow g m U :: E)) (k:Nat):OwnX R (w.setCell ⟨g,k,none⟩ (.bool true)) lo hi ad n cap us (uRow g m (U.set k true) :: E):=by
 have:=h.storeE k (.bool true)
 unfold uRow
 rw [List.map_set]
 exact this
end
def intRow (ad:Option Addr) (cap:Nat) (xs:List Int):RowD:=⟨2,1,ad,xs.length,cap,xs.map (Value.int .i64)⟩
theorem Own.repI {w:World} {lo hi:Nat} {ad:Option Addr} {cap:Nat} {xs:List Int} {L:List RowD} (h:Own w lo hi L) (hm:intRow ad cap xs∈L) (ho:∀x∈xs,(Lit.int .i64 x).wf=true):RepI w lo hi ad xs.length cap xs:=⟨h.row _ hm,rfl,ho⟩
end
section
open Go Go.RowKit Go.ChangeShapes Go.WideShapes
structure LayP where
 k:Int
 i:Int
 o:Int
 ws:List Nat
 bs:List Nat
structure LayD extends LayP where
 wa:Option Addr
 wk:Nat
 ba:Option Addr
 bk:Nat
def LayP.can (l:LayP):LayP:=⟨l.k,l.i,l.o,l.ws.map (cn .f32),l.bs.map (cn .f32)⟩
def LayD.cells (l:LayD):List Value:=[.int .i64 l.k,.int .i64 l.i,.int .i64 l.o,.slice l.wa l.ws.length l.wk,.slice l.ba l.bs.length l.bk]
def LayD.val (l:LayD):Value:=.agg #[.int .i64 l.k,.int .i64 l.i,.int .i64 l.o,.slice l.wa l.ws.length l.wk,.slice l.ba l.bs.length l.bk]
def LayD.inn (l:LayD):List RowD:=[floatRow l.wa l.wk l.ws,floatRow l.ba l.bk l.bs]
def LayD.ok (l:LayD):Prop:=(okF l.ws∧okF l.bs)∧(Lit.int .i64 l.k).wf=true∧(Lit.int .i64 l.i).wf=true∧(Lit.int .i64 l.o).wf=true
def layR:RecT LayD:=⟨99,5,LayD.cells,LayD.inn,LayD.ok,fun _=>rfl⟩
theorem lay_spot {w:World} {ad:Option Addr} {cap:Nat} {us:List LayD} (h:SeeR layR w ad cap us) {k:Nat} {l:LayD} (hk:us[k]? = some l):∃b off,ad=some ⟨b,off,none⟩∧b < w.heap.size ∧
  (w.cell? ⟨b,off+k * 5,none⟩=some (.int .i64 l.k)∧w.cell? ⟨b,off+k * 5+1,none⟩=some (.int .i64 l.i)∧w.cell? ⟨b,off+k * 5+2,none⟩=some (.int .i64 l.o)∧w.cell? ⟨b,off+k * 5+3,none⟩=some (.slice l.wa l.ws.length l.wk)∧w.cell? ⟨b,off+k * 5+4,none⟩=some (.slice l.ba l.bs.length l.bk)) ∧
  (F32s w l.wa l.wk l.ws∧F32s w l.ba l.bk l.bs)∧l.ok:=by
 obtain ⟨b,off,e,hb,hc⟩:=h.spot hk (by decide)
 have hm:=List.mem_of_getElem? hk
 exact ⟨b,off,e,hb,⟨hc 0 (by decide),hc 1 (by decide),hc 2 (by decide),hc 3 (by decide),hc 4 (by decide)⟩,⟨(h.inn l hm _ (List.mem_cons_self ..)).f32s (h.ok l hm).1.1,(h.inn l hm _ (List.mem_cons_of_mem _ (List.mem_singleton.2 rfl))).f32s (h.ok l hm).1.2⟩,h.ok l hm⟩
theorem lay_own {w:World} {lo hi n cap:Nat} {ad:Option Addr} {us:List LayD} (h:OwnR layR w lo hi ad n cap us) {k:Nat} {l:LayD} (hk:us[k]? = some l):∃g,ad=some ⟨g,0,none⟩∧(lo≤g∧g < hi∧g < w.heap.size) ∧
  (w.cell? ⟨g,k * 5,none⟩=some (.int .i64 l.k)∧w.cell? ⟨g,k * 5+1,none⟩=some (.int .i64 l.i)∧w.cell? ⟨g,k * 5+2,none⟩=some (.int .i64 l.o)∧w.cell? ⟨g,k * 5+3,none⟩=some (.slice l.wa l.ws.length l.wk)∧w.cell? ⟨g,k * 5+4,none⟩=some (.slice l.ba l.bs.length l.bk)) ∧
  (∀j,w.frozen? ⟨g,j,none⟩=false)∧RepF w lo hi l.wa l.ws.length l.wk l.ws∧RepF w lo hi l.ba l.bs.length l.bk l.bs:=by
 obtain ⟨g,e,hr,hc,hf⟩:=h.spot hk (by decide)
 have hm:=List.mem_of_getElem? hk
 exact ⟨g,e,hr,⟨hc 0 (by decide),hc 1 (by decide),hc 2 (by decide),hc 3 (by decide),hc 4 (by decide)⟩,hf,h.own.repF (List.mem_cons_of_mem _ (List.mem_flatMap.2 ⟨l,hm,List.mem_cons_self ..⟩)) (h.ok l hm).1.1,h.own.repF (List.mem_cons_of_mem _ (List.mem_flatMap.2 ⟨l,hm,List.mem_cons_of_mem _ (List.mem_singleton.2 rfl)⟩)) (h.ok l hm).1.2⟩
theorem LayD.ok_of {l l':LayD} (h:l'.toLayP=l.toLayP) (hl:l.ok):l'.ok:=by unfold LayD.ok at hl ⊢;rw [h];exact hl
theorem BoxN.five {w:World} {g:Nat} {a b c d e:Value} (h:BoxN w g [a,b,c,d,e]):g < w.heap.size∧w.cell? ⟨g,0,none⟩=some a∧w.cell? ⟨g,1,none⟩=some b∧w.cell? ⟨g,2,none⟩=some c∧w.cell? ⟨g,3,none⟩=some d∧w.cell? ⟨g,4,none⟩=some e∧(∀o,w.frozen? ⟨g,o,none⟩=false) :=
 ⟨h.lt,h.at' 0 (by simp),h.at' 1 (by simp),h.at' 2 (by simp),h.at' 3 (by simp),h.at' 4 (by simp),h.fz⟩
theorem BoxN.one1 {w:World} {g:Nat} {a:Value} (h:BoxN w g [a]):g < w.heap.size∧w.cell? ⟨g,0,none⟩=some a∧(∀o,w.frozen? ⟨g,o,none⟩=false):=⟨h.lt,h.at' 0 (by simp),h.fz⟩
section
variable {H:Type} {enc:TypeId × Value→H} {w:World} {base:Nat} {spare:Nat→Bool} {held:Bool}
theorem dec_Layer {n:Nat} {cs:List Value} {y:DataW H × List MemPlace} (h:DataW.trod enc Tryz.prog w base spare held n 92 cs=some y) :
  ∃l:LayD,cs=l.cells∧(F32s w l.wa l.wk l.ws∧F32s w l.ba l.bk l.bs)∧l.ok:=by
 have c0:Tryz.prog.cellsOf 92=5:=by kernel_rfl
 have c1:Tryz.prog.cellsOf 2=1:=by kernel_rfl
 have c2:Tryz.prog.cellsOf 25=1:=by kernel_rfl
 obtain ⟨n,hl,hp⟩:=trod_parts Tryz.underlying92 h
 rw [c0] at hl
 obtain ⟨x0,x1,x2,x3,x4,rfl⟩:=list5 hl
 obtain ⟨y0,h0⟩:=hp 0 2 0 1 _ rfl rfl rfl c1
 obtain ⟨y1,h1⟩:=hp 1 2 1 1 _ rfl rfl rfl c1
 obtain ⟨y2,h2⟩:=hp 2 2 2 1 _ rfl rfl rfl c1
 obtain ⟨y3,h3⟩:=hp 3 25 3 1 _ rfl rfl rfl c2
 obtain ⟨y4,h4⟩:=hp 4 25 4 1 _ rfl rfl rfl c2
 simp only [List.drop_succ_cons,List.drop_zero,List.take_succ_cons,List.take_zero] at h0 h1 h2 h3 h4
 obtain ⟨k,e0,_,w0⟩:=DataW.trod_int Tryz.underlying2 h0
 obtain ⟨i,e1,_,w1⟩:=DataW.trod_int Tryz.underlying2 h1
 obtain ⟨o,e2,_,w2⟩:=DataW.trod_int Tryz.underlying2 h2
 obtain ⟨a3,c3,xs3,e3,w3⟩:=dec_f32s Tryz.underlying25 Tryz.underlying28 h3
 obtain ⟨a4,c4,xs4,e4,w4⟩:=dec_f32s Tryz.underlying25 Tryz.underlying28 h4
 simp only [List.cons.injEq,and_true] at e0 e1 e2 e3 e4
 subst e0 e1 e2 e3 e4
 exact ⟨⟨⟨k,i,o,xs3,xs4⟩,a3,c3,a4,c4⟩,rfl,⟨w3,w4⟩,⟨w3.lt,w4.lt⟩,w0,w1,w2⟩
theorem dec_layers {n:Nat} {cs:List Value} {y:DataW H × List MemPlace} (h:DataW.trod enc Tryz.prog w base spare held n 22 cs=some y):∃ad cap ls,cs=[.slice ad (List.length ls) cap]∧SeeR layR w ad cap ls:=by
 obtain ⟨a,l,c,rfl⟩:=Joins.slice_form Tryz.underlying22 h
 obtain ⟨ad,cap,bs,h1,h2,h3,h4,h5⟩:=open_rows (v:=.slice a l c) LayD.cells (fun l=>(F32s w l.wa l.wk l.ws∧F32s w l.ba l.bk l.bs)∧l.ok) Tryz.underlying22 (fun n cs y hy=>dec_Layer hy) ⟨n,by simpa [Value.cells] using h⟩ ⟨a,l,c,rfl⟩
 refine ⟨ad,cap,bs,by rw [h1],⟨h2,h3,h4,fun o ho x hx=>?_,fun o ho=>(h5 o ho).2⟩⟩
 rcases List.mem_cons.1 hx with rfl | hx
 ·exact (h5 o ho).1.1.seeRow
 ·rw [List.mem_singleton.1 hx]
  exact (h5 o ho).1.2.seeRow
theorem dec_Model {n:Nat} {cs:List Value} {y:DataW H × List MemPlace} (h:DataW.trod enc Tryz.prog w base spare held n 24 cs=some y):∃ad cap ls,cs=[.slice ad (List.length ls) cap]∧SeeR layR w ad cap ls:=by
 have c0:Tryz.prog.cellsOf 24=1:=by kernel_rfl
 have c1:Tryz.prog.cellsOf 22=1:=by kernel_rfl
 obtain ⟨n,hl,hp⟩:=trod_parts Tryz.underlying24 h
 rw [c0] at hl
 obtain ⟨x0,rfl⟩:=List.length_eq_one_iff.1 hl
 obtain ⟨y0,h0⟩:=hp 0 22 0 1 _ rfl rfl rfl c1
 simp only [List.drop_zero,List.take_succ_cons,List.take_zero] at h0
 exact dec_layers h0
end
def LayD.n (l:LayD):Nat:=l.ws.length+l.bs.length
theorem L_sz (w:World) (l:LayD) (L:Int) (hn:l.ws.length≤maxLen∧l.bs.length≤maxLen) (h0:0≤L) (h1:L≤1048576):Calls Tryz.prog 52 #[l.val,.int .i64 L] w fun e w'=>e=.returned (.int .i64 (if (l.n:Int)≤L then L - l.n else -1))∧Below w.heap.size w w':=by
 obtain ⟨⟨k,i,o,xs,ys⟩,a,c,a',c'⟩:=l
 show Calls Tryz.prog 52 #[.agg #[.int .i64 k,.int .i64 i,.int .i64 o,.slice a xs.length c,.slice a' ys.length c'],.int .i64 L] w fun e w'=>e=.returned (.int .i64 (if ((xs.length+ys.length:Nat):Int)≤L then L - (xs.length+ys.length:Nat) else -1))∧Below w.heap.size w w'
 obtain ⟨n,hN⟩:∃n,n=xs.length:=⟨_,rfl⟩
 obtain ⟨m,hM⟩:∃m,m=ys.length:=⟨_,rfl⟩
 have hn1:n≤maxLen:=by rw [hN];exact hn.1
 have hn2:m≤maxLen:=by rw [hM];exact hn.2
 rw [←hN,←hM]
 clear hN hM hn
 have K:=I (fun W=>sz_f32s W a n c L hn1 h0 h1)
 have K2:=I (fun W L (h0:0≤L) (h1:L≤1048576)=>sz_f32s W a' m c' L hn2 h0 h1)
 have hb:=below1 w (.cells #[.int .i64 k,.int .i64 i,.int .i64 o,.slice a n c,.slice a' m c'] 92)
 have HB:=I hb;clear hb
 by_cases h:(n:Int)≤L
 ·rw [if_pos h] at K
  have hp:0≤L - n:=by omega
  obtain ⟨L2,hL2⟩:∃L2,L2=L - n:=⟨_,rfl⟩
  have K3:=I (fun W=>K2.out W L2 (by omega) (by omega))
  have HL2:=I hL2
  by_cases h2:(m:Int)≤L2
  ·rw [if_pos h2] at K3
   have hp2:0≤L2 - m:=by omega
   rw [if_pos (by omega)]
   rw [←hL2] at K hp
   have e:L - ((n+m:Nat):Int)=L2 - m:=by omega
   rw [e]
   clear e K2 hL2
   go_enter Tryz.func52,Tryz.ntmps52
   go_wp2_with fail
   refine (K.out _).mono ?_
   rintro e w1 ⟨rfl,rfl⟩
   go_wp2_with fail
   refine (K3.out _).mono ?_
   rintro e w1 ⟨rfl,rfl⟩
   go_wp2
   go_ret
   exact ⟨rfl,HB.out⟩
  ·rw [if_neg h2] at K3
   rw [if_neg (by omega)]
   rw [←hL2] at K hp
   clear K2 hL2
   go_enter Tryz.func52,Tryz.ntmps52
   go_wp2_with fail
   refine (K.out _).mono ?_
   rintro e w1 ⟨rfl,rfl⟩
   go_wp2_with fail
   refine (K3.out _).mono ?_
   rintro e w1 ⟨rfl,rfl⟩
   go_wp2
   go_ret
   exact ⟨rfl,HB.out⟩
 ·rw [if_neg h] at K
  rw [if_neg (by omega)]
  clear K2
  go_enter Tryz.func52,Tryz.ntmps52
  go_wp2_with fail
  refine (K.out _).mono ?_
  rintro e w1 ⟨rfl,rfl⟩
  go_wp2
  go_ret
  exact ⟨rfl,HB.out⟩
set_option maxHeartbeats 4000000 in
theorem L_to (w:World) (l:LayD) (h:F32s w l.wa l.wk l.ws∧F32s w l.ba l.bk l.bs) (hn:l.ws.length≤1048576∧l.bs.length≤1048576) :
  Calls Tryz.prog 59 #[l.val] w fun e w' => ∃l':LayD,e=.returned l'.val∧l'.toLayP=l.toLayP∧Hid (Own w' w.heap.size w'.heap.size l'.inn)∧Below w.heap.size w w':=by
 obtain ⟨⟨k,i,o,xs,ys⟩,a,c,a',c'⟩:=l
 show Calls Tryz.prog 59 #[.agg #[.int .i64 k,.int .i64 i,.int .i64 o,.slice a xs.length c,.slice a' ys.length c']] w _
 replace h:F32s w a c xs∧F32s w a' c' ys:=h
 replace hn:xs.length≤1048576∧ys.length≤1048576:=hn
 obtain ⟨n,hN⟩:∃n,n=xs.length:=⟨_,rfl⟩
 obtain ⟨m,hM⟩:∃m,m=ys.length:=⟨_,rfl⟩
 have b3:=below3 w (.cells #[.int .i64 k,.int .i64 i,.int .i64 o,.slice a n c,.slice a' m c'] 92) (.cells #[.int .i64 0,.int .i64 0,.int .i64 0,.slice none 0 0,.slice none 0 0] 99) (.cells #[.int .i64 k,.int .i64 i,.int .i64 o,.slice none 0 0,.slice none 0 0] 99)
 have K:=I (F_to _ a c xs (h.1.below b3) hn.1)
 have K2:=I (fun W (hb:Below w.heap.size w W)=>F_to W a' c' ys (h.2.below hb) hn.2)
 have LB:=I ((BoxN.alloc w #[.int .i64 k,.int .i64 i,.int .i64 o,.slice a n c,.slice a' m c'] 92).below (below2 _ (.cells #[.int .i64 0,.int .i64 0,.int .i64 0,.slice none 0 0,.slice none 0 0] 99) (.cells #[.int .i64 k,.int .i64 i,.int .i64 o,.slice none 0 0,.slice none 0 0] 99)))
 have RB:=I ((BoxN.alloc2 w (.cells #[.int .i64 k,.int .i64 i,.int .i64 o,.slice a n c,.slice a' m c'] 92) #[.int .i64 0,.int .i64 0,.int .i64 0,.slice none 0 0,.slice none 0 0] 99).below (below1 _ (.cells #[.int .i64 k,.int .i64 i,.int .i64 o,.slice none 0 0,.slice none 0 0] 99)))
 have OB:=I (BoxN.alloc3 w (.cells #[.int .i64 k,.int .i64 i,.int .i64 o,.slice a n c,.slice a' m c'] 92) (.cells #[.int .i64 0,.int .i64 0,.int .i64 0,.slice none 0 0,.slice none 0 0] 99) #[.int .i64 k,.int .i64 i,.int .i64 o,.slice none 0 0,.slice none 0 0] 99)
 have B:=I b3
 rw [←hN] at K
 rw [←hM] at K2
 rw [←hN,←hM]
 have NX:=I hN;have MX:=I hM
 clear b3 h hN hM hn
 go_enter Tryz.func59,Tryz.ntmps59
 go_wp2_with fail
 refine K.out.mono ?_
 rintro e w1 ⟨a1,c1,rfl,hr,hb⟩
 have HR1:=I hr;have HB1:=I hb
 have hb0:=bthen B.out hb
 obtain ⟨-,l0,l1,l2,l3,l4,lf⟩:=(LB.out.below hb).five
 obtain ⟨-,o0,o1,o2,o3,o4,of⟩:=(OB.out.below hb).five
 have hz1:w.heap.size+3≤w1.heap.size:=by have:=hb.size;simp at this;omega
 have KW:=I (K2.out (w1.setCell ⟨w.heap.size+2,3,none⟩ (.slice a1 n c1)) (hb0.setCell (p:=⟨w.heap.size+2,3,none⟩) (by show w.heap.size≤w.heap.size+2;omega) _))
 have HZ:=I hz1
 have HBW:=I (hb0.setCell (p:=⟨w.heap.size+2,3,none⟩) (by show w.heap.size≤w.heap.size+2;omega) (.slice a1 n c1))
 have LB1:=I ((LB.out.below hb).far (w.heap.size+2) 3 (.slice a1 n c1) (by omega))
 have RB1:=I ((RB.out.below hb).far (w.heap.size+2) 3 (.slice a1 n c1) (by omega))
 have OB1:=I ((OB.out.below hb).set 3 (.slice a1 n c1))
 have HR1':Hid (RepF (w1.setCell ⟨w.heap.size+2,3,none⟩ (.slice a1 n c1)) (w.heap.size+3) (w1.setCell ⟨w.heap.size+2,3,none⟩ (.slice a1 n c1)).heap.size a1 n c1 xs):=I ((hr.touch (lo2:=w.heap.size+2) (hi2:=w.heap.size+3) (Touch.setCell (Nat.le_refl _) (Nat.lt_succ_self _)) (.inr (by simp))).bounds (by simp) (by simp [World.setCell]))
 clear hr hb hb0 K K2 hz1 LB RB OB B HR1
 go_wp2_with fail
 refine KW.out.mono ?_
 rintro e w2 ⟨a2,c2,rfl,hr2,hb2⟩
 obtain ⟨-,r0,r1,r2,r3,r4,rf⟩:=(RB1.out.below hb2).five
 clear l0 l1 l2 l3 l4 lf o0 o1 o2 o3 o4 of
 obtain ⟨-,o0,o1,o2,o3,o4,of⟩:=(OB1.out.below hb2).five
 have HR2:=I hr2;have HB2:=I hb2
 have hz2:=hb2.size
 have hz3:=HZ.out
 simp at hz2
 clear hr2 hb2 KW
 go_wp2
 refine bodyPost_ret (v:=.agg #[.int .i64 k,.int .i64 i,.int .i64 o,.slice a1 n c1,.slice a2 m c2]) (by simp [results,Tryz.results59,go_sem,r0,r1,r2,r3,r4,o0,o1,o2,o3,o4]) rfl ⟨⟨⟨k,i,o,xs,ys⟩,a1,c1,a2,c2⟩,by rw [NX.out,MX.out];rfl,rfl,I ?_,?_⟩
 ·have h0:Own w2 (w.heap.size+3) w2.heap.size ([floatRow a1 c1 xs] ++ [floatRow a2 c2 ys]):=Own.append (HR1'.out.below HB2.out).ownRow HR2.out.ownRow (by simp [World.setCell];omega) HB2.out.size
  have h1:=(h0.touch (setCs_touch w2 (w.heap.size+2) 4 [.slice a2 m c2]) (.inr (by omega))).touch (setCs_touch _ (w.heap.size+1) 0 [.int .i64 k,.int .i64 i,.int .i64 o,.slice a1 n c1,.slice a2 m c2]) (.inr (by omega))
  exact h1.bounds (by omega) (by simp [World.setCell])
 ·exact setCs_below (setCs_below (bthen HBW.out HB2.out) (g:=w.heap.size+2) (by omega) 4 [.slice a2 m c2]) (g:=w.heap.size+1) (by omega) 0 [.int .i64 k,.int .i64 i,.int .i64 o,.slice a1 n c1,.slice a2 m c2]
end
section
open Go Go.RowKit
set_option maxHeartbeats 2000000 in
theorem LS_sz (w:World) (ad:Option Addr) (cap:Nat) (os:List LayD) (h:SeeR layR w ad cap os) (L:Int) (h0:0≤L) (h1:L≤1048576) :
  Calls Tryz.prog 27 #[.slice ad os.length cap,.int .i64 L] w fun e w'=>e=.returned (.int .i64 (leftBy LayD.n os L))∧Below w.heap.size w w':=by
 have hm:=Nat.le_trans h.le h.cap
 unfold maxLen at hm
 obtain ⟨R,hR⟩:∃R,R=leftBy LayD.n os L:=⟨_,rfl⟩
 rw [←hR]
 obtain ⟨n,hN⟩:∃n,n=os.length:=⟨_,rfl⟩
 unfold leftBy at hR
 rw [←hN] at hm hR ⊢
 have HN:=I hN;have HR:=I hR;have H:=I h;clear hN hR h
 by_cases hn:(n:Int)≤L
 ·go_enter Tryz.func27,Tryz.ntmps27
  go_wp2
  go_loopw [1,5] (fun l i wt => ∃k:Nat,∃r:Int,i=.int .i64 k∧l=.int .i64 r∧k≤n∧0≤r∧r≤1048576∧Hid (r+(n+sumBy LayD.n os k:Nat)=L)∧Hid (Below w.heap.size w wt)) (fun _ i _=>n - (intOf i).toNat)
  case atStart=>exact ⟨0,L - n,rfl,rfl,Nat.zero_le _,by omega,by omega,I (by rw [sumBy_zero];simp),I (Below.refl _ _)⟩
  case round =>
   obtain ⟨k,r,rfl,rfl,hk,hr0,hr1,hr,HB⟩:=hrel
   by_cases hlt:k < n
   ·obtain ⟨o,ho⟩:=getElem?_lt (show k < os.length by rw [←HN.out];exact hlt)
    obtain ⟨b,off,rfl,hb,⟨p0,p1,p2,p3,p4⟩,hf,hok⟩:=lay_spot (H.out.below HB.out) ho
    have hml:o.ws.length≤maxLen∧o.bs.length≤maxLen:=⟨Nat.le_trans hf.1.len hf.1.cap,Nat.le_trans hf.2.len hf.2.cap⟩
    have hcs:=sumBy_succ LayD.n ho
    have hcl:=sumBy_le LayD.n os (show k+1≤n by omega)
    have HCS:=I hcs;have HCL:=I hcl
    have k1:=fun W=>L_sz W o r hml hr0 hr1
    by_cases hmr:(o.n:Int)≤r
    ·rw [if_pos hmr] at k1
     have K1:=I k1
     obtain ⟨m,hM⟩:∃m,m=o.n:=⟨_,rfl⟩
     unfold LayD.val at K1
     rw [←hM] at K1 hmr
     have HM:=I hM
     clear k1 hf hok hml hcs hcl hM
     go_wp2_with fail
     refine (K1.out _).mono ?_
     rintro e w1 ⟨rfl,hb1⟩
     have HB1:=I (bthen HB.out hb1);clear hb1 p0 p1 p2 p3 p4
     have hp:0≤r - m:=by omega
     go_wp2
     refine ⟨?rel,?measure⟩
     case rel=>exact ⟨k+1,r - m,by go_num,rfl,hlt,by omega,by omega,I (by have:=hr.out;have:=HCS.out;have:=HM.out;omega),HB1⟩
     case measure=>simp [intOf];omega
    ·rw [if_neg hmr] at k1
     have K1:=I k1
     have hE:R = -1:=by
      rw [HR.out,if_neg]
      have:=hr.out;have:=HCS.out;have:=HCL.out
      omega
     have HE:=I hE
     obtain ⟨m,hM⟩:∃m,m=o.n:=⟨_,rfl⟩
     unfold LayD.val at K1
     rw [←hM] at hmr
     clear k1 hf hok hml hcs hcl hM hE
     go_wp2_with fail
     refine (K1.out _).mono ?_
     rintro e w1 ⟨rfl,hb1⟩
     have HB1:=I (bthen HB.out hb1);clear hb1 p0 p1 p2 p3 p4
     go_wp2
     go_ret
     exact ⟨by rw [HE.out];rfl,HB1.out⟩
   ·have hkn:k=n:=by omega
    subst hkn
    have hE:R=r:=by
     rw [HR.out,if_pos]
     ·have:=hr.out;omega
     ·have:=hr.out;omega
    have HE:=I hE;clear hE
    go_wp2
    go_ret
    exact ⟨by rw [HE.out];rfl,HB.out⟩
 ·have hE:R = -1:=by rw [HR.out,if_neg (by omega)]
  rw [hE]
  clear hE HR HN
  go_enter Tryz.func27,Tryz.ntmps27
  go_wp2
  go_ret
  exact ⟨rfl,Below.refl _ _⟩
theorem M_sz (w:World) (ad:Option Addr) (cap:Nat) (os:List LayD) (h:SeeR layR w ad cap os) (L:Int) (h0:0≤L) (h1:L≤1048576) :
  Calls Tryz.prog 6 #[.agg #[.slice ad os.length cap],.int .i64 L] w fun e w'=>e=.returned (.int .i64 (leftBy LayD.n os L))∧Below w.heap.size w w':=by
 obtain ⟨n,hN⟩:∃n,n=os.length:=⟨_,rfl⟩
 have hb:=below1 w (.cells #[.slice ad os.length cap] 24)
 have K:=I (LS_sz _ ad cap os (h.below hb) L h0 h1)
 obtain ⟨R,hR⟩:∃R,R=leftBy LayD.n os L:=⟨_,rfl⟩
 rw [←hR] at K ⊢
 rw [←hN] at K hb ⊢
 have HB:=I hb
 have hrr:R = -1∨0≤R:=by rw [hR];unfold leftBy;split <;> omega
 clear hb hN h h0 h1 hR
 rcases hrr with hr | hr
 ·subst hr
  go_enter Tryz.func6,Tryz.ntmps6
  go_wp2_with fail
  refine K.out.mono ?_
  rintro e w1 ⟨rfl,hb⟩
  go_wp2
  go_ret
  exact ⟨rfl,bthen HB.out hb⟩
 ·go_enter Tryz.func6,Tryz.ntmps6
  go_wp2_with fail
  refine K.out.mono ?_
  rintro e w1 ⟨rfl,hb⟩
  go_wp2
  go_ret
  exact ⟨rfl,bthen HB.out hb⟩
theorem info_lay:(Tryz.prog.info? 99).map (fun i=>(i.zero,i.size,i.bytes))=some (some (.agg #[.int .i64 0,.int .i64 0,.int .i64 0,.slice none 0 0,.slice none 0 0]),5,72):=by kernel_rfl
def zeroLay:LayD:=⟨⟨0,0,0,[],[]⟩,none,0,none,0⟩
set_option maxHeartbeats 4000000 in
set_option maxRecDepth 100000 in
theorem LS_to (w:World) (ad:Option Addr) (cap:Nat) (os:List LayD) (h:SeeR layR w ad cap os) (hn:os.length≤1048576) (hi2:∀o∈os,o.ws.length≤1048576∧o.bs.length≤1048576) :
  Calls Tryz.prog 31 #[.slice ad os.length cap] w fun e w' => ∃ad' cap',∃os':List LayD,e=.returned (.slice ad' os.length cap')∧os'.map LayD.toLayP=os.map LayD.toLayP∧Hid (OwnR layR w' w.heap.size w'.heap.size ad' os.length cap' os')∧Below w.heap.size w w':=by
 obtain ⟨j0,hj2,hy0,hy1,hy2⟩:=info_parts info_lay
 obtain ⟨n,hN⟩:∃n,n=os.length:=⟨_,rfl⟩
 rw [←hN] at hn ⊢
 have HN:=I hN;have HI2:=I hi2;have H:=I h;clear hN hi2 h
 go_enter Tryz.func31,Tryz.ntmps31
 go_wp2_with (at_make;refine wpList_make_full _ rfl _ _ 33 rfl w.heap.size 99 j0 (.agg #[.int .i64 0,.int .i64 0,.int .i64 0,.slice none 0 0,.slice none 0 0]) 5 Tryz.underlying33 hj2 hy0 hy1 .i64 .i64 _ _ n rfl rfl rfl rfl ?c1 ?c2 ?c3 ?_)
 case c1=>rw [hy2];omega
 case c2=>unfold maxLen;omega
 case c3=>exact Nat.le_refl _
 intro w1 hown hg
 have hb1:Below w.heap.size w w1:=(Below.refl _ _).grown hg (Nat.le_refl _) (fun k e=>by cases e)
 have hr0:OwnR layR w1 w.heap.size w1.heap.size (some ⟨w.heap.size,0,none⟩) n n (List.replicate n zeroLay):=by
  refine OwnR.made (R:=layR) (z:=zeroLay) hown (made_flat layR zeroLay n _ rfl (by decide)) (fun x hx=>?_) ⟨⟨fun x hx=>(nomatch hx),fun x hx=>(nomatch hx)⟩,rfl,rfl,rfl⟩
  rcases List.mem_cons.1 hx with rfl | hx
  ·exact ⟨rfl,rfl,rfl,rfl⟩
  ·rw [List.mem_singleton.1 hx]
   exact ⟨rfl,rfl,rfl,rfl⟩
 have HR:=I hr0;have HB1:=I hb1
 clear hg hown hr0 hb1
 go_wp2
 go_loopw [4] (fun i wt => ∃k:Nat,i=.int .i64 k∧k≤n∧∃us:List LayD,Hid (OwnR layR wt w.heap.size wt.heap.size (some ⟨w.heap.size,0,none⟩) n n us)∧Hid (us.map LayD.toLayP=(os.map LayD.toLayP).take k ++ (us.map LayD.toLayP).drop k)∧Hid (Below w.heap.size w wt)) (fun i _=>n - (intOf i).toNat)
 case atStart=>exact ⟨0,rfl,Nat.zero_le _,_,HR,I (by simp),HB1⟩
 case round =>
  clear HB1 HR
  obtain ⟨k,rfl,hk,us,HR,HT,HB⟩:=hrel
  by_cases hlt:k < n
  ·obtain ⟨o,ho⟩:=getElem?_lt (show k < os.length by rw [←HN.out];exact hlt)
   obtain ⟨b,off,rfl,hbl,⟨p0,p1,p2,p3,p4⟩,hf,hok⟩:=lay_spot (H.out.below HB.out) ho
   have K:=I (fun W hW=>L_to W o hW (HI2.out o (List.mem_of_getElem? ho)))
   have HF:=I hf;have HO:=I ho;have HK:=I hok
   unfold LayD.val at K
   clear hf ho hok
   go_wp2_with fail
   refine (K.out _ HF.out).mono ?_
   rintro e w2 ⟨o',rfl,hp,hr,hb2⟩
   obtain ⟨u,hu⟩:=getElem?_lt (show k < us.length by rw [HR.out.len];exact hlt)
   obtain ⟨g,eg,hgr,⟨q0,q1,q2,q3,q4⟩,hfz,-⟩:=lay_own (HR.out.below hb2) hu
   cases eg
   have hs2:=hb2.size
   have hbs:=HB.out.size
   have hok:o'.ok:=LayD.ok_of hp HK.out
   have hnew:=OwnR.setNew (w2:=setCs w2 w.heap.size (k * 5) o'.cells) HR.out hbs hb2 hlt hok hr.out hs2 (fun M hM=>setCs_own hM (k * 5) o'.cells)
   have hbb:=setCs_below (HB.out.trans (hb2.mono hbs)) (Nat.le_refl _) (k * 5) o'.cells
   have htk:=set_take LayD.toLayP (a:=o') (b:=o.toLayP) HT.out (by rw [HR.out.len];exact hlt) (by rw [HR.out.len,List.length_map,←HN.out]) (by rw [List.getElem?_map,HO.out];rfl) hp
   have HW:=I hnew;have HBB:=I hbb;have HTK:=I htk
   clear hnew hbb htk hp hr hb2 hu K HF HK hok hgr hbs HT HR HB p0 p1 p2 p3 p4
   go_wp2
   go_roundw
   case rel=>exact ⟨k+1,by go_num,hlt,_,I (HW.out.bounds (Nat.le_refl _) (by simp [World.setCell])),HTK,HBB⟩
   case measure=>simp [intOf];omega
  ·have hkn:k=n:=by omega
   subst hkn
   go_wp2
   go_ret
   refine ⟨_,_,us,rfl,?_,HR,HB.out⟩
   have:=HT.out
   rw [List.take_of_length_le (by simp [HN.out]),List.drop_of_length_le (by simp [HR.out.len])] at this
   simpa using this
set_option maxHeartbeats 2000000 in
theorem M_to (w:World) (ad:Option Addr) (cap:Nat) (os:List LayD) (h:SeeR layR w ad cap os) (hn:os.length≤1048576) (hi2:∀o∈os,o.ws.length≤1048576∧o.bs.length≤1048576) :
  Calls Tryz.prog 9 #[.agg #[.slice ad os.length cap]] w fun e w' => ∃ad' cap',∃os':List LayD,e=.returned (.agg #[.slice ad' os.length cap'])∧os'.map LayD.toLayP=os.map LayD.toLayP∧Hid (OwnR layR w' w.heap.size w'.heap.size ad' os.length cap' os')∧Below w.heap.size w w':=by
 obtain ⟨n,hN⟩:∃n,n=os.length:=⟨_,rfl⟩
 have b3:=below3 w (.cells #[.slice ad n cap] 24) (.cells #[.slice none 0 0] 35) (.cells #[.slice none 0 0] 35)
 have K:=I (LS_to _ ad cap os (h.below b3) hn hi2)
 have RB:=I ((BoxN.alloc2 w (.cells #[.slice ad n cap] 24) #[.slice none 0 0] 35).below (below1 _ (.cells #[.slice none 0 0] 35)))
 have OB:=I (BoxN.alloc3 w (.cells #[.slice ad n cap] 24) (.cells #[.slice none 0 0] 35) #[.slice none 0 0] 35)
 have B:=I b3
 rw [←hN] at K ⊢
 clear b3 h hN hn hi2
 go_enter Tryz.func9,Tryz.ntmps9
 go_wp2_with fail
 refine K.out.mono ?_
 rintro e w' ⟨a',c',os',rfl,he,HR,hb⟩
 obtain ⟨-,r0,rf⟩:=(RB.out.below hb).one1
 obtain ⟨-,o0,of⟩:=(OB.out.below hb).one1
 have HB:=I (bthen B.out hb)
 have HE:=I he
 have hz:=hb.size
 simp at hz
 clear hb K RB OB he
 go_wp2
 refine bodyPost_ret (v:=.agg #[.slice a' n c']) (by simp [results,Tryz.results9,go_sem,r0,o0]) rfl ⟨a',c',os',rfl,HE.out,I ?_,?_⟩
 ·have h1:=((HR.out.touch (setCs_touch w' (w.heap.size+2) 0 [.slice a' n c']) (.inr (by simp))).touch (setCs_touch _ (w.heap.size+1) 0 [.slice a' n c']) (.inr (by simp)))
  exact h1.bounds (by simp;omega) (by simp [World.setCell])
 ·exact setCs_below (setCs_below HB.out (g:=w.heap.size+2) (by omega) 0 [.slice a' n c']) (g:=w.heap.size+1) (by omega) 0 [.slice a' n c']
set_option maxHeartbeats 1000000 in
theorem L_eq (w:World) (o p:LayD) (h1:F32s w o.wa o.wk o.ws∧F32s w o.ba o.bk o.bs) (h2:F32s w p.wa p.wk p.ws∧F32s w p.ba p.bk p.bs) (hn:o.ws.length≤1048576∧o.bs.length≤1048576) (he:o.toLayP.can=p.toLayP.can) :
  Calls Tryz.prog 74 #[o.val,p.val] w fun e w'=>e=.returned (.bool true)∧Below w.heap.size w w':=by
 obtain ⟨⟨k,i,q,xs,ys⟩,a,c,b,d⟩:=o
 obtain ⟨⟨k',i',q',xs',ys'⟩,a',c',b',d'⟩:=p
 unfold LayP.can at he
 simp only [LayP.mk.injEq] at he
 obtain ⟨rfl,rfl,rfl,hx,hy⟩:=he
 show Calls Tryz.prog 74 #[.agg #[.int .i64 k,.int .i64 i,.int .i64 q,.slice a xs.length c,.slice b ys.length d],.agg #[.int .i64 k,.int .i64 i,.int .i64 q,.slice a' xs'.length c',.slice b' ys'.length d']] w _
 replace h1:F32s w a c xs∧F32s w b d ys:=h1
 replace h2:F32s w a' c' xs'∧F32s w b' d' ys':=h2
 replace hn:xs.length≤1048576∧ys.length≤1048576:=hn
 obtain ⟨n,hN⟩:∃n,n=xs.length:=⟨_,rfl⟩
 obtain ⟨m,hM⟩:∃m,m=ys.length:=⟨_,rfl⟩
 obtain ⟨n',hN'⟩:∃n,n=xs'.length:=⟨_,rfl⟩
 obtain ⟨m',hM'⟩:∃m,m=ys'.length:=⟨_,rfl⟩
 have b2:=below2 w (.cells #[.int .i64 k,.int .i64 i,.int .i64 q,.slice a n c,.slice b m d] 99) (.cells #[.int .i64 k,.int .i64 i,.int .i64 q,.slice a' n' c',.slice b' m' d'] 99)
 have BA:=I ((BoxN.alloc w #[.int .i64 k,.int .i64 i,.int .i64 q,.slice a n c,.slice b m d] 99).below (below1 _ (.cells #[.int .i64 k,.int .i64 i,.int .i64 q,.slice a' n' c',.slice b' m' d'] 99)))
 have BB:=I (BoxN.alloc2 w (.cells #[.int .i64 k,.int .i64 i,.int .i64 q,.slice a n c,.slice b m d] 99) #[.int .i64 k,.int .i64 i,.int .i64 q,.slice a' n' c',.slice b' m' d'] 99)
 have K:=I (laws_eqFloat32S a a' c c' xs xs' _ (h1.1.below b2) (h2.1.below b2) hn.1 hx)
 have K2:=I (fun W hb=>laws_eqFloat32S b b' d d' ys ys' W ((h1.2.below b2).below hb) ((h2.2.below b2).below hb) hn.2 hy)
 rw [←hN,←hN'] at K
 rw [←hM,←hM'] at K2
 rw [←hN,←hN',←hM,←hM']
 have B:=I b2
 clear b2 h1 h2 hn hN hN' hM hM' hx hy
 go_enter Tryz.func74,Tryz.ntmps74
 go_wp2_with fail
 refine K.out.mono ?_
 rintro e w1 ⟨rfl,hd⟩
 have hb1:=hd.below
 obtain ⟨-,p0,p1,p2,p3,p4,-⟩:=(BA.out.below hb1).five
 obtain ⟨-,q0,q1,q2,q3,q4,-⟩:=(BB.out.below hb1).five
 have K1:=I (K2.out _ hb1);have B1:=I (bthen B.out hb1)
 clear hb1 hd BA BB K K2 B
 go_wp2_with fail
 refine K1.out.mono ?_
 rintro e w2 ⟨rfl,hd⟩
 go_wp2
 go_ret
 exact ⟨rfl,bthen B1.out hd.below⟩
set_option maxHeartbeats 4000000 in
set_option maxRecDepth 100000 in
theorem LS_eq (w:World) {a1 a2:Option Addr} {c1 c2:Nat} {os ps:List LayD} (h1:SeeR layR w a1 c1 os) (h2:SeeR layR w a2 c2 ps) (he:os.map (fun o=>o.toLayP.can)=ps.map (fun o=>o.toLayP.can)) (hn:os.length≤1048576) (hi:∀o∈os,o.ws.length≤1048576∧o.bs.length≤1048576) :
  Calls Tryz.prog 39 #[.slice a1 os.length c1,.slice a2 ps.length c2] w fun e w'=>e=.returned (.bool true)∧Below w.heap.size w w':=by
 have hl:os.length=ps.length:=by have:=congrArg List.length he;simpa using this
 rw [←hl]
 obtain ⟨n,hN⟩:∃n,n=os.length:=⟨_,rfl⟩
 have HL:=I hl;clear hl
 rw [←hN] at hn ⊢
 have HN:=I hN;have HE:=I he;have HI:=I hi;have H1:=I h1;have H2:=I h2
 clear hN he hi h1 h2
 go_enter Tryz.func39,Tryz.ntmps39
 go_wp2
 go_loopw [5] (fun i wt => ∃k:Nat,i=.int .i64 k∧k≤n∧Hid (Below w.heap.size w wt)) (fun i _=>n - (intOf i).toNat)
 case atStart=>exact ⟨0,rfl,Nat.zero_le _,I (Below.refl _ _)⟩
 case round =>
  obtain ⟨k,rfl,hk,HB⟩:=hrel
  by_cases hlt:k < n
  ·have hkx:k < os.length:=by rw [←HN.out];exact hlt
   obtain ⟨o,ho⟩:=getElem?_lt hkx
   obtain ⟨p,hp⟩:=getElem?_lt (show k < ps.length by rw [←HL.out];exact hkx)
   obtain ⟨b,off,rfl,_,⟨p0,p1,p2,p3,p4⟩,hf,hok⟩:=lay_spot (H1.out.below HB.out) ho
   obtain ⟨b',off',rfl,_,⟨q0,q1,q2,q3,q4⟩,hf',hok'⟩:=lay_spot (H2.out.below HB.out) hp
   have e1:o.toLayP.can=p.toLayP.can:=by
    have e1:=congrArg (fun l=>l[k]?) HE.out
    simpa [ho,hp] using e1
   have K:=I (fun W (hb:Below wr.heap.size wr W)=>L_eq W o p ⟨hf.1.below hb,hf.2.below hb⟩ ⟨hf'.1.below hb,hf'.2.below hb⟩ (HI.out o (List.mem_of_getElem? ho)) e1)
   unfold LayD.val at K
   clear hf hf' hok hok' ho hp e1 hkx
   go_wp2
   refine wp_region_tail 8 (fun f args u=>False) (by kernel_rfl) (by kernel_rfl) ?_
   repeat (refine wset_step (fun K hK nq=>?_);go_simp;refine hK _ ?_;clear hK K)
   refine wset_nil ?_
   rintro w' ⟨q,rfl⟩
   go_wp2_with fail
   refine (K.out _ (below_drewN (Below.refl _ _) _)).mono ?_
   rintro e w2 ⟨rfl,hb⟩
   have HB2:=I (bthen HB.out ((below_drewN (Below.refl _ _) _).trans hb));clear hb
   go_wp2
   go_roundw
   case rel=>exact ⟨k+1,by go_num,hlt,HB2⟩
   case measure=>simp [intOf];omega
  ·go_wp2
   go_ret
   exact ⟨rfl,HB.out⟩
set_option maxHeartbeats 1000000 in
theorem M_eq (w:World) {a1 a2:Option Addr} {c1 c2:Nat} {os ps:List LayD} (h1:SeeR layR w a1 c1 os) (h2:SeeR layR w a2 c2 ps) (he:os.map (fun o=>o.toLayP.can)=ps.map (fun o=>o.toLayP.can)) (hn:os.length≤1048576) (hi:∀o∈os,o.ws.length≤1048576∧o.bs.length≤1048576) :
  Calls Tryz.prog 14 #[.agg #[.slice a1 os.length c1],.agg #[.slice a2 ps.length c2]] w fun e w'=>e=.returned (.bool true)∧Below w.heap.size w w':=by
 have b2:=below2 w (.cells #[.slice a1 os.length c1] 35) (.cells #[.slice a2 ps.length c2] 35)
 have K:=I (LS_eq _ (h1.below b2) (h2.below b2) he hn hi)
 have B:=I b2
 obtain ⟨n,hN⟩:∃n,n=os.length:=⟨_,rfl⟩
 obtain ⟨m,hM⟩:∃m,m=ps.length:=⟨_,rfl⟩
 rw [←hN,←hM] at K B ⊢
 clear b2 h1 h2 he hn hi hN hM
 go_enter Tryz.func14,Tryz.ntmps14
 go_wp2_with fail
 refine K.out.mono ?_
 rintro e w1 ⟨rfl,hb⟩
 go_wp2
 go_ret
 exact ⟨rfl,bthen B.out hb⟩
end
end Go.Proofs.YtpadlmidojpbeaaGreat
