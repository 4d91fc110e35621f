/- Joined texts 2. No condition. -/
import Derived.Maps.AppendAt
import Derived.Deep.CutRange
import Derived.Deep.CutBlock
import Derived.Deep.DeepCutAuto
import Derived.Deep.RegionHeld3
import Derived.WalkSmall
import Derived.Deep.AppendLies
import Derived.Test.YtpadlmidojpbeaaGreatMc0
import Derived.Test.YtpadlmidojpbeaaGreatMc1
set_option linter.unusedVariables false
set_option linter.unusedSimpArgs false
set_option maxRecDepth 100000
set_option maxHeartbeats 64000000
namespace Go.Proofs.YtpadlmidojpbeaaGreat
section
open Go Go.RowKit
def rI (s:Sh):Prop:=(1≤s.1∧s.1≤16)∧(1≤s.2∧s.2≤16)
theorem wA {S:List Sh} {i:Int} (h0:0≤i) (h1:i≤S.length - 1):dL S i∈S:=by
 have hl:i.toNat < S.length:=by omega
 unfold dL
 rw [List.getD_eq_getElem?_getD,List.getElem?_eq_getElem hl]
 exact List.getElem_mem hl
theorem xQ {k:Int} {v w s:Sh} (hv:rI v) (hw:rI w) (h:aQ k v w=some s):rI s:=by
 unfold aQ at h
 unfold rI at hv hw ⊢
 split at h
 ·split at h
  ·cases h;exact hv
  ·cases h
 ·split at h
  ·split at h
   ·cases h;exact hv
   ·cases h
  ·split at h
   ·split at h
    ·cases h;exact ⟨hv.1,hw.2⟩
    ·cases h
   ·split at h
    ·cases h;exact ⟨hv.2,hv.1⟩
    ·split at h
     ·cases h;exact ⟨⟨by decide,by decide⟩,⟨by decide,by decide⟩⟩
     ·cases h;exact hv
theorem zR {S S':List Sh} {o:OpP} (hS:∀s∈S,rI s) (h:dF S o=some S'):∀s∈S',rI s:=by
 unfold dF at h
 split at h
 ·rename_i hf
  by_cases hk:o.k=0
  ·rw [if_pos hk] at h
   cases h
   intro s hs
   rcases List.mem_append.1 hs with hs | hs
   ·exact hS s hs
   ·have e:s=(o.r,o.c):=by simpa using hs
    subst e
    have:=eA.1 (kA hf hk).2.2
    exact ⟨this.1,this.2.1⟩
  ·rw [if_neg hk] at h
   have ha:=dV hf hk
   cases e:aQ o.k (dL S o.a) (dL S o.b) with
   | none=>rw [e] at h;cases h
   | some t =>
    rw [e] at h
    cases h
    intro s hs
    rcases List.mem_append.1 hs with hs | hs
    ·exact hS s hs
    ·have e2:s=t:=by simpa using hs
     subst e2
     exact xQ (hS _ (wA ha.1.1 ha.1.2)) (hS _ (wA ha.2.1.1 ha.2.1.2)) e
 ·cases h
theorem xR {os:List OpP} {k:Nat} {S:List Sh} (hk:k≤os.length) (h:cD os k=some S):∀s∈S,rI s:=by
 induction k generalizing S with
 | zero=>unfold cD at h;simp at h;subst h;intro s hs;cases hs
 | succ k ih =>
  obtain ⟨o,ho⟩:=getElem?_lt (show k < os.length by omega)
  rw [dS ho] at h
  cases e:cD os k with
  | none=>rw [e] at h;cases h
  | some S0=>rw [e] at h;exact zR (ih (by omega) e) h
theorem cE {os:List OpP} {S:List Sh} (h:cH os=some S):(1≤os.length∧os.length≤48)∧cD os os.length=some S∧S.length=os.length∧∀s∈S,rI s:=by
 unfold cH at h
 split at h
 ·rename_i hl
  exact ⟨hl,h,eC (J _) h,xR (J _) h⟩
 ·cases h
def kB (U:List Bool) (i:Nat) (o:OpP):List Bool :=
 if U.getD i false=true∧o.k≠0 then (if fL o.k=true then (U.set o.a.toNat true).set o.b.toNat true else U.set o.a.toNat true) else U
def eP (os:List OpP) (i:Nat):OpP:=os.getD i ⟨0,0,0,0,0,0,[]⟩
def cP (os:List OpP):Nat→List Bool
 | 0=>(List.replicate os.length false).set (os.length - 1) true
 | m+1=>kB (cP os m) (os.length - 1 - m) (eP os (os.length - 1 - m))
theorem xS (U:List Bool) (i:Nat) (o:OpP):(kB U i o).length=U.length:=by
 unfold kB;split
 ·split <;> simp
 ·rfl
theorem lL (os:List OpP) (m:Nat):(cP os m).length=os.length:=by
 induction m with
 | zero=>simp [cP]
 | succ m ih=>rw [cP,xS,ih]
theorem lM {os:List OpP} {i:Nat} {o:OpP} (h:os[i]? = some o):eP os i=o:=by
 unfold eP;rw [List.getD_eq_getElem?_getD,h];rfl
theorem zS {os:List OpP} {k:Nat} {S:List Sh} (hk:k≤os.length) (h:cD os k=some S):∀i o,i < k→os[i]? = some o→fJ i o=true:=by
 induction k generalizing S with
 | zero=>intro i o hi;omega
 | succ k ih =>
  obtain ⟨o,ho⟩:=getElem?_lt (show k < os.length by omega)
  rw [dS ho] at h
  cases e:cD os k with
  | none=>rw [e] at h;cases h
  | some S0 =>
   rw [e] at h
   intro i p hi hp
   by_cases hik:i=k
   ·subst hik
    rw [ho] at hp;cases hp
    have hl:=eC (by omega) e
    have h2:dF S0 o=some S:=h
    unfold dF at h2
    split at h2
    ·rename_i hf;rw [hl] at hf;exact hf
    ·cases h2
   ·exact ih (by omega) e i p (by omega) hp
theorem kN {os:List OpP} {S:List Sh} (h:cH os=some S) {i:Nat} {o:OpP} (ho:os[i]? = some o):fJ i o=true :=
 zS (J _) (cE h).2.1 i o (List.getElem?_eq_some_iff.1 ho).1 ho

theorem cI {P:Program} {ops:Array Oper} {rest:List Oper} {o:Oper} {a:Act} {Q:Exit→Act→World→Prop} {e:TypeId} {W:World} {cs:Array Value} (hgd:o.guard=none) (s x:Operand) (t:TypeId)
  (ho:o.op=.call { callee:=.builtin .append,args:=#[s,x],argTypes:=#[t,t] })
  (base:Nat) (i:TypeInfo) (z:Value) (size bytes:Nat) (ht:P.underlying t=some (.slice e)) (hi:P.info? e=some i) (hz:i.zero=some z)
  (hsize:i.size=size) (hby:i.bytes=bytes) (hzs:z.cells.size=size) (hsz:0 < size)
  (hcs:cs.size=size) (h1:∀u∈cs.toList,u.oneCell'=true)
  (v:Value) (n:Nat) (xs:List Value) (hs:a.eval s=v) (hown:W.ownsRow base e size v n xs) (hx:a.eval x=.slice (some ⟨W.heap.size,0,none⟩) 1 1)
  (h63:n+1≤maxLen) (hbytes:(n+1) * bytes≤140737488355328) (hbase:base≤W.heap.size)
  (h:∀v' w',w'.ownsRow base e size v' (n+1) (xs ++ cs.toList)→(W.alloc (.cells cs e)).grownBy w' v.ownBlock→(v'.ownBlock=v.ownBlock∨v'.ownBlock=some (W.heap.size+1))→Below base W w'→base≤w'.heap.size→wpList P ops Q rest (a.put o.dst v') w'):wpList P ops Q (o :: rest) a (W.alloc (.cells cs e)):=by
 refine wpList_append_own_at (W.alloc (.cells cs e)) hgd s x t ho base e i z size bytes ht hi hz hsize hby hzs hsz v n xs hs (hown.alloc _) ⟨W.heap.size,0,none⟩ 1 1 cs.toList hx (by simpa using hcs) ?_ h1 h63 hbytes (by simp;omega) ?_
 ·intro j u hj
  rw [Addr.add_lit,World.cell?_alloc_at _ _ _ _ rfl]
  simpa using hj
 ·intro v' w' h2 hg _ hat
  have hb:Below base W w':=((O _ _).alloc hbase _).grown hg (by simp;omega) (fun j hj=>(hown.lt j hj).1)
  refine h v' w' h2 hg (by simpa using hat) hb ?_
  have:=hg.size
  simp at this
  omega

theorem wB:(Tryz.prog.info? 4).map (fun i=>(i.zero,i.size,i.bytes))=some (some (.bool false),1,1):=by kernel_rfl



theorem tR (w:World) (r c:Nat) (ad:Option Addr) (n cap:Nat) (hn:n=r * c) (hc1:1≤c) (hc2:c≤16) (hr2:r≤16) (hcap:n≤cap) (i:Nat) (hi:i < r) (b off:Nat) (had:ad=some ⟨b,off,none⟩) :
  Calls Tryz.prog 139 #[.agg #[.int .i64 r,.int .i64 c,.slice ad n cap],.int .i64 i] w fun e w'=>e=.returned (.slice (some ⟨b,off+i * c,none⟩) c (cap - i * c))∧Below w.heap.size w w':=by
 subst had
 have h1:i * c+c≤n:=by
  rw [hn]
  have:(i+1) * c≤r * c:=Nat.mul_le_mul_right c (by omega)
  rw [Nat.succ_mul] at this;exact this
 have hnb:n≤256:=by rw [hn];exact Nat.le_trans (Nat.mul_le_mul hr2 hc2) (by decide)
 obtain ⟨p,hp⟩:∃p,p=i * c:=⟨_,rfl⟩
 have e1:((i:Int) * (c:Int))=(p:Int):=by rw [hp];rfl
 have e2:(((i:Int)+1) * (c:Int))=((p+c:Nat):Int):=by rw [hp,Int.add_mul,Int.one_mul];rfl
 rw [←hp] at h1 ⊢
 clear hp hn
 go_enter Tryz.func139,Tryz.ntmps139
 go_wp2
 go_ret
 exact ⟨by rw [Nat.add_sub_cancel_left];rfl,aE _ _⟩
theorem kJ (w:World) (ad:Option Addr) (cap:Nat) (xs:List Nat) (h:F32s w ad cap xs) (hc:ad=none→cap=0) (hn:xs.length≤1048576) :
  Calls Tryz.prog 77 #[.slice ad xs.length cap] w fun e w' => ∃ad' cap',e=.returned (.slice ad' xs.length cap')∧Hid (RepF w' w.heap.size w'.heap.size ad' xs.length cap' xs)∧Below w.heap.size w w':=by
 refine (xP w ad cap xs h hc hn).mono ?_
 rintro e w' ⟨v,rfl,ho,hb⟩
 obtain ⟨ad',cap',rfl,hr⟩:=RepF.of_owns ho h.lt
 exact ⟨ad',cap',rfl,I hr,hb⟩
theorem pG {x:Int} (h1 : -1000000≤x) (h2:x≤1000000):IntKind.i64.wrap x=x:=by rw [IntKind.wrap_i64];omega
def nilOK (os:List OpD):Prop:=∀o∈os,o.ad=none→o.cap=0
theorem OwnR.nilOK {w:World} {lo hi n cap:Nat} {ad:Option Addr} {us:List OpD} (h:OwnR lI w lo hi ad n cap us):nilOK us:=fun o ho =>
 (h.own.repF (List.mem_cons_of_mem _ (List.mem_flatMap.2 ⟨o,ho,List.mem_singleton.2 rfl⟩)) (h.ok o ho).1).nilcap
theorem mB (w:World) (r c:Int) (ad:Option Addr) (cap:Nat) (xs:List Nat) (h:F32s w ad cap xs) (hc:ad=none→cap=0) (hn:xs.length≤1048576) :
  Calls Tryz.prog 66 #[.agg #[.int .i64 r,.int .i64 c,.slice ad xs.length cap]] w fun e w' => ∃ad' cap',e=.returned (.agg #[.int .i64 r,.int .i64 c,.slice ad' xs.length cap'])∧Hid (RepF w' w.heap.size w'.heap.size ad' xs.length cap' xs)∧Below w.heap.size w w':=by
 have b2:=bZ w (.cells #[.int .i64 r,.int .i64 c,.slice ad xs.length cap] 37) (.cells #[.int .i64 0,.int .i64 0,.slice none 0 0] 37)
 have K:=I (kJ _ ad cap xs (h.below b2) hc hn)
 have XB:=I ((BoxN.alloc w #[.int .i64 r,.int .i64 c,.slice ad xs.length cap] 37).below (aE _ (.cells #[.int .i64 0,.int .i64 0,.slice none 0 0] 37)))
 have RB:=I (BoxN.alloc2 w (.cells #[.int .i64 r,.int .i64 c,.slice ad xs.length cap] 37) #[.int .i64 0,.int .i64 0,.slice none 0 0] 37)
 have B:=I b2
 obtain ⟨n,hN⟩:∃n,n=xs.length:=⟨_,rfl⟩
 rw [←hN] at K XB RB B ⊢
 clear b2 h hN hn hc
 go_enter Tryz.func66,Tryz.ntmps66
 go_wp2_with fail
 refine K.out.mono ?_
 rintro e w' ⟨a',c',rfl,HR,hb⟩
 obtain ⟨-,x0,x1,x2,xf⟩:=(XB.out.below hb).three
 obtain ⟨-,r0,r1,r2,rf⟩:=(RB.out.below hb).three
 have HB:=I (aA B.out hb)
 have hz:=hb.size
 simp at hz
 clear hb
 go_wp2
 refine bodyPost_ret (v:=.agg #[.int .i64 r,.int .i64 c,.slice a' n c']) (by simp [results,Tryz.results66,go_sem,r0,r1,r2,x0,x1,x2]) rfl ⟨_,_,rfl,I ?_,?_⟩
 ·have h1:=bF (g:=w.heap.size) (lo':=w.heap.size+2) (i:=2) HR.out (by simp;omega) (by simp) (J _) [.slice a' n c']
  have h2:=bF (g:=w.heap.size+1) (lo':=w.heap.size) (i:=0) h1 (by omega) (by omega) (J _) [.int .i64 r,.int .i64 c,.slice a' n c']
  exact h2
 ·exact aG (aG HB.out (g:=w.heap.size) (by omega) 2 [.slice a' n c']) (g:=w.heap.size+1) (by omega) 0 [.int .i64 r,.int .i64 c,.slice a' n c']
section
variable {P:Program} {ops:Array Oper} {C:World→Prop} {VC:FuncId→Array Value→Value→Prop} {Q:Act→Prop} {o:Oper} {rest:List Oper} {a:Act}
@[go_sem] def UponC (P:Program) (VC:FuncId→Array Value→Value→Prop) (C:World→Prop) (K:Value→Prop):Result Next→Prop
 | .ok (.value v) w'=>C w'∧K v
 | .ok .skip w'=>C w'∧K undef
 | .ok (.enter f args) w'=>C w'∧(Calls P f args w' fun e w'' => ∃v,e=.returned v∧C w''∧VC f args v)∧∀v,VC f args v→K v
 | _=>False
theorem jB {w0:World} (h0:C w0) (h:∀K:Act→Prop,(∀a,jV P ops C VC Q rest a→K a)→∀W:World,C W→if Region.wanted o (yielded ops a.tmps) then UponC P VC C (fun v=>K (a.put o.dst v)) ((execOp a.eval o).run P W) else K (a.put o.dst undef)) :
  jV P ops C VC Q (o :: rest) a:=by
 have h:=h _ (fun _ h=>h)
 refine ⟨fun hw w' hC=>?_,fun v hv=>?_⟩
 ·have:=h w' hC
  rw [if_pos hw] at this
  revert this
  generalize (execOp a.eval o).run P w'=r
  intro this
  unfold UponC at this
  unfold gZ
  split at this
  ·exact this.1
  ·exact this.1
  ·exact ⟨this.1,this.2.1⟩
  ·cases this
 ·rcases hv with ⟨hw,w1,w2,hC,hv⟩ | ⟨hw,rfl⟩
  ·have:=h w1 hC
   rw [if_pos hw] at this
   unfold UponC at this
   rcases hv with hv | ⟨hv,rfl⟩ | ⟨f,args,hv,hvc⟩
   ·rw [hv] at this;exact this.2
   ·rw [hv] at this;exact this.2
   ·rw [hv] at this;exact this.2.2 v hvc
  ·have:=h w0 h0
   rwa [if_neg (by rw [hw];exact Bool.false_ne_true)] at this
theorem eX (hq:Q a):jV P ops C VC Q [] a:=hq
def Fb (va:Value) (f:FuncId) (args:Array Value) (u:Value):Prop:=u=va
def Eo (w W:World):Prop:=Below w.heap.size w W
@[go_sem] theorem low_drawn {w W:World} (h:Eo w W) (n:Nat):Eo w (W.drewN n)=True:=by
 exact eq_true (below_drewN h n)
theorem aC (w:World):Eo w w:=O _ _
theorem Bv (w:World):Eo w { w with drawn:=w.drawn+1 }:=Below.drew (O _ _)
theorem cC {id:Nat} {Q:Exit→Act→World→Prop} {a:Act} {w:World} {l:List Oper} (VC:FuncId→Array Value→Value→Prop) (hm:P.follows .mixedOrders=true) (hB:Region.lexB .any l.toArray=true)
  (h:jV P l.toArray (Eo w) VC (fun a' => ∀w',Eo w w'→Q .normal a' w') l a):(Code.region id l.toArray true).wp P Q a w :=
 nV (Eo w) VC hm hB (Bv w) h
end
section
variable {P:Program} {ops:Array Oper} {S:World→Prop} {VC:FuncId→Array Value→Value→Prop} {D:FuncId→Array Value→World→Value→World→Prop} {sp:List Nat}
def kO (P:Program) (ops:Array Oper) (S:World→Prop) (VC:FuncId→Array Value→Value→Prop) (o:Oper) (a:Act):Prop:=Region.wanted o (yielded ops a.tmps)=true→∀W,S W→gZ P (eJ W) VC ((execOp a.eval o).run P W)
@[go_sem] def SpecRes (P:Program) (D:FuncId→Array Value→World→Value→World→Prop) (K:Value→World→Prop):Result Next→Prop
 | .ok (.value v) w'=>K v w'
 | .ok .skip w'=>K undef w'
 | .ok (.enter f args) w'=>(Calls P f args w' fun e w'' => ∃v,e=.returned v∧D f args w' v w'')∧∀v w'',D f args w' v w''→K v w''
 | _=>False
def SpecAt (P:Program) (ops:Array Oper) (D:FuncId→Array Value→World→Value→World→Prop) (o:Oper) (a:Act) (w:World) (K:Value→World→Prop):Prop :=
 (Region.wanted o (yielded ops a.tmps)=true→∀n:Nat,SpecRes P D K ((execOp a.eval o).run P (w.drewN n)))∧(Region.wanted o (yielded ops a.tmps)=false→K undef w)
theorem SpecRes.mono {K K':Value→World→Prop} {r:Result Next} (h:SpecRes P D K r) (hk:∀v w,K v w→K' v w):SpecRes P D K' r:=by
 revert h
 unfold SpecRes
 split
 ·exact fun h=>hk _ _ h
 ·exact fun h=>hk _ _ h
 ·exact fun h=>⟨h.1,fun v w'' hd=>hk _ _ (h.2 v w'' hd)⟩
 ·exact fun h=>h
theorem SpecRes.all {ι:Type} {V:ι→Prop} {K:ι→Value→World→Prop} {r:Result Next} (i0:ι) (h0:V i0) (h:∀i,V i→SpecRes P D (K i) r):SpecRes P D (fun v w => ∀i,V i→K i v w) r:=by
 revert h
 unfold SpecRes
 split
 ·exact fun h i hi=>h i hi
 ·exact fun h i hi=>h i hi
 ·exact fun h=>⟨(h i0 h0).1,fun v w'' hd i hi=>(h i hi).2 v w'' hd⟩
 ·exact fun h=>h i0 h0
theorem SpecRes.some {K:Value→World→Prop} {r:Result Next} (h:SpecRes P D K r):∃v w,K v w:=by
 revert h
 unfold SpecRes
 split
 ·exact fun h=>⟨_,_,h⟩
 ·exact fun h=>⟨_,_,h⟩
 ·intro h
  obtain ⟨e,w'',fr,⟨v,_,hd⟩,_⟩:=h.1 []
  exact ⟨v,w'',h.2 v w'' hd⟩
 ·exact fun h=>h.elim
theorem SpecAt.mono {o:Oper} {a:Act} {w:World} {K K':Value→World→Prop} (h:SpecAt P ops D o a w K) (hk:∀v w,K v w→K' v w):SpecAt P ops D o a w K' :=
 ⟨fun hw n=>(h.1 hw n).mono hk,fun hw=>hk _ _ (h.2 hw)⟩
theorem SpecAt.all {o:Oper} {a:Act} {w:World} {ι:Type} {V:ι→Prop} {K:ι→Value→World→Prop} (i0:ι) (h0:V i0) (h:∀i,V i→SpecAt P ops D o a w (K i)):SpecAt P ops D o a w (fun v w => ∀i,V i→K i v w) :=
 ⟨fun hw n=>SpecRes.all i0 h0 fun i hi=>(h i hi).1 hw n,fun hw i hi=>(h i hi).2 hw⟩
theorem SpecAt.some {o:Oper} {a:Act} {w:World} {K:Value→World→Prop} (h:SpecAt P ops D o a w K):∃v w,K v w:=by
 cases hw:Region.wanted o (yielded ops a.tmps)
 ·exact ⟨_,_,h.2 hw⟩
 ·exact (h.1 hw 0).some
theorem tS {o:Oper} {a:Act} {d:Option Tmp} {u:Value} {w:World} {K:Value→World→Prop} (he:execOp (a.put d u).eval o=execOp a.eval o) (hw:Region.wanted o (yielded ops (a.put d u).tmps)=Region.wanted o (yielded ops a.tmps)) :
  SpecAt P ops D o (a.put d u) w K ↔ SpecAt P ops D o a w K:=by
 unfold SpecAt
 rw [he,hw]
theorem qG {o:Oper} {a:Act} {d:Option Tmp} {u:Value} (he:execOp (a.put d u).eval o=execOp a.eval o) (hw:Region.wanted o (yielded ops (a.put d u).tmps)=Region.wanted o (yielded ops a.tmps)) :
  kO P ops S VC o (a.put d u) ↔ kO P ops S VC o a:=by
 unfold kO
 rw [he,hw]
theorem wC {o:Oper} {a:Act} {w0:World} (h0:S w0) (h:kO P ops S VC o a):∃v,gL P ops S VC o a v:=by
 by_cases hw:Region.wanted o (yielded ops a.tmps)=true
 ·have hf:=h hw w0 h0
  unfold gZ at hf
  split at hf
  ·rename_i v w' he;exact ⟨v,.inl ⟨hw,w0,w',h0,.inl he⟩⟩
  ·rename_i w' he;exact ⟨undef,.inl ⟨hw,w0,w',h0,.inr (.inl ⟨he,rfl⟩)⟩⟩
  ·rename_i f args w' he
   obtain ⟨_,hc⟩:=hf
   obtain ⟨e,w'',fr,⟨v,_,_,hv⟩,_⟩:=hc []
   exact ⟨v,.inl ⟨hw,w0,w',h0,.inr (.inr ⟨f,args,he,hv⟩)⟩⟩
  ·cases hf
 ·exact ⟨undef,.inr ⟨by simpa using hw,rfl⟩⟩
def xT (P:Program) (md:Region.Mode) (ops:Array Oper) (S:World→Prop) (VC:FuncId→Array Value→Value→Prop) (D:FuncId→Array Value→World→Value→World→Prop) (sp:List Nat) (n:Nat) (L:Array Bool→Act→World→Prop):Nat→Array Bool→Act→World→Prop
 | 0,listed,a,w=>L listed a w
 | fuel+1,listed,a,w=>Region.ready md ops listed≠[] ∧
  ∀i∈Region.ready md ops listed,∀o,ops[i]? = some o→i < n ∧
   (sp.contains i=true→SpecAt P ops D o a w fun v w'=>S w'∧xT P md ops S VC D sp n L fuel (listed.setIfInBounds i true) (a.put o.dst v) w') ∧
   (sp.contains i=false→kO P ops S VC o a∧∀v,gL P ops S VC o a v→xT P md ops S VC D sp n L fuel (listed.setIfInBounds i true) (a.put o.dst v) w)
structure MInv (md:Region.Mode) (ops:Array Oper) (n:Nat) (listed:Array Bool):Prop where
 inv:HInv md ops n listed
theorem oH {md:Region.Mode} {n:Nat} {L:Array Bool→Act→World→Prop} {i:Nat} {oi:Oper} (hi:ops[i]? = some oi) (hsp:sp.contains i=false) (hsel:∀(j:Nat) (o:Oper) cs b,ops[j]? = some o→o.op≠.select cs b)
  (hlt:∀listed,HInv md ops n listed→listed.getD i true=false→∀j∈Region.ready md ops listed,j < n) (hdone:∀listed a w,L listed a w→∀j∈Region.ready md ops listed,n≤j) :
  ∀(fuel:Nat) (listed:Array Bool) (a:Act) (w:World),S w→HInv md ops n listed →
   (∀j oj,ops[j]? = some oj→j≠i→listed.getD j true=false→(∀e∈oj.after,Region.binds md e=true→e.on≠i)→oi.apart ops oj=true) →
   i∈Region.ready md ops listed→kO P ops S VC oi a →
   (∀v,gL P ops S VC oi a v→xT P md ops S VC D sp n L fuel (listed.setIfInBounds i true) (a.put oi.dst v) w)→xT P md ops S VC D sp n L (fuel+1) listed a w
 | 0,listed,a,w,h0,inv,_,hr,hg,H=>by
  have hun:=(mem_ready.1 hr).1
  refine ⟨fun e=>(by rw [e] at hr;cases hr),fun j hj o ho=>?_⟩
  have hjn:=hlt listed inv hun j hj
  by_cases hji:j=i
  ·subst hji
   obtain rfl:oi=o:=Option.some.inj (hi.symm.trans ho)
   exact ⟨hjn,fun h=>(by rw [hsp] at h;cases h),fun _=>⟨hg,H⟩⟩
  ·exfalso
   obtain ⟨v,hv⟩:=wC h0 hg
   have:=hdone _ _ _ (H v hv) j (ready_mono hj hji)
   omega
 | fuel+1,listed,a,w,h0,inv,hfree,hr,hg,H=>by
  have huni:=(mem_ready.1 hr).1
  refine ⟨fun e=>(by rw [e] at hr;cases hr),fun j hj oj hoj=>?_⟩
  have hjn:=hlt listed inv huni j hj
  by_cases hji:j=i
  ·subst hji
   obtain rfl:oi=oj:=Option.some.inj (hi.symm.trans hoj)
   exact ⟨hjn,fun h=>(by rw [hsp] at h;cases h),fun _=>⟨hg,H⟩⟩
  ·have hun:listed.getD j true=false:=(mem_ready.1 hj).1
   have hno:∀e∈oj.after,Region.binds md e=true→e.on≠i:=by
    intro e he hb hon
    obtain ⟨_,o',ho',hall⟩:=mem_ready.1 hj
    obtain rfl:oj=o':=Option.some.inj (hoj.symm.trans ho')
    have h1:=hall e he hb
    rw [hon,fN huni] at h1;cases h1
   obtain ⟨x1,x2,x3⟩:=Oper.apart_spec (hfree j oj hoj hji hun hno)
   have si:=fun cs b=>hsel i oi cs b hi
   have sj:=fun cs b=>hsel j oj cs b hoj
   have ej:∀v,execOp (a.put oi.dst v).eval oj=execOp a.eval oj:=fun v=>execOp_put oj sj a oi.dst v x1
   have wj:∀v,Region.wanted oj (yielded ops (a.put oi.dst v).tmps)=Region.wanted oj (yielded ops a.tmps):=fun v=>wanted_put oj a oi.dst v x1
   have gi:∀u,(kO P ops S VC oi (a.put oj.dst u) ↔ kO P ops S VC oi a):=fun u=>qG (execOp_put oi si a oj.dst u x3) (wanted_put oi a oj.dst u x3)
   have vi:∀u v,(gL P ops S VC oi (a.put oj.dst u) v ↔ gL P ops S VC oi a v):=fun u v=>jH (execOp_put oi si a oj.dst u x3) (wanted_put oi a oj.dst u x3)
   obtain ⟨v0,hv0⟩:=wC h0 hg
   have hj':=ready_mono hj hji
   have hfree':∀k ok,ops[k]? = some ok→k≠i→(listed.setIfInBounds j true).getD k true=false→(∀e∈ok.after,Region.binds md e=true→e.on≠i)→oi.apart ops ok=true:=by
    intro k ok hk hki hun' hno'
    refine hfree k ok hk hki ?_ hno'
    by_cases hjk:j=k
    ·subst hjk;exact hun
    ·rw [getD_set_ne true hjk] at hun';exact hun'
   refine ⟨hjn,fun hs=>?_,fun hs=>?_⟩
   ·have h1:∀v,gL P ops S VC oi a v→SpecAt P ops D oj a w fun u w'=>S w'∧xT P md ops S VC D sp n L fuel ((listed.setIfInBounds i true).setIfInBounds j true) ((a.put oi.dst v).put oj.dst u) w':=fun v hv =>
     (tS (ej v) (wj v)).1 (((H v hv).2 j hj' oj hoj).2.1 hs)
    refine (SpecAt.all v0 hv0 h1).mono fun u w' hK=>⟨(hK v0 hv0).1,?_⟩
    refine oH hi hsp hsel hlt hdone fuel (listed.setIfInBounds j true) (a.put oj.dst u) w' (hK v0 hv0).1 (inv.set hj hjn) hfree' (ready_mono hr (Ne.symm hji)) ((gi u).2 hg) fun v hv=>?_
    have:=(hK v ((vi u v).1 hv)).2
    rw [Array.setIfInBounds_comm _ _ hji,←Act.put_comm a v u x2]
    exact this
   ·have gj:∀v,(kO P ops S VC oj (a.put oi.dst v) ↔ kO P ops S VC oj a):=fun v=>qG (ej v) (wj v)
    have vj:∀v u,(gL P ops S VC oj (a.put oi.dst v) u ↔ gL P ops S VC oj a u):=fun v u=>jH (ej v) (wj v)
    refine ⟨(gj v0).1 (((H v0 hv0).2 j hj' oj hoj).2.2 hs).1,fun u hu=>?_⟩
    refine oH hi hsp hsel hlt hdone fuel (listed.setIfInBounds j true) (a.put oj.dst u) w h0 (inv.set hj hjn) hfree' (ready_mono hr (Ne.symm hji)) ((gi u).2 hg) fun v hv=>?_
    have:=(((H v ((vi u v).1 hv)).2 j hj' oj hoj).2.2 hs).2 u ((vj v u).2 hu)
    rw [Array.setIfInBounds_comm _ _ hji,←Act.put_comm a v u x2]
    exact this
theorem wD {md:Region.Mode} {n:Nat} {L:Array Bool→Act→World→Prop} {i:Nat} {oi:Oper} (hi:ops[i]? = some oi) (hsp:sp.contains i=true) (hsel:∀(j:Nat) (o:Oper) cs b,ops[j]? = some o→o.op≠.select cs b)
  (hlt:∀listed,HInv md ops n listed→listed.getD i true=false→∀j∈Region.ready md ops listed,j < n) (hdone:∀listed a w,L listed a w→∀j∈Region.ready md ops listed,n≤j)
  (hone:∀listed,HInv md ops n listed→(∀j,j < i→listed.getD j false=true)→listed.getD i true=false→∀j∈Region.ready md ops listed,j≠i→sp.contains j=false) :
  ∀(fuel:Nat) (listed:Array Bool) (a:Act) (w:World),S w→HInv md ops n listed→(∀j,j < i→listed.getD j false=true) →
   (∀j oj,ops[j]? = some oj→j≠i→listed.getD j true=false→(∀e∈oj.after,Region.binds md e=true→e.on≠i)→oi.apart ops oj=true) →
   i∈Region.ready md ops listed →
   (SpecAt P ops D oi a w fun v w'=>S w'∧xT P md ops S VC D sp n L fuel (listed.setIfInBounds i true) (a.put oi.dst v) w')→xT P md ops S VC D sp n L (fuel+1) listed a w
 | 0,listed,a,w,h0,inv,hp,_,hr,H=>by
  have hun:=(mem_ready.1 hr).1
  refine ⟨fun e=>(by rw [e] at hr;cases hr),fun j hj o ho=>?_⟩
  have hjn:=hlt listed inv hun j hj
  by_cases hji:j=i
  ·subst hji
   obtain rfl:oi=o:=Option.some.inj (hi.symm.trans ho)
   exact ⟨hjn,fun _=>H,fun h=>(by rw [hsp] at h;cases h)⟩
  ·exfalso
   obtain ⟨v,w',_,hL⟩:=H.some
   have:=hdone _ _ _ hL j (ready_mono hj hji)
   omega
 | fuel+1,listed,a,w,h0,inv,hp,hfree,hr,H=>by
  have huni:=(mem_ready.1 hr).1
  refine ⟨fun e=>(by rw [e] at hr;cases hr),fun j hj oj hoj=>?_⟩
  have hjn:=hlt listed inv huni j hj
  by_cases hji:j=i
  ·subst hji
   obtain rfl:oi=oj:=Option.some.inj (hi.symm.trans hoj)
   exact ⟨hjn,fun _=>H,fun h=>(by rw [hsp] at h;cases h)⟩
  ·have hun:listed.getD j true=false:=(mem_ready.1 hj).1
   have hjs:=hone listed inv hp huni j hj hji
   have hno:∀e∈oj.after,Region.binds md e=true→e.on≠i:=by
    intro e he hb hon
    obtain ⟨_,o',ho',hall⟩:=mem_ready.1 hj
    obtain rfl:oj=o':=Option.some.inj (hoj.symm.trans ho')
    have h1:=hall e he hb
    rw [hon,fN huni] at h1;cases h1
   obtain ⟨x1,x2,x3⟩:=Oper.apart_spec (hfree j oj hoj hji hun hno)
   have si:=fun cs b=>hsel i oi cs b hi
   have sj:=fun cs b=>hsel j oj cs b hoj
   have ej:∀v,execOp (a.put oi.dst v).eval oj=execOp a.eval oj:=fun v=>execOp_put oj sj a oi.dst v x1
   have wj:∀v,Region.wanted oj (yielded ops (a.put oi.dst v).tmps)=Region.wanted oj (yielded ops a.tmps):=fun v=>wanted_put oj a oi.dst v x1
   have gj:∀v,(kO P ops S VC oj (a.put oi.dst v) ↔ kO P ops S VC oj a):=fun v=>qG (ej v) (wj v)
   have vj:∀v u,(gL P ops S VC oj (a.put oi.dst v) u ↔ gL P ops S VC oj a u):=fun v u=>jH (ej v) (wj v)
   have hj':=ready_mono hj hji
   have hfree':∀k ok,ops[k]? = some ok→k≠i→(listed.setIfInBounds j true).getD k true=false→(∀e∈ok.after,Region.binds md e=true→e.on≠i)→oi.apart ops ok=true:=by
    intro k ok hk hki hun' hno'
    refine hfree k ok hk hki ?_ hno'
    by_cases hjk:j=k
    ·subst hjk;exact hun
    ·rw [getD_set_ne true hjk] at hun';exact hun'
   refine ⟨hjn,fun hs=>(by rw [hjs] at hs;cases hs),fun hs=>?_⟩
   obtain ⟨v0,w0,_,hv0⟩:=H.some
   refine ⟨(gj v0).1 ((hv0.2 j hj' oj hoj).2.2 hs).1,fun u hu=>?_⟩
   refine wD hi hsp hsel hlt hdone hone fuel (listed.setIfInBounds j true) (a.put oj.dst u) w h0 (inv.set hj hjn) (fun q hq=>getD_set_true (hp q hq)) hfree' (ready_mono hr (Ne.symm hji)) ?_
   refine (tS (execOp_put oi si a oj.dst u x3) (wanted_put oi a oj.dst u x3)).2 (H.mono fun v w' hK=>⟨hK.1,?_⟩)
   have:=((hK.2.2 j hj' oj hoj).2.2 hs).2 u ((vj v u).2 hu)
   rw [Array.setIfInBounds_comm _ _ hji,←Act.put_comm a v u x2]
   exact this
def kC (P:Program) (ops:Array Oper) (S:World→Prop) (VC:FuncId→Array Value→Value→Prop) (D:FuncId→Array Value→World→Value→World→Prop) (sp:List Nat) (Q:Act→World→Prop):Nat→List Oper→Act→World→Prop
 | _,[],a,w=>Q a w
 | k,o :: rest,a,w =>
  (sp.contains k=true→SpecAt P ops D o a w fun v w'=>S w'∧kC P ops S VC D sp Q (k+1) rest (a.put o.dst v) w') ∧
  (sp.contains k=false→kO P ops S VC o a∧∀v,gL P ops S VC o a v→kC P ops S VC D sp Q (k+1) rest (a.put o.dst v) w)
def Bw (md:Region.Mode) (ops:Array Oper):Nat→Nat→Nat→Bool
 | 0,_,_=>false
 | f+1,t,i=>match ops[t]? with
  | none=>false
  | some o=>o.after.any fun e=>Region.binds md e && (e.on == i || Bw md ops f e.on i)
theorem rJ {md:Region.Mode} {n:Nat} {listed:Array Bool} (inv:HInv md ops n listed) {i:Nat}:∀(f t:Nat),listed.getD t false=true→Bw md ops f t i=true→listed.getD i false=true
 | 0,_,_,h=>by cases h
 | f+1,t,ht,h=>by
  unfold Bw at h
  split at h
  ·cases h
  ·rename_i o ho
   obtain ⟨e,he,hb⟩:=Array.any_eq_true'.1 h
   simp only [Bool.and_eq_true,Bool.or_eq_true,beq_iff_eq] at hb
   have h1:=inv.closed t o ho ht e he hb.1
   rcases hb.2 with h2 | h2
   ·rw [←h2];exact h1
   ·exact rJ inv f e.on h1 h2
theorem AC {md:Region.Mode} {n:Nat} {listed:Array Bool} (inv:HInv md ops n listed) {i:Nat} (f t:Nat) (ht:t∈Region.ready md ops listed) (h:Bw md ops f t i=true):listed.getD i false=true:=by
 cases f with
 | zero=>cases h
 | succ f =>
  unfold Bw at h
  obtain ⟨_,ot,hot,hall⟩:=mem_ready.1 ht
  rw [hot] at h
  obtain ⟨e,he,hb⟩:=Array.any_eq_true'.1 h
  simp only [Bool.and_eq_true,Bool.or_eq_true,beq_iff_eq] at hb
  have h1:=hall e he hb.1
  rcases hb.2 with h2 | h2
  ·rw [←h2];exact h1
  ·exact rJ inv f e.on h1 h2
def Bc (md:Region.Mode) (ops:Array Oper) (sp:List Nat):Bool:=sp.all fun i=>sp.all fun j=>decide (j≤i) || Bw md ops ops.size j i
theorem xU {md:Region.Mode} {n i:Nat} (hB:Bc md ops sp=true) (hi:sp.contains i=true) (listed:Array Bool) (inv:HInv md ops n listed) (hp:∀j,j < i→listed.getD j false=true) (hun:listed.getD i true=false) :
  ∀j∈Region.ready md ops listed,j≠i→sp.contains j=false:=by
 intro j hj hji
 cases hs:sp.contains j with
 | false=>rfl
 | true =>
  exfalso
  have h1:=List.all_eq_true.1 (List.all_eq_true.1 hB i (by simpa using hi)) j (by simpa using hs)
  simp only [Bool.or_eq_true,decide_eq_true_eq] at h1
  rcases h1 with h1 | h1
  ·have h2:=hp j (by omega)
   have h3:=fN (mem_ready.1 hj).1
   rw [h2] at h3;cases h3
  ·have h2:=AC inv _ j hj h1
   rw [fN hun] at h2;cases h2
theorem pH {md:Region.Mode} {n:Nat} {L:Array Bool→Act→World→Prop} {Lq:Act→World→Prop} (hS:∀W q,S W→S (W.drewN q)) (hsel:Region.noSelect ops=true) (hB2:Bc md ops sp=true)
  (hlt:∀i,i < n→∀listed,HInv md ops n listed→listed.getD i true=false→∀j∈Region.ready md ops listed,j < n) (hdone:∀listed a w,L listed a w→∀j∈Region.ready md ops listed,n≤j)
  (lex:Nat→Nat→Array Bool→Bool) (hlex:∀len k listed,lex (len+1) k listed=true→(Region.ready md ops listed).contains k=true∧Region.free md ops listed k=true∧lex len (k+1) (listed.setIfInBounds k true)=true)
  (hend:∀listed a w,lex 0 n listed=true→Lq a w→L listed a w) :
  ∀(l:List Oper) (k:Nat) (listed:Array Bool) (a:Act) (w:World),S w→(∀j,j < l.length→l[j]? = ops[k+j]?)→k+l.length=n→HInv md ops n listed→(∀j,j < k→listed.getD j false=true) →
  lex l.length k listed=true→kC P ops S VC D sp Lq k l a w→xT P md ops S VC D sp n L l.length listed a w
 | [],k,listed,a,w,_,_,hk,_,_,hB,h=>by
  have:k=n:=by simpa using hk
  subst this
  exact hend listed a w hB h
 | o :: l,k,listed,a,w,h0,hl,hk,inv,hp,hB,h=>by
  have hk0:ops[k]? = some o:=by simpa using (hl 0 (by simp)).symm
  obtain ⟨hr,hf,hB'⟩:=hlex _ _ _ hB
  have hkn:k < n:=by simp only [List.length_cons] at hk;omega
  have hks:k < ops.size:=(Array.getElem?_eq_some_iff.1 hk0).1
  have hr':k∈Region.ready md ops listed:=by simpa using hr
  have hl':∀j,j < l.length→l[j]? = ops[k+1+j]?:=fun j hj=>by have:=hl (j+1) (by simp;omega);simpa [Nat.add_assoc,Nat.add_comm 1 j] using this
  have hkl:k+1+l.length=n:=by simp only [List.length_cons] at hk;omega
  have hp':∀j,j < k+1→(listed.setIfInBounds k true).getD j false=true:=fun j hj=>by
   by_cases e:j=k
   ·subst e
    have:j < listed.size:=by rw [inv.size];exact hks
    simp [Array.getD_eq_getD_getElem?,this]
   ·exact getD_set_true (hp j (by omega))
  cases hsp:sp.contains k with
  | true =>
   refine wD hk0 hsp (Region.noSelect_spec hsel) (hlt k hkn) hdone (xU hB2 hsp) l.length listed a w h0 inv hp (Region.free_spec hk0 hf) hr' ?_
   exact (h.1 hsp).mono fun v w' hK=>⟨hK.1,pH hS hsel hB2 hlt hdone lex hlex hend l (k+1) _ _ w' hK.1 hl' hkl (inv.set hr' hkn) hp' hB' hK.2⟩
  | false =>
   refine oH hk0 hsp (Region.noSelect_spec hsel) (hlt k hkn) hdone l.length listed a w h0 inv (Region.free_spec hk0 hf) hr' (h.2 hsp).1 fun v hv=>?_
   exact pH hS hsel hB2 hlt hdone lex hlex hend l (k+1) _ _ w h0 hl' hkl (inv.set hr' hkn) hp' hB' ((h.2 hsp).2 v hv)
theorem dI {md:Region.Mode} {n g:Nat} {L:Array Bool→Act→World→Prop} {Q':Exit→Act→World→Prop} (hS:∀W q,S W→S (W.drewN q)) (hL:∀listed a w q,S w→L listed a w→wpAny P md ops Q' g listed a (w.drewN q)) :
  ∀(fuel:Nat) (listed:Array Bool) (a:Act) (w:World) (q:Nat),S w→xT P md ops S VC D sp n L fuel listed a w→wpAny P md ops Q' (fuel+g) listed a (w.drewN q)
 | 0,_,_,_,_,hw,h=>by rw [Nat.zero_add];exact hL _ _ _ _ hw h
 | fuel+1,listed,a,w,q,hw,h=>by
  rw [show fuel+1+g=(fuel+g)+1 by omega]
  refine ⟨fun e=>absurd e h.1,fun i hi=>?_⟩
  obtain ⟨_,o,ho,_⟩:=mem_ready.1 hi
  obtain ⟨_,h1,h2⟩:=h.2 i hi o ho
  unfold wpOp
  simp only [ho]
  cases hsp:sp.contains i with
  | true =>
   obtain ⟨h3,h4⟩:=h1 hsp
   by_cases hwant:Region.wanted o (yielded ops a.tmps)=true
   ·rw [if_pos hwant]
    left
    have hf:=h3 hwant q
    unfold Oper.wp
    unfold SpecRes at hf
    split at hf
    ·rename_i v w' he
     rw [he]
     exact dI hS hL fuel _ _ w' 0 hf.1 hf.2
    ·rename_i w' he
     rw [he]
     exact dI hS hL fuel _ _ w' 0 hf.1 hf.2
    ·rename_i f args w' he
     rw [he]
     obtain ⟨hc,hk⟩:=hf
     refine hc.mono fun e w'' ⟨v,hev,hd⟩=>?_
     subst hev
     exact dI hS hL fuel _ _ w'' 0 (hk v w'' hd).1 (hk v w'' hd).2
    ·cases hf
   ·have hwant':Region.wanted o (yielded ops a.tmps)=false:=by simpa using hwant
    rw [if_neg hwant]
    exact dI hS hL fuel _ _ w q (h4 hwant').1 (h4 hwant').2
  | false =>
   obtain ⟨hg,hv⟩:=h2 hsp
   have hSq:=hS w q hw
   have hadd:∀m,(w.drewN q).drewN m=w.drewN (q+m):=fun m=>by simp [World.drewN,Nat.add_assoc]
   by_cases hwant:Region.wanted o (yielded ops a.tmps)=true
   ·rw [if_pos hwant]
    left
    have hf:=hg hwant _ hSq
    unfold Oper.wp
    unfold gZ at hf
    split at hf
    ·rename_i v w' he
     rw [he]
     obtain ⟨m,rfl⟩:=hf
     have h5:=dI hS hL fuel _ _ w (q+m) hw (hv v (.inl ⟨hwant,_,_,hSq,.inl he⟩))
     rw [←hadd] at h5
     exact h5
    ·rename_i w' he
     rw [he]
     obtain ⟨m,rfl⟩:=hf
     have h5:=dI hS hL fuel _ _ w (q+m) hw (hv undef (.inl ⟨hwant,_,_,hSq,.inr (.inl ⟨he,rfl⟩)⟩))
     rw [←hadd] at h5
     exact h5
    ·rename_i f args w' he
     rw [he]
     obtain ⟨hC',hc⟩:=hf
     refine hc.mono fun e w'' ⟨v,hev,⟨m,hm⟩,hvc⟩=>?_
     subst hev
     subst hm
     have h5:=dI hS hL fuel _ _ w (q+m) hw (hv v (.inl ⟨hwant,_,_,hSq,.inr (.inr ⟨f,args,he,hvc⟩)⟩))
     rw [←hadd] at h5
     exact h5
    ·cases hf
   ·have hwant':Region.wanted o (yielded ops a.tmps)=false:=by simpa using hwant
    rw [if_neg hwant]
    exact dI hS hL fuel _ _ w q hw (hv undef (.inr ⟨hwant',rfl⟩))
def EH (ops:Array Oper) (n:Nat) (sp:List Nat):Bool :=
 Region.noSelect ops && decide (n < ops.size) && vU .any ops 0 n && qE .any ops n && Bc .any ops sp && Region.lexHead .any ops (ops.size - n) n 0 (Array.replicate ops.size false)
def DX (ops:Array Oper) (sp:List Nat):Bool:=Region.noSelect ops && Bc .any ops sp && Region.lexFrom .any ops ops.size 0 (Array.replicate ops.size false)
theorem aL {id:Nat} {Q:Exit→Act→World→Prop} {a:Act} {w:World} {l:List Oper} (n:Nat) (sp:List Nat) (S:World→Prop) (VC:FuncId→Array Value→Value→Prop) (D:FuncId→Array Value→World→Value→World→Prop) (hm:P.follows .mixedOrders=true) (hB:EH l.toArray n sp=true)
  (hS0:S w) (hS:∀W q,S W→S (W.drewN q)) (h:kC P l.toArray S VC D sp (fun a' w1 => ∀q,wpList P l.toArray Q (l.drop n) a' (w1.drewN q)) 0 (l.take n) a w):(Code.region id l.toArray true).wp P Q a w:=by
 simp only [EH,Bool.and_eq_true,decide_eq_true_eq] at hB
 obtain ⟨⟨⟨⟨⟨hsel,hn⟩,hs⟩,hc⟩,hsp⟩,hlex⟩:=hB
 have hn':n < l.length:=by simpa using hn
 have htl:(l.take n).length=n:=by simp;omega
 have hdl:(l.drop n).length=l.toArray.size - n:=by simp
 have gf:∀i,(Array.replicate l.toArray.size false).getD i false=false:=fun i=>by
  simp only [Array.getD_eq_getD_getElem?,Array.getElem?_replicate];split <;> rfl
 have inv0:HInv .any l.toArray n (Array.replicate l.toArray.size false) :=
  ⟨by simp,fun j oj _ hl=>(by rw [gf] at hl;cases hl),fun t _ ht=>mN (by simpa using ht) (gf t)⟩
 have H:=pH (md:=.any) (L:=fun listed' a' w'=>Region.seqB .any l.toArray (l.toArray.size - n) n listed'=true∧∀q,wpList P l.toArray Q (l.drop n) a' (w'.drewN q)) hS hsel hsp
  (fun i hi listed inv hun j hj=>by
    rcases Nat.lt_or_ge j n with h | h
    ·exact h
    ·exact absurd hj (Ef hs hc hn inv (p:=0) (fun j hj=>by omega) _ i rfl hi hun j h))
  (fun listed a w hL=>seqB_ready hL.1) (fun len k listed=>Region.lexHead .any l.toArray (l.toArray.size - n) len k listed)
  (fun len k listed h=>by
    have h:Region.lexHead .any l.toArray (l.toArray.size - n) (len+1) k listed=true:=h
    simp only [Region.lexHead,Bool.and_eq_true] at h
    exact ⟨h.1.1,h.1.2,h.2⟩)
  (fun listed a w he hq=>⟨by simpa [Region.lexHead] using he,hq⟩)
  (l.take n) 0 _ a w hS0 (fun j hj=>by
   have hj':j < n:=by rw [htl] at hj;exact hj
   simp [hj']) (by simpa using htl) inv0 (fun j hj=>by omega) (by rw [htl];exact hlex) h
 refine wp_region_any hm ?_
 have:=dI (Q':=Q) (g:=l.toArray.size - n) hS (fun listed a' w' q hw' hL=>by
  have:=wpAny_of_seq (md:=.any) (Q':=Q) (l.drop n) n listed a' (w'.drewN q) (fun j=>by simp [List.getElem?_drop]) (by rw [hdl];exact hL.1) (hL.2 q)
  rwa [hdl] at this) _ _ _ _ 1 hS0 H
 rw [htl,show n+(l.toArray.size - n)=l.toArray.size by omega] at this
 exact this
theorem eZ {id:Nat} {Q:Exit→Act→World→Prop} {a:Act} {w:World} {l:List Oper} (sp:List Nat) (S:World→Prop) (VC:FuncId→Array Value→Value→Prop) (D:FuncId→Array Value→World→Value→World→Prop) (hm:P.follows .mixedOrders=true) (hB:DX l.toArray sp=true)
  (hS0:S w) (hS:∀W q,S W→S (W.drewN q)) (h:kC P l.toArray S VC D sp (fun a' w1 => ∀q,Q .normal a' (w1.drewN q)) 0 l a w):(Code.region id l.toArray true).wp P Q a w:=by
 simp only [DX,Bool.and_eq_true] at hB
 obtain ⟨⟨hsel,hsp⟩,hlex⟩:=hB
 have gf:∀i,(Array.replicate l.toArray.size false).getD i false=false:=fun i=>by
  simp only [Array.getD_eq_getD_getElem?,Array.getElem?_replicate];split <;> rfl
 have inv0:HInv .any l.toArray l.length (Array.replicate l.toArray.size false) :=
  ⟨by simp,fun j oj _ hl=>(by rw [gf] at hl;cases hl),fun t h1 ht=>mN (by simpa using ht) (gf t)⟩
 have H:=pH (md:=.any) (L:=fun listed' a' w'=>Region.ready .any l.toArray listed'=[]∧∀q,Q .normal a' (w'.drewN q)) hS hsel hsp
  (fun i hi listed inv hun j hj=>by
    obtain ⟨_,oj,hoj,_⟩:=mem_ready.1 hj
    have:=(Array.getElem?_eq_some_iff.1 hoj).1
    simpa using this)
  (fun listed a w hL j hj=>by rw [hL.1] at hj;cases hj) (fun len k listed=>Region.lexFrom .any l.toArray len k listed)
  (fun len k listed h=>by
    have h:Region.lexFrom .any l.toArray (len+1) k listed=true:=h
    simp only [Region.lexFrom,Bool.and_eq_true] at h
    exact ⟨h.1.1,h.1.2,h.2⟩)
  (fun listed a w he hq=>⟨by simpa [Region.lexFrom] using he,hq⟩)
  l 0 _ a w hS0 (fun j hj=>by simp) (by simp) inv0 (fun j hj=>by omega) (by simpa using hlex) h
 refine wp_region_any hm ?_
 have:=dI (Q':=Q) (g:=0) hS (fun listed a' w' q hw' hL=>⟨hL.1,hL.2 q⟩) _ _ _ _ 1 hS0 H
 rw [Nat.add_zero] at this
 exact this
/-! the steps of the walk -/
variable {Q:Act→World→Prop} {o:Oper} {rest:List Oper} {a:Act} {w:World} {k:Nat}
@[go_sem] theorem drawn_refl (w:World):eJ w w=True:=eq_true ⟨0,rfl⟩
theorem aD (hk:sp.contains k=false) (h0:S w) (h:∀K:Act→Prop,(∀a,kC P ops S VC D sp Q (k+1) rest a w→K a)→∀W:World,S W→if Region.wanted o (yielded ops a.tmps) then UponC P VC (eJ W) (fun v=>K (a.put o.dst v)) ((execOp a.eval o).run P W) else K (a.put o.dst undef)) :
  kC P ops S VC D sp Q k (o :: rest) a w:=by
 have h:=h _ (fun _ h=>h)
 refine ⟨fun e=>(by rw [hk] at e;cases e),fun _=>⟨fun hw W hW=>?_,fun v hv=>?_⟩⟩
 ·have:=h W hW
  rw [if_pos hw] at this
  revert this
  generalize (execOp a.eval o).run P W=r
  intro this
  unfold UponC at this
  unfold gZ
  split at this
  ·exact this.1
  ·exact this.1
  ·exact ⟨this.1,this.2.1⟩
  ·cases this
 ·rcases hv with ⟨hw,w1,w2,hS,hv⟩ | ⟨hw,rfl⟩
  ·have:=h w1 hS
   rw [if_pos hw] at this
   unfold UponC at this
   rcases hv with hv | ⟨hv,rfl⟩ | ⟨f,args,hv,hvc⟩
   ·rw [hv] at this;exact this.2
   ·rw [hv] at this;exact this.2
   ·rw [hv] at this;exact this.2.2 v hvc
  ·have:=h w h0
   rwa [if_neg (by rw [hw];exact Bool.false_ne_true)] at this
theorem aF (hk:sp.contains k=true) (h0:S w) (h:∀K:Act→World→Prop,(∀a w',kC P ops S VC D sp Q (k+1) rest a w'→K a w')→∀n:Nat,if Region.wanted o (yielded ops a.tmps) then SpecRes P D (fun v w'=>S w'∧K (a.put o.dst v) w') ((execOp a.eval o).run P (w.drewN n)) else K (a.put o.dst undef) w) :
  kC P ops S VC D sp Q k (o :: rest) a w:=by
 have h:=h _ (fun _ _ h=>h)
 refine ⟨fun _=>⟨fun hw n=>?_,fun hw=>?_⟩,fun e=>(by rw [hk] at e;cases e)⟩
 ·have:=h n
  rwa [if_pos hw] at this
 ·have:=h 0
  rw [if_neg (by rw [hw];exact Bool.false_ne_true)] at this
  exact ⟨h0,this⟩
theorem aP (hq:Q a w):kC P ops S VC D sp Q k [] a w:=hq
theorem bP {K:Value→World→Prop} {E:Prop} (hgd:o.guard=none) (s x:Operand) (t:TypeId)
  (ho:o.op=.call { callee:=.builtin .append,args:=#[s,x],argTypes:=#[t,t] })
  (base:Nat) (e:TypeId) (i:TypeInfo) (z:Value) (size bytes:Nat) (ht:P.underlying t=some (.slice e)) (hi:P.info? e=some i) (hz:i.zero=some z)
  (hsize:i.size=size) (hby:i.bytes=bytes) (hzs:z.cells.size=size) (hsz:0 < size)
  (v:Value) (n:Nat) (xs:List Value) (hs:a.eval s=v) (hown:w.ownsRow base e size v n xs)
  (ad:Addr) (m c:Nat) (news:List Value) (hx:a.eval x=.slice (some ad) m c) (hl:news.length=m * size) (hnews:∀j u,news[j]? = some u→w.cell? (ad.add j)=some u) (h1:∀u∈news,u.oneCell'=true)
  (h63:n+m≤maxLen) (hbytes:(n+m) * bytes≤140737488355328) (hbase:base≤w.heap.size)
  (h:∀v' w',w'.ownsRow base e size v' (n+m) (xs ++ news)→w.grownBy w' v.ownBlock→(v'.ownBlock=v.ownBlock∨v'.ownBlock=some w.heap.size)→Below base w w'→K v' w') :
  if Region.wanted o (yielded ops a.tmps)=true then SpecRes P D K ((execOp a.eval o).run P w) else E:=by
 have hw:Region.wanted o (yielded ops a.tmps)=true:=by simp [Region.wanted,hgd]
 rw [if_pos hw]
 obtain ⟨v',w',hr,h2,h3,_,h5⟩:=run_append_own_at (P:=P) w base t o.type e i z size bytes ht hi hz hsize hby hzs hsz v n xs hown ad m c news hl hnews h1 h63 hbytes hbase
 unfold execOp
 simp only [ho,resolve,invoke,builtin,Sem.run_bind,Sem.run_pure,Result.andThen_ok,List.map_toArray,List.map_cons,List.map_nil,hs,hx,hr]
 exact h v' w' h2 h3 h5 ((O _ _).grown h3 hbase (fun j hj=>(hown.lt j hj).1))
end
theorem fH (w:World) (ad:Option Addr) (cap:Nat) (xs:List Nat) (h:F32s w ad cap xs) (hc:ad=none→cap=0) (hn:xs.length≤1048576) :
  Calls Tryz.prog 100 #[.slice ad xs.length cap] w fun e w' => ∃ad' cap',e=.returned (.slice ad' xs.length cap')∧Hid (RepF w' w.heap.size w'.heap.size ad' xs.length cap' xs)∧Below w.heap.size w w':=by
 refine (zQ w ad cap xs h hc hn).mono ?_
 rintro e w' ⟨v,rfl,ho,hb⟩
 obtain ⟨ad',cap',rfl,hr⟩:=RepF.of_owns ho h.lt
 exact ⟨ad',cap',rfl,I hr,hb⟩
theorem OwnR.nil1 {α:Type} (R:RecT α) (w:World):OwnR R (w.alloc (.cells #[] R.e)) w.heap.size (w.alloc (.cells #[] R.e)).heap.size (some ⟨w.heap.size,0,none⟩) 0 0 [] :=
 ⟨Own.one (Row.mk' (World.ownsRow_made _ _ _ (J _) (Nat.zero_le _) (by simp))),rfl,fun a ha=>(nomatch ha)⟩
def DB (n:Nat) (xs:List Nat) (f:FuncId) (args:Array Value) (w1:World) (v:Value) (w2:World):Prop:=∃ad cap,v=.slice ad n cap∧RepF w2 w1.heap.size w2.heap.size ad n cap xs∧Below w1.heap.size w1 w2
structure OwnX {α:Type} (R:RecT α) (w:World) (lo hi:Nat) (ad:Option Addr) (n cap:Nat) (us:List α) (E:List RowD):Prop where
 own:Own w lo hi (⟨R.e,R.size,ad,n,cap,us.flatMap R.cells⟩ :: (us.flatMap R.inn ++ E))
 len:us.length=n
 ok:∀a∈us,R.ok a
section
variable {α:Type} {R:RecT α} {w w':World} {lo hi:Nat} {ad:Option Addr} {n cap:Nat} {us:List α} {E:List RowD}
theorem OwnX.r (h:OwnX R w lo hi ad n cap us E):OwnR R w lo hi ad n cap us:=⟨h.own.sub (List.Sublist.cons_cons _ (List.sublist_append_left _ _)),h.len,h.ok⟩
theorem OwnX.below (h:OwnX R w lo hi ad n cap us E) (hb:Below w.heap.size w w'):OwnX R w' lo hi ad n cap us E:=⟨h.own.below hb,h.len,h.ok⟩
theorem OwnX.bounds {lo' hi':Nat} (h:OwnX R w lo hi ad n cap us E) (h1:lo'≤lo) (h2:hi≤hi'):OwnX R w lo' hi' ad n cap us E:=⟨h.own.bounds h1 h2,h.len,h.ok⟩
theorem OwnX.beside (h:OwnR R w lo hi ad n cap us) {hi2:Nat} (hE:Own w hi hi2 E) (h1:lo≤hi) (h2:hi≤hi2):OwnX R w lo hi2 ad n cap us E:=by
 refine ⟨?_,h.len,h.ok⟩
 rw [←List.cons_append]
 exact Own.append h.own hE h1 h2
theorem OwnX.setNew {w1 w2:World} {hi1:Nat} (h:OwnX R w lo w.heap.size ad n cap us E) (hlo:lo≤w.heap.size) (hb:Below w.heap.size w w1) {k:Nat} (hk:k < n) {a:α} (ha:R.ok a) (hn:Own w1 w.heap.size hi1 (R.inn a)) (hi1s:w.heap.size≤hi1)
  (hst:∀M,Own w1 lo hi1 (⟨R.e,R.size,ad,n,cap,us.flatMap R.cells⟩ :: M)→Own w2 lo hi1 (⟨R.e,R.size,ad,n,cap,iO (us.flatMap R.cells) (k * R.size) (R.cells a)⟩ :: M)):OwnX R w2 lo hi1 ad n cap (us.set k a) E:=by
 have hkl:k < us.length:=by rw [h.len];exact hk
 refine ⟨?_,by rw [List.length_set];exact h.len,fun b hb=>?_⟩
 ·have h1:=Own.fresh h.own hlo (J _) hb hn hi1s
  rw [List.cons_append] at h1
  have h2:=hst _ h1
  rw [tM R us hkl] at h2
  have e1:us.flatMap R.inn=(us.take k).flatMap R.inn ++ (R.inn us[k] ++ (us.drop (k+1)).flatMap R.inn):=by
   rw [←List.flatMap_cons,List.getElem_cons_drop,←List.flatMap_append,List.take_append_drop]
  have e2:(us.set k a).flatMap R.inn=(us.take k).flatMap R.inn ++ (R.inn a ++ (us.drop (k+1)).flatMap R.inn):=by
   rw [List.set_eq_take_append_cons_drop,if_pos hkl,List.flatMap_append,List.flatMap_cons]
  rw [e1] at h2
  rw [e2]
  have h3:=h2.sub (M:=⟨R.e,R.size,ad,n,cap,(us.set k a).flatMap R.cells⟩ :: ((((us.take k).flatMap R.inn ++ (us.drop (k+1)).flatMap R.inn) ++ E) ++ R.inn a)) (List.Sublist.cons_cons _ (List.Sublist.append (List.Sublist.append (List.Sublist.append (List.Sublist.refl _) (List.sublist_append_right _ _)) (List.Sublist.refl _)) (List.Sublist.refl _)))
  refine h3.perm (List.Perm.cons _ ?_)
  simp only [List.append_assoc]
  refine List.Perm.append_left _ ?_
  rw [←List.append_assoc,←List.append_assoc]
  refine List.perm_append_comm.trans ?_
  rw [List.append_assoc]
 ·rcases List.mem_or_eq_of_mem_set hb with hb | rfl
  ·exact h.ok b hb
  ·exact ha
theorem OwnX.snoc {w1 w2:World} {hi1:Nat} {v':Value} {a:α} {o:Obj} (h:OwnX R w lo w.heap.size ad n cap us E) (hlo:lo≤w.heap.size) (hb:Below w.heap.size w w1) (ha:R.ok a) (hn:Own w1 w.heap.size hi1 (R.inn a)) (hi1s:hi1≤w1.heap.size) (hi0:w.heap.size≤hi1)
  (ho:w2.ownsRow lo R.e R.size v' (n+1) (us.flatMap R.cells ++ R.cells a)) (hg:(w1.alloc o).grownBy w2 (Value.slice ad n cap).ownBlock) (hat:v'.ownBlock=(Value.slice ad n cap).ownBlock∨v'.ownBlock=some (w1.heap.size+1)) :
  ∃ad' cap',v'=.slice ad' (n+1) cap'∧OwnX R w2 lo w2.heap.size ad' (n+1) cap' (us ++ [a]) E:=by
 obtain ⟨ad',cap',rfl,_⟩:=Rd.of_owns ho
 refine ⟨ad',cap',rfl,?_,by rw [List.length_append,h.len];rfl,fun b hb=>?_⟩
 ·have h1:=Own.fresh h.own hlo (J _) hb hn hi0
  rw [List.cons_append] at h1
  have h2:Own (w1.alloc o) lo hi1 _:=h1.below (aE w1 o)
  have hs:=hg.size
  have h3:=h2.grown (w':=w2) (hi':=w2.heap.size) (y:=⟨R.e,R.size,ad',n+1,cap',(us ++ [a]).flatMap R.cells⟩) hg (by
   refine Row.mk' ?_
   rw [List.flatMap_append,List.flatMap_singleton]
   exact ho) (fun g e=>?_) (by simp at hs;omega)
  ·have e:(us ++ [a]).flatMap R.inn=us.flatMap R.inn ++ R.inn a:=by rw [List.flatMap_append,List.flatMap_singleton]
   rw [e]
   refine h3.perm (List.Perm.cons _ ?_)
   simp only [List.append_assoc]
   exact List.Perm.append_left _ List.perm_append_comm
  ·rcases hat with e1 | e1
   ·exact .inl (e1.symm.trans e)
   ·right
    have e2:some g=some (w1.heap.size+1):=e.symm.trans e1
    cases e2
    omega
 ·rcases List.mem_append.1 hb with hb | hb
  ·exact h.ok b hb
  ·simp at hb;subst hb;exact ha
theorem OwnX.storeE {e:TypeId} {size g m c:Nat} {vs:List Value} {E:List RowD} (h:OwnX R w lo hi ad n cap us (⟨e,size,some ⟨g,0,none⟩,m,c,vs⟩ :: E)) (k:Nat) (v:Value):OwnX R (w.setCell ⟨g,k,none⟩ v) lo hi ad n cap us (⟨e,size,some ⟨g,0,none⟩,m,c,vs.set k v⟩ :: E):=by
 refine ⟨?_,h.len,h.ok⟩
 have p:∀(x:RowD),(⟨R.e,R.size,ad,n,cap,us.flatMap R.cells⟩ :: (us.flatMap R.inn ++ x :: E)).Perm (x :: (⟨R.e,R.size,ad,n,cap,us.flatMap R.cells⟩ :: (us.flatMap R.inn ++ E))):=fun x =>
  (List.Perm.cons _ List.perm_middle).trans (List.Perm.swap _ _ _)
 exact ((h.own.perm (p _)).store k v).perm (p _).symm
theorem OwnX.memE {x:RowD} (h:OwnX R w lo hi ad n cap us E) (hx:x∈E):x∈(⟨R.e,R.size,ad,n,cap,us.flatMap R.cells⟩ :: (us.flatMap R.inn ++ E):List RowD):=List.mem_cons_of_mem _ (List.mem_append_right _ hx)
end
def dU (g n:Nat) (U:List Bool):RowD:=⟨4,1,some ⟨g,0,none⟩,n,n,U.map Value.bool⟩
section
variable {α:Type} {R:RecT α} {w w':World} {lo hi:Nat} {ad:Option Addr} {n cap:Nat} {us:List α} {g m:Nat} {U:List Bool} {E:List RowD}
theorem OwnX.u (h:OwnX R w lo hi ad n cap us (dU g m U :: E)):g < w.heap.size∧lo≤g∧(∀k,k < U.length→w.cell? ⟨g,k,none⟩=some (.bool (U.getD k false)))∧∀k,w.frozen? ⟨g,k,none⟩=false:=by
 obtain ⟨_,h1,h2,h3⟩:=h.own.cell (h.memE (List.mem_cons_self ..))
 refine ⟨h1.2.2,h1.1,fun k hk=>?_,h3⟩
 rw [h2 k (by simpa using hk),List.getElem?_map,List.getElem?_eq_getElem hk,List.getD_eq_getElem?_getD,List.getElem?_eq_getElem hk];rfl
theorem OwnX.setU (h:OwnX R w lo hi ad n cap us (dU g m U :: E)) (k:Nat):OwnX R (w.setCell ⟨g,k,none⟩ (.bool true)) lo hi ad n cap us (dU g m (U.set k true) :: E):=by
 have:=h.storeE k (.bool true)
 unfold dU
 rw [List.map_set]
 exact this
end
def bQ (ad:Option Addr) (cap:Nat) (xs:List Int):RowD:=⟨2,1,ad,xs.length,cap,xs.map (Value.int .i64)⟩
theorem Own.repI {w:World} {lo hi:Nat} {ad:Option Addr} {cap:Nat} {xs:List Int} {L:List RowD} (h:Own w lo hi L) (hm:bQ ad cap xs∈L) (ho:∀x∈xs,(Lit.int .i64 x).wf=true):RepI w lo hi ad xs.length cap xs:=⟨h.row _ hm,rfl,ho⟩
end
section
open Go Go.RowKit Go.ChangeShapes Go.WideShapes
structure LayP where
 k:Int
 i:Int
 o:Int
 ws:List Nat
 bs:List Nat
structure LayD extends LayP where
 wa:Option Addr
 wk:Nat
 ba:Option Addr
 bk:Nat
def LayP.can (l:LayP):LayP:=⟨l.k,l.i,l.o,l.ws.map (cn .f32),l.bs.map (cn .f32)⟩
def LayD.cells (l:LayD):List Value:=[.int .i64 l.k,.int .i64 l.i,.int .i64 l.o,.slice l.wa l.ws.length l.wk,.slice l.ba l.bs.length l.bk]
def LayD.val (l:LayD):Value:=.agg #[.int .i64 l.k,.int .i64 l.i,.int .i64 l.o,.slice l.wa l.ws.length l.wk,.slice l.ba l.bs.length l.bk]
def LayD.inn (l:LayD):List RowD:=[aK l.wa l.wk l.ws,aK l.ba l.bk l.bs]
def LayD.ok (l:LayD):Prop:=(okF l.ws∧okF l.bs)∧(Lit.int .i64 l.k).wf=true∧(Lit.int .i64 l.i).wf=true∧(Lit.int .i64 l.o).wf=true
def aX:RecT LayD:=⟨99,5,LayD.cells,LayD.inn,LayD.ok,fun _=>rfl⟩
theorem bG {w:World} {ad:Option Addr} {cap:Nat} {us:List LayD} (h:SeeR aX w ad cap us) {k:Nat} {l:LayD} (hk:us[k]? = some l):∃b off,ad=some ⟨b,off,none⟩∧b < w.heap.size ∧
  (w.cell? ⟨b,off+k * 5,none⟩=some (.int .i64 l.k)∧w.cell? ⟨b,off+k * 5+1,none⟩=some (.int .i64 l.i)∧w.cell? ⟨b,off+k * 5+2,none⟩=some (.int .i64 l.o)∧w.cell? ⟨b,off+k * 5+3,none⟩=some (.slice l.wa l.ws.length l.wk)∧w.cell? ⟨b,off+k * 5+4,none⟩=some (.slice l.ba l.bs.length l.bk)) ∧
  (F32s w l.wa l.wk l.ws∧F32s w l.ba l.bk l.bs)∧l.ok:=by
 obtain ⟨b,off,e,hb,hc⟩:=h.spot hk (by decide)
 have hm:=List.mem_of_getElem? hk
 exact ⟨b,off,e,hb,⟨hc 0 (by decide),hc 1 (by decide),hc 2 (by decide),hc 3 (by decide),hc 4 (by decide)⟩,⟨(h.inn l hm _ (List.mem_cons_self ..)).f32s (h.ok l hm).1.1,(h.inn l hm _ (List.mem_cons_of_mem _ (List.mem_singleton.2 rfl))).f32s (h.ok l hm).1.2⟩,h.ok l hm⟩
theorem xV {w:World} {lo hi n cap:Nat} {ad:Option Addr} {us:List LayD} (h:OwnR aX w lo hi ad n cap us) {k:Nat} {l:LayD} (hk:us[k]? = some l):∃g,ad=some ⟨g,0,none⟩∧(lo≤g∧g < hi∧g < w.heap.size) ∧
  (w.cell? ⟨g,k * 5,none⟩=some (.int .i64 l.k)∧w.cell? ⟨g,k * 5+1,none⟩=some (.int .i64 l.i)∧w.cell? ⟨g,k * 5+2,none⟩=some (.int .i64 l.o)∧w.cell? ⟨g,k * 5+3,none⟩=some (.slice l.wa l.ws.length l.wk)∧w.cell? ⟨g,k * 5+4,none⟩=some (.slice l.ba l.bs.length l.bk)) ∧
  (∀j,w.frozen? ⟨g,j,none⟩=false)∧RepF w lo hi l.wa l.ws.length l.wk l.ws∧RepF w lo hi l.ba l.bs.length l.bk l.bs:=by
 obtain ⟨g,e,hr,hc,hf⟩:=h.spot hk (by decide)
 have hm:=List.mem_of_getElem? hk
 exact ⟨g,e,hr,⟨hc 0 (by decide),hc 1 (by decide),hc 2 (by decide),hc 3 (by decide),hc 4 (by decide)⟩,hf,h.own.repF (List.mem_cons_of_mem _ (List.mem_flatMap.2 ⟨l,hm,List.mem_cons_self ..⟩)) (h.ok l hm).1.1,h.own.repF (List.mem_cons_of_mem _ (List.mem_flatMap.2 ⟨l,hm,List.mem_cons_of_mem _ (List.mem_singleton.2 rfl)⟩)) (h.ok l hm).1.2⟩
theorem LayD.ok_of {l l':LayD} (h:l'.toLayP=l.toLayP) (hl:l.ok):l'.ok:=by unfold LayD.ok at hl ⊢;rw [h];exact hl
theorem BoxN.five {w:World} {g:Nat} {a b c d e:Value} (h:BoxN w g [a,b,c,d,e]):g < w.heap.size∧w.cell? ⟨g,0,none⟩=some a∧w.cell? ⟨g,1,none⟩=some b∧w.cell? ⟨g,2,none⟩=some c∧w.cell? ⟨g,3,none⟩=some d∧w.cell? ⟨g,4,none⟩=some e∧(∀o,w.frozen? ⟨g,o,none⟩=false) :=
 ⟨h.lt,h.at' 0 (by simp),h.at' 1 (by simp),h.at' 2 (by simp),h.at' 3 (by simp),h.at' 4 (by simp),h.fz⟩
theorem BoxN.one1 {w:World} {g:Nat} {a:Value} (h:BoxN w g [a]):g < w.heap.size∧w.cell? ⟨g,0,none⟩=some a∧(∀o,w.frozen? ⟨g,o,none⟩=false):=⟨h.lt,h.at' 0 (by simp),h.fz⟩
section
variable {H:Type} {enc:TypeId × Value→H} {w:World} {base:Nat} {spare:Nat→Bool} {held:Bool}
theorem Bx {n:Nat} {cs:List Value} {y:DataW H × List MemPlace} (h:DataW.trod enc Tryz.prog w base spare held n 92 cs=some y) :
  ∃l:LayD,cs=l.cells∧(F32s w l.wa l.wk l.ws∧F32s w l.ba l.bk l.bs)∧l.ok:=by
 have c0:Tryz.prog.cellsOf 92=5:=by kernel_rfl
 have c1:Tryz.prog.cellsOf 2=1:=by kernel_rfl
 have c2:Tryz.prog.cellsOf 25=1:=by kernel_rfl
 obtain ⟨n,hl,hp⟩:=lE Tryz.underlying92 h
 rw [c0] at hl
 obtain ⟨x0,x1,x2,x3,x4,rfl⟩:=EA hl
 obtain ⟨y0,h0⟩:=hp 0 2 0 1 _ rfl rfl rfl c1
 obtain ⟨y1,h1⟩:=hp 1 2 1 1 _ rfl rfl rfl c1
 obtain ⟨y2,h2⟩:=hp 2 2 2 1 _ rfl rfl rfl c1
 obtain ⟨y3,h3⟩:=hp 3 25 3 1 _ rfl rfl rfl c2
 obtain ⟨y4,h4⟩:=hp 4 25 4 1 _ rfl rfl rfl c2
 simp only [List.drop_succ_cons,List.drop_zero,List.take_succ_cons,List.take_zero] at h0 h1 h2 h3 h4
 obtain ⟨k,e0,_,w0⟩:=DataW.trod_int Tryz.underlying2 h0
 obtain ⟨i,e1,_,w1⟩:=DataW.trod_int Tryz.underlying2 h1
 obtain ⟨o,e2,_,w2⟩:=DataW.trod_int Tryz.underlying2 h2
 obtain ⟨a3,c3,xs3,e3,w3⟩:=tF Tryz.underlying25 Tryz.underlying28 h3
 obtain ⟨a4,c4,xs4,e4,w4⟩:=tF Tryz.underlying25 Tryz.underlying28 h4
 simp only [List.cons.injEq,and_true] at e0 e1 e2 e3 e4
 subst e0 e1 e2 e3 e4
 exact ⟨⟨⟨k,i,o,xs3,xs4⟩,a3,c3,a4,c4⟩,rfl,⟨w3,w4⟩,⟨w3.lt,w4.lt⟩,w0,w1,w2⟩
theorem AD {n:Nat} {cs:List Value} {y:DataW H × List MemPlace} (h:DataW.trod enc Tryz.prog w base spare held n 22 cs=some y):∃ad cap ls,cs=[.slice ad (List.length ls) cap]∧SeeR aX w ad cap ls:=by
 obtain ⟨a,l,c,rfl⟩:=Joins.slice_form Tryz.underlying22 h
 obtain ⟨ad,cap,bs,h1,h2,h3,h4,h5⟩:=qD (v:=.slice a l c) LayD.cells (fun l=>(F32s w l.wa l.wk l.ws∧F32s w l.ba l.bk l.bs)∧l.ok) Tryz.underlying22 (fun n cs y hy=>Bx hy) ⟨n,by simpa [Value.cells] using h⟩ ⟨a,l,c,rfl⟩
 refine ⟨ad,cap,bs,by rw [h1],⟨h2,h3,h4,fun o ho x hx=>?_,fun o ho=>(h5 o ho).2⟩⟩
 rcases List.mem_cons.1 hx with rfl | hx
 ·exact (h5 o ho).1.1.seeRow
 ·rw [List.mem_singleton.1 hx]
  exact (h5 o ho).1.2.seeRow
theorem dec_Model {n:Nat} {cs:List Value} {y:DataW H × List MemPlace} (h:DataW.trod enc Tryz.prog w base spare held n 24 cs=some y):∃ad cap ls,cs=[.slice ad (List.length ls) cap]∧SeeR aX w ad cap ls:=by
 have c0:Tryz.prog.cellsOf 24=1:=by kernel_rfl
 have c1:Tryz.prog.cellsOf 22=1:=by kernel_rfl
 obtain ⟨n,hl,hp⟩:=lE Tryz.underlying24 h
 rw [c0] at hl
 obtain ⟨x0,rfl⟩:=List.length_eq_one_iff.1 hl
 obtain ⟨y0,h0⟩:=hp 0 22 0 1 _ rfl rfl rfl c1
 simp only [List.drop_zero,List.take_succ_cons,List.take_zero] at h0
 exact AD h0
end
def LayD.n (l:LayD):Nat:=l.ws.length+l.bs.length
theorem Fg (w:World) (l:LayD) (L:Int) (hn:l.ws.length≤maxLen∧l.bs.length≤maxLen) (h0:0≤L) (h1:L≤1048576):Calls Tryz.prog 52 #[l.val,.int .i64 L] w fun e w'=>e=.returned (.int .i64 (if (l.n:Int)≤L then L - l.n else -1))∧Below w.heap.size w w':=by
 obtain ⟨⟨k,i,o,xs,ys⟩,a,c,a',c'⟩:=l
 show Calls Tryz.prog 52 #[.agg #[.int .i64 k,.int .i64 i,.int .i64 o,.slice a xs.length c,.slice a' ys.length c'],.int .i64 L] w fun e w'=>e=.returned (.int .i64 (if ((xs.length+ys.length:Nat):Int)≤L then L - (xs.length+ys.length:Nat) else -1))∧Below w.heap.size w w'
 obtain ⟨n,hN⟩:∃n,n=xs.length:=⟨_,rfl⟩
 obtain ⟨m,hM⟩:∃m,m=ys.length:=⟨_,rfl⟩
 have hn1:n≤maxLen:=by rw [hN];exact hn.1
 have hn2:m≤maxLen:=by rw [hM];exact hn.2
 rw [←hN,←hM]
 clear hN hM hn
 have K:=I (fun W=>xL W a n c L hn1 h0 h1)
 have K2:=I (fun W L (h0:0≤L) (h1:L≤1048576)=>xL W a' m c' L hn2 h0 h1)
 have hb:=aE w (.cells #[.int .i64 k,.int .i64 i,.int .i64 o,.slice a n c,.slice a' m c'] 92)
 have HB:=I hb;clear hb
 by_cases h:(n:Int)≤L
 ·rw [if_pos h] at K
  have hp:0≤L - n:=by omega
  obtain ⟨L2,hL2⟩:∃L2,L2=L - n:=⟨_,rfl⟩
  have K3:=I (fun W=>K2.out W L2 (by omega) (by omega))
  have HL2:=I hL2
  by_cases h2:(m:Int)≤L2
  ·rw [if_pos h2] at K3
   have hp2:0≤L2 - m:=by omega
   rw [if_pos (by omega)]
   rw [←hL2] at K hp
   have e:L - ((n+m:Nat):Int)=L2 - m:=by omega
   rw [e]
   clear e K2 hL2
   go_enter Tryz.func52,Tryz.ntmps52
   go_wp2_with fail
   refine (K.out _).mono ?_
   rintro e w1 ⟨rfl,rfl⟩
   go_wp2_with fail
   refine (K3.out _).mono ?_
   rintro e w1 ⟨rfl,rfl⟩
   go_wp2
   go_ret
   exact ⟨rfl,HB.out⟩
  ·rw [if_neg h2] at K3
   rw [if_neg (by omega)]
   rw [←hL2] at K hp
   clear K2 hL2
   go_enter Tryz.func52,Tryz.ntmps52
   go_wp2_with fail
   refine (K.out _).mono ?_
   rintro e w1 ⟨rfl,rfl⟩
   go_wp2_with fail
   refine (K3.out _).mono ?_
   rintro e w1 ⟨rfl,rfl⟩
   go_wp2
   go_ret
   exact ⟨rfl,HB.out⟩
 ·rw [if_neg h] at K
  rw [if_neg (by omega)]
  clear K2
  go_enter Tryz.func52,Tryz.ntmps52
  go_wp2_with fail
  refine (K.out _).mono ?_
  rintro e w1 ⟨rfl,rfl⟩
  go_wp2
  go_ret
  exact ⟨rfl,HB.out⟩
theorem Fh (w:World) (l:LayD) (h:F32s w l.wa l.wk l.ws∧F32s w l.ba l.bk l.bs) (hn:l.ws.length≤1048576∧l.bs.length≤1048576) :
  Calls Tryz.prog 59 #[l.val] w fun e w' => ∃l':LayD,e=.returned l'.val∧l'.toLayP=l.toLayP∧Hid (Own w' w.heap.size w'.heap.size l'.inn)∧Below w.heap.size w w':=by
 obtain ⟨⟨k,i,o,xs,ys⟩,a,c,a',c'⟩:=l
 show Calls Tryz.prog 59 #[.agg #[.int .i64 k,.int .i64 i,.int .i64 o,.slice a xs.length c,.slice a' ys.length c']] w _
 replace h:F32s w a c xs∧F32s w a' c' ys:=h
 replace hn:xs.length≤1048576∧ys.length≤1048576:=hn
 obtain ⟨n,hN⟩:∃n,n=xs.length:=⟨_,rfl⟩
 obtain ⟨m,hM⟩:∃m,m=ys.length:=⟨_,rfl⟩
 have b3:=dE w (.cells #[.int .i64 k,.int .i64 i,.int .i64 o,.slice a n c,.slice a' m c'] 92) (.cells #[.int .i64 0,.int .i64 0,.int .i64 0,.slice none 0 0,.slice none 0 0] 99) (.cells #[.int .i64 k,.int .i64 i,.int .i64 o,.slice none 0 0,.slice none 0 0] 99)
 have K:=I (Eh _ a c xs (h.1.below b3) hn.1)
 have K2:=I (fun W (hb:Below w.heap.size w W)=>Eh W a' c' ys (h.2.below hb) hn.2)
 have LB:=I ((BoxN.alloc w #[.int .i64 k,.int .i64 i,.int .i64 o,.slice a n c,.slice a' m c'] 92).below (bZ _ (.cells #[.int .i64 0,.int .i64 0,.int .i64 0,.slice none 0 0,.slice none 0 0] 99) (.cells #[.int .i64 k,.int .i64 i,.int .i64 o,.slice none 0 0,.slice none 0 0] 99)))
 have RB:=I ((BoxN.alloc2 w (.cells #[.int .i64 k,.int .i64 i,.int .i64 o,.slice a n c,.slice a' m c'] 92) #[.int .i64 0,.int .i64 0,.int .i64 0,.slice none 0 0,.slice none 0 0] 99).below (aE _ (.cells #[.int .i64 k,.int .i64 i,.int .i64 o,.slice none 0 0,.slice none 0 0] 99)))
 have OB:=I (BoxN.alloc3 w (.cells #[.int .i64 k,.int .i64 i,.int .i64 o,.slice a n c,.slice a' m c'] 92) (.cells #[.int .i64 0,.int .i64 0,.int .i64 0,.slice none 0 0,.slice none 0 0] 99) #[.int .i64 k,.int .i64 i,.int .i64 o,.slice none 0 0,.slice none 0 0] 99)
 have B:=I b3
 rw [←hN] at K
 rw [←hM] at K2
 rw [←hN,←hM]
 have NX:=I hN;have MX:=I hM
 clear b3 h hN hM hn
 go_enter Tryz.func59,Tryz.ntmps59
 go_wp2_with fail
 refine K.out.mono ?_
 rintro e w1 ⟨a1,c1,rfl,hr,hb⟩
 have HR1:=I hr;have HB1:=I hb
 have hb0:=aA B.out hb
 obtain ⟨-,l0,l1,l2,l3,l4,lf⟩:=(LB.out.below hb).five
 obtain ⟨-,o0,o1,o2,o3,o4,of⟩:=(OB.out.below hb).five
 have hz1:w.heap.size+3≤w1.heap.size:=by have:=hb.size;simp at this;omega
 have KW:=I (K2.out (w1.setCell ⟨w.heap.size+2,3,none⟩ (.slice a1 n c1)) (hb0.setCell (p:=⟨w.heap.size+2,3,none⟩) (by show w.heap.size≤w.heap.size+2;omega) _))
 have HZ:=I hz1
 have HBW:=I (hb0.setCell (p:=⟨w.heap.size+2,3,none⟩) (by show w.heap.size≤w.heap.size+2;omega) (.slice a1 n c1))
 have LB1:=I ((LB.out.below hb).far (w.heap.size+2) 3 (.slice a1 n c1) (by omega))
 have RB1:=I ((RB.out.below hb).far (w.heap.size+2) 3 (.slice a1 n c1) (by omega))
 have OB1:=I ((OB.out.below hb).set 3 (.slice a1 n c1))
 have HR1':Hid (RepF (w1.setCell ⟨w.heap.size+2,3,none⟩ (.slice a1 n c1)) (w.heap.size+3) (w1.setCell ⟨w.heap.size+2,3,none⟩ (.slice a1 n c1)).heap.size a1 n c1 xs):=I ((hr.touch (lo2:=w.heap.size+2) (hi2:=w.heap.size+3) (Touch.setCell (J _) (Nat.lt_succ_self _)) (.inr (by simp))).bounds (by simp) (by simp [World.setCell]))
 clear hr hb hb0 K K2 hz1 LB RB OB B HR1
 go_wp2_with fail
 refine KW.out.mono ?_
 rintro e w2 ⟨a2,c2,rfl,hr2,hb2⟩
 obtain ⟨-,r0,r1,r2,r3,r4,rf⟩:=(RB1.out.below hb2).five
 clear l0 l1 l2 l3 l4 lf o0 o1 o2 o3 o4 of
 obtain ⟨-,o0,o1,o2,o3,o4,of⟩:=(OB1.out.below hb2).five
 have HR2:=I hr2;have HB2:=I hb2
 have hz2:=hb2.size
 have hz3:=HZ.out
 simp at hz2
 clear hr2 hb2 KW
 go_wp2
 refine bodyPost_ret (v:=.agg #[.int .i64 k,.int .i64 i,.int .i64 o,.slice a1 n c1,.slice a2 m c2]) (by simp [results,Tryz.results59,go_sem,r0,r1,r2,r3,r4,o0,o1,o2,o3,o4]) rfl ⟨⟨⟨k,i,o,xs,ys⟩,a1,c1,a2,c2⟩,by rw [NX.out,MX.out];rfl,rfl,I ?_,?_⟩
 ·have h0:Own w2 (w.heap.size+3) w2.heap.size ([aK a1 c1 xs] ++ [aK a2 c2 ys]):=Own.append (HR1'.out.below HB2.out).ownRow HR2.out.ownRow (by simp [World.setCell];omega) HB2.out.size
  have h1:=(h0.touch (aB w2 (w.heap.size+2) 4 [.slice a2 m c2]) (.inr (by omega))).touch (aB _ (w.heap.size+1) 0 [.int .i64 k,.int .i64 i,.int .i64 o,.slice a1 n c1,.slice a2 m c2]) (.inr (by omega))
  exact h1.bounds (by omega) (by simp [World.setCell])
 ·exact aG (aG (aA HBW.out HB2.out) (g:=w.heap.size+2) (by omega) 4 [.slice a2 m c2]) (g:=w.heap.size+1) (by omega) 0 [.int .i64 k,.int .i64 i,.int .i64 o,.slice a1 n c1,.slice a2 m c2]
end
section
open Go Go.RowKit
theorem EI (w:World) (ad:Option Addr) (cap:Nat) (os:List LayD) (h:SeeR aX w ad cap os) (L:Int) (h0:0≤L) (h1:L≤1048576) :
  Calls Tryz.prog 27 #[.slice ad os.length cap,.int .i64 L] w fun e w'=>e=.returned (.int .i64 (lJ LayD.n os L))∧Below w.heap.size w w':=by
 have hm:=Nat.le_trans h.le h.cap
 unfold maxLen at hm
 obtain ⟨R,hR⟩:∃R,R=lJ LayD.n os L:=⟨_,rfl⟩
 rw [←hR]
 obtain ⟨n,hN⟩:∃n,n=os.length:=⟨_,rfl⟩
 unfold lJ at hR
 rw [←hN] at hm hR ⊢
 have HN:=I hN;have HR:=I hR;have H:=I h;clear hN hR h
 by_cases hn:(n:Int)≤L
 ·go_enter Tryz.func27,Tryz.ntmps27
  go_wp2
  go_loopw [1,5] (fun l i wt => ∃k:Nat,∃r:Int,i=.int .i64 k∧l=.int .i64 r∧k≤n∧0≤r∧r≤1048576∧Hid (r+(n+jJ LayD.n os k:Nat)=L)∧Hid (Below w.heap.size w wt)) (fun _ i _=>n - (intOf i).toNat)
  case atStart=>exact ⟨0,L - n,rfl,rfl,Nat.zero_le _,by omega,by omega,I (by rw [Az];simp),I (O _ _)⟩
  case round =>
   obtain ⟨k,r,rfl,rfl,hk,hr0,hr1,hr,HB⟩:=hrel
   by_cases hlt:k < n
   ·obtain ⟨o,ho⟩:=getElem?_lt (show k < os.length by rw [←HN.out];exact hlt)
    obtain ⟨b,off,rfl,hb,⟨p0,p1,p2,p3,p4⟩,hf,hok⟩:=bG (H.out.below HB.out) ho
    have hml:o.ws.length≤maxLen∧o.bs.length≤maxLen:=⟨Nat.le_trans hf.1.len hf.1.cap,Nat.le_trans hf.2.len hf.2.cap⟩
    have hcs:=AA LayD.n ho
    have hcl:=CK LayD.n os (show k+1≤n by omega)
    have HCS:=I hcs;have HCL:=I hcl
    have k1:=fun W=>Fg W o r hml hr0 hr1
    by_cases hmr:(o.n:Int)≤r
    ·rw [if_pos hmr] at k1
     have K1:=I k1
     obtain ⟨m,hM⟩:∃m,m=o.n:=⟨_,rfl⟩
     unfold LayD.val at K1
     rw [←hM] at K1 hmr
     have HM:=I hM
     clear k1 hf hok hml hcs hcl hM
     go_wp2_with fail
     refine (K1.out _).mono ?_
     rintro e w1 ⟨rfl,hb1⟩
     have HB1:=I (aA HB.out hb1);clear hb1 p0 p1 p2 p3 p4
     have hp:0≤r - m:=by omega
     go_wp2
     refine ⟨?rel,?measure⟩
     case rel=>exact ⟨k+1,r - m,by go_num,rfl,hlt,by omega,by omega,I (by have:=hr.out;have:=HCS.out;have:=HM.out;omega),HB1⟩
     case measure=>simp [intOf];omega
    ·rw [if_neg hmr] at k1
     have K1:=I k1
     have hE:R = -1:=by
      rw [HR.out,if_neg]
      have:=hr.out;have:=HCS.out;have:=HCL.out
      omega
     have HE:=I hE
     obtain ⟨m,hM⟩:∃m,m=o.n:=⟨_,rfl⟩
     unfold LayD.val at K1
     rw [←hM] at hmr
     clear k1 hf hok hml hcs hcl hM hE
     go_wp2_with fail
     refine (K1.out _).mono ?_
     rintro e w1 ⟨rfl,hb1⟩
     have HB1:=I (aA HB.out hb1);clear hb1 p0 p1 p2 p3 p4
     go_wp2
     go_ret
     exact ⟨by rw [HE.out];rfl,HB1.out⟩
   ·have hkn:k=n:=by omega
    subst hkn
    have hE:R=r:=by
     rw [HR.out,if_pos]
     ·have:=hr.out;omega
     ·have:=hr.out;omega
    have HE:=I hE;clear hE
    go_wp2
    go_ret
    exact ⟨by rw [HE.out];rfl,HB.out⟩
 ·have hE:R = -1:=by rw [HR.out,if_neg (by omega)]
  rw [hE]
  clear hE HR HN
  go_enter Tryz.func27,Tryz.ntmps27
  go_wp2
  go_ret
  exact ⟨rfl,O _ _⟩
theorem Fi (w:World) (ad:Option Addr) (cap:Nat) (os:List LayD) (h:SeeR aX w ad cap os) (L:Int) (h0:0≤L) (h1:L≤1048576) :
  Calls Tryz.prog 6 #[.agg #[.slice ad os.length cap],.int .i64 L] w fun e w'=>e=.returned (.int .i64 (lJ LayD.n os L))∧Below w.heap.size w w':=by
 obtain ⟨n,hN⟩:∃n,n=os.length:=⟨_,rfl⟩
 have hb:=aE w (.cells #[.slice ad os.length cap] 24)
 have K:=I (EI _ ad cap os (h.below hb) L h0 h1)
 obtain ⟨R,hR⟩:∃R,R=lJ LayD.n os L:=⟨_,rfl⟩
 rw [←hR] at K ⊢
 rw [←hN] at K hb ⊢
 have HB:=I hb
 have hrr:R = -1∨0≤R:=by rw [hR];unfold lJ;split <;> omega
 clear hb hN h h0 h1 hR
 rcases hrr with hr | hr
 ·subst hr
  go_enter Tryz.func6,Tryz.ntmps6
  go_wp2_with fail
  refine K.out.mono ?_
  rintro e w1 ⟨rfl,hb⟩
  go_wp2
  go_ret
  exact ⟨rfl,aA HB.out hb⟩
 ·go_enter Tryz.func6,Tryz.ntmps6
  go_wp2_with fail
  refine K.out.mono ?_
  rintro e w1 ⟨rfl,hb⟩
  go_wp2
  go_ret
  exact ⟨rfl,aA HB.out hb⟩
theorem pI:(Tryz.prog.info? 99).map (fun i=>(i.zero,i.size,i.bytes))=some (some (.agg #[.int .i64 0,.int .i64 0,.int .i64 0,.slice none 0 0,.slice none 0 0]),5,72):=by kernel_rfl
def xW:LayD:=⟨⟨0,0,0,[],[]⟩,none,0,none,0⟩
theorem EJ (w:World) (ad:Option Addr) (cap:Nat) (os:List LayD) (h:SeeR aX w ad cap os) (hn:os.length≤1048576) (hi2:∀o∈os,o.ws.length≤1048576∧o.bs.length≤1048576) :
  Calls Tryz.prog 31 #[.slice ad os.length cap] w fun e w' => ∃ad' cap',∃os':List LayD,e=.returned (.slice ad' os.length cap')∧os'.map LayD.toLayP=os.map LayD.toLayP∧Hid (OwnR aX w' w.heap.size w'.heap.size ad' os.length cap' os')∧Below w.heap.size w w':=by
 obtain ⟨j0,hj2,hy0,hy1,hy2⟩:=info_parts pI
 obtain ⟨n,hN⟩:∃n,n=os.length:=⟨_,rfl⟩
 rw [←hN] at hn ⊢
 have HN:=I hN;have HI2:=I hi2;have H:=I h;clear hN hi2 h
 go_enter Tryz.func31,Tryz.ntmps31
 go_wp2_with (at_make;refine wpList_make_full _ rfl _ _ 33 rfl w.heap.size 99 j0 (.agg #[.int .i64 0,.int .i64 0,.int .i64 0,.slice none 0 0,.slice none 0 0]) 5 Tryz.underlying33 hj2 hy0 hy1 .i64 .i64 _ _ n rfl rfl rfl rfl ?c1 ?c2 ?c3 ?_)
 case c1=>rw [hy2];omega
 case c2=>unfold maxLen;omega
 case c3=>exact J _
 intro w1 hown hg
 have hb1:Below w.heap.size w w1:=(O _ _).grown hg (J _) (fun k e=>by cases e)
 have hr0:OwnR aX w1 w.heap.size w1.heap.size (some ⟨w.heap.size,0,none⟩) n n (List.replicate n xW):=by
  refine OwnR.made (R:=aX) (z:=xW) hown (vZ aX xW n _ rfl (by decide)) (fun x hx=>?_) ⟨⟨fun x hx=>(nomatch hx),fun x hx=>(nomatch hx)⟩,rfl,rfl,rfl⟩
  rcases List.mem_cons.1 hx with rfl | hx
  ·exact ⟨rfl,rfl,rfl,rfl⟩
  ·rw [List.mem_singleton.1 hx]
   exact ⟨rfl,rfl,rfl,rfl⟩
 have HR:=I hr0;have HB1:=I hb1
 clear hg hown hr0 hb1
 go_wp2
 go_loopw [4] (fun i wt => ∃k:Nat,i=.int .i64 k∧k≤n∧∃us:List LayD,Hid (OwnR aX wt w.heap.size wt.heap.size (some ⟨w.heap.size,0,none⟩) n n us)∧Hid (us.map LayD.toLayP=(os.map LayD.toLayP).take k ++ (us.map LayD.toLayP).drop k)∧Hid (Below w.heap.size w wt)) (fun i _=>n - (intOf i).toNat)
 case atStart=>exact ⟨0,rfl,Nat.zero_le _,_,HR,I (by simp),HB1⟩
 case round =>
  clear HB1 HR
  obtain ⟨k,rfl,hk,us,HR,HT,HB⟩:=hrel
  by_cases hlt:k < n
  ·obtain ⟨o,ho⟩:=getElem?_lt (show k < os.length by rw [←HN.out];exact hlt)
   obtain ⟨b,off,rfl,hbl,⟨p0,p1,p2,p3,p4⟩,hf,hok⟩:=bG (H.out.below HB.out) ho
   have K:=I (fun W hW=>Fh W o hW (HI2.out o (List.mem_of_getElem? ho)))
   have HF:=I hf;have HO:=I ho;have HK:=I hok
   unfold LayD.val at K
   clear hf ho hok
   go_wp2_with fail
   refine (K.out _ HF.out).mono ?_
   rintro e w2 ⟨o',rfl,hp,hr,hb2⟩
   obtain ⟨u,hu⟩:=getElem?_lt (show k < us.length by rw [HR.out.len];exact hlt)
   obtain ⟨g,eg,hgr,⟨q0,q1,q2,q3,q4⟩,hfz,-⟩:=xV (HR.out.below hb2) hu
   cases eg
   have hs2:=hb2.size
   have hbs:=HB.out.size
   have hok:o'.ok:=LayD.ok_of hp HK.out
   have hnew:=OwnR.setNew (w2:=setCs w2 w.heap.size (k * 5) o'.cells) HR.out hbs hb2 hlt hok hr.out hs2 (fun M hM=>jA hM (k * 5) o'.cells)
   have hbb:=aG (HB.out.trans (hb2.mono hbs)) (J _) (k * 5) o'.cells
   have htk:=CN LayD.toLayP (a:=o') (b:=o.toLayP) HT.out (by rw [HR.out.len];exact hlt) (by rw [HR.out.len,List.length_map,←HN.out]) (by rw [List.getElem?_map,HO.out];rfl) hp
   have HW:=I hnew;have HBB:=I hbb;have HTK:=I htk
   clear hnew hbb htk hp hr hb2 hu K HF HK hok hgr hbs HT HR HB p0 p1 p2 p3 p4
   go_wp2
   go_roundw
   case rel=>exact ⟨k+1,by go_num,hlt,_,I (HW.out.bounds (J _) (by simp [World.setCell])),HTK,HBB⟩
   case measure=>simp [intOf];omega
  ·have hkn:k=n:=by omega
   subst hkn
   go_wp2
   go_ret
   refine ⟨_,_,us,rfl,?_,HR,HB.out⟩
   have:=HT.out
   rw [List.take_of_length_le (by simp [HN.out]),List.drop_of_length_le (by simp [HR.out.len])] at this
   simpa using this
theorem DC (w:World) (ad:Option Addr) (cap:Nat) (os:List LayD) (h:SeeR aX w ad cap os) (hn:os.length≤1048576) (hi2:∀o∈os,o.ws.length≤1048576∧o.bs.length≤1048576) :
  Calls Tryz.prog 9 #[.agg #[.slice ad os.length cap]] w fun e w' => ∃ad' cap',∃os':List LayD,e=.returned (.agg #[.slice ad' os.length cap'])∧os'.map LayD.toLayP=os.map LayD.toLayP∧Hid (OwnR aX w' w.heap.size w'.heap.size ad' os.length cap' os')∧Below w.heap.size w w':=by
 obtain ⟨n,hN⟩:∃n,n=os.length:=⟨_,rfl⟩
 have b3:=dE w (.cells #[.slice ad n cap] 24) (.cells #[.slice none 0 0] 35) (.cells #[.slice none 0 0] 35)
 have K:=I (EJ _ ad cap os (h.below b3) hn hi2)
 have RB:=I ((BoxN.alloc2 w (.cells #[.slice ad n cap] 24) #[.slice none 0 0] 35).below (aE _ (.cells #[.slice none 0 0] 35)))
 have OB:=I (BoxN.alloc3 w (.cells #[.slice ad n cap] 24) (.cells #[.slice none 0 0] 35) #[.slice none 0 0] 35)
 have B:=I b3
 rw [←hN] at K ⊢
 clear b3 h hN hn hi2
 go_enter Tryz.func9,Tryz.ntmps9
 go_wp2_with fail
 refine K.out.mono ?_
 rintro e w' ⟨a',c',os',rfl,he,HR,hb⟩
 obtain ⟨-,r0,rf⟩:=(RB.out.below hb).one1
 obtain ⟨-,o0,of⟩:=(OB.out.below hb).one1
 have HB:=I (aA B.out hb)
 have HE:=I he
 have hz:=hb.size
 simp at hz
 clear hb K RB OB he
 go_wp2
 refine bodyPost_ret (v:=.agg #[.slice a' n c']) (by simp [results,Tryz.results9,go_sem,r0,o0]) rfl ⟨a',c',os',rfl,HE.out,I ?_,?_⟩
 ·have h1:=((HR.out.touch (aB w' (w.heap.size+2) 0 [.slice a' n c']) (.inr (by simp))).touch (aB _ (w.heap.size+1) 0 [.slice a' n c']) (.inr (by simp)))
  exact h1.bounds (by simp;omega) (by simp [World.setCell])
 ·exact aG (aG HB.out (g:=w.heap.size+2) (by omega) 0 [.slice a' n c']) (g:=w.heap.size+1) (by omega) 0 [.slice a' n c']
theorem Fj (w:World) (o p:LayD) (h1:F32s w o.wa o.wk o.ws∧F32s w o.ba o.bk o.bs) (h2:F32s w p.wa p.wk p.ws∧F32s w p.ba p.bk p.bs) (hn:o.ws.length≤1048576∧o.bs.length≤1048576) (he:o.toLayP.can=p.toLayP.can) :
  Calls Tryz.prog 74 #[o.val,p.val] w fun e w'=>e=.returned (.bool true)∧Below w.heap.size w w':=by
 obtain ⟨⟨k,i,q,xs,ys⟩,a,c,b,d⟩:=o
 obtain ⟨⟨k',i',q',xs',ys'⟩,a',c',b',d'⟩:=p
 unfold LayP.can at he
 simp only [LayP.mk.injEq] at he
 obtain ⟨rfl,rfl,rfl,hx,hy⟩:=he
 show Calls Tryz.prog 74 #[.agg #[.int .i64 k,.int .i64 i,.int .i64 q,.slice a xs.length c,.slice b ys.length d],.agg #[.int .i64 k,.int .i64 i,.int .i64 q,.slice a' xs'.length c',.slice b' ys'.length d']] w _
 replace h1:F32s w a c xs∧F32s w b d ys:=h1
 replace h2:F32s w a' c' xs'∧F32s w b' d' ys':=h2
 replace hn:xs.length≤1048576∧ys.length≤1048576:=hn
 obtain ⟨n,hN⟩:∃n,n=xs.length:=⟨_,rfl⟩
 obtain ⟨m,hM⟩:∃m,m=ys.length:=⟨_,rfl⟩
 obtain ⟨n',hN'⟩:∃n,n=xs'.length:=⟨_,rfl⟩
 obtain ⟨m',hM'⟩:∃m,m=ys'.length:=⟨_,rfl⟩
 have b2:=bZ w (.cells #[.int .i64 k,.int .i64 i,.int .i64 q,.slice a n c,.slice b m d] 99) (.cells #[.int .i64 k,.int .i64 i,.int .i64 q,.slice a' n' c',.slice b' m' d'] 99)
 have BA:=I ((BoxN.alloc w #[.int .i64 k,.int .i64 i,.int .i64 q,.slice a n c,.slice b m d] 99).below (aE _ (.cells #[.int .i64 k,.int .i64 i,.int .i64 q,.slice a' n' c',.slice b' m' d'] 99)))
 have BB:=I (BoxN.alloc2 w (.cells #[.int .i64 k,.int .i64 i,.int .i64 q,.slice a n c,.slice b m d] 99) #[.int .i64 k,.int .i64 i,.int .i64 q,.slice a' n' c',.slice b' m' d'] 99)
 have K:=I (iM a a' c c' xs xs' _ (h1.1.below b2) (h2.1.below b2) hn.1 hx)
 have K2:=I (fun W hb=>iM b b' d d' ys ys' W ((h1.2.below b2).below hb) ((h2.2.below b2).below hb) hn.2 hy)
 rw [←hN,←hN'] at K
 rw [←hM,←hM'] at K2
 rw [←hN,←hN',←hM,←hM']
 have B:=I b2
 clear b2 h1 h2 hn hN hN' hM hM' hx hy
 go_enter Tryz.func74,Tryz.ntmps74
 go_wp2_with fail
 refine K.out.mono ?_
 rintro e w1 ⟨rfl,hd⟩
 have hb1:=hd.below
 obtain ⟨-,p0,p1,p2,p3,p4,-⟩:=(BA.out.below hb1).five
 obtain ⟨-,q0,q1,q2,q3,q4,-⟩:=(BB.out.below hb1).five
 have K1:=I (K2.out _ hb1);have B1:=I (aA B.out hb1)
 clear hb1 hd BA BB K K2 B
 go_wp2_with fail
 refine K1.out.mono ?_
 rintro e w2 ⟨rfl,hd⟩
 go_wp2
 go_ret
 exact ⟨rfl,aA B1.out hd.below⟩
theorem EK (w:World) {a1 a2:Option Addr} {c1 c2:Nat} {os ps:List LayD} (h1:SeeR aX w a1 c1 os) (h2:SeeR aX w a2 c2 ps) (he:os.map (fun o=>o.toLayP.can)=ps.map (fun o=>o.toLayP.can)) (hn:os.length≤1048576) (hi:∀o∈os,o.ws.length≤1048576∧o.bs.length≤1048576) :
  Calls Tryz.prog 39 #[.slice a1 os.length c1,.slice a2 ps.length c2] w fun e w'=>e=.returned (.bool true)∧Below w.heap.size w w':=by
 have hl:os.length=ps.length:=by have:=congrArg List.length he;simpa using this
 rw [←hl]
 obtain ⟨n,hN⟩:∃n,n=os.length:=⟨_,rfl⟩
 have HL:=I hl;clear hl
 rw [←hN] at hn ⊢
 have HN:=I hN;have HE:=I he;have HI:=I hi;have H1:=I h1;have H2:=I h2
 clear hN he hi h1 h2
 go_enter Tryz.func39,Tryz.ntmps39
 go_wp2
 go_loopw [5] (fun i wt => ∃k:Nat,i=.int .i64 k∧k≤n∧Hid (Below w.heap.size w wt)) (fun i _=>n - (intOf i).toNat)
 case atStart=>exact ⟨0,rfl,Nat.zero_le _,I (O _ _)⟩
 case round =>
  obtain ⟨k,rfl,hk,HB⟩:=hrel
  by_cases hlt:k < n
  ·have hkx:k < os.length:=by rw [←HN.out];exact hlt
   obtain ⟨o,ho⟩:=getElem?_lt hkx
   obtain ⟨p,hp⟩:=getElem?_lt (show k < ps.length by rw [←HL.out];exact hkx)
   obtain ⟨b,off,rfl,_,⟨p0,p1,p2,p3,p4⟩,hf,hok⟩:=bG (H1.out.below HB.out) ho
   obtain ⟨b',off',rfl,_,⟨q0,q1,q2,q3,q4⟩,hf',hok'⟩:=bG (H2.out.below HB.out) hp
   have e1:o.toLayP.can=p.toLayP.can:=by
    have e1:=congrArg (fun l=>l[k]?) HE.out
    simpa [ho,hp] using e1
   have K:=I (fun W (hb:Below wr.heap.size wr W)=>Fj W o p ⟨hf.1.below hb,hf.2.below hb⟩ ⟨hf'.1.below hb,hf'.2.below hb⟩ (HI.out o (List.mem_of_getElem? ho)) e1)
   unfold LayD.val at K
   clear hf hf' hok hok' ho hp e1 hkx
   go_wp2
   refine tJ 8 (fun f args u=>False) (by kernel_rfl) (by kernel_rfl) ?_
   repeat (refine aV (fun K hK nq=>?_);go_simp;refine hK _ ?_;clear hK K)
   refine bD ?_
   rintro w' ⟨q,rfl⟩
   go_wp2_with fail
   refine (K.out _ (below_drewN (O _ _) _)).mono ?_
   rintro e w2 ⟨rfl,hb⟩
   have HB2:=I (aA HB.out ((below_drewN (O _ _) _).trans hb));clear hb
   go_wp2
   go_roundw
   case rel=>exact ⟨k+1,by go_num,hlt,HB2⟩
   case measure=>simp [intOf];omega
  ·go_wp2
   go_ret
   exact ⟨rfl,HB.out⟩
theorem EL (w:World) {a1 a2:Option Addr} {c1 c2:Nat} {os ps:List LayD} (h1:SeeR aX w a1 c1 os) (h2:SeeR aX w a2 c2 ps) (he:os.map (fun o=>o.toLayP.can)=ps.map (fun o=>o.toLayP.can)) (hn:os.length≤1048576) (hi:∀o∈os,o.ws.length≤1048576∧o.bs.length≤1048576) :
  Calls Tryz.prog 14 #[.agg #[.slice a1 os.length c1],.agg #[.slice a2 ps.length c2]] w fun e w'=>e=.returned (.bool true)∧Below w.heap.size w w':=by
 have b2:=bZ w (.cells #[.slice a1 os.length c1] 35) (.cells #[.slice a2 ps.length c2] 35)
 have K:=I (EK _ (h1.below b2) (h2.below b2) he hn hi)
 have B:=I b2
 obtain ⟨n,hN⟩:∃n,n=os.length:=⟨_,rfl⟩
 obtain ⟨m,hM⟩:∃m,m=ps.length:=⟨_,rfl⟩
 rw [←hN,←hM] at K B ⊢
 clear b2 h1 h2 he hn hi hN hM
 go_enter Tryz.func14,Tryz.ntmps14
 go_wp2_with fail
 refine K.out.mono ?_
 rintro e w1 ⟨rfl,hb⟩
 go_wp2
 go_ret
 exact ⟨rfl,aA B.out hb⟩
end
end Go.Proofs.YtpadlmidojpbeaaGreat
