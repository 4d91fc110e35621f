/- Joined texts 7. No condition. -/
import Derived.Deep.RegionHeld3
import Derived.Deep.CutRange
import Derived.Deep.DeepCutAuto
import Derived.Test.YtpadlmidojpbeaaGreatMc0
import Derived.Test.YtpadlmidojpbeaaGreatMc2
import Derived.Test.YtpadlmidojpbeaaGreatMc3
import Derived.Test.YtpadlmidojpbeaaGreatMc4
import Derived.Test.YtpadlmidojpbeaaGreatMc5
set_option linter.unusedVariables false
set_option linter.unusedSimpArgs false
namespace Go.Proofs.YtpadlmidojpbeaaGreat
section
open Go Go.RowKit
def valV (k:Int) (v w:TenP) (num:Nat):TenP :=
 if k=1 then ⟨v.r,v.c,tenE .add v.xs w.xs v.xs.length⟩ else
 if k=2 then ⟨v.r,v.c,rowE .add v.xs w.xs v.c.toNat v.xs.length⟩ else
 if k=3 then ⟨v.r,v.c,tenE .mul v.xs w.xs v.xs.length⟩ else
 if k=4 then ⟨v.r,v.c,rowE .mul v.xs w.xs v.c.toNat v.xs.length⟩ else
 if k=5 then ⟨v.r,v.c,scaE v.xs num v.xs.length⟩ else
 if k=6 then ⟨v.r,w.c,matE v.xs w.xs v.c.toNat w.c.toNat (v.r.toNat * w.c.toNat)⟩ else
 if k=7 then ⟨v.c,v.r,turnE v.xs v.r.toNat v.c.toNat v.xs.length⟩ else
 if k=8 then ⟨v.r,v.c,relE v.xs v.xs.length⟩ else
 if k=9 then ⟨v.r,v.c,tenE .mul v.xs v.xs v.xs.length⟩ else
 ⟨1,1,filE (sumS v.xs v.xs.length) 1⟩
def noTen:TenP:=⟨0,0,[]⟩
def vGet (V:List TenP) (i:Int):TenP:=V.getD i.toNat noTen
def stepV (V:List TenP) (o:OpP):TenP:=if o.k=0 then ⟨o.r,o.c,o.xs.map (cn .f32)⟩ else valV o.k (vGet V o.a) (vGet V o.b) (cn .f32 o.num)
def valsN (os:List OpP) (k:Nat):List TenP:=(os.take k).foldl (fun V o=>V ++ [stepV V o]) []
def valsP (os:List OpP):List TenP:=valsN os os.length
theorem valsN_succ {os:List OpP} {k:Nat} {o:OpP} (h:os[k]? = some o):valsN os (k+1)=valsN os k ++ [stepV (valsN os k) o]:=by
 unfold valsN
 rw [List.take_add_one,h,List.foldl_append]
 rfl
def TenP.sh (t:TenP):Sh:=(t.r,t.c)
structure okT (t:TenP):Prop where
 r1:1≤t.r
 r2:t.r≤16
 c1:1≤t.c
 c2:t.c≤16
 len:t.xs.length=t.r.toNat * t.c.toNat
theorem okT.pos {t:TenP} (h:okT t):1≤t.xs.length:=by
 rw [h.len]
 have:=h.r1;have:=h.c1
 exact Nat.mul_le_mul (by omega:1≤t.r.toNat) (by omega:1≤t.c.toNat)
theorem okT.le {t:TenP} (h:okT t):t.xs.length≤256:=by
 rw [h.len]
 have:=h.r2;have:=h.c2
 exact Nat.mul_le_mul (by omega:t.r.toNat≤16) (by omega:t.c.toNat≤16)
theorem tenE_length (op:BinOp) (X Y:List Nat) (n:Nat):(tenE op X Y n).length=n:=listOf_length _ _
theorem rowE_length (op:BinOp) (X Y:List Nat) (c n:Nat):(rowE op X Y c n).length=n:=listOf_length _ _
theorem scaE_length (X:List Nat) (y n:Nat):(scaE X y n).length=n:=listOf_length _ _
theorem matE_length (X Y:List Nat) (m c n:Nat):(matE X Y m c n).length=n:=listOf_length _ _
theorem turnE_length (X:List Nat) (r c n:Nat):(turnE X r c n).length=n:=listOf_length _ _
theorem relE_length (X:List Nat) (n:Nat):(relE X n).length=n:=listOf_length _ _
theorem filE_length (y n:Nat):(filE y n).length=n:=listOf_length _ _
theorem valV_ok {k:Int} {v w:TenP} {num:Nat} {s:Sh} (hk:1≤k∧k≤10) (hv:okT v) (hw:okT w) (h:shapeOf k v.sh w.sh=some s):(valV k v w num).sh=s∧okT (valV k v w num):=by
 have hk2:k=1∨k=2∨k=3∨k=4∨k=5∨k=6∨k=7∨k=8∨k=9∨k=10:=by omega
 obtain ⟨v1,v2,v3,v4,v5⟩:=hv
 obtain ⟨w1,w2,w3,w4,w5⟩:=hw
 refine ⟨?_,?_⟩
 ·rcases hk2 with rfl | rfl | rfl | rfl | rfl | rfl | rfl | rfl | rfl | rfl
  all_goals
   simp only [shapeOf,TenP.sh] at h
   simp only [valV,TenP.sh]
   simp at h ⊢
   first
    | exact h
    | exact h.2
    | (by_cases h6:v.c=w.r <;> simp [h6] at h <;> (try rw [h6]) <;> exact h)
 ·rcases hk2 with rfl | rfl | rfl | rfl | rfl | rfl | rfl | rfl | rfl | rfl
  all_goals
   simp only [valV]
   simp
   constructor <;> simp [tenE_length,rowE_length,scaE_length,matE_length,turnE_length,relE_length,filE_length] <;> first | omega | (rw [v5,Nat.mul_comm])
theorem valsN_ok {os:List OpP} {k:Nat} {S:List Sh} (hk:k≤os.length) (h:shapesN os k=some S):(valsN os k).map TenP.sh=S∧∀t∈valsN os k,okT t:=by
 induction k generalizing S with
 | zero =>
  have e:S=[]:=by
   unfold shapesN at h
   simpa using h.symm
  subst e
  exact ⟨rfl,fun t ht=>(nomatch ht)⟩
 | succ k ih =>
  obtain ⟨o,ho⟩:=getElem?_lt (show k < os.length by omega)
  rw [shapesN_succ ho] at h
  obtain ⟨S0,hS0,hst⟩:=Option.bind_eq_some_iff.1 h
  obtain ⟨h1,h2⟩:=ih (by omega) hS0
  have hl:=shapesN_length (by omega) hS0
  have hVl:(valsN os k).length=k:=by have:=congrArg List.length h1;rw [List.length_map,hl] at this;exact this
  have hg:∀i:Int,0≤i→i≤k - 1→(vGet (valsN os k) i).sh=shGet S0 i∧okT (vGet (valsN os k) i):=by
   intro i h0 h3
   have hi:i.toNat < (valsN os k).length:=by omega
   have e1:vGet (valsN os k) i=(valsN os k)[i.toNat]:=by unfold vGet;rw [List.getD_eq_getElem?_getD,List.getElem?_eq_getElem hi];rfl
   refine ⟨?_,by rw [e1];exact h2 _ (List.getElem_mem hi)⟩
   rw [e1]
   unfold shGet
   rw [←h1,List.getD_eq_getElem?_getD,List.getElem?_map,List.getElem?_eq_getElem hi];rfl
  rw [valsN_succ ho]
  unfold stepSh at hst
  rw [hl] at hst
  split at hst
  ·rename_i hf
   split at hst
   ·rename_i h0
    cases hst
    have hin:=(fitsB_input hf h0).2.2
    have ht:=tenB_iff.1 hin
    have e1:stepV (valsN os k) o=⟨o.r,o.c,o.xs.map (cn .f32)⟩:=by unfold stepV;rw [if_pos h0]
    refine ⟨by rw [List.map_append,h1,e1];rfl,fun t ht2=>?_⟩
    rcases List.mem_append.1 ht2 with ht2 | ht2
    ·exact h2 t ht2
    ·simp at ht2
     rw [ht2,e1]
     refine ⟨ht.1.1,ht.1.2,ht.2.1.1,ht.2.1.2,?_⟩
     show (o.xs.map (cn .f32)).length=o.r.toNat * o.c.toNat
     rw [List.length_map]
     have h4:=ht.2.2
     have h5:((o.r.toNat * o.c.toNat:Nat):Int)=o.r * o.c:=by
      rw [Int.natCast_mul,Int.toNat_of_nonneg (by omega),Int.toNat_of_nonneg (by omega)]
     omega
   ·rename_i h0
    obtain ⟨s,hs,e2⟩:=Option.map_eq_some_iff.1 hst
    subst e2
    have hk10:=fitsB_in hf
    have ha:=fitsB_args hf h0
    have ga:=hg o.a ha.1.1 ha.1.2
    have gb:=hg o.b ha.2.1.1 ha.2.1.2
    have e1:stepV (valsN os k) o=valV o.k (vGet (valsN os k) o.a) (vGet (valsN os k) o.b) (cn .f32 o.num):=by unfold stepV;rw [if_neg h0]
    have hv:=valV_ok (k:=o.k) (s:=s) (num:=cn .f32 o.num) (by omega) ga.2 gb.2 (by rw [ga.1,gb.1];exact hs)
    refine ⟨by rw [List.map_append,h1,e1];show _ ++ [TenP.sh _] = _;rw [hv.1],fun t ht2=>?_⟩
    rcases List.mem_append.1 ht2 with ht2 | ht2
    ·exact h2 t ht2
    ·simp at ht2
     rw [ht2,e1];exact hv.2
  ·cases hst
theorem ten_spot {w:World} {ad:Option Addr} {cap:Nat} {us:List Ten} (h:SeeR tenR w ad cap us) {k:Nat} {t:Ten} (hk:us[k]? = some t):∃b off,ad=some ⟨b,off,none⟩∧b < w.heap.size ∧
  (w.cell? ⟨b,off+k * 3,none⟩=some (.int .i64 t.r)∧w.cell? ⟨b,off+k * 3+1,none⟩=some (.int .i64 t.c)∧w.cell? ⟨b,off+k * 3+2,none⟩=some (.slice t.ad t.xs.length t.cap))∧F32s w t.ad t.cap t.xs:=by
 obtain ⟨b,off,e,hb,hc⟩:=h.spot hk (by decide)
 have hm:=List.mem_of_getElem? hk
 exact ⟨b,off,e,hb,⟨hc 0 (by decide),hc 1 (by decide),hc 2 (by decide)⟩,(h.inn t hm _ (List.mem_singleton.2 rfl)).f32s (h.ok t hm)⟩
theorem vGet_map {us:List Ten} {V:List TenP} (hV:us.map (fun t=>t.toTenP.can)=V) {k:Nat} {t:Ten} (hk:us[k]? = some t):vGet V (k:Nat)=t.toTenP.can:=by
 unfold vGet
 rw [←hV,show ((k:Nat):Int).toNat=k by simp,List.getD_eq_getElem?_getD,List.getElem?_map,hk];rfl
theorem okT.nat {t:TenP} (h:okT t):∃r c:Nat,t.r=r∧t.c=c∧(1≤r∧r≤16)∧(1≤c∧c≤16)∧t.xs.length=r * c:=by
 obtain ⟨h1,h2,h3,h4,h5⟩:=h
 exact ⟨t.r.toNat,t.c.toNat,by omega,by omega,by omega,by omega,h5⟩
set_option maxHeartbeats 64000000 in
set_option maxRecDepth 100000 in
theorem impl_value (w:World) (o:OpD) (ad:Option Addr) (cap:Nat) (us:List Ten) (hu:SeeR tenR w ad cap us) (V:List TenP) (hV:us.map (fun t=>t.toTenP.can)=V) (hok:∀t∈V,okT t) (i:Nat) (hi:us.length=i) (hi2:i≤48) (hf:fitsB i o.toOpP=true) (hs:o.k≠0→∃s,shapeOf o.k (vGet V o.a).sh (vGet V o.b).sh=some s) (hx:F32s w o.ad o.cap o.xs) (hnil:o.ad=none→o.cap=0) (hxl:o.xs.length≤1048576) :
  Calls Tryz.prog 92 #[o.val,.slice ad i cap] w (TenPost (stepV V o.toOpP).r (stepV V o.toOpP).c (stepV V o.toOpP).xs.length (stepV V o.toOpP).xs w):=by
 by_cases h0:o.k=0
 ·have hst:stepV V o.toOpP=⟨o.r,o.c,o.xs.map (cn .f32)⟩:=by unfold stepV;rw [if_pos h0]
  rw [hst]
  show Calls Tryz.prog 92 _ w (TenPost o.r o.c (o.xs.map (cn .f32)).length (o.xs.map (cn .f32)) w)
  rw [List.length_map]
  obtain ⟨⟨kk,a,b',q,r,c,xs⟩,adx,capx⟩:=o
  have h0:kk=0:=h0
  subst h0
  show Calls Tryz.prog 92 #[.agg #[.int .i64 0,.int .i64 a,.int .i64 b',.float .f32 q,.int .i64 r,.int .i64 c,.slice adx xs.length capx],.slice ad i cap] w (TenPost r c xs.length (xs.map (cn .f32)) w)
  have hx:F32s w adx capx xs:=hx
  have hnil:adx=none→capx=0:=hnil
  have hxl:xs.length≤1048576:=hxl
  obtain ⟨n,hN⟩:∃n,n=xs.length:=⟨_,rfl⟩
  rw [←hN] at hxl ⊢
  have K:=I (fun W (hb:Below w.heap.size w W)=>impl_copyTensorT W r c adx capx xs (hx.below hb) hnil n hN.symm hxl)
  have RB:=I (BoxN.alloc2 w (.cells #[.int .i64 0,.int .i64 a,.int .i64 b',.float .f32 q,.int .i64 r,.int .i64 c,.slice adx n capx] 74) #[.int .i64 0,.int .i64 0,.slice none 0 0] 37)
  have B:=I (below2 w (.cells #[.int .i64 0,.int .i64 a,.int .i64 b',.float .f32 q,.int .i64 r,.int .i64 c,.slice adx n capx] 74) (.cells #[.int .i64 0,.int .i64 0,.slice none 0 0] 37))
  clear hx hnil hu hV hok hs hf hN hst
  go_enter Tryz.func92,Tryz.ntmps92
  go_wp2_with fail
  refine (K.out _ B.out).mono ?_
  rintro e w' ⟨va,vc,zs,rfl,RO,RM,hb⟩
  obtain ⟨rl,r0,r1,r2,rf⟩:=(RB.out.below hb).three
  have hbw:=bthen B.out hb
  have hz:=hb.size
  simp at hz
  have hfin:=setCs_repF (g:=w.heap.size+1) (lo':=w.heap.size) (i:=0) RO.out (by simp) (by simp;omega) (Nat.le_refl _) [.int .i64 r,.int .i64 c,.slice va n vc]
  have hbf:=setCs_below hbw (g:=w.heap.size+1) (by omega) 0 [.int .i64 r,.int .i64 c,.slice va n vc]
  have HF:=I hfin;have HBF:=I hbf
  clear hfin hbf hbw hb
  go_wp2
  try simp only [Exit.inBlock,Exit.then]
  refine bodyPost_ret (v:=.agg #[.int .i64 r,.int .i64 c,.slice va n vc]) (by simp [results,Tryz.results92,go_sem,r0,r1,r2]) rfl (ten_of rfl HF RM.out HBF.out)
 ·have hst:stepV V o.toOpP=valV o.k (vGet V o.a) (vGet V o.b) (cn .f32 o.num):=by unfold stepV;rw [if_neg h0]
  obtain ⟨s,hs⟩:=hs h0
  have hk10:=fitsB_in hf
  have ha:=fitsB_args hf h0
  obtain ⟨A,hA⟩:∃A:Nat,o.a=A:=⟨o.a.toNat,by have:=ha.1.1;omega⟩
  obtain ⟨B,hB⟩:∃B:Nat,o.b=B:=⟨o.b.toNat,by have:=ha.2.1.1;omega⟩
  have hAi:A < i:=by have:=ha.1.2;rw [show o.toOpP.a=o.a from rfl,hA] at this;omega
  have hBi:B < i:=by have:=ha.2.1.2;rw [show o.toOpP.b=o.b from rfl,hB] at this;omega
  obtain ⟨tv,htv⟩:=getElem?_lt (show A < us.length by omega)
  obtain ⟨tw,htw⟩:=getElem?_lt (show B < us.length by omega)
  rw [hA,hB,vGet_map hV htv,vGet_map hV htw] at hs hst
  have okv:okT tv.toTenP.can:=hok _ (by rw [←hV];exact List.mem_map_of_mem (List.mem_of_getElem? htv))
  have okw:okT tw.toTenP.can:=hok _ (by rw [←hV];exact List.mem_map_of_mem (List.mem_of_getElem? htw))
  rw [hst]
  obtain ⟨b,off,rfl,hbl,⟨p0,p1,p2⟩,hxv⟩:=ten_spot hu htv
  obtain ⟨b2,off2,eq2,_,⟨q0,q1,q2⟩,hxw⟩:=ten_spot hu htw
  cases eq2
  obtain ⟨⟨kk,a,b',q,r,c,xs⟩,adx,capx⟩:=o
  have hA:a=A:=hA
  have hB:b'=B:=hB
  subst hA hB
  obtain ⟨⟨rv0,cv0,xv⟩,av,kv⟩:=tv
  obtain ⟨⟨rw0,cw0,xw⟩,aw,kw⟩:=tw
  obtain ⟨rv,cv,e1,e2,hrv,hcv,hlv⟩:=okv.nat
  obtain ⟨rw',cw,e3,e4,hrw,hcw,hlw⟩:=okw.nat
  have e1:rv0=rv:=e1
  have e2:cv0=cv:=e2
  have e3:rw0=rw':=e3
  have e4:cw0=cw:=e4
  subst e1 e2 e3 e4
  have hlv:(xv.map (cn .f32)).length=rv * cv:=hlv
  have hlw:(xw.map (cn .f32)).length=rw' * cw:=hlw
  have hk10:0≤kk∧kk≤10:=hk10
  have h0:¬ kk=0:=h0
  have hs:shapeOf kk (((rv:Nat):Int),((cv:Nat):Int)) (((rw':Nat):Int),((cw:Nat):Int))=some s:=hs
  show Calls Tryz.prog 92 #[.agg #[.int .i64 kk,.int .i64 A,.int .i64 B,.float .f32 q,.int .i64 r,.int .i64 c,.slice adx xs.length capx],.slice (some ⟨b,off,none⟩) i cap] w (TenPost (valV kk ⟨rv,cv,xv.map (cn .f32)⟩ ⟨rw',cw,xw.map (cn .f32)⟩ (cn .f32 q)).r (valV kk ⟨rv,cv,xv.map (cn .f32)⟩ ⟨rw',cw,xw.map (cn .f32)⟩ (cn .f32 q)).c (valV kk ⟨rv,cv,xv.map (cn .f32)⟩ ⟨rw',cw,xw.map (cn .f32)⟩ (cn .f32 q)).xs.length (valV kk ⟨rv,cv,xv.map (cn .f32)⟩ ⟨rw',cw,xw.map (cn .f32)⟩ (cn .f32 q)).xs w)
  rw [List.length_map] at hlv hlw
  simp only at p0 p1 p2 q0 q1 q2 hxv hxw
  obtain ⟨n1,hn1⟩:∃n,n=xv.length:=⟨_,rfl⟩
  obtain ⟨n2,hn2⟩:∃n,n=xw.length:=⟨_,rfl⟩
  rw [←hn1] at hlv p2
  rw [←hn2] at hlw q2
  obtain ⟨nx,hnx⟩:∃n,n=xs.length:=⟨_,rfl⟩
  rw [←hnx]
  have hn256:n1≤256:=by rw [hlv];exact Nat.mul_le_mul hrv.2 hcv.2
  have HXV:=I hxv;have HXW:=I hxw;have HN1:=I hn1;have HN2:=I hn2;have HLV:=I hlv;have HLW:=I hlw;have HSH:=I hs
  have HRV:=I hrv;have HCV:=I hcv;have HRW:=I hrw;have HCW:=I hcw
  clear hxv hxw hn1 hn2 hlv hlw hnx hst htv htw okv okw hV hok hu hi hf hs hx hnil hxl ha hrv hcv hrw hcw
  have RB:=I (BoxN.alloc2 w (.cells #[.int .i64 kk,.int .i64 A,.int .i64 B,.float .f32 q,.int .i64 r,.int .i64 c,.slice adx nx capx] 74) #[.int .i64 0,.int .i64 0,.slice none 0 0] 37)
  have OB:=I ((BoxN.alloc w #[.int .i64 kk,.int .i64 A,.int .i64 B,.float .f32 q,.int .i64 r,.int .i64 c,.slice adx nx capx] 74).below (below1 _ (.cells #[.int .i64 0,.int .i64 0,.slice none 0 0] 37)))
  have B0:=I (below2 w (.cells #[.int .i64 kk,.int .i64 A,.int .i64 B,.float .f32 q,.int .i64 r,.int .i64 c,.slice adx nx capx] 74) (.cells #[.int .i64 0,.int .i64 0,.slice none 0 0] 37))
  have HP:=I (And.intro p0 (And.intro p1 (And.intro p2 (And.intro q0 (And.intro q1 q2)))))
  clear p0 p1 p2 q0 q1 q2
  have hk0':(kk == 0)=false:=by simpa using h0
  go_enter Tryz.func92,Tryz.ntmps92
  go_upto_region 3 with fail
  obtain ⟨W1,hW1⟩:∃W,W=((w.alloc (.cells #[.int .i64 kk,.int .i64 A,.int .i64 B,.float .f32 q,.int .i64 r,.int .i64 c,.slice adx nx capx] 74)).alloc (.cells #[.int .i64 0,.int .i64 0,.slice none 0 0] 37)):=⟨_,rfl⟩
  have hz1:W1.heap.size=w.heap.size+1+1:=by rw [hW1];simp
  rw [←hW1] at RB OB B0 ⊢
  obtain ⟨-,x0,x1,x2,x3,x4,x5,x6,xf⟩:=OB.out.seven
  have c0:W1.cell? ⟨b,off+A * 3,none⟩=some (.int .i64 rv):=(B0.out.cell (p:=⟨b,off+A * 3,none⟩) hbl).trans HP.out.1
  have c1:W1.cell? ⟨b,off+A * 3+1,none⟩=some (.int .i64 cv):=(B0.out.cell (p:=⟨b,off+A * 3+1,none⟩) hbl).trans HP.out.2.1
  have c2:W1.cell? ⟨b,off+A * 3+2,none⟩=some (.slice av n1 kv):=(B0.out.cell (p:=⟨b,off+A * 3+2,none⟩) hbl).trans HP.out.2.2.1
  have d0:W1.cell? ⟨b,off+B * 3,none⟩=some (.int .i64 rw'):=(B0.out.cell (p:=⟨b,off+B * 3,none⟩) hbl).trans HP.out.2.2.2.1
  have d1:W1.cell? ⟨b,off+B * 3+1,none⟩=some (.int .i64 cw):=(B0.out.cell (p:=⟨b,off+B * 3+1,none⟩) hbl).trans HP.out.2.2.2.2.1
  have d2:W1.cell? ⟨b,off+B * 3+2,none⟩=some (.slice aw n2 kw):=(B0.out.cell (p:=⟨b,off+B * 3+2,none⟩) hbl).trans HP.out.2.2.2.2.2
  have hbl1:b < W1.heap.size:=by omega
  have HZ1:=I hz1
  clear HP hW1 x0 x3 x4 x5 x6 xf hz1
  go_cut [5,6] (fun p7 p8 wx => ∃g7 g8:Nat,p7=.pointer (some ⟨g7,0,none⟩)∧p8=.pointer (some ⟨g8,0,none⟩)∧Hid (BoxN wx g7 [.int .i64 rv,.int .i64 cv,.slice av n1 kv]∧BoxN wx g8 [.int .i64 rw',.int .i64 cw,.slice aw n2 kw]∧Below W1.heap.size W1 wx))
  case first =>
   go_region_held3 (fun w'=>(w'.cell? ⟨w.heap.size,1,none⟩=some (.int .i64 A)∧w'.cell? ⟨w.heap.size,2,none⟩=some (.int .i64 B))∧(w'.cell? ⟨b,off+A * 3,none⟩=some (.int .i64 rv)∧w'.cell? ⟨b,off+A * 3+1,none⟩=some (.int .i64 cv)∧w'.cell? ⟨b,off+A * 3+2,none⟩=some (.slice av n1 kv))∧(w'.cell? ⟨b,off+B * 3,none⟩=some (.int .i64 rw')∧w'.cell? ⟨b,off+B * 3+1,none⟩=some (.int .i64 cw)∧w'.cell? ⟨b,off+B * 3+2,none⟩=some (.slice aw n2 kw))) (go_keep) (first | fail)
   all_goals (try go_wp2_with fail)
   all_goals go_meet
   ·exact ⟨_,_,rfl,rfl,I ⟨((BoxN.alloc W1 #[.int .i64 rv,.int .i64 cv,.slice av n1 kv] 37).below (below1 _ _)).below (Below.drew (Below.refl _ _)),(BoxN.alloc2 W1 _ #[.int .i64 rw',.int .i64 cw,.slice aw n2 kw] 37).below (Below.drew (Below.refl _ _)),Below.drew (below2 _ _ _)⟩⟩
   ·exact ⟨_,_,rfl,rfl,I ⟨(BoxN.alloc2 W1 _ #[.int .i64 rv,.int .i64 cv,.slice av n1 kv] 37).below (Below.drew (Below.refl _ _)),((BoxN.alloc W1 #[.int .i64 rw',.int .i64 cw,.slice aw n2 kw] 37).below (below1 _ _)).below (Below.drew (Below.refl _ _)),Below.drew (below2 _ _ _)⟩⟩
  case rest =>
   obtain ⟨g7,g8,rfl,rfl,HC⟩:=hcut
   obtain ⟨-,x0,x1,x2,x3,x4,x5,x6,xf⟩:=(OB.out.below HC.out.2.2).seven
   obtain ⟨-,y0,y1,y2,yf⟩:=HC.out.1.three
   obtain ⟨-,z0,z1,z2,zf⟩:=HC.out.2.1.three
   have RB2:=I (RB.out.below HC.out.2.2)
   have BC:=I (bthen B0.out HC.out.2.2)
   have hzc:w.heap.size+1+1≤wc.heap.size:=by have:=HC.out.2.2.size;have:=HZ1.out;omega
   have FV:=I (fun W (hb:Below wc.heap.size wc W)=>HXV.out.below (bthen BC.out hb));have FW:=I (fun W (hb:Below wc.heap.size wc W)=>HXW.out.below (bthen BC.out hb))
   clear c0 c1 c2 d0 d1 d2 HXV HXW HC OB RB B0 x1 x2 x4 x5 x6 xf yf zf hbl hbl1
   have h1k:1≤kk:=by omega
   rcases (by omega:kk=1∨kk=2∨kk=3∨kk=4∨kk=5∨kk=6∨kk=7∨kk=8∨kk=9∨kk=10) with rfl | rfl | rfl | rfl | rfl | rfl | rfl | rfl | rfl | rfl
   ·as_aux_lemma =>
     have HVV:Hid (valV 1 ⟨rv,cv,(xv.map (cn .f32))⟩ ⟨rw',cw,(xw.map (cn .f32))⟩ (cn .f32 q)=⟨rv,cv,tenE .add (xv.map (cn .f32)) (xw.map (cn .f32)) n1⟩):=I (by simp [valV,←HN1.out])
     have HVL:Hid ((valV 1 ⟨rv,cv,(xv.map (cn .f32))⟩ ⟨rw',cw,(xw.map (cn .f32))⟩ (cn .f32 q)).xs.length=n1):=I (by rw [HVV.out];exact listOf_length _ _)
     have HVX:Hid ((valV 1 ⟨rv,cv,(xv.map (cn .f32))⟩ ⟨rw',cw,(xw.map (cn .f32))⟩ (cn .f32 q)).xs=tenE .add (xv.map (cn .f32)) (xw.map (cn .f32)) n1):=I (by rw [HVV.out])
     have HVR:Hid ((valV 1 ⟨rv,cv,(xv.map (cn .f32))⟩ ⟨rw',cw,(xw.map (cn .f32))⟩ (cn .f32 q)).r=rv∧(valV 1 ⟨rv,cv,(xv.map (cn .f32))⟩ ⟨rw',cw,(xw.map (cn .f32))⟩ (cn .f32 q)).c=cv):=I (by rw [HVV.out];exact ⟨rfl,rfl⟩)
     have hsh:rv=rw'∧cv=cw:=by have:=HSH.out;simp [shapeOf] at this;omega
     obtain ⟨rfl,rfl⟩:=hsh
     have hnn:n1=n2:=by rw [HLV.out,HLW.out]
     subst hnn
     go_wp2_with fail
     refine (impl_addTensors _ rv cv rv cv av aw kv kw n1 xv xw (FV.out _ (Below.refl _ _)) (FW.out _ (Below.refl _ _)) HN1.out.symm HN2.out.symm hn256).mono ?_
     rintro e w' ⟨va,vc,zs,rfl,RO,RM,hb⟩
     obtain ⟨rl,r0,r1,r2,rf⟩:=(RB2.out.below hb).three
     have hbw:=bthen BC.out hb
     have hz:=hb.size
     have hfin:=setCs_repF (g:=w.heap.size+1) (lo':=w.heap.size) (i:=0) RO.out (by omega) (by omega) (Nat.le_refl _) [.int .i64 rv,.int .i64 cv,.slice va n1 vc]
     have hbf:=setCs_below hbw (g:=w.heap.size+1) (by omega) 0 [.int .i64 rv,.int .i64 cv,.slice va n1 vc]
     have HF:=I hfin;have HBF:=I hbf
     clear hfin hbf hbw hb x0 x3 y0 y1 y2 z0 z1 z2 FV FW RB2 BC
     have hl9:=RO.out.len
     have hP:zs.map (cn .f32)=tenE .add (xv.map (cn .f32)) (xw.map (cn .f32)) n1:=RM.out
     go_wp2
     try simp only [Exit.inBlock,Exit.then]
     refine bodyPost_ret (v:=.agg #[.int .i64 rv,.int .i64 cv,.slice va n1 vc]) (by simp [results,Tryz.results92,go_sem,r0,r1,r2]) rfl (ten_of (by rw [HVR.out.1,HVR.out.2,HVL.out];try rfl) (by rw [HVL.out];exact HF) (by rw [HVX.out];exact hP) HBF.out)
   ·as_aux_lemma =>
     have HVV:Hid (valV 2 ⟨rv,cv,(xv.map (cn .f32))⟩ ⟨rw',cw,(xw.map (cn .f32))⟩ (cn .f32 q)=⟨rv,cv,rowE .add (xv.map (cn .f32)) (xw.map (cn .f32)) cv n1⟩):=I (by simp [valV,←HN1.out])
     have HVL:Hid ((valV 2 ⟨rv,cv,(xv.map (cn .f32))⟩ ⟨rw',cw,(xw.map (cn .f32))⟩ (cn .f32 q)).xs.length=n1):=I (by rw [HVV.out];exact listOf_length _ _)
     have HVX:Hid ((valV 2 ⟨rv,cv,(xv.map (cn .f32))⟩ ⟨rw',cw,(xw.map (cn .f32))⟩ (cn .f32 q)).xs=rowE .add (xv.map (cn .f32)) (xw.map (cn .f32)) cv n1):=I (by rw [HVV.out])
     have HVR:Hid ((valV 2 ⟨rv,cv,(xv.map (cn .f32))⟩ ⟨rw',cw,(xw.map (cn .f32))⟩ (cn .f32 q)).r=rv∧(valV 2 ⟨rv,cv,(xv.map (cn .f32))⟩ ⟨rw',cw,(xw.map (cn .f32))⟩ (cn .f32 q)).c=cv):=I (by rw [HVV.out];exact ⟨rfl,rfl⟩)
     have hsh:rw'=1∧cv=cw:=by have:=HSH.out;simp [shapeOf] at this;omega
     obtain ⟨rfl,rfl⟩:=hsh
     have hnn:cv=n2:=by rw [HLW.out,Nat.one_mul]
     subst hnn
     go_wp2_with fail
     refine (impl_addRow _ rv cv av aw kv kw n1 xv xw (FV.out _ (Below.refl _ _)) (FW.out _ (Below.refl _ _)) HN1.out.symm HN2.out.symm hn256 HCV.out.1 HCV.out.2).mono ?_
     rintro e w' ⟨va,vc,zs,rfl,RO,RM,hb⟩
     obtain ⟨rl,r0,r1,r2,rf⟩:=(RB2.out.below hb).three
     have hbw:=bthen BC.out hb
     have hz:=hb.size
     have hfin:=setCs_repF (g:=w.heap.size+1) (lo':=w.heap.size) (i:=0) RO.out (by omega) (by omega) (Nat.le_refl _) [.int .i64 rv,.int .i64 cv,.slice va n1 vc]
     have hbf:=setCs_below hbw (g:=w.heap.size+1) (by omega) 0 [.int .i64 rv,.int .i64 cv,.slice va n1 vc]
     have HF:=I hfin;have HBF:=I hbf
     clear hfin hbf hbw hb x0 x3 y0 y1 y2 z0 z1 z2 FV FW RB2 BC
     have hl9:=RO.out.len
     have hP:zs.map (cn .f32)=rowE .add (xv.map (cn .f32)) (xw.map (cn .f32)) cv n1:=RM.out
     go_wp2
     try simp only [Exit.inBlock,Exit.then]
     refine bodyPost_ret (v:=.agg #[.int .i64 rv,.int .i64 cv,.slice va n1 vc]) (by simp [results,Tryz.results92,go_sem,r0,r1,r2]) rfl (ten_of (by rw [HVR.out.1,HVR.out.2,HVL.out];try rfl) (by rw [HVL.out];exact HF) (by rw [HVX.out];exact hP) HBF.out)
   ·as_aux_lemma =>
     have HVV:Hid (valV 3 ⟨rv,cv,(xv.map (cn .f32))⟩ ⟨rw',cw,(xw.map (cn .f32))⟩ (cn .f32 q)=⟨rv,cv,tenE .mul (xv.map (cn .f32)) (xw.map (cn .f32)) n1⟩):=I (by simp [valV,←HN1.out])
     have HVL:Hid ((valV 3 ⟨rv,cv,(xv.map (cn .f32))⟩ ⟨rw',cw,(xw.map (cn .f32))⟩ (cn .f32 q)).xs.length=n1):=I (by rw [HVV.out];exact listOf_length _ _)
     have HVX:Hid ((valV 3 ⟨rv,cv,(xv.map (cn .f32))⟩ ⟨rw',cw,(xw.map (cn .f32))⟩ (cn .f32 q)).xs=tenE .mul (xv.map (cn .f32)) (xw.map (cn .f32)) n1):=I (by rw [HVV.out])
     have HVR:Hid ((valV 3 ⟨rv,cv,(xv.map (cn .f32))⟩ ⟨rw',cw,(xw.map (cn .f32))⟩ (cn .f32 q)).r=rv∧(valV 3 ⟨rv,cv,(xv.map (cn .f32))⟩ ⟨rw',cw,(xw.map (cn .f32))⟩ (cn .f32 q)).c=cv):=I (by rw [HVV.out];exact ⟨rfl,rfl⟩)
     have hsh:rv=rw'∧cv=cw:=by have:=HSH.out;simp [shapeOf] at this;omega
     obtain ⟨rfl,rfl⟩:=hsh
     have hnn:n1=n2:=by rw [HLV.out,HLW.out]
     subst hnn
     go_wp2_with fail
     refine (impl_mulTensors _ rv cv rv cv av aw kv kw n1 xv xw (FV.out _ (Below.refl _ _)) (FW.out _ (Below.refl _ _)) HN1.out.symm HN2.out.symm hn256).mono ?_
     rintro e w' ⟨va,vc,zs,rfl,RO,RM,hb⟩
     obtain ⟨rl,r0,r1,r2,rf⟩:=(RB2.out.below hb).three
     have hbw:=bthen BC.out hb
     have hz:=hb.size
     have hfin:=setCs_repF (g:=w.heap.size+1) (lo':=w.heap.size) (i:=0) RO.out (by omega) (by omega) (Nat.le_refl _) [.int .i64 rv,.int .i64 cv,.slice va n1 vc]
     have hbf:=setCs_below hbw (g:=w.heap.size+1) (by omega) 0 [.int .i64 rv,.int .i64 cv,.slice va n1 vc]
     have HF:=I hfin;have HBF:=I hbf
     clear hfin hbf hbw hb x0 x3 y0 y1 y2 z0 z1 z2 FV FW RB2 BC
     have hl9:=RO.out.len
     have hP:zs.map (cn .f32)=tenE .mul (xv.map (cn .f32)) (xw.map (cn .f32)) n1:=RM.out
     go_wp2
     try simp only [Exit.inBlock,Exit.then]
     refine bodyPost_ret (v:=.agg #[.int .i64 rv,.int .i64 cv,.slice va n1 vc]) (by simp [results,Tryz.results92,go_sem,r0,r1,r2]) rfl (ten_of (by rw [HVR.out.1,HVR.out.2,HVL.out];try rfl) (by rw [HVL.out];exact HF) (by rw [HVX.out];exact hP) HBF.out)
   ·as_aux_lemma =>
     have HVV:Hid (valV 4 ⟨rv,cv,(xv.map (cn .f32))⟩ ⟨rw',cw,(xw.map (cn .f32))⟩ (cn .f32 q)=⟨rv,cv,rowE .mul (xv.map (cn .f32)) (xw.map (cn .f32)) cv n1⟩):=I (by simp [valV,←HN1.out])
     have HVL:Hid ((valV 4 ⟨rv,cv,(xv.map (cn .f32))⟩ ⟨rw',cw,(xw.map (cn .f32))⟩ (cn .f32 q)).xs.length=n1):=I (by rw [HVV.out];exact listOf_length _ _)
     have HVX:Hid ((valV 4 ⟨rv,cv,(xv.map (cn .f32))⟩ ⟨rw',cw,(xw.map (cn .f32))⟩ (cn .f32 q)).xs=rowE .mul (xv.map (cn .f32)) (xw.map (cn .f32)) cv n1):=I (by rw [HVV.out])
     have HVR:Hid ((valV 4 ⟨rv,cv,(xv.map (cn .f32))⟩ ⟨rw',cw,(xw.map (cn .f32))⟩ (cn .f32 q)).r=rv∧(valV 4 ⟨rv,cv,(xv.map (cn .f32))⟩ ⟨rw',cw,(xw.map (cn .f32))⟩ (cn .f32 q)).c=cv):=I (by rw [HVV.out];exact ⟨rfl,rfl⟩)
     have hsh:rw'=1∧cv=cw:=by have:=HSH.out;simp [shapeOf] at this;omega
     obtain ⟨rfl,rfl⟩:=hsh
     have hnn:cv=n2:=by rw [HLW.out,Nat.one_mul]
     subst hnn
     go_wp2_with fail
     refine (impl_mulRow _ rv cv av aw kv kw n1 xv xw (FV.out _ (Below.refl _ _)) (FW.out _ (Below.refl _ _)) HN1.out.symm HN2.out.symm hn256 HCV.out.1 HCV.out.2).mono ?_
     rintro e w' ⟨va,vc,zs,rfl,RO,RM,hb⟩
     obtain ⟨rl,r0,r1,r2,rf⟩:=(RB2.out.below hb).three
     have hbw:=bthen BC.out hb
     have hz:=hb.size
     have hfin:=setCs_repF (g:=w.heap.size+1) (lo':=w.heap.size) (i:=0) RO.out (by omega) (by omega) (Nat.le_refl _) [.int .i64 rv,.int .i64 cv,.slice va n1 vc]
     have hbf:=setCs_below hbw (g:=w.heap.size+1) (by omega) 0 [.int .i64 rv,.int .i64 cv,.slice va n1 vc]
     have HF:=I hfin;have HBF:=I hbf
     clear hfin hbf hbw hb x0 x3 y0 y1 y2 z0 z1 z2 FV FW RB2 BC
     have hl9:=RO.out.len
     have hP:zs.map (cn .f32)=rowE .mul (xv.map (cn .f32)) (xw.map (cn .f32)) cv n1:=RM.out
     go_wp2
     try simp only [Exit.inBlock,Exit.then]
     refine bodyPost_ret (v:=.agg #[.int .i64 rv,.int .i64 cv,.slice va n1 vc]) (by simp [results,Tryz.results92,go_sem,r0,r1,r2]) rfl (ten_of (by rw [HVR.out.1,HVR.out.2,HVL.out];try rfl) (by rw [HVL.out];exact HF) (by rw [HVX.out];exact hP) HBF.out)
   ·as_aux_lemma =>
     have HVV:Hid (valV 5 ⟨rv,cv,(xv.map (cn .f32))⟩ ⟨rw',cw,(xw.map (cn .f32))⟩ (cn .f32 q)=⟨rv,cv,scaE (xv.map (cn .f32)) (cn .f32 q) n1⟩):=I (by simp [valV,←HN1.out])
     have HVL:Hid ((valV 5 ⟨rv,cv,(xv.map (cn .f32))⟩ ⟨rw',cw,(xw.map (cn .f32))⟩ (cn .f32 q)).xs.length=n1):=I (by rw [HVV.out];exact listOf_length _ _)
     have HVX:Hid ((valV 5 ⟨rv,cv,(xv.map (cn .f32))⟩ ⟨rw',cw,(xw.map (cn .f32))⟩ (cn .f32 q)).xs=scaE (xv.map (cn .f32)) (cn .f32 q) n1):=I (by rw [HVV.out])
     have HVR:Hid ((valV 5 ⟨rv,cv,(xv.map (cn .f32))⟩ ⟨rw',cw,(xw.map (cn .f32))⟩ (cn .f32 q)).r=rv∧(valV 5 ⟨rv,cv,(xv.map (cn .f32))⟩ ⟨rw',cw,(xw.map (cn .f32))⟩ (cn .f32 q)).c=cv):=I (by rw [HVV.out];exact ⟨rfl,rfl⟩)
     go_wp2_with fail
     refine (impl_scaleTensorT _ rv cv av kv xv (FV.out _ (Below.refl _ _)) n1 HN1.out.symm hn256 q).mono ?_
     rintro e w' ⟨va,vc,zs,rfl,RO,RM,hb⟩
     obtain ⟨rl,r0,r1,r2,rf⟩:=(RB2.out.below hb).three
     have hbw:=bthen BC.out hb
     have hz:=hb.size
     have hfin:=setCs_repF (g:=w.heap.size+1) (lo':=w.heap.size) (i:=0) RO.out (by omega) (by omega) (Nat.le_refl _) [.int .i64 rv,.int .i64 cv,.slice va n1 vc]
     have hbf:=setCs_below hbw (g:=w.heap.size+1) (by omega) 0 [.int .i64 rv,.int .i64 cv,.slice va n1 vc]
     have HF:=I hfin;have HBF:=I hbf
     clear hfin hbf hbw hb x0 x3 y0 y1 y2 z0 z1 z2 FV FW RB2 BC
     have hl9:=RO.out.len
     have hP:zs.map (cn .f32)=scaE (xv.map (cn .f32)) (cn .f32 q) n1:=RM.out
     go_wp2
     try simp only [Exit.inBlock,Exit.then]
     refine bodyPost_ret (v:=.agg #[.int .i64 rv,.int .i64 cv,.slice va n1 vc]) (by simp [results,Tryz.results92,go_sem,r0,r1,r2]) rfl (ten_of (by rw [HVR.out.1,HVR.out.2,HVL.out];try rfl) (by rw [HVL.out];exact HF) (by rw [HVX.out];exact hP) HBF.out)
   ·as_aux_lemma =>
     have HVV:Hid (valV 6 ⟨rv,cv,(xv.map (cn .f32))⟩ ⟨rw',cw,(xw.map (cn .f32))⟩ (cn .f32 q)=⟨rv,cw,matE (xv.map (cn .f32)) (xw.map (cn .f32)) cv cw (rv * cw)⟩):=I (by simp [valV,←HN1.out])
     have HVL:Hid ((valV 6 ⟨rv,cv,(xv.map (cn .f32))⟩ ⟨rw',cw,(xw.map (cn .f32))⟩ (cn .f32 q)).xs.length=(rv * cw)):=I (by rw [HVV.out];exact listOf_length _ _)
     have HVX:Hid ((valV 6 ⟨rv,cv,(xv.map (cn .f32))⟩ ⟨rw',cw,(xw.map (cn .f32))⟩ (cn .f32 q)).xs=matE (xv.map (cn .f32)) (xw.map (cn .f32)) cv cw (rv * cw)):=I (by rw [HVV.out])
     have HVR:Hid ((valV 6 ⟨rv,cv,(xv.map (cn .f32))⟩ ⟨rw',cw,(xw.map (cn .f32))⟩ (cn .f32 q)).r=rv∧(valV 6 ⟨rv,cv,(xv.map (cn .f32))⟩ ⟨rw',cw,(xw.map (cn .f32))⟩ (cn .f32 q)).c=cw):=I (by rw [HVV.out];exact ⟨rfl,rfl⟩)
     have hsh:cv=rw':=by have:=HSH.out;simp [shapeOf] at this;omega
     subst hsh
     go_wp2_with fail
     refine (impl_matMul _ rv cv cw av aw kv kw n1 n2 xv xw (FV.out _ (Below.refl _ _)) (FW.out _ (Below.refl _ _)) HN1.out.symm HN2.out.symm HRV.out.1 HRV.out.2 HCV.out.1 HCV.out.2 HCW.out.1 HCW.out.2 HLV.out HLW.out).mono ?_
     rintro e w' ⟨va,vc,zs,rfl,RO,RM,hb⟩
     obtain ⟨rl,r0,r1,r2,rf⟩:=(RB2.out.below hb).three
     have hbw:=bthen BC.out hb
     have hz:=hb.size
     have hfin:=setCs_repF (g:=w.heap.size+1) (lo':=w.heap.size) (i:=0) RO.out (by omega) (by omega) (Nat.le_refl _) [.int .i64 rv,.int .i64 cw,.slice va (rv * cw) vc]
     have hbf:=setCs_below hbw (g:=w.heap.size+1) (by omega) 0 [.int .i64 rv,.int .i64 cw,.slice va (rv * cw) vc]
     have HF:=I hfin;have HBF:=I hbf
     clear hfin hbf hbw hb x0 x3 y0 y1 y2 z0 z1 z2 FV FW RB2 BC
     have hl9:=RO.out.len
     have hP:zs.map (cn .f32)=matE (xv.map (cn .f32)) (xw.map (cn .f32)) cv cw (rv * cw):=RM.out
     go_wp2
     try simp only [Exit.inBlock,Exit.then]
     refine bodyPost_ret (v:=.agg #[.int .i64 rv,.int .i64 cw,.slice va (rv * cw) vc]) (by simp [results,Tryz.results92,go_sem,r0,r1,r2]) rfl (ten_of (by rw [HVR.out.1,HVR.out.2,HVL.out];try rfl) (by rw [HVL.out];exact HF) (by rw [HVX.out];exact hP) HBF.out)
   ·as_aux_lemma =>
     have HVV:Hid (valV 7 ⟨rv,cv,(xv.map (cn .f32))⟩ ⟨rw',cw,(xw.map (cn .f32))⟩ (cn .f32 q)=⟨cv,rv,turnE (xv.map (cn .f32)) rv cv n1⟩):=I (by simp [valV,←HN1.out])
     have HVL:Hid ((valV 7 ⟨rv,cv,(xv.map (cn .f32))⟩ ⟨rw',cw,(xw.map (cn .f32))⟩ (cn .f32 q)).xs.length=n1):=I (by rw [HVV.out];exact listOf_length _ _)
     have HVX:Hid ((valV 7 ⟨rv,cv,(xv.map (cn .f32))⟩ ⟨rw',cw,(xw.map (cn .f32))⟩ (cn .f32 q)).xs=turnE (xv.map (cn .f32)) rv cv n1):=I (by rw [HVV.out])
     have HVR:Hid ((valV 7 ⟨rv,cv,(xv.map (cn .f32))⟩ ⟨rw',cw,(xw.map (cn .f32))⟩ (cn .f32 q)).r=cv∧(valV 7 ⟨rv,cv,(xv.map (cn .f32))⟩ ⟨rw',cw,(xw.map (cn .f32))⟩ (cn .f32 q)).c=rv):=I (by rw [HVV.out];exact ⟨rfl,rfl⟩)
     go_wp2_with fail
     refine (impl_transposed _ rv cv av kv n1 xv (FV.out _ (Below.refl _ _)) HN1.out.symm HRV.out.1 HRV.out.2 HCV.out.1 HCV.out.2 HLV.out).mono ?_
     rintro e w' ⟨va,vc,zs,rfl,RO,RM,hb⟩
     obtain ⟨rl,r0,r1,r2,rf⟩:=(RB2.out.below hb).three
     have hbw:=bthen BC.out hb
     have hz:=hb.size
     have hfin:=setCs_repF (g:=w.heap.size+1) (lo':=w.heap.size) (i:=0) RO.out (by omega) (by omega) (Nat.le_refl _) [.int .i64 cv,.int .i64 rv,.slice va n1 vc]
     have hbf:=setCs_below hbw (g:=w.heap.size+1) (by omega) 0 [.int .i64 cv,.int .i64 rv,.slice va n1 vc]
     have HF:=I hfin;have HBF:=I hbf
     clear hfin hbf hbw hb x0 x3 y0 y1 y2 z0 z1 z2 FV FW RB2 BC
     have hl9:=RO.out.len
     have hP:zs.map (cn .f32)=turnE (xv.map (cn .f32)) rv cv n1:=RM.out
     go_wp2
     try simp only [Exit.inBlock,Exit.then]
     refine bodyPost_ret (v:=.agg #[.int .i64 cv,.int .i64 rv,.slice va n1 vc]) (by simp [results,Tryz.results92,go_sem,r0,r1,r2]) rfl (ten_of (by rw [HVR.out.1,HVR.out.2,HVL.out];try rfl) (by rw [HVL.out];exact HF) (by rw [HVX.out];exact hP) HBF.out)
   ·as_aux_lemma =>
     have HVV:Hid (valV 8 ⟨rv,cv,(xv.map (cn .f32))⟩ ⟨rw',cw,(xw.map (cn .f32))⟩ (cn .f32 q)=⟨rv,cv,relE (xv.map (cn .f32)) n1⟩):=I (by simp [valV,←HN1.out])
     have HVL:Hid ((valV 8 ⟨rv,cv,(xv.map (cn .f32))⟩ ⟨rw',cw,(xw.map (cn .f32))⟩ (cn .f32 q)).xs.length=n1):=I (by rw [HVV.out];exact listOf_length _ _)
     have HVX:Hid ((valV 8 ⟨rv,cv,(xv.map (cn .f32))⟩ ⟨rw',cw,(xw.map (cn .f32))⟩ (cn .f32 q)).xs=relE (xv.map (cn .f32)) n1):=I (by rw [HVV.out])
     have HVR:Hid ((valV 8 ⟨rv,cv,(xv.map (cn .f32))⟩ ⟨rw',cw,(xw.map (cn .f32))⟩ (cn .f32 q)).r=rv∧(valV 8 ⟨rv,cv,(xv.map (cn .f32))⟩ ⟨rw',cw,(xw.map (cn .f32))⟩ (cn .f32 q)).c=cv):=I (by rw [HVV.out];exact ⟨rfl,rfl⟩)
     go_wp2_with fail
     refine (impl_reluTensorT _ rv cv av kv xv (FV.out _ (Below.refl _ _)) n1 HN1.out.symm hn256).mono ?_
     rintro e w' ⟨va,vc,zs,rfl,RO,RM,hb⟩
     obtain ⟨rl,r0,r1,r2,rf⟩:=(RB2.out.below hb).three
     have hbw:=bthen BC.out hb
     have hz:=hb.size
     have hfin:=setCs_repF (g:=w.heap.size+1) (lo':=w.heap.size) (i:=0) RO.out (by omega) (by omega) (Nat.le_refl _) [.int .i64 rv,.int .i64 cv,.slice va n1 vc]
     have hbf:=setCs_below hbw (g:=w.heap.size+1) (by omega) 0 [.int .i64 rv,.int .i64 cv,.slice va n1 vc]
     have HF:=I hfin;have HBF:=I hbf
     clear hfin hbf hbw hb x0 x3 y0 y1 y2 z0 z1 z2 FV FW RB2 BC
     have hl9:=RO.out.len
     have hP:zs.map (cn .f32)=relE (xv.map (cn .f32)) n1:=RM.out
     go_wp2
     try simp only [Exit.inBlock,Exit.then]
     refine bodyPost_ret (v:=.agg #[.int .i64 rv,.int .i64 cv,.slice va n1 vc]) (by simp [results,Tryz.results92,go_sem,r0,r1,r2]) rfl (ten_of (by rw [HVR.out.1,HVR.out.2,HVL.out];try rfl) (by rw [HVL.out];exact HF) (by rw [HVX.out];exact hP) HBF.out)
   ·as_aux_lemma =>
     have HVV:Hid (valV 9 ⟨rv,cv,(xv.map (cn .f32))⟩ ⟨rw',cw,(xw.map (cn .f32))⟩ (cn .f32 q)=⟨rv,cv,tenE .mul (xv.map (cn .f32)) (xv.map (cn .f32)) n1⟩):=I (by simp [valV,←HN1.out])
     have HVL:Hid ((valV 9 ⟨rv,cv,(xv.map (cn .f32))⟩ ⟨rw',cw,(xw.map (cn .f32))⟩ (cn .f32 q)).xs.length=n1):=I (by rw [HVV.out];exact listOf_length _ _)
     have HVX:Hid ((valV 9 ⟨rv,cv,(xv.map (cn .f32))⟩ ⟨rw',cw,(xw.map (cn .f32))⟩ (cn .f32 q)).xs=tenE .mul (xv.map (cn .f32)) (xv.map (cn .f32)) n1):=I (by rw [HVV.out])
     have HVR:Hid ((valV 9 ⟨rv,cv,(xv.map (cn .f32))⟩ ⟨rw',cw,(xw.map (cn .f32))⟩ (cn .f32 q)).r=rv∧(valV 9 ⟨rv,cv,(xv.map (cn .f32))⟩ ⟨rw',cw,(xw.map (cn .f32))⟩ (cn .f32 q)).c=cv):=I (by rw [HVV.out];exact ⟨rfl,rfl⟩)
     go_wp2_with fail
     refine (impl_mulTensors _ rv cv rv cv av av kv kv n1 xv xv (FV.out _ (Below.refl _ _)) (FV.out _ (Below.refl _ _)) HN1.out.symm HN1.out.symm hn256).mono ?_
     rintro e w' ⟨va,vc,zs,rfl,RO,RM,hb⟩
     obtain ⟨rl,r0,r1,r2,rf⟩:=(RB2.out.below hb).three
     have hbw:=bthen BC.out hb
     have hz:=hb.size
     have hfin:=setCs_repF (g:=w.heap.size+1) (lo':=w.heap.size) (i:=0) RO.out (by omega) (by omega) (Nat.le_refl _) [.int .i64 rv,.int .i64 cv,.slice va n1 vc]
     have hbf:=setCs_below hbw (g:=w.heap.size+1) (by omega) 0 [.int .i64 rv,.int .i64 cv,.slice va n1 vc]
     have HF:=I hfin;have HBF:=I hbf
     clear hfin hbf hbw hb x0 x3 y0 y1 y2 z0 z1 z2 FV FW RB2 BC
     have hl9:=RO.out.len
     have hP:zs.map (cn .f32)=tenE .mul (xv.map (cn .f32)) (xv.map (cn .f32)) n1:=RM.out
     go_wp2
     try simp only [Exit.inBlock,Exit.then]
     refine bodyPost_ret (v:=.agg #[.int .i64 rv,.int .i64 cv,.slice va n1 vc]) (by simp [results,Tryz.results92,go_sem,r0,r1,r2]) rfl (ten_of (by rw [HVR.out.1,HVR.out.2,HVL.out];try rfl) (by rw [HVL.out];exact HF) (by rw [HVX.out];exact hP) HBF.out)
   ·as_aux_lemma =>
     have HVV:Hid (valV 10 ⟨rv,cv,(xv.map (cn .f32))⟩ ⟨rw',cw,(xw.map (cn .f32))⟩ (cn .f32 q)=⟨1,1,filE (sumS (xv.map (cn .f32)) n1) 1⟩):=I (by simp [valV,←HN1.out])
     have HVL:Hid ((valV 10 ⟨rv,cv,(xv.map (cn .f32))⟩ ⟨rw',cw,(xw.map (cn .f32))⟩ (cn .f32 q)).xs.length=1):=I (by rw [HVV.out];exact listOf_length _ _)
     have HVX:Hid ((valV 10 ⟨rv,cv,(xv.map (cn .f32))⟩ ⟨rw',cw,(xw.map (cn .f32))⟩ (cn .f32 q)).xs=filE (sumS (xv.map (cn .f32)) n1) 1):=I (by rw [HVV.out])
     have HVR:Hid ((valV 10 ⟨rv,cv,(xv.map (cn .f32))⟩ ⟨rw',cw,(xw.map (cn .f32))⟩ (cn .f32 q)).r=1∧(valV 10 ⟨rv,cv,(xv.map (cn .f32))⟩ ⟨rw',cw,(xw.map (cn .f32))⟩ (cn .f32 q)).c=1):=I (by rw [HVV.out];exact ⟨rfl,rfl⟩)
     have KSU:=I (impl_sumOf wc av kv xv (FV.out _ (Below.refl _ _)))
     rw [←HN1.out] at KSU
     go_wp2_with fail
     refine KSU.out.mono ?_
     rintro e w2 ⟨su,rfl,HSU,hd⟩
     have HDB:=I hd.below
     have HZ2:wc.heap.size≤w2.heap.size:=hd.below.size
     clear hd
     go_wp2_with fail
     refine (impl_filled _ 1 1 su HSU.out.2 (by decide) (by decide) (by decide) (by decide)).mono ?_
     rintro e w' ⟨va,vc,zs,rfl,RO,RM,hb⟩
     have RB2:=I (RB2.out.below HDB.out)
     have BC:=I (bthen BC.out HDB.out)
     have RM:Hid (zs.map (cn .f32)=filE (sumS (xv.map (cn .f32)) n1) 1):=I (by rw [RM.out,HSU.out.1])
     obtain ⟨rl,r0,r1,r2,rf⟩:=(RB2.out.below hb).three
     have hbw:=bthen BC.out hb
     have hz:=hb.size
     have hfin:=setCs_repF (g:=w.heap.size+1) (lo':=w.heap.size) (i:=0) RO.out (by omega) (by omega) (Nat.le_refl _) [.int .i64 1,.int .i64 1,.slice va 1 vc]
     have hbf:=setCs_below hbw (g:=w.heap.size+1) (by omega) 0 [.int .i64 1,.int .i64 1,.slice va 1 vc]
     have HF:=I hfin;have HBF:=I hbf
     clear hfin hbf hbw hb x0 x3 y0 y1 y2 z0 z1 z2 FV FW RB2 BC
     have hl9:=RO.out.len
     have hP:zs.map (cn .f32)=filE (sumS (xv.map (cn .f32)) n1) 1:=RM.out
     go_wp2
     try simp only [Exit.inBlock,Exit.then]
     refine bodyPost_ret (v:=.agg #[.int .i64 1,.int .i64 1,.slice va 1 vc]) (by simp [results,Tryz.results92,go_sem,r0,r1,r2]) rfl (ten_of (by rw [HVR.out.1,HVR.out.2,HVL.out];try rfl) (by rw [HVL.out];exact HF) (by rw [HVX.out];exact hP) HBF.out)
theorem vGet_sh {V:List TenP} {S:List Sh} (h:V.map TenP.sh=S) {i:Int} (h0:0≤i) (h1:i≤V.length - 1):(vGet V i).sh=shGet S i:=by
 have hi:i.toNat < V.length:=by omega
 have e1:vGet V i=V[i.toNat]:=by unfold vGet;rw [List.getD_eq_getElem?_getD,List.getElem?_eq_getElem hi];rfl
 rw [e1]
 unfold shGet
 rw [←h,List.getD_eq_getElem?_getD,List.getElem?_map,List.getElem?_eq_getElem hi];rfl
theorem valid_round {P:List OpP} {S:List Sh} (h:shapesP P=some S) {k:Nat} {o:OpP} (ho:P[k]? = some o) :
  (valsN P k).length=k∧(∀t∈valsN P k,okT t)∧fitsB k o=true∧(o.k≠0→∃s,shapeOf o.k (vGet (valsN P k) o.a).sh (vGet (valsN P k) o.b).sh=some s):=by
 have hk:=(List.getElem?_eq_some_iff.1 ho).1
 have hp:=shapesP_some h
 have hf:=valid_fit h ho
 cases hSk:shapesN P k with
 | none =>
  have:=shapesN_none hSk (Nat.le_of_lt hk) (Nat.le_refl _)
  rw [hp.2.1] at this;cases this
 | some Sk =>
  have h1:=valsN_ok (Nat.le_of_lt hk) hSk
  have hl:=shapesN_length (Nat.le_of_lt hk) hSk
  have hVl:(valsN P k).length=k:=by have:=congrArg List.length h1.1;rw [List.length_map,hl] at this;exact this
  refine ⟨hVl,h1.2,hf,fun h0=>?_⟩
  cases hS1:shapesN P (k+1) with
  | none =>
   have:=shapesN_none hS1 hk (Nat.le_refl _)
   rw [hp.2.1] at this;cases this
  | some S1 =>
   rw [shapesN_succ ho,hSk] at hS1
   have hst:stepSh Sk o=some S1:=hS1
   unfold stepSh at hst
   rw [hl,if_pos hf,if_neg h0] at hst
   obtain ⟨s,hs,_⟩:=Option.map_eq_some_iff.1 hst
   have ha:=fitsB_args hf h0
   refine ⟨s,?_⟩
   rw [vGet_sh h1.1 ha.1.1 (by rw [hVl];exact ha.1.2),vGet_sh h1.1 ha.2.1.1 (by rw [hVl];exact ha.2.1.2)]
   exact hs
theorem ts_snoc {w W w9:World} {B k cap:Nat} {ad:Option Addr} {S:List Ten} {s:Ten} {v':Value} {o:Obj} (h:OwnR tenR w B w.heap.size ad k cap S) (hB:B≤w.heap.size) (hb:Below w.heap.size w W) {hi1:Nat} (hr:RepF W w.heap.size hi1 s.ad s.xs.length s.cap s.xs) (hh:hi1≤W.heap.size) (hh0:w.heap.size≤hi1)
  (ho:w9.ownsRow B 37 3 v' (k+1) (S.flatMap tenR.cells ++ s.cells)) (hg:(W.alloc o).grownBy w9 (Value.slice ad k cap).ownBlock) (hat:v'.ownBlock=(Value.slice ad k cap).ownBlock∨v'.ownBlock=some (W.heap.size+1)) :
  ∃ad' cap',v'=.slice ad' (k+1) cap'∧OwnR tenR w9 B w9.heap.size ad' (k+1) cap' (S ++ [s]) :=
 h.snoc hB hb hr.okF hr.ownRow hh hh0 ho hg hat
theorem ts_row {w W:World} {B k cap:Nat} {ad:Option Addr} {S:List Ten} (h:OwnR tenR w B w.heap.size ad k cap S) (hb:Below w.heap.size w W):W.ownsRow B 37 3 (.slice ad k cap) k (S.flatMap tenR.cells):=(h.below hb).own.head.own
set_option maxHeartbeats 8000000 in
set_option maxRecDepth 100000 in
theorem impl_runTape (w:World) (ad:Option Addr) (cap:Nat) (os:List OpD) (h:SeeR opR w ad cap os) (hno:nilOK os) (S:List Sh) (hS:shapesP (os.map OpD.toOpP)=some S) (hi2:∀o∈os,o.xs.length≤1048576) :
  Calls Tryz.prog 69 #[.slice ad os.length cap] w fun e w' => ∃ad' cap' us,e=.returned (.slice ad' os.length cap')∧Hid (OwnR tenR w' w.heap.size w'.heap.size ad' os.length cap' us∧us.map (fun t=>t.toTenP.can)=valsP (os.map OpD.toOpP))∧Below w.heap.size w w':=by
 obtain ⟨i0,hi0,hz0,hzs,hz2⟩:=info_parts info_ten
 have hp:=shapesP_some hS
 rw [List.length_map] at hp
 obtain ⟨n,hN⟩:∃n,n=os.length:=⟨_,rfl⟩
 rw [←hN] at hp ⊢
 have hn1:=hp.1.1;have hn2:=hp.1.2
 have HN:=I hN;have HI2:=I hi2;have H:=I h;have HNO:=I hno;have HS:=I hS
 clear hN hi2 h hno hS hp
 go_enter Tryz.func69,Tryz.ntmps69
 go_wp2
 go_loopw [3,9] (fun v i wt => ∃k:Nat,i=.int .i64 k∧k≤n∧∃(ad':Option Addr) (cap':Nat) (us:List Ten),v=.slice ad' k cap'∧Hid (OwnR tenR wt w.heap.size wt.heap.size ad' k cap' us)∧Hid (us.map (fun t=>t.toTenP.can)=valsN (os.map OpD.toOpP) k)∧Hid (Below w.heap.size w wt)) (fun _ i _=>n - (intOf i).toNat)
 case atStart=>exact ⟨0,rfl,Nat.zero_le _,_,_,[],rfl,I (OwnR.nil1 tenR w),I rfl,I (below1 _ _)⟩
 case round =>
  obtain ⟨k,rfl,hk,ad',cap',us,rfl,HR,HE,HB⟩:=hrel
  by_cases hlt:k < n
  ·obtain ⟨o,ho⟩:=getElem?_lt (show k < os.length by rw [←HN.out];exact hlt)
   have hop:(os.map OpD.toOpP)[k]? = some o.toOpP:=by rw [List.getElem?_map,ho];rfl
   obtain ⟨vl,vok,vf,vs⟩:=valid_round HS.out hop
   obtain ⟨b,off,rfl,hbl,⟨p0,p1,p2,p3,p4,p5,p6⟩,hf,hok⟩:=op_spot (H.out.below HB.out) ho
   have hm:=List.mem_of_getElem? ho
   have hul:us.length=k:=HR.out.len
   have K:=I (fun W (hb:Below wr.heap.size wr W)=>impl_value W o ad' cap' us (HR.out.see.below hb) _ HE.out vok k hul (by omega) vf vs (hf.below hb) (HNO.out o hm) (HI2.out o hm))
   have HST:Hid (valsN (os.map OpD.toOpP) (k+1)=valsN (os.map OpD.toOpP) k ++ [stepV (valsN (os.map OpD.toOpP) k) o.toOpP]):=I (valsN_succ hop)
   obtain ⟨T,hT⟩:∃T,T=stepV (valsN (os.map OpD.toOpP) k) o.toOpP:=⟨_,rfl⟩
   rw [←hT] at K HST
   unfold OpD.val at K
   obtain ⟨m,hM⟩:∃m,m=o.xs.length:=⟨_,rfl⟩
   rw [←hM] at K p6
   have HRW:=I (fun W hb=>ts_row HR.out (W:=W) hb)
   have hb1:=below1 wr (.cells #[.int .i64 o.k,.int .i64 o.a,.int .i64 o.b,.float .f32 o.num,.int .i64 o.r,.int .i64 o.c,.slice o.ad m o.cap] 74)
   have B1:=I hb1
   clear hM ho hop vl vok vf vs hf hok hm hul hT hb1
   go_wp2_with fail
   refine (K.out _ B1.out).mono ?_
   rintro e w2 ⟨va,vc,zs,rfl,RO,RM,hb2⟩
   have HB2:=I (bthen B1.out hb2)
   have hz2':=hb2.size
   simp at hz2'
   clear hb2 p0 p1 p2 p3 p4 p5 p6
   obtain ⟨tl,htl⟩:∃tl,tl=T.xs.length:=⟨_,rfl⟩
   rw [←htl] at RO ⊢
   have HTL:=I htl
   clear htl
   go_wp2_with (at_builtin;refine wp_appA rfl _ _ 109 rfl w.heap.size i0 (.agg #[.int .i64 0,.int .i64 0,.slice none 0 0]) 3 40 Tryz.underlying109 hi0 hz0 hzs hz2 rfl (by decide) rfl (by intro u hu;simp at hu;rcases hu with rfl | rfl | rfl <;> rfl) _ _ _ rfl (HRW.out _ HB2.out) (by go_simp) ?c3 ?c4 ?c5 ?_)
   case c3=>unfold maxLen;omega
   case c4=>omega
   case c5=>exact Nat.le_trans HB.out.size HB2.out.size
   intro v' w9 ho9 hg9 hat9 hb9 hs9
   have hzl:=RO.out.len
   obtain ⟨ad9,cap9,rfl,hown9⟩:=ts_snoc (s:=⟨⟨T.r,T.c,zs⟩,va,vc⟩) HR.out HB.out.size HB2.out (hi1:=w2.heap.size) (by show RepF w2 wr.heap.size w2.heap.size va zs.length vc zs;rw [hzl];exact RO.out.bounds (by simp) (Nat.le_refl _)) (Nat.le_refl _) HB2.out.size (by show w9.ownsRow _ _ _ _ _ (_ ++ [Value.int .i64 T.r,.int .i64 T.c,.slice va zs.length vc]);rw [hzl];exact ho9) hg9 (by simpa using hat9)
   have HO9:=I hown9;have HB9:=I ((HB.out.trans (HB2.out.mono HB.out.size)).trans hb9)
   have HE9:Hid ((us ++ [(⟨⟨T.r,T.c,zs⟩,va,vc⟩:Ten)]).map (fun t=>t.toTenP.can)=valsN (os.map OpD.toOpP) (k+1)):=I (by
    rw [List.map_append,HE.out,HST.out]
    congr 1
    show [TenP.can ⟨T.r,T.c,zs⟩]=[T]
    unfold TenP.can
    rw [RM.out])
   clear ho9 hg9 hat9 hb9 hown9 HR HE HB HB2 HRW hzl
   go_wp2
   go_roundw
   case rel=>exact ⟨k+1,by go_num,hlt,_,_,_,rfl,HO9,HE9,HB9⟩
   case measure=>simp [intOf];omega
  ·have hkn:k=n:=by omega
   subst hkn
   have HA:=I (And.intro HR.out (show us.map (fun t=>t.toTenP.can)=valsP (os.map OpD.toOpP) by rw [HE.out];unfold valsP;rw [List.length_map,←HN.out]))
   go_wp2
   go_ret
   exact ⟨_,_,us,rfl,HA,HB.out⟩
def colG (X:List Nat) (c:Nat):Nat→Nat→Nat
 | 0,_=>0
 | k+1,j=>if j=k % c then fop .add .f32 (colG X c k j) (X.getD k 0) else colG X c k j
def addV (v w:TenP):TenP:=⟨v.r,v.c,tenE .add v.xs w.xs v.xs.length⟩
def mulV (v w:TenP):TenP:=⟨v.r,v.c,tenE .mul v.xs w.xs v.xs.length⟩
def colV (g:TenP):TenP:=⟨1,g.c,listOf g.c.toNat (colG g.xs g.c.toNat g.xs.length)⟩
def filV (v:TenP) (y:Nat):TenP:=⟨v.r,v.c,filE y v.xs.length⟩
def overW (x y:Nat):Nat:=if (FloatKind.f32.format.order x 0 == some .gt)=true then y else 0
def maskE (X G:List Nat) (n:Nat):List Nat:=listOf n fun i=>overW (X.getD i 0) (G.getD i 0)
def turnV (v:TenP):TenP:=⟨v.c,v.r,turnE v.xs v.r.toNat v.c.toNat v.xs.length⟩
def matV (v w:TenP):TenP:=⟨v.r,w.c,matE v.xs w.xs v.c.toNat w.c.toNat (v.r.toNat * w.c.toNat)⟩
def partA (k:Int) (g v w:TenP) (num:Nat):TenP :=
 if k=1 then g else
 if k=2 then g else
 if k=3 then mulV g w else
 if k=4 then ⟨g.r,g.c,rowE .mul g.xs w.xs g.c.toNat g.xs.length⟩ else
 if k=5 then ⟨g.r,g.c,scaE g.xs num g.xs.length⟩ else
 if k=6 then matV g (turnV w) else
 if k=7 then turnV g else
 if k=8 then ⟨v.r,v.c,maskE v.xs g.xs v.xs.length⟩ else
 if k=9 then mulV g (addV v v) else
 filV v (g.xs.getD 0 0)
def partB (k:Int) (g v:TenP):TenP :=
 if k=1 then g else
 if k=2 then colV g else
 if k=3 then mulV g v else
 if k=4 then colV (mulV g v) else
 matV (turnV v) g
def giveV (h:Bool) (old part:TenP):TenP:=if h=true then addV old part else part
def stepG (V:List TenP) (U:List Bool) (G:List TenP) (i:Nat) (o:OpP):List TenP :=
 if U.getD i false=true∧o.k≠0 then
  (if twoB o.k=true then
    ((G.set o.a.toNat (giveV (U.getD o.a.toNat false) (vGet G o.a) (partA o.k (vGet G i) (vGet V o.a) (vGet V o.b) (cn .f32 o.num)))).set o.b.toNat
      (giveV ((U.set o.a.toNat true).getD o.b.toNat false) (vGet (G.set o.a.toNat (giveV (U.getD o.a.toNat false) (vGet G o.a) (partA o.k (vGet G i) (vGet V o.a) (vGet V o.b) (cn .f32 o.num)))) o.b) (partB o.k (vGet G i) (vGet V o.a))))
  else G.set o.a.toNat (giveV (U.getD o.a.toNat false) (vGet G o.a) (partA o.k (vGet G i) (vGet V o.a) (vGet V o.b) (cn .f32 o.num))))
 else G
def gradM (os:List OpP) (V:List TenP):Nat→List TenP
 | 0=>(V.map fun v=>filV v 0).set (os.length - 1) (filV (vGet V ((os.length - 1:Nat):Int)) 1065353216)
 | m+1=>stepG V (usedM os m) (gradM os V m) (os.length - 1 - m) (opAtP os (os.length - 1 - m))
def gradP (os:List OpP):List TenP:=gradM os (valsP os) os.length
theorem maskE_length (X G:List Nat) (n:Nat):(maskE X G n).length=n:=listOf_length _ _
theorem filV_ok {v:TenP} (h:okT v) (y:Nat):okT (filV v y)∧(filV v y).sh=v.sh:=by
 obtain ⟨h1,h2,h3,h4,h5⟩:=h
 exact ⟨⟨h1,h2,h3,h4,by show (filE y v.xs.length).length = _;rw [filE_length];exact h5⟩,rfl⟩
theorem addV_ok {v w:TenP} (h:okT v):okT (addV v w)∧(addV v w).sh=v.sh:=by
 obtain ⟨h1,h2,h3,h4,h5⟩:=h
 exact ⟨⟨h1,h2,h3,h4,by show (tenE .add v.xs w.xs v.xs.length).length = _;rw [tenE_length];exact h5⟩,rfl⟩
theorem mulV_ok {v w:TenP} (h:okT v):okT (mulV v w)∧(mulV v w).sh=v.sh:=by
 obtain ⟨h1,h2,h3,h4,h5⟩:=h
 exact ⟨⟨h1,h2,h3,h4,by show (tenE .mul v.xs w.xs v.xs.length).length = _;rw [tenE_length];exact h5⟩,rfl⟩
theorem turnV_ok {v:TenP} (h:okT v):okT (turnV v):=by
 obtain ⟨h1,h2,h3,h4,h5⟩:=h
 exact ⟨h3,h4,h1,h2,by show (turnE v.xs v.r.toNat v.c.toNat v.xs.length).length=v.c.toNat * v.r.toNat;rw [turnE_length,h5,Nat.mul_comm]⟩
theorem colV_ok {v:TenP} (h:okT v):okT (colV v):=by
 obtain ⟨h1,h2,h3,h4,h5⟩:=h
 exact ⟨by show (1:Int)≤1;decide,by show (1:Int)≤16;decide,h3,h4,by show (listOf v.c.toNat _).length=(1:Int).toNat * v.c.toNat;rw [listOf_length];show _ = 1 * _;rw [Nat.one_mul]⟩
theorem matV_ok {v w:TenP} (h:okT v) (h2:okT w):okT (matV v w):=by
 exact ⟨h.r1,h.r2,h2.c1,h2.c2,by show (matE _ _ _ _ _).length=v.r.toNat * w.c.toNat;rw [matE_length]⟩
theorem partA_ok {k:Int} {g v w:TenP} {num:Nat} {s:Sh} (hk:1≤k∧k≤10) (hg:okT g) (hv:okT v) (hw:okT w) (h:shapeOf k v.sh w.sh=some s) (hs:g.sh=s):okT (partA k g v w num)∧(partA k g v w num).sh=v.sh:=by
 have hk2:k=1∨k=2∨k=3∨k=4∨k=5∨k=6∨k=7∨k=8∨k=9∨k=10:=by omega
 subst hs
 rcases hk2 with rfl | rfl | rfl | rfl | rfl | rfl | rfl | rfl | rfl | rfl
 ·refine ⟨by simpa [partA] using hg,?_⟩
  simp [shapeOf,TenP.sh] at h
  simp [partA,TenP.sh];omega
 ·refine ⟨by simpa [partA] using hg,?_⟩
  simp [shapeOf,TenP.sh] at h
  simp [partA,TenP.sh];omega
 ·refine ⟨by simpa [partA] using (mulV_ok hg).1,?_⟩
  simp [shapeOf,TenP.sh] at h
  simp [partA,TenP.sh,mulV];omega
 ·refine ⟨?_,?_⟩
  ·have e:partA 4 g v w num=⟨g.r,g.c,rowE .mul g.xs w.xs g.c.toNat g.xs.length⟩:=by simp [partA]
   rw [e]
   exact ⟨hg.r1,hg.r2,hg.c1,hg.c2,by show (rowE _ _ _ _ _).length = _;rw [rowE_length];exact hg.len⟩
  ·simp [shapeOf,TenP.sh] at h
   simp [partA,TenP.sh];omega
 ·refine ⟨?_,?_⟩
  ·have e:partA 5 g v w num=⟨g.r,g.c,scaE g.xs num g.xs.length⟩:=by simp [partA]
   rw [e]
   exact ⟨hg.r1,hg.r2,hg.c1,hg.c2,by show (scaE _ _ _).length = _;rw [scaE_length];exact hg.len⟩
  ·simp [shapeOf,TenP.sh] at h
   simp [partA,TenP.sh];omega
 ·refine ⟨by simpa [partA] using matV_ok hg (turnV_ok hw),?_⟩
  simp only [shapeOf,TenP.sh] at h
  by_cases h6:v.c=w.r <;> simp [h6] at h
  simp [partA,TenP.sh,matV,turnV];omega
 ·refine ⟨by simpa [partA] using turnV_ok hg,?_⟩
  simp [shapeOf,TenP.sh] at h
  simp [partA,TenP.sh,turnV];omega
 ·have e:partA 8 g v w num=⟨v.r,v.c,maskE v.xs g.xs v.xs.length⟩:=by simp [partA]
  rw [e]
  exact ⟨⟨hv.r1,hv.r2,hv.c1,hv.c2,by show (maskE _ _ _).length = _;rw [maskE_length];exact hv.len⟩,rfl⟩
 ·refine ⟨by simpa [partA] using (mulV_ok hg).1,?_⟩
  simp [shapeOf,TenP.sh] at h
  simp [partA,TenP.sh,mulV];omega
 ·have e:partA 10 g v w num=filV v (g.xs.getD 0 0):=by simp [partA]
  rw [e]
  exact filV_ok hv _
theorem partB_ok {k:Int} {g v w:TenP} {s:Sh} (hk:twoB k=true) (hg:okT g) (hv:okT v) (hw:okT w) (h:shapeOf k v.sh w.sh=some s) (hs:g.sh=s):okT (partB k g v)∧(partB k g v).sh=w.sh:=by
 have hk2:k=1∨k=2∨k=3∨k=4∨k=6:=by
  unfold twoB at hk;simp at hk;omega
 subst hs
 rcases hk2 with rfl | rfl | rfl | rfl | rfl
 ·refine ⟨by simpa [partB] using hg,?_⟩
  simp [shapeOf,TenP.sh] at h
  simp [partB,TenP.sh];omega
 ·refine ⟨by simpa [partB] using colV_ok hg,?_⟩
  simp [shapeOf,TenP.sh] at h
  simp [partB,TenP.sh,colV];omega
 ·refine ⟨by simpa [partB] using (mulV_ok hg).1,?_⟩
  simp [shapeOf,TenP.sh] at h
  simp [partB,TenP.sh,mulV];omega
 ·refine ⟨by simpa [partB] using colV_ok (mulV_ok hg).1,?_⟩
  simp [shapeOf,TenP.sh] at h
  simp [partB,TenP.sh,mulV,colV];omega
 ·refine ⟨by simpa [partB] using matV_ok (turnV_ok hv) hg,?_⟩
  simp only [shapeOf,TenP.sh] at h
  by_cases h6:v.c=w.r <;> simp [h6] at h
  simp [partB,TenP.sh,matV,turnV];omega
theorem giveV_ok {h:Bool} {old part:TenP} {s:Sh} (ho:okT old) (hos:old.sh=s) (hp:okT part) (hps:part.sh=s):okT (giveV h old part)∧(giveV h old part).sh=s:=by
 unfold giveV
 split
 ·exact ⟨(addV_ok ho).1,(addV_ok ho).2.trans hos⟩
 ·exact ⟨hp,hps⟩
theorem vGet_nat {V:List TenP} {i:Nat} (h:i < V.length):vGet V (i:Int)=V[i]:=by
 unfold vGet
 rw [show ((i:Nat):Int).toNat=i by simp,List.getD_eq_getElem?_getD,List.getElem?_eq_getElem h];rfl
theorem stepG_length (V:List TenP) (U:List Bool) (G:List TenP) (i:Nat) (o:OpP):(stepG V U G i o).length=G.length:=by
 unfold stepG;split
 ·split <;> simp
 ·rfl
theorem gradM_length (os:List OpP) (V:List TenP) (hV:V.length=os.length) (m:Nat):(gradM os V m).length=os.length:=by
 induction m with
 | zero=>simp [gradM,hV]
 | succ m ih=>rw [gradM,stepG_length,ih]
def OkG (V:List TenP) (U:List Bool) (G:List TenP):Prop:=G.length=V.length∧∀j,j < V.length→(okT (vGet G (j:Int))∧(vGet G (j:Int)).sh=(vGet V (j:Int)).sh)∧(U.getD j false=false→vGet G (j:Int)=filV (vGet V (j:Int)) 0)
theorem vGet_set {G:List TenP} {i j:Nat} {t:TenP} (hi:i < G.length):vGet (G.set i t) (j:Int)=if i=j then t else vGet G (j:Int):=by
 unfold vGet
 rw [show ((j:Nat):Int).toNat=j by simp,List.getD_eq_getElem?_getD,List.getElem?_set]
 by_cases e:i=j
 ·rw [if_pos e,if_pos hi,if_pos e];rfl
 ·rw [if_neg e,if_neg e,←List.getD_eq_getElem?_getD]
theorem OkG.set {V:List TenP} {U:List Bool} {G:List TenP} (h:OkG V U G) {i:Nat} (hi:i < V.length) {t:TenP} (ht:okT t) (hs:t.sh=(vGet V (i:Int)).sh) (hU:U.length=V.length):OkG V (U.set i true) (G.set i t):=by
 refine ⟨by rw [List.length_set];exact h.1,fun j hj=>?_⟩
 rw [vGet_set (by rw [h.1];exact hi)]
 by_cases e:i=j
 ·subst e
  rw [if_pos rfl]
  refine ⟨⟨ht,hs⟩,fun h2=>?_⟩
  rw [List.getD_eq_getElem?_getD,List.getElem?_set,if_pos rfl,if_pos (by rw [hU];exact hi)] at h2
  cases h2
 ·rw [if_neg e]
  refine ⟨(h.2 j hj).1,fun h2=>(h.2 j hj).2 ?_⟩
  rw [List.getD_eq_getElem?_getD,List.getElem?_set,if_neg e,←List.getD_eq_getElem?_getD] at h2
  exact h2
theorem OkG.give {V:List TenP} {U:List Bool} {G:List TenP} (h:OkG V U G) {i:Nat} (hi:i < V.length) {p:TenP} (hp:okT p) (hs:p.sh=(vGet V (i:Int)).sh) (hU:U.length=V.length):OkG V (U.set i true) (G.set i (giveV (U.getD i false) (vGet G (i:Int)) p)):=by
 have:=giveV_ok (h:=U.getD i false) (h.2 i hi).1.1 (h.2 i hi).1.2 hp hs
 exact h.set hi this.1 this.2 hU
theorem OkG.init {os:List OpP} {V:List TenP} (hV:V.length=os.length) (hok:∀t∈V,okT t) (h1:1≤os.length):OkG V (usedM os 0) (gradM os V 0):=by
 have h0:OkG V (List.replicate os.length false) (V.map fun v=>filV v 0):=by
  refine ⟨by simp,fun j hj=>?_⟩
  rw [vGet_nat (V:=V.map _) (by simpa using hj),vGet_nat hj,List.getElem_map]
  exact ⟨filV_ok (hok _ (List.getElem_mem hj)) 0,fun _=>rfl⟩
 have hl:os.length - 1 < V.length:=by omega
 have hv:okT (vGet V ((os.length - 1:Nat):Int)):=by rw [vGet_nat hl];exact hok _ (List.getElem_mem hl)
 exact h0.set hl (filV_ok hv 1065353216).1 (filV_ok hv 1065353216).2 (by simp [hV])
theorem grad_round {os:List OpP} {S:List Sh} (hS:shapesP os=some S) {i:Nat} {o:OpP} (ho:os[i]? = some o) (h0:o.k≠0):∃s,shapeOf o.k (vGet (valsP os) o.a).sh (vGet (valsP os) o.b).sh=some s∧(vGet (valsP os) (i:Int)).sh=s:=by
 have hp:=shapesP_some hS
 have hi:=(List.getElem?_eq_some_iff.1 ho).1
 have hv:=valsN_ok (Nat.le_refl _) hp.2.1
 have hf:=valid_fit hS ho
 have ha:=fitsB_args hf h0
 have hVl:(valsP os).length=os.length:=by have:=congrArg List.length hv.1;rw [List.length_map,hp.2.2.1] at this;exact this
 cases hSk:shapesN os i with
 | none =>
  have:=shapesN_none hSk (Nat.le_of_lt hi) (Nat.le_refl _)
  rw [hp.2.1] at this;cases this
 | some Sk =>
  have hl:=shapesN_length (Nat.le_of_lt hi) hSk
  cases hS1:shapesN os (i+1) with
  | none =>
   have:=shapesN_none hS1 hi (Nat.le_refl _)
   rw [hp.2.1] at this;cases this
  | some S1 =>
   have hS1':=hS1
   rw [shapesN_succ ho,hSk] at hS1
   have hst:stepSh Sk o=some S1:=hS1
   unfold stepSh at hst
   rw [hl,if_pos hf,if_neg h0] at hst
   obtain ⟨s,hs,hs1⟩:=Option.map_eq_some_iff.1 hst
   have pre:∀m k Sm Sk,shapesN os k=some Sk→shapesN os m=some Sm→k≤m→m≤os.length→∀j:Nat,j < k→shGet Sm (j:Int)=shGet Sk (j:Int):=by
    intro m
    induction m with
    | zero =>
     intro k Sm Sk h1 h2 h3 h4 j hj
     omega
    | succ m ih =>
     intro k Sm Sk h1 h2 h3 h4 j hj
     by_cases e:k=m+1
     ·subst e;rw [h1] at h2;cases h2;rfl
     ·obtain ⟨om,hom⟩:=getElem?_lt (show m < os.length by omega)
      rw [shapesN_succ hom] at h2
      obtain ⟨S0,hS0,hst0⟩:=Option.bind_eq_some_iff.1 h2
      rw [←ih k S0 Sk h1 hS0 (by omega) (by omega) j hj]
      have hl0:=shapesN_length (by omega) hS0
      have:∃s,Sm=S0 ++ [s]:=by
       unfold stepSh at hst0
       split at hst0
       ·split at hst0
        ·cases hst0;exact ⟨_,rfl⟩
        ·obtain ⟨s,_,e2⟩:=Option.map_eq_some_iff.1 hst0
         exact ⟨s,e2.symm⟩
       ·cases hst0
      obtain ⟨s,rfl⟩:=this
      unfold shGet
      rw [List.getD_eq_getElem?_getD,List.getD_eq_getElem?_getD,List.getElem?_append_left (by simp;omega)]
   have g1:∀x:Int,0≤x→x≤(i:Int) - 1→(vGet (valsP os) x).sh=shGet Sk x:=by
    intro x hx0 hx1
    show (vGet (valsN os os.length) x).sh = _
    have hVl2:(valsN os os.length).length=os.length:=hVl
    rw [vGet_sh hv.1 hx0 (by rw [hVl2];omega)]
    obtain ⟨n,rfl⟩:∃n:Nat,x=n:=⟨x.toNat,by omega⟩
    exact pre os.length i S Sk hSk hp.2.1 (by omega) (Nat.le_refl _) n (by omega)
   refine ⟨s,?_,?_⟩
   ·rw [g1 _ ha.1.1 ha.1.2,g1 _ ha.2.1.1 ha.2.1.2];exact hs
   ·show (vGet (valsN os os.length) (i:Int)).sh = _
    have hVl2:(valsN os os.length).length=os.length:=hVl
    rw [vGet_sh hv.1 (by omega) (by rw [hVl2];omega),pre os.length (i+1) S S1 hS1' hp.2.1 (by omega) (Nat.le_refl _) i (by omega),←hs1]
    unfold shGet
    rw [show ((i:Nat):Int).toNat=i by simp,List.getD_eq_getElem?_getD,List.getElem?_append_right (by omega),hl,Nat.sub_self];rfl
theorem valsP_ok {os:List OpP} {S:List Sh} (hS:shapesP os=some S):(valsP os).length=os.length∧∀t∈valsP os,okT t:=by
 have hp:=shapesP_some hS
 have hv:=valsN_ok (Nat.le_refl _) hp.2.1
 exact ⟨by have:=congrArg List.length hv.1;rw [List.length_map,hp.2.2.1] at this;exact this,hv.2⟩
theorem vGet_ok {V:List TenP} (h:∀t∈V,okT t) {i:Int} (h0:0≤i) (h1:i < V.length):okT (vGet V i):=by
 obtain ⟨n,rfl⟩:∃n:Nat,i=n:=⟨i.toNat,by omega⟩
 rw [vGet_nat (by omega)];exact h _ (List.getElem_mem _)
theorem OkG.step {os:List OpP} {S:List Sh} (hS:shapesP os=some S) {U:List Bool} {G:List TenP} (h:OkG (valsP os) U G) (hU:U.length=os.length) {i:Nat} {o:OpP} (ho:os[i]? = some o):OkG (valsP os) (stepU U i o) (stepG (valsP os) U G i o):=by
 have hi:=(List.getElem?_eq_some_iff.1 ho).1
 obtain ⟨hVl,hok⟩:=valsP_ok hS
 unfold stepU stepG
 by_cases hc:U.getD i false=true∧o.k≠0
 ·rw [if_pos hc,if_pos hc]
  have hf:=valid_fit hS ho
  have hk10:=fitsB_in hf
  have ha:=fitsB_args hf hc.2
  obtain ⟨s,hs,hgs⟩:=grad_round hS ho hc.2
  have hkk:1≤o.k∧o.k≤10:=⟨by have:=hc.2;omega,hk10.2⟩
  have okv:=vGet_ok hok ha.1.1 (by omega)
  have okw:=vGet_ok hok ha.2.1.1 (by omega)
  have hg:=h.2 i (by omega)
  have hA:=partA_ok (num:=cn .f32 o.num) hkk hg.1.1 okv okw hs (hg.1.2.trans hgs)
  obtain ⟨a,haa⟩:∃a:Nat,o.a=a:=⟨o.a.toNat,by omega⟩
  obtain ⟨b,hbb⟩:∃b:Nat,o.b=b:=⟨o.b.toNat,by omega⟩
  have hai:a < (valsP os).length:=by omega
  have hbi:b < (valsP os).length:=by omega
  rw [haa] at hA
  have h1:=h.give hai hA.1 hA.2 (by omega)
  rw [haa,hbb,show ((a:Nat):Int).toNat=a by simp,show ((b:Nat):Int).toNat=b by simp]
  rw [hbb] at h1
  by_cases ht:twoB o.k=true
  ·rw [if_pos ht,if_pos ht]
   have hB:=partB_ok ht hg.1.1 okv okw hs (hg.1.2.trans hgs)
   rw [haa,hbb] at hB
   exact h1.give hbi hB.1 hB.2 (by simp;omega)
  ·rw [if_neg ht,if_neg ht];exact h1
 ·rw [if_neg hc,if_neg hc];exact h
theorem OkG.at {os:List OpP} {S:List Sh} (hS:shapesP os=some S):∀m,m≤os.length→OkG (valsP os) (usedM os m) (gradM os (valsP os) m)
 | 0,_=>OkG.init (valsP_ok hS).1 (valsP_ok hS).2 (shapesP_some hS).1.1
 | m+1,hm=>by
  obtain ⟨o,ho⟩:=getElem?_lt (show os.length - 1 - m < os.length by omega)
  have h:=OkG.step hS (OkG.at hS m (by omega)) (usedM_length os m) ho
  rw [←opAtP_some ho] at h
  exact h
theorem gradM_next {os:List OpP} {V:List TenP} {n i:Nat} {o:OpP} (hn:n=os.length) (hi:i < n) (ho:os[i]? = some o):gradM os V (n - i)=stepG V (usedM os (n - (i+1))) (gradM os V (n - (i+1))) i o:=by
 rw [show n - i=(n - (i+1))+1 by omega,gradM,show os.length - 1 - (n - (i+1))=i by omega,opAtP_some ho]
theorem stepG_no {V:List TenP} {U:List Bool} {G:List TenP} {i:Nat} {o:OpP} (h:U.getD i false=false∨o.k=0):stepG V U G i o=G:=by
 unfold stepG;rw [if_neg];rintro ⟨h1,h2⟩;rcases h with h | h
 ·rw [h] at h1;cases h1
 ·exact h2 h
theorem stepU_not {U:List Bool} {i:Nat} {o:OpP} (h:U.getD i false=false∨o.k=0):stepU U i o=U:=by
 unfold stepU;rw [if_neg];rintro ⟨h1,h2⟩;rcases h with h | h
 ·rw [h] at h1;cases h1
 ·exact h2 h
theorem stepU_one1 {U:List Bool} {i:Nat} {o:OpP} (h:U.getD i false=true) (hk:o.k≠0) (ht:twoB o.k=false):stepU U i o=U.set o.a.toNat true:=by
 unfold stepU;rw [if_pos ⟨h,hk⟩,if_neg (by rw [ht];decide)]
theorem stepU_two1 {U:List Bool} {i:Nat} {o:OpP} (h:U.getD i false=true) (hk:o.k≠0) (ht:twoB o.k=true):stepU U i o=(U.set o.a.toNat true).set o.b.toNat true:=by
 unfold stepU;rw [if_pos ⟨h,hk⟩,if_pos ht]
theorem usedM_next1 {os:List OpP} {n i:Nat} {o:OpP} (hn:n=os.length) (hi:i < n) (ho:os[i]? = some o):usedM os (n - i)=stepU (usedM os (n - (i+1))) i o:=by
 rw [show n - i=(n - (i+1))+1 by omega,usedM,show os.length - 1 - (n - (i+1))=i by omega,opAtP_some ho]
theorem stepG_one {V:List TenP} {U:List Bool} {G:List TenP} {i:Nat} {o:OpP} (h:U.getD i false=true) (hk:o.k≠0) (ht:twoB o.k=false):stepG V U G i o=G.set o.a.toNat (giveV (U.getD o.a.toNat false) (vGet G o.a) (partA o.k (vGet G i) (vGet V o.a) (vGet V o.b) (cn .f32 o.num))):=by
 unfold stepG;rw [if_pos ⟨h,hk⟩,if_neg (by rw [ht];decide)]
theorem stepG_two {V:List TenP} {U:List Bool} {G G1:List TenP} {i:Nat} {o:OpP} (h:U.getD i false=true) (hk:o.k≠0) (ht:twoB o.k=true) (h1:G1=G.set o.a.toNat (giveV (U.getD o.a.toNat false) (vGet G o.a) (partA o.k (vGet G i) (vGet V o.a) (vGet V o.b) (cn .f32 o.num)))):stepG V U G i o=G1.set o.b.toNat (giveV ((U.set o.a.toNat true).getD o.b.toNat false) (vGet G1 o.b) (partB o.k (vGet G i) (vGet V o.a))):=by
 subst h1
 unfold stepG;rw [if_pos ⟨h,hk⟩,if_pos ht]
theorem map_cn_cn (xs:List Nat):(xs.map (cn .f32)).map (cn .f32)=xs.map (cn .f32):=by
 rw [List.map_map];exact List.map_congr_left fun x _=>cn_cn .f32 x
theorem fitsB_can (i:Int) (o:OpP):fitsB i o.can=fitsB i o:=by
 unfold fitsB OpP.can zeroB;simp only [cn_cn,List.length_map]
theorem stepSh_can (S:List Sh) (o:OpP):stepSh S o.can=stepSh S o:=by
 unfold stepSh;rw [fitsB_can];rfl
theorem shapesP_can (os:List OpP):shapesP (os.map OpP.can)=shapesP os:=by
 unfold shapesP shapesN
 rw [List.length_map,←List.map_take,List.foldlM_map]
 simp only [stepSh_can]
theorem stepV_can (V:List TenP) (o:OpP):stepV V o.can=stepV V o:=by
 unfold stepV OpP.can;simp only [cn_cn,map_cn_cn]
theorem valsP_can (os:List OpP):valsP (os.map OpP.can)=valsP os:=by
 unfold valsP valsN
 rw [List.length_map,←List.map_take,List.foldl_map]
 simp only [stepV_can]
theorem opAtP_can (os:List OpP) (i:Nat):opAtP (os.map OpP.can) i=(opAtP os i).can:=by
 unfold opAtP
 rw [List.getD_eq_getElem?_getD,List.getD_eq_getElem?_getD,List.getElem?_map]
 cases os[i]? with
 | none=>show (⟨0,0,0,0,0,0,[]⟩:OpP)=OpP.can ⟨0,0,0,0,0,0,[]⟩
         unfold OpP.can;rw [show cn .f32 0=0 by decide +kernel];rfl
 | some o=>rfl
theorem stepU_can (U:List Bool) (i:Nat) (o:OpP):stepU U i o.can=stepU U i o:=rfl
theorem usedM_can (os:List OpP) (m:Nat):usedM (os.map OpP.can) m=usedM os m:=by
 induction m with
 | zero=>rw [usedM,usedM,List.length_map]
 | succ m ih=>rw [usedM,usedM,ih,List.length_map,opAtP_can,stepU_can]
theorem stepG_can (V:List TenP) (U:List Bool) (G:List TenP) (i:Nat) (o:OpP):stepG V U G i o.can=stepG V U G i o:=by
 unfold stepG OpP.can;simp only [cn_cn]
theorem gradM_can (os:List OpP) (V:List TenP) (m:Nat):gradM (os.map OpP.can) V m=gradM os V m:=by
 induction m with
 | zero=>rw [gradM,gradM,List.length_map]
 | succ m ih=>rw [gradM,gradM,ih,usedM_can,List.length_map,opAtP_can,stepG_can]
theorem gradP_can (os:List OpP):gradP (os.map OpP.can)=gradP os:=by
 unfold gradP;rw [valsP_can,List.length_map,gradM_can]
theorem can_toOpP (us:List OpD):us.map (fun o=>o.toOpP.can)=(us.map OpD.toOpP).map OpP.can:=by rw [List.map_map];rfl
/-! the shapes of a model's tape -/
def Fold (ops:List OpP) (S:List Sh):Prop:=ops.foldlM stepSh []=some S
theorem Fold.snoc {ops:List OpP} {S S':List Sh} {o:OpP} (h:Fold ops S) (hs:stepSh S o=some S'):Fold (ops ++ [o]) S':=by
 unfold Fold at *
 rw [List.foldlM_append,h]
 simp [List.foldlM,hs]
theorem Fold.len {ops:List OpP}:∀ {S:List Sh},Fold ops S→S.length=ops.length:=by
 intro S h
 have:∀(l:List OpP) (T S:List Sh),l.foldlM stepSh T=some S→S.length=T.length+l.length:=by
  intro l
  induction l with
  | nil=>intro T S h;rw [List.foldlM_nil] at h;cases h;rfl
  | cons o l ih =>
   intro T S h
   rw [List.foldlM_cons] at h
   obtain ⟨T2,h1,h2⟩:=Option.bind_eq_some_iff.1 h
   have:=ih T2 S h2
   have:=stepSh_length h1
   rw [List.length_cons];omega
 have:=this ops [] S h
 simpa using this
theorem shGet_old {S:List Sh} {i:Int} (s:Sh) (h0:0≤i) (h:i < S.length):shGet (S ++ [s]) i=shGet S i:=by
 unfold shGet
 rw [List.getD_eq_getElem?_getD,List.getD_eq_getElem?_getD,List.getElem?_append_left (by omega)]
theorem shGet_new {S:List Sh} {i:Int} (s:Sh) (h:i=S.length):shGet (S ++ [s]) i=s:=by
 subst h
 unfold shGet
 rw [List.getD_eq_getElem?_getD,show ((S.length:Nat):Int).toNat=S.length by simp]
 simp
theorem stepSh_in {S:List Sh} {r c:Int} {xs:List Nat} (h:tenB r c xs.length=true):stepSh S (opIn r c xs)=some (S ++ [(r,c)]):=by
 have hf:fitsB S.length (opIn r c xs)=true:=by
  unfold fitsB opIn zeroB;simp [h,inB]
 unfold stepSh
 rw [if_pos hf]
 rfl
theorem stepSh_w {S:List Sh} {k a b:Int} {num:Nat} {s:Sh} (hk:1≤k∧k≤10) (hn:k=5∨num=0) (ha:0≤a∧a < S.length) (hb:if twoB k=true then 0≤b∧b < S.length else b=0) (hs:shapeOf k (shGet S a) (shGet S b)=some s) :
  stepSh S (opW k a b num)=some (S ++ [s]):=by
 have hf:fitsB S.length (opW k a b num)=true:=by
  unfold fitsB opW zeroB
  have h1:inB k 0 10=true:=inB_iff.2 (by omega)
  have h2:inB a 0 (S.length - 1)=true:=inB_iff.2 (by omega)
  have h3:(k == 5 || decide (cn .f32 num=cn .f32 0))=true:=by
   rcases hn with rfl | rfl <;> simp
  have h4:(if twoB k=true then inB b 0 (S.length - 1) else b == 0)=true:=by
   split at hb
   ·rename_i e;rw [if_pos e];exact inB_iff.2 (by omega)
   ·rename_i e;rw [if_neg e];simpa using hb
  simp only [h1,h2,h3,h4,if_neg (show ¬ k=0 by omega)]
  simp
 unfold stepSh
 rw [if_pos hf,if_neg (show ¬ (opW k a b num).k=0 from fun e=>by have:k=0:=e;omega)]
 show (shapeOf k (shGet S a) (shGet S b)).map _ = _
 rw [hs];rfl
structure MOk (s:MS) (r c yr yc:Int) (S:List Sh):Prop where
 fold:Fold s.ops S
 two:2≤S.length
 p:0≤s.p∧s.p < S.length
 at_p:shGet S s.p=(r,c)
 at_1:shGet S 1=(yr,yc)
 ws:∀i∈s.ws,0≤i∧i < S.length
theorem len1 (S:List Sh) (s:Sh):(S ++ [s]).length=S.length+1:=by simp
theorem MOk.dense {s:MS} {r c yr yc:Int} {S:List Sh} (h:MOk s r c yr yc S) {l:LayP} (hl:layB l=true) (hk:l.k=0) (hc:c=l.i):∃S',MOk (denseM s l s.ops.length) r l.o yr yc S':=by
 obtain ⟨h1,h2,h3,h4,h5,h6⟩:=layB_iff hl
 rw [hk] at h5 h6
 have e5:(l.ws.length:Int)=l.o * l.i:=h5
 have e6:(l.bs.length:Int)=l.o:=h6
 have hL:=h.fold.len
 have f1:=h.fold.snoc (stepSh_in (r:=l.o) (c:=l.i) (xs:=l.ws) (tenB_iff.2 ⟨by omega,by omega,e5⟩))
 have f2:=f1.snoc (stepSh_in (r:=1) (c:=l.o) (xs:=l.bs) (tenB_iff.2 ⟨by omega,by omega,by omega⟩))
 have f3:=f2.snoc (stepSh_w (k:=7) (a:=(s.ops.length:Int)) (b:=0) (num:=0) (s:=(l.i,l.o)) (by omega) (.inr rfl) (by simp only [len1];omega) rfl (by
  rw [shGet_old _ (by omega) (by simp only [len1];omega),shGet_new (l.o,l.i) (by omega)];rfl))
 have f4:=f3.snoc (stepSh_w (k:=6) (a:=s.p) (b:=(s.ops.length:Int)+2) (num:=0) (s:=(r,l.o)) (by omega) (.inr rfl) (by simp only [len1];have:=h.p;omega) (show 0≤(s.ops.length:Int)+2∧_ by simp only [len1];omega) (by
  have hp:=h.p
  rw [shGet_new (i:=(s.ops.length:Int)+2) (l.i,l.o) (by simp only [len1];omega),shGet_old (i:=s.p) _ hp.1 (by simp only [len1];omega),shGet_old (i:=s.p) _ hp.1 (by simp only [len1];omega),shGet_old (i:=s.p) _ hp.1 (by omega),h.at_p,hc]
  simp [shapeOf]))
 have f5:=f4.snoc (stepSh_w (k:=2) (a:=(s.ops.length:Int)+3) (b:=(s.ops.length:Int)+1) (num:=0) (s:=(r,l.o)) (by omega) (.inr rfl) (by simp only [len1];omega) (show 0≤(s.ops.length:Int)+1∧_ by simp only [len1];omega) (by
  rw [shGet_new (r,l.o) (by simp only [len1];omega),shGet_old _ (by omega) (by simp only [len1];omega),shGet_old _ (by omega) (by simp only [len1];omega),shGet_new (1,l.o) (by simp only [len1];omega)]
  simp [shapeOf]))
 refine ⟨_,f5,by simp only [len1];omega,by show 0≤(s.ops.length:Int)+4∧(s.ops.length:Int)+4 < _;simp only [len1];omega,shGet_new _ (by show (s.ops.length:Int)+4 = _;simp only [len1];omega),?_,?_⟩
 ·have h2:=h.two
  rw [shGet_old _ (by omega) (by simp only [len1];omega),shGet_old _ (by omega) (by simp only [len1];omega),shGet_old _ (by omega) (by simp only [len1];omega),shGet_old _ (by omega) (by simp only [len1];omega),shGet_old _ (by omega) (by omega)]
  exact h.at_1
 ·intro i hi
  simp only [denseM,List.mem_append,List.mem_singleton] at hi
  simp only [len1]
  rcases hi with (hi | hi) | hi
  ·have:=h.ws i hi;omega
  ·omega
  ·omega
theorem MOk.relu {s:MS} {r c yr yc:Int} {S:List Sh} (h:MOk s r c yr yc S) {l:LayP} (hl:layB l=true) (hk:l.k=1) (hc:c=l.i):∃S',MOk (reluM s s.ops.length) r l.o yr yc S':=by
 obtain ⟨h1,h2,h3,h4,h5,h6⟩:=layB_iff hl
 have e4:l.i=l.o:=by omega
 have hL:=h.fold.len
 have hp:=h.p;have h2:=h.two
 have f1:=h.fold.snoc (stepSh_w (k:=8) (a:=s.p) (b:=0) (num:=0) (s:=(r,l.o)) (by omega) (.inr rfl) hp rfl (by rw [h.at_p,hc,e4];rfl))
 refine ⟨_,f1,by simp only [len1];omega,by show 0≤(s.ops.length:Int)∧(s.ops.length:Int) < _;simp only [len1];omega,shGet_new _ (by show (s.ops.length:Int) = _;omega),?_,?_⟩
 ·rw [shGet_old _ (by omega) (by omega)];exact h.at_1
 ·intro i hi
  have:=h.ws i hi
  simp only [len1];omega
theorem MOk.scale {s:MS} {r c yr yc:Int} {S:List Sh} (h:MOk s r c yr yc S) {l:LayP} (hl:layB l=true) (hk:l.k=2) (hc:c=l.i):∃S',MOk (scaleM s l s.ops.length) r l.o yr yc S':=by
 obtain ⟨h1,h2,h3,h4,h5,h6⟩:=layB_iff hl
 rw [hk] at h5
 have e5:(l.ws.length:Int)=l.i:=h5
 have e4:l.i=l.o:=by omega
 have hL:=h.fold.len
 have hp:=h.p;have h2:=h.two
 have f1:=h.fold.snoc (stepSh_in (r:=1) (c:=l.i) (xs:=l.ws) (tenB_iff.2 ⟨by omega,by omega,by omega⟩))
 have f2:=f1.snoc (stepSh_w (k:=4) (a:=s.p) (b:=(s.ops.length:Int)) (num:=0) (s:=(r,l.o)) (by omega) (.inr rfl) (by simp only [len1];omega) (show 0≤(s.ops.length:Int)∧_ by simp only [len1];omega) (by
  rw [shGet_new (i:=(s.ops.length:Int)) (1,l.i) (by omega),shGet_old (i:=s.p) _ hp.1 hp.2,h.at_p,hc,e4]
  simp [shapeOf]))
 refine ⟨_,f2,by simp only [len1];omega,by show 0≤(s.ops.length:Int)+1∧(s.ops.length:Int)+1 < _;simp only [len1];omega,shGet_new _ (by show (s.ops.length:Int)+1 = _;simp only [len1];omega),?_,?_⟩
 ·rw [shGet_old _ (by omega) (by simp only [len1];omega),shGet_old _ (by omega) (by omega)];exact h.at_1
 ·intro i hi
  simp only [scaleM,List.mem_append,List.mem_singleton] at hi
  simp only [len1]
  rcases hi with hi | hi
  ·have:=h.ws i hi;omega
  ·omega
def wideM (ls:List LayP) (c:Int) (k:Nat):Int:=if k=0 then c else (layAt ls (k - 1)).o
theorem link_wide {ls:List LayP} (hg:modB ls=true) {c:Int} (hc:c=(layAt ls 0).i) {k:Nat} {l:LayP} (hl:ls[k]? = some l):wideM ls c k=l.i:=by
 unfold modB at hg
 rw [Bool.and_eq_true] at hg
 have hk:=(List.getElem?_eq_some_iff.1 hl).1
 have h1:=linkM_mono hg.1 (show k+1≤ls.length from hk)
 cases k with
 | zero=>unfold wideM;rw [if_pos rfl,hc,layAt_some hl]
 | succ k =>
  obtain ⟨p,hp⟩:∃p,ls[k]? = some p:=⟨_,List.getElem?_eq_getElem (by omega)⟩
  have h0:=linkM_mono hg.1 (show k+1≤ls.length by omega)
  rw [linkM_next h0 hl hp,Bool.and_eq_true,decide_eq_true_eq] at h1
  unfold wideM
  rw [if_neg (by omega),show k+1 - 1=k by omega,layAt_some hp,h1.2]
theorem stM_ok {ls:List LayP} {X Y:TenP} (hg:goodM ls X Y=true) {k:Nat} (hk:k≤ls.length) {s:MS} (h:stM ls X Y k=some s):∃S,MOk s X.r (wideM ls X.c k) Y.r Y.c S:=by
 have hg0:=hg
 unfold goodM at hg
 simp only [Bool.and_eq_true,decide_eq_true_eq] at hg
 obtain ⟨g1,g2,g3,g4,g5,g6⟩:=hg
 induction k generalizing s with
 | zero =>
  rw [stM] at h;cases h
  have f1:Fold [opIn X.r X.c X.xs] [(X.r,X.c)]:=by unfold Fold;rw [List.foldlM_cons,stepSh_in g2];rfl
  have f2:=f1.snoc (stepSh_in (r:=Y.r) (c:=Y.c) (xs:=Y.xs) g3)
  exact ⟨_,f2,by simp,by simp,rfl,rfl,fun i hi=>(nomatch hi)⟩
 | succ k ih =>
  rw [stM] at h
  obtain ⟨s0,h0,h1⟩:=Option.bind_eq_some_iff.1 h
  obtain ⟨l,hl,h2⟩:=Option.bind_eq_some_iff.1 h1
  obtain ⟨S,hS⟩:=ih (by omega) h0
  have hw:=link_wide g1 g5 hl
  have hb:=modB_lay g1 hl
  have e:wideM ls X.c (k+1)=l.o:=by unfold wideM;rw [if_neg (by omega),show k+1 - 1=k by omega,layAt_some hl]
  rw [e]
  unfold stepL at h2
  split at h2
  ·cases h2;exact hS.dense hb ‹_› hw
  ·split at h2
   ·cases h2;exact hS.relu hb ‹_› hw
   ·split at h2
    ·cases h2;exact hS.scale hb ‹_› hw
    ·cases h2
theorem modelP_ok {ls:List LayP} {X Y:TenP} {num:Nat} {C:List OpP} {ws:List Int} (h:modelP ls X Y num=some (C,ws)) :
  ∃S,shapesP C=some S∧shGet S ((C.length - 1:Nat):Int)=(1,1)∧∀i∈ws,0≤i∧i < C.length:=by
 unfold modelP at h
 split at h
 ·rename_i hg
  obtain ⟨s,hs,e⟩:=Option.map_eq_some_iff.1 h
  cases e
  obtain ⟨S,hS⟩:=stM_ok hg (Nat.le_refl _) hs
  have hg0:=hg
  unfold goodM at hg
  simp only [Bool.and_eq_true,decide_eq_true_eq] at hg
  obtain ⟨g1,g2,g3,g4,g5,g6⟩:=hg
  have hl:=modB_len g1
  have hw:wideM ls X.c ls.length=Y.c:=by unfold wideM;rw [if_neg (by omega),g6]
  rw [hw,g4] at hS
  have hL:=hS.fold.len
  have hp:=hS.p;have h2:=hS.two
  have hn:=(stM_len hs).1
  have f1:=hS.fold.snoc (stepSh_w (k:=5) (a:=1) (b:=0) (num:=3212836864) (s:=(Y.r,Y.c)) (by omega) (.inl rfl) (by omega) rfl (by rw [hS.at_1];rfl))
  have f2:=f1.snoc (stepSh_w (k:=1) (a:=s.p) (b:=(s.ops.length:Int)) (num:=0) (s:=(Y.r,Y.c)) (by omega) (.inr rfl) (by simp only [len1];omega) (show 0≤(s.ops.length:Int)∧_ by simp only [len1];omega) (by
   rw [shGet_new (i:=(s.ops.length:Int)) (Y.r,Y.c) (by omega),shGet_old (i:=s.p) _ hp.1 hp.2,hS.at_p];simp [shapeOf]))
  have f3:=f2.snoc (stepSh_w (k:=9) (a:=(s.ops.length:Int)+1) (b:=0) (num:=0) (s:=(Y.r,Y.c)) (by omega) (.inr rfl) (by simp only [len1];omega) rfl (by
   rw [shGet_new (Y.r,Y.c) (by simp only [len1];omega)];rfl))
  have f4:=f3.snoc (stepSh_w (k:=10) (a:=(s.ops.length:Int)+2) (b:=0) (num:=0) (s:=(1,1)) (by omega) (.inr rfl) (by simp only [len1];omega) rfl (by
   rw [shGet_new (Y.r,Y.c) (by simp only [len1];omega)];rfl))
  have f5:=f4.snoc (stepSh_w (k:=5) (a:=(s.ops.length:Int)+3) (b:=0) (num:=num) (s:=(1,1)) (by omega) (.inl rfl) (by simp only [len1];omega) rfl (by
   rw [shGet_new (1,1) (by simp only [len1];omega)];rfl))
  have hlen:(finM s num).length=s.ops.length+5:=by unfold finM finN;simp
  have hsh:shapesP (finM s num)=some (S ++ [(Y.r,Y.c)] ++ [(Y.r,Y.c)] ++ [(Y.r,Y.c)] ++ [(1,1)] ++ [(1,1)]):=by
   unfold shapesP
   rw [if_pos (by rw [hlen];omega)]
   unfold shapesN
   rw [List.take_length]
   exact f5
  refine ⟨_,hsh,shGet_new (1,1) ?_,fun i hi=>?_⟩
  ·rw [hlen];simp only [len1];omega
  ·have:=hS.ws i hi
   rw [hlen];omega
 ·cases h
def flatG (G:List TenP) (ws:List Int):List Nat:=ws.flatMap fun i=>(vGet G i).xs
def lossP (C:List OpP):Nat:=(vGet (valsP C) ((C.length - 1:Nat):Int)).xs.getD 0 0
def learnM (R:Option (List OpP × List Int)):Option (List Nat × Nat):=R.map fun p=>(flatG (gradP p.1) p.2,lossP p.1)
theorem last_one {C:List OpP} {S:List Sh} (hS:shapesP C=some S) (h1:shGet S ((C.length - 1:Nat):Int)=(1,1)):(vGet (valsP C) ((C.length - 1:Nat):Int)).xs.length=1:=by
 have hp:=shapesP_some hS
 have hv:=valsN_ok (Nat.le_refl _) hp.2.1
 have hl:(valsP C).length=C.length:=(valsP_ok hS).1
 have hlt:C.length - 1 < (valsP C).length:=by omega
 have hok:=hv.2 _ (List.getElem_mem hlt)
 rw [vGet_nat hlt]
 have hs:((valsP C)[C.length - 1]).sh=(1,1):=by
  have e:=hv.1
  rw [←h1,←e]
  unfold shGet
  rw [List.getD_eq_getElem?_getD,show (((C.length - 1:Nat):Int)).toNat=C.length - 1 by omega,List.getElem?_map,show (valsN C C.length)[C.length - 1]? = some ((valsP C)[C.length - 1]) from List.getElem?_eq_getElem hlt]
  rfl
 have h5:=hok.len
 have h6:((valsP C)[C.length - 1]).r=1:=congrArg Prod.fst hs
 have h7:((valsP C)[C.length - 1]).c=1:=congrArg Prod.snd hs
 rw [h6,h7] at h5
 simpa using h5

theorem left_bound1 {n:Nat} {L R:Int} (h:L=if (n:Int)≤R then R - n else -1) (h0:0≤L) (h1:R≤1048576):n≤1048576∧L≤1048576:=by
 split at h <;> omega
end
section
open Go
section
variable {P:Program} {ops:Array Oper} {C:World→Prop} {VC:FuncId→Array Value→Value→Prop}
@[go_sem] def EnterS (P:Program) (w:World) (K:FuncId→Array Value→Prop):Result Next→Prop
 | .ok (.enter f args) w'=>w'=w∧K f args
 | _=>False
end
end
section
open Go Go.RowKit





theorem below_dr1 {w w':World} (hb:Below w.drew.heap.size w.drew w'):Below w.heap.size w w':=bthen (Below.drew (Below.refl _ _)) hb
theorem T_toD (w:World) (r c:Int) (ad:Option Addr) (cap:Nat) (xs:List Nat) (h:F32s w ad cap xs) (hn:xs.length≤1048576) :
  Calls Tryz.prog 10 #[.agg #[.int .i64 r,.int .i64 c,.slice ad xs.length cap]] w.drew fun e w' => ∃ad' cap',e=.returned (.agg #[.int .i64 r,.int .i64 c,.slice ad' xs.length cap'])∧Hid (RepF w' w.heap.size w'.heap.size ad' xs.length cap' xs)∧Below w.heap.size w w':=by
 refine (T_to w.drew r c ad cap xs (h.below (Below.drew (Below.refl _ _))) hn).mono ?_
 rintro e w' ⟨a,c,h1,h3,h4⟩
 exact ⟨a,c,h1,h3,below_dr1 h4⟩
theorem ten_own {w:World} {lo hi n cap:Nat} {ad:Option Addr} {us:List Ten} (h:OwnR tenR w lo hi ad n cap us) {k:Nat} {t:Ten} (hk:us[k]? = some t):∃g,ad=some ⟨g,0,none⟩∧(lo≤g∧g < hi∧g < w.heap.size) ∧
  (w.cell? ⟨g,k * 3,none⟩=some (.int .i64 t.r)∧w.cell? ⟨g,k * 3+1,none⟩=some (.int .i64 t.c)∧w.cell? ⟨g,k * 3+2,none⟩=some (.slice t.ad t.xs.length t.cap)) ∧
  (∀j,w.frozen? ⟨g,j,none⟩=false)∧RepF w lo hi t.ad t.xs.length t.cap t.xs:=by
 obtain ⟨g,e,hr,hc,hf⟩:=h.spot hk (by decide)
 have hm:=List.mem_of_getElem? hk
 refine ⟨g,e,hr,⟨hc 0 (by decide),hc 1 (by decide),hc 2 (by decide)⟩,hf,h.own.repF (List.mem_cons_of_mem _ (List.mem_flatMap.2 ⟨t,hm,List.mem_singleton.2 rfl⟩)) (h.ok t hm)⟩
def tenAtD (us:List Ten) (i:Int):Ten:=us.getD i.toNat ⟨⟨0,0,[]⟩,none,0⟩
def flatT (us:List Ten) (ws:List Int):List Nat:=ws.flatMap fun i=>(tenAtD us i).xs
theorem flatT_snoc (us:List Ten) (ws:List Int) (i:Int):flatT us (ws ++ [i])=flatT us ws ++ (tenAtD us i).xs:=by unfold flatT;rw [List.flatMap_append];simp
theorem flatT_can {us:List Ten} {G:List TenP} (h:us.map (fun t=>t.toTenP.can)=G) (ws:List Int):(flatT us ws).map (cn .f32)=flatG G ws:=by
 subst h
 unfold flatT flatG
 rw [List.map_flatMap]
 congr 1
 funext i
 unfold vGet tenAtD
 rw [List.getD_eq_getElem?_getD,List.getD_eq_getElem?_getD,List.getElem?_map]
 cases us[i.toNat]? <;> rfl
theorem flatT_okF {us:List Ten} (hx:∀t∈us,okF t.xs) (ws:List Int):okF (flatT us ws):=by
 intro x hm
 obtain ⟨i,_,h⟩:=List.mem_flatMap.1 hm
 unfold tenAtD at h
 rw [List.getD_eq_getElem?_getD] at h
 cases e:us[i.toNat]? with
 | none=>rw [e] at h;exact (nomatch h)
 | some t=>rw [e] at h;exact hx t (List.mem_of_getElem? e) x h
theorem ints_at {w:World} {ad:Option Addr} {cap:Nat} {xs:List Int} (h:Ints .i64 w ad cap xs) {k:Nat} {i:Int} (hk:xs[k]? = some i):∃b off,ad=some ⟨b,off,none⟩∧b < w.heap.size∧w.cell? ⟨b,off+k,none⟩=some (.int .i64 i):=by
 have hlt:=(List.getElem?_eq_some_iff.1 hk).1
 rcases h.rd with h1 | ⟨b,off,e,hb,hc⟩
 ·have:xs=[]:=by simpa using h1
  subst this;exact absurd hlt (Nat.not_lt_zero _)
 ·refine ⟨b,off,e,hb,?_⟩
  rw [hc k (by simpa using hlt),List.getElem?_map,hk];rfl
set_option maxHeartbeats 8000000 in
set_option maxRecDepth 100000 in
theorem spec_l04Flat (w:World) (al wa:Option Addr) (cl wk:Nat) (us:List Ten) (ws:List Int) {lo hi n:Nat} (hl:OwnR tenR w lo hi al n cl us) (hw:Ints .i64 w wa wk ws) (hix:∀i∈ws,0≤i∧i < n) (hn:n≤48) (hx:∀t∈us,t.xs.length≤256) (hm:ws.length≤12) :
  Calls Tryz.prog 85 #[.slice al n cl,.slice wa ws.length wk] w fun e w' => ∃ad cap,e=.returned (.slice ad (flatT us ws).length cap)∧Hid (RepF w' w.heap.size w'.heap.size ad (flatT us ws).length cap (flatT us ws))∧Below w.heap.size w w':=by
 obtain ⟨i0,hi0,hz0,hz1,hz2⟩:=info_parts info_f32
 have HL:=I hl;have HW:=I hw;have HIX:=I hix;have HXL:=I hx
 obtain ⟨m,hM⟩:∃m,m=ws.length:=⟨_,rfl⟩
 rw [←hM] at hm ⊢
 have HM:=I hM
 clear hl hw hix hx hM
 go_enter Tryz.func85,Tryz.ntmps85
 go_wp2
 go_loopw [5,6] (fun v i wt => ∃k nk:Nat,i=.int .i64 k∧k≤m∧nk≤256 * k∧Hid (wt.ownsRow w.heap.size 28 1 v nk ((flatT us (ws.take k)).map (Value.float .f32))∧nk=(flatT us (ws.take k)).length)∧Hid (Below w.heap.size w wt)) (fun v i wt=>m - (intOf i).toNat)
 case atStart=>exact ⟨0,0,rfl,Nat.zero_le _,by omega,I ⟨World.ownsRow_made _ _ _ (Nat.le_refl _) (Nat.zero_le _) rfl,rfl⟩,I (below1 _ _)⟩
 case round =>
  obtain ⟨k,nk,rfl,hk,hnk,HO,HB⟩:=hrel
  by_cases hlt:k < m
  ·obtain ⟨i,hi⟩:=getElem?_lt (show k < ws.length by rw [←HM.out];exact hlt)
   have hix:=HIX.out i (List.mem_of_getElem? hi)
   obtain ⟨j,rfl⟩:∃j:Nat,i=j:=⟨i.toNat,by omega⟩
   have hjn:j < n:=by omega
   obtain ⟨t,ht⟩:=getElem?_lt (show j < us.length by rw [HL.out.len];exact hjn)
   obtain ⟨wb,wo,hwa,hwb,hwc⟩:=ints_at (HW.out.below HB.out) hi
   obtain ⟨g,hal,hg,⟨-,-,hc2⟩,-,hrt⟩:=ten_own (HL.out.below HB.out) ht
   have hr:=hrt.arg
   have HRD:=I hr.rd;have HNC:=I hrt.nilcap
   have hlen:=HXL.out t (List.mem_of_getElem? ht)
   have HT:=I (show flatT us (ws.take (k+1))=flatT us (ws.take k) ++ t.xs by
    rw [List.take_add_one,hi]
    show flatT us (ws.take k ++ [(j:Int)]) = _
    rw [flatT_snoc]
    congr 1
    unfold tenAtD
    rw [List.getD_eq_getElem?_getD,show ((j:Nat):Int).toNat=j by simp,ht];rfl)
   obtain ⟨q,hq⟩:∃q,q=t.xs.length:=⟨_,rfl⟩
   rw [←hq] at hc2 hlen
   have HQ:=I hq
   have h1:∀u∈t.xs.map (Value.float .f32),u.oneCell'=true:=by intro u hu;obtain ⟨x,_,rfl⟩:=List.mem_map.1 hu;rfl
   have H1:=I h1
   have HOW:=I HO.out.1;have HNK:=I HO.out.2
   have hbs:=HB.out.size
   subst hwa hal
   clear hix hg hrt hr hi ht hq h1 HO
   go_wp2_with (at_builtin;refine wp_cat rfl _ _ 25 rfl w.heap.size i0 (.float .f32 0) 4 Tryz.underlying25 hi0 hz0 hz1 hz2 rfl _ nk _ rfl HOW.out t.ad q t.cap (t.xs.map (Value.float .f32)) rfl HNC.out (by rw [List.length_map,HQ.out]) HRD.out H1.out ?c3 ?c4 ?c5 ?_)
   case c3=>unfold maxLen;omega
   case c4=>omega
   case c5=>exact hbs
   intro v' w9 hown1 hb1 hbs1
   have HOW2:=I hown1;have HB2:=I (HB.out.trans hb1)
   clear hown1 hb1 hwc hc2 HRD HNC
   go_wp2
   refine ⟨?rel,?measure⟩
   case rel=>exact ⟨k+1,nk+q,by go_num,hlt,by omega,I ⟨by rw [HT.out,List.map_append];exact HOW2.out,by rw [HT.out,List.length_append,HNK.out,HQ.out]⟩,HB2⟩
   case measure=>simp [intOf];omega
  ·have e:k=m:=by omega
   subst e
   have e2:ws.take k=ws:=by rw [HM.out];exact List.take_length
   rw [e2] at HO
   go_wp2
   go_ret
   obtain ⟨ad,cap,rfl,hr⟩:=RepF.of_owns HO.out.1 (flatT_okF (fun t ht=>HL.out.ok t ht) ws)
   have e3:=HO.out.2
   subst e3
   exact ⟨ad,cap,rfl,I hr,HB.out⟩

end
end Go.Proofs.YtpadlmidojpbeaaGreat
