/- Joined texts 5. No condition. -/
import Derived.Shelf.Bits.Mul64
import Derived.Laws.CopyOwn
import Derived.Deep.CutRange
import Derived.Deep.DeepCutAuto
import Derived.Deep.QuietTactic
import Derived.BigQuiet
import Derived.Test.YtpadlmidojpbeaaGreatMc0
import Derived.Test.YtpadlmidojpbeaaGreatMc1
import Derived.Test.YtpadlmidojpbeaaGreatMc2
import Derived.Test.YtpadlmidojpbeaaGreatMc3
import Derived.Test.YtpadlmidojpbeaaGreatMc4
set_option linter.unusedVariables false
set_option linter.unusedSimpArgs false
set_option maxRecDepth 100000
set_option maxHeartbeats 64000000
namespace Go.Proofs.YtpadlmidojpbeaaGreat
open Go Go.RowKit
def EN (fr:FuncId) (A1 A2:Array Value) (v1 v2:Value) (G:FuncId) (P:Nat→Prop) (f:FuncId) (args:Array Value) (w1:World) (v:Value) (w2:World):Prop :=
 Below w1.heap.size w1 w2∧(f=fr→(args=A1→v=v1)∧(args=A2→v=v2))∧(f=G→∃y,v=.float .f32 y∧P y∧y < 4294967296)
theorem CR {zs:List Nat} {c i k m:Nat} {P:Nat→Nat→Nat→Prop} {z:Nat} (hl:zs.length=m) (hm:m=i * c+k) (hk:k < c) (h:∀i' k',k' < c→i' * c+k' < m→P i' k' (zs.getD (i' * c+k') 0)) (hz:P i k z):∀i' k',k' < c→i' * c+k' < m+1→P i' k' ((zs ++ [z]).getD (i' * c+k') 0):=by
 intro i' k' hk' hlt
 by_cases e:i' * c+k'=m
 ·have hi:i'=i:=by
   rcases Nat.lt_trichotomy i' i with h1 | h1 | h1
   ·exfalso
    have:(i'+1) * c≤i * c:=Nat.mul_le_mul_right c h1
    rw [Nat.succ_mul] at this;omega
   ·exact h1
   ·exfalso
    have:(i+1) * c≤i' * c:=Nat.mul_le_mul_right c h1
    rw [Nat.succ_mul] at this;omega
  subst hi
  have hkk:k'=k:=by omega
  subst hkk
  rw [e,List.getD_eq_getElem?_getD,List.getElem?_append_right (by omega),hl,Nat.sub_self]
  exact hz
 ·have h1:=h i' k' hk' (by omega)
  rw [List.getD_eq_getElem?_getD,List.getElem?_append_left (by omega),←List.getD_eq_getElem?_getD]
  exact h1
theorem vH (w:World) (r m c:Nat) (a1 a2:Option Addr) (c1 c2 n1 n2:Nat) (xs ys:List Nat) (hx:F32s w a1 c1 xs) (hy:F32s w a2 c2 ys) (hxl:xs.length=n1) (hyl:ys.length=n2) (hr1:1≤r) (hr:r≤16) (hm1:1≤m) (hm:m≤16) (hc1:1≤c) (hc:c≤16) (hn1:n1=r * m) (hn2:n2=m * c)
  (G:Nat) (caps:Array Value) (P:Nat→Nat→Nat→Prop) (hG:∀(args:Array Value) (W:World),(callFunc G args).run Tryz.prog W=.ok (.enter G args) W) (hGr:G≠139)
  (hcl:∀W i k (u v:Option Addr) (cu cv:Nat) (us vs:List Nat),Below w.heap.size w W→i < r→k < c→F32s W u cu us→F32s W v cv vs→us.length=m→vs.length=m→us=(xs.drop (i * m)).take m→vs.map (cn .f32)=bA m (fun t=>(ys.map (cn .f32)).getD (t * c+k) 0) →
    Calls Tryz.prog G (#[.slice u m cu,.slice v m cv] ++ caps) W fun e w' => ∃y,e=.returned (.float .f32 y)∧Hid (P i k y∧y < 4294967296)∧Below W.heap.size W w') :
  Calls Tryz.prog 137 #[.agg #[.int .i64 r,.int .i64 m,.slice a1 n1 c1],.agg #[.int .i64 m,.int .i64 c,.slice a2 n2 c2],.func (.func G) #[] caps] w fun e w' => ∃ad cap zs,e=.returned (.agg #[.int .i64 r,.int .i64 c,.slice ad (r * c) cap])∧Hid (RepF w' w.heap.size w'.heap.size ad (r * c) cap zs)∧Hid (∀i k,i < r→k < c→P i k (zs.getD (i * c+k) 0))∧Below w.heap.size w w':=by
 obtain ⟨i0,hi0,hz0,hzs,hz2⟩:=info_parts bW
 have hb1:n1≤256:=by rw [hn1];exact Nat.mul_le_mul hr hm
 have hb3:r * c≤256:=Nat.mul_le_mul hr hc
 have hp1:1≤n1:=by rw [hn1];exact Nat.mul_le_mul hr1 hm1
 obtain ⟨b1,f1,rfl,hl1,hcx⟩:=hx.spot (k:=0) (by rw [hxl];exact hp1)
 have hcap:=hx.len
 rw [hxl] at hcap
 obtain ⟨n,hn⟩:∃n,n=r * c:=⟨_,rfl⟩
 rw [←hn] at hb3 ⊢
 have HX:=I hx;have HXL:=I hxl;have HN:=I hn;have HN1:=I hn1;have HN2:=I hn2;have HCL:=I hcl;have HYL:=I hyl
 have KT:=I (fun W (hb:Below w.heap.size w W)=>iQ W m c a2 c2 n2 ys (hy.below hb) hyl hm1 hm hc1 hc hn2)
 have KR1:Hid (∀W i,i < r→Calls Tryz.prog 139 #[.agg #[.int .i64 r,.int .i64 m,.slice (some ⟨b1,f1,none⟩) n1 c1],.int .i64 (i:Nat)] W fun e w'=>e=.returned (.slice (some ⟨b1,f1+i * m,none⟩) m (c1 - i * m))∧Below W.heap.size W w'):=I (fun W i hi=>tR W r m _ n1 c1 hn1 hm1 hm hr hcap i hi b1 f1 rfl)
 clear hx hxl hcx hy hn hn1 hcl hyl
 have hn2p:1≤n2:=by rw [hn2];exact Nat.mul_le_mul hm1 hc1
 have hn2q:n2≤256:=by rw [hn2];exact Nat.mul_le_mul hm hc
 clear hn2
 have o1:=(Own.nil w w.heap.size w.heap.size).alloc (J _) (J _) #[.int .i64 r,.int .i64 m,.slice (some ⟨b1,f1,none⟩) n1 c1] 37
 obtain ⟨V1,hV1⟩:∃V,V=w.alloc (.cells #[.int .i64 r,.int .i64 m,.slice (some ⟨b1,f1,none⟩) n1 c1] 37):=⟨_,rfl⟩
 have s1:V1.heap.size=w.heap.size+1:=by rw [hV1];simp
 rw [←hV1] at o1
 have o2:=o1.alloc (by rw [s1];omega) (by rw [s1];exact J _) #[.int .i64 m,.int .i64 c,.slice a2 n2 c2] 37
 obtain ⟨V2,hV2⟩:∃V,V=V1.alloc (.cells #[.int .i64 m,.int .i64 c,.slice a2 n2 c2] 37):=⟨_,rfl⟩
 have s2:V2.heap.size=w.heap.size+1+1:=by rw [hV2];simp [s1]
 rw [s1,←hV2] at o2
 have o3:=o2.alloc (by rw [s2];omega) (by rw [s2];exact J _) #[.int .i64 0,.int .i64 0,.slice none 0 0] 37
 obtain ⟨V3,hV3⟩:∃V,V=V2.alloc (.cells #[.int .i64 0,.int .i64 0,.slice none 0 0] 37):=⟨_,rfl⟩
 have s3:V3.heap.size=w.heap.size+1+1+1:=by rw [hV3];simp [s2]
 rw [s2,←hV3] at o3
 have o4:=o3.alloc (by rw [s3];omega) (by rw [s3];exact J _) #[.int .i64 r,.int .i64 c,.slice none 0 0] 37
 obtain ⟨V4,hV4⟩:∃V,V=V3.alloc (.cells #[.int .i64 r,.int .i64 c,.slice none 0 0] 37):=⟨_,rfl⟩
 have s4:V4.heap.size=w.heap.size+1+1+1+1:=by rw [hV4];simp [s3]
 rw [s3,←hV4] at o4
 have hVB:Below w.heap.size w V4:=by
  rw [hV4,hV3,hV2,hV1]
  exact (dE w _ _ _).alloc (by simp;omega) _
 have HO4:=I o4;have HVB:=I hVB
 have HV4:Hid ((((w.alloc (.cells #[.int .i64 r,.int .i64 m,.slice (some ⟨b1,f1,none⟩) n1 c1] 37)).alloc (.cells #[.int .i64 m,.int .i64 c,.slice a2 n2 c2] 37)).alloc (.cells #[.int .i64 0,.int .i64 0,.slice none 0 0] 37)).alloc (.cells #[.int .i64 r,.int .i64 c,.slice none 0 0] 37)=V4):=I (by rw [hV4,hV3,hV2,hV1])
 have HS4:=I s4
 clear o1 o2 o3 o4 s1 s2 s3 s4 hV1 hV2 hV3 hV4 hVB
 go_enter Tryz.func137,Tryz.ntmps137
 go_wp2_with fail
 rw [HV4.out]
 refine (KT.out _ HVB.out).mono ?_
 rintro e V5 ⟨ta,tc,ts,rfl,HR5,HT5,hb5⟩
 have HB5:=I hb5
 have hlo:=Own.fresh HO4.out (by rw [HS4.out];omega) (by rw [HS4.out];exact J _) hb5 HR5.out.ownRow hb5.size
 have hz5:w.heap.size+1+1+1+1≤V5.heap.size:=by have:=hb5.size;rw [HS4.out] at this;exact this
 have o5:=hlo.alloc (by omega) (J _) #[.int .i64 c,.int .i64 m,.slice ta n2 tc] 37
 have HO5:=I o5
 have hbx:BoxN V5 w.heap.size [.int .i64 r,.int .i64 m,.slice (some ⟨b1,f1,none⟩) n1 c1]:=(HO4.out.box (by simp [dX])).below hb5
 have htl:=HR5.out.len
 obtain ⟨bt,ft,rfl,hbtl,_⟩:=HR5.out.arg.spot (k:=0) (by rw [htl];exact hn2p)
 obtain ⟨rfl,hbtr,_,_⟩:=(hlo.bounds (J _) (J _)).cell (List.mem_append_right _ (List.mem_singleton.2 rfl))
 obtain ⟨ta,hta⟩:∃ta:Option Addr,ta=some ⟨bt,0,none⟩:=⟨_,rfl⟩
 obtain ⟨W6,hW6⟩:∃W,W=V5.alloc (.cells #[.int .i64 c,.int .i64 m,.slice (some ⟨bt,0,none⟩) n2 tc] 37):=⟨_,rfl⟩
 have s6:W6.heap.size=V5.heap.size+1:=by rw [hW6];simp
 rw [←hW6,←s6] at o5
 have hbel6:Below w.heap.size w W6:=by rw [hW6];exact (aA HVB.out hb5).alloc (by omega) _
 have hE:BldE w W6 (w.heap.size+1+1) (w.heap.size+1+1+1) r c none 0 0 [] [dX V5.heap.size [.int .i64 c,.int .i64 m,.slice (some ⟨bt,0,none⟩) n2 tc],dX (w.heap.size+1) [.int .i64 m,.int .i64 c,.slice a2 n2 c2],dX w.heap.size [.int .i64 r,.int .i64 m,.slice (some ⟨b1,f1,none⟩) n1 c1],aK (some ⟨bt,0,none⟩) tc ts]:=by
  refine ⟨(o5.perm (List.Perm.trans (List.Perm.swap _ _ _) (List.Perm.cons _ (List.Perm.swap _ _ _)))).voidRow,rfl,fun x hx=>(nomatch hx),hbel6⟩
 have HE:=I hE;have HW6:=I hW6;have HTL:=I htl
 have HOK:=I HR5.out.okF
 clear o5 hlo hE HO5 htl hta ta s6 hbel6
 have hbtw:w.heap.size≤bt:=by have:=hbtr.1;exact this
 have KR2:Hid (∀W k,k < c→Calls Tryz.prog 139 #[.agg #[.int .i64 c,.int .i64 m,.slice (some ⟨bt,0,none⟩) n2 tc],.int .i64 (k:Nat)] W fun e w'=>e=.returned (.slice (some ⟨bt,0+k * m,none⟩) m (tc - k * m))∧Below W.heap.size W w'):=I (fun W k hk=>tR W c m _ n2 tc (by rw [HN2.out,Nat.mul_comm]) hm1 hm hc (by have:=HR5.out.arg.len;rw [HTL.out] at this;exact this) k hk bt 0 rfl)
 have htcap:n2≤tc:=by have:=HR5.out.arg.len;rw [HTL.out] at this;exact this
 obtain ⟨bl,x0,x1,x2,xf⟩:=hbx.three
 clear hbx
 go_wp2
 rw [←HW6.out]
 clear HW6 bl x0 x1 x2 xf
 go_loopw [20,9,10,24,25] (fun i _ _ _ _ wt => ∃k:Nat,i=.int .i64 k∧k≤r∧∃q va vc zs,Hid (q=k * c∧BldE w wt (w.heap.size+1+1) (w.heap.size+1+1+1) r c va q vc zs [dX V5.heap.size [.int .i64 c,.int .i64 m,.slice (some ⟨bt,0,none⟩) n2 tc],dX (w.heap.size+1) [.int .i64 m,.int .i64 c,.slice a2 n2 c2],dX w.heap.size [.int .i64 r,.int .i64 m,.slice (some ⟨b1,f1,none⟩) n1 c1],aK (some ⟨bt,0,none⟩) tc ts])∧Hid (∀i' k',k' < c→i' * c+k' < q→P i' k' (zs.getD (i' * c+k') 0))) (fun i _ _ _ _ _=>r - (intOf i).toNat)
 case atStart=>exact ⟨0,rfl,Nat.zero_le _,0,_,_,[],I ⟨by simp,HE.out⟩,I (fun _ _ _ h=>absurd h (by omega))⟩
 case round =>
  clear HE
  obtain ⟨i,rfl,hi,q,va,vc,zs,HB,HZ⟩:=hrel
  obtain ⟨wo,rfl⟩:∃wo:World,wo=wr:=⟨_,rfl⟩
  by_cases hli:i < r
  ·obtain ⟨bl,x0,x1,x2,xf⟩:=(HB.out.2.own.box (tV (List.mem_cons_of_mem _ (List.mem_cons_self ..)))).three
   go_wp2
   go_loopw [25,10] (fun u _ wt => ∃k:Nat,u=.int .i64 k∧k≤c∧∃d va vc zs,Hid (d=i * c+k∧BldE w wt (w.heap.size+1+1) (w.heap.size+1+1+1) r c va d vc zs [dX V5.heap.size [.int .i64 c,.int .i64 m,.slice (some ⟨bt,0,none⟩) n2 tc],dX (w.heap.size+1) [.int .i64 m,.int .i64 c,.slice a2 n2 c2],dX w.heap.size [.int .i64 r,.int .i64 m,.slice (some ⟨b1,f1,none⟩) n1 c1],aK (some ⟨bt,0,none⟩) tc ts])∧Hid (∀i' k',k' < c→i' * c+k' < d→P i' k' (zs.getD (i' * c+k') 0))) (fun u _ _=>c - (intOf u).toNat)
   case atStart=>exact ⟨0,rfl,Nat.zero_le _,q,va,vc,zs,I ⟨by rw [HB.out.1];rfl,HB.out.2⟩,HZ⟩
   case round =>
    clear HB HZ bl x0 x1 x2 xf
    obtain ⟨k,rfl,hk,d,va,vc,zs,HB,HZ⟩:=hrel
    by_cases hlt:k < c
    ·have hdn:d < n:=by
      rw [HB.out.1,HN.out]
      have:(i+1) * c≤r * c:=Nat.mul_le_mul_right c hli
      rw [Nat.succ_mul] at this;omega
     have hs1c:i * m+m≤n1:=by
      rw [HN1.out]
      have:(i+1) * m≤r * m:=Nat.mul_le_mul_right m hli
      rw [Nat.succ_mul] at this;exact this
     have hs2c:k * m+m≤n2:=by
      rw [HN2.out,Nat.mul_comm m c]
      have:(k+1) * m≤c * m:=Nat.mul_le_mul_right m hlt
      rw [Nat.succ_mul] at this;exact this
     have K1:=I (fun W=>KR1.out W i hli)
     have K2:=I (fun W=>KR2.out W k hlt)
     have KG:Hid (∀W,Below w.heap.size w W→F32s W (some ⟨bt,0,none⟩) tc ts→Calls Tryz.prog G (#[.slice (some ⟨b1,f1+i * m,none⟩) m (c1 - i * m),.slice (some ⟨bt,0+k * m,none⟩) m (tc - k * m)] ++ caps) W fun e w' => ∃y,e=.returned (.float .f32 y)∧Hid (P i k y∧y < 4294967296)∧Below W.heap.size W w'):=I (fun W hb ht=>by
      have h1:=(HX.out.below hb).cut3 (i * m+m) (by rw [HXL.out];exact hs1c)
      have h2:=(h1.1.cut3 (i * m) (by rw [List.length_take,HXL.out];omega)).2
      have h3:=ht.cut3 (k * m+m) (by rw [HTL.out];exact hs2c)
      have h4:=(h3.1.cut3 (k * m) (by rw [List.length_take,HTL.out];omega)).2
      have e1:(xs.take (i * m+m)).drop (i * m)=(xs.drop (i * m)).take m:=by rw [List.drop_take];congr 1;omega
      have e2:(ts.take (k * m+m)).drop (k * m)=(ts.drop (k * m)).take m:=by rw [List.drop_take];congr 1;omega
      rw [e1] at h2
      rw [e2] at h4
      refine HCL.out W i k _ _ _ _ _ _ hb hli hlt h2 h4 (by rw [List.length_take,List.length_drop,HXL.out];omega) (by rw [List.length_take,List.length_drop,HTL.out];omega) rfl ?_
      rw [List.map_take,List.map_drop,HT5.out]
      refine List.ext_getElem ?_ fun j g1 g2=>?_
      ·rw [List.length_take,List.length_drop,iE,aJ,aJ];omega
      ·rw [aJ] at g2
       have e3:∀(l:List Nat) (j:Nat) (h:j < l.length),l[j]=l.getD j 0:=fun l j h=>by rw [List.getD_eq_getElem?_getD,List.getElem?_eq_getElem h];rfl
       rw [List.getElem_take,List.getElem_drop,e3,e3,iE,gC _ (by omega),gC _ g2,yD _ g2])
     obtain ⟨s1,hs1⟩:∃s,s=i * m:=⟨_,rfl⟩
     obtain ⟨s2,hs2⟩:∃s,s=0+k * m:=⟨_,rfl⟩
     rw [←hs1] at K1 KG
     rw [←hs2] at K2 KG
     obtain ⟨t1,ht1⟩:∃s,s=tc - k * m:=⟨_,rfl⟩
     rw [←ht1] at K2 KG
     obtain ⟨t2,ht2⟩:∃s,s=c1 - s1:=⟨_,rfl⟩
     rw [←ht2] at K1 KG
     have HMS:Hid (d+1=i * c+(k+1)):=I (by rw [HB.out.1];rfl)
     have KS:Hid (∀W,BoxN W w.heap.size [.int .i64 r,.int .i64 m,.slice (some ⟨b1,f1,none⟩) n1 c1]→BoxN W V5.heap.size [.int .i64 c,.int .i64 m,.slice (some ⟨bt,0,none⟩) n2 tc]→BoxN W (w.heap.size+1+1+1) [.int .i64 r,.int .i64 c,.slice va d vc]→(W.cell? ⟨w.heap.size,0,none⟩=some (.int .i64 r)∧W.cell? ⟨w.heap.size,1,none⟩=some (.int .i64 m)∧W.cell? ⟨w.heap.size,2,none⟩=some (.slice (some ⟨b1,f1,none⟩) n1 c1))∧(W.cell? ⟨V5.heap.size,0,none⟩=some (.int .i64 c)∧W.cell? ⟨V5.heap.size,1,none⟩=some (.int .i64 m)∧W.cell? ⟨V5.heap.size,2,none⟩=some (.slice (some ⟨bt,0,none⟩) n2 tc))∧W.cell? ⟨w.heap.size+1+1+1,2,none⟩=some (.slice va d vc)):=I (fun W h1 h2 h3=>⟨⟨h1.three.2.1,h1.three.2.2.1,h1.three.2.2.2.1⟩,⟨h2.three.2.1,h2.three.2.2.1,h2.three.2.2.2.1⟩,h3.three.2.2.2.1⟩)
     have KB:Hid (∀W,BldE w W (w.heap.size+1+1) (w.heap.size+1+1+1) r c va d vc zs [dX V5.heap.size [.int .i64 c,.int .i64 m,.slice (some ⟨bt,0,none⟩) n2 tc],dX (w.heap.size+1) [.int .i64 m,.int .i64 c,.slice a2 n2 c2],dX w.heap.size [.int .i64 r,.int .i64 m,.slice (some ⟨b1,f1,none⟩) n1 c1],aK (some ⟨bt,0,none⟩) tc ts]→((W.cell? ⟨w.heap.size,0,none⟩=some (.int .i64 r)∧W.cell? ⟨w.heap.size,1,none⟩=some (.int .i64 m)∧W.cell? ⟨w.heap.size,2,none⟩=some (.slice (some ⟨b1,f1,none⟩) n1 c1))∧(W.cell? ⟨V5.heap.size,0,none⟩=some (.int .i64 c)∧W.cell? ⟨V5.heap.size,1,none⟩=some (.int .i64 m)∧W.cell? ⟨V5.heap.size,2,none⟩=some (.slice (some ⟨bt,0,none⟩) n2 tc))∧W.cell? ⟨w.heap.size+1+1+1,2,none⟩=some (.slice va d vc))∧F32s W (some ⟨bt,0,none⟩) tc ts):=I (fun W h=>⟨KS.out W (h.own.box (tV (by simp))) (h.own.box (tV (by simp))) h.out,by
      have h9:=(h.own.repF (ad:=some ⟨bt,0,none⟩) (cap:=tc) (xs:=ts) (tV (by simp)) HOK.out).arg
      exact h9⟩)
     have HNE:Hid ((#[.agg #[.int .i64 r,.int .i64 m,.slice (some ⟨b1,f1,none⟩) n1 c1],.int .i64 (i:Nat)]:Array Value)≠#[.agg #[.int .i64 c,.int .i64 m,.slice (some ⟨bt,0,none⟩) n2 tc],.int .i64 (k:Nat)]):=I (by
      intro h
      simp only [Array.mk.injEq,List.cons.injEq,Value.agg.injEq,Value.slice.injEq,Option.some.injEq,Addr.mk.injEq] at h
      omega)
     have HS:=I (KB.out wr HB.out.2)
     clear hs1 hs2 ht1 ht2 hs1c hs2c
     go_upto_region 9 with fail
     refine aL 13 [5,8,9,10,11] (fun W=>(W.cell? ⟨w.heap.size,0,none⟩=some (.int .i64 r)∧W.cell? ⟨w.heap.size,1,none⟩=some (.int .i64 m)∧W.cell? ⟨w.heap.size,2,none⟩=some (.slice (some ⟨b1,f1,none⟩) n1 c1))∧(W.cell? ⟨V5.heap.size,0,none⟩=some (.int .i64 c)∧W.cell? ⟨V5.heap.size,1,none⟩=some (.int .i64 m)∧W.cell? ⟨V5.heap.size,2,none⟩=some (.slice (some ⟨bt,0,none⟩) n2 tc))∧W.cell? ⟨w.heap.size+1+1+1,2,none⟩=some (.slice va d vc)) (fun _ _ _=>False) (EN 139 #[.agg #[.int .i64 r,.int .i64 m,.slice (some ⟨b1,f1,none⟩) n1 c1],.int .i64 (i:Nat)] #[.agg #[.int .i64 c,.int .i64 m,.slice (some ⟨bt,0,none⟩) n2 tc],.int .i64 (k:Nat)] (.slice (some ⟨b1,f1+s1,none⟩) m t2) (.slice (some ⟨bt,s2,none⟩) m t1) G (P i k)) (by kernel_rfl) (by kernel_rfl) HS.out.1 (fun W q h=>by simpa using h) ?_
     iterate 5 (refine aD (by rfl) HS.out.1 (fun K hK W hW=>?_);obtain ⟨⟨e1,e2,e3⟩,⟨e4,e5,e6⟩,e7⟩:=hW;go_simp;refine hK _ ?_;clear hK K e1 e2 e3 e4 e5 e6 e7)
     refine aF (by rfl) HS.out.1 (fun K hK q1=>?_)
     go_simp
     refine ⟨(K1.out _).mono ?_,?_⟩
     ·rintro e w1 ⟨rfl,hb⟩
      exact ⟨_,rfl,hb,fun _=>⟨fun _=>rfl,fun h=>absurd h HNE.out⟩,fun h=>absurd h.symm hGr⟩
     rintro v w2 ⟨hb2,hv,-⟩
     obtain rfl:=(hv rfl).1 rfl
     have hB2:=HB.out.2.move (aA (below_drewN (O wr.heap.size wr) q1) hb2)
     have HS2:=I (KB.out w2 hB2);have HB2:=I hB2
     refine ⟨HS2.out.1,hK _ _ ?_⟩
     clear hK K hb2 hB2 hv HS
     iterate 2 (refine aD (by rfl) HS2.out.1 (fun K hK W hW=>?_);obtain ⟨⟨e1,e2,e3⟩,⟨e4,e5,e6⟩,e7⟩:=hW;go_simp;refine hK _ ?_;clear hK K e1 e2 e3 e4 e5 e6 e7)
     refine aF (by rfl) HS2.out.1 (fun K hK q1=>?_)
     go_simp
     refine ⟨(K2.out _).mono ?_,?_⟩
     ·rintro e w1 ⟨rfl,hb⟩
      exact ⟨_,rfl,hb,fun _=>⟨fun h=>absurd h.symm HNE.out,fun _=>rfl⟩,fun h=>absurd h.symm hGr⟩
     rintro v w3 ⟨hb2,hv,-⟩
     obtain rfl:=(hv rfl).2 rfl
     have hB3:=HB2.out.move (aA (below_drewN (O w2.heap.size w2) q1) hb2)
     have HS3:=I (KB.out w3 hB3);have HB3:=I hB3
     refine ⟨HS3.out.1,hK _ _ ?_⟩
     clear hK K hb2 hB3 hv HS2 HB2
     refine aF (by rfl) HS3.out.1 (fun K hK q1=>?_)
     go_simp
     refine ⟨(KG.out _ (below_drewN HB3.out.below q1) (HS3.out.2.below (below_drewN (O _ _) q1))).mono ?_,?_⟩
     ·rintro e w1 ⟨y,rfl,hy,hb⟩
      exact ⟨_,rfl,hb,fun h=>absurd h hGr,fun _=>⟨y,rfl,hy.out.1,hy.out.2⟩⟩
     rintro v w4 ⟨hb2,-,hv⟩
     obtain ⟨y,rfl,hpy,hyl⟩:=hv rfl
     have HPY:=I hpy;have HYB:=I hyl
     have hB4:=HB3.out.move (aA (below_drewN (O w3.heap.size w3) q1) hb2)
     have HS4:=I (KB.out w4 hB4);have HB4:=I hB4
     refine ⟨HS4.out.1,hK _ _ ?_⟩
     clear hK K hb2 hB4 hv HS3 HB3 hpy hyl
     refine aF (by rfl) HS4.out.1 (fun K hK q=>?_)
     have hbq:=below_drewN (O w4.heap.size w4) q
     go_simp
     have hbA:Below w4.heap.size w4 ((w4.drewN q).alloc (.cells #[.float .f32 y] 28)):=hbq.alloc (by simp) _
     have hBA:=HB4.out.move hbA
     have HSA:=I (KB.out _ hBA)
     have HBA:=I hbA
     refine ⟨HSA.out.1,hK _ _ ?_⟩
     clear hK K hbq hbA hBA
     refine aF (by rfl) HSA.out.1 (fun K hK q2=>?_)
     refine bP rfl _ _ 25 rfl w.heap.size 28 i0 _ 1 4 Tryz.underlying25 hi0 hz0 hzs hz2 rfl (by decide) (.slice va d vc) d (zs.map (Value.float .f32)) rfl (HB4.out.move (below_drewN HBA.out q2)).row ⟨w4.heap.size,0,none⟩ 1 1 [.float .f32 y] rfl rfl (World.news_of_block (cs:=#[.float .f32 y]) (t:=28) (fr:=(0,0)) (heap_alloc_new (w4.drewN q) _)) (by simp [Value.oneCell']) (by unfold maxLen;omega) (by omega) (Nat.le_trans HB4.out.below.size (Nat.le_trans HBA.out.size (J _))) ?_
     intro v' w9 ho9 hg9 hat9 hb9
     obtain ⟨va',vc',rfl,hown9,hbel9,hnew⟩:=HB4.out.push (W:=(w4.drewN q).drewN q2) HYB.out (below_drewN (below_drewN (O _ _) q) q2) ho9 hg9 (by simpa using hat9)
     have HPU:=I (CR HB.out.2.len HB.out.1 hlt HZ.out HPY.out)
     have HS9:=I (KS.out w9 (hown9.box (tV (by simp))) (hown9.box (tV (by simp))) (hown9.box (List.mem_cons_of_mem _ (List.mem_cons_self ..))))
     have HO9:=I (hown9.box (g:=w.heap.size+1+1+1) (List.mem_cons_of_mem _ (List.mem_cons_self ..)));have HN9:=I hnew
     refine ⟨HS9.out,hK _ _ ?_⟩
     clear hK K ho9 hg9 hat9 hb9 hbel9 hnew hown9 HSA HBA HS4
     refine aD (by rfl) HS9.out (fun K hK W hW=>?_)
     go_simp
     refine hK _ ?_
     clear hK K hW
     refine aP (fun q3=>?_)
     have HO:=I (HO9.out.below (below_drewN (O _ _) q3))
     obtain ⟨ol,y0,y1,y2,yf⟩:=HO.out.three
     have HNN:=I (And.intro HMS.out (HN9.out.move (below_drewN (O _ _) q3)))
     clear HN9 HS9 HO9 HO HB HB4 HZ KS KB y0 y1 K1 K2 KG
     go_wp2
     go_roundw
     case rel=>exact ⟨k+1,by go_num,hlt,_,_,_,_,HNN,HPU⟩
     case measure=>simp [intOf];omega
    ·have hkn:k=c:=by omega
     subst hkn
     have HBN:Hid (d=(i+1) * k∧_):=I ⟨by rw [HB.out.1,Nat.succ_mul],HB.out.2⟩
     go_wp2
     go_roundw
     case rel=>exact ⟨i+1,by go_num,hli,d,va,vc,zs,HBN,HZ⟩
     case measure=>simp [intOf];omega
  ·have hin:i=r:=by omega
   subst hin
   have hq:q=n:=by rw [HB.out.1,HN.out]
   subst hq
   obtain ⟨ol,t0,t1,t2,tf⟩:=HB.out.2.out.three
   obtain ⟨rl,u0,u1,u2,uf⟩:=HB.out.2.res.three
   have HFIN:=I HB.out.2.fin
   have HZF:Hid (∀i' k,i' < i→k < c→P i' k (zs.getD (i' * c+k) 0)):=I (fun i' k h1 h2=>HZ.out i' k h2 (by
    rw [HB.out.1]
    have:(i'+1) * c≤i * c:=Nat.mul_le_mul_right c h1
    rw [Nat.succ_mul] at this;omega))
   go_wp2
   try simp only [Exit.inBlock,Exit.then]
   refine bodyPost_ret (v:=.agg #[.int .i64 i,.int .i64 c,.slice va q vc]) (by simp [results,Tryz.results137,go_sem,u0,u1,u2]) rfl ⟨va,vc,zs,rfl,I HFIN.out.1,HZF,HFIN.out.2⟩
theorem Es {xs vs:List Nat} {Y:List Nat} {m c i k:Nat} (hx:(i+1) * m≤xs.length) (hv:vs.map (cn .f32)=bA m fun t=>Y.getD (t * c+k) 0):∀t,t≤m→Ds (((xs.drop (i * m)).take m).map (cn .f32)) (vs.map (cn .f32)) t=pL (xs.map (cn .f32)) Y m c i k t:=by
 intro t
 induction t with
 | zero=>intro _;rfl
 | succ t ih =>
  intro ht
  show dQ .add .f32 _ _ = dQ .add .f32 _ _
  rw [ih (by omega),hv,gC _ (by omega)]
  congr 2
  rw [List.map_take,List.map_drop,List.getD_eq_getElem?_getD,List.getElem?_take,if_pos (by omega),List.getElem?_drop,←List.getD_eq_getElem?_getD]
theorem rN (w:World) (r m c:Nat) (a1 a2:Option Addr) (c1 c2 n1 n2:Nat) (xs ys:List Nat) (hx:F32s w a1 c1 xs) (hy:F32s w a2 c2 ys) (hxl:xs.length=n1) (hyl:ys.length=n2) (hr1:1≤r) (hr:r≤16) (hm1:1≤m) (hm:m≤16) (hc1:1≤c) (hc:c≤16) (hn1:n1=r * m) (hn2:n2=m * c) :
  Calls Tryz.prog 121 #[.agg #[.int .i64 r,.int .i64 m,.slice a1 n1 c1],.agg #[.int .i64 m,.int .i64 c,.slice a2 n2 c2]] w (bN r c (r * c) (mR (xs.map (cn .f32)) (ys.map (cn .f32)) m c (r * c)) w):=by
 have K:=I (fun W (hb:Below w.heap.size w W)=>vH W r m c a1 a2 c1 c2 n1 n2 xs ys (hx.below hb) (hy.below hb) hxl hyl hr1 hr hm1 hm hc1 hc hn1 hn2 138 #[] (fun i k y=>cn .f32 y=pL (xs.map (cn .f32)) (ys.map (cn .f32)) m c i k m) (fun args W=>by kernel_rfl) (by decide) (fun W' i k u v cu cv us vs hb' hi hk hu hv hul hvl hus hvs=>by
  have h1:=Cz W' u cu us hu v cv vs hv (by rw [hul,hvl])
  rw [hul,hvl] at h1
  refine h1.mono ?_
  rintro e w' ⟨y,he,hyy,hd⟩
  refine ⟨y,he,I ⟨?_,hyy.out.2⟩,hd.below⟩
  rw [hyy.out.1,hus]
  exact Es (by rw [hxl,hn1];exact Nat.mul_le_mul_right m hi) hvs m (J _)))
 have HFIN:Hid (∀zs:List Nat,zs.length=r * c→(∀i k,i < r→k < c→cn .f32 (zs.getD (i * c+k) 0)=pL (xs.map (cn .f32)) (ys.map (cn .f32)) m c i k m)→zs.map (cn .f32)=mR (xs.map (cn .f32)) (ys.map (cn .f32)) m c (r * c)):=I (fun zs hl h=>by
  refine List.ext_getElem (by rw [List.length_map,mR,aJ,hl]) fun j h1 h2=>?_
  rw [List.length_map] at h1
  have e3:∀(l:List Nat) (j:Nat) (h:j < l.length),l[j]=l.getD j 0:=fun l j h=>by rw [List.getD_eq_getElem?_getD,List.getElem?_eq_getElem h];rfl
  have hj:j < r * c:=by rw [←hl];exact h1
  rw [List.getElem_map,e3 zs j h1,e3 _ j h2,mR,gC _ hj]
  have h4:=h (j / c) (j % c) (Nat.div_lt_of_lt_mul (by rw [Nat.mul_comm];exact hj)) (Nat.mod_lt _ hc1)
  rw [Nat.mul_comm,Nat.div_add_mod] at h4
  exact h4)
 have RB0:=I (BoxN.alloc3 w (.cells #[.int .i64 r,.int .i64 m,.slice a1 n1 c1] 37) (.cells #[.int .i64 m,.int .i64 c,.slice a2 n2 c2] 37) #[.int .i64 0,.int .i64 0,.slice none 0 0] 37)
 have B:=I (dE w (.cells #[.int .i64 r,.int .i64 m,.slice a1 n1 c1] 37) (.cells #[.int .i64 m,.int .i64 c,.slice a2 n2 c2] 37) (.cells #[.int .i64 0,.int .i64 0,.slice none 0 0] 37))
 obtain ⟨n,hn⟩:∃n,n=r * c:=⟨_,rfl⟩
 rw [←hn] at K HFIN ⊢
 clear hx hy hxl hyl hn1 hn2 hn
 go_enter Tryz.func121,Tryz.ntmps121
 go_wp2_with fail
 refine (K.out _ B.out).mono ?_
 rintro e w' ⟨va,vc,zs,rfl,RO,RM,hb⟩
 obtain ⟨rl,r0,r1,r2,rf⟩:=(RB0.out.below hb).three
 have hbw:=aA B.out hb
 have hz:=hb.size
 simp at hz
 have hfin:=bF (g:=w.heap.size+2) (lo':=w.heap.size) (i:=0) RO.out (by simp) (by simp;omega) (J _) [.int .i64 r,.int .i64 c,.slice va n vc]
 have hbf:=aG hbw (g:=w.heap.size+2) (by omega) 0 [.int .i64 r,.int .i64 c,.slice va n vc]
 have HF:=I hfin;have HBF:=I hbf
 clear hfin hbf hbw hb
 go_wp2
 try simp only [Exit.inBlock,Exit.then]
 refine bodyPost_ret (v:=.agg #[.int .i64 r,.int .i64 c,.slice va n vc]) (by simp [results,Tryz.results121,go_sem,r0,r1,r2]) rfl (dW rfl HF (HFIN.out _ HF.out.len RM.out) HBF.out)
theorem AF (p:Nat) (hp:p≤256) (w:World):Calls Tryz.prog 144 #[.int .u64 1,.int .u64 (p:Int)] w fun e w'=>e=.returned (.tuple #[.int .u64 0,.int .u64 (p:Int)])∧w=w':=by
 have m1:bits .and .u64 1 4294967295=1:=by decide +kernel
 have m0:bits .and .u64 0 4294967295=0:=by decide +kernel
 have mp:bits .and .u64 (p:Int) 4294967295=p:=by
  have h:=Mul64.maskN p (by omega)
  rw [h];omega
 have wp:IntKind.u64.wrap (p:Int)=p:=Mul64.wrapN p (by omega)
 have w0:IntKind.u64.wrap 0=0:=by decide +kernel
 have dp:(p:Int) / 4294967296=0:=by omega
 go_enter Tryz.func144,Tryz.ntmps144
 go_wp2
 go_ret2
 exact ⟨by congr 3,rfl⟩
theorem CS (p:Nat) (hp:p≤256) (w:World):Calls Tryz.prog 142 #[.int .u64 1,.int .u64 (p:Int)] w fun e w'=>e=.returned (.tuple #[.int .u64 0,.int .u64 (p:Int)])∧w=w':=by
 go_enter Tryz.func142,Tryz.ntmps142
 go_wp2_with fail
 refine (AF p hp _).mono ?_
 rintro e w1 ⟨rfl,rfl⟩
 go_wp2
 go_ret2
 exact ⟨rfl,rfl⟩
theorem yE {P:Program} {ops:Array Oper} {D:FuncId→Array Value→World→Value→World→Prop} {o:Oper} {a:Act} {w:World} {K:Value→World→Prop} {E:Prop} (hgd:o.guard=none) (d s:Operand) (dT sT:TypeId)
  (ho:o.op=.call { callee:=.builtin .copy,args:=#[d,s],argTypes:=#[dT,sT] }) (elem:TypeId) (hu:P.underlying dT=some (.slice elem)) (hsz:(P.info? elem).map (·.size)=some 1)
  (g off dLen dCap:Nat) (ad:Addr) (sLen sCap:Nat) (hd:a.eval d=.slice (some ⟨g,off,none⟩) dLen dCap) (hs:a.eval s=.slice (some ad) sLen sCap)
  (cur:List Value) (t:TypeId) (hg:w.heap[g]? = some (.cells cur.toArray t (0,0))) (cs:List Value) (hn:cs.length=Nat.min sLen dLen)
  (hsrc:∀j v,cs[j]? = some v→w.cell? (ad.add j)=some v) (hfit:off+cs.length≤cur.length) (h1:∀v∈cs,v.oneCell'=true) (B:Nat) (w0:World) (hb:Below B w0 w) (hBg:B≤g)
  (h:∀w',w'.heap[g]? = some (.cells (splice cur off cs).toArray t (0,0))→Below B w0 w'→K (goInt cs.length) w') :
  if Region.wanted o (yielded ops a.tmps)=true then SpecRes P D K ((execOp a.eval o).run P w) else E:=by
 have hw:Region.wanted o (yielded ops a.tmps)=true:=by simp [Region.wanted,hgd]
 rw [if_pos hw]
 have hrun:=run_copy_row (P:=P) w dT sT o.type elem g off dLen dCap ad sLen sCap cur.toArray t cs hu hsz hg hn hsrc (by simpa using hfit) h1
 unfold execOp
 simp only [ho,resolve,invoke,builtin,Sem.run_bind,Sem.run_pure,Result.andThen_ok,List.map_toArray,List.map_cons,List.map_nil,hd,hs,hrun]
 exact h _ (show _ = _ by simpa [splice] using setRow_heap w g _ _ t _ hg) (below_setRow hb hBg _)
def RepY (w:World) (g p n y:Nat):Prop:=∃cur:List Value,w.heap[g]? = some (.cells cur.toArray 28 (0,0))∧cur.length=p∧∀j,j < n→cur[j]? = some (.float .f32 y)
theorem RepY.below {w w':World} {g p n y:Nat} (h:RepY w g p n y) (hb:Below w.heap.size w w'):RepY w' g p n y:=by
 obtain ⟨cur,h1,h2,h3⟩:=h
 have hl:g < w.heap.size:=by
  rcases Nat.lt_or_ge g w.heap.size with h | h
  ·exact h
  ·rw [Array.getElem?_eq_none h] at h1;cases h1
 exact ⟨cur,by rw [hb.block g hl];exact h1,h2,h3⟩
theorem tW {L cs:List Value} {off:Nat} {v:Value} (h1:∀j,j < off→L[j]? = some v) (h2:∀u∈cs,u=v) (hf:off+cs.length≤L.length):∀j,j < off+cs.length→(splice L off cs)[j]? = some v:=by
 intro j hj
 unfold splice
 by_cases h:j < off
 ·rw [List.getElem?_append_left (by rw [List.length_take];omega),List.getElem?_take,if_pos h]
  exact h1 j h
 ·rw [List.getElem?_append_right (by rw [List.length_take];omega),List.length_take,List.getElem?_append_left (by omega)]
  have h3:j - min off L.length < cs.length:=by omega
  rw [List.getElem?_eq_getElem h3,h2 _ (List.getElem_mem h3)]
theorem RepY.fin {w w':World} {g p y:Nat} (h:RepY w' g p p y) (hg:w.heap.size≤g) (hp:p≤256) (hy:y < 4294967296):RepF w' w.heap.size w'.heap.size (some ⟨g,0,none⟩) p p (List.replicate p y):=by
 obtain ⟨cur,h1,h2,h3⟩:=h
 have hc:cur=(List.replicate p y).map (Value.float .f32):=by
  refine List.ext_getElem? fun j=>?_
  by_cases hj:j < p
  ·rw [h3 j hj];simp [hj]
  ·rw [List.getElem?_eq_none (by omega)];simp [hj]
 have ho:w'.ownsRow w.heap.size 28 1 (.slice (some ⟨g,0,none⟩) p p) p ((List.replicate p y).map (Value.float .f32)) :=
  ⟨by simp,.inr ⟨g,p,cur.toArray,rfl,hg,h1,J _,by unfold maxLen;omega,by simp [h2],by rw [hc];simp⟩⟩
 obtain ⟨a,c,e,hr⟩:=RepF.of_owns (xs:=List.replicate p y) ho (fun x hx=>by rw [List.eq_of_mem_replicate hx];exact hy)
 cases e
 exact hr
theorem vI (w:World) (b o:Nat) (y:Nat) (cap:Nat) (p:Nat) (hp1:1≤p) (hp:p≤256) (hy:w.cell? ⟨b,o,none⟩=some (.float .f32 y)) (hyl:y < 4294967296) :
  Calls Tryz.prog 127 #[.slice (some ⟨b,o,none⟩) 1 cap,.int .i64 (p:Int)] w fun e w' => ∃ad' cap',e=.returned (.slice ad' p cap')∧Hid (RepF w' w.heap.size w'.heap.size ad' p cap' (List.replicate p y))∧Below w.heap.size w w':=by
 obtain ⟨i0,hi0,hz0,hzs,hz2⟩:=info_parts bW
 have hsz1:(Tryz.prog.info? 28).map (·.size)=some 1:=by rw [hi0];simp [hzs]
 have HZ1:=I hsz1
 clear hsz1
 have wp:IntKind.u64.wrap (p:Int)=p:=Mul64.wrapN p (by omega)
 have wq:IntKind.i64.wrap (p:Int)=p:=eL (by omega)
 have c1:decide ((9223372036854775807:Int) < (p:Int))=false:=decide_eq_false (by omega)
 have hbl:=World.block_lt_of_cell? w _ hy
 simp only at hbl
 have HYC:=I hy
 clear hy
 go_enter Tryz.func127,Tryz.ntmps127
 go_wp2_with fail
 refine (CS p hp _).mono ?_
 rintro e w1 ⟨rfl,rfl⟩
 go_wp2_with (at_make;refine wpList_make_full _ rfl _ _ 25 rfl w.heap.size 28 i0 (.float .f32 0) 1 Tryz.underlying25 hi0 hz0 hzs .i64 .i64 _ _ p rfl rfl rfl rfl ?c1 ?c2 ?c3 ?_)
 case c1=>rw [hz2];omega
 case c2=>unfold maxLen;omega
 case c3=>exact J _
 intro w1 hown hg
 have hb1:Below w.heap.size w w1:=(O _ _).grown hg (J _) (fun k e=>by cases e)
 obtain ⟨cur,hcur,hcl⟩:∃cur:List Value,w1.heap[w.heap.size]? = some (.cells cur.toArray 28 (0,0))∧cur.length=p:=by
  rcases hown.2 with ⟨h,_⟩ | ⟨g',cap',cur,hv,_,hh,_,_,hs,_⟩
  ·cases h
  ·cases hv
   exact ⟨cur.toList,by simpa using hh,by simpa using hs⟩
 have hyc:w1.cell? ⟨b,o,none⟩=some (.float .f32 y):=(hb1.cell (p:=⟨b,o,none⟩) hbl).trans HYC.out
 obtain ⟨cs,hcs⟩:∃cs,cs=[Value.float .f32 y]:=⟨_,rfl⟩
 have hcs1:cs.length=1:=by rw [hcs];rfl
 have hmin:cs.length=Nat.min 1 p:=by rw [hcs1];show 1=min 1 p;omega
 have hsrc:∀j v,cs[j]? = some v→w1.cell? ((⟨b,o,none⟩:Addr).add j)=some v:=by
  intro j v hj
  rw [hcs] at hj
  cases j with
  | zero=>simp at hj;subst hj;rw [Addr.add_lit];exact hyc
  | succ j=>simp at hj
 have hone:∀v∈cs,v.oneCell'=true:=by intro v hv;rw [hcs] at hv;simp at hv;subst hv;rfl
 have HCUR:=I (And.intro hcur (And.intro hcl (And.intro hcs (And.intro hmin (And.intro hsrc (And.intro hone hcs1))))))
 have HB1:=I hb1
 clear hb1 hcur hcl hyc hcs hcs1 hmin hsrc hone hown hg
 go_wp2_with (with_reducible refine wpList_copy_splice rfl _ _ 25 25 rfl 28 rfl HZ1.out (some ⟨w.heap.size,0,none⟩) (some ⟨b,o,none⟩) p p 1 cap rfl rfl w.heap.size 0 cur 28 HCUR.out.1 cs HCUR.out.2.2.2.1 (fun _=>⟨rfl,_,rfl,HCUR.out.2.2.2.2.1⟩) (by rw [HCUR.out.2.2.2.2.2.2,HCUR.out.2.1];omega) HCUR.out.2.2.2.2.2.1 w.heap.size w HB1.out (J _) ?_)
 intro w2 hg2 hb2
 have HY2:Hid (RepY w2 w.heap.size p 1 y):=I ⟨_,hg2.out,by rw [length_splice _ _ _ (by rw [HCUR.out.2.2.2.2.2.2,HCUR.out.2.1];omega)];exact HCUR.out.2.1,fun j hj=>by
  have h:=tW (L:=cur) (cs:=cs) (off:=0) (v:=.float .f32 y) (fun j hj=>by omega) (fun u hu=>by rw [HCUR.out.2.2.1] at hu;simpa using hu) (by rw [HCUR.out.2.2.2.2.2.2,HCUR.out.2.1];omega)
  exact h j (by rw [HCUR.out.2.2.2.2.2.2];omega)⟩
 have HB2:=I hb2
 have hcs1:=HCUR.out.2.2.2.2.2.2
 clear hg2 hb2 HB1 HCUR
 go_wp2
 go_loopw [8] (fun i wt => ∃k:Nat,i=.int .i64 k∧1≤k∧k≤p∧Hid (RepY wt w.heap.size p k y)∧Hid (Below w.heap.size w wt)) (fun i _=>p - (intOf i).toNat)
 case atStart=>exact ⟨cs.length,rfl,by omega,by omega,by rw [hcs1];exact HY2,HB2⟩
 case round =>
  clear HY2 HB2 hcs1
  obtain ⟨k,rfl,hk1,hk,HY,HB⟩:=hrel
  by_cases hlt:k < p
  ·obtain ⟨cur,hcur,hcl,hca⟩:=HY.out
   obtain ⟨m,hm⟩:∃m,m=Nat.min k (p - k):=⟨_,rfl⟩
   have hm2:1≤m∧m≤k∧k+m≤p:=by
    have e:m=min k (p - k):=hm
    omega
   have hnp:¬ (p=k):=by omega
   have HC:=I (And.intro hcur (And.intro hcl hca))
   have HM:=I hm;have HM2:=I hm2
   have tm:IntKind.i64.wrap ((k:Int)+(m:Int))=((k+m:Nat):Int):=by
    rw [←Int.natCast_add];exact eL (by omega)
   clear hcur hcl hca hm
   go_upto_region 9 with fail
   refine eZ [7] (fun W=>True) (fun _ _ _=>False) (fun _ _ _ _ _=>False) (by kernel_rfl) (by kernel_rfl) trivial (fun W q h=>trivial) ?_
   iterate 7 (refine aD (by rfl) trivial (fun K hK W hW=>?_);go_simp;refine hK _ ?_;clear hK K)
   refine aF (by rfl) trivial (fun K hK q=>?_)
   refine yE rfl _ _ 25 25 rfl 28 rfl HZ1.out w.heap.size k (p - k) (p - k) ⟨w.heap.size,0,none⟩ k p rfl rfl cur 28 HC.out.1 (List.replicate m (.float .f32 y)) (by rw [List.length_replicate];exact HM.out) ?c4 (by rw [List.length_replicate,HC.out.2.1];exact HM2.out.2.2) (by intro v hv;rw [List.eq_of_mem_replicate hv];rfl) w.heap.size w (below_drewN HB.out q) (J _) ?_
   case c4 =>
    intro j v hj
    have hjm:j < m:=by
     rcases Nat.lt_or_ge j m with h | h
     ·exact h
     ·rw [List.getElem?_eq_none (by simpa using h)] at hj;cases hj
    rw [List.getElem?_replicate,if_pos hjm] at hj
    cases hj
    rw [Addr.add_lit,Nat.zero_add]
    have h1:=cell_of_row wr w.heap.size j cur.toArray 28 (0,0) HC.out.1
    have h2:(wr.drewN q).cell? ⟨w.heap.size,j,none⟩=wr.cell? ⟨w.heap.size,j,none⟩:=by simp
    rw [h2,h1]
    simpa using HC.out.2.2 j (by omega)
   intro w2 hg2 hb2
   have HY3:Hid (RepY w2 w.heap.size p (k+m) y):=I ⟨_,hg2,by rw [length_splice _ _ _ (by rw [List.length_replicate,HC.out.2.1];exact HM2.out.2.2)];exact HC.out.2.1,fun j hj=>by
    have h:=tW (L:=cur) (cs:=List.replicate m (.float .f32 y)) (off:=k) (v:=.float .f32 y) HC.out.2.2 (fun u hu=>List.eq_of_mem_replicate hu) (by rw [List.length_replicate,HC.out.2.1];exact HM2.out.2.2)
    exact h j (by rw [List.length_replicate];exact hj)⟩
   have HB3:=I hb2
   have hlr:((List.replicate m (Value.float .f32 y)).length:Int)=(m:Int):=by rw [List.length_replicate]
   refine ⟨trivial,hK _ _ ?_⟩
   clear hK K hg2 hb2 HC HY HB
   iterate 2 (refine aD (by rfl) trivial (fun K hK W hW=>?_);go_simp;refine hK _ ?_;clear hK K)
   refine aP (fun q3=>?_)
   have HY4:=I (HY3.out.below (below_drewN (O _ _) q3));have HB4:=I (below_drewN HB3.out q3)
   clear HY3 HB3 tm
   go_wp2
   go_roundw
   case rel=>exact ⟨k+m,by go_num,by omega,HM2.out.2.2,HY4,HB4⟩
   case measure=>simp [intOf];omega
  ·have hkn:k=p:=by omega
   subst hkn
   have HF:=I (HY.out.fin (w:=w) (J _) hp hyl)
   clear HY
   go_wp2
   go_ret
   exact ⟨_,_,rfl,HF,HB.out⟩
theorem CT (y n:Nat):(List.replicate n y).map (cn .f32)=nP (cn .f32 y) n:=by
 refine List.ext_getElem (by simp [nP,aJ]) fun j h1 h2=>?_
 simp [nP,bA]
theorem kE (w:World) (r c:Nat) (y:Nat) (hy:y < 4294967296) (hr1:1≤r) (hr:r≤16) (hc1:1≤c) (hc:c≤16) :
  Calls Tryz.prog 95 #[.int .i64 r,.int .i64 c,.float .f32 y] w (bN r c (r * c) (nP (cn .f32 y) (r * c)) w):=by
 have hp:r * c≤256:=Nat.mul_le_mul hr hc
 have hp1:1≤r * c:=Nat.mul_le_mul hr1 hc1
 obtain ⟨p,hpp⟩:∃p,p=r * c:=⟨_,rfl⟩
 have e1:((r:Int) * (c:Int))=(p:Int):=by rw [hpp];rfl
 have wq:IntKind.i64.wrap (p:Int)=p:=eL (by omega)
 rw [←hpp] at hp hp1 ⊢
 clear hpp
 have RB0:=I ((BoxN.alloc w #[.int .i64 0,.int .i64 0,.slice none 0 0] 37).below (aE _ (.cells #[.float .f32 y] 28)))
 have b2:=bZ w (.cells #[.int .i64 0,.int .i64 0,.slice none 0 0] 37) (.cells #[.float .f32 y] 28)
 have hcell:((w.alloc (.cells #[.int .i64 0,.int .i64 0,.slice none 0 0] 37)).alloc (.cells #[.float .f32 y] 28)).cell? ⟨w.heap.size+1,0,none⟩=some (.float .f32 y):=by
  simp
 have K:=I (vI _ (w.heap.size+1) 0 y 1 p hp1 hp hcell hy)
 have B:=I b2
 clear b2 hcell
 go_enter Tryz.func95,Tryz.ntmps95
 go_wp2_with fail
 refine K.out.mono ?_
 rintro e w' ⟨va,vc,rfl,RO,hb⟩
 obtain ⟨rl,r0,r1,r2,rf⟩:=(RB0.out.below hb).three
 have hbw:=aA B.out hb
 have hz:=hb.size
 simp at hz
 have hfin:=bF (g:=w.heap.size) (lo':=w.heap.size) (i:=0) RO.out (by simp;omega) (by simp;omega) (J _) [.int .i64 r,.int .i64 c,.slice va p vc]
 have hbf:=aG hbw (g:=w.heap.size) (J _) 0 [.int .i64 r,.int .i64 c,.slice va p vc]
 have HF:=I hfin;have HBF:=I hbf
 clear hfin hbf hbw hb
 go_wp2
 try simp only [Exit.inBlock,Exit.then]
 refine bodyPost_ret (v:=.agg #[.int .i64 r,.int .i64 c,.slice va p vc]) (by simp [results,Tryz.results95,go_sem,r0,r1,r2]) rfl (dW rfl HF (CT _ _) HBF.out)
theorem jO (w:World) (ad:Option Addr) (cap n:Nat) (xs:List Nat) (h:F32s w ad cap xs) (hc:ad=none→cap=0) (hxl:xs.length=n) (hn:n≤1048576) :
  Calls Tryz.prog 67 #[.slice ad n cap] w (bN 1 n n (xs.map (cn .f32)) w):=by
 subst hxl
 have b1:=aE w (.cells #[.int .i64 0,.int .i64 0,.slice none 0 0] 37)
 have K:=I (kJ _ ad cap xs (h.below b1) hc hn)
 have RB0:=I (BoxN.alloc w #[.int .i64 0,.int .i64 0,.slice none 0 0] 37)
 have B:=I b1
 obtain ⟨n,hN⟩:∃n,n=xs.length:=⟨_,rfl⟩
 rw [←hN] at K ⊢
 clear b1 h hN hn hc
 go_enter Tryz.func67,Tryz.ntmps67
 go_wp2_with fail
 refine K.out.mono ?_
 rintro e w' ⟨va,vc,rfl,RO,hb⟩
 obtain ⟨rl,r0,r1,r2,rf⟩:=(RB0.out.below hb).three
 have hbw:=aA B.out hb
 have hz:=hb.size
 simp at hz
 have hfin:=bF (g:=w.heap.size) (lo':=w.heap.size) (i:=0) RO.out (by simp) (by simp) (J _) [.int .i64 1,.int .i64 n,.slice va n vc]
 have hbf:=aG hbw (g:=w.heap.size) (J _) 0 [.int .i64 1,.int .i64 n,.slice va n vc]
 have HF:=I hfin;have HBF:=I hbf
 clear hfin hbf hbw hb
 go_wp2
 try simp only [Exit.inBlock,Exit.then]
 refine bodyPost_ret (v:=.agg #[.int .i64 1,.int .i64 n,.slice va n vc]) (by simp [results,Tryz.results67,go_sem,r0,r1,r2]) rfl (dW rfl HF rfl HBF.out)
theorem gS (w:World) (r c:Int) (ad:Option Addr) (cap:Nat) (xs:List Nat) (h:F32s w ad cap xs) (hc:ad=none→cap=0) (n:Nat) (hl:xs.length=n) (hn:n≤1048576) :
  Calls Tryz.prog 66 #[.agg #[.int .i64 r,.int .i64 c,.slice ad n cap]] w (bN r c n (xs.map (cn .f32)) w):=by
 subst hl
 refine (mB w r c ad cap xs h hc hn).mono ?_
 rintro e w' ⟨a,c',he,hr,hb⟩
 exact dW he hr rfl hb
theorem zY (w0 W V:World) (tb:Nat) (ad:Option Addr) (cap:Nat) (us:List OpD) (E:List RowD) (h:TB w0 W ad cap us (aZ 67 tb [.slice ad us.length cap] :: E)) (hb:Below W.heap.size W V) (o:OpD) (ho:o.ok) (hn:Own V W.heap.size V.heap.size [aK o.ad o.cap o.xs]) (hul:us.length≤100) :
  Calls Tryz.prog 64 #[o.val,.pointer (some ⟨tb,0,none⟩)] V fun e V' => ∃ad' cap',e=.returned (.int .i64 us.length)∧Hid (TB w0 V' ad' cap' (us ++ [o]) (aZ 67 tb [.slice ad' (us ++ [o]).length cap'] :: E)):=by
 obtain ⟨i0,hi0,hz0,hzs,hz2⟩:=info_parts lK
 have HV:Hid (TB w0 V ad cap us (aZ 67 tb [.slice ad us.length cap] :: E)):=I (h.move hb)
 have HTB:=I (HV.out.box (List.mem_cons_self ..))
 have hlo:=HV.out.below.size
 obtain ⟨n,hN⟩:∃n,n=us.length:=⟨_,rfl⟩
 have HH:=I h;have HB:=I hb;have HO:=I ho;have HNN:=I hn;have HN:=I hN
 clear h hb ho hn
 obtain ⟨⟨kk,a,b',q,r,c,xs⟩,oa,ok'⟩:=o
 show Calls Tryz.prog 64 #[.agg #[.int .i64 kk,.int .i64 a,.int .i64 b',.float .f32 q,.int .i64 r,.int .i64 c,.slice oa xs.length ok'],.pointer (some ⟨tb,0,none⟩)] V _
 have HR1:=I (HV.out.move (aE V (.cells #[.int .i64 kk,.int .i64 a,.int .i64 b',.float .f32 q,.int .i64 r,.int .i64 c,.slice oa xs.length ok'] 74))).row
 have HR2:=I HR1.out
 obtain ⟨-,t0,tf⟩:=(HTB.out.below (aE V (.cells #[.int .i64 kk,.int .i64 a,.int .i64 b',.float .f32 q,.int .i64 r,.int .i64 c,.slice oa xs.length ok'] 74))).one1
 obtain ⟨m,hM⟩:∃m,m=xs.length:=⟨_,rfl⟩
 rw [←hM] at HR2 t0 tf ⊢
 rw [←hN] at t0 HR2 hul ⊢
 have HM:=I hM
 clear hM hN HR1
 go_enter Tryz.func64,Tryz.ntmps64
 go_wp2_with (at_builtin;refine cI rfl _ _ 67 rfl w0.heap.size i0 (.agg #[.int .i64 0,.int .i64 0,.int .i64 0,.float .f32 0,.int .i64 0,.int .i64 0,.slice none 0 0]) 7 72 Tryz.underlying67 hi0 hz0 hzs hz2 rfl (by decide) rfl (by intro u hu;simp at hu;rcases hu with rfl | rfl | rfl | rfl | rfl | rfl | rfl <;> rfl) _ _ _ rfl HR2.out (by go_simp) ?c3 ?c4 ?c5 ?_)
 case c3=>unfold maxLen;omega
 case c4=>omega
 case c5=>first | omega | (simp;omega) | exact Nat.le_trans hlo (by simp)
 intro v' w9 ho9 hg9 hat9 hb9 hs9
 obtain ⟨ad9,cap9,rfl,hx⟩:=HH.out.push (V:=V.alloc (.cells #[.int .i64 kk,.int .i64 a,.int .i64 b',.float .f32 q,.int .i64 r,.int .i64 c,.slice oa m ok'] 74)) (o:=⟨⟨kk,a,b',q,r,c,xs⟩,oa,ok'⟩) (aA HB.out (aE V _)) HO.out (HNN.out.below (aE V _)) (by simp) HB.out.size (by rw [←HN.out];show w9.ownsRow _ _ _ _ _ (_ ++ [Value.int .i64 kk,.int .i64 a,.int .i64 b',.float .f32 q,.int .i64 r,.int .i64 c,.slice oa xs.length ok']);rw [←HM.out];exact ho9) (by rw [←HN.out];exact hg9) (by rw [←HN.out];simpa using hat9)
 have hl1:(us ++ [(⟨⟨kk,a,b',q,r,c,xs⟩,oa,ok'⟩:OpD)]).length=n+1:=by rw [List.length_append,←HN.out];rfl
 have HL1:=I hl1
 have HX:=I hx
 obtain ⟨-,t0',tf'⟩:=(hx.box (List.mem_cons_self ..)).one1
 rw [←HN.out] at t0'
 rw [hl1]
 clear ho9 hg9 hat9 hb9 hs9 hx t0 tf hl1
 go_wp2
 go_ret
 refine ⟨ad9,cap9,by rw [←show ((n+1:Nat):Int) - 1=(n:Int) by omega];go_simp,I ?_⟩
 have h3:=HX.out.store 0 (.slice ad9 (n+1) cap9)
 rw [HL1.out]
 exact h3
def Fn (w0:World) (tb:Nat) (us:List OpD) (E:List RowD) (r c:Int) (xs:List Nat) (f:FuncId) (args:Array Value) (w1:World) (v:Value) (w2:World):Prop :=
 (f=66→∃a' k',v=.agg #[.int .i64 r,.int .i64 c,.slice a' xs.length k']∧RepF w2 w1.heap.size w2.heap.size a' xs.length k' xs∧Below w1.heap.size w1 w2) ∧
 (f=64→∃o:OpD,∃ad' cap',o.toOpP=cX r c xs∧v=.int .i64 us.length∧TB w0 w2 ad' cap' (us ++ [o]) (aZ 67 tb [.slice ad' (us ++ [o]).length cap'] :: E))
theorem AG (w0 W V:World) (tb fb:Nat) (ad:Option Addr) (cap:Nat) (us:List OpD) (E:List RowD) (h:TB w0 W ad cap us (aZ 67 tb [.slice ad us.length cap] :: E)) (hfb:aZ 104 fb [.func (.func 64) #[] #[.pointer (some ⟨tb,0,none⟩)]]∈E) (hb:Below W.heap.size W V)
  (r c:Int) (a:Option Addr) (k:Nat) (xs:List Nat) (hf:F32s V a k xs) (hc:a=none→k=0) (hn:xs.length≤1048576) (hr:(Lit.int .i64 r).wf=true) (hcc:(Lit.int .i64 c).wf=true) (hul:us.length≤100) :
  Calls Tryz.prog 65 #[.agg #[.int .i64 r,.int .i64 c,.slice a xs.length k],.pointer (some ⟨fb,0,none⟩)] V fun e V' => ∃o:OpD,∃ad' cap',e=.returned (.int .i64 us.length)∧Hid (o.toOpP=cX r c xs∧TB w0 V' ad' cap' (us ++ [o]) (aZ 67 tb [.slice ad' (us ++ [o]).length cap'] :: E)):=by
 have hf0:=I (show okF xs from hf.lt)
 have hbb:=aE V (.cells #[.int .i64 r,.int .i64 c,.slice a xs.length k] 37)
 have HV:Hid (TB w0 (V.alloc (.cells #[.int .i64 r,.int .i64 c,.slice a xs.length k] 37)) ad cap us (aZ 67 tb [.slice ad us.length cap] :: aZ 37 V.heap.size [.int .i64 r,.int .i64 c,.slice a xs.length k] :: E)):=I (((h.move hb).alloc #[.int .i64 r,.int .i64 c,.slice a xs.length k] 37).perm (List.Perm.swap _ _ _))
 have HF:=I (hf.below hbb)
 obtain ⟨n,hN⟩:∃n,n=xs.length:=⟨_,rfl⟩
 have HN:=I hN
 have HFB:=I hfb
 clear h hb hf hbb hfb
 rw [←hN] at HV HF ⊢
 clear hN
 go_enter Tryz.func65,Tryz.ntmps65
 go_upto_region 1 with fail
 generalize V.alloc (.cells #[.int .i64 r,.int .i64 c,.slice a n k] 37)=V1 at HV HF ⊢
 generalize V.heap.size=vb at HV ⊢
 have ST:Hid (∀W ad cap us (E2:List RowD),TB w0 W ad cap us (aZ 67 tb [.slice ad us.length cap] :: aZ 37 vb [.int .i64 r,.int .i64 c,.slice a n k] :: E)→W.cell? ⟨fb,0,none⟩=some (.func (.func 64) #[] #[.pointer (some ⟨tb,0,none⟩)])∧W.cell? ⟨vb,0,none⟩=some (.int .i64 r)∧W.cell? ⟨vb,1,none⟩=some (.int .i64 c)∧W.cell? ⟨vb,2,none⟩=some (.slice a n k)):=I (fun W ad cap us E2 h=>by
  obtain ⟨-,f0,-⟩:=(h.box (List.mem_cons_of_mem _ (List.mem_cons_of_mem _ HFB.out))).one1
  obtain ⟨-,v0,v1,v2,-⟩:=(h.box (List.mem_cons_of_mem _ (List.mem_cons_self ..))).three
  exact ⟨f0,v0,v1,v2⟩)
 have S0:=I (ST.out V1 ad cap us E HV.out)
 refine aL 5 [2,4] (fun W=>W.cell? ⟨fb,0,none⟩=some (.func (.func 64) #[] #[.pointer (some ⟨tb,0,none⟩)])∧W.cell? ⟨vb,0,none⟩=some (.int .i64 r)∧W.cell? ⟨vb,1,none⟩=some (.int .i64 c)∧W.cell? ⟨vb,2,none⟩=some (.slice a n k)) (fun _ _ _=>False) (Fn w0 tb us (aZ 37 vb [.int .i64 r,.int .i64 c,.slice a n k] :: E) r c xs) (by kernel_rfl) (by kernel_rfl) S0.out (fun W q h=>by simpa using h) ?_
 iterate 2 (refine aD (by rfl) S0.out (fun K hK W hW=>?_);obtain ⟨e0,e1,e2,e3⟩:=hW;go_simp;refine hK _ ?_;clear hK K e0 e1 e2 e3)
 refine aF (by rfl) S0.out (fun K hK q0=>?_)
 have D0:=I (below_drewN (O V1.heap.size V1) q0)
 have KC:=I (mB (V1.drewN q0) r c a k xs (HF.out.below D0.out) hc hn)
 rw [←HN.out] at KC
 go_simp
 refine ⟨KC.out.mono (fun e w5 hh=>by
  obtain ⟨a',k',he,hr5,hb5⟩:=hh
  exact ⟨_,he,⟨fun _=>⟨a',k',by rw [HN.out],by rw [←HN.out];exact hr5.out,hb5⟩,fun e=>absurd e (by decide)⟩⟩),?_⟩
 rintro v w5 hd
 obtain ⟨a',k',rfl,hr5,hb5⟩:=hd.1 rfl
 have C5:=I (aA D0.out hb5)
 have R5:=I (hr5.bounds (show V1.heap.size≤_ from D0.out.size) (J _))
 have S5:=I (ST.out w5 ad cap us E (HV.out.move C5.out))
 refine ⟨S5.out,hK _ _ ?_⟩
 clear hK K hd hr5 hb5 KC
 refine aD (by rfl) S5.out (fun K hK W hW=>?_)
 obtain ⟨e0,e1,e2,e3⟩:=hW
 go_simp
 refine hK _ ?_
 clear hK K e0 e1 e2 e3
 refine aF (by rfl) S5.out (fun K hK q1=>?_)
 have C6:=I (aA C5.out (below_drewN (O _ _) q1))
 have R6:=I ((R5.out.below (below_drewN (O _ _) q1)).bounds (J _) (show w5.heap.size≤(w5.drewN q1).heap.size by simp))
 have KA:=I (zY w0 V1 (w5.drewN q1) tb ad cap us (aZ 37 vb [.int .i64 r,.int .i64 c,.slice a n k] :: E) HV.out C6.out ⟨cX r c xs,a',k'⟩ ⟨hf0.out,(show (0:Nat) < 4294967296 by decide),rfl,rfl,rfl,hr,hcc⟩ R6.out.ownRow hul)
 have KA2:Hid (Calls Tryz.prog 64 #[.agg #[.int .i64 0,.int .i64 0,.int .i64 0,.float .f32 0,.int .i64 r,.int .i64 c,.slice a' xs.length k'],.pointer (some ⟨tb,0,none⟩)] (w5.drewN q1) _):=KA
 go_simp
 refine ⟨KA2.out.mono (fun e w7 hh=>by
  obtain ⟨ad',cap',he,hr7⟩:=hh
  exact ⟨_,he,⟨fun e=>absurd e (by decide),fun _=>⟨⟨cX r c xs,a',k'⟩,ad',cap',rfl,rfl,hr7.out⟩⟩⟩),?_⟩
 rintro v w7 hd
 obtain ⟨o,ad',cap',ho,rfl,ht⟩:=hd.2 rfl
 have S7:=I (ST.out w7 ad' cap' (us ++ [o]) E ht)
 refine ⟨S7.out,hK _ _ ?_⟩
 have HT:=I ht;have HO:=I ho
 clear hK K hd ht ho KA KA2
 refine aP (fun q9=>?_)
 have HT9:=I (HT.out.move (below_drewN (O _ _) q9))
 clear S0 S5 S7 HT R5 R6 C5 C6 D0 HV HF ST
 generalize w7.drewN q9=w9 at HT9 ⊢
 go_wp2
 go_ret
 exact ⟨o,ad',cap',rfl,I ⟨HO.out,HT9.out.sub (List.Sublist.cons_cons _ (List.sublist_cons_self _ _))⟩⟩
theorem BF (ls:List LayP) (k:Nat):dA (ls.map LayP.can) k=dA ls k:=by
 have hb:∀l:LayP,jW l.can=jW l:=fun l=>by unfold jW LayP.can;simp
 induction k with
 | zero=>rfl
 | succ k ih =>
  rw [dA,dA,ih]
  congr 1
  rw [List.getElem?_map]
  cases ls[k]? with
  | none=>rfl
  | some l =>
   simp only [Option.map_some]
   rw [hb]
   congr 1
   by_cases h0:k=0
   ·simp [h0]
   ·simp only [if_neg h0,List.getElem?_map]
    cases ls[k - 1]? with
    | none=>rfl
    | some p=>rfl
theorem mS (ls:List LayP):dG (ls.map LayP.can)=dG ls:=by
 unfold dG;rw [List.length_map,BF]
theorem gE (ls:List LayP) (k:Nat):(cG (ls.map LayP.can) k).i=(cG ls k).i∧(cG (ls.map LayP.can) k).o=(cG ls k).o:=by
 unfold cG
 rw [List.getD_eq_getElem?_getD,List.getD_eq_getElem?_getD,List.getElem?_map]
 cases ls[k]? with
 | none=>exact ⟨rfl,rfl⟩
 | some l=>exact ⟨rfl,rfl⟩
theorem kR (r c:Int) (xs:List Nat):(cX r c xs).can=cX r c (xs.map (cn .f32)):=by
 unfold cX OpP.can;simp [bT]
theorem gJ (k a b:Int) (num:Nat):(eU k a b num).can=eU k a b (cn .f32 num):=by
 unfold eU OpP.can;simp
def TN (w0 W:World) (ad:Option Addr) (n cap:Nat) (C:List OpP) (E:List RowD):Prop:=∃us:List OpD,us.length=n∧us.map (fun o=>o.toOpP.can)=C∧TB w0 W ad cap us E
section
variable {w0 W V w2:World} {ad:Option Addr} {n cap:Nat} {C:List OpP} {E:List RowD}
theorem TN.move (h:TN w0 W ad n cap C E) (hb:Below W.heap.size W V):TN w0 V ad n cap C E:=by
 obtain ⟨us,h1,h2,h3⟩:=h;exact ⟨us,h1,h2,h3.move hb⟩
theorem TN.below (h:TN w0 W ad n cap C E):Below w0.heap.size w0 W:=by obtain ⟨us,h1,h2,h3⟩:=h;exact h3.below
theorem TN.box (h:TN w0 W ad n cap C E) {t:TypeId} {g:Nat} {cs:List Value} (hm:aZ t g cs∈E):BoxN W g cs:=by obtain ⟨us,h1,h2,h3⟩:=h;exact h3.box hm
theorem TN.sub (h:TN w0 W ad n cap C E) {E':List RowD} (hs:List.Sublist E' E):TN w0 W ad n cap C E':=by obtain ⟨us,h1,h2,h3⟩:=h;exact ⟨us,h1,h2,h3.sub hs⟩
theorem TN.perm (h:TN w0 W ad n cap C E) {E':List RowD} (hp:E.Perm E'):TN w0 W ad n cap C E':=by obtain ⟨us,h1,h2,h3⟩:=h;exact ⟨us,h1,h2,h3.perm hp⟩
theorem TN.alloc (h:TN w0 W ad n cap C E) (cs:Array Value) (t:TypeId):TN w0 (W.alloc (.cells cs t)) ad n cap C (aZ t W.heap.size cs.toList :: E):=by obtain ⟨us,h1,h2,h3⟩:=h;exact ⟨us,h1,h2,h3.alloc cs t⟩
theorem TN.go (h:TN w0 W ad n cap C E) (hb:Below W.heap.size W V):∃vs,V.ownsRow w0.heap.size 74 7 (.slice ad n cap) n vs ∧
  ∀(o:OpD) (hi1:Nat) (x:Obj) (v':Value) (w2:World),o.ok→Own V W.heap.size hi1 [aK o.ad o.cap o.xs]→hi1≤V.heap.size→W.heap.size≤hi1→w2.ownsRow w0.heap.size 74 7 v' (n+1) (vs ++ o.cells)→(V.alloc x).grownBy w2 (Value.slice ad n cap).ownBlock→(v'.ownBlock=(Value.slice ad n cap).ownBlock∨v'.ownBlock=some (V.heap.size+1)) →
   ∃ad' cap',v'=.slice ad' (n+1) cap'∧TN w0 w2 ad' (n+1) cap' (C ++ [o.toOpP.can]) E:=by
 obtain ⟨us,rfl,rfl,h3⟩:=h
 refine ⟨us.flatMap OpD.cells,(h3.move hb).row,fun o hi1 x v' w2 ho hn h1 h2 h4 hg hat=>?_⟩
 obtain ⟨ad',cap',e,hx⟩:=h3.push hb ho hn h1 h2 h4 hg hat
 have hl:(us ++ [o]).length=us.length+1:=by simp
 exact ⟨ad',cap',by rw [e,hl],us ++ [o],hl,by simp,hx⟩
theorem TN.goA (h:TN w0 W ad n cap C E):∃vs,(∀V,Below W.heap.size W V→V.ownsRow w0.heap.size 74 7 (.slice ad n cap) n vs) ∧
  ∀(V:World) (o:OpD) (hi1:Nat) (x:Obj) (v':Value) (w2:World),Below W.heap.size W V→o.ok→Own V W.heap.size hi1 [aK o.ad o.cap o.xs]→hi1≤V.heap.size→W.heap.size≤hi1→w2.ownsRow w0.heap.size 74 7 v' (n+1) (vs ++ o.cells)→(V.alloc x).grownBy w2 (Value.slice ad n cap).ownBlock→(v'.ownBlock=(Value.slice ad n cap).ownBlock∨v'.ownBlock=some (V.heap.size+1)) →
   ∃ad' cap',v'=.slice ad' (n+1) cap'∧TN w0 w2 ad' (n+1) cap' (C ++ [o.toOpP.can]) E:=by
 obtain ⟨us,rfl,rfl,h3⟩:=h
 refine ⟨us.flatMap OpD.cells,fun V hb=>(h3.move hb).row,fun V o hi1 x v' w2 hb ho hn h1 h2 h4 hg hat=>?_⟩
 obtain ⟨ad',cap',e,hx⟩:=h3.push hb ho hn h1 h2 h4 hg hat
 have hl:(us ++ [o]).length=us.length+1:=by simp
 exact ⟨ad',cap',by rw [e,hl],us ++ [o],hl,by simp,hx⟩
theorem TN.goI {wa:Option Addr} {wk:Nat} {ws:List Int} (h:TN w0 W ad n cap C (bQ wa wk ws :: E)):W.ownsRow w0.heap.size 2 1 (.slice wa ws.length wk) ws.length (ws.map (Value.int .i64)) ∧
  ∀(i:Int) (x:Obj) (v':Value) (w2:World),w2.ownsRow w0.heap.size 2 1 v' (ws.length+1) (ws.map (Value.int .i64) ++ [.int .i64 i])→(W.alloc x).grownBy w2 (Value.slice wa ws.length wk).ownBlock→(v'.ownBlock=(Value.slice wa ws.length wk).ownBlock∨v'.ownBlock=some (W.heap.size+1)) →
   ∃wa' wk',v'=.slice wa' (ws ++ [i]).length wk'∧TN w0 w2 ad n cap C (bQ wa' wk' (ws ++ [i]) :: E):=by
 obtain ⟨us,h1,h2,h3⟩:=h
 refine ⟨h3.ints (List.mem_cons_self ..),fun i x v' w2 h4 hg hat=>?_⟩
 obtain ⟨wa',wk',e,hx⟩:=h3.pushI h4 hg hat
 exact ⟨wa',wk',e,us,h1,h2,hx⟩
theorem fD (V:World) (lo hi:Nat):Own V lo hi [aK none 0 []]:=Own.voids V lo hi (fun x hx=>by rw [List.mem_singleton.1 hx];exact ⟨rfl,rfl,rfl,rfl⟩)
def sR (k a b:Int) (num:Nat):OpD:=⟨eU k a b num,none,0⟩
theorem eE {k a b:Int} {num:Nat} (hk:(Lit.int .i64 k).wf=true) (ha:(Lit.int .i64 a).wf=true) (hb:(Lit.int .i64 b).wf=true) (hn:num < 4294967296):(sR k a b num).ok:=⟨fun x hx=>(nomatch hx),hn,hk,ha,hb,rfl,rfl⟩
theorem lT {n:Nat} (h:n≤1000000):(Lit.int .i64 (n:Int)).wf=true:=sQ (by omega)
theorem BG {tb:Nat} (h:TN w0 W ad n cap C (aZ 67 tb [.slice ad n cap] :: E)) (hb:Below W.heap.size W V) (o:OpD) (ho:o.ok) (hn:Own V W.heap.size V.heap.size [aK o.ad o.cap o.xs]) (hul:n≤100) :
  Calls Tryz.prog 64 #[o.val,.pointer (some ⟨tb,0,none⟩)] V fun e V' => ∃ad' cap',e=.returned (.int .i64 n)∧Hid (TN w0 V' ad' (n+1) cap' (C ++ [o.toOpP.can]) (aZ 67 tb [.slice ad' (n+1:Nat) cap'] :: E)):=by
 obtain ⟨us,rfl,rfl,h3⟩:=h
 refine (zY w0 W V tb ad cap us E h3 hb o ho hn hul).mono fun e V' hh=>?_
 obtain ⟨ad',cap',he,ht⟩:=hh
 have hl:(us ++ [o]).length=us.length+1:=by simp
 exact ⟨ad',cap',he,I ⟨us ++ [o],hl,by simp,by rw [←hl];exact ht.out⟩⟩
theorem eO {tb:Nat} (h:TN w0 W ad n cap C (aZ 67 tb [.slice ad n cap] :: E)) (hb:Below W.heap.size W V) (k a b:Int) (num:Nat) (ho:(sR k a b num).ok) (hul:n≤100) :
  Calls Tryz.prog 64 #[.agg #[.int .i64 k,.int .i64 a,.int .i64 b,.float .f32 num,.int .i64 0,.int .i64 0,.slice none 0 0],.pointer (some ⟨tb,0,none⟩)] V fun e V' => ∃ad' cap',e=.returned (.int .i64 n)∧Hid (TN w0 V' ad' (n+1) cap' (C ++ [eU k a b (cn .f32 num)]) (aZ 67 tb [.slice ad' (n+1:Nat) cap'] :: E)) :=
 (BG h hb (sR k a b num) ho (fD _ _ _) hul).mono fun e V' hh=>by
  obtain ⟨ad',cap',he,ht⟩:=hh
  have e1:(sR k a b num).toOpP.can=eU k a b (cn .f32 num):=gJ k a b num
  rw [e1] at ht
  exact ⟨ad',cap',he,ht⟩
theorem iG {tb fb:Nat} (h:TN w0 W ad n cap C (aZ 67 tb [.slice ad n cap] :: E)) (hfb:aZ 104 fb [.func (.func 64) #[] #[.pointer (some ⟨tb,0,none⟩)]]∈E) (hb:Below W.heap.size W V)
  (r c:Int) (a:Option Addr) (k m:Nat) (xs:List Nat) (hf:F32s V a k xs) (hm:xs.length=m) (hm1:1≤m) (hn:m≤1048576) (hr:(Lit.int .i64 r).wf=true) (hcc:(Lit.int .i64 c).wf=true) (hul:n≤100) :
  Calls Tryz.prog 65 #[.agg #[.int .i64 r,.int .i64 c,.slice a m k],.pointer (some ⟨fb,0,none⟩)] V fun e V' => ∃ad' cap',e=.returned (.int .i64 n)∧Hid (TN w0 V' ad' (n+1) cap' (C ++ [cX r c (xs.map (cn .f32))]) (aZ 67 tb [.slice ad' (n+1:Nat) cap'] :: E)):=by
 subst hm
 obtain ⟨us,rfl,rfl,h3⟩:=h
 refine (AG w0 W V tb fb ad cap us E h3 hfb hb r c a k xs hf (by intro e;obtain ⟨b,o,e2,_,_⟩:=hf.spot (k:=0) hm1;rw [e] at e2;cases e2) hn hr hcc hul).mono fun e V' hh=>?_
 obtain ⟨o,ad',cap',he,ht⟩:=hh
 have hl:(us ++ [o]).length=us.length+1:=by simp
 exact ⟨ad',cap',he,I ⟨us ++ [o],hl,by simp [ht.out.1,kR],by rw [←hl];exact ht.out.2⟩⟩
end
def aM (ls:List LayP):List Nat:=ls.flatMap fun l=>l.ws ++ l.bs
def kF (l:LayP) (xs:List Nat):LayP:=⟨l.k,l.i,l.o,xs.take l.ws.length,(xs.drop l.ws.length).take l.bs.length⟩
def cT:List LayP→List Nat→List LayP
 | [],_=>[]
 | l :: ls,xs=>kF l xs :: cT ls (xs.drop (l.ws.length+l.bs.length))
def dC (ls:List LayP):Nat:=(aM ls).length
theorem pM (A:List LayP) (l:LayP):aM (A ++ [l])=aM A ++ l.ws ++ l.bs:=by simp [aM,List.flatMap_append]
theorem CU:dC []=0:=rfl
theorem kS (l:LayP) (A:List LayP):dC (l :: A)=l.ws.length+l.bs.length+dC A:=by simp [dC,aM,Nat.add_assoc]
theorem BH (A:List LayP) (l:LayP):dC (A ++ [l])=dC A+(l.ws.length+l.bs.length):=by unfold dC;rw [pM];simp [Nat.add_assoc]
theorem zZ (A B:List LayP):dC (A ++ B)=dC A+dC B:=by simp [dC,aM,List.flatMap_append]
theorem AH (A:List LayP) (l:LayP) (xs:List Nat):cT (A ++ [l]) xs=cT A xs ++ [kF l (xs.drop (dC A))]:=by
 induction A generalizing xs with
 | nil=>simp [cT,CU]
 | cons a A ih =>
  show kF a xs :: cT (A ++ [l]) _ = kF a xs :: cT A _ ++ _
  rw [ih,List.drop_drop,kS];rfl
def cZ (f:Nat→Nat) (l:LayP):LayP:=⟨l.k,l.i,l.o,l.ws.map f,l.bs.map f⟩
theorem wG (f:Nat→Nat) (ls:List LayP):cT ls ((aM ls).map f)=ls.map (cZ f):=by
 induction ls with
 | nil=>rfl
 | cons l ls ih =>
  have e:aM (l :: ls)=l.ws ++ (l.bs ++ aM ls):=by simp [aM]
  show kF l _ :: cT ls _ = cZ f l :: ls.map (cZ f)
  have h1:((aM (l :: ls)).map f).drop (l.ws.length+l.bs.length)=(aM ls).map f:=by
   rw [e,List.map_append,List.map_append,←List.drop_drop]
   rw [List.drop_left' (by simp),List.drop_left' (by simp)]
  have h2:kF l ((aM (l :: ls)).map f)=cZ f l:=by
   unfold kF cZ
   rw [e,List.map_append,List.map_append,List.take_left' (by simp),List.drop_left' (by simp),List.take_left' (by simp)]
  rw [h1,h2,ih]
theorem jC (ls:List LayP) (xs:List Nat):(cT ls xs).map LayP.can=cT (ls.map LayP.can) (xs.map (cn .f32)):=by
 induction ls generalizing xs with
 | nil=>rfl
 | cons l ls ih =>
  show LayP.can (kF l xs) :: (cT ls _).map LayP.can=kF l.can (xs.map (cn .f32)) :: cT (ls.map LayP.can) _
  rw [ih]
  unfold kF LayP.can
  simp only [List.length_map,List.map_take,List.map_drop]
theorem fE (ls:List LayP):(aM ls).map (cn .f32)=aM (ls.map LayP.can):=by
 unfold aM
 rw [List.map_flatMap,List.flatMap_map]
 congr 1
 funext l
 rw [List.map_append];rfl
theorem Aa (ls:List LayP):dC (ls.map LayP.can)=dC ls:=by unfold dC;rw [←fE,List.length_map]
theorem CV (f:Nat→Nat) (l:LayP):jW (cZ f l)=jW l:=by unfold jW cZ;simp
theorem BI (f:Nat→Nat) (ls:List LayP) (k:Nat):dA (ls.map (cZ f)) k=dA ls k:=by
 induction k with
 | zero=>rfl
 | succ k ih =>
  rw [dA,dA,ih,List.getElem?_map,List.getElem?_map]
  cases ls[k]? with
  | none=>rfl
  | some l =>
   simp only [Option.map_some,CV]
   congr 2
   by_cases h:k=0
   ·rw [if_pos h,if_pos h]
   ·rw [if_neg h,if_neg h]
    try (cases ls[k - 1]? <;> rfl)
theorem Ab (f:Nat→Nat) (ls:List LayP):dG (ls.map (cZ f))=dG ls:=by unfold dG;rw [List.length_map,BI]
def LN (w0 W:World) (ad:Option Addr) (n cap:Nat) (C:List LayP) (E:List RowD):Prop :=
 ∃us:List LayD,us.length=n∧us.map (fun l=>l.toLayP.can)=C∧OwnX aX W w0.heap.size W.heap.size ad n cap us E∧Below w0.heap.size w0 W
section
variable {w0 W V w2:World} {ad:Option Addr} {n cap:Nat} {C:List LayP} {E E':List RowD}
theorem LN.below (h:LN w0 W ad n cap C E):Below w0.heap.size w0 W:=by obtain ⟨us,h1,h2,h3,h4⟩:=h;exact h4
theorem LN.box (h:LN w0 W ad n cap C E) {t:TypeId} {g:Nat} {cs:List Value} (hm:aZ t g cs∈E):BoxN W g cs:=by obtain ⟨us,h1,h2,h3,h4⟩:=h;exact h3.own.xbox (h3.memE hm)
theorem LN.sub (h:LN w0 W ad n cap C E) (hs:List.Sublist E' E):LN w0 W ad n cap C E':=by
 obtain ⟨us,h1,h2,h3,h4⟩:=h
 exact ⟨us,h1,h2,⟨h3.own.sub (List.Sublist.cons_cons _ (List.Sublist.append (List.Sublist.refl _) hs)),h3.len,h3.ok⟩,h4⟩
theorem LN.perm (h:LN w0 W ad n cap C E) (hp:E.Perm E'):LN w0 W ad n cap C E':=by
 obtain ⟨us,h1,h2,h3,h4⟩:=h
 exact ⟨us,h1,h2,⟨h3.own.perm (List.Perm.cons _ (List.Perm.append_left _ hp)),h3.len,h3.ok⟩,h4⟩
theorem LN.swap {x y:RowD} (h:LN w0 W ad n cap C (x :: y :: E)):LN w0 W ad n cap C (y :: x :: E):=h.perm (List.Perm.swap _ _ _)
theorem LN.third {x y z:RowD} (h:LN w0 W ad n cap C (x :: y :: z :: E)):LN w0 W ad n cap C (z :: x :: y :: E) :=
 h.perm ((List.Perm.cons _ (List.Perm.swap _ _ _)).trans (List.Perm.swap _ _ _))
theorem LN.alloc (h:LN w0 W ad n cap C E) (cs:Array Value) (t:TypeId):LN w0 (W.alloc (.cells cs t)) ad n cap C (aZ t W.heap.size cs.toList :: E):=by
 obtain ⟨us,h0,h2,h3,h4⟩:=h
 have h1:=h3.own.alloc h4.size (J _) cs t
 refine ⟨us,h0,h2,⟨?_,h3.len,h3.ok⟩,h4.alloc h4.size _⟩
 have e:(W.alloc (.cells cs t)).heap.size=W.heap.size+1:=by simp
 rw [e]
 have e2:(⟨t,cs.size,some ⟨W.heap.size,0,none⟩,1,1,cs.toList⟩:RowD)=aZ t W.heap.size cs.toList:=by unfold aZ;simp
 rw [e2] at h1
 exact h1.perm ((List.Perm.swap _ _ _).trans (List.Perm.cons _ List.perm_middle.symm))
theorem LN.addF (h:LN w0 W ad n cap C E) (hb:Below W.heap.size W V) {a:Option Addr} {m k:Nat} {xs:List Nat} (hr:RepF V W.heap.size V.heap.size a m k xs):LN w0 V ad n cap C (aK a k xs :: E):=by
 obtain ⟨us,h0,h2,h3,h4⟩:=h
 have hl:=hr.len
 subst hl
 have hn:Own V W.heap.size V.heap.size [aK a k xs]:=Own.one hr.row
 have h1:=Own.fresh h3.own h4.size (J _) hb hn hb.size
 refine ⟨us,h0,h2,⟨?_,h3.len,h3.ok⟩,h4.trans (hb.mono h4.size)⟩
 refine h1.perm ?_
 rw [List.cons_append]
 refine List.Perm.cons _ ?_
 rw [List.append_assoc]
 exact List.Perm.append_left _ List.perm_append_comm
theorem LN.store {t:TypeId} {g:Nat} {cs:List Value} (h:LN w0 W ad n cap C (aZ t g cs :: E)) (k:Nat) (v:Value):LN w0 (W.setCell ⟨g,k,none⟩ v) ad n cap C (aZ t g (cs.set k v) :: E):=by
 obtain ⟨us,h0,h2,h3,h4⟩:=h
 have h1:=h3.storeE k v
 have h5:=(h3.own.cell (h3.memE (List.mem_cons_self ..))).2.1.1
 have e:aZ t g (cs.set k v)=⟨t,cs.length,some ⟨g,0,none⟩,1,1,cs.set k v⟩:=by unfold aZ;rw [List.length_set]
 exact ⟨us,h0,h2,by rw [e];exact h1.bounds (J _) (by simp [World.setCell]),h4.setCell (p:=⟨g,k,none⟩) h5 v⟩
theorem LN.push {wa ba:Option Addr} {wk bk:Nat} {ws bs:List Nat} (h:LN w0 W ad n cap C (aK wa wk ws :: aK ba bk bs :: E)):∃vs,W.ownsRow w0.heap.size 99 5 (.slice ad n cap) n vs ∧
  ∀(l:LayD) (x:Obj) (v':Value) (w2:World),l.ok→l.inn=[aK wa wk ws,aK ba bk bs]→w2.ownsRow w0.heap.size 99 5 v' (n+1) (vs ++ l.cells)→(W.alloc x).grownBy w2 (Value.slice ad n cap).ownBlock→(v'.ownBlock=(Value.slice ad n cap).ownBlock∨v'.ownBlock=some (W.heap.size+1)) →
   ∃ad' cap',v'=.slice ad' (n+1) cap'∧LN w0 w2 ad' (n+1) cap' (C ++ [l.toLayP.can]) E:=by
 obtain ⟨us,h0,h2,h3,h4⟩:=h
 refine ⟨us.flatMap LayD.cells,h3.own.head.own,fun l x v' w2 ho hin ho2 hg hat=>?_⟩
 obtain ⟨ad',cap',rfl,_⟩:=Rd.of_owns ho2
 have hl:(us ++ [l]).length=n+1:=by simp [h0]
 have hs:=hg.size
 simp at hs
 have h5:=(h3.own.below (aE W x)).grown (w':=w2) (hi':=w2.heap.size) (y:=⟨aX.e,aX.size,ad',n+1,cap',(us ++ [l]).flatMap aX.cells⟩) hg (by
  refine Row.mk' ?_
  rw [List.flatMap_append,List.flatMap_singleton]
  exact ho2) (fun g e=>by
   rcases hat with e1 | e1
   ·exact .inl (e1.symm.trans e)
   ·right
    have e2:some g=some (W.heap.size+1):=e.symm.trans e1
    cases e2
    omega) (by omega)
 refine ⟨ad',cap',rfl,us ++ [l],hl,by rw [List.map_append,h2];rfl,⟨?_,hl,fun b hb=>?_⟩,?_⟩
 ·have e:(us ++ [l]).flatMap aX.inn=us.flatMap aX.inn ++ [aK wa wk ws,aK ba bk bs]:=by rw [List.flatMap_append,List.flatMap_singleton];exact congrArg _ hin
  rw [e,List.append_assoc]
  exact h5
 ·rcases List.mem_append.1 hb with hb | hb
  ·exact h3.ok b hb
  ·simp at hb;subst hb;exact ho
 ·exact Below.grown (h4.alloc h4.size x) hg (by have:=h4.size;simp;omega) (fun j e=>(h3.own.head.own.lt j e).1)
theorem LN.nil (w:World):LN w w none 0 0 [] []:=by
 refine ⟨[],rfl,rfl,⟨Own.one ⟨⟨by simp,.inl ⟨rfl,rfl⟩⟩,fun k e=>(nomatch e)⟩,rfl,fun a ha=>(nomatch ha)⟩,O _ _⟩
theorem LN.nil1 (h:LN w0 W none 0 0 [] E):LN w0 (W.alloc (.cells #[] 99)) (some ⟨W.heap.size,0,none⟩) 0 0 [] E:=by
 obtain ⟨us,h0,h2,h3,h4⟩:=h
 have hu:us=[]:=List.eq_nil_of_length_eq_zero h0
 subst hu
 have hE:Own W w0.heap.size W.heap.size E:=h3.own.tail
 refine ⟨[],rfl,rfl,⟨?_,rfl,fun a ha=>(nomatch ha)⟩,h4.alloc h4.size _⟩
 have hr:=Own.one (x:=⟨aX.e,aX.size,some ⟨W.heap.size,0,none⟩,0,0,([]:List LayD).flatMap aX.cells⟩) (Row.mk' (World.ownsRow_made _ _ _ (J _) (Nat.zero_le _) (by simp)):Row (W.alloc (.cells #[] 99)) aX.e aX.size W.heap.size (W.alloc (.cells #[] 99)).heap.size _ 0 _)
 have h1:=Own.fresh hE h4.size (J _) (aE W (.cells #[] 99)) hr (by simp)
 exact h1.perm List.perm_append_comm
end
def sS (C:List LayP) (w:World) (e:Ending) (w':World):Prop:=∃ad n cap us,e=.returned (.agg #[.slice ad n cap])∧Hid (us.map (fun l=>l.toLayP.can)=C∧OwnR aX w' w.heap.size w'.heap.size ad n cap us)∧Below w.heap.size w w'
theorem sU {P:Program} {ops:Array Oper} {rest:List Oper} {o:Oper} {a:Act} {Q:Exit→Act→World→Prop} {e:TypeId} {W:World} (hgd:o.guard=none) (s x:Operand) (t:TypeId)
  (ho:o.op=.call { callee:=.builtin .append,args:=#[s,x],argTypes:=#[t,t] })
  (base:Nat) (i:TypeInfo) (z:Value) (bytes:Nat) (ht:P.underlying t=some (.slice e)) (hi:P.info? e=some i) (hz:i.zero=some z)
  (hsize:i.size=1) (hby:i.bytes=bytes) (hzs:z.cells.size=1)
  (v:Value) (n:Nat) (xs:List Value) (hs:a.eval s=v) (hown:W.ownsRow base e 1 v n xs)
  (ad:Option Addr) (m c:Nat) (news:List Value) (hx:a.eval x=.slice ad m c) (hn:ad=none→c=0) (hl:news.length=m) (hr:Rd W ad news) (h1:∀u∈news,u.oneCell'=true)
  (h63:n+m≤maxLen) (hbytes:(n+m) * bytes≤140737488355328) (hbase:base≤W.heap.size)
  (h:∀v' w',w'.ownsRow base e 1 v' (n+m) (xs ++ news)→Below base W w'→base≤w'.heap.size→(∀p:Addr,p.block < W.heap.size→v.ownBlock≠some p.block→w'.cell? p=W.cell? p)→(v≠.slice none 0 0→v'≠.slice none 0 0)→wpList P ops Q rest (a.put o.dst v') w'):wpList P ops Q (o :: rest) a W:=by
 cases ad with
 | none =>
  obtain rfl:=hn rfl
  have h0:news=[]:=by
   rcases hr with hr | ⟨b,off,hb,_⟩
   ·exact hr
   ·cases hb
  subst h0
  obtain rfl:m=0:=hl.symm
  exact wpList_append_own_none hgd s x t ho base e i 1 ht hi v n xs hs hown hx (h v W (by simpa using hown) (O _ _) hbase (fun _ _ _=>rfl) (fun h=>h))
 | some p =>
  refine wpList_append_own W hgd s x t ho base e i z 1 bytes ht hi hz hsize hby hzs (by decide) v n xs hs hown p m c news hx (by omega) ?_ h1 h63 hbytes hbase ?_
  ·intro j u hj
   rcases hr with hr | ⟨b,off,hb,_,hc⟩
   ·rw [hr] at hj;cases hj
   ·cases hb
    have hlt:j < news.length:=(List.getElem?_eq_some_iff.1 hj).1
    rw [Addr.add_lit];exact (hc j hlt).trans hj
  ·intro v' w' h2 hg hnn
   exact h v' w' h2 ((O _ _).grown hg hbase (fun j hj=>(hown.lt j hj).1)) (Nat.le_trans hbase hg.size) (fun p hp hne=>World.cell?_of_block (w:=W) (hg.block p.block hp (fun e=>hne e.symm))) (fun hv e=>hv (hnn.1 e).1)
theorem pN {ls:List LayD} {k:Nat} {l:LayD} (h:ls[k]? = some l):aM ((ls.map LayD.toLayP).take (k+1))=aM ((ls.map LayD.toLayP).take k) ++ l.ws ++ l.bs:=by
 rw [List.take_add_one,List.getElem?_map,h]
 exact pM _ _
theorem rO {w:World} {ad:Option Addr} {cap:Nat} {ls:List LayD} (h:SeeR aX w ad cap ls):okF (aM (ls.map LayD.toLayP)):=by
 intro x hx
 obtain ⟨l,hl,hx⟩:=List.mem_flatMap.1 hx
 obtain ⟨d,hd,rfl⟩:=List.mem_map.1 hl
 rcases List.mem_append.1 hx with hx | hx
 ·exact (h.ok d hd).1.1 x hx
 ·exact (h.ok d hd).1.2 x hx
def nilL (ls:List LayD):Prop:=∀l∈ls,(l.wa=none→l.wk=0)∧(l.ba=none→l.bk=0)
theorem OwnR.nilL {w:World} {lo hi n cap:Nat} {ad:Option Addr} {us:List LayD} (h:OwnR aX w lo hi ad n cap us):nilL us:=fun l hl=>by
 obtain ⟨k,hk,rfl⟩:=List.mem_iff_getElem.1 hl
 obtain ⟨-,-,-,-,-,h1,h2⟩:=xV h (List.getElem?_eq_getElem hk)
 exact ⟨h1.nilcap,h2.nilcap⟩
theorem mT (w:World) (ma:Option Addr) (mk:Nat) (ls:List LayD) (hls:SeeR aX w ma mk ls) (hnil:nilL ls) (hn:ls.length≤6) (hi2:∀l∈ls,l.ws.length≤64∧l.bs.length≤8) :
  Calls Tryz.prog 44 #[.agg #[.slice ma ls.length mk]] w fun e w' => ∃g n cap,e=.returned (.slice (some ⟨g,0,none⟩) n cap)∧Hid (RepF w' w.heap.size w'.heap.size (some ⟨g,0,none⟩) n cap (aM (ls.map LayD.toLayP)))∧Below w.heap.size w w':=by
 obtain ⟨i0,hi0,hz0,hz1,hz2⟩:=info_parts bW
 have HLS:=I hls;have HI2:=I hi2;have HNL:=I hnil
 obtain ⟨n,hN⟩:∃n,n=ls.length:=⟨_,rfl⟩
 rw [←hN] at hn ⊢
 have HN:=I hN
 clear hls hi2 hN hnil
 go_enter Tryz.func44,Tryz.ntmps44
 go_wp2
 go_loopw [3,5,10] (fun v p i wt => ∃k nk:Nat,i=.int .i64 k∧k≤n∧nk≤72 * k∧Hid (wt.ownsRow w.heap.size 28 1 v nk ((aM ((ls.map LayD.toLayP).take k)).map (Value.float .f32))∧nk=(aM ((ls.map LayD.toLayP).take k)).length∧v≠.slice none 0 0)∧Hid (Below w.heap.size w wt)) (fun v p i wt=>n - (intOf i).toNat)
 case atStart=>exact ⟨0,0,rfl,Nat.zero_le _,by omega,I ⟨by simpa [aM] using World.ownsRow_made (base:=w.heap.size) (w.alloc (.cells #[.slice ma n mk] 35)) #[] 0 (aE w _).size (Nat.zero_le _) rfl,rfl,fun e=>by cases e⟩,I (bZ _ _ _)⟩
 case round =>
  obtain ⟨k,nk,rfl,hk,hnk,HO,HB⟩:=hrel
  by_cases hlt:k < n
  ·obtain ⟨l,hl⟩:=getElem?_lt (show k < ls.length by rw [←HN.out];exact hlt)
   have hii:=HI2.out l (List.mem_of_getElem? hl)
   have hnl:=HNL.out l (List.mem_of_getElem? hl)
   have HT:=I (pN hl)
   obtain ⟨-,-,-,-,-,⟨hfw,hfb⟩,-⟩:=bG HLS.out hl
   obtain ⟨b,off,rfl,hb,⟨c0,c1,c2,c3,c4⟩,-,-⟩:=bG (HLS.out.below HB.out) hl
   have HFW:=I (fun W (hb:Below w.heap.size w W)=>(hfw.below hb).rd);have HFB:=I (fun W (hb:Below w.heap.size w W)=>(hfb.below hb).rd)
   have HNW:=I hnl.1;have HNB:=I hnl.2
   clear hfw hfb hnl hl
   obtain ⟨⟨kk,li,lo,lws,lbs⟩,wa,wk,ba,bk⟩:=l
   simp only at c0 c1 c2 c3 c4 hii HT HFW HFB HNW HNB
   have h1:∀xs:List Nat,∀u∈xs.map (Value.float .f32),u.oneCell'=true:=by intro xs u hu;obtain ⟨x,_,rfl⟩:=List.mem_map.1 hu;rfl
   have H1:=I h1
   obtain ⟨m1,hm1⟩:∃m,m=lws.length:=⟨_,rfl⟩
   obtain ⟨m2,hm2⟩:∃m,m=lbs.length:=⟨_,rfl⟩
   rw [←hm1] at c3 hii;rw [←hm2] at c4 hii
   have HM1:=I hm1;have HM2:=I hm2
   have HOW:=I HO.out.1;have HNK:=I HO.out.2.1;have HV0:=I HO.out.2.2
   have hbs:=HB.out.size
   clear h1 hm1 hm2 HO
   go_upto_region 5 with fail
   have BX:=I (BoxN.alloc wr #[.int .i64 kk,.int .i64 li,.int .i64 lo,.slice wa m1 wk,.slice ba m2 bk] 99)
   have HB4:=I (HB.out.alloc hbs (.cells #[.int .i64 kk,.int .i64 li,.int .i64 lo,.slice wa m1 wk,.slice ba m2 bk] 99))
   have HOW4:=I (HOW.out.alloc (.cells #[.int .i64 kk,.int .i64 li,.int .i64 lo,.slice wa m1 wk,.slice ba m2 bk] 99))
   have hs4:(wr.alloc (.cells #[.int .i64 kk,.int .i64 li,.int .i64 lo,.slice wa m1 wk,.slice ba m2 bk] 99)).heap.size=wr.heap.size+1:=by simp
   clear c0 c1 c2 c3 c4 hb
   generalize wr.alloc (.cells #[.int .i64 kk,.int .i64 li,.int .i64 lo,.slice wa m1 wk,.slice ba m2 bk] 99)=W4 at BX HB4 HOW4 hs4 ⊢
   obtain ⟨-,d0,d1,d2,d3,d4,-⟩:=BX.out.five
   clear BX
   go_wp2_with (at_builtin;refine sU rfl _ _ 25 rfl w.heap.size i0 (.float .f32 0) 4 Tryz.underlying25 hi0 hz0 hz1 hz2 rfl _ nk _ rfl HOW4.out wa m1 wk (lws.map (Value.float .f32)) rfl HNW.out (by rw [List.length_map,HM1.out]) (HFW.out _ HB4.out) (H1.out lws) ?c3 ?c4 ?c5 ?_)
   case c3=>unfold maxLen;omega
   case c4=>omega
   case c5=>omega
   intro v5 w5 hown5 hb5 hbs5 hkeep hv5
   replace HV0:=I (hv5 HV0.out)
   clear hv5
   have e4:w5.cell? ⟨wr.heap.size,4,none⟩=some (.slice ba m2 bk):=(hkeep ⟨wr.heap.size,4,none⟩ (by first | exact Nat.lt_succ_self _ | (rw [hs4];exact Nat.lt_succ_self _)) (fun e=>by
    have h:=(HOW.out.lt _ e).2
    exact absurd h (Nat.lt_irrefl _))).trans d4
   have HB5:=I (HB4.out.trans hb5)
   have HOW5:=I hown5
   clear hown5 hb5 hkeep d0 d1 d2 d3 d4 HOW4 HOW hs4 HB4 HB
   go_wp2_with (at_builtin;refine sU rfl _ _ 25 rfl w.heap.size i0 (.float .f32 0) 4 Tryz.underlying25 hi0 hz0 hz1 hz2 rfl _ (nk+m1) _ rfl HOW5.out ba m2 bk (lbs.map (Value.float .f32)) rfl HNB.out (by rw [List.length_map,HM2.out]) (HFB.out _ HB5.out) (H1.out lbs) ?c3 ?c4 ?c5 ?_)
   case c3=>unfold maxLen;omega
   case c4=>omega
   case c5=>exact hbs5
   intro v6 w6 hown6 hb6 hbs6 hkeep hv6
   replace HV0:=I (hv6 HV0.out)
   clear hv6
   have HB6:=I (HB5.out.trans hb6)
   have HOW6:=I hown6
   clear hown6 hb6 hkeep e4 HOW5 HB5
   go_wp2
   refine ⟨?rel,?measure⟩
   case rel=>exact ⟨k+1,nk+m1+m2,by go_num,hlt,by omega,I ⟨by rw [HT.out,List.map_append,List.map_append,List.append_assoc];exact HOW6.out,by rw [HT.out,List.length_append,List.length_append,HNK.out,HM1.out,HM2.out],HV0.out⟩,HB6⟩
   case measure=>simp [intOf];omega
  ·have e:k=n:=by omega
   subst e
   have e2:(ls.map LayD.toLayP).take k=ls.map LayD.toLayP:=by rw [HN.out,←List.length_map (f:=LayD.toLayP)];exact List.take_length
   rw [e2] at HO
   have hok:=rO HLS.out
   obtain ⟨ad,cap,rfl,hr⟩:=RepF.of_owns HO.out.1 hok
   obtain ⟨g,rfl⟩:∃g,ad=some ⟨g,0,none⟩:=by
    rcases hr.row.own.2 with ⟨e1,_⟩ | ⟨g,cap',cur,e1,_⟩
    ·exact absurd e1 HO.out.2.2
    ·cases e1;exact ⟨g,rfl⟩
   have HR:=I hr
   clear hok hr HO e2
   go_wp2
   go_ret
   exact ⟨g,_,cap,rfl,HR,HB.out⟩
theorem fV (w:World) (ad:Option Addr) (cap:Nat) (us:List LayD) (h:SeeR aX w ad cap us) :
  Calls Tryz.prog 33 #[.agg #[.slice ad us.length cap]] w fun e w'=>e=.returned (.bool (dG (us.map LayD.toLayP)))∧Below w.heap.size w w':=by
 have hm:=Nat.le_trans h.le h.cap
 unfold maxLen at hm
 obtain ⟨R,hR⟩:∃R,R=dG (us.map LayD.toLayP):=⟨_,rfl⟩
 rw [←hR]
 unfold dG at hR
 rw [List.length_map] at hR
 obtain ⟨n,hN⟩:∃n,n=us.length:=⟨_,rfl⟩
 rw [←hN] at hR hm ⊢
 have b1:=aE w (.cells #[.slice ad n cap] 35)
 have XB:=I (BoxN.alloc w #[.slice ad n cap] 35)
 have HR:=I hR;have HN:=I hN;have H:=I (h.below b1);have B1:=I b1
 clear hR hN h b1
 go_enter Tryz.func33,Tryz.ntmps33
 go_upto_region 2 with fail
 generalize w.alloc (.cells #[.slice ad n cap] 35)=v1 at H XB B1 ⊢
 obtain ⟨gb,hgb⟩:∃gb,gb=w.heap.size:=⟨_,rfl⟩
 rw [←hgb] at XB ⊢
 clear hgb
 go_wp2
 go_loopw [8] (fun i wt => ∃k:Nat,i=.int .i64 k∧k≤n∧Hid (dA (us.map LayD.toLayP) k=true)∧Hid (Below v1.heap.size v1 wt)) (fun i _=>n - (intOf i).toNat)
 case atStart=>exact ⟨0,rfl,Nat.zero_le _,I rfl,I (O _ _)⟩
 case round =>
  obtain ⟨k,rfl,hk,HL,HB⟩:=hrel
  by_cases hlt:k < n
  ·obtain ⟨l,hl⟩:=getElem?_lt (show k < us.length by rw [←HN.out];exact hlt)
   obtain ⟨b,off,had,hbl,⟨p0,p1,p2,p3,p4⟩,hf,hok⟩:=bG (H.out.below HB.out) hl
   have hlp:(us.map LayD.toLayP)[k]? = some l.toLayP:=by rw [List.getElem?_map,hl];rfl
   have HLP:=I hlp
   obtain ⟨⟨lk,li,lo,ws,bs⟩,wa,wk,ba,bk⟩:=l
   simp only at p0 p1 p2 p3 p4 hf
   have hlw:ws.length≤maxLen:=Nat.le_trans hf.1.len hf.1.cap
   have hlb:bs.length≤maxLen:=Nat.le_trans hf.2.len hf.2.cap
   have KV:=I (fun W=>sE lk li lo wa ba ws.length wk bs.length bk hlw hlb W)
   have hLB:jW ⟨lk,li,lo,ws,bs⟩=vE lk li lo ws.length bs.length:=rfl
   have HLB:=I hLB
   have hprev:∀q,k=q+1→∃p:LayD,(us.map LayD.toLayP)[q]? = some p.toLayP∧wr.cell? ⟨b,off+q * 5+2,none⟩=some (.int .i64 p.o):=by
    intro q hq
    obtain ⟨p,hp⟩:=getElem?_lt (show q < us.length by rw [←HN.out];omega)
    obtain ⟨b',off',had',-,⟨-,-,d2,-,-⟩,-,-⟩:=bG (H.out.below HB.out) hp
    rw [had] at had';cases had'
    exact ⟨p,by rw [List.getElem?_map,hp];rfl,d2⟩
   have HPV:=I hprev
   subst had
   clear hlp hf hok hlw hlb hLB hprev hl
   obtain ⟨x,hx⟩:∃x,x=ws.length:=⟨_,rfl⟩
   obtain ⟨y,hy⟩:∃y,y=bs.length:=⟨_,rfl⟩
   rw [←hx] at p3 KV HLB
   rw [←hy] at p4 KV HLB
   clear hx hy
   go_upto_region 4 with fail
   have b2:=aE wr (.cells #[.int .i64 lk,.int .i64 li,.int .i64 lo,.slice wa x wk,.slice ba y bk] 99)
   have LBX:=I (BoxN.alloc wr #[.int .i64 lk,.int .i64 li,.int .i64 lo,.slice wa x wk,.slice ba y bk] 99)
   replace HB:=I (aA HB.out b2)
   have HPV2:Hid (∀q,k=q+1→∃p:LayD,(us.map LayD.toLayP)[q]? = some p.toLayP∧(wr.alloc (.cells #[.int .i64 lk,.int .i64 li,.int .i64 lo,.slice wa x wk,.slice ba y bk] 99)).cell? ⟨b,off+q * 5+2,none⟩=some (.int .i64 p.o)):=I (fun q hq=>by
    obtain ⟨p,h1,h2⟩:=HPV.out q hq
    exact ⟨p,h1,(b2.cell (p:=⟨b,off+q * 5+2,none⟩) hbl).trans h2⟩)
   have hbl2:=Nat.lt_of_lt_of_le hbl b2.size
   clear b2 HPV p0 p1 p2 p3 p4
   generalize wr.alloc (.cells #[.int .i64 lk,.int .i64 li,.int .i64 lo,.slice wa x wk,.slice ba y bk] 99)=w2 at LBX HB HPV2 hbl2 ⊢
   generalize wr.heap.size=lb at LBX hbl ⊢
   have CM:Hid (∀W,Below w2.heap.size w2 W→(W.cell? ⟨lb,0,none⟩=some (.int .i64 lk)∧W.cell? ⟨lb,1,none⟩=some (.int .i64 li)∧W.cell? ⟨lb,2,none⟩=some (.int .i64 lo)∧W.cell? ⟨lb,3,none⟩=some (.slice wa x wk)∧W.cell? ⟨lb,4,none⟩=some (.slice ba y bk))∧W.cell? ⟨gb,0,none⟩=some (.slice (some ⟨b,off,none⟩) n cap)):=I (fun W hb=>by
    obtain ⟨-,q0,q1,q2,q3,q4,-⟩:=(LBX.out.below hb).five
    exact ⟨⟨q0,q1,q2,q3,q4⟩,(((XB.out.below HB.out).below hb).one1).2.1⟩)
   clear LBX XB hbl
   cases e1:vE lk li lo x y
   ·rw [e1] at KV HLB
    have HF:=I (wF HL.out HLP.out HLB.out)
    have HRF:Hid (R=false):=I (by rw [HR.out,lP HF.out (show k+1≤n from hlt)];rfl)
    clear e1
    refine cC (Fb (.bool false)) (by kernel_rfl) (by kernel_rfl) ?_
    repeat (refine jB (aC _) (fun K hK W hW=>?_);obtain ⟨⟨d0,d1,d2,d3,d4⟩,d5⟩:=CM.out W hW;first | (go_simp;refine hK _ ?_;clear hK K d0 d1 d2 d3 d4 d5) | (go_simp;refine ⟨(KV.out _).mono ?_,?_⟩;(rintro e w1 ⟨rfl,hb⟩;exact ⟨_,rfl,aA hW hb,rfl⟩);(rintro v hv;obtain rfl:=hv;refine hK _ ?_;clear hK K d0 d1 d2 d3 d4 d5)))
    refine eX ?_
    intro w3 hw3
    have HB3:=I (aA HB.out hw3);clear hw3
    go_wp2
    go_ret
    exact ⟨by rw [HRF.out];rfl,aA B1.out HB3.out⟩
   ·rw [e1] at KV HLB
    clear e1
    rcases k with _ | q
    ·have HL1:Hid (dA (us.map LayD.toLayP) 1=true):=I (by rw [tT HLP.out];exact HLB.out)
     refine cC (Fb (.bool true)) (by kernel_rfl) (by kernel_rfl) ?_
     repeat (refine jB (aC _) (fun K hK W hW=>?_);obtain ⟨⟨d0,d1,d2,d3,d4⟩,d5⟩:=CM.out W hW;first | (go_simp;refine hK _ ?_;clear hK K d0 d1 d2 d3 d4 d5) | (go_simp;refine ⟨(KV.out _).mono ?_,?_⟩;(rintro e w1 ⟨rfl,hb⟩;exact ⟨_,rfl,aA hW hb,rfl⟩);(rintro v hv;obtain rfl:=hv;refine hK _ ?_;clear hK K d0 d1 d2 d3 d4 d5)))
     refine eX ?_
     intro w3 hw3
     have HB3:=I (aA HB.out hw3);clear hw3
     go_wp2
     go_roundw
     case rel=>exact ⟨1,by go_num,hlt,HL1,HB3⟩
     case measure=>simp [intOf];omega
    ·obtain ⟨p,hp,dp⟩:=HPV2.out q rfl
     have CP:Hid (∀W,Below w2.heap.size w2 W→W.cell? ⟨b,off+q * 5+2,none⟩=some (.int .i64 p.o)):=I (fun W hb=>(hb.cell (p:=⟨b,off+q * 5+2,none⟩) hbl2).trans dp)
     have HLN:=I (oK HL.out HLP.out hp)
     obtain ⟨po,hpo⟩:∃po,po=p.o:=⟨_,rfl⟩
     rw [←hpo] at CP HLN
     clear hp dp HPV2 hpo
     have hqn:q < n:=by omega
     have hwq:IntKind.i64.wrap (q:Int)=(q:Int):=by rw [IntKind.wrap_i64];omega
     by_cases hd:po=li
     ·subst hd
      have HL1:Hid (dA (us.map LayD.toLayP) (q+1+1)=true):=I (by rw [HLN.out,HLB.out];simp)
      refine cC (Fb (.bool true)) (by kernel_rfl) (by kernel_rfl) ?_
      repeat (refine jB (aC _) (fun K hK W hW=>?_);obtain ⟨⟨d0,d1,d2,d3,d4⟩,d5⟩:=CM.out W hW;have d6:=CP.out W hW;first | (go_simp;refine hK _ ?_;clear hK K d0 d1 d2 d3 d4 d5 d6) | (go_simp;refine ⟨(KV.out _).mono ?_,?_⟩;(rintro e w1 ⟨rfl,hb⟩;exact ⟨_,rfl,aA hW hb,rfl⟩);(rintro v hv;obtain rfl:=hv;refine hK _ ?_;clear hK K d0 d1 d2 d3 d4 d5 d6)))
      refine eX ?_
      intro w3 hw3
      have HB3:=I (aA HB.out hw3);clear hw3
      go_wp2
      go_roundw
      case rel=>exact ⟨q+1+1,by go_num,hlt,HL1,HB3⟩
      case measure=>simp [intOf];omega
     ·have HRF:Hid (R=false):=I (by rw [HR.out,lP (k:=q+1+1) (by rw [HLN.out,HLB.out];simpa using hd) (show q+1+1≤n from hlt)];rfl)
      have f1:(li != po)=true:=by simp;omega
      have f2:(li == po)=false:=by simp;omega
      refine cC (Fb (.bool true)) (by kernel_rfl) (by kernel_rfl) ?_
      repeat (refine jB (aC _) (fun K hK W hW=>?_);obtain ⟨⟨d0,d1,d2,d3,d4⟩,d5⟩:=CM.out W hW;have d6:=CP.out W hW;first | (go_simp;refine hK _ ?_;clear hK K d0 d1 d2 d3 d4 d5 d6) | (go_simp;refine ⟨(KV.out _).mono ?_,?_⟩;(rintro e w1 ⟨rfl,hb⟩;exact ⟨_,rfl,aA hW hb,rfl⟩);(rintro v hv;obtain rfl:=hv;refine hK _ ?_;clear hK K d0 d1 d2 d3 d4 d5 d6)))
      refine eX ?_
      intro w3 hw3
      have HB3:=I (aA HB.out hw3);clear hw3
      go_wp2
      go_ret
      exact ⟨by rw [HRF.out];rfl,aA B1.out HB3.out⟩
  ·have hkn:k=n:=by omega
   subst hkn
   have HE:Hid (R=decide (1≤k∧k≤6)):=I (by rw [HR.out,HL.out,Bool.true_and])
   obtain ⟨-,q0,-⟩:=(XB.out.below HB.out).one1
   by_cases h1:1≤k
   ·have HE2:Hid (R=decide ((k:Int)≤6)):=I (by rw [HE.out];exact decide_eq_decide.2 ⟨fun h=>by omega,fun h=>⟨h1,by omega⟩⟩)
    go_wp2
    go_ret
    exact ⟨by rw [HE2.out];rfl,aA B1.out HB.out⟩
   ·have HE2:Hid (R=false):=I (by rw [HE.out];simp;omega)
    go_wp2
    go_ret
    exact ⟨by rw [HE2.out];rfl,aA B1.out HB.out⟩
end Go.Proofs.YtpadlmidojpbeaaGreat
