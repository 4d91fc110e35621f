/- Joined texts 4. No condition. -/
import Derived.Test.YtpadlmidojpbeaaGreatMc0
import Derived.Test.YtpadlmidojpbeaaGreatMc2
import Derived.Test.YtpadlmidojpbeaaGreatMc3
set_option linter.unusedVariables false
set_option linter.unusedSimpArgs false
set_option maxRecDepth 100000
set_option maxHeartbeats 64000000
namespace Go.Proofs.YtpadlmidojpbeaaGreat
open Go Go.RowKit
def oL (X:List Nat) (y n:Nat):List Nat:=bA n fun i=>dQ .mul .f32 (X.getD i 0) y
theorem nZ (w:World) (g1 o1:Nat) (r c:Int) (a1:Option Addr) (c1 n:Nat) (xs:List Nat) (y:Nat) (p0:w.cell? ⟨g1,o1,none⟩=some (.int .i64 r)) (p1:w.cell? ⟨g1,o1+1,none⟩=some (.int .i64 c)) (p2:w.cell? ⟨g1,o1+2,none⟩=some (.slice a1 n c1))
  (hx:F32s w a1 c1 xs) (hxl:xs.length=n) (hn:n≤256) :
  Calls Tryz.prog 108 #[.pointer (some ⟨g1,o1,none⟩),.float .f32 y] w (bN r c n (oL (xs.map (cn .f32)) (cn .f32 y) n) w):=by
 obtain ⟨i0,hi0,hz0,hzs,hz2⟩:=info_parts bW
 have HX:=I hx;have HXL:=I hxl
 clear hx hxl
 have hg1:=World.block_lt_of_cell? w _ p0
 simp only at hg1
 go_enter Tryz.func108,Tryz.ntmps108
 go_upto_region 1 with fail
 obtain ⟨W0,hW0⟩:∃W,W=w.alloc (.cells #[.int .i64 0,.int .i64 0,.slice none 0 0] 37):=⟨_,rfl⟩
 have k0:W0.cell? ⟨g1,o1,none⟩=some (.int .i64 r):=by rw [hW0];go_simp
 have k1:W0.cell? ⟨g1,o1+1,none⟩=some (.int .i64 c):=by rw [hW0];go_simp
 have HW0:=I hW0
 have hs0:W0.heap.size=w.heap.size+1:=by rw [hW0];simp
 rw [←hW0]
 have HP:=I (And.intro p1 (And.intro p2 trivial))
 clear hW0 p0 p1 p2
 go_cut [5] (fun p5 wx => ∃ob va vc,p5=.pointer (some ⟨ob,0,none⟩)∧Hid (Bld w wx w.heap.size ob r c va 0 vc []))
 case first =>
  go_region_held3 (fun w'=>w'.cell? ⟨g1,o1,none⟩=some (.int .i64 r)∧w'.cell? ⟨g1,o1+1,none⟩=some (.int .i64 c)) (go_keep) (first | fail)
  all_goals (try go_wp2_with fail)
  all_goals go_meet
  ·exact ⟨_,_,_,rfl,I (by rw [HW0.out];exact (Bld.start1 w r c).move (Below.drew (O _ _)))⟩
  ·exact ⟨_,_,_,rfl,I (by rw [HW0.out];exact (Bld.start2 w r c).move (Below.drew (O _ _)))⟩
 case rest =>
  obtain ⟨ob,va,vc,rfl,HB⟩:=hcut
  clear k0 k1 HW0 hs0
  go_wp2
  go_loopw [6] (fun i wt => ∃k:Nat,i=.int .i64 k∧k≤n∧∃va vc zs,Hid (Bld w wt w.heap.size ob r c va k vc zs)∧Hid (zs.map (cn .f32)=oL (xs.map (cn .f32)) (cn .f32 y) k)) (fun i _=>n - (intOf i).toNat)
  case atStart=>exact ⟨0,rfl,Nat.zero_le _,va,vc,[],HB,I rfl⟩
  case round =>
   clear HB
   obtain ⟨k,rfl,hk,va,vc,zs,HB,HZ⟩:=hrel
   have hbb:=HB.out.below
   have hP:=HP.out
   have r1:wr.cell? ⟨g1,o1+1,none⟩=some (.int .i64 c):=(hbb.cell (p:=⟨g1,o1+1,none⟩) hg1).trans hP.1
   have r2:wr.cell? ⟨g1,o1+2,none⟩=some (.slice a1 n c1):=(hbb.cell (p:=⟨g1,o1+2,none⟩) hg1).trans hP.2.1
   by_cases hlt:k < n
   ·obtain ⟨b1,f1,rfl,hl1,hc1⟩:=HX.out.spot (k:=k) (by rw [HXL.out];exact hlt)
    have d1:=hc1 k (by rw [HXL.out];exact hlt)
    have hx2:=bO xs k
    obtain ⟨x,hx⟩:∃x,x=xs.getD k 0:=⟨_,rfl⟩
    rw [←hx] at d1 hx2
    have KS:Hid (∀W,Below w.heap.size w W→W.cell? ⟨ob,2,none⟩=some (.slice va k vc)→W.cell? ⟨g1,o1+1,none⟩=some (.int .i64 c)∧W.cell? ⟨g1,o1+2,none⟩=some (.slice (some ⟨b1,f1,none⟩) n c1)∧W.cell? ⟨b1,f1+k,none⟩=some (.float .f32 x)∧W.cell? ⟨ob,2,none⟩=some (.slice va k vc)):=I (fun W hb ho=>⟨(hb.cell (p:=⟨g1,o1+1,none⟩) hg1).trans hP.1,(hb.cell (p:=⟨g1,o1+2,none⟩) hg1).trans hP.2.1,(hb.cell (p:=⟨b1,f1+k,none⟩) hl1).trans d1,ho⟩)
    have HXY:=I (And.intro hx2 trivial)
    have HS:=I (KS.out wr HB.out.below HB.out.out.three.2.2.2.1)
    clear hc1 hx d1 hx2 hbb hP
    go_upto_region 5 with fail
    clear r1 r2
    refine aL 14 [11,12] (fun W=>W.cell? ⟨g1,o1+1,none⟩=some (.int .i64 c)∧W.cell? ⟨g1,o1+2,none⟩=some (.slice (some ⟨b1,f1,none⟩) n c1)∧W.cell? ⟨b1,f1+k,none⟩=some (.float .f32 x)∧W.cell? ⟨ob,2,none⟩=some (.slice va k vc)) (fun _ _ _=>False) (fun _ _ _ _ _=>False) (by kernel_rfl) (by kernel_rfl) HS.out (fun W q h=>by simpa using h) ?_
    iterate 10 (refine aD (by rfl) HS.out (fun K hK W hW=>?_);obtain ⟨e0,e1,e2,e3⟩:=hW;go_simp;refine hK _ ?_;clear hK K e0 e1 e2 e3)
    refine aD (by rfl) HS.out (fun K hK W hW=>?_)
    go_simp
    have hz:=bE .mul .f32 x y W
    have hzl:=bL .mul .f32 x y W
    generalize dH .mul .f32 x y W=z at hz hzl ⊢
    refine hK _ ?_
    have HZ2:=I hz;have HZL:=I hzl
    clear hK K hW hz hzl
    refine aF (by rfl) HS.out (fun K hK q=>?_)
    have hbq:=below_drewN (O wr.heap.size wr) q
    go_simp
    have hbA:Below wr.heap.size wr ((wr.drewN q).alloc (.cells #[.float .f32 z] 28)):=hbq.alloc (by simp) _
    have hs1:=KS.out _ ((HB.out.below.trans (hbA.mono HB.out.below.size))) ((HB.out.move hbA).out.three.2.2.2.1)
    have HBA:=I hbA;have HS1:=I hs1
    refine ⟨hs1,hK _ _ ?_⟩
    clear hK K hbq hbA hs1
    refine aF (by rfl) HS1.out (fun K hK q2=>?_)
    refine bP rfl _ _ 25 rfl w.heap.size 28 i0 _ 1 4 Tryz.underlying25 hi0 hz0 hzs hz2 rfl (by decide) (.slice va k vc) k (zs.map (Value.float .f32)) rfl (HB.out.move (below_drewN HBA.out q2)).row ⟨wr.heap.size,0,none⟩ 1 1 [.float .f32 z] rfl rfl (World.news_of_block (cs:=#[.float .f32 z]) (t:=28) (fr:=(0,0)) (heap_alloc_new (wr.drewN q) _)) (by simp [Value.oneCell']) (by unfold maxLen;omega) (by omega) (Nat.le_trans HB.out.below.size (Nat.le_trans HBA.out.size (J _))) ?_
    intro v' w9 ho9 hg9 hat9 hb9
    obtain ⟨va',vc',rfl,hc9,hf9,hbel9,hnew⟩:=HB.out.push (W:=(wr.drewN q).drewN q2) HZL.out (below_drewN (below_drewN (O _ _) q) q2) ho9 hg9 (by simpa using hat9)
    have hs9:=KS.out w9 hbel9 hc9
    have HS9:=I hs9;have HF9:=I (And.intro hc9 hf9);have HN9:=I hnew
    have HM9:=I (fS HZ.out (f:=fun i=>dQ .mul .f32 ((xs.map (cn .f32)).getD i 0) (cn .f32 y)) (by rw [HZ2.out];exact (by rw [HXY.out.1])))
    refine ⟨hs9,hK _ _ ?_⟩
    clear hK K ho9 hg9 hat9 hb9 hc9 hf9 hbel9 hnew hs9 HS1 HBA
    refine aD (by rfl) HS9.out (fun K hK W hW=>?_)
    go_simp
    refine hK _ ?_
    clear hK K hW
    refine aP (fun q3=>?_)
    have hc9:(w9.drewN q3).cell? ⟨ob,2,none⟩=some (.slice va k vc):=by simpa using HF9.out.1
    have hf9:(w9.drewN q3).frozen? ⟨ob,2,none⟩=false:=by simpa using HF9.out.2
    have HN:=I (HN9.out.move (below_drewN (O _ _) q3))
    clear HN9 HS9 HF9 HB HZ HS KS
    go_wp2
    go_roundw
    case rel=>exact ⟨k+1,by go_num,hlt,_,_,_,HN,HM9⟩
    case measure=>simp [intOf];omega
   ·have hkn:k=n:=by omega
    subst hkn
    obtain ⟨ol,t0,t1,t2,tf⟩:=HB.out.out.three
    obtain ⟨rl,u0,u1,u2,uf⟩:=HB.out.res.three
    have HFIN:=I HB.out.fin
    clear hbb hP r1
    go_wp2
    try simp only [Exit.inBlock,Exit.then]
    refine bodyPost_ret (v:=.agg #[.int .i64 r,.int .i64 c,.slice va k vc]) (by simp [results,Tryz.results108,go_sem,u0,u1,u2]) rfl ⟨va,vc,zs,rfl,I HFIN.out.1,HZ,HFIN.out.2⟩
def vG (X:List Nat) (n:Nat):List Nat:=bA n fun i=>gI (X.getD i 0)
theorem Bg (x:Nat):cn .f32 (gI x)=gI (cn .f32 x):=by
 have h0:cn .f32 0=0:=bT
 have e:FloatKind.f32.format.order (cn .f32 x) 0=FloatKind.f32.format.order x 0:=by
  rw [←tC .f32 x 0,h0]
 unfold gI
 rw [e,iK]
 split
 ·rfl
 ·exact h0
theorem AE (x:Nat):∃b1 b2,(FloatKind.f32.format.order x 0 == some .lt)=b1∧(FloatKind.f32.format.order x 0 == some .eq)=b2∧gI x=if (b1 || b2)=true then 0 else x:=by
 refine ⟨_,_,rfl,rfl,?_⟩
 unfold gI
 cases h:FloatKind.f32.format.order x 0 with
 | none=>rw [CE h];rfl
 | some o =>
  have hn:eR .f32 x=false:=by
   cases e:eR .f32 x with
   | false=>rfl
   | true=>rw [eH (.inl e)] at h;cases h
  rw [hn]
  cases o <;> rfl
theorem xZ (w:World) (g1 o1:Nat) (r c:Int) (a1:Option Addr) (c1 n:Nat) (xs:List Nat) (p0:w.cell? ⟨g1,o1,none⟩=some (.int .i64 r)) (p1:w.cell? ⟨g1,o1+1,none⟩=some (.int .i64 c)) (p2:w.cell? ⟨g1,o1+2,none⟩=some (.slice a1 n c1))
  (hx:F32s w a1 c1 xs) (hxl:xs.length=n) (hn:n≤256) :
  Calls Tryz.prog 111 #[.pointer (some ⟨g1,o1,none⟩)] w (bN r c n (vG (xs.map (cn .f32)) n) w):=by
 obtain ⟨i0,hi0,hz0,hzs,hz2⟩:=info_parts bW
 have HX:=I hx;have HXL:=I hxl
 clear hx hxl
 have hg1:=World.block_lt_of_cell? w _ p0
 simp only at hg1
 go_enter Tryz.func111,Tryz.ntmps111
 go_upto_region 1 with fail
 obtain ⟨W0,hW0⟩:∃W,W=w.alloc (.cells #[.int .i64 0,.int .i64 0,.slice none 0 0] 37):=⟨_,rfl⟩
 have k0:W0.cell? ⟨g1,o1,none⟩=some (.int .i64 r):=by rw [hW0];go_simp
 have k1:W0.cell? ⟨g1,o1+1,none⟩=some (.int .i64 c):=by rw [hW0];go_simp
 have HW0:=I hW0
 have hs0:W0.heap.size=w.heap.size+1:=by rw [hW0];simp
 rw [←hW0]
 have HP:=I (And.intro p1 (And.intro p2 trivial))
 clear hW0 p0 p1 p2
 go_cut [3] (fun p5 wx => ∃ob va vc,p5=.pointer (some ⟨ob,0,none⟩)∧Hid (Bld w wx w.heap.size ob r c va 0 vc []))
 case first =>
  go_region_held3 (fun w'=>w'.cell? ⟨g1,o1,none⟩=some (.int .i64 r)∧w'.cell? ⟨g1,o1+1,none⟩=some (.int .i64 c)) (go_keep) (first | fail)
  all_goals (try go_wp2_with fail)
  all_goals go_meet
  ·exact ⟨_,_,_,rfl,I (by rw [HW0.out];exact (Bld.start1 w r c).move (Below.drew (O _ _)))⟩
  ·exact ⟨_,_,_,rfl,I (by rw [HW0.out];exact (Bld.start2 w r c).move (Below.drew (O _ _)))⟩
 case rest =>
  obtain ⟨ob,va,vc,rfl,HB⟩:=hcut
  clear k0 k1 HW0 hs0
  go_wp2
  go_loopw [4] (fun i wt => ∃k:Nat,i=.int .i64 k∧k≤n∧∃va vc zs,Hid (Bld w wt w.heap.size ob r c va k vc zs)∧Hid (zs.map (cn .f32)=vG (xs.map (cn .f32)) k)) (fun i _=>n - (intOf i).toNat)
  case atStart=>exact ⟨0,rfl,Nat.zero_le _,va,vc,[],HB,I rfl⟩
  case round =>
   clear HB
   obtain ⟨k,rfl,hk,va,vc,zs,HB,HZ⟩:=hrel
   have hbb:=HB.out.below
   have hP:=HP.out
   have r1:wr.cell? ⟨g1,o1+1,none⟩=some (.int .i64 c):=(hbb.cell (p:=⟨g1,o1+1,none⟩) hg1).trans hP.1
   have r2:wr.cell? ⟨g1,o1+2,none⟩=some (.slice a1 n c1):=(hbb.cell (p:=⟨g1,o1+2,none⟩) hg1).trans hP.2.1
   by_cases hlt:k < n
   ·obtain ⟨b1,f1,rfl,hl1,hc1⟩:=HX.out.spot (k:=k) (by rw [HXL.out];exact hlt)
    have d1:=hc1 k (by rw [HXL.out];exact hlt)
    have hx2:=bO xs k
    have hxb:=HX.out.lt _ (iB (k:=k) (by rw [HXL.out];exact hlt))
    obtain ⟨x,hx⟩:∃x,x=xs.getD k 0:=⟨_,rfl⟩
    rw [←hx] at d1 hx2 hxb
    have HXB:=I hxb;clear hxb
    have HXY:=I hx2
    obtain ⟨ol,t0,t1,t2,tf⟩:=HB.out.out.three
    have d1:=(HB.out.below.cell (p:=⟨b1,f1+k,none⟩) hl1).trans d1
    have HRW:=I HB.out.row
    clear hc1 hx hx2 hbb hP r1 t0 t1
    have d2:wr.cell? ⟨b1,f1+k,none⟩=some (.float .f32 x):=d1
    obtain ⟨y1,y2,e1,e2,e3⟩:=AE x
    have HRL:=I e3
    have HXL2:Hid (x < 4294967296):=I (by have:=HXB.out;exact this)
    clear e3 d1
    cases y1 <;> cases y2
    all_goals
     obtain ⟨z,hz⟩:∃z,z=gI x:=⟨_,rfl⟩
     have hzl:z < 4294967296:=by rw [hz];exact zW HXL2.out
     have HZ2:Hid (cn .f32 z=gI ((xs.map (cn .f32)).getD k 0)):=I (by rw [hz,HXY.out];exact Bg x)
     have hrl:=HRL.out
     rw [←hz] at hrl
     simp only [Bool.or_self,Bool.or_true,Bool.true_or,Bool.false_or,if_true,if_false,Bool.false_eq_true] at hrl
     subst hrl
     have HZL:=I hzl
     clear hz hzl
     go_wp2_with (at_builtin;refine cI rfl _ _ 25 rfl w.heap.size i0 _ 1 4 Tryz.underlying25 hi0 hz0 hzs hz2 rfl (by decide) rfl (by intro u hu;simp at hu;subst hu;rfl) _ _ _ rfl HRW.out (by go_simp) ?c3 ?c4 ?c5 ?_)
     case c3=>unfold maxLen;omega
     case c4=>omega
     case c5=>exact HB.out.below.size
     intro v' w9 ho9 hg9 hat9 hb9 hs9
     obtain ⟨va',vc',rfl,hc9,hf9,hbel9,hnew⟩:=HB.out.push (W:=wr) HZL.out (O _ _) ho9 hg9 (by simpa using hat9)
     have HN:=I hnew
     have HM9:=I (fS HZ.out (f:=fun i=>gI ((xs.map (cn .f32)).getD i 0)) HZ2.out)
     clear ho9 hg9 hat9 hb9 hbel9 hnew HB HZ HRW
     go_wp2
     go_roundw
     case rel=>exact ⟨k+1,by go_num,hlt,_,_,_,HN,HM9⟩
     case measure=>simp [intOf];omega
   ·have hkn:k=n:=by omega
    subst hkn
    obtain ⟨ol,t0,t1,t2,tf⟩:=HB.out.out.three
    obtain ⟨rl,u0,u1,u2,uf⟩:=HB.out.res.three
    have HFIN:=I HB.out.fin
    clear hbb hP r1
    go_wp2
    try simp only [Exit.inBlock,Exit.then]
    refine bodyPost_ret (v:=.agg #[.int .i64 r,.int .i64 c,.slice va k vc]) (by simp [results,Tryz.results111,go_sem,u0,u1,u2]) rfl ⟨va,vc,zs,rfl,I HFIN.out.1,HZ,HFIN.out.2⟩
theorem gR {xs ys:List Nat} {n:Nat} {G:Nat→Nat→Nat} (h:Made (fun i x y=>cn .f32 y=G i (cn .f32 x)) xs ys) (hl:ys.length=n):ys.map (cn .f32)=bA n fun i=>G i ((xs.map (cn .f32)).getD i 0):=by
 refine List.ext_getElem (by rw [List.length_map,aJ,hl]) fun i h1 h2=>?_
 rw [List.length_map] at h1
 have h3:=(h i h1).1
 rw [List.getElem_map]
 have e1:ys[i]=ys.getD i 0:=by rw [List.getD_eq_getElem?_getD,List.getElem?_eq_getElem h1];rfl
 rw [e1,h3]
 have e2:(bA n fun i=>G i ((xs.map (cn .f32)).getD i 0))[i]=(bA n fun i=>G i ((xs.map (cn .f32)).getD i 0)).getD i 0:=by rw [List.getD_eq_getElem?_getD,List.getElem?_eq_getElem h2];rfl
 rw [e2,gC _ (by rw [←hl];exact h1),bO]
theorem dW {w w':World} {r c:Int} {n:Nat} {P:List Nat} {e:Ending} {ad:Option Addr} {cap:Nat} {zs:List Nat} (h1:e=.returned (.agg #[.int .i64 r,.int .i64 c,.slice ad n cap])) (h2:Hid (RepF w' w.heap.size w'.heap.size ad n cap zs)) (h3:zs.map (cn .f32)=P) (h4:Below w.heap.size w w'):bN r c n P w e w':=⟨ad,cap,zs,h1,h2,I h3,h4⟩
theorem qJ (w:World) (r c:Nat) (ad:Option Addr) (cap:Nat) (xs:List Nat) (h:F32s w ad cap xs) (n:Nat) (hn:xs.length=n) (hl:n≤256) :
  Calls Tryz.prog 123 #[.agg #[.int .i64 r,.int .i64 c,.slice ad n cap]] w (bN r c n (vG (xs.map (cn .f32)) n) w):=by
 subst hn
 refine (sH w r c ad cap xs h hl).mono ?_
 rintro e w' ⟨a,c',ys,he,hr,hm,hb⟩
 refine dW he hr ?_ hb
 have hm2:Made (fun i x y=>cn .f32 y=gI (cn .f32 x)) xs ys:=fun i hi=>⟨by rw [(hm.out i hi).1];exact Bg _,(hm.out i hi).2⟩
 exact gR (G:=fun _ x=>gI x) hm2 hr.out.len
theorem kD (w:World) (r c:Nat) (ad:Option Addr) (cap:Nat) (xs:List Nat) (h:F32s w ad cap xs) (n:Nat) (hn:xs.length=n) (hl:n≤256) (z:Nat) :
  Calls Tryz.prog 120 #[.agg #[.int .i64 r,.int .i64 c,.slice ad n cap],.float .f32 z] w (bN r c n (oL (xs.map (cn .f32)) (cn .f32 z) n) w):=by
 subst hn
 refine (qI w r c ad cap xs h hl z).mono ?_
 rintro e w' ⟨a,c',ys,he,hr,hm,hb⟩
 exact dW he hr (gR (G:=fun _ x=>dQ .mul .f32 x (cn .f32 z)) hm.out hr.out.len) hb
theorem qK (i x g b o cap n:Nat) (ys:List Nat) (y:Nat) (w:World) (hy:y=ys.getD i 0) (hi:i < n) (hn:n≤256) (hz:w.cell? ⟨g,2,none⟩=some (.slice (some ⟨b,o,none⟩) n cap)) (hc:w.cell? ⟨b,o+i,none⟩=some (.float .f32 y)):Calls Tryz.prog 126 (#[.int .i64 i,.float .f32 x] ++ #[.pointer (some ⟨g,0,none⟩)]) w fun e w' => ∃z,e=.returned (.float .f32 z)∧Hid (cn .f32 z=dQ .add .f32 (cn .f32 x) ((ys.map (cn .f32)).getD i 0)∧z < 4294967296)∧Dr w w':=by
 have HY:=I hy;clear hy
 show Calls Tryz.prog 126 #[.int .i64 i,.float .f32 x,.pointer (some ⟨g,0,none⟩)] w _
 go_enter Tryz.func126,Tryz.ntmps126
 go_wp2
 go_ret
 exact ⟨_,rfl,I ⟨by rw [bE,bO,HY.out],bL _ .f32 _ _ _⟩,(Dr.refl _).drewN _⟩
theorem mD (w:World) (r c:Nat) (r2 c2:Int) (a1 a2:Option Addr) (k1 k2 n:Nat) (xs ys:List Nat) (h1:F32s w a1 k1 xs) (h2:F32s w a2 k2 ys) (hx:xs.length=n) (hy:ys.length=n) (hl:n≤256) :
  Calls Tryz.prog 94 #[.agg #[.int .i64 r,.int .i64 c,.slice a1 n k1],.agg #[.int .i64 r2,.int .i64 c2,.slice a2 n k2]] w (bN r c n (fM .add (xs.map (cn .f32)) (ys.map (cn .f32)) n) w):=by
 have HFIN:Hid (∀(w':World) (va:Option Addr) (vc:Nat) (zs:List Nat),RepF w' w.heap.size w'.heap.size va n vc zs→Made (fun i x z=>cn .f32 z=dQ .add .f32 (cn .f32 x) ((ys.map (cn .f32)).getD i 0)) xs zs→zs.map (cn .f32)=fM .add (xs.map (cn .f32)) (ys.map (cn .f32)) n):=I (fun w' va vc zs hr hm=>gR (G:=fun i x=>dQ .add .f32 x ((ys.map (cn .f32)).getD i 0)) hm hr.len)
 have K:=I (fun W (hW:Below w.heap.size w W) (hz:W.cell? ⟨w.heap.size+1,2,none⟩=some (.slice a2 n k2)) (hzl:w.heap.size+1 < W.heap.size)=>gA W r c a1 k1 xs (h1.below hW) (by rw [hx];exact hl) 126 #[.pointer (some ⟨w.heap.size+1,0,none⟩)] (fun i x z=>cn .f32 z=dQ .add .f32 (cn .f32 x) ((ys.map (cn .f32)).getD i 0)) (fun args W=>by kernel_rfl) (fun W' i x hb hi hxi=>by
  rw [hx] at hi
  have hbb:=hW.trans (hb.mono hW.size)
  obtain ⟨b,o,e,_,hc⟩:=(h2.below hbb).spot (k:=i) (by rw [hy];exact hi)
  have hcell:=(hb.cell (p:=⟨w.heap.size+1,2,none⟩) hzl).trans hz
  rw [e] at hcell
  refine (qK i x (w.heap.size+1) b o k2 n ys _ W' rfl hi hl hcell (hc i (by rw [hy];exact hi))).mono ?_
  rintro e w' ⟨z,he,hz2,hd⟩
  exact ⟨z,he,hz2,hd.below⟩))
 have RB0:=I (Box3.alloc2 (w.alloc (.cells #[.int .i64 r,.int .i64 c,.slice a1 n k1] 37)) (.cells #[.int .i64 r2,.int .i64 c2,.slice a2 n k2] 37) (.int .i64 0) (.int .i64 0) (.slice none 0 0) 37)
 rw [show (w.alloc (.cells #[.int .i64 r,.int .i64 c,.slice a1 n k1] 37)).heap.size=w.heap.size+1 by simp] at RB0
 have B:=I (dE w (.cells #[.int .i64 r,.int .i64 c,.slice a1 n k1] 37) (.cells #[.int .i64 r2,.int .i64 c2,.slice a2 n k2] 37) (.cells #[.int .i64 0,.int .i64 0,.slice none 0 0] 37))
 rw [hx] at K
 clear h1 h2 hx hy
 go_enter Tryz.func94,Tryz.ntmps94
 go_wp2_with fail
 refine (K.out _ B.out (by go_simp) (by simp)).mono ?_
 rintro e w' ⟨va,vc,zs,rfl,RO,RM,hb⟩
 obtain ⟨r5,r0,r1,r2',rf⟩:=RB0.out.below hb
 have hbw:=aA B.out hb
 have hz:=hb.size
 simp at hz
 have hfin:=bF (g:=w.heap.size+1+1) (lo':=w.heap.size) (i:=0) RO.out (by simp) (by simp;omega) (J _) [.int .i64 r,.int .i64 c,.slice va n vc]
 have hbf:=aG hbw (g:=w.heap.size+1+1) (by omega) 0 [.int .i64 r,.int .i64 c,.slice va n vc]
 have HF:=I hfin;have HBF:=I hbf
 clear hfin hbf hbw hb
 go_wp2
 try simp only [Exit.inBlock,Exit.then]
 refine bodyPost_ret (v:=.agg #[.int .i64 r,.int .i64 c,.slice va n vc]) (by simp [results,Tryz.results94,go_sem,r0,r1,r2']) rfl (dW rfl HF (HFIN.out _ _ _ _ HF.out RM.out) HBF.out)
theorem qL (i x g b o cap n:Nat) (ys:List Nat) (y:Nat) (w:World) (hy:y=ys.getD i 0) (hi:i < n) (hn:n≤256) (hz:w.cell? ⟨g,2,none⟩=some (.slice (some ⟨b,o,none⟩) n cap)) (hc:w.cell? ⟨b,o+i,none⟩=some (.float .f32 y)):Calls Tryz.prog 134 (#[.int .i64 i,.float .f32 x] ++ #[.pointer (some ⟨g,0,none⟩)]) w fun e w' => ∃z,e=.returned (.float .f32 z)∧Hid (cn .f32 z=dQ .mul .f32 (cn .f32 x) ((ys.map (cn .f32)).getD i 0)∧z < 4294967296)∧Dr w w':=by
 have HY:=I hy;clear hy
 show Calls Tryz.prog 134 #[.int .i64 i,.float .f32 x,.pointer (some ⟨g,0,none⟩)] w _
 go_enter Tryz.func134,Tryz.ntmps134
 go_wp2
 go_ret
 exact ⟨_,rfl,I ⟨by rw [bE,bO,HY.out],bL _ .f32 _ _ _⟩,(Dr.refl _).drewN _⟩
theorem iP (w:World) (r c:Nat) (r2 c2:Int) (a1 a2:Option Addr) (k1 k2 n:Nat) (xs ys:List Nat) (h1:F32s w a1 k1 xs) (h2:F32s w a2 k2 ys) (hx:xs.length=n) (hy:ys.length=n) (hl:n≤256) :
  Calls Tryz.prog 118 #[.agg #[.int .i64 r,.int .i64 c,.slice a1 n k1],.agg #[.int .i64 r2,.int .i64 c2,.slice a2 n k2]] w (bN r c n (fM .mul (xs.map (cn .f32)) (ys.map (cn .f32)) n) w):=by
 have HFIN:Hid (∀(w':World) (va:Option Addr) (vc:Nat) (zs:List Nat),RepF w' w.heap.size w'.heap.size va n vc zs→Made (fun i x z=>cn .f32 z=dQ .mul .f32 (cn .f32 x) ((ys.map (cn .f32)).getD i 0)) xs zs→zs.map (cn .f32)=fM .mul (xs.map (cn .f32)) (ys.map (cn .f32)) n):=I (fun w' va vc zs hr hm=>gR (G:=fun i x=>dQ .mul .f32 x ((ys.map (cn .f32)).getD i 0)) hm hr.len)
 have K:=I (fun W (hW:Below w.heap.size w W) (hz:W.cell? ⟨w.heap.size+1,2,none⟩=some (.slice a2 n k2)) (hzl:w.heap.size+1 < W.heap.size)=>gA W r c a1 k1 xs (h1.below hW) (by rw [hx];exact hl) 134 #[.pointer (some ⟨w.heap.size+1,0,none⟩)] (fun i x z=>cn .f32 z=dQ .mul .f32 (cn .f32 x) ((ys.map (cn .f32)).getD i 0)) (fun args W=>by kernel_rfl) (fun W' i x hb hi hxi=>by
  rw [hx] at hi
  have hbb:=hW.trans (hb.mono hW.size)
  obtain ⟨b,o,e,_,hc⟩:=(h2.below hbb).spot (k:=i) (by rw [hy];exact hi)
  have hcell:=(hb.cell (p:=⟨w.heap.size+1,2,none⟩) hzl).trans hz
  rw [e] at hcell
  refine (qL i x (w.heap.size+1) b o k2 n ys _ W' rfl hi hl hcell (hc i (by rw [hy];exact hi))).mono ?_
  rintro e w' ⟨z,he,hz2,hd⟩
  exact ⟨z,he,hz2,hd.below⟩))
 have RB0:=I (Box3.alloc2 (w.alloc (.cells #[.int .i64 r,.int .i64 c,.slice a1 n k1] 37)) (.cells #[.int .i64 r2,.int .i64 c2,.slice a2 n k2] 37) (.int .i64 0) (.int .i64 0) (.slice none 0 0) 37)
 rw [show (w.alloc (.cells #[.int .i64 r,.int .i64 c,.slice a1 n k1] 37)).heap.size=w.heap.size+1 by simp] at RB0
 have B:=I (dE w (.cells #[.int .i64 r,.int .i64 c,.slice a1 n k1] 37) (.cells #[.int .i64 r2,.int .i64 c2,.slice a2 n k2] 37) (.cells #[.int .i64 0,.int .i64 0,.slice none 0 0] 37))
 rw [hx] at K
 clear h1 h2 hx hy
 go_enter Tryz.func118,Tryz.ntmps118
 go_wp2_with fail
 refine (K.out _ B.out (by go_simp) (by simp)).mono ?_
 rintro e w' ⟨va,vc,zs,rfl,RO,RM,hb⟩
 obtain ⟨r5,r0,r1,r2',rf⟩:=RB0.out.below hb
 have hbw:=aA B.out hb
 have hz:=hb.size
 simp at hz
 have hfin:=bF (g:=w.heap.size+1+1) (lo':=w.heap.size) (i:=0) RO.out (by simp) (by simp;omega) (J _) [.int .i64 r,.int .i64 c,.slice va n vc]
 have hbf:=aG hbw (g:=w.heap.size+1+1) (by omega) 0 [.int .i64 r,.int .i64 c,.slice va n vc]
 have HF:=I hfin;have HBF:=I hbf
 clear hfin hbf hbw hb
 go_wp2
 try simp only [Exit.inBlock,Exit.then]
 refine bodyPost_ret (v:=.agg #[.int .i64 r,.int .i64 c,.slice va n vc]) (by simp [results,Tryz.results118,go_sem,r0,r1,r2']) rfl (dW rfl HF (HFIN.out _ _ _ _ HF.out RM.out) HBF.out)
theorem yA (i x g b o cap n:Nat) (ys:List Nat) (y:Nat) (w:World) (hy:y=ys.getD (i % n) 0) (hi:i≤256) (hn:n≤256) (hn1:1≤n) (hz:w.cell? ⟨g,0,none⟩=some (.slice (some ⟨b,o,none⟩) n cap)) (hc:w.cell? ⟨b,o+i % n,none⟩=some (.float .f32 y)):Calls Tryz.prog 133 (#[.int .i64 i,.float .f32 x] ++ #[.pointer (some ⟨g,0,none⟩)]) w fun e w' => ∃z,e=.returned (.float .f32 z)∧Hid (cn .f32 z=dQ .add .f32 (cn .f32 x) ((ys.map (cn .f32)).getD (i % n) 0)∧z < 4294967296)∧Dr w w':=by
 have HY:=I hy;clear hy
 have hmod:i % n < n:=Nat.mod_lt _ hn1
 have ht:(i:Int).tmod (n:Int)=((i % n:Nat):Int):=(Int.ofNat_tmod i n).symm
 have hne:¬ n=0:=by omega
 obtain ⟨j,hj⟩:∃j,j=i % n:=⟨_,rfl⟩
 rw [←hj] at hc hmod ht
 have HJ:=I hj;clear hj
 show Calls Tryz.prog 133 #[.int .i64 i,.float .f32 x,.pointer (some ⟨g,0,none⟩)] w _
 go_enter Tryz.func133,Tryz.ntmps133
 go_wp2
 refine aN (fun f args v=>False) (by kernel_rfl) (by kernel_rfl) ?_
 repeat (refine aV (fun K hK nq=>?_);go_simp;refine hK _ ?_;clear hK K)
 refine bD ?_
 rintro w' ⟨q,rfl⟩
 go_wp2
 go_ret
 exact ⟨_,rfl,I ⟨by rw [bE,bO,HY.out],bL _ .f32 _ _ _⟩,(Dr.refl _).drewN _⟩
theorem zX (w:World) (r c:Nat) (a1 a2:Option Addr) (k1 k2 n:Nat) (xs ys:List Nat) (h1:F32s w a1 k1 xs) (h2:F32s w a2 k2 ys) (hx:xs.length=n) (hy:ys.length=c) (hl:n≤256) (hc1:1≤c) (hc2:c≤16) :
  Calls Tryz.prog 117 #[.agg #[.int .i64 r,.int .i64 c,.slice a1 n k1],.slice a2 c k2] w (bN r c n (fT .add (xs.map (cn .f32)) (ys.map (cn .f32)) c n) w):=by
 have HFIN:Hid (∀(w':World) (va:Option Addr) (vc:Nat) (zs:List Nat),RepF w' w.heap.size w'.heap.size va n vc zs→Made (fun i x z=>cn .f32 z=dQ .add .f32 (cn .f32 x) ((ys.map (cn .f32)).getD (i % c) 0)) xs zs→zs.map (cn .f32)=fT .add (xs.map (cn .f32)) (ys.map (cn .f32)) c n):=I (fun w' va vc zs hr hm=>gR (G:=fun i x=>dQ .add .f32 x ((ys.map (cn .f32)).getD (i % c) 0)) hm hr.len)
 have K:=I (fun W (hW:Below w.heap.size w W) (hz:W.cell? ⟨w.heap.size+1,0,none⟩=some (.slice a2 c k2)) (hzl:w.heap.size+1 < W.heap.size)=>gA W r c a1 k1 xs (h1.below hW) (by rw [hx];exact hl) 133 #[.pointer (some ⟨w.heap.size+1,0,none⟩)] (fun i x z=>cn .f32 z=dQ .add .f32 (cn .f32 x) ((ys.map (cn .f32)).getD (i % c) 0)) (fun args W=>by kernel_rfl) (fun W' i x hb hi hxi=>by
  rw [hx] at hi
  have hbb:=hW.trans (hb.mono hW.size)
  have him:i % c < c:=Nat.mod_lt _ hc1
  obtain ⟨b,o,e,_,hc⟩:=(h2.below hbb).spot (k:=i % c) (by rw [hy];exact him)
  have hcell:=(hb.cell (p:=⟨w.heap.size+1,0,none⟩) hzl).trans hz
  rw [e] at hcell
  refine (yA i x (w.heap.size+1) b o k2 c ys _ W' rfl (by omega) (by omega) hc1 hcell (hc (i % c) (by rw [hy];exact him))).mono ?_
  rintro e w' ⟨z,he,hz2,hd⟩
  exact ⟨z,he,hz2,hd.below⟩))
 have RB0:=I (Box3.alloc2 (w.alloc (.cells #[.int .i64 r,.int .i64 c,.slice a1 n k1] 37)) (.cells #[.slice a2 c k2] 25) (.int .i64 0) (.int .i64 0) (.slice none 0 0) 37)
 rw [show (w.alloc (.cells #[.int .i64 r,.int .i64 c,.slice a1 n k1] 37)).heap.size=w.heap.size+1 by simp] at RB0
 have B:=I (dE w (.cells #[.int .i64 r,.int .i64 c,.slice a1 n k1] 37) (.cells #[.slice a2 c k2] 25) (.cells #[.int .i64 0,.int .i64 0,.slice none 0 0] 37))
 rw [hx] at K
 clear h1 h2 hx hy
 go_enter Tryz.func117,Tryz.ntmps117
 go_wp2_with fail
 refine (K.out _ B.out (by go_simp) (by simp)).mono ?_
 rintro e w' ⟨va,vc,zs,rfl,RO,RM,hb⟩
 obtain ⟨r5,r0,r1,r2',rf⟩:=RB0.out.below hb
 have hbw:=aA B.out hb
 have hz:=hb.size
 simp at hz
 have hfin:=bF (g:=w.heap.size+1+1) (lo':=w.heap.size) (i:=0) RO.out (by simp) (by simp;omega) (J _) [.int .i64 r,.int .i64 c,.slice va n vc]
 have hbf:=aG hbw (g:=w.heap.size+1+1) (by omega) 0 [.int .i64 r,.int .i64 c,.slice va n vc]
 have HF:=I hfin;have HBF:=I hbf
 clear hfin hbf hbw hb
 go_wp2
 try simp only [Exit.inBlock,Exit.then]
 refine bodyPost_ret (v:=.agg #[.int .i64 r,.int .i64 c,.slice va n vc]) (by simp [results,Tryz.results117,go_sem,r0,r1,r2']) rfl (dW rfl HF (HFIN.out _ _ _ _ HF.out RM.out) HBF.out)
theorem yC (i x g b o cap n:Nat) (ys:List Nat) (y:Nat) (w:World) (hy:y=ys.getD (i % n) 0) (hi:i≤256) (hn:n≤256) (hn1:1≤n) (hz:w.cell? ⟨g,0,none⟩=some (.slice (some ⟨b,o,none⟩) n cap)) (hc:w.cell? ⟨b,o+i % n,none⟩=some (.float .f32 y)):Calls Tryz.prog 135 (#[.int .i64 i,.float .f32 x] ++ #[.pointer (some ⟨g,0,none⟩)]) w fun e w' => ∃z,e=.returned (.float .f32 z)∧Hid (cn .f32 z=dQ .mul .f32 (cn .f32 x) ((ys.map (cn .f32)).getD (i % n) 0)∧z < 4294967296)∧Dr w w':=by
 have HY:=I hy;clear hy
 have hmod:i % n < n:=Nat.mod_lt _ hn1
 have ht:(i:Int).tmod (n:Int)=((i % n:Nat):Int):=(Int.ofNat_tmod i n).symm
 have hne:¬ n=0:=by omega
 obtain ⟨j,hj⟩:∃j,j=i % n:=⟨_,rfl⟩
 rw [←hj] at hc hmod ht
 have HJ:=I hj;clear hj
 show Calls Tryz.prog 135 #[.int .i64 i,.float .f32 x,.pointer (some ⟨g,0,none⟩)] w _
 go_enter Tryz.func135,Tryz.ntmps135
 go_wp2
 refine aN (fun f args v=>False) (by kernel_rfl) (by kernel_rfl) ?_
 repeat (refine aV (fun K hK nq=>?_);go_simp;refine hK _ ?_;clear hK K)
 refine bD ?_
 rintro w' ⟨q,rfl⟩
 go_wp2
 go_ret
 exact ⟨_,rfl,I ⟨by rw [bE,bO,HY.out],bL _ .f32 _ _ _⟩,(Dr.refl _).drewN _⟩
theorem rM (w:World) (r c:Nat) (a1 a2:Option Addr) (k1 k2 n:Nat) (xs ys:List Nat) (h1:F32s w a1 k1 xs) (h2:F32s w a2 k2 ys) (hx:xs.length=n) (hy:ys.length=c) (hl:n≤256) (hc1:1≤c) (hc2:c≤16) :
  Calls Tryz.prog 119 #[.agg #[.int .i64 r,.int .i64 c,.slice a1 n k1],.slice a2 c k2] w (bN r c n (fT .mul (xs.map (cn .f32)) (ys.map (cn .f32)) c n) w):=by
 have HFIN:Hid (∀(w':World) (va:Option Addr) (vc:Nat) (zs:List Nat),RepF w' w.heap.size w'.heap.size va n vc zs→Made (fun i x z=>cn .f32 z=dQ .mul .f32 (cn .f32 x) ((ys.map (cn .f32)).getD (i % c) 0)) xs zs→zs.map (cn .f32)=fT .mul (xs.map (cn .f32)) (ys.map (cn .f32)) c n):=I (fun w' va vc zs hr hm=>gR (G:=fun i x=>dQ .mul .f32 x ((ys.map (cn .f32)).getD (i % c) 0)) hm hr.len)
 have K:=I (fun W (hW:Below w.heap.size w W) (hz:W.cell? ⟨w.heap.size+1,0,none⟩=some (.slice a2 c k2)) (hzl:w.heap.size+1 < W.heap.size)=>gA W r c a1 k1 xs (h1.below hW) (by rw [hx];exact hl) 135 #[.pointer (some ⟨w.heap.size+1,0,none⟩)] (fun i x z=>cn .f32 z=dQ .mul .f32 (cn .f32 x) ((ys.map (cn .f32)).getD (i % c) 0)) (fun args W=>by kernel_rfl) (fun W' i x hb hi hxi=>by
  rw [hx] at hi
  have hbb:=hW.trans (hb.mono hW.size)
  have him:i % c < c:=Nat.mod_lt _ hc1
  obtain ⟨b,o,e,_,hc⟩:=(h2.below hbb).spot (k:=i % c) (by rw [hy];exact him)
  have hcell:=(hb.cell (p:=⟨w.heap.size+1,0,none⟩) hzl).trans hz
  rw [e] at hcell
  refine (yC i x (w.heap.size+1) b o k2 c ys _ W' rfl (by omega) (by omega) hc1 hcell (hc (i % c) (by rw [hy];exact him))).mono ?_
  rintro e w' ⟨z,he,hz2,hd⟩
  exact ⟨z,he,hz2,hd.below⟩))
 have RB0:=I (Box3.alloc2 (w.alloc (.cells #[.int .i64 r,.int .i64 c,.slice a1 n k1] 37)) (.cells #[.slice a2 c k2] 25) (.int .i64 0) (.int .i64 0) (.slice none 0 0) 37)
 rw [show (w.alloc (.cells #[.int .i64 r,.int .i64 c,.slice a1 n k1] 37)).heap.size=w.heap.size+1 by simp] at RB0
 have B:=I (dE w (.cells #[.int .i64 r,.int .i64 c,.slice a1 n k1] 37) (.cells #[.slice a2 c k2] 25) (.cells #[.int .i64 0,.int .i64 0,.slice none 0 0] 37))
 rw [hx] at K
 clear h1 h2 hx hy
 go_enter Tryz.func119,Tryz.ntmps119
 go_wp2_with fail
 refine (K.out _ B.out (by go_simp) (by simp)).mono ?_
 rintro e w' ⟨va,vc,zs,rfl,RO,RM,hb⟩
 obtain ⟨r5,r0,r1,r2',rf⟩:=RB0.out.below hb
 have hbw:=aA B.out hb
 have hz:=hb.size
 simp at hz
 have hfin:=bF (g:=w.heap.size+1+1) (lo':=w.heap.size) (i:=0) RO.out (by simp) (by simp;omega) (J _) [.int .i64 r,.int .i64 c,.slice va n vc]
 have hbf:=aG hbw (g:=w.heap.size+1+1) (by omega) 0 [.int .i64 r,.int .i64 c,.slice va n vc]
 have HF:=I hfin;have HBF:=I hbf
 clear hfin hbf hbw hb
 go_wp2
 try simp only [Exit.inBlock,Exit.then]
 refine bodyPost_ret (v:=.agg #[.int .i64 r,.int .i64 c,.slice va n vc]) (by simp [results,Tryz.results119,go_sem,r0,r1,r2']) rfl (dW rfl HF (HFIN.out _ _ _ _ HF.out RM.out) HBF.out)
theorem eL {m:Nat} (h:m≤1000000):IntKind.i64.wrap (m:Int)=m:=by rw [IntKind.wrap_i64];omega
def nP (y n:Nat):List Nat:=bA n fun _=>y
def iE (X:List Nat) (r c n:Nat):List Nat:=bA n fun j=>X.getD (j % r * c+j / r) 0
theorem yD (X:List Nat) {r c i k:Nat} (hk:k < r):X.getD ((i * r+k) % r * c+(i * r+k) / r) 0=X.getD (k * c+i) 0:=by
 have h1:(i * r+k) % r=k:=by rw [Nat.mul_comm,Nat.mul_add_mod,Nat.mod_eq_of_lt hk]
 have h2:(i * r+k) / r=i:=by rw [Nat.mul_comm,Nat.mul_add_div (by omega),Nat.div_eq_of_lt hk,Nat.add_zero]
 rw [h1,h2]
theorem fC (w:World) (r c:Nat) (y:Nat) (hy:y < 4294967296) (hr:r≤16) (hc:c≤16) :
  Calls Tryz.prog 112 #[.int .i64 r,.int .i64 c,.float .f32 y] w (bN r c (r * c) (nP (cn .f32 y) (r * c)) w):=by
 obtain ⟨i0,hi0,hz0,hzs,hz2⟩:=info_parts bW
 have hp:r * c≤256:=Nat.mul_le_mul hr hc
 obtain ⟨p,hpp⟩:∃p,p=r * c:=⟨_,rfl⟩
 have e1:((r:Int) * (c:Int))=(p:Int):=by rw [hpp];rfl
 have hB:=I (Bld.start1 w r c)
 rw [←hpp] at hp ⊢
 clear hpp
 go_enter Tryz.func112,Tryz.ntmps112
 go_wp2
 obtain ⟨W0,hW0⟩:∃W,W=(((w.alloc (.cells #[.int .i64 0,.int .i64 0,.slice none 0 0] 37)).alloc (.cells #[] 28)).alloc (.cells #[.int .i64 r,.int .i64 c,.slice (some ⟨w.heap.size+1,0,none⟩) 0 0] 37)):=⟨_,rfl⟩
 rw [←hW0]
 rw [←hW0] at hB
 clear hW0
 go_loopw [8] (fun i wt => ∃k:Nat,i=.int .i64 k∧k≤p∧∃va vc zs,Hid (Bld w wt w.heap.size (w.heap.size+1+1) r c va k vc zs)∧Hid (zs.map (cn .f32)=nP (cn .f32 y) k)) (fun i _=>p - (intOf i).toNat)
 case atStart=>exact ⟨0,rfl,Nat.zero_le _,_,_,[],hB,I rfl⟩
 case round =>
  clear hB
  obtain ⟨k,rfl,hk,va,vc,zs,HB,HZ⟩:=hrel
  obtain ⟨ol,t0,t1,t2,tf⟩:=HB.out.out.three
  by_cases hlt:k < p
  ·have HRW:=I HB.out.row
   clear t0 t1
   go_wp2_with (at_builtin;refine cI rfl _ _ 25 rfl w.heap.size i0 _ 1 4 Tryz.underlying25 hi0 hz0 hzs hz2 rfl (by decide) rfl (by intro u hu;simp at hu;subst hu;rfl) _ _ _ rfl HRW.out (by go_simp) ?c3 ?c4 ?c5 ?_)
   case c3=>unfold maxLen;omega
   case c4=>omega
   case c5=>exact HB.out.below.size
   intro v' w9 ho9 hg9 hat9 hb9 hs9
   obtain ⟨va',vc',rfl,hc9,hf9,hbel9,hnew⟩:=HB.out.push (W:=wr) hy (O _ _) ho9 hg9 (by simpa using hat9)
   have HN:=I hnew
   have HM9:=I (fS HZ.out (f:=fun _=>cn .f32 y) (z:=y) rfl)
   clear ho9 hg9 hat9 hb9 hbel9 hnew HB HZ HRW t2 tf
   go_wp2
   go_roundw
   case rel=>exact ⟨k+1,by go_num,hlt,_,_,_,HN,HM9⟩
   case measure=>simp [intOf];omega
  ·have hkn:k=p:=by omega
   subst hkn
   obtain ⟨rl,u0,u1,u2,uf⟩:=HB.out.res.three
   have HFIN:=I HB.out.fin
   go_wp2
   try simp only [Exit.inBlock,Exit.then]
   refine bodyPost_ret (v:=.agg #[.int .i64 r,.int .i64 c,.slice va k vc]) (by simp [results,Tryz.results112,go_sem,u0,u1,u2]) rfl ⟨va,vc,zs,rfl,I HFIN.out.1,HZ,HFIN.out.2⟩
theorem iY (w:World) (g1 o1:Nat) (r c:Nat) (a1:Option Addr) (c1 n:Nat) (xs:List Nat) (p0:w.cell? ⟨g1,o1,none⟩=some (.int .i64 r)) (p1:w.cell? ⟨g1,o1+1,none⟩=some (.int .i64 c)) (p2:w.cell? ⟨g1,o1+2,none⟩=some (.slice a1 n c1))
  (hx:F32s w a1 c1 xs) (hxl:xs.length=n) (hr:r≤16) (hc:c≤16) (hn:n=r * c) :
  Calls Tryz.prog 110 #[.pointer (some ⟨g1,o1,none⟩)] w (bN c r n (iE (xs.map (cn .f32)) r c n) w):=by
 obtain ⟨i0,hi0,hz0,hzs,hz2⟩:=info_parts bW
 have HX:=I hx;have HXL:=I hxl;have HN0:=I hn
 have hn6:n≤256:=by rw [hn];exact Nat.mul_le_mul hr hc
 clear hx hxl hn
 have hg1:=World.block_lt_of_cell? w _ p0
 simp only at hg1
 go_enter Tryz.func110,Tryz.ntmps110
 go_upto_region 1 with fail
 obtain ⟨W0,hW0⟩:∃W,W=w.alloc (.cells #[.int .i64 0,.int .i64 0,.slice none 0 0] 37):=⟨_,rfl⟩
 have k0:W0.cell? ⟨g1,o1,none⟩=some (.int .i64 r):=by rw [hW0];go_simp
 have k1:W0.cell? ⟨g1,o1+1,none⟩=some (.int .i64 c):=by rw [hW0];go_simp
 have HW0:=I hW0
 have hs0:W0.heap.size=w.heap.size+1:=by rw [hW0];simp
 rw [←hW0]
 have HP:=I (And.intro p0 (And.intro p1 p2))
 clear hW0 p0 p1 p2
 go_cut [3] (fun p5 wx => ∃ob va vc,p5=.pointer (some ⟨ob,0,none⟩)∧Hid (Bld w wx w.heap.size ob c r va 0 vc []))
 case first =>
  go_region_held3 (fun w'=>w'.cell? ⟨g1,o1,none⟩=some (.int .i64 r)∧w'.cell? ⟨g1,o1+1,none⟩=some (.int .i64 c)) (go_keep) (first | fail)
  all_goals (try go_wp2_with fail)
  all_goals go_meet
  ·exact ⟨_,_,_,rfl,I (by rw [HW0.out];exact (Bld.start1 w c r).move (Below.drew (O _ _)))⟩
  ·exact ⟨_,_,_,rfl,I (by rw [HW0.out];exact (Bld.start2 w c r).move (Below.drew (O _ _)))⟩
 case rest =>
  obtain ⟨ob,va,vc,rfl,HB⟩:=hcut
  clear k0 k1 HW0 hs0
  go_wp2
  go_loopw [4,5] (fun i _ wt => ∃k:Nat,i=.int .i64 k∧k≤c∧∃q va vc zs,Hid (q=k * r∧Bld w wt w.heap.size ob c r va q vc zs)∧Hid (zs.map (cn .f32)=iE (xs.map (cn .f32)) r c q)) (fun i _ _=>c - (intOf i).toNat)
  case atStart=>exact ⟨0,rfl,Nat.zero_le _,0,va,vc,[],I ⟨by simp,HB.out⟩,I rfl⟩
  case round =>
   clear HB
   obtain ⟨i,rfl,hi,q,va,vc,zs,HB,HZ⟩:=hrel
   obtain ⟨wo,rfl⟩:∃wo:World,wo=wr:=⟨_,rfl⟩
   have r0:wo.cell? ⟨g1,o1,none⟩=some (.int .i64 r):=(HB.out.2.below.cell (p:=⟨g1,o1,none⟩) hg1).trans HP.out.1
   have r1:wo.cell? ⟨g1,o1+1,none⟩=some (.int .i64 c):=(HB.out.2.below.cell (p:=⟨g1,o1+1,none⟩) hg1).trans HP.out.2.1
   by_cases hli:i < c
   ·go_wp2
    go_loopw [5] (fun u wt => ∃k:Nat,u=.int .i64 k∧k≤r∧∃m va vc zs,Hid (m=i * r+k∧Bld w wt w.heap.size ob c r va m vc zs)∧Hid (zs.map (cn .f32)=iE (xs.map (cn .f32)) r c m)) (fun u _=>r - (intOf u).toNat)
    case atStart=>exact ⟨0,rfl,Nat.zero_le _,q,va,vc,zs,I ⟨by rw [HB.out.1];rfl,HB.out.2⟩,HZ⟩
    case round =>
     clear HB HZ r0 r1
     obtain ⟨k,rfl,hk,m,va,vc,zs,HB,HZ⟩:=hrel
     have hbb:=HB.out.2.below
     have hP:=HP.out
     have r0:wr.cell? ⟨g1,o1,none⟩=some (.int .i64 r):=(hbb.cell (p:=⟨g1,o1,none⟩) hg1).trans hP.1
     by_cases hlt:k < r
     ·have hmn:m < n:=by
       rw [HB.out.1,HN0.out]
       have:(i+1) * r≤c * r:=Nat.mul_le_mul_right r hli
       rw [Nat.succ_mul] at this
       rw [Nat.mul_comm r c];omega
      have hjn:k * c+i < n:=by
       rw [HN0.out]
       have:(k+1) * c≤r * c:=Nat.mul_le_mul_right c hlt
       rw [Nat.succ_mul] at this;omega
      obtain ⟨s,hs⟩:∃s,s=k * c:=⟨_,rfl⟩
      obtain ⟨j,hj⟩:∃j,j=s+i:=⟨_,rfl⟩
      have e1:(k:Int) * (c:Int)=(s:Int):=by rw [hs];rfl
      have e2:(s:Int)+(i:Int)=(j:Int):=by rw [hj];rfl
      have hj2:j=k * c+i:=by rw [hj,hs]
      rw [←hj2] at hjn
      have hsj:s≤j:=by omega
      have tq:IntKind.i64.wrap (s:Int)=s:=eL (by omega)
      have tm:IntKind.i64.wrap (j:Int)=j:=eL (by omega)
      obtain ⟨b1,f1,rfl,hl1,hc1⟩:=HX.out.spot (k:=j) (by rw [HXL.out];exact hjn)
      have d1:=hc1 j (by rw [HXL.out];exact hjn)
      have hx2:=bO xs j
      have hxb:=HX.out.lt _ (iB (k:=j) (by rw [HXL.out];exact hjn))
      obtain ⟨x,hx⟩:∃x,x=xs.getD j 0:=⟨_,rfl⟩
      rw [←hx] at d1 hx2 hxb
      have HXB:=I hxb
      have KS:Hid (∀W,Below w.heap.size w W→W.cell? ⟨ob,2,none⟩=some (.slice va m vc)→W.cell? ⟨g1,o1+1,none⟩=some (.int .i64 c)∧W.cell? ⟨g1,o1+2,none⟩=some (.slice (some ⟨b1,f1,none⟩) n c1)∧W.cell? ⟨b1,f1+j,none⟩=some (.float .f32 x)∧W.cell? ⟨ob,2,none⟩=some (.slice va m vc)):=I (fun W hb ho=>⟨(hb.cell (p:=⟨g1,o1+1,none⟩) hg1).trans hP.2.1,(hb.cell (p:=⟨g1,o1+2,none⟩) hg1).trans hP.2.2,(hb.cell (p:=⟨b1,f1+j,none⟩) hl1).trans d1,ho⟩)
      have HXY:=I hx2
      have HS:=I (KS.out wr HB.out.2.below HB.out.2.out.three.2.2.2.1)
      have HPU:=I (fS HZ.out (f:=fun j=>(xs.map (cn .f32)).getD (j % r * c+j / r) 0) (z:=x) (by rw [HB.out.1,yD _ hlt,←hj2,HXY.out]))
      have HMS:Hid (m+1=i * r+(k+1)):=I (by rw [HB.out.1];rfl)
      clear hc1 hx d1 hx2 hbb hP hj hs hj2 hxb HXY
      go_upto_region 8 with fail
      clear r0
      refine aL 19 [16,17] (fun W=>W.cell? ⟨g1,o1+1,none⟩=some (.int .i64 c)∧W.cell? ⟨g1,o1+2,none⟩=some (.slice (some ⟨b1,f1,none⟩) n c1)∧W.cell? ⟨b1,f1+j,none⟩=some (.float .f32 x)∧W.cell? ⟨ob,2,none⟩=some (.slice va m vc)) (fun _ _ _=>False) (fun _ _ _ _ _=>False) (by kernel_rfl) (by kernel_rfl) HS.out (fun W q h=>by simpa using h) ?_
      iterate 16 (refine aD (by rfl) HS.out (fun K hK W hW=>?_);obtain ⟨e3,e4,e5,e6⟩:=hW;go_simp;refine hK _ ?_;clear hK K e3 e4 e5 e6)
      refine aF (by rfl) HS.out (fun K hK q=>?_)
      have hbq:=below_drewN (O wr.heap.size wr) q
      go_simp
      have hbA:Below wr.heap.size wr ((wr.drewN q).alloc (.cells #[.float .f32 x] 28)):=hbq.alloc (by simp) _
      have hs1:=KS.out _ ((HB.out.2.below.trans (hbA.mono HB.out.2.below.size))) ((HB.out.2.move hbA).out.three.2.2.2.1)
      have HBA:=I hbA;have HS1:=I hs1
      refine ⟨hs1,hK _ _ ?_⟩
      clear hK K hbq hbA hs1
      refine aF (by rfl) HS1.out (fun K hK q2=>?_)
      refine bP rfl _ _ 25 rfl w.heap.size 28 i0 _ 1 4 Tryz.underlying25 hi0 hz0 hzs hz2 rfl (by decide) (.slice va m vc) m (zs.map (Value.float .f32)) rfl (HB.out.2.move (below_drewN HBA.out q2)).row ⟨wr.heap.size,0,none⟩ 1 1 [.float .f32 x] rfl rfl (World.news_of_block (cs:=#[.float .f32 x]) (t:=28) (fr:=(0,0)) (heap_alloc_new (wr.drewN q) _)) (by simp [Value.oneCell']) (by unfold maxLen;omega) (by omega) (Nat.le_trans HB.out.2.below.size (Nat.le_trans HBA.out.size (J _))) ?_
      intro v' w9 ho9 hg9 hat9 hb9
      obtain ⟨va',vc',rfl,hc9,hf9,hbel9,hnew⟩:=HB.out.2.push (W:=(wr.drewN q).drewN q2) HXB.out (below_drewN (below_drewN (O _ _) q) q2) ho9 hg9 (by simpa using hat9)
      have hs9:=KS.out w9 hbel9 hc9
      have HS9:=I hs9;have HF9:=I (And.intro hc9 hf9);have HN9:=I hnew
      refine ⟨hs9,hK _ _ ?_⟩
      clear hK K ho9 hg9 hat9 hb9 hc9 hf9 hbel9 hnew hs9 HS1 HBA
      refine aD (by rfl) HS9.out (fun K hK W hW=>?_)
      go_simp
      refine hK _ ?_
      clear hK K hW
      refine aP (fun q3=>?_)
      have hc9:(w9.drewN q3).cell? ⟨ob,2,none⟩=some (.slice va m vc):=by simpa using HF9.out.1
      have hf9:(w9.drewN q3).frozen? ⟨ob,2,none⟩=false:=by simpa using HF9.out.2
      have HN:=I (And.intro HMS.out (HN9.out.move (below_drewN (O _ _) q3)))
      clear HN9 HS9 HF9 HB HZ HS KS tq tm e1 e2
      go_wp2
      go_roundw
      case rel=>exact ⟨k+1,by go_num,hlt,_,_,_,_,HN,HPU⟩
      case measure=>simp [intOf];omega
     ·have hkn:k=r:=by omega
      subst hkn
      have HBN:Hid (m=(i+1) * k∧_):=I ⟨by rw [HB.out.1,Nat.succ_mul],HB.out.2⟩
      clear hbb hP
      go_wp2
      go_roundw
      case rel=>exact ⟨i+1,by go_num,hli,m,va,vc,zs,HBN,HZ⟩
      case measure=>simp [intOf];omega
   ·have hin:i=c:=by omega
    subst hin
    have hq:q=n:=by rw [HB.out.1,HN0.out,Nat.mul_comm]
    subst hq
    obtain ⟨ol,t0,t1,t2,tf⟩:=HB.out.2.out.three
    obtain ⟨rl,u0,u1,u2,uf⟩:=HB.out.2.res.three
    have HFIN:=I HB.out.2.fin
    clear r0
    go_wp2
    try simp only [Exit.inBlock,Exit.then]
    refine bodyPost_ret (v:=.agg #[.int .i64 i,.int .i64 r,.slice va q vc]) (by simp [results,Tryz.results110,go_sem,u0,u1,u2]) rfl ⟨va,vc,zs,rfl,I HFIN.out.1,HZ,HFIN.out.2⟩
structure BldE (w0:World) (wt:World) (rb ob:Nat) (r c:Int) (va:Option Addr) (k vc:Nat) (ys:List Nat) (E:List RowD):Prop where
 own:Own wt w0.heap.size wt.heap.size (lR va k vc ys :: dX ob [.int .i64 r,.int .i64 c,.slice va k vc] :: dX rb [.int .i64 0,.int .i64 0,.slice none 0 0] :: E)
 len:ys.length=k
 ok:okF ys
 below:Below w0.heap.size w0 wt
section
variable {w0 wt:World} {rb ob:Nat} {r c:Int} {va:Option Addr} {k vc:Nat} {ys:List Nat} {E:List RowD}
theorem BldE.move (h:BldE w0 wt rb ob r c va k vc ys E) {W:World} (hb:Below wt.heap.size wt W):BldE w0 W rb ob r c va k vc ys E :=
 ⟨(h.own.below hb).bounds (J _) hb.size,h.len,h.ok,h.below.trans (hb.mono h.below.size)⟩
theorem Own.box {w:World} {lo hi g:Nat} {cs:List Value} {L:List RowD} (h:Own w lo hi L) (hm:dX g cs∈L):BoxN w g cs:=by
 obtain ⟨_,hl,hc,hf⟩:=h.cell hm
 exact ⟨hl.2.2,hc,hf⟩
theorem BldE.out (h:BldE w0 wt rb ob r c va k vc ys E):BoxN wt ob [.int .i64 r,.int .i64 c,.slice va k vc]:=h.own.box (List.mem_cons_of_mem _ (List.mem_cons_self ..))
theorem BldE.res (h:BldE w0 wt rb ob r c va k vc ys E):BoxN wt rb [.int .i64 0,.int .i64 0,.slice none 0 0]:=h.own.box (List.mem_cons_of_mem _ (List.mem_cons_of_mem _ (List.mem_cons_self ..)))
theorem BldE.row (h:BldE w0 wt rb ob r c va k vc ys E):wt.ownsRow w0.heap.size 28 1 (.slice va k vc) k (ys.map (Value.float .f32)):=h.own.head.own
theorem tV {α:Type} {a b c x:α} {E:List α} (h:x∈E):x∈a :: b :: c :: E:=List.mem_cons_of_mem _ (List.mem_cons_of_mem _ (List.mem_cons_of_mem _ h))
theorem BldE.push (h:BldE w0 wt rb ob r c va k vc ys E) {W w9:World} {x:Nat} {v':Value} {o:Obj} (hx:x < 4294967296) (hb:Below wt.heap.size wt W) (ho:w9.ownsRow w0.heap.size 28 1 v' (k+1) (ys.map (Value.float .f32) ++ [.float .f32 x]))
  (hg:(W.alloc o).grownBy w9 (Value.slice va k vc).ownBlock) (hat:v'.ownBlock=(Value.slice va k vc).ownBlock∨v'.ownBlock=some (W.heap.size+1)) :
  ∃va' vc',v'=.slice va' (k+1) vc'∧Own w9 w0.heap.size w9.heap.size (lR va' (k+1) vc' (ys ++ [x]) :: dX ob [.int .i64 r,.int .i64 c,.slice va k vc] :: dX rb [.int .i64 0,.int .i64 0,.slice none 0 0] :: E)∧Below w0.heap.size w0 w9∧BldE w0 (w9.setCell ⟨ob,2,none⟩ (.slice va' (k+1) vc')) rb ob r c va' (k+1) vc' (ys ++ [x]) E:=by
 obtain ⟨va',vc',rfl,_⟩:=Rd.of_owns ho
 have h1:=(h.own.below hb).below (aE W o)
 have hs:=hg.size
 have hbs:=hb.size
 simp at hs
 have hB:=h.below.size
 have hbel:Below w0.heap.size w0 w9:=by
  refine Below.grown ((h.below.trans (hb.mono hB)).alloc (by omega) o) hg (by simp;omega) (fun j e=>(h.row.lt j e).1)
 have h2:=h1.grown (w':=w9) (hi':=w9.heap.size) (y:=lR va' (k+1) vc' (ys ++ [x])) hg (by
  refine Row.mk' ?_
  show w9.ownsRow w0.heap.size 28 1 (.slice va' (k+1) vc') (k+1) ((ys ++ [x]).map (Value.float .f32))
  rw [List.map_append];exact ho) (fun g e=>by
   rcases hat with e1 | e1
   ·exact .inl (e1.symm.trans e)
   ·right
    have e2:some g=some (W.heap.size+1):=e.symm.trans e1
    cases e2
    omega) (by omega)
 have hob:=(h.own.cell (List.mem_cons_of_mem _ (List.mem_cons_self ..))).2.1.1
 have h3:=(h2.perm (List.Perm.swap _ _ _)).store 2 (.slice va' (k+1) vc')
 have h4:=h3.perm (M:=lR va' (k+1) vc' (ys ++ [x]) :: dX ob [.int .i64 r,.int .i64 c,.slice va' (k+1) vc'] :: dX rb [.int .i64 0,.int .i64 0,.slice none 0 0] :: E) (List.Perm.swap _ _ _)
 refine ⟨va',vc',rfl,h2,hbel,h4.bounds (J _) (by simp [World.setCell]),by simp [h.len],fun y hy=>?_,hbel.setCell (p:=⟨ob,2,none⟩) hob _⟩
 rcases List.mem_append.1 hy with hy | hy
 ·exact h.ok y hy
 ·simp at hy;subst hy;exact hx
theorem BldE.fin (h:BldE w0 wt rb ob r c va k vc ys E):RepF (setCs wt rb 0 [.int .i64 r,.int .i64 c,.slice va k vc]) w0.heap.size (setCs wt rb 0 [.int .i64 r,.int .i64 c,.slice va k vc]).heap.size va k vc ys∧Below w0.heap.size w0 (setCs wt rb 0 [.int .i64 r,.int .i64 c,.slice va k vc]):=by
 have hl:=h.len
 subst hl
 have p1:(lR va ys.length vc ys :: dX ob [.int .i64 r,.int .i64 c,.slice va ys.length vc] :: dX rb [.int .i64 0,.int .i64 0,.slice none 0 0] :: E).Perm (dX rb [.int .i64 0,.int .i64 0,.slice none 0 0] :: lR va ys.length vc ys :: dX ob [.int .i64 r,.int .i64 c,.slice va ys.length vc] :: E) :=
  (List.Perm.cons _ (List.Perm.swap _ _ _)).trans (List.Perm.swap _ _ _)
 have h1:=jA (h.own.perm p1) 0 [.int .i64 r,.int .i64 c,.slice va ys.length vc]
 have hrb:=(h.own.cell (List.mem_cons_of_mem _ (List.mem_cons_of_mem _ (List.mem_cons_self ..)))).2.1.1
 refine ⟨(h1.repF (List.mem_cons_of_mem _ (List.mem_cons_self ..)) h.ok).bounds (J _) (by rw [aU];exact J _),aG h.below hrb 0 _⟩
end
def Ep (v0:Value) (f:FuncId) (args:Array Value) (w1:World) (v:Value) (w2:World):Prop:=v=v0∧Below w1.heap.size w1 w2
theorem Own.voidRow {w:World} {lo hi:Nat} {L:List RowD} (h:Own w lo hi L):Own w lo hi (lR none 0 0 [] :: L) :=
 Own.cons (x:=lR none 0 0 []) ⟨⟨by simp [lR],.inl ⟨rfl,rfl⟩⟩,fun g e=>(nomatch e)⟩ h (fun y hy g e=>(nomatch e))
theorem iQ (w:World) (r c:Nat) (a1:Option Addr) (c1 n:Nat) (xs:List Nat) (hx:F32s w a1 c1 xs) (hxl:xs.length=n) (hr1:1≤r) (hr:r≤16) (hc1:1≤c) (hc:c≤16) (hn:n=r * c) :
  Calls Tryz.prog 122 #[.agg #[.int .i64 r,.int .i64 c,.slice a1 n c1]] w (bN c r n (iE (xs.map (cn .f32)) r c n) w):=by
 obtain ⟨i0,hi0,hz0,hzs,hz2⟩:=info_parts bW
 have hn6:n≤256:=by rw [hn];exact Nat.mul_le_mul hr hc
 have hn1:1≤n:=by rw [hn];exact Nat.mul_le_mul hr1 hc1
 obtain ⟨b1,f1,rfl,hl1,hcx⟩:=hx.spot (k:=0) (by rw [hxl];exact hn1)
 have hcap:=hx.len
 rw [hxl] at hcap
 have HX:=I hx;have HXL:=I hxl;have HN0:=I hn;have HCX:=I hcx
 have KR:Hid (∀W k,k < r→Calls Tryz.prog 139 #[.agg #[.int .i64 r,.int .i64 c,.slice (some ⟨b1,f1,none⟩) n c1],.int .i64 (k:Nat)] W fun e w'=>e=.returned (.slice (some ⟨b1,f1+k * c,none⟩) c (c1 - k * c))∧Below W.heap.size W w'):=I (fun W k hk=>tR W r c _ n c1 hn hc1 hc hr hcap k hk b1 f1 rfl)
 clear hx hxl hn hcx
 have o1:=(Own.nil w w.heap.size w.heap.size).alloc (J _) (J _) #[.int .i64 r,.int .i64 c,.slice (some ⟨b1,f1,none⟩) n c1] 37
 have s1:(w.alloc (.cells #[.int .i64 r,.int .i64 c,.slice (some ⟨b1,f1,none⟩) n c1] 37)).heap.size=w.heap.size+1:=by simp
 have o2:=o1.alloc (by rw [s1];omega) (by rw [s1];exact J _) #[.int .i64 0,.int .i64 0,.slice none 0 0] 37
 have s2:((w.alloc (.cells #[.int .i64 r,.int .i64 c,.slice (some ⟨b1,f1,none⟩) n c1] 37)).alloc (.cells #[.int .i64 0,.int .i64 0,.slice none 0 0] 37)).heap.size=w.heap.size+1+1:=by simp
 rw [s1] at o2
 have o3:=o2.alloc (by rw [s2];omega) (by rw [s2];exact J _) #[.int .i64 c,.int .i64 r,.slice none 0 0] 37
 rw [s2] at o3
 obtain ⟨W0,hW0⟩:∃W,W=(((w.alloc (.cells #[.int .i64 r,.int .i64 c,.slice (some ⟨b1,f1,none⟩) n c1] 37)).alloc (.cells #[.int .i64 0,.int .i64 0,.slice none 0 0] 37)).alloc (.cells #[.int .i64 c,.int .i64 r,.slice none 0 0] 37)):=⟨_,rfl⟩
 have hE:BldE w W0 (w.heap.size+1) (w.heap.size+1+1) c r none 0 0 [] [dX w.heap.size [.int .i64 r,.int .i64 c,.slice (some ⟨b1,f1,none⟩) n c1]]:=by
  refine ⟨?_,rfl,fun x hx=>(nomatch hx),by rw [hW0];exact dE w _ _ _⟩
  rw [hW0]
  exact o3.voidRow.bounds (J _) (by simp)
 have HE:=I hE;have HW0:=I hW0
 clear o1 s1 o2 s2 o3 hE hW0
 go_enter Tryz.func122,Tryz.ntmps122
 go_wp2
 rw [←HW0.out]
 clear HW0
 go_loopw [13,4,5,17,18] (fun i _ _ _ _ wt => ∃k:Nat,i=.int .i64 k∧k≤c∧∃q va vc zs,Hid (q=k * r∧BldE w wt (w.heap.size+1) (w.heap.size+1+1) c r va q vc zs [dX w.heap.size [.int .i64 r,.int .i64 c,.slice (some ⟨b1,f1,none⟩) n c1]])∧Hid (zs.map (cn .f32)=iE (xs.map (cn .f32)) r c q)) (fun i _ _ _ _ _=>c - (intOf i).toNat)
 case atStart=>exact ⟨0,rfl,Nat.zero_le _,0,_,_,[],I ⟨by simp,HE.out⟩,I rfl⟩
 case round =>
  clear HE
  obtain ⟨i,rfl,hi,q,va,vc,zs,HB,HZ⟩:=hrel
  obtain ⟨wo,rfl⟩:∃wo:World,wo=wr:=⟨_,rfl⟩
  obtain ⟨bl,x0,x1,x2,xf⟩:=(HB.out.2.own.box (tV (List.mem_cons_self ..))).three
  by_cases hli:i < c
  ·go_wp2
   go_loopw [18,5] (fun u _ wt => ∃k:Nat,u=.int .i64 k∧k≤r∧∃m va vc zs,Hid (m=i * r+k∧BldE w wt (w.heap.size+1) (w.heap.size+1+1) c r va m vc zs [dX w.heap.size [.int .i64 r,.int .i64 c,.slice (some ⟨b1,f1,none⟩) n c1]])∧Hid (zs.map (cn .f32)=iE (xs.map (cn .f32)) r c m)) (fun u _ _=>r - (intOf u).toNat)
   case atStart=>exact ⟨0,rfl,Nat.zero_le _,q,va,vc,zs,I ⟨by rw [HB.out.1];rfl,HB.out.2⟩,HZ⟩
   case round =>
    clear HB HZ bl x0 x1 x2 xf
    obtain ⟨k,rfl,hk,m,va,vc,zs,HB,HZ⟩:=hrel
    by_cases hlt:k < r
    ·have hmn:m < n:=by
      rw [HB.out.1,HN0.out]
      have:(i+1) * r≤c * r:=Nat.mul_le_mul_right r hli
      rw [Nat.succ_mul] at this
      rw [Nat.mul_comm r c];omega
     have hjn:k * c+i < n:=by
      rw [HN0.out]
      have:(k+1) * c≤r * c:=Nat.mul_le_mul_right c hlt
      rw [Nat.succ_mul] at this;omega
     have hd:=HCX.out (k * c+i) (by rw [HXL.out];exact hjn)
     have hxx:=bO xs (k * c+i)
     have hxb:=HX.out.lt _ (iB (k:=k * c+i) (by rw [HXL.out];exact hjn))
     obtain ⟨x,hx⟩:∃x,x=xs.getD (k * c+i) 0:=⟨_,rfl⟩
     rw [←hx] at hd hxx hxb
     have hpush:=fS HZ.out (f:=fun j=>(xs.map (cn .f32)).getD (j % r * c+j / r) 0) (z:=x) (by rw [HB.out.1,yD _ hlt,hxx])
     have KRK:=I (fun W=>KR.out W k hlt)
     obtain ⟨s,hs⟩:∃s,s=k * c:=⟨_,rfl⟩
     rw [←hs] at hd hjn KRK
     rw [←Nat.add_assoc] at hd
     have KS:Hid (∀W,Below w.heap.size w W→BoxN W w.heap.size [.int .i64 r,.int .i64 c,.slice (some ⟨b1,f1,none⟩) n c1]→BoxN W (w.heap.size+1+1) [.int .i64 c,.int .i64 r,.slice va m vc]→(W.cell? ⟨w.heap.size,0,none⟩=some (.int .i64 r)∧W.cell? ⟨w.heap.size,1,none⟩=some (.int .i64 c)∧W.cell? ⟨w.heap.size,2,none⟩=some (.slice (some ⟨b1,f1,none⟩) n c1))∧W.cell? ⟨b1,f1+s+i,none⟩=some (.float .f32 x)∧W.cell? ⟨w.heap.size+1+1,2,none⟩=some (.slice va m vc)):=I (fun W hb h1 h2=>⟨⟨h1.three.2.1,h1.three.2.2.1,h1.three.2.2.2.1⟩,(hb.cell (p:=⟨b1,f1+s+i,none⟩) hl1).trans hd,h2.three.2.2.2.1⟩)
     have HS:=I (KS.out wr HB.out.2.below (HB.out.2.own.box (tV (List.mem_cons_self ..))) HB.out.2.out)
     have HXB:=I hxb;have HPU:=I hpush
     have HMS:Hid (m+1=i * r+(k+1)):=I (by rw [HB.out.1];rfl)
     have hsc:s+c≤c1:=by
      have:(k+1) * c≤r * c:=Nat.mul_le_mul_right c hlt
      rw [Nat.succ_mul,←hs,←HN0.out] at this;omega
     clear hd hxx hx hxb hpush hs
     go_upto_region 8 with fail
     refine aL 11 [4,8,9] (fun W=>(W.cell? ⟨w.heap.size,0,none⟩=some (.int .i64 r)∧W.cell? ⟨w.heap.size,1,none⟩=some (.int .i64 c)∧W.cell? ⟨w.heap.size,2,none⟩=some (.slice (some ⟨b1,f1,none⟩) n c1))∧W.cell? ⟨b1,f1+s+i,none⟩=some (.float .f32 x)∧W.cell? ⟨w.heap.size+1+1,2,none⟩=some (.slice va m vc)) (fun _ _ _=>False) (Ep (.slice (some ⟨b1,f1+s,none⟩) c (c1 - s))) (by kernel_rfl) (by kernel_rfl) HS.out (fun W q h=>by simpa using h) ?_
     iterate 4 (refine aD (by rfl) HS.out (fun K hK W hW=>?_);obtain ⟨⟨e1,e2,e3⟩,e4,e5⟩:=hW;go_simp;refine hK _ ?_;clear hK K e1 e2 e3 e4 e5)
     refine aF (by rfl) HS.out (fun K hK q1=>?_)
     go_simp
     refine ⟨(KRK.out _).mono ?_,?_⟩
     ·rintro e w1 ⟨rfl,hb⟩
      exact ⟨_,rfl,rfl,hb⟩
     rintro v w2 ⟨rfl,hb2⟩
     have hBB:=HB.out.2.move (aA (below_drewN (O wr.heap.size wr) q1) hb2)
     have HS2:=I (KS.out w2 hBB.below (hBB.own.box (tV (List.mem_cons_self ..))) hBB.out)
     have HB2:=I hBB
     refine ⟨HS2.out,hK _ _ ?_⟩
     clear hK K hb2 hBB HS
     iterate 3 (refine aD (by rfl) HS2.out (fun K hK W hW=>?_);obtain ⟨⟨e1,e2,e3⟩,e4,e5⟩:=hW;go_simp;refine hK _ ?_;clear hK K e1 e2 e3 e4 e5)
     refine aF (by rfl) HS2.out (fun K hK q=>?_)
     have hbq:=below_drewN (O w2.heap.size w2) q
     go_simp
     have hbA:Below w2.heap.size w2 ((w2.drewN q).alloc (.cells #[.float .f32 x] 28)):=hbq.alloc (by simp) _
     have hBA:=HB2.out.move hbA
     have HS3:=I (KS.out _ hBA.below (hBA.own.box (tV (List.mem_cons_self ..))) hBA.out)
     have HBA:=I hbA
     refine ⟨HS3.out,hK _ _ ?_⟩
     clear hK K hbq hbA hBA
     refine aF (by rfl) HS3.out (fun K hK q2=>?_)
     refine bP rfl _ _ 25 rfl w.heap.size 28 i0 _ 1 4 Tryz.underlying25 hi0 hz0 hzs hz2 rfl (by decide) (.slice va m vc) m (zs.map (Value.float .f32)) rfl (HB2.out.move (below_drewN HBA.out q2)).row ⟨w2.heap.size,0,none⟩ 1 1 [.float .f32 x] rfl rfl (World.news_of_block (cs:=#[.float .f32 x]) (t:=28) (fr:=(0,0)) (heap_alloc_new (w2.drewN q) _)) (by simp [Value.oneCell']) (by unfold maxLen;omega) (by omega) (Nat.le_trans HB2.out.below.size (Nat.le_trans HBA.out.size (J _))) ?_
     intro v' w9 ho9 hg9 hat9 hb9
     obtain ⟨va',vc',rfl,hown9,hbel9,hnew⟩:=HB2.out.push (W:=(w2.drewN q).drewN q2) HXB.out (below_drewN (below_drewN (O _ _) q) q2) ho9 hg9 (by simpa using hat9)
     have HS9:=I (KS.out w9 hbel9 (hown9.box (tV (List.mem_cons_self ..))) (hown9.box (List.mem_cons_of_mem _ (List.mem_cons_self ..))))
     have HO9:=I (hown9.box (List.mem_cons_of_mem _ (List.mem_cons_self ..)));have HN9:=I hnew
     refine ⟨HS9.out,hK _ _ ?_⟩
     clear hK K ho9 hg9 hat9 hb9 hbel9 hnew hown9 HS3 HBA HS2
     refine aD (by rfl) HS9.out (fun K hK W hW=>?_)
     go_simp
     refine hK _ ?_
     clear hK K hW
     refine aP (fun q3=>?_)
     have HO:=I (HO9.out.below (below_drewN (O _ _) q3))
     obtain ⟨ol,y0,y1,y2,yf⟩:=HO.out.three
     have HN:=I (And.intro HMS.out (HN9.out.move (below_drewN (O _ _) q3)))
     clear HN9 HS9 HO9 HO HB HB2 HZ KS y0 y1
     go_wp2
     go_roundw
     case rel=>exact ⟨k+1,by go_num,hlt,_,_,_,_,HN,HPU⟩
     case measure=>simp [intOf];omega
    ·have hkn:k=r:=by omega
     subst hkn
     have HBN:Hid (m=(i+1) * k∧_):=I ⟨by rw [HB.out.1,Nat.succ_mul],HB.out.2⟩
     go_wp2
     go_roundw
     case rel=>exact ⟨i+1,by go_num,hli,m,va,vc,zs,HBN,HZ⟩
     case measure=>simp [intOf];omega
  ·have hin:i=c:=by omega
   subst hin
   have hq:q=n:=by rw [HB.out.1,HN0.out,Nat.mul_comm]
   subst hq
   obtain ⟨ol,t0,t1,t2,tf⟩:=HB.out.2.out.three
   obtain ⟨rl,u0,u1,u2,uf⟩:=HB.out.2.res.three
   have HFIN:=I HB.out.2.fin
   clear x0 x1 x2
   go_wp2
   try simp only [Exit.inBlock,Exit.then]
   refine bodyPost_ret (v:=.agg #[.int .i64 i,.int .i64 r,.slice va q vc]) (by simp [results,Tryz.results122,go_sem,u0,u1,u2]) rfl ⟨va,vc,zs,rfl,I HFIN.out.1,HZ,HFIN.out.2⟩
def pL (X Y:List Nat) (m c i k:Nat):Nat→Nat
 | 0=>0
 | t+1=>dQ .add .f32 (pL X Y m c i k t) (dQ .mul .f32 (X.getD (i * m+t) 0) (Y.getD (t * c+k) 0))
def mR (X Y:List Nat) (m c n:Nat):List Nat:=bA n fun j=>pL X Y m c (j / c) (j % c) m
theorem Er (X Y:List Nat) {m c i k:Nat} (hk:k < c):pL X Y m c ((i * c+k) / c) ((i * c+k) % c) m=pL X Y m c i k m:=by
 have h1:(i * c+k) % c=k:=by rw [Nat.mul_comm,Nat.mul_add_mod,Nat.mod_eq_of_lt hk]
 have h2:(i * c+k) / c=i:=by rw [Nat.mul_comm,Nat.mul_add_div (by omega),Nat.div_eq_of_lt hk,Nat.add_zero]
 rw [h1,h2]
theorem jN (w:World) (g1 o1 g2 o2:Nat) (r m c:Nat) (a1 a2:Option Addr) (c1 c2 n1 n2:Nat) (xs ys:List Nat) (p0:w.cell? ⟨g1,o1,none⟩=some (.int .i64 r)) (p1:w.cell? ⟨g1,o1+1,none⟩=some (.int .i64 m)) (p2:w.cell? ⟨g1,o1+2,none⟩=some (.slice a1 n1 c1))
  (q1:w.cell? ⟨g2,o2+1,none⟩=some (.int .i64 c)) (q2:w.cell? ⟨g2,o2+2,none⟩=some (.slice a2 n2 c2))
  (hx:F32s w a1 c1 xs) (hy:F32s w a2 c2 ys) (hxl:xs.length=n1) (hyl:ys.length=n2) (hr:r≤16) (hm:m≤16) (hc:c≤16) (hn1:n1=r * m) (hn2:n2=m * c) :
  Calls Tryz.prog 109 #[.pointer (some ⟨g1,o1,none⟩),.pointer (some ⟨g2,o2,none⟩)] w (bN r c (r * c) (mR (xs.map (cn .f32)) (ys.map (cn .f32)) m c (r * c)) w):=by
 obtain ⟨i0,hi0,hz0,hzs,hz2⟩:=info_parts bW
 have HX:=I hx;have HXL:=I hxl;have HY:=I hy;have HYL:=I hyl;have HN1:=I hn1;have HN2:=I hn2
 have hb1:n1≤256:=by rw [hn1];exact Nat.mul_le_mul hr hm
 have hb2:n2≤256:=by rw [hn2];exact Nat.mul_le_mul hm hc
 have hb3:r * c≤256:=Nat.mul_le_mul hr hc
 obtain ⟨n,hn⟩:∃n,n=r * c:=⟨_,rfl⟩
 rw [←hn] at hb3 ⊢
 have HN:=I hn
 clear hx hxl hy hyl hn1 hn2 hn
 have hg1:=World.block_lt_of_cell? w _ p0
 have hg2:=World.block_lt_of_cell? w _ q1
 simp only at hg1 hg2
 go_enter Tryz.func109,Tryz.ntmps109
 go_upto_region 1 with fail
 obtain ⟨W0,hW0⟩:∃W,W=w.alloc (.cells #[.int .i64 0,.int .i64 0,.slice none 0 0] 37):=⟨_,rfl⟩
 have k0:W0.cell? ⟨g1,o1,none⟩=some (.int .i64 r):=by rw [hW0];go_simp
 have k1:W0.cell? ⟨g2,o2+1,none⟩=some (.int .i64 c):=by rw [hW0];go_simp
 have HW0:=I hW0
 have hs0:W0.heap.size=w.heap.size+1:=by rw [hW0];simp
 rw [←hW0]
 have HP:=I (And.intro p0 (And.intro p1 (And.intro p2 (And.intro q1 q2))))
 clear hW0 p0 p1 p2 q1 q2
 go_cut [5] (fun p5 wx => ∃ob va vc,p5=.pointer (some ⟨ob,0,none⟩)∧Hid (Bld w wx w.heap.size ob r c va 0 vc []))
 case first =>
  go_region_held3 (fun w'=>w'.cell? ⟨g1,o1,none⟩=some (.int .i64 r)∧w'.cell? ⟨g2,o2+1,none⟩=some (.int .i64 c)) (go_keep) (first | fail)
  all_goals (try go_wp2_with fail)
  all_goals go_meet
  ·exact ⟨_,_,_,rfl,I (by rw [HW0.out];exact (Bld.start1 w r c).move (Below.drew (O _ _)))⟩
  ·exact ⟨_,_,_,rfl,I (by rw [HW0.out];exact (Bld.start2 w r c).move (Below.drew (O _ _)))⟩
 case rest =>
  obtain ⟨ob,va,vc,rfl,HB⟩:=hcut
  clear k0 k1 HW0 hs0
  have CM:Hid (∀W,Below w.heap.size w W→W.cell? ⟨g1,o1,none⟩=some (.int .i64 r)∧W.cell? ⟨g1,o1+1,none⟩=some (.int .i64 m)∧W.cell? ⟨g1,o1+2,none⟩=some (.slice a1 n1 c1)∧W.cell? ⟨g2,o2+1,none⟩=some (.int .i64 c)∧W.cell? ⟨g2,o2+2,none⟩=some (.slice a2 n2 c2)):=I (fun W hb =>
   ⟨(hb.cell (p:=⟨g1,o1,none⟩) hg1).trans HP.out.1,(hb.cell (p:=⟨g1,o1+1,none⟩) hg1).trans HP.out.2.1,(hb.cell (p:=⟨g1,o1+2,none⟩) hg1).trans HP.out.2.2.1,(hb.cell (p:=⟨g2,o2+1,none⟩) hg2).trans HP.out.2.2.2.1,(hb.cell (p:=⟨g2,o2+2,none⟩) hg2).trans HP.out.2.2.2.2⟩)
  clear HP
  go_wp2
  go_loopw [6,7,8,9] (fun i _ _ _ wt => ∃k:Nat,i=.int .i64 k∧k≤r∧∃q va vc zs,Hid (q=k * c∧Bld w wt w.heap.size ob r c va q vc zs)∧Hid (zs.map (cn .f32)=mR (xs.map (cn .f32)) (ys.map (cn .f32)) m c q)) (fun i _ _ _ _=>r - (intOf i).toNat)
  case atStart=>exact ⟨0,rfl,Nat.zero_le _,0,va,vc,[],I ⟨by simp,HB.out⟩,I rfl⟩
  case round =>
   clear HB
   obtain ⟨i,rfl,hi,q,va,vc,zs,HB,HZ⟩:=hrel
   obtain ⟨wo,rfl⟩:∃wo:World,wo=wr:=⟨_,rfl⟩
   obtain ⟨r0,r1,r2,s1,s2⟩:=CM.out _ HB.out.2.below
   by_cases hli:i < r
   ·clear r1 r2 s2
    go_wp2
    go_loopw [7,8,9] (fun u _ _ wt => ∃k:Nat,u=.int .i64 k∧k≤c∧∃d va vc zs,Hid (d=i * c+k∧Bld w wt w.heap.size ob r c va d vc zs)∧Hid (zs.map (cn .f32)=mR (xs.map (cn .f32)) (ys.map (cn .f32)) m c d)) (fun u _ _ _=>c - (intOf u).toNat)
    case atStart=>exact ⟨0,rfl,Nat.zero_le _,q,va,vc,zs,I ⟨by rw [HB.out.1];rfl,HB.out.2⟩,HZ⟩
    case round =>
     clear HB HZ r0 s1
     obtain ⟨k,rfl,hk,d,va,vc,zs,HB,HZ⟩:=hrel
     obtain ⟨w2,rfl⟩:∃w2:World,w2=wr:=⟨_,rfl⟩
     obtain ⟨r0,r1,r2,s1,s2⟩:=CM.out _ HB.out.2.below
     by_cases hlk:k < c
     ·have hdn:d < n:=by
       rw [HB.out.1,HN.out]
       have:(i+1) * c≤r * c:=Nat.mul_le_mul_right c hli
       rw [Nat.succ_mul] at this;omega
      clear r0 r2 s2
      go_wp2
      go_loopw [8,9] (fun s u wt => ∃t:Nat,u=.int .i64 t∧t≤m∧∃z:Nat,s=.float .f32 z∧Hid (cn .f32 z=pL (xs.map (cn .f32)) (ys.map (cn .f32)) m c i k t∧z < 4294967296)∧Hid (Dr w2 wt)) (fun _ u _=>m - (intOf u).toNat)
      case atStart=>exact ⟨0,rfl,Nat.zero_le _,0,rfl,I ⟨bT,by decide⟩,I (Dr.refl _)⟩
      case round =>
       clear r1 s1
       obtain ⟨t,rfl,ht,z,rfl,HS,HD⟩:=hrel
       have hbt:Below w.heap.size w wr:=HB.out.2.below.trans (HD.out.below.mono HB.out.2.below.size)
       obtain ⟨r0,r1,r2,s1,s2⟩:=CM.out _ hbt
       by_cases hlt:t < m
       ·have hj1:i * m+t < n1:=by
         rw [HN1.out]
         have:(i+1) * m≤r * m:=Nat.mul_le_mul_right m hli
         rw [Nat.succ_mul] at this;omega
        have hj2:t * c+k < n2:=by
         rw [HN2.out]
         have:(t+1) * c≤m * c:=Nat.mul_le_mul_right c hlt
         rw [Nat.succ_mul] at this;omega
        obtain ⟨v1,hv1⟩:∃s,s=i * m:=⟨_,rfl⟩
        obtain ⟨v2,hv2⟩:∃s,s=t * c:=⟨_,rfl⟩
        obtain ⟨j1,hjj1⟩:∃j,j=v1+t:=⟨_,rfl⟩
        obtain ⟨j2,hjj2⟩:∃j,j=v2+k:=⟨_,rfl⟩
        have e1:(i:Int) * (m:Int)=(v1:Int):=by rw [hv1];rfl
        have e2:(t:Int) * (c:Int)=(v2:Int):=by rw [hv2];rfl
        have e3:(v1:Int)+(t:Int)=(j1:Int):=by rw [hjj1];rfl
        have e4:(v2:Int)+(k:Int)=(j2:Int):=by rw [hjj2];rfl
        have hj1':j1=i * m+t:=by rw [hjj1,hv1]
        have hj2':j2=t * c+k:=by rw [hjj2,hv2]
        rw [←hj1'] at hj1
        rw [←hj2'] at hj2
        have t1:IntKind.i64.wrap (v1:Int)=v1:=eL (by omega)
        have t2:IntKind.i64.wrap (v2:Int)=v2:=eL (by omega)
        have t3:IntKind.i64.wrap (j1:Int)=j1:=eL (by omega)
        have t4:IntKind.i64.wrap (j2:Int)=j2:=eL (by omega)
        obtain ⟨bx,fx,rfl,hl1,hcx⟩:=(HX.out.below hbt).spot (k:=j1) (by rw [HXL.out];exact hj1)
        obtain ⟨by',fy,rfl,hl2,hcy⟩:=(HY.out.below hbt).spot (k:=j2) (by rw [HYL.out];exact hj2)
        have d1:=hcx j1 (by rw [HXL.out];exact hj1)
        have d2:=hcy j2 (by rw [HYL.out];exact hj2)
        have hx2:=bO xs j1
        have hy2:=bO ys j2
        obtain ⟨x,hx⟩:∃x,x=xs.getD j1 0:=⟨_,rfl⟩
        obtain ⟨y,hy⟩:∃y,y=ys.getD j2 0:=⟨_,rfl⟩
        rw [←hx] at d1 hx2
        rw [←hy] at d2 hy2
        rw [hj1'] at hx2
        rw [hj2'] at hy2
        have HXY:=I (And.intro hx2 hy2)
        clear hcx hcy hx hy hx2 hy2 hbt hj1' hj2' hjj1 hjj2 hv1 hv2
        go_wp2
        refine aN (fun f args v=>False) (by kernel_rfl) (by kernel_rfl) ?_
        repeat (refine aV (fun K hK nq=>?_);go_simp;refine hK _ ?_;clear hK K)
        refine bD ?_
        rintro w' ⟨q,rfl⟩
        clear e1 e2 e3 e4 t1 t2 t3 t4 d1 d2 r0 r1 r2 s1 s2
        go_wp2
        go_roundw
        case rel=>exact ⟨t+1,by go_num,hlt,_,rfl,I ⟨by rw [bE,bE,HS.out.1,←HXY.out.1,←HXY.out.2];rfl,bL _ .f32 _ _ _⟩,I (HD.out.drewN _)⟩
        case measure=>simp [intOf];omega
       ·have htm:t=m:=by omega
        subst htm
        have hBt:=HB.out.2.move HD.out.below
        obtain ⟨ol,t0,t1,t2,tf⟩:=hBt.out.three
        have HRW:=I hBt.row
        have HBT:=I hBt
        clear t0 t1 r0 r2 s1 s2 hbt hBt
        go_wp2_with (at_builtin;refine cI rfl _ _ 25 rfl w.heap.size i0 _ 1 4 Tryz.underlying25 hi0 hz0 hzs hz2 rfl (by decide) rfl (by intro u hu;simp at hu;subst hu;rfl) _ _ _ rfl HRW.out (by go_simp) ?c3 ?c4 ?c5 ?_)
        case c3=>unfold maxLen;omega
        case c4=>omega
        case c5=>exact HBT.out.below.size
        intro v' w9 ho9 hg9 hat9 hb9 hs9
        obtain ⟨va',vc',rfl,hc9,hf9,hbel9,hnew⟩:=HBT.out.push (W:=wr) HS.out.2 (O _ _) ho9 hg9 (by simpa using hat9)
        have HN9:=I (And.intro (show d+1=i * c+(k+1) by rw [HB.out.1];rfl) hnew)
        have HM9:=I (fS HZ.out (f:=fun j=>pL (xs.map (cn .f32)) (ys.map (cn .f32)) t c (j / c) (j % c) t) (z:=z) (by rw [HB.out.1,Er _ _ hlk];exact HS.out.1))
        clear ho9 hg9 hat9 hb9 hbel9 hnew HB HZ HRW HBT HD HS r1 t2 tf
        go_wp2
        go_roundw
        case rel=>exact ⟨k+1,by go_num,hlk,_,_,_,_,HN9,HM9⟩
        case measure=>simp [intOf];omega
     ·have hkn:k=c:=by omega
      subst hkn
      have HBN:Hid (d=(i+1) * k∧_):=I ⟨by rw [HB.out.1,Nat.succ_mul],HB.out.2⟩
      clear r0 r1 r2 s2
      go_wp2
      go_roundw
      case rel=>exact ⟨i+1,by go_num,hli,d,va,vc,zs,HBN,HZ⟩
      case measure=>simp [intOf];omega
   ·have hin:i=r:=by omega
    subst hin
    have hq:q=n:=by rw [HB.out.1,HN.out]
    subst hq
    obtain ⟨ol,t0,t1,t2,tf⟩:=HB.out.2.out.three
    obtain ⟨rl,u0,u1,u2,uf⟩:=HB.out.2.res.three
    have HFIN:=I HB.out.2.fin
    clear r1 r2 s1 s2
    go_wp2
    try simp only [Exit.inBlock,Exit.then]
    refine bodyPost_ret (v:=.agg #[.int .i64 i,.int .i64 c,.slice va q vc]) (by simp [results,Tryz.results109,go_sem,u0,u1,u2]) rfl ⟨va,vc,zs,rfl,I HFIN.out.1,HZ,HFIN.out.2⟩
end Go.Proofs.YtpadlmidojpbeaaGreat
