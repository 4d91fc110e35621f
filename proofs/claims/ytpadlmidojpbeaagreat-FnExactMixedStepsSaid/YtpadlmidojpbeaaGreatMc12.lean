/- Joined texts 12. No condition. -/
import Derived.Deep.CutBlock
import Derived.Test.YtpadlmidojpbeaaGreatMc0
import Derived.Test.YtpadlmidojpbeaaGreatMc2
import Derived.Test.YtpadlmidojpbeaaGreatMc3
import Derived.Test.YtpadlmidojpbeaaGreatMc6
import Derived.Test.YtpadlmidojpbeaaGreatMc7
import Derived.Test.YtpadlmidojpbeaaGreatMc9
set_option linter.unusedVariables false
set_option linter.unusedSimpArgs false
set_option maxRecDepth 100000
set_option maxHeartbeats 64000000
namespace Go.Proofs.YtpadlmidojpbeaaGreat
open Go Go.RowKit
theorem mF (w:World) (g1 o1 c:Nat) (a1:Option Addr) (c1 n:Nat) (xs:List Nat) (p1:w.cell? ⟨g1,o1+1,none⟩=some (.int .i64 c)) (p2:w.cell? ⟨g1,o1+2,none⟩=some (.slice a1 n c1)) (h:F32s w a1 c1 xs) (hx:xs.length=n) (hn6:n≤256) (hc1:1≤c) (hc:c≤16) :
  Calls Tryz.prog 114 #[.pointer (some ⟨g1,o1,none⟩)] w fun e w' => ∃ad' cap' zs,e=.returned (.slice ad' c cap')∧Hid (RepF w' w.heap.size w'.heap.size ad' c cap' zs)∧Hid (zs.map (cn .f32)=bA c (sI (xs.map (cn .f32)) c n))∧Below w.heap.size w w':=by
 obtain ⟨i0,hi0,hz0,hz1,hz2⟩:=info_parts bW
 obtain ⟨X,hX⟩:∃X,X=xs.map (cn .f32):=⟨_,rfl⟩
 rw [←hX]
 have HX:=I hX;have HXL:=I hx;have H0:=I h
 have hgl:=World.block_lt_of_cell? w _ p1
 simp only at hgl
 clear hX hx h
 go_enter Tryz.func114,Tryz.ntmps114
 go_wp2_with (at_make;refine wpList_make_full _ rfl _ _ 25 rfl w.heap.size 28 i0 (.float .f32 0) 1 Tryz.underlying25 hi0 hz0 hz1 .i64 .i64 _ _ c rfl rfl rfl rfl ?c1 ?c2 ?c3 ?_)
 case c1=>rw [hz2];omega
 case c2=>unfold maxLen;omega
 case c3=>exact J _
 intro w1 hown1 hg1
 have hb1:Below w.heap.size w w1:=(O _ _).grown hg1 (J _) (fun k e=>by cases e)
 have hS:=vY hown1
 have hne:¬ c=0:=by omega
 have HP:=I (And.intro p1 p2)
 clear hown1 hg1 p1 p2
 go_wp2
 go_loopw [4] (fun i wr => ∃k:Nat,i=.int .i64 k∧k≤n∧∃zs:List Nat,Hid (RepF wr w.heap.size wr.heap.size (some ⟨w.heap.size,0,none⟩) c c zs)∧Hid (zs.map (cn .f32)=bA c (sI X c k))∧Hid (Below w.heap.size w wr)) (fun i _=>n - (intOf i).toNat)
 case atStart=>exact ⟨0,rfl,Nat.zero_le _,_,I hS,I (by rw [pE];rfl),I hb1⟩
 case round =>
  clear hS hb1
  obtain ⟨k,rfl,hk,zs,HZ0,HZ,HB⟩:=hrel
  have q1:=(HB.out.cell (p:=⟨g1,o1+1,none⟩) hgl).trans HP.out.1
  have q2:=(HB.out.cell (p:=⟨g1,o1+2,none⟩) hgl).trans HP.out.2
  by_cases hlt:k < n
  ·have hk1:k < xs.length:=by rw [HXL.out];exact hlt
   obtain ⟨bx,offx,rfl,hbx,hqx⟩:=F32s.spot (H0.out.below HB.out) (k:=k) hk1
   have hcx:=hqx k hk1
   obtain ⟨x,px⟩:∃x,x=xs.getD k 0:=⟨_,rfl⟩
   rw [←px] at hcx
   have Px:=I px;clear px hqx
   have hmod:k % c < c:=Nat.mod_lt _ hc1
   have ht:(k:Int).tmod (c:Int)=((k % c:Nat):Int):=(Int.ofNat_tmod k c).symm
   obtain ⟨j,hj⟩:∃j,j=k % c:=⟨_,rfl⟩
   rw [←hj] at hmod ht
   have HJ:=I hj;clear hj
   obtain ⟨g,hg,hlo,hcell,hfr,_⟩:=HZ0.out.open (by omega)
   cases hg
   have hc2:=hcell j hmod
   obtain ⟨z,hzz⟩:∃z,z=zs.getD j 0:=⟨_,rfl⟩
   rw [←hzz] at hc2
   have HZZ:=I hzz
   have HFR:=I (hfr j)
   have S0:Hid ((fun W=>W.cell? ⟨g1,o1+1,none⟩=some (.int .i64 c)∧W.cell? ⟨g1,o1+2,none⟩=some (.slice (some ⟨bx,offx,none⟩) n c1)∧W.cell? ⟨bx,offx+k,none⟩=some (.float .f32 x)∧W.cell? ⟨w.heap.size,j,none⟩=some (.float .f32 z)) wr):=I ⟨q1,q2,hcx,hc2⟩
   clear hcell hfr hzz hcx hc2
   go_upto_region 5 with fail
   clear q1 q2
   refine aL 18 [] (fun W=>W.cell? ⟨g1,o1+1,none⟩=some (.int .i64 c)∧W.cell? ⟨g1,o1+2,none⟩=some (.slice (some ⟨bx,offx,none⟩) n c1)∧W.cell? ⟨bx,offx+k,none⟩=some (.float .f32 x)∧W.cell? ⟨w.heap.size,j,none⟩=some (.float .f32 z)) (fun _ _ _=>False) (fun _ _ _ _ _=>False) (by kernel_rfl) (by kernel_rfl) S0.out (fun W q h=>by simpa using h) ?_
   iterate 16 (refine aD (by rfl) S0.out (fun K hK W hW=>?_);obtain ⟨e0,e1,e2,e3⟩:=hW;go_simp;refine hK _ ?_;clear hK K e0 e1 e2 e3)
   refine aD (by rfl) S0.out (fun K hK W hW=>?_)
   go_simp
   have hf:=bE .add .f32 z x W
   have hfl:=bL .add .f32 z x W
   generalize dH .add .f32 z x W=y at hf hfl ⊢
   refine hK _ ?_
   have HF:=I hf;have HFL:=I hfl
   clear hK K hW hf hfl
   refine aD (by rfl) S0.out (fun K hK W hW=>?_)
   obtain ⟨e0,e1,e2,e3⟩:=hW
   go_simp
   refine hK _ ?_
   clear hK K e0 e1 e2 e3
   refine aP (fun q9=>?_)
   have dB:=below_drewN (O wr.heap.size wr) q9
   have R1:=I ((HZ0.out.below dB).bounds (J _) dB.size)
   have B1:=I (aA HB.out dB)
   have c9:(wr.drewN q9).cell? ⟨w.heap.size,j,none⟩=some (.float .f32 z):=by simpa using S0.out.2.2.2
   have f9:(wr.drewN q9).frozen? ⟨w.heap.size,j,none⟩=false:=by simpa using HFR.out
   clear dB S0 HZ0 HB HFR
   generalize wr.drewN q9=w9 at R1 B1 c9 f9 ⊢
   have R2:Hid (RepF (w9.setCell ⟨w.heap.size,j,none⟩ (.float .f32 y)) w.heap.size (w9.setCell ⟨w.heap.size,j,none⟩ (.float .f32 y)).heap.size (some ⟨w.heap.size,0,none⟩) c c (zs.set j y)):=I ((R1.out.setAt j y HFL.out (by omega)).bounds (J _) (by simp [World.setCell]))
   have B2:=I (B1.out.setCell (p:=⟨w.heap.size,j,none⟩) (J _) (.float .f32 y))
   have HZN:Hid ((zs.set j y).map (cn .f32)=bA c (sI X c (k+1))):=I (by
    refine rX HZ.out ?_ ?_
    ·rw [HF.out,HZZ.out,DW HZ.out hmod,Px.out,←bO,←HX.out]
     show _ = if j=k % c then _ else _
     rw [if_pos HJ.out]
    ·intro i hi
     show (if i=k % c then _ else _) = _
     rw [if_neg (by rw [←HJ.out];exact hi)])
   clear R1 B1 HZ HF HFL HZZ Px
   go_wp2
   go_roundw
   case rel=>exact ⟨k+1,by go_num,hlt,_,R2,HZN,B2⟩
   case measure=>simp [intOf];omega
  ·have hkn:k=n:=by omega
   subst hkn
   go_wp2
   go_ret
   exact ⟨_,_,zs,rfl,HZ0,HZ,HB.out⟩
theorem gF (w:World) (g1 o1 g2 o2:Nat) (r c:Int) (a1 a2:Option Addr) (c1 c2 n:Nat) (xs ys:List Nat) (p0:w.cell? ⟨g1,o1,none⟩=some (.int .i64 r)) (p1:w.cell? ⟨g1,o1+1,none⟩=some (.int .i64 c)) (p2:w.cell? ⟨g1,o1+2,none⟩=some (.slice a1 n c1)) (q2:w.cell? ⟨g2,o2+2,none⟩=some (.slice a2 n c2))
  (hx:F32s w a1 c1 xs) (hy:F32s w a2 c2 ys) (hxl:xs.length=n) (hyl:ys.length=n) (hn:n≤256) :
  Calls Tryz.prog 106 #[.pointer (some ⟨g1,o1,none⟩),.pointer (some ⟨g2,o2,none⟩)] w (bN r c n (fM .mul (xs.map (cn .f32)) (ys.map (cn .f32)) n) w):=by
 obtain ⟨i0,hi0,hz0,hzs,hz2⟩:=info_parts bW
 have HX:=I hx;have HXL:=I hxl
 have HY:=I hy;have HYL:=I hyl
 clear hy hyl
 clear hx hxl
 have hg1:=World.block_lt_of_cell? w _ p0
 simp only at hg1
 have hg2:=World.block_lt_of_cell? w _ q2
 simp only at hg2
 go_enter Tryz.func106,Tryz.ntmps106
 go_upto_region 1 with fail
 obtain ⟨W0,hW0⟩:∃W,W=w.alloc (.cells #[.int .i64 0,.int .i64 0,.slice none 0 0] 37):=⟨_,rfl⟩
 have k0:W0.cell? ⟨g1,o1,none⟩=some (.int .i64 r):=by rw [hW0];go_simp
 have k1:W0.cell? ⟨g1,o1+1,none⟩=some (.int .i64 c):=by rw [hW0];go_simp
 have HW0:=I hW0
 have hs0:W0.heap.size=w.heap.size+1:=by rw [hW0];simp
 rw [←hW0]
 have HP:=I (And.intro p1 (And.intro p2 q2))
 clear hW0 p0 p1 p2 q2
 go_cut [5] (fun p5 wx => ∃ob va vc,p5=.pointer (some ⟨ob,0,none⟩)∧Hid (Bld w wx w.heap.size ob r c va 0 vc []))
 case first =>
  go_region_held3 (fun w'=>w'.cell? ⟨g1,o1,none⟩=some (.int .i64 r)∧w'.cell? ⟨g1,o1+1,none⟩=some (.int .i64 c)) (go_keep) (first | fail)
  all_goals (try go_wp2_with fail)
  all_goals go_meet
  ·exact ⟨_,_,_,rfl,I (by rw [HW0.out];exact (Bld.start1 w r c).move (Below.drew (O _ _)))⟩
  ·exact ⟨_,_,_,rfl,I (by rw [HW0.out];exact (Bld.start2 w r c).move (Below.drew (O _ _)))⟩
 case rest =>
  obtain ⟨ob,va,vc,rfl,HB⟩:=hcut
  clear k0 k1 HW0 hs0
  go_wp2
  go_loopw [6] (fun i wt => ∃k:Nat,i=.int .i64 k∧k≤n∧∃va vc zs,Hid (Bld w wt w.heap.size ob r c va k vc zs)∧Hid (zs.map (cn .f32)=fM .mul (xs.map (cn .f32)) (ys.map (cn .f32)) k)) (fun i _=>n - (intOf i).toNat)
  case atStart=>exact ⟨0,rfl,Nat.zero_le _,va,vc,[],HB,I rfl⟩
  case round =>
   clear HB
   obtain ⟨k,rfl,hk,va,vc,zs,HB,HZ⟩:=hrel
   have hbb:=HB.out.below
   have hP:=HP.out
   have r1:wr.cell? ⟨g1,o1+1,none⟩=some (.int .i64 c):=(hbb.cell (p:=⟨g1,o1+1,none⟩) hg1).trans hP.1
   have r2:wr.cell? ⟨g1,o1+2,none⟩=some (.slice a1 n c1):=(hbb.cell (p:=⟨g1,o1+2,none⟩) hg1).trans hP.2.1
   by_cases hlt:k < n
   ·obtain ⟨b1,f1,rfl,hl1,hc1⟩:=HX.out.spot (k:=k) (by rw [HXL.out];exact hlt)
    have d1:=hc1 k (by rw [HXL.out];exact hlt)
    have hx2:=bO xs k
    obtain ⟨x,hx⟩:∃x,x=xs.getD k 0:=⟨_,rfl⟩
    rw [←hx] at d1 hx2
    obtain ⟨b2,f2,rfl,hl2,hc2⟩:=HY.out.spot (k:=k) (by rw [HYL.out];exact hlt)
    have d2:=hc2 k (by rw [HYL.out];exact hlt)
    have hy2:=bO ys k
    obtain ⟨y,hy⟩:∃y,y=ys.getD k 0:=⟨_,rfl⟩
    rw [←hy] at d2 hy2
    have KS:Hid (∀W,Below w.heap.size w W→W.cell? ⟨ob,2,none⟩=some (.slice va k vc)→W.cell? ⟨g1,o1+1,none⟩=some (.int .i64 c)∧W.cell? ⟨g1,o1+2,none⟩=some (.slice (some ⟨b1,f1,none⟩) n c1)∧W.cell? ⟨b1,f1+k,none⟩=some (.float .f32 x)∧W.cell? ⟨g2,o2+2,none⟩=some (.slice (some ⟨b2,f2,none⟩) n c2)∧W.cell? ⟨b2,f2+k,none⟩=some (.float .f32 y)∧W.cell? ⟨ob,2,none⟩=some (.slice va k vc)):=I (fun W hb ho=>⟨(hb.cell (p:=⟨g1,o1+1,none⟩) hg1).trans hP.1,(hb.cell (p:=⟨g1,o1+2,none⟩) hg1).trans hP.2.1,(hb.cell (p:=⟨b1,f1+k,none⟩) hl1).trans d1,(hb.cell (p:=⟨g2,o2+2,none⟩) hg2).trans hP.2.2,(hb.cell (p:=⟨b2,f2+k,none⟩) hl2).trans d2,ho⟩)
    have HXY:=I (And.intro hx2 hy2)
    have HS:=I (KS.out wr HB.out.below HB.out.out.three.2.2.2.1)
    clear hc1 hx d1 hx2 hbb hP hc2 hy d2 hy2
    go_upto_region 5 with fail
    clear r1 r2
    refine aL 20 [17,18] (fun W=>W.cell? ⟨g1,o1+1,none⟩=some (.int .i64 c)∧W.cell? ⟨g1,o1+2,none⟩=some (.slice (some ⟨b1,f1,none⟩) n c1)∧W.cell? ⟨b1,f1+k,none⟩=some (.float .f32 x)∧W.cell? ⟨g2,o2+2,none⟩=some (.slice (some ⟨b2,f2,none⟩) n c2)∧W.cell? ⟨b2,f2+k,none⟩=some (.float .f32 y)∧W.cell? ⟨ob,2,none⟩=some (.slice va k vc)) (fun _ _ _=>False) (fun _ _ _ _ _=>False) (by kernel_rfl) (by kernel_rfl) HS.out (fun W q h=>by simpa using h) ?_
    iterate 16 (refine aD (by rfl) HS.out (fun K hK W hW=>?_);obtain ⟨e0,e1,e2,e3,e4,e5⟩:=hW;go_simp;refine hK _ ?_;clear hK K e0 e1 e2 e3 e4 e5)
    refine aD (by rfl) HS.out (fun K hK W hW=>?_)
    go_simp
    have hz:=bE .mul .f32 x y W
    have hzl:=bL .mul .f32 x y W
    generalize dH .mul .f32 x y W=z at hz hzl ⊢
    refine hK _ ?_
    have HZ2:=I hz;have HZL:=I hzl
    clear hK K hW hz hzl
    refine aF (by rfl) HS.out (fun K hK q=>?_)
    have hbq:=below_drewN (O wr.heap.size wr) q
    go_simp
    have hbA:Below wr.heap.size wr ((wr.drewN q).alloc (.cells #[.float .f32 z] 28)):=hbq.alloc (by simp) _
    have hs1:=KS.out _ ((HB.out.below.trans (hbA.mono HB.out.below.size))) ((HB.out.move hbA).out.three.2.2.2.1)
    have HBA:=I hbA;have HS1:=I hs1
    refine ⟨hs1,hK _ _ ?_⟩
    clear hK K hbq hbA hs1
    refine aF (by rfl) HS1.out (fun K hK q2=>?_)
    refine bP rfl _ _ 25 rfl w.heap.size 28 i0 _ 1 4 Tryz.underlying25 hi0 hz0 hzs hz2 rfl (by decide) (.slice va k vc) k (zs.map (Value.float .f32)) rfl (HB.out.move (below_drewN HBA.out q2)).row ⟨wr.heap.size,0,none⟩ 1 1 [.float .f32 z] rfl rfl (World.news_of_block (cs:=#[.float .f32 z]) (t:=28) (fr:=(0,0)) (heap_alloc_new (wr.drewN q) _)) (by simp [Value.oneCell']) (by unfold maxLen;omega) (by omega) (Nat.le_trans HB.out.below.size (Nat.le_trans HBA.out.size (J _))) ?_
    intro v' w9 ho9 hg9 hat9 hb9
    obtain ⟨va',vc',rfl,hc9,hf9,hbel9,hnew⟩:=HB.out.push (W:=(wr.drewN q).drewN q2) HZL.out (below_drewN (below_drewN (O _ _) q) q2) ho9 hg9 (by simpa using hat9)
    have hs9:=KS.out w9 hbel9 hc9
    have HS9:=I hs9;have HF9:=I (And.intro hc9 hf9);have HN9:=I hnew
    have HM9:=I (fS HZ.out (f:=fun i=>dQ .mul .f32 ((xs.map (cn .f32)).getD i 0) ((ys.map (cn .f32)).getD i 0)) (by rw [HZ2.out];exact (by rw [HXY.out.1,HXY.out.2])))
    refine ⟨hs9,hK _ _ ?_⟩
    clear hK K ho9 hg9 hat9 hb9 hc9 hf9 hbel9 hnew hs9 HS1 HBA
    refine aD (by rfl) HS9.out (fun K hK W hW=>?_)
    go_simp
    refine hK _ ?_
    clear hK K hW
    refine aP (fun q3=>?_)
    have hc9:(w9.drewN q3).cell? ⟨ob,2,none⟩=some (.slice va k vc):=by simpa using HF9.out.1
    have hf9:(w9.drewN q3).frozen? ⟨ob,2,none⟩=false:=by simpa using HF9.out.2
    have HN:=I (HN9.out.move (below_drewN (O _ _) q3))
    clear HN9 HS9 HF9 HB HZ HS KS
    go_wp2
    go_roundw
    case rel=>exact ⟨k+1,by go_num,hlt,_,_,_,HN,HM9⟩
    case measure=>simp [intOf];omega
   ·have hkn:k=n:=by omega
    subst hkn
    obtain ⟨ol,t0,t1,t2,tf⟩:=HB.out.out.three
    obtain ⟨rl,u0,u1,u2,uf⟩:=HB.out.res.three
    have HFIN:=I HB.out.fin
    clear hbb hP r1
    go_wp2
    try simp only [Exit.inBlock,Exit.then]
    refine bodyPost_ret (v:=.agg #[.int .i64 r,.int .i64 c,.slice va k vc]) (by simp [results,Tryz.results106,go_sem,u0,u1,u2]) rfl ⟨va,vc,zs,rfl,I HFIN.out.1,HZ,HFIN.out.2⟩
theorem BoxN.setAll {w:World} {g:Nat} {a b c x y z:Value} (h:BoxN w g [a,b,c]):BoxN (setCs w g 0 [x,y,z]) g [x,y,z]:=((h.set 0 x).set 1 y).set 2 z
def LaidT (T:TenP) (tl g:Nat) (w0 wr wx:World):Prop:=∃ad cap zs,BoxN wx g [.int .i64 T.r,.int .i64 T.c,.slice ad tl cap]∧RepF wx w0.heap.size wx.heap.size ad tl cap zs∧zs.map (cn .f32)=T.xs∧Below wr.heap.size wr wx
theorem LaidT.of {T:TenP} {tl g:Nat} {w0 wr w':World} {a b c:Value} {va:Option Addr} {vc:Nat} {zs:List Nat} (hr:RepF w' w0.heap.size w'.heap.size va tl vc zs) (hm:zs.map (cn .f32)=T.xs) (hx:BoxN w' g [a,b,c]) (hb:Below wr.heap.size wr w') (hg:wr.heap.size≤g) (hg2:g < w0.heap.size) :
  LaidT T tl g w0 wr (setCs w' g 0 [.int .i64 T.r,.int .i64 T.c,.slice va tl vc]) :=
 ⟨va,vc,zs,hx.setAll,bF hr hg2 (J _) (J _) 0 _,hm,aG hb hg 0 _⟩
theorem Al (w:World) (ad:Option Addr) (cap:Nat) (os:List OpD) (h:SeeR lI w ad cap os) (hno:nilOK os) (S:List Sh) (hS:cH (os.map OpD.toOpP)=some S) (hi2:∀o∈os,o.xs.length≤1048576) :
  Calls Tryz.prog 84 #[.slice ad os.length cap] w fun e w' => ∃ad' cap' us,e=.returned (.slice ad' os.length cap')∧Hid (OwnR bV w' w.heap.size w'.heap.size ad' os.length cap' us∧us.map (fun t=>t.toTenP.can)=bJ (os.map OpD.toOpP))∧Below w.heap.size w w':=by
 obtain ⟨i0,hi0,hz0,hzs,hz2⟩:=info_parts pF
 have hp:=cE hS
 rw [List.length_map] at hp
 obtain ⟨n,hN⟩:∃n,n=os.length:=⟨_,rfl⟩
 rw [←hN] at hp ⊢
 have hn1:=hp.1.1;have hn2:=hp.1.2
 have HN:=I hN;have HI2:=I hi2;have H:=I h;have HNO:=I hno;have HS:=I hS
 clear hN hi2 h hno hS hp
 go_enter Tryz.func84,Tryz.ntmps84
 go_wp2
 go_loopw [3,4] (fun v i wt => ∃k:Nat,i=.int .i64 k∧k≤n∧∃(ad':Option Addr) (cap':Nat) (us:List Ten),v=.slice ad' k cap'∧Hid (OwnR bV wt w.heap.size wt.heap.size ad' k cap' us)∧Hid (us.map (fun t=>t.toTenP.can)=bM (os.map OpD.toOpP) k)∧Hid (Below w.heap.size w wt)) (fun _ i _=>n - (intOf i).toNat)
 case atStart=>exact ⟨0,rfl,Nat.zero_le _,_,_,[],rfl,I (OwnR.nil1 bV w),I rfl,I (aE _ _)⟩
 case round =>
  obtain ⟨k,rfl,hk,ad',cap',us,rfl,HR,HE,HB⟩:=hrel
  by_cases hlt:k < n
  ·obtain ⟨o,ho⟩:=getElem?_lt (show k < os.length by rw [←HN.out];exact hlt)
   have hop:(os.map OpD.toOpP)[k]? = some o.toOpP:=by rw [List.getElem?_map,ho];rfl
   obtain ⟨vl,vok,vf,vs⟩:=rR HS.out hop
   obtain ⟨b,off,rfl,hbl,⟨p0,p1,p2,p3,p4,p5,p6⟩,hf,hok⟩:=sO (H.out.below HB.out) ho
   have hm:=List.mem_of_getElem? ho
   have hul:us.length=k:=HR.out.len
   have HST:Hid (bM (os.map OpD.toOpP) (k+1)=bM (os.map OpD.toOpP) k ++ [dN (bM (os.map OpD.toOpP) k) o.toOpP]):=I (jP hop)
   have hTok:okT (dN (bM (os.map OpD.toOpP) k) o.toOpP):=by
    by_cases h0:o.k=0
    ·have e:dN (bM (os.map OpD.toOpP) k) o.toOpP=⟨o.r,o.c,o.xs.map (cn .f32)⟩:=by unfold dN;rw [if_pos h0]
     rw [e]
     have ht:=eA.1 (kA vf h0).2.2
     refine ⟨ht.1.1,ht.1.2,ht.2.1.1,ht.2.1.2,?_⟩
     show (o.xs.map (cn .f32)).length=o.r.toNat * o.c.toNat
     rw [List.length_map]
     have h4:=ht.2.2
     have h5:((o.r.toNat * o.c.toNat:Nat):Int)=o.r * o.c:=by
      have:=ht.1.1;have:=ht.2.1.1
      rw [Int.natCast_mul,Int.toNat_of_nonneg (by omega),Int.toNat_of_nonneg (by omega)]
     have h6:(o.xs.length:Int)=o.r * o.c:=h4
     omega
    ·obtain ⟨s,hs⟩:=vs h0
     have hk10:=jK vf
     have ha:=dV vf h0
     have mem:∀i:Int,0≤i→i≤k - 1→okT (aH (bM (os.map OpD.toOpP) k) i):=fun i h0 h1=>by
      have hi:i.toNat < (bM (os.map OpD.toOpP) k).length:=by omega
      have e1:aH (bM (os.map OpD.toOpP) k) i=(bM (os.map OpD.toOpP) k)[i.toNat]:=by unfold aH;rw [List.getD_eq_getElem?_getD,List.getElem?_eq_getElem hi];rfl
      rw [e1];exact vok _ (List.getElem_mem hi)
     have e:dN (bM (os.map OpD.toOpP) k) o.toOpP=bK o.k (aH (bM (os.map OpD.toOpP) k) o.a) (aH (bM (os.map OpD.toOpP) k) o.b) (cn .f32 o.num):=by unfold dN;rw [if_neg h0]
     rw [e]
     exact (Bi (k:=o.k) (by omega) (mem o.a ha.1.1 ha.1.2) (mem o.b ha.2.1.1 ha.2.1.2) hs).2
   obtain ⟨T,hT⟩:∃T,T=dN (bM (os.map OpD.toOpP) k) o.toOpP:=⟨_,rfl⟩
   rw [←hT] at HST hTok
   have HTP:Hid (T.xs.length≤256∧1≤T.xs.length):=I ⟨hTok.le,hTok.pos⟩
   obtain ⟨tl,htl⟩:∃tl,tl=T.xs.length:=⟨_,rfl⟩
   rw [←htl] at HTP
   have HTL:=I htl
   have HRW:=I (fun W hb=>CY HR.out (W:=W) hb)
   -- the end of a round,wherever the tensor lies in its box
   have KF:Hid (∀(w0 wx W9:World) (ad2:Option Addr) (cap2:Nat) (zs:List Nat) (v':Value),wr.heap.size≤w0.heap.size→RepF wx w0.heap.size wx.heap.size ad2 tl cap2 zs→zs.map (cn .f32)=T.xs→Below wr.heap.size wr wx→W9.ownsRow w.heap.size 37 3 v' (k+1) (us.flatMap bV.cells ++ [.int .i64 T.r,.int .i64 T.c,.slice ad2 tl cap2])→(∃o,(wx.alloc o).grownBy W9 (Value.slice ad' k cap').ownBlock)→(v'.ownBlock=(Value.slice ad' k cap').ownBlock∨v'.ownBlock=some (wx.heap.size+1))→∃ad9 cap9 us9,v'=.slice ad9 (k+1) cap9∧OwnR bV W9 w.heap.size W9.heap.size ad9 (k+1) cap9 us9∧us9.map (fun t=>t.toTenP.can)=bM (os.map OpD.toOpP) (k+1)):=I (by
    intro w0 wx W9 ad2 cap2 zs v' h0 hr hzz hb ho hg hat
    obtain ⟨oo,hg⟩:=hg
    have hzl:=hr.len
    obtain ⟨ad9,cap9,rfl,hown9⟩:=Bj (s:=⟨⟨T.r,T.c,zs⟩,ad2,cap2⟩) HR.out HB.out.size hb (hi1:=wx.heap.size) (by show RepF wx wr.heap.size wx.heap.size ad2 zs.length cap2 zs;rw [hzl];exact hr.bounds h0 (J _)) (J _) hb.size (by show W9.ownsRow _ _ _ _ _ (_ ++ [Value.int .i64 T.r,.int .i64 T.c,.slice ad2 zs.length cap2]);rw [hzl];exact ho) hg hat
    refine ⟨ad9,cap9,_,rfl,hown9,?_⟩
    rw [List.map_append,HE.out,HST.out]
    congr 1
    show [TenP.can ⟨T.r,T.c,zs⟩]=[T]
    unfold TenP.can
    rw [hzz])
   have OB:=I (show BoxN (wr.alloc (.cells o.cells.toArray 74)) wr.heap.size o.cells from BoxN.alloc wr o.cells.toArray 74)
   by_cases h0:o.k=0
   ·as_aux_lemma =>
     have e:T=⟨o.r,o.c,o.xs.map (cn .f32)⟩:=by rw [hT];unfold dN;rw [if_pos h0]
     have ht:=eA.1 (kA vf h0).2.2
     have htlx:tl=o.xs.length:=by rw [htl,e];show (o.xs.map (cn .f32)).length = _;rw [List.length_map]
     obtain ⟨⟨kk,a,b',q,r,c,xs⟩,adx,capx⟩:=o
     replace h0:kk=0:=h0
     subst h0
     replace htlx:tl=xs.length:=htlx
     unfold OpD.cells at OB
     simp only at p0 p1 p2 p3 p4 p5 p6 OB hf e
     replace ht:(1≤r∧r≤16)∧(1≤c∧c≤16)∧(xs.length:Int)=r * c:=ht
     obtain ⟨R,rfl⟩:∃R:Nat,r=R:=⟨r.toNat,by omega⟩
     obtain ⟨C,rfl⟩:∃C:Nat,c=C:=⟨c.toNat,by omega⟩
     have hrc:xs.length=R * C:=by have:=ht.2.2;rw [←Int.natCast_mul] at this;omega
     have hTr:T.r=R:=by rw [e]
     have hTc:T.c=C:=by rw [e]
     have hTx:T.xs=xs.map (cn .f32):=by rw [e]
     rw [←htlx] at p6 OB
     have XB:=I (OB.out.below (aE _ (.cells #[.int .i64 0,.int .i64 0,.slice none 0 0] 37)))
     have TB:=I (BoxN.alloc2 wr (.cells #[.int .i64 0,.int .i64 a,.int .i64 b',.float .f32 q,.int .i64 R,.int .i64 C,.slice adx tl capx] 74) #[.int .i64 0,.int .i64 0,.slice none 0 0] 37)
     have b2:=bZ wr (.cells #[.int .i64 0,.int .i64 a,.int .i64 b',.float .f32 q,.int .i64 R,.int .i64 C,.slice adx tl capx] 74) (.cells #[.int .i64 0,.int .i64 0,.slice none 0 0] 37)
     have htp:=HTP.out
     have hRC:R≤256∧C≤256∧1≤R∧1≤C:=by omega
     have K:=I (cY ((wr.alloc (.cells #[.int .i64 0,.int .i64 a,.int .i64 b',.float .f32 q,.int .i64 R,.int .i64 C,.slice adx tl capx] 74)).alloc (.cells #[.int .i64 0,.int .i64 0,.slice none 0 0] 37)) wr.heap.size 4 R C adx capx tl xs XB.out.seven.2.2.2.2.2.2.1 XB.out.seven.2.2.2.2.2.2.2.1 (hf.below b2) htlx.symm htp.1 0 R hRC.2.2.1 hRC.2.2.2 (by decide) hRC.2.1 (by rw [Nat.zero_add,←hrc,htlx];exact J _))
     rw [Nat.zero_mul,List.drop_zero,←hrc,←htlx,htlx,List.take_length,←htlx] at K
     have hz00:((0:Nat):Int)=0:=rfl
     rw [hz00] at K
     clear hz00
     have B2:=I b2
     have HTX:=I hTx;have HTR:=I (And.intro hTr hTc)
     have htp1:=htp.1
     clear b2 hf hok hm hul vl vok vf vs e ht htlx hrc hTr hTc hTx htp hRC OB hT htl hTok hop ho
     obtain ⟨-,x0,x1,x2,x3,x4,x5,x6,xf⟩:=XB.out.seven
     go_wp2_with fail
     refine K.out.mono ?_
     rintro e w2 ⟨va,vc,zs,rfl,RO,RM,hb2⟩
     obtain ⟨tbl,y0,y1,y2,yf⟩:=(TB.out.below hb2).three
     have HB2:=I (aA B2.out hb2)
     have TB2:=I (TB.out.below hb2)
     have hz2':=hb2.size
     simp at hz2'
     have hla:=LaidT.of (T:=T) (tl:=tl) (g:=wr.heap.size+1) (w0:=(wr.alloc (.cells #[.int .i64 0,.int .i64 a,.int .i64 b',.float .f32 q,.int .i64 R,.int .i64 C,.slice adx tl capx] 74)).alloc (.cells #[.int .i64 0,.int .i64 0,.slice none 0 0] 37)) (wr:=wr) RO.out (by rw [RM.out,HTX.out]) TB2.out HB2.out (by omega) (by simp)
     rw [HTR.out.1,HTR.out.2] at hla
     obtain ⟨ad2,cap2,zs2,hbx,hr2,hz2m,hbb⟩:=hla
     have hfrom:=hbx.three.2.2.2.1
     have HLA:=I (And.intro (show RepF (setCs w2 (wr.heap.size+1) 0 [.int .i64 R,.int .i64 C,.slice va tl vc]) _ _ _ _ _ zs from bF RO.out (by simp) (J _) (J _) 0 _) (And.intro (show zs.map (cn .f32)=T.xs by rw [RM.out,HTX.out]) hbb))
     clear hb2 hbx hr2 hz2m hbb hfrom x0 x1 x2 x3 x4 x5 x6 xf K TB XB B2 p0 p1 p2 p3 p4 p5 p6
     go_wp2_with (at_builtin;refine cI rfl _ _ 109 rfl w.heap.size i0 (.agg #[.int .i64 0,.int .i64 0,.slice none 0 0]) 3 40 Tryz.underlying109 hi0 hz0 hzs hz2 rfl (by decide) rfl (by intro u hu;simp at hu;rcases hu with rfl | rfl | rfl <;> rfl) _ _ _ rfl (HRW.out _ HLA.out.2.2) (by go_simp) ?c3 ?c4 ?c5 ?_)
     case c3=>unfold maxLen;omega
     case c4=>omega
     case c5=>exact Nat.le_trans HB.out.size HLA.out.2.2.size
     intro v' w9 ho9 hg9 hat9 hb9 hs9
     obtain ⟨ad9,cap9,us9,rfl,hown9,hm9⟩:=KF.out _ _ w9 va vc zs v' (by simp;omega) HLA.out.1 HLA.out.2.1 HLA.out.2.2 (by rw [HTR.out.1,HTR.out.2];exact ho9) ⟨_,hg9⟩ (by rw [aU];simpa [World.setCell] using hat9)
     have HO9:=I hown9;have HB9:=I ((HB.out.trans (HLA.out.2.2.mono HB.out.size)).trans hb9);have HE9:=I hm9
     clear ho9 hg9 hat9 hb9 hown9 hm9 HR HE HB HB2 HRW HLA KF TB2 RO RM
     go_wp2
     refine ⟨?rel,?measure⟩
     case rel=>exact ⟨k+1,by go_num,hlt,_,_,_,rfl,HO9,HE9,HB9⟩
     case measure=>simp [intOf];omega
   have hst:T=bK o.k (aH (bM (os.map OpD.toOpP) k) o.a) (aH (bM (os.map OpD.toOpP) k) o.b) (cn .f32 o.num):=by rw [hT];unfold dN;rw [if_neg h0]
   obtain ⟨s,hs⟩:=vs h0
   have hk10:=jK vf
   have ha:=dV vf h0
   obtain ⟨A,hA⟩:∃A:Nat,o.a=A:=⟨o.a.toNat,by have:=ha.1.1;omega⟩
   obtain ⟨B,hB⟩:∃B:Nat,o.b=B:=⟨o.b.toNat,by have:=ha.2.1.1;omega⟩
   have hAi:A < k:=by have:=ha.1.2;rw [show o.toOpP.a=o.a from rfl,hA] at this;omega
   have hBi:B < k:=by have:=ha.2.1.2;rw [show o.toOpP.b=o.b from rfl,hB] at this;omega
   obtain ⟨tv,htv⟩:=getElem?_lt (show A < us.length by omega)
   obtain ⟨tw,htw⟩:=getElem?_lt (show B < us.length by omega)
   rw [hA,hB,nA HE.out htv,nA HE.out htw] at hs hst
   have okv:okT tv.toTenP.can:=vok _ (by rw [←HE.out];exact List.mem_map_of_mem (List.mem_of_getElem? htv))
   have okw:okT tw.toTenP.can:=vok _ (by rw [←HE.out];exact List.mem_map_of_mem (List.mem_of_getElem? htw))
   obtain ⟨gb,goff,hge,hgl,⟨s0,s1,s2⟩,hxv⟩:=mZ HR.out.see htv
   obtain ⟨gb2,goff2,hge2,_,⟨t0,t1,t2⟩,hxw⟩:=mZ HR.out.see htw
   subst hge
   cases hge2
   obtain ⟨⟨kk,a,b',q,r,c,xs⟩,adx,capx⟩:=o
   replace hA:a=A:=hA
   replace hB:b'=B:=hB
   subst hA hB
   obtain ⟨⟨rv0,cv0,xv⟩,av,kv⟩:=tv
   obtain ⟨⟨rw0,cw0,xw⟩,aw,kw⟩:=tw
   obtain ⟨rv,cv,e1,e2,hrv,hcv,hlv⟩:=okv.nat
   obtain ⟨rw',cw,e3,e4,hrw,hcw,hlw⟩:=okw.nat
   replace e1:rv0=rv:=e1
   replace e2:cv0=cv:=e2
   replace e3:rw0=rw':=e3
   replace e4:cw0=cw:=e4
   subst e1 e2 e3 e4
   replace hlv:(xv.map (cn .f32)).length=rv * cv:=hlv
   replace hlw:(xw.map (cn .f32)).length=rw' * cw:=hlw
   replace hk10:0≤kk∧kk≤10:=hk10
   replace h0:¬ kk=0:=h0
   replace hs:aQ kk (((rv:Nat):Int),((cv:Nat):Int)) (((rw':Nat):Int),((cw:Nat):Int))=some s:=hs
   replace hst:T=bK kk ⟨rv,cv,xv.map (cn .f32)⟩ ⟨rw',cw,xw.map (cn .f32)⟩ (cn .f32 q):=hst
   unfold OpD.cells at OB
   simp only at p0 p1 p2 p3 p4 p5 p6 OB s0 s1 s2 t0 t1 t2 hxv hxw
   rw [List.length_map] at hlv hlw
   obtain ⟨n1,hn1'⟩:∃n,n=xv.length:=⟨_,rfl⟩
   obtain ⟨n2,hn2'⟩:∃n,n=xw.length:=⟨_,rfl⟩
   rw [←hn1'] at hlv s2
   rw [←hn2'] at hlw t2
   obtain ⟨nx,hnx⟩:∃n,n=xs.length:=⟨_,rfl⟩
   rw [←hnx] at p6 OB
   have hn256:n1≤256:=by rw [hlv];exact Nat.mul_le_mul hrv.2 hcv.2
   have HXV:=I hxv;have HXW:=I hxw;have HN1:=I hn1';have HN2:=I hn2';have HLV:=I hlv;have HLW:=I hlw;have HSH:=I hs;have HTV:=I hst
   have HRV:=I hrv;have HCV:=I hcv;have HRW2:=I hrw;have HCW:=I hcw
   have hk0':(kk == 0)=false:=by simpa using h0
   clear hxv hxw hn1' hn2' hlv hlw hnx hst htv htw okv okw vok vl vf vs hs ha hrv hcv hrw hcw hf hok hm hul hT htl hTok hop ho
   have XB:=I (((OB.out.below (aE _ (.cells #[.int .i64 0,.int .i64 0,.slice none 0 0] 37))).below (aE _ (.cells #[.int .i64 rv,.int .i64 cv,.slice av n1 kv] 37))).below (aE _ (.cells #[.int .i64 rw',.int .i64 cw,.slice aw n2 kw] 37)))
   have TB:=I (((BoxN.alloc2 wr (.cells #[.int .i64 kk,.int .i64 A,.int .i64 B,.float .f32 q,.int .i64 r,.int .i64 c,.slice adx nx capx] 74) #[.int .i64 0,.int .i64 0,.slice none 0 0] 37).below (aE _ (.cells #[.int .i64 rv,.int .i64 cv,.slice av n1 kv] 37))).below (aE _ (.cells #[.int .i64 rw',.int .i64 cw,.slice aw n2 kw] 37)))
   have VB:=I ((BoxN.alloc3 wr (.cells #[.int .i64 kk,.int .i64 A,.int .i64 B,.float .f32 q,.int .i64 r,.int .i64 c,.slice adx nx capx] 74) (.cells #[.int .i64 0,.int .i64 0,.slice none 0 0] 37) #[.int .i64 rv,.int .i64 cv,.slice av n1 kv] 37).below (aE _ (.cells #[.int .i64 rw',.int .i64 cw,.slice aw n2 kw] 37)))
   have b4:Below wr.heap.size wr ((((wr.alloc (.cells #[.int .i64 kk,.int .i64 A,.int .i64 B,.float .f32 q,.int .i64 r,.int .i64 c,.slice adx nx capx] 74)).alloc (.cells #[.int .i64 0,.int .i64 0,.slice none 0 0] 37)).alloc (.cells #[.int .i64 rv,.int .i64 cv,.slice av n1 kv] 37)).alloc (.cells #[.int .i64 rw',.int .i64 cw,.slice aw n2 kw] 37)):=(dE wr _ _ _).alloc (by simp;omega) _
   go_upto_region 11 with fail
   obtain ⟨wp,hwp⟩:∃W,W=(((wr.alloc (.cells #[.int .i64 kk,.int .i64 A,.int .i64 B,.float .f32 q,.int .i64 r,.int .i64 c,.slice adx nx capx] 74)).alloc (.cells #[.int .i64 0,.int .i64 0,.slice none 0 0] 37)).alloc (.cells #[.int .i64 rv,.int .i64 cv,.slice av n1 kv] 37)):=⟨_,rfl⟩
   have bp:Below wr.heap.size wr wp:=by rw [hwp];exact dE wr _ _ _
   have zp:wp.heap.size=wr.heap.size+1+1+1:=by rw [hwp];simp
   have t0':wp.cell? ⟨gb,goff+B * 3,none⟩=some (.int .i64 rw'):=(bp.cell (p:=⟨gb,goff+B * 3,none⟩) hgl).trans t0
   have t1':wp.cell? ⟨gb,goff+B * 3+1,none⟩=some (.int .i64 cw):=(bp.cell (p:=⟨gb,goff+B * 3+1,none⟩) hgl).trans t1
   have t2':wp.cell? ⟨gb,goff+B * 3+2,none⟩=some (.slice aw n2 kw):=(bp.cell (p:=⟨gb,goff+B * 3+2,none⟩) hgl).trans t2
   have ob':wp.cell? ⟨wr.heap.size,2,none⟩=some (.int .i64 B):=by
    have h:=(OB.out.below (bZ _ (.cells #[.int .i64 0,.int .i64 0,.slice none 0 0] 37) (.cells #[.int .i64 rv,.int .i64 cv,.slice av n1 kv] 37))).seven.2.2.2.1
    rw [hwp];exact h
   have ob0:wp.cell? ⟨wr.heap.size,0,none⟩=some (.int .i64 kk):=by
    have h:=(OB.out.below (bZ _ (.cells #[.int .i64 0,.int .i64 0,.slice none 0 0] 37) (.cells #[.int .i64 rv,.int .i64 cv,.slice av n1 kv] 37))).seven.2.1
    rw [hwp];exact h
   have hgp:gb < wp.heap.size:=by omega
   have hwp1:wr.heap.size < wp.heap.size:=by omega
   rw [←hwp]
   rw [←hwp] at XB TB VB b4
   have ZP:=I zp
   clear hwp t0 t1 t2 s0 s1 s2 bp zp p0 p1 p2 p3 p4 p5 p6 hgl hbl
   go_upto_block 2 with fail
   obtain ⟨wq,hwq⟩:∃W,W=wp.alloc (.cells #[.int .i64 rw',.int .i64 cw,.slice aw n2 kw] 37):=⟨_,rfl⟩
   have hzq:wr.heap.size+4≤wq.heap.size:=by rw [hwq];have:=ZP.out;simp;omega
   have WB:Hid (BoxN wq wp.heap.size [.int .i64 rw',.int .i64 cw,.slice aw n2 kw]):=I (by rw [hwq];exact BoxN.alloc wp #[.int .i64 rw',.int .i64 cw,.slice aw n2 kw] 37)
   rw [←hwq]
   rw [←hwq] at XB TB VB b4
   have B4:=I b4
   clear hwq b4 OB t0' t1' t2' ob' ob0 hgp hwp1
   go_cut [6] (fun p6 wx=>p6=.pointer (some ⟨wr.heap.size+1,0,none⟩)∧Hid (LaidT T tl (wr.heap.size+1) wq wr wx))
   case first =>
    clear HR HE HB HRW KF HST
    obtain ⟨-,x0,x1,x2,x3,x4,x5,x6,xf⟩:=XB.out.seven
    obtain ⟨-,y0,y1,y2,yf⟩:=VB.out.three
    obtain ⟨-,z0,z1,z2,zf⟩:=WB.out.three
    have FV:=I (HXV.out.below B4.out);have FW:=I (HXW.out.below B4.out)
    have PV:=I (And.intro y0 (And.intro y1 y2));have PW:=I (And.intro z0 (And.intro z1 z2))
    have KL:Hid (∀(w':World) (va:Option Addr) (vc:Nat) (zs:List Nat),RepF w' wq.heap.size w'.heap.size va tl vc zs→zs.map (cn .f32)=T.xs→Below wq.heap.size wq w'→BoxN w' (wr.heap.size+1) [.int .i64 0,.int .i64 0,.slice none 0 0]∧LaidT T tl (wr.heap.size+1) wq wr (setCs w' (wr.heap.size+1) 0 [.int .i64 T.r,.int .i64 T.c,.slice va tl vc])):=I (fun w' va vc zs hr hm hb=>⟨TB.out.below hb,LaidT.of hr hm (TB.out.below hb) (aA B4.out hb) (by omega) (by omega)⟩)
    clear TB XB VB WB xf yf zf HXV HXW x1 x2 x4 x5 x6 B4 z0 z1 y0 y1
    have h1k:1≤kk:=by omega
    rcases (by omega:kk=1∨kk=2∨kk=3∨kk=4∨kk=5∨kk=6∨kk=7∨kk=8∨kk=9∨kk=10) with rfl | rfl | rfl | rfl | rfl | rfl | rfl | rfl | rfl | rfl
    ·as_aux_lemma =>
      have hsh:rv=rw'∧cv=cw:=by have:=HSH.out;simp [aQ] at this;omega
      obtain ⟨rfl,rfl⟩:=hsh
      have hnn:n1=n2:=by rw [HLV.out,HLW.out]
      subst hnn
      have hT:T=⟨rv,cv,fM .add (xv.map (cn .f32)) (xw.map (cn .f32)) n1⟩:=by rw [HTV.out];simp [bK,←HN1.out]
      have HT1:Hid (tl=n1∧T.xs=fM .add (xv.map (cn .f32)) (xw.map (cn .f32)) n1∧T.r=rv∧T.c=cv):=I ⟨by rw [HTL.out,hT];exact aJ _ _,by rw [hT],by rw [hT],by rw [hT]⟩
      clear hT
      go_wp2_with fail
      refine (iC _ (wr.heap.size+1+1) 0 wp.heap.size 0 rv cv av aw kv kw n1 xv xw PV.out.1 PV.out.2.1 PV.out.2.2 PW.out.2.2 FV.out FW.out HN1.out.symm HN2.out.symm hn256).mono ?_
      rintro e w' ⟨va,vc,zs,rfl,RO,RM,hb⟩
      have hk:=KL.out w' va vc zs (by rw [HT1.out.1];exact RO.out) (by rw [RM.out,HT1.out.2.1]) hb
      rw [HT1.out.1,HT1.out.2.2.1,HT1.out.2.2.2] at hk
      obtain ⟨tbl,u0,u1,u2,uf⟩:=hk.1.three
      have HK:=I hk.2
      clear hk hb x0 x3 y2 z2
      go_wp2_with fail
      go_meet
      exact ⟨rfl,I (by rw [HT1.out.1];exact HK.out)⟩
    ·as_aux_lemma =>
      have hsh:rw'=1∧cv=cw:=by have:=HSH.out;simp [aQ] at this;omega
      obtain ⟨rfl,rfl⟩:=hsh
      have hnn:cv=n2:=by rw [HLW.out,Nat.one_mul]
      subst hnn
      have hT:T=⟨rv,cv,fT .add (xv.map (cn .f32)) (xw.map (cn .f32)) cv n1⟩:=by rw [HTV.out];simp [bK,←HN1.out]
      have HT1:Hid (tl=n1∧T.xs=fT .add (xv.map (cn .f32)) (xw.map (cn .f32)) cv n1∧T.r=rv∧T.c=cv):=I ⟨by rw [HTL.out,hT];exact aJ _ _,by rw [hT],by rw [hT],by rw [hT]⟩
      clear hT
      go_wp2_with fail
      refine (tU _ (wr.heap.size+1+1) 0 rv cv av aw kv kw n1 xv xw PV.out.1 PV.out.2.1 PV.out.2.2 FV.out FW.out HN1.out.symm HN2.out.symm hn256 HCV.out.1 HCV.out.2).mono ?_
      rintro e w' ⟨va,vc,zs,rfl,RO,RM,hb⟩
      have hk:=KL.out w' va vc zs (by rw [HT1.out.1];exact RO.out) (by rw [RM.out,HT1.out.2.1]) hb
      rw [HT1.out.1,HT1.out.2.2.1,HT1.out.2.2.2] at hk
      obtain ⟨tbl,u0,u1,u2,uf⟩:=hk.1.three
      have HK:=I hk.2
      clear hk hb x0 x3 y2 z2
      go_wp2_with fail
      go_meet
      exact ⟨rfl,I (by rw [HT1.out.1];exact HK.out)⟩
    ·as_aux_lemma =>
      have hsh:rv=rw'∧cv=cw:=by have:=HSH.out;simp [aQ] at this;omega
      obtain ⟨rfl,rfl⟩:=hsh
      have hnn:n1=n2:=by rw [HLV.out,HLW.out]
      subst hnn
      have hT:T=⟨rv,cv,fM .mul (xv.map (cn .f32)) (xw.map (cn .f32)) n1⟩:=by rw [HTV.out];simp [bK,←HN1.out]
      have HT1:Hid (tl=n1∧T.xs=fM .mul (xv.map (cn .f32)) (xw.map (cn .f32)) n1∧T.r=rv∧T.c=cv):=I ⟨by rw [HTL.out,hT];exact aJ _ _,by rw [hT],by rw [hT],by rw [hT]⟩
      clear hT
      go_wp2_with fail
      refine (gF _ (wr.heap.size+1+1) 0 wp.heap.size 0 rv cv av aw kv kw n1 xv xw PV.out.1 PV.out.2.1 PV.out.2.2 PW.out.2.2 FV.out FW.out HN1.out.symm HN2.out.symm hn256).mono ?_
      rintro e w' ⟨va,vc,zs,rfl,RO,RM,hb⟩
      have hk:=KL.out w' va vc zs (by rw [HT1.out.1];exact RO.out) (by rw [RM.out,HT1.out.2.1]) hb
      rw [HT1.out.1,HT1.out.2.2.1,HT1.out.2.2.2] at hk
      obtain ⟨tbl,u0,u1,u2,uf⟩:=hk.1.three
      have HK:=I hk.2
      clear hk hb x0 x3 y2 z2
      go_wp2_with fail
      go_meet
      exact ⟨rfl,I (by rw [HT1.out.1];exact HK.out)⟩
    ·as_aux_lemma =>
      have hsh:rw'=1∧cv=cw:=by have:=HSH.out;simp [aQ] at this;omega
      obtain ⟨rfl,rfl⟩:=hsh
      have hnn:cv=n2:=by rw [HLW.out,Nat.one_mul]
      subst hnn
      have hT:T=⟨rv,cv,fT .mul (xv.map (cn .f32)) (xw.map (cn .f32)) cv n1⟩:=by rw [HTV.out];simp [bK,←HN1.out]
      have HT1:Hid (tl=n1∧T.xs=fT .mul (xv.map (cn .f32)) (xw.map (cn .f32)) cv n1∧T.r=rv∧T.c=cv):=I ⟨by rw [HTL.out,hT];exact aJ _ _,by rw [hT],by rw [hT],by rw [hT]⟩
      clear hT
      go_wp2_with fail
      refine (mQ _ (wr.heap.size+1+1) 0 rv cv av aw kv kw n1 xv xw PV.out.1 PV.out.2.1 PV.out.2.2 FV.out FW.out HN1.out.symm HN2.out.symm hn256 HCV.out.1 HCV.out.2).mono ?_
      rintro e w' ⟨va,vc,zs,rfl,RO,RM,hb⟩
      have hk:=KL.out w' va vc zs (by rw [HT1.out.1];exact RO.out) (by rw [RM.out,HT1.out.2.1]) hb
      rw [HT1.out.1,HT1.out.2.2.1,HT1.out.2.2.2] at hk
      obtain ⟨tbl,u0,u1,u2,uf⟩:=hk.1.three
      have HK:=I hk.2
      clear hk hb x0 x3 y2 z2
      go_wp2_with fail
      go_meet
      exact ⟨rfl,I (by rw [HT1.out.1];exact HK.out)⟩
    ·as_aux_lemma =>
      have hT:T=⟨rv,cv,oL (xv.map (cn .f32)) (cn .f32 q) n1⟩:=by rw [HTV.out];simp [bK,←HN1.out]
      have HT1:Hid (tl=n1∧T.xs=oL (xv.map (cn .f32)) (cn .f32 q) n1∧T.r=rv∧T.c=cv):=I ⟨by rw [HTL.out,hT];exact aJ _ _,by rw [hT],by rw [hT],by rw [hT]⟩
      clear hT
      go_wp2_with fail
      refine (nZ _ (wr.heap.size+1+1) 0 rv cv av kv n1 xv q PV.out.1 PV.out.2.1 PV.out.2.2 FV.out HN1.out.symm hn256).mono ?_
      rintro e w' ⟨va,vc,zs,rfl,RO,RM,hb⟩
      have hk:=KL.out w' va vc zs (by rw [HT1.out.1];exact RO.out) (by rw [RM.out,HT1.out.2.1]) hb
      rw [HT1.out.1,HT1.out.2.2.1,HT1.out.2.2.2] at hk
      obtain ⟨tbl,u0,u1,u2,uf⟩:=hk.1.three
      have HK:=I hk.2
      clear hk hb x0 x3 y2 z2
      go_wp2_with fail
      go_meet
      exact ⟨rfl,I (by rw [HT1.out.1];exact HK.out)⟩
    ·as_aux_lemma =>
      have hsh:cv=rw':=by have:=HSH.out;simp [aQ] at this;omega
      subst hsh
      have hT:T=⟨rv,cw,mR (xv.map (cn .f32)) (xw.map (cn .f32)) cv cw (rv * cw)⟩:=by rw [HTV.out];simp [bK,←HN1.out]
      have HT1:Hid (tl=(rv * cw)∧T.xs=mR (xv.map (cn .f32)) (xw.map (cn .f32)) cv cw (rv * cw)∧T.r=rv∧T.c=cw):=I ⟨by rw [HTL.out,hT];exact aJ _ _,by rw [hT],by rw [hT],by rw [hT]⟩
      clear hT
      go_wp2_with fail
      refine (jN _ (wr.heap.size+1+1) 0 wp.heap.size 0 rv cv cw av aw kv kw n1 n2 xv xw PV.out.1 PV.out.2.1 PV.out.2.2 PW.out.2.1 PW.out.2.2 FV.out FW.out HN1.out.symm HN2.out.symm HRV.out.2 HCV.out.2 HCW.out.2 HLV.out HLW.out).mono ?_
      rintro e w' ⟨va,vc,zs,rfl,RO,RM,hb⟩
      have hk:=KL.out w' va vc zs (by rw [HT1.out.1];exact RO.out) (by rw [RM.out,HT1.out.2.1]) hb
      rw [HT1.out.1,HT1.out.2.2.1,HT1.out.2.2.2] at hk
      obtain ⟨tbl,u0,u1,u2,uf⟩:=hk.1.three
      have HK:=I hk.2
      clear hk hb x0 x3 y2 z2
      go_wp2_with fail
      go_meet
      exact ⟨rfl,I (by rw [HT1.out.1];exact HK.out)⟩
    ·as_aux_lemma =>
      have hT:T=⟨cv,rv,iE (xv.map (cn .f32)) rv cv n1⟩:=by rw [HTV.out];simp [bK,←HN1.out]
      have HT1:Hid (tl=n1∧T.xs=iE (xv.map (cn .f32)) rv cv n1∧T.r=cv∧T.c=rv):=I ⟨by rw [HTL.out,hT];exact aJ _ _,by rw [hT],by rw [hT],by rw [hT]⟩
      clear hT
      go_wp2_with fail
      refine (iY _ (wr.heap.size+1+1) 0 rv cv av kv n1 xv PV.out.1 PV.out.2.1 PV.out.2.2 FV.out HN1.out.symm HRV.out.2 HCV.out.2 HLV.out).mono ?_
      rintro e w' ⟨va,vc,zs,rfl,RO,RM,hb⟩
      have hk:=KL.out w' va vc zs (by rw [HT1.out.1];exact RO.out) (by rw [RM.out,HT1.out.2.1]) hb
      rw [HT1.out.1,HT1.out.2.2.1,HT1.out.2.2.2] at hk
      obtain ⟨tbl,u0,u1,u2,uf⟩:=hk.1.three
      have HK:=I hk.2
      clear hk hb x0 x3 y2 z2
      go_wp2_with fail
      go_meet
      exact ⟨rfl,I (by rw [HT1.out.1];exact HK.out)⟩
    ·as_aux_lemma =>
      have hT:T=⟨rv,cv,vG (xv.map (cn .f32)) n1⟩:=by rw [HTV.out];simp [bK,←HN1.out]
      have HT1:Hid (tl=n1∧T.xs=vG (xv.map (cn .f32)) n1∧T.r=rv∧T.c=cv):=I ⟨by rw [HTL.out,hT];exact aJ _ _,by rw [hT],by rw [hT],by rw [hT]⟩
      clear hT
      go_wp2_with fail
      refine (xZ _ (wr.heap.size+1+1) 0 rv cv av kv n1 xv PV.out.1 PV.out.2.1 PV.out.2.2 FV.out HN1.out.symm hn256).mono ?_
      rintro e w' ⟨va,vc,zs,rfl,RO,RM,hb⟩
      have hk:=KL.out w' va vc zs (by rw [HT1.out.1];exact RO.out) (by rw [RM.out,HT1.out.2.1]) hb
      rw [HT1.out.1,HT1.out.2.2.1,HT1.out.2.2.2] at hk
      obtain ⟨tbl,u0,u1,u2,uf⟩:=hk.1.three
      have HK:=I hk.2
      clear hk hb x0 x3 y2 z2
      go_wp2_with fail
      go_meet
      exact ⟨rfl,I (by rw [HT1.out.1];exact HK.out)⟩
    ·as_aux_lemma =>
      have hT:T=⟨rv,cv,fM .mul (xv.map (cn .f32)) (xv.map (cn .f32)) n1⟩:=by rw [HTV.out];simp [bK,←HN1.out]
      have HT1:Hid (tl=n1∧T.xs=fM .mul (xv.map (cn .f32)) (xv.map (cn .f32)) n1∧T.r=rv∧T.c=cv):=I ⟨by rw [HTL.out,hT];exact aJ _ _,by rw [hT],by rw [hT],by rw [hT]⟩
      clear hT
      go_wp2_with fail
      refine (gF _ (wr.heap.size+1+1) 0 (wr.heap.size+1+1) 0 rv cv av av kv kv n1 xv xv PV.out.1 PV.out.2.1 PV.out.2.2 PV.out.2.2 FV.out FV.out HN1.out.symm HN1.out.symm hn256).mono ?_
      rintro e w' ⟨va,vc,zs,rfl,RO,RM,hb⟩
      have hk:=KL.out w' va vc zs (by rw [HT1.out.1];exact RO.out) (by rw [RM.out,HT1.out.2.1]) hb
      rw [HT1.out.1,HT1.out.2.2.1,HT1.out.2.2.2] at hk
      obtain ⟨tbl,u0,u1,u2,uf⟩:=hk.1.three
      have HK:=I hk.2
      clear hk hb x0 x3 y2 z2
      go_wp2_with fail
      go_meet
      exact ⟨rfl,I (by rw [HT1.out.1];exact HK.out)⟩
    ·as_aux_lemma =>
      have hT:T=⟨1,1,nP (sD (xv.map (cn .f32)) n1) 1⟩:=by rw [HTV.out];simp [bK,←HN1.out]
      have HT1:Hid (tl=1∧T.xs=nP (sD (xv.map (cn .f32)) n1) 1∧T.r=1∧T.c=1):=I ⟨by rw [HTL.out,hT];exact aJ _ _,by rw [hT],by rw [hT],by rw [hT]⟩
      clear hT
      have KSU:=I (zF wq av kv xv FV.out)
      rw [←HN1.out] at KSU
      go_wp2_with fail
      refine KSU.out.mono ?_
      rintro e w2 ⟨su,rfl,HSU,hd⟩
      have HDB:=I hd.below
      clear hd
      go_wp2_with fail
      refine (fC _ 1 1 su HSU.out.2 (by decide) (by decide)).mono ?_
      rintro e w' ⟨va,vc,zs,rfl,RO,RM,hb⟩
      have hk:=KL.out w' va vc zs (by rw [HT1.out.1];exact RO.out.bounds HDB.out.size (J _)) (by rw [RM.out,HT1.out.2.1,HSU.out.1]) (aA HDB.out hb)
      rw [HT1.out.1,HT1.out.2.2.1,HT1.out.2.2.2] at hk
      obtain ⟨tbl,u0,u1,u2,uf⟩:=hk.1.three
      have HK:=I hk.2
      clear hk hb x0 x3 y2 z2
      go_wp2_with fail
      go_meet
      exact ⟨rfl,I (by rw [HT1.out.1];exact HK.out)⟩
   case rest =>
    obtain ⟨rfl,HL⟩:=hcut
    obtain ⟨va,vc,zs,hbx,hr2,hz2m,hbb⟩:=HL.out
    obtain ⟨tbl,u0,u1,u2,uf⟩:=hbx.three
    have HLA:=I (And.intro hr2 (And.intro hz2m hbb))
    have htp1:=HTP.out.1
    clear hbx hr2 hz2m hbb HL XB TB VB WB HXV HXW B4
    go_wp2_with (at_builtin;refine cI rfl _ _ 109 rfl w.heap.size i0 (.agg #[.int .i64 0,.int .i64 0,.slice none 0 0]) 3 40 Tryz.underlying109 hi0 hz0 hzs hz2 rfl (by decide) rfl (by intro u hu;simp at hu;rcases hu with rfl | rfl | rfl <;> rfl) _ _ _ rfl (HRW.out _ HLA.out.2.2) (by go_simp) ?c3 ?c4 ?c5 ?_)
    case c3=>unfold maxLen;omega
    case c4=>omega
    case c5=>exact Nat.le_trans HB.out.size HLA.out.2.2.size
    intro v' w9 ho9 hg9 hat9 hb9 hs9
    obtain ⟨ad9,cap9,us9,rfl,hown9,hm9⟩:=KF.out wq wc w9 va vc zs v' (by omega) HLA.out.1 HLA.out.2.1 HLA.out.2.2 ho9 ⟨_,hg9⟩ (by simpa using hat9)
    have HO9:=I hown9;have HB9:=I ((HB.out.trans (HLA.out.2.2.mono HB.out.size)).trans hb9);have HE9:=I hm9
    clear ho9 hg9 hat9 hb9 hown9 hm9 HR HE HB HRW HLA KF
    go_wp2
    go_roundw
    case rel=>exact ⟨k+1,by go_num,hlt,_,_,_,rfl,HO9,HE9,HB9⟩
    case measure=>simp [intOf];omega
  ·have hkn:k=n:=by omega
   subst hkn
   have HA:=I (And.intro HR.out (show us.map (fun t=>t.toTenP.can)=bJ (os.map OpD.toOpP) by rw [HE.out];unfold bJ;rw [List.length_map,←HN.out]))
   go_wp2
   go_ret
   exact ⟨_,_,us,rfl,HA,HB.out⟩
end Go.Proofs.YtpadlmidojpbeaaGreat
