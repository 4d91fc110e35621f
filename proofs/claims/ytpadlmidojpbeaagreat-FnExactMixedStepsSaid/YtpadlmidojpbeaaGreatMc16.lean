/- Joined texts 16. No condition. -/
import Derived.Deep.CutRange
import Derived.Deep.CutBlock
import Derived.Deep.DeepCutAuto
import Derived.Great.Frames
import Derived.Test.YtpadlmidojpbeaaGreatMc0
import Derived.Test.YtpadlmidojpbeaaGreatMc2
import Derived.Test.YtpadlmidojpbeaaGreatMc15
set_option linter.unusedVariables false
set_option linter.unusedSimpArgs false
set_option maxRecDepth 100000
set_option maxHeartbeats 64000000
namespace Go.Proofs.YtpadlmidojpbeaaGreat
open Go Go.RowKit
theorem Cn {X Y:TenP} {m r:Nat} {x:SX} (h:SX.Ok X Y m x) {ad:Option Addr} {n cap s':Nat} {g' q':Int} {f b:Bool} {us:List LayD} {w w':World}
  (ho:b=(x.R X Y m).isSome∧OwnR aX w' w.heap.size w'.heap.size ad n cap us∧(b=true→(f=(dD (x.R X Y m) (cn .f32 x.s)).2∧(s',g',q')=sK (x.R X Y m) (cn .f32 x.s) x.s x.g x.q)∧us.map (fun l=>l.toLayP.can)=lX x.L (x.R X Y m) (cn .f32 x.s) r)) :
  b=true∧f=x.fin X Y m∧s'=(SX.next X Y m r x).s∧g'=(SX.next X Y m r x).g∧q'=(SX.next X Y m r x).q∧us.map (fun l=>l.toLayP.can)=(SX.next X Y m r x).L∧OwnR aX w' w.heap.size w'.heap.size ad n cap us:=by
 obtain ⟨h1,h5,h6⟩:=ho
 have hb:b=true:=h1.trans h.hR
 obtain ⟨⟨h2,h3⟩,h4⟩:=h6 hb
 rw [(oW (r:=r) h).2] at h3
 cases h3
 exact ⟨hb,h2,rfl,rfl,rfl,h4,h5⟩
theorem sM (w:World) (ma:Option Addr) (mk:Nat) (ls:List LayD) (s:Nat) (gg qq:Int) (xr xc yr yc:Int) (xa ya:Option Addr) (xk yk:Nat) (xs ys:List Nat) (r:Nat) (kk:Int) (hls:SeeR aX w ma mk ls) (hnil:nilL ls) (hs:s < 4294967296) (hx:F32s w xa xk xs) (hy:F32s w ya yk ys) :
  Calls Tryz.prog 25 #[.agg #[.slice ma ls.length mk],.agg #[.float .f32 s,.int .i64 gg,.int .i64 qq],.agg #[.int .i64 xr,.int .i64 xc,.slice xa xs.length xk],.agg #[.int .i64 yr,.int .i64 yc,.slice ya ys.length yk],.float .f32 r,.int .i64 kk] w (RPost (uV (ls.map fun l=>l.toLayP.can) ⟨xr,xc,xs.map (cn .f32)⟩ ⟨yr,yc,ys.map (cn .f32)⟩ ys.length s gg qq (cn .f32 r) kk) w):=by
 obtain ⟨W6,hW6,hsz,hb6,⟨bm,bs,bx⟩,by6,br,bt⟩:=qU w #[.slice ma ls.length mk] #[.float .f32 s,.int .i64 gg,.int .i64 qq] #[.int .i64 xr,.int .i64 xc,.slice xa xs.length xk] #[.int .i64 yr,.int .i64 yc,.slice ya ys.length yk] #[.slice none 0 0] #[.float .f32 0,.int .i64 0,.int .i64 0] 35 50 37 37 35 50
 have BM:=I bm;have BS:=I bs;have BX:=I bx;have BY:=I by6;have BR:=I br;have BT:=I bt
 have HW6:=I hW6;have HB6:=I hb6
 have KS:=I (fun (W:World) (mb xb yb:Nat) (ma:Option Addr) (mk:Nat) (ls:List LayD) (s:Nat) (gg qq:Int) (hold:Below w.heap.size w W) (hbm:BoxN W mb [.slice ma ls.length mk]) (hbx:BoxN W xb [.int .i64 xr,.int .i64 xc,.slice xa xs.length xk]) (hby:BoxN W yb [.int .i64 yr,.int .i64 yc,.slice ya ys.length yk]) (hs:s < 4294967296) (hv:aW s gg qq=true) (hls:SeeR aX W ma mk ls) (hnil:nilL ls) (hxy:xb≠yb) =>
  yR W mb 0 xb 0 yb 0 ma mk ls s gg qq xr xc yr yc xa ya xk yk xs ys r hs hv hbm.lt hbx.lt hby.lt hbm.one1.2.1 hls hnil hbx.three.2.1 hbx.three.2.2.1 hbx.three.2.2.2.1 (hx.below hold) hby.three.2.1 hby.three.2.2.1 hby.three.2.2.2.1 (hy.below hold) hxy)
 have KG:=I (fun (W:World) (hb:Below W6.heap.size W6 W)=>nJ W w.heap.size 0 (w.heap.size+1+1) 0 (w.heap.size+1+1+1) 0 ma mk ls xr xc yr yc xa ya xk yk xs ys s hs (bm.below hb).lt (bx.below hb).lt (by6.below hb).lt (bm.below hb).one1.2.1 (hls.below (aA hb6 hb)) (bx.below hb).three.2.1 (bx.below hb).three.2.2.1 (bx.below hb).three.2.2.2.1 (hx.below (aA hb6 hb)) (by6.below hb).three.2.1 (by6.below hb).three.2.2.1 (by6.below hb).three.2.2.2.1 (hy.below (aA hb6 hb)) (by omega))
 have KV:=I (fun W=>AL s gg qq W)
 have KW:=I (fun W=>gN kk 0 50 W)
 have HLS:=I hls;have HNIL:=I hnil;have HS:=I hs
 obtain ⟨Lc,hLc⟩:∃Lc,Lc=ls.map fun l=>l.toLayP.can:=⟨_,rfl⟩
 rw [←hLc] at KG ⊢
 have HLc:=I hLc
 obtain ⟨X,hX⟩:∃X:TenP,X=⟨xr,xc,xs.map (cn .f32)⟩:=⟨_,rfl⟩
 obtain ⟨Y,hY⟩:∃Y:TenP,Y=⟨yr,yc,ys.map (cn .f32)⟩:=⟨_,rfl⟩
 rw [←hX,←hY] at KG KS ⊢
 obtain ⟨m,hm⟩:∃m,m=ys.length:=⟨_,rfl⟩
 obtain ⟨m2,hm2⟩:∃m,m=xs.length:=⟨_,rfl⟩
 rw [←hm] at KG KS BY HW6 ⊢
 rw [←hm2] at KS BX HW6 ⊢
 obtain ⟨c,hc⟩:∃c,c=cn .f32 r:=⟨_,rfl⟩
 rw [←hc] at KS ⊢
 obtain ⟨l0,hl0⟩:∃l,l=ls.length:=⟨_,rfl⟩
 rw [←hl0] at BM HW6 ⊢
 have HL0:=I hl0
 obtain ⟨Q,hQ⟩:∃Q,Q=uV Lc X Y m s gg qq c kk:=⟨_,rfl⟩
 rw [←hQ]
 have HQ:=I hQ
 clear hls hx hy hnil hb6 hW6 bm bs bx by6 br bt hLc hX hY hm hm2 hc hl0 hQ hs
 have hq1:w.heap.size≤w.heap.size+1+1+1+1:=by omega
 have hq2:w.heap.size≤w.heap.size+1+1+1+1+1:=by omega
 have hq3:w.heap.size+1+1+1+1 < W6.heap.size:=by omega
 have hq4:w.heap.size+1+1+1+1+1 < W6.heap.size:=by omega
 have hq6:w.heap.size≤W6.heap.size:=HB6.out.size
 have HSZ:=I hsz
 have hn11:¬ w.heap.size+1+1+1+1=w.heap.size+1+1+1+1+1:=by omega
 have RET:=I (fun (W:World) (hb:Below W6.heap.size W6 W)=>And.intro (BR.out.below hb).one1 (BT.out.below hb).three)
 clear hsz
 go_enter Tryz.func25,Tryz.ntmps25
 go_upto_region 1 with fail
 rw [←HW6.out]
 obtain ⟨-,s0,s1,s2,-⟩:=BS.out.three
 cases eV:aW s gg qq
 ·have HQN:Hid (Q=none):=I (by rw [HQ.out];exact nK (fun h=>by unfold kX at h;rw [eV,if_neg (by decide)] at h;exact absurd h.1 (by simp)))
  rw [eV] at KV
  clear HQ KG KS KW eV
  go_wp2_with fail
  refine (KV.out _).mono ?_
  rintro e w7 ⟨rfl,hb⟩
  have HB7:=I hb
  clear hb s0 s1 s2
  obtain ⟨⟨hlr,r0,rf⟩,hlt,t0,t1,t2,tf⟩:=RET.out _ HB7.out
  have f0:=rf 0;have g0:=tf 0;have g1:=tf 1;have g2:=tf 2
  clear rf tf
  go_wp2
  try simp only [Exit.inBlock,Exit.then]
  refine bodyPost_ret (v:=.tuple #[.agg #[.slice none 0 0],.agg #[.float .f32 0,.int .i64 0,.int .i64 0],.int .i64 0,.bool false]) (by simp [results,Tryz.results25,go_sem,r0,t0,t1,t2]) rfl ?_
  exact RPost.none HQN.out rfl (by repeat (first | exact aA HB6.out HB7.out | refine Below.setCell ?_ (by dsimp only;omega) _))
 rw [eV] at KV
 have HV:=I eV
 cases eK:jU kk 0 50
 ·have HQN:Hid (Q=none):=I (by rw [HQ.out];exact nK (fun h=>by rw [cA.2 h.2] at eK;cases eK))
  rw [eK] at KW
  clear HQ KG KS eK eV
  go_wp2_with fail
  refine (KV.out _).mono ?_
  rintro e w7 ⟨rfl,hb⟩
  have HB7:=I hb
  clear hb s0 s1 s2
  obtain ⟨⟨hlr,r0,rf⟩,hlt,t0,t1,t2,tf⟩:=RET.out _ HB7.out
  have f0:=rf 0;have g0:=tf 0;have g1:=tf 1;have g2:=tf 2
  clear rf tf
  go_wp2_with fail
  refine (KW.out _).mono ?_
  rintro e w10 ⟨rfl,rfl⟩
  go_wp2
  try simp only [Exit.inBlock,Exit.then]
  refine bodyPost_ret (v:=.tuple #[.agg #[.slice none 0 0],.agg #[.float .f32 0,.int .i64 0,.int .i64 0],.int .i64 0,.bool false]) (by simp [results,Tryz.results25,go_sem,r0,t0,t1,t2]) rfl ?_
  exact RPost.none HQN.out rfl (by repeat (first | exact aA HB6.out HB7.out | refine Below.setCell ?_ (by dsimp only;omega) _))
 obtain ⟨hk0,hk1⟩:=cA.1 eK
 rw [eK] at KW
 clear eK eV
 go_wp2_with fail
 refine (KV.out _).mono ?_
 rintro e w7 ⟨rfl,hb⟩
 have HB7:=I hb
 clear hb s0 s1 s2 KV
 go_wp2_with fail
 refine (KW.out _).mono ?_
 rintro e w10 ⟨rfl,rfl⟩
 clear KW
 obtain ⟨-,s0,s1,s2,-⟩:=(BS.out.below HB7.out).three
 have KGG:=KG.out w7 HB7.out
 rw [←kW (fG HV.out).1] at KGG
 obtain ⟨R,hR⟩:∃R,R=eI Lc X Y m s:=⟨_,rfl⟩
 rw [←hR] at KGG
 have HR:=I hR
 have KG2:=I KGG
 clear KGG KG hR
 go_wp2_with fail
 refine KG2.out.mono ?_
 rintro e w8 ⟨la,n,c2,z,f,b,rfl,HO,hb⟩
 have HB8:=I (aA HB7.out hb)
 have HB:=I (show b=R.isSome from HO.out.1)
 clear hb KG2 s0 s1 s2 HO
 cases b
 ·have HQN:Hid (Q=none):=I (by rw [HQ.out];exact nK (fun h=>by rw [yS HV.out,←HR.out,←HB.out] at h;exact absurd h.1 (by decide)))
  clear HQ KS HB HR
  obtain ⟨⟨hlr,r0,rf⟩,hlt,t0,t1,t2,tf⟩:=RET.out _ HB8.out
  have f0:=rf 0;have g0:=tf 0;have g1:=tf 1;have g2:=tf 2
  clear rf tf
  go_wp2
  try simp only [Exit.inBlock,Exit.then]
  refine bodyPost_ret (v:=.tuple #[.agg #[.slice none 0 0],.agg #[.float .f32 0,.int .i64 0,.int .i64 0],.int .i64 0,.bool false]) (by simp [results,Tryz.results25,go_sem,r0,t0,t1,t2]) rfl ?_
  exact RPost.none HQN.out rfl (by repeat (first | exact aA HB6.out HB8.out | refine Below.setCell ?_ (by dsimp only;omega) _))
 have hmx:(kX Lc X Y m s gg qq).isSome=true:=by rw [yS HV.out,←HR.out,←HB.out]
 have HOK:=I (AX HS.out hmx)
 have HQS:Hid (Q=some (SX.steps X Y m c ⟨Lc,s,gg,qq,0⟩ kk.toNat)):=I (by rw [HQ.out];unfold uV;rw [if_pos ⟨hmx,hk0,hk1⟩])
 have hM:dG (ls.map LayD.toLayP)=true:=iJ (by rw [←HLc.out];exact HOK.out.hR)
 have KP0:=kH w8 ma mk ls (HLS.out.below (aA HB6.out HB8.out)) HNIL.out hM
 have KV0:=fun (W:World) (hb:Below w8.heap.size w8 W) b off ck xs h1 h2 h3=>iV W ma mk ls b off ck xs (HLS.out.below (aA (aA HB6.out HB8.out) hb)) HNIL.out hM h1 h2 h3
 obtain ⟨L,hL⟩:∃L,L=ls.map LayD.toLayP:=⟨_,rfl⟩
 have HLC:=I (show (cT L (aM L)).map LayP.can=Lc by rw [uW,HLc.out,hL,List.map_map];rfl)
 rw [←hL,←HL0.out] at KP0 KV0
 have KP:=I KP0;have KVV:=I KV0
 clear KP0 KV0 HQ HB hM hmx hL HR
 obtain ⟨-,p0,-⟩:=(BM.out.below HB8.out).one1
 go_wp2_with fail
 refine KP.out.mono ?_
 rintro e w9 ⟨g3,n3,c3,rfl,HP,hb⟩
 have HB9:=I hb
 have hgl:g3 < w9.heap.size:=(HP.out.row.own.lt g3 rfl).2
 obtain rfl:n3=(aM L).length:=HP.out.len.symm
 have KW:=I (KVV.out w9 HB9.out g3 0 c3 (aM L) HP.out.arg hgl rfl)
 clear p0 hb hgl KVV KP
 obtain ⟨-,p0,-⟩:=(BM.out.below (aA HB8.out HB9.out)).one1
 go_wp2_with fail
 refine KW.out.mono ?_
 rintro e w11 ⟨ad,n1,cap,us,rfl,HU,hb⟩
 have HB11:=I (aA (aA HB8.out HB9.out) hb)
 have hNow:=Bm (W0:=W6) (W:=w11) HB11.out.size ((aA HB8.out HB9.out).size) (J _) HU.out.2 (HU.out.1.trans HLC.out) 35
 have HB12:=I (aA HB11.out (aE w11 (.cells #[.slice ad n1 cap] 35)))
 have HLW:Hid (LoopW w W6.heap.size w11.heap.size (w.heap.size+1) (w.heap.size+1+1,[.int .i64 xr,.int .i64 xc,.slice xa m2 xk]) (w.heap.size+1+1+1,[.int .i64 yr,.int .i64 yc,.slice ya m yk]) (w.heap.size+1+1+1+1,[.slice none 0 0]) (w.heap.size+1+1+1+1+1,[.float .f32 0,.int .i64 0,.int .i64 0]) (w11.alloc (.cells #[.slice ad n1 cap] 35)) ⟨Lc,s,gg,qq,0⟩) :=
   I ⟨⟨_,_,_,_,_,_,hNow⟩,BS.out.below HB12.out,BX.out.below HB12.out,BY.out.below HB12.out,BR.out.below HB12.out,BT.out.below HB12.out,aA HB6.out HB12.out⟩
 have hbb:W6.heap.size≤w11.heap.size:=HB11.out.size
 clear hb hNow p0 KW HU HP HB12 HB11 HB9 HB8 HB7 RET HLC
 go_upto_region 8 with fail
 obtain ⟨x0,hx0⟩:∃x:SX,x=⟨Lc,s,gg,qq,0⟩:=⟨_,rfl⟩
 have HX0n:=I (show x0.n=0 by rw [hx0])
 rw [←hx0] at HLW HQS HOK
 obtain ⟨kn,hkn⟩:∃n,n=kk.toNat:=⟨_,rfl⟩
 rw [←hkn] at HQS
 obtain rfl:kk=(kn:Int):=by omega
 have hkn50:kn≤50:=by omega
 clear hx0 hkn hk0 hk1
 obtain ⟨tB,htB⟩:∃t,t=w.heap.size+1+1+1+1+1:=⟨_,rfl⟩
 obtain ⟨rB,hrB⟩:∃t,t=w.heap.size+1+1+1+1:=⟨_,rfl⟩
 obtain ⟨yB,hyB⟩:∃t,t=w.heap.size+1+1+1:=⟨_,rfl⟩
 obtain ⟨xB,hxB⟩:∃t,t=w.heap.size+1+1:=⟨_,rfl⟩
 obtain ⟨sB,hsB⟩:∃t,t=w.heap.size+1:=⟨_,rfl⟩
 rw [←htB,←hrB,←hyB,←hxB,←hsB] at HLW ⊢
 have hnum:(w.heap.size≤sB∧sB < W6.heap.size∧w.heap.size≤W6.heap.size)∧((xB≠sB∧xB < W6.heap.size)∧(yB≠sB∧yB < W6.heap.size)∧(rB≠sB∧rB < W6.heap.size)∧(tB≠sB∧tB < W6.heap.size))∧w.heap.size≤rB∧w.heap.size≤tB∧¬ rB=tB:=by have:=HSZ.out;omega
 have HXY:xB≠yB:=by omega
 have HNUM:=I hnum
 clear htB hrB hyB hxB hsB hnum hq1 hq2 hq3 hq4 hq6 hn11 HSZ
 generalize W6.heap.size=zB at HLW HNUM hbb
 generalize hw12:w11.alloc (.cells #[.slice ad n1 cap] 35)=w12 at HLW ⊢
 generalize w11.heap.size=b at HLW hbb ⊢
 clear hw12
 go_wp2
 go_loopw [24,25] (fun q i wt => ∃j:Nat,i=.int .i64 j∧q=.int .i64 (SX.steps X Y m c x0 j).n∧j≤kn∧Hid (LoopW w zB b sB (xB,[.int .i64 xr,.int .i64 xc,.slice xa m2 xk]) (yB,[.int .i64 yr,.int .i64 yc,.slice ya m yk]) (rB,[.slice none 0 0]) (tB,[.float .f32 0,.int .i64 0,.int .i64 0]) wt (SX.steps X Y m c x0 j))) (fun q i wt=>kn - (intOf i).toNat)
 case atStart=>exact ⟨0,rfl,by show _ = Value.int .i64 (x0.n:Int);rw [HX0n.out];rfl,Nat.zero_le _,HLW⟩
 case round =>
  obtain ⟨j,rfl,rfl,hj,HW⟩:=hrel
  have hnj:(SX.steps X Y m c x0 j).n≤50:=by have:=SX.steps_n (X:=X) (Y:=Y) (m:=m) (r:=c) (x:=x0) j;rw [HX0n.out] at this;omega
  have HOJ:=I (HOK.out.steps (r:=c) j)
  have HSN:Hid (SX.steps X Y m c x0 (j+1)=SX.next X Y m c (SX.steps X Y m c x0 j)):=I rfl
  by_cases hlt:j < kn
  ·obtain ⟨st,hst⟩:∃x,x=SX.steps X Y m c x0 j:=⟨_,rfl⟩
   rw [←hst] at HW HOJ HSN hnj ⊢
   clear hst HLW HQS
   obtain ⟨ad2,n2,cap2,us2,lo2,hi2,hn⟩:=HW.out.now
   have KR:=KS.out wr b xB yB ad2 cap2 us2 st.s st.g st.q HW.out.old (by rw [hn.own.len];exact hn.box) HW.out.b1 HW.out.b2 HOJ.out.hs HOJ.out.hv hn.own.see hn.own.nilL HXY
   rw [hn.can] at KR
   have KRR:=I KR
   obtain ⟨hbl,p0,-⟩:=hn.box.one1
   obtain ⟨-,s0,s1,s2,-⟩:=HW.out.sc.three
   obtain ⟨-,x0',x1,x2,-⟩:=HW.out.b1.three
   obtain ⟨-,y0,y1,y2,-⟩:=HW.out.b2.three
   clear KR hn
   go_wp2_with fail
   refine KRR.out.mono ?_
   rintro e w2 ⟨ad,n,cap,s',g',q',f,bo,us,rfl,HO,hb2⟩
   obtain ⟨hbo,hf,hs',hg',hq',hcan,hown⟩:=Cn HOJ.out HO.out
   have HF:=I hf;have HCAN:=I hcan;have HSC:=I (And.intro hs' (And.intro hg' hq'))
   subst hbo
   have hb3:=aA hb2 (bZ w2 (.cells #[.slice ad n cap] 35) (.cells #[.float .f32 s',.int .i64 g',.int .i64 q'] 50))
   have B1:=I ((BoxN.alloc w2 #[.slice ad n cap] 35).below (aE _ (.cells #[.float .f32 s',.int .i64 g',.int .i64 q'] 50)))
   have B2:=I (BoxN.alloc2 w2 (.cells #[.slice ad n cap] 35) #[.float .f32 s',.int .i64 g',.int .i64 q'] 50)
   have HOW:=I (And.intro (hown.below (bZ w2 (.cells #[.slice ad n cap] 35) (.cells #[.float .f32 s',.int .i64 g',.int .i64 q'] 50))) (bZ w2 (.cells #[.slice ad n cap] 35) (.cells #[.float .f32 s',.int .i64 g',.int .i64 q'] 50)).size)
   have HB3:=I hb3
   have hsz2:wr.heap.size≤w2.heap.size:=hb2.size
   clear hf hcan hs' hg' hq' hown hb3 HO hb2 KRR p0 s0 s1 s2 x0' x1 x2 y0 y1 y2
   go_upto_region 13 with fail
   generalize (w2.alloc (.cells #[.slice ad n cap] 35)).alloc (.cells #[.float .f32 s',.int .i64 g',.int .i64 q'] 50)=w3 at B1 B2 HOW HB3 ⊢
   have hnum:=HNUM.out
   have e1:¬ w2.heap.size=b:=by omega
   have e2:¬ w2.heap.size=sB:=by omega
   have e3:¬ w2.heap.size+1=b:=by omega
   have e4:¬ w2.heap.size+1=sB:=by omega
   have e5:¬ b=sB:=by omega
   clear hnum
   obtain ⟨-,m0,-⟩:=B1.out.one1
   obtain ⟨-,k0,k1,k2,-⟩:=B2.out.three
   have hbw:=HW.out
   obtain ⟨ad9,n9,cap9,us9,lo9,hi9,hn9⟩:=hbw.now
   obtain ⟨hl1,q0,qf⟩:=(hn9.box.below HB3.out).one1
   obtain ⟨hl2,t0,t1,t2,tf⟩:=(hbw.sc.below HB3.out).three
   have f0:=qf 0;have g0:=tf 0;have g1:=tf 1;have g2:=tf 2
   clear qf tf hn9 hbw
   generalize w2.heap.size+1=eB at B2 e3 e4 k0 k1 k2 ⊢
   generalize w2.heap.size=dB at B1 e1 e2 m0 ⊢
   have e6:=Ne.symm e1;have e7:=Ne.symm e2;have e8:=Ne.symm e3;have e9:=Ne.symm e4;have e10:=Ne.symm e5
   go_upto_region 15 with fail
   have hnum:=HNUM.out
   obtain ⟨rfl,rfl,rfl⟩:=HSC.out
   have HL:=I (LoopW.next0 (y:=SX.next X Y m c st) HW.out HB3.out hnum.1 hbb hbl hnum.2.1 (J _) HOW.out.2 HOW.out.1 HCAN.out)
   clear hnum m0 k0 k1 k2 q0 t0 t1 t2 f0 g0 g1 g2 e1 e2 e3 e4 e5 e6 e7 e8 e9 e10 HW HB3 HOW HCAN B1 B2 HSC hl1 hl2
   generalize ((((w3.setCell ⟨b,0,none⟩ (.slice ad n cap)).setCell ⟨sB,0,none⟩ (.float .f32 (SX.next X Y m c st).s)).setCell ⟨sB,1,none⟩ (.int .i64 (SX.next X Y m c st).g)).setCell ⟨sB,2,none⟩ (.int .i64 (SX.next X Y m c st).q))=w4 at HL ⊢
   rw [←HSN.out] at HL
   cases f
   ·have HN2:=I (show (SX.steps X Y m c x0 (j+1)).n=st.n by rw [HSN.out,yT,←HF.out,if_neg (by decide)])
    go_wp2
    refine ⟨?rel,?measure⟩
    case rel=>exact ⟨j+1,by go_num,by rw [HN2.out],hlt,HL⟩
    case measure=>simp [intOf];omega
   ·have HN2:=I (show (SX.steps X Y m c x0 (j+1)).n=st.n+1 by rw [HSN.out,yT,←HF.out,if_pos rfl])
    go_wp2
    refine ⟨?rel,?measure⟩
    case rel=>exact ⟨j+1,by go_num,by rw [HN2.out];go_num,hlt,HL⟩
    case measure=>simp [intOf];omega
  ·obtain rfl:j=kn:=by omega
   obtain ⟨st,hst⟩:∃x,x=SX.steps X Y m c x0 j:=⟨_,rfl⟩
   rw [←hst] at HW HQS HOJ HSN hnj ⊢
   clear hst HLW
   have hnum:=HNUM.out
   obtain ⟨hE,hS,hBX,hBY,hBR,hBT,hold⟩:=HW.out
   obtain ⟨ad9,n9,cap9,us9,lo9,hi9,hn9⟩:=hE
   have HN9:=I hn9
   obtain ⟨hl1,q0,-⟩:=hn9.box.one1
   obtain ⟨hl2,t0,t1,t2,-⟩:=hS.three
   obtain ⟨hl3,r0,rf⟩:=hBR.one1
   obtain ⟨hl4,v0,v1,v2,vf⟩:=hBT.three
   have f0:=rf 0;have g0:=vf 0;have g1:=vf 1;have g2:=vf 2
   have HOLD:=I hold
   have e1:¬ b=rB:=by omega
   have e2:¬ b=tB:=by omega
   have e3:¬ sB=rB:=by omega
   have e4:¬ sB=tB:=by omega
   have e5:¬ rB=tB:=by omega
   have e6:=Ne.symm e1;have e7:=Ne.symm e2;have e8:=Ne.symm e3;have e9:=Ne.symm e4;have e10:=Ne.symm e5
   clear rf vf hn9 hBX hBY hS hnum hold
   go_wp2
   go_region_held3 (fun w'=>w'.cell? ⟨b,0,none⟩=some (.slice ad9 n9 cap9)∧w'.cell? ⟨sB,0,none⟩=some (.float .f32 st.s)∧w'.cell? ⟨sB,1,none⟩=some (.int .i64 st.g)∧w'.cell? ⟨sB,2,none⟩=some (.int .i64 st.q)) (go_keep) (first | fail)
   go_wp2
   try simp only [Exit.inBlock,Exit.then]
   refine bodyPost_ret (v:=.tuple #[.agg #[.slice ad9 n9 cap9],.agg #[.float .f32 st.s,.int .i64 st.g,.int .i64 st.q],.int .i64 st.n,.bool true]) (by simp [results,Tryz.results25,go_sem,r0,v0,v1,v2,hl3,hl4,e5,e10]) rfl ?_
   have hnum:=HNUM.out
   have h9:=HN9.out
   have u1:∀V:World,Touch rB (rB+1) V (V.setCell ⟨rB,0,none⟩ (.slice ad9 n9 cap9)):=fun V=>Touch.setCell (J _) (Nat.lt_succ_self _)
   have u2:∀(V:World) k v,Touch tB (tB+1) V (V.setCell ⟨tB,k,none⟩ v):=fun V k v=>Touch.setCell (J _) (Nat.lt_succ_self _)
   have hlo:=h9.flo
   have hhi:=h9.fhi
   have hU:=((((h9.own.touch (u1 _) (.inr (by omega))).touch (u2 _ 0 (.float .f32 st.s)) (.inr (by omega))).touch (u2 _ 1 (.int .i64 st.g)) (.inr (by omega))).touch (u2 _ 2 (.int .i64 st.q)) (.inr (by omega)))
   refine ⟨ad9,n9,cap9,_,_,_,_,_,us9,rfl,I ⟨⟨⟨⟨?_,?_⟩,?_⟩,?_⟩,?_⟩,?_⟩
   ·rw [HQS.out];rfl
   ·rw [HQS.out];rfl
   ·rw [HQS.out];rfl
   ·rw [HQS.out];exact h9.can
   ·exact (hU.below (Below.drew (O _ _))).bounds (by omega) (by simp [World.setCell];omega)
   ·exact qV (Below.setCell (p:=⟨tB,2,none⟩) (Below.setCell (p:=⟨tB,1,none⟩) (Below.setCell (p:=⟨tB,0,none⟩) (Below.setCell (p:=⟨rB,0,none⟩) HOLD.out hnum.2.2.1 _) hnum.2.2.2.1 _) hnum.2.2.2.1 _) hnum.2.2.2.1 _)
section
variable {P:Program} {ops:Array Oper} {Q:Exit→Act→World→Prop}
def Dj (ops:Array Oper):Bool:=(List.range ops.size).all fun i=>match ops[i]? with
 | some o=>o.after.all fun e => !Region.binds .any e || decide (e.on < i)
 | none=>true
theorem AY (hB:Dj ops=true) {listed:Array Bool} (hr:Region.ready .any ops listed=[]):∀i,i < ops.size→listed.getD i true=true:=by
 intro i
 induction i using Nat.strongRecOn with
 | _ i ih =>
  intro hi
  cases hl:listed.getD i true with
  | true=>rfl
  | false =>
   exfalso
   have hm:i∈Region.ready .any ops listed:=by
    refine mem_ready.2 ⟨hl,ops[i],Array.getElem?_eq_getElem hi,fun e he hb=>?_⟩
    have h1:=List.all_eq_true.1 hB i (List.mem_range.2 hi)
    rw [Array.getElem?_eq_getElem hi] at h1
    have h2:=Array.all_eq_true'.1 h1 e he
    rw [hb] at h2
    have h3:e.on < i:=by simpa using h2
    have h4:=ih e.on h3 (by omega)
    rw [Array.getD_eq_getD_getElem?] at h4 ⊢
    have h5:e.on < listed.size:=by
     rw [Array.getD_eq_getD_getElem?] at hl
     by_cases h6:i < listed.size
     ·omega
     ·rw [Array.getElem?_eq_none (by omega)] at hl;cases hl
    rw [Array.getElem?_eq_getElem h5] at h4 ⊢
    exact h4
   rw [hr] at hm;cases hm
theorem pY {Inv:Array Bool→Act→World→Prop}
  (hend:∀listed a w,Region.ready .any ops listed=[]→Inv listed a w→Q .normal a w)
  (hstep:∀listed a w i o,ops[i]? = some o→listed.getD i true=false→(∀e∈o.after,Region.binds .any e=true→listed.getD e.on false=true)→Inv listed a w→if Region.wanted o (yielded ops a.tmps) then o.wp P a w (Inv (listed.setIfInBounds i true)) Q else Inv (listed.setIfInBounds i true) (a.put o.dst undef) w) :
  ∀(fuel:Nat) (listed:Array Bool) (a:Act) (w:World) (U:List Nat),(∀i,listed.getD i true=false→i∈U)→U.length≤fuel→Inv listed a w→wpAny P .any ops Q fuel listed a w
 | 0,listed,a,w,U,hU,hl,hI=>by
  have h0:U=[]:=List.eq_nil_of_length_eq_zero (by omega)
  have hr:Region.ready .any ops listed=[]:=List.eq_nil_iff_forall_not_mem.2 fun i hi=>by
   have:=hU i (mem_ready.1 hi).1
   rw [h0] at this;cases this
  exact ⟨hr,hend _ _ _ hr hI⟩
 | fuel+1,listed,a,w,U,hU,hl,hI=>by
  refine ⟨fun hr=>hend _ _ _ hr hI,fun i hi=>?_⟩
  obtain ⟨h1,o,ho,h2⟩:=mem_ready.1 hi
  have hs:=hstep listed a w i o ho h1 h2 hI
  have hrec:∀a' w',Inv (listed.setIfInBounds i true) a' w'→wpAny P .any ops Q fuel (listed.setIfInBounds i true) a' w':=fun a' w' h' =>
   pY hend hstep fuel _ a' w' (U.erase i) (fun j hj=>by
    have hne:j≠i:=fun e=>by
     subst e
     rw [Array.getD_eq_getD_getElem?] at hj h1
     by_cases h6:j < listed.size
     ·simp [h6] at hj
     ·simp [h6] at h1
    refine (List.mem_erase_of_ne hne).2 (hU j ?_)
    rw [Array.getD_eq_getD_getElem?] at hj ⊢
    rwa [Array.getElem?_setIfInBounds_ne (Ne.symm hne)] at hj) (by
    have:=List.length_erase_of_mem (hU i h1)
    omega) h'
  unfold wpOp
  simp only [ho]
  by_cases hw:Region.wanted o (yielded ops a.tmps)=true
  ·rw [if_pos hw] at hs ⊢
   exact .inl (Oper.wp_mono hrec hs)
  ·rw [if_neg hw] at hs ⊢
   exact hrec _ _ hs
theorem vP {id:Nat} {a:Act} {w:World} {l:List Oper} {Inv:Array Bool→Act→World→Prop} (hm:P.follows .mixedOrders=true) (hB:Dj l.toArray=true)
  (h0:Inv (Array.replicate l.toArray.size false) a (w.drewN 1))
  (hstep:∀listed a w i o,l.toArray[i]? = some o→listed.getD i true=false→(∀e∈o.after,Region.binds .any e=true→listed.getD e.on false=true)→Inv listed a w→if Region.wanted o (yielded l.toArray a.tmps) then o.wp P a w (Inv (listed.setIfInBounds i true)) Q else Inv (listed.setIfInBounds i true) (a.put o.dst undef) w)
  (hend:∀listed a w,(∀i,i < l.toArray.size→listed.getD i true=true)→Inv listed a w→Q .normal a w):(Code.region id l.toArray true).wp P Q a w :=
 wp_region_any hm (pY (fun listed a w hr hI=>hend listed a w (AY hB hr) hI) hstep _ _ _ _ (List.range l.toArray.size) (fun i hi=>by
  rw [Array.getD_eq_getD_getElem?] at hi
  by_cases h6:i < l.toArray.size
  ·exact List.mem_range.2 h6
  ·rw [Array.getElem?_eq_none (by simpa using h6)] at hi;cases hi) (by simp) h0)
end
theorem DM (w:World) {ad:Option Addr} {n cap:Nat} {os:List LayD} (k0:Nat) (h:SeeR aX w ad cap (cQ k0 os)) (hl:os.length=n) (hn:n≤1048576) (hk:k0+eD os≤10000000) (hi2:∀o∈os,o.ws.length≤1048576∧o.bs.length≤1048576) :
  Calls Tryz.prog 47 #[.slice ad n cap,.int .i64 k0] w fun e w'=>e=.returned (.int .i64 (k0+eD os:Nat))∧w=w':=by
 have HN:=I hl;have HI2:=I hi2;have HH:=I h;clear hi2 h hl
 go_enter Tryz.func47,Tryz.ntmps47
 go_wp2
 go_loop [1,5] (fun q i => ∃k k1:Nat,i=.int .i64 k∧q=.int .i64 k1∧k≤n∧k1≤10000000∧Hid (∃A B,os=A ++ B∧A.length=k∧k1=k0+eD A)) (fun _ i=>n - (intOf i).toNat)
 case atStart=>exact ⟨0,k0,rfl,rfl,Nat.zero_le _,by omega,I ⟨[],os,rfl,rfl,rfl⟩⟩
 case round =>
  obtain ⟨k,k1,rfl,rfl,hkn,hk1,HX⟩:=hrel
  by_cases hlt:k < n
  ·obtain ⟨A,B0,e1,e2,e3⟩:=HX.out
   cases B0 with
   | nil=>exfalso;have:=HN.out;rw [e1,List.append_nil] at this;omega
   | cons o B =>
    have HE1:=I e1;have HE3:=I e3;have HE2:=I e2
    have hget:=Bz k0 A B o
    rw [←e1,e2,←e3] at hget
    obtain ⟨b,off,rfl,hb,⟨p0,p1,p2,p3,p4⟩,⟨hf1,hf2⟩,-⟩:=bG HH.out hget
    have hmb:=HI2.out o (by rw [e1];simp)
    have htot:k1+o.w≤10000000:=by
     have:=hk
     rw [e1,rK,kP] at this
     omega
    unfold LayD.w at htot
    simp only [mC,gG] at p0 p1 p2 p3 p4 hf1 hf2
    obtain ⟨m1,hm1⟩:∃m,m=o.ws.length:=⟨_,rfl⟩
    obtain ⟨m2,hm2⟩:∃m,m=o.bs.length:=⟨_,rfl⟩
    rw [←hm1] at p3 hmb htot hf1 hf2
    rw [←hm2] at p4 hmb htot hf2
    have HM1:=I (fun W hW=>jX o.wa o.wk m1 (dP (k1+3) m1) (k1+3) W (by omega) (by omega) hW rfl)
    have HM2:=I (fun W hW=>jX o.ba o.bk m2 (dP (k1+3+m1) m2) (k1+3+m1) W (by omega) (by omega) hW rfl)
    have HF1:=I hf1;have HF2:=I hf2
    have HL1:=I hm1;have HL2:=I hm2
    clear e1 e2 e3 hget hf1 hf2 hm1 hm2
    go_wp2_with fail
    refine (HM1.out _ HF1.out).mono ?_
    rintro e w2 ⟨rfl,rfl⟩
    have hnn:0≤((k1+3+m1:Nat):Int):=by omega
    go_wp2_with fail
    refine (HM2.out _ HF2.out).mono ?_
    rintro e w2 ⟨rfl,rfl⟩
    have hnn2:0≤((k1+3+m1+m2:Nat):Int):=by omega
    clear p0 p1 p2 p3 p4
    go_wp2
    go_round
    case rel=>exact ⟨k+1,k1+3+m1+m2,by go_num,rfl,hlt,by omega,I ⟨A ++ [o],B,by rw [HE1.out];simp,by simp [HE2.out],by rw [wE,HE3.out,LayD.w,HL1.out,HL2.out];omega⟩⟩
    case measure=>simp [intOf];omega
  ·have hkn2:k=n:=by omega
   obtain ⟨A,B,e1,e2,e3⟩:=HX.out
   have hB:B=[]:=by
    have:=HN.out;rw [e1,List.length_append,e2] at this
    exact List.eq_nil_of_length_eq_zero (by omega)
   subst hB
   rw [List.append_nil] at e1
   subst e1
   subst e3
   clear HX e2
   go_wp2
   go_ret
   exact ⟨rfl,rfl⟩
theorem Ev (w:World) {ad:Option Addr} {n cap:Nat} {os:List LayD} (k0:Nat) (h:SeeR aX w ad cap (cQ k0 os)) (hl:os.length=n) (hn:n≤1048576) (hk:k0+eD os≤10000000) (hi2:∀o∈os,o.ws.length≤1048576∧o.bs.length≤1048576) :
  Calls Tryz.prog 24 #[.agg #[.slice ad n cap],.int .i64 k0] w fun e w'=>e=.returned (.int .i64 (k0+eD os:Nat))∧Below w.heap.size w w':=by
 have b1:=aE w (.cells #[.slice ad n cap] 35)
 have K:=I (DM _ k0 (h.below b1) hl hn hk hi2)
 have B:=I b1
 have hnn:0≤((k0+eD os:Nat):Int):=by omega
 clear h b1 hl hi2
 go_enter Tryz.func24,Tryz.ntmps24
 go_wp2_with fail
 refine K.out.mono ?_
 rintro e w1 ⟨rfl,rfl⟩
 go_wp2
 go_ret
 exact ⟨rfl,B.out⟩
def vQ (n:Nat) (us:List LayD):Prop:=n≤1048576∧eD us≤4000000∧∀u∈us,u.ws.length≤1048576∧u.bs.length≤1048576
section
variable {lo1 hi1 lo2 hi2 n1 c1 n2 c2:Nat} {a1 a2:Option Addr} {us vs:List LayD}
theorem Dk (w:World) (h1:OwnR aX w lo1 hi1 a1 n1 c1 us) (h2:OwnR aX w lo2 hi2 a2 n2 c2 vs) (he:us.map (fun l=>l.toLayP.can)=vs.map (fun l=>l.toLayP.can)) (hm:vQ n1 us) :
  Calls Tryz.prog 14 #[.agg #[.slice a1 n1 c1],.agg #[.slice a2 n2 c2]] w fun e w'=>e=.returned (.bool true)∧Below w.heap.size w w':=by
 have e1:=h1.len;have e2:=h2.len
 subst e1 e2
 exact EL w h1.see h2.see he hm.1 hm.2.2
theorem DN (w:World) (k0:Nat) (h:OwnR aX w lo1 hi1 a1 n1 c1 us) (hhi:hi1≤w.heap.size) (hm:vQ n1 us) (hk:k0+eD us≤10000000) :
  Calls Tryz.prog 16 #[.agg #[.slice a1 n1 c1],.int .i64 k0] w fun e w'=>e=.returned (.int .i64 (k0+eD us:Nat))∧Hid (OwnR aX w' lo1 hi1 a1 n1 c1 (cQ k0 us))∧Touch lo1 hi1 w w' :=
 CQ w k0 h hhi hm.1 hk hm.2.2
theorem Bn (w:World) (k0:Nat) (h:OwnR aX w lo1 hi1 a1 n1 c1 (cQ k0 us)) (hm:vQ n1 us) (hk:k0+eD us≤10000000) :
  Calls Tryz.prog 24 #[.agg #[.slice a1 n1 c1],.int .i64 k0] w fun e w'=>e=.returned (.int .i64 (k0+eD us:Nat))∧Below w.heap.size w w' :=
 Ev w k0 h.see (by rw [←nY k0 us];exact h.len) hm.1 hk hm.2.2
end
structure CutM (w0 wx:World) (Lc:List LayP) (R:Option (List OpP × List Int)) (c s:Nat) (g q:Int) (r:Nat) (ba bb lo hi:Nat) (ad:Option Addr) (n cap s':Nat) (g' q':Int) (f b:Bool) (us:List LayD):Prop where
 below:Below w0.heap.size w0 wx
 boxA:BoxN wx ba [.slice ad n cap]
 boxB:BoxN wx bb [.float .f32 s',.int .i64 g',.int .i64 q']
 loL:w0.heap.size≤lo
 hiL:hi≤wx.heap.size
 apA:ba < lo∨hi≤ba
 apB:bb < lo∨hi≤bb
 geA:w0.heap.size≤ba∧ba < wx.heap.size
 geB:w0.heap.size≤bb∧bb < wx.heap.size
 res:(((b=R.isSome∧f=(dD R c).2)∧(s',g',q')=sK R c s g q)∧us.map (fun l=>l.toLayP.can)=lX Lc R c r)∧OwnR aX wx lo hi ad n cap us
theorem bS {L:Array Bool} {i j:Nat} (h:i≠j) (b:Bool):(L.setIfInBounds i true).getD j b=L.getD j b:=by
 rw [Array.getD_eq_getD_getElem?,Array.getD_eq_getD_getElem?,Array.getElem?_setIfInBounds_ne h]
theorem yU {L:Array Bool} {i:Nat} (h:i < L.size) (b:Bool):(L.setIfInBounds i true).getD i b=true:=by
 rw [Array.getD_eq_getD_getElem?];simp [h]
theorem jE {L:Array Bool} {i j:Nat} (h:L.getD j false=true):(L.setIfInBounds i true).getD j false=true:=by
 by_cases e:i=j
 ·subst e
  rw [Array.getD_eq_getD_getElem?] at h ⊢
  by_cases h6:i < L.size
  ·simp [h6]
  ·rw [Array.getElem?_eq_none (by omega)] at h;cases h
 ·rw [bS e];exact h
structure Agr (D:List Nat) (a0 a:Act):Prop where
 size:a.tmps.size=a0.tmps.size
 defs:a.defers=a0.defers
 at':∀t,t ∉ D→a.eval (.tmp t)=a0.eval (.tmp t)
theorem Agr.refl (D:List Nat) (a:Act):Agr D a a:=⟨rfl,rfl,fun _ _=>rfl⟩
theorem Agr.put {D:List Nat} {a0 a:Act} (h:Agr D a0 a) {d:Nat} (hd:d∈D) (v:Value):Agr D a0 (a.put (some d) v) :=
 ⟨(Act.size_put ..).trans h.size,(Act.defers_put' ..).trans h.defs,fun t ht=>(Act.eval_put_ne a d t v (fun e=>ht (e ▸ hd))).trans (h.at' t ht)⟩
theorem Dl (f:Nat→Value) (D:List Nat) (b:Act):(D.foldl (fun b d=>b.put (some d) (f d)) b).tmps.size=b.tmps.size∧(D.foldl (fun b d=>b.put (some d) (f d)) b).defers=b.defers∧∀t,t < b.tmps.size→(D.foldl (fun b d=>b.put (some d) (f d)) b).eval (.tmp t)=if t∈D then f t else b.eval (.tmp t):=by
 induction D generalizing b with
 | nil=>exact ⟨rfl,rfl,fun t _=>by simp⟩
 | cons d D ih =>
  obtain ⟨h1,h2,h3⟩:=ih (b.put (some d) (f d))
  refine ⟨h1.trans (Act.size_put ..),h2.trans (Act.defers_put' ..),fun t ht=>?_⟩
  rw [List.foldl_cons,h3 t (by rw [Act.size_put];exact ht)]
  by_cases e:t∈D
  ·simp [e]
  ·by_cases e2:d=t
   ·subst e2
    rw [if_neg e,Act.eval_put_same _ _ _ ht];simp
   ·rw [if_neg e,Act.eval_put_ne _ _ _ _ e2,if_neg (by simp [e,Ne.symm e2])]
theorem Agr.fold {D:List Nat} {a0 a:Act} (h:Agr D a0 a):a=D.foldl (fun b d=>b.put (some d) (a.eval (.tmp d))) a0:=by
 obtain ⟨h1,h2,h3⟩:=Dl (fun d=>a.eval (.tmp d)) D a0
 generalize D.foldl (fun b d=>b.put (some d) (a.eval (.tmp d))) a0=c at h1 h2 h3
 obtain ⟨ct,cd⟩:=c
 obtain ⟨xt,xd⟩:=a
 have e1:xd=cd:=h.defs.trans h2.symm
 have e2:xt=ct:=by
  refine Array.ext (h.size.trans h1.symm) fun t ht1 ht2=>?_
  have:=h3 t (h.size ▸ ht1)
  have h4:Act.eval ⟨xt,xd⟩ (.tmp t)=Act.eval ⟨ct,cd⟩ (.tmp t):=by
   rw [this]
   split
   ·rfl
   ·rename_i hn;exact h.at' t hn
  simp only [Act.eval,Array.getD_eq_getD_getElem?,Array.getElem?_eq_getElem ht1,Array.getElem?_eq_getElem ht2,Option.getD_some] at h4
  exact h4
 rw [e1,e2]
def Co (k:Nat):Value→Value
 | .tuple xs=>xs.getD k undef
 | _=>undef
def qW:Value→List Value
 | .agg xs=>xs.toList
 | _=>[]
def MSv (F:Nat→Int→Int→Value→Value→List LayD→Prop) (v:Value) (W:World) (lo hi:Nat):Prop :=
 ∃(ad:Option Addr) (n cap s':Nat) (g' q':Int) (v2 v3:Value) (us:List LayD),v=.tuple #[.agg #[.slice ad n cap],.agg #[.float .f32 s',.int .i64 g',.int .i64 q'],v2,v3]∧F s' g' q' v2 v3 us∧OwnR aX W lo hi ad n cap us
theorem MSv.below {F:Nat→Int→Int→Value→Value→List LayD→Prop} {v:Value} {W W':World} {lo hi:Nat} (h:MSv F v W lo hi) (hb:Below W.heap.size W W'):MSv F v W' lo hi:=by
 obtain ⟨ad,n,cap,s',g',q',v2,v3,us,e,hf,ho⟩:=h
 exact ⟨ad,n,cap,s',g',q',v2,v3,us,e,hf,ho.below hb⟩
theorem MSv.touch {F:Nat→Int→Int→Value→Value→List LayD→Prop} {v:Value} {W W':World} {lo hi g:Nat} (h:MSv F v W lo hi) (ht:Touch g (g+1) W W') (hd:g < lo∨hi≤g):MSv F v W' lo hi:=by
 obtain ⟨ad,n,cap,s',g',q',v2,v3,us,e,hf,ho⟩:=h
 exact ⟨ad,n,cap,s',g',q',v2,v3,us,e,hf,ho.touch ht (by omega)⟩
section
variable (l:List Oper) (N:Nat) (S:Nat→Nat) (D:List Nat) (a0:Act) (w0:World) (Φ:Nat→Value→World→Prop) (F:Nat→Int→Int→Value→Value→List LayD→Prop)
structure BX (L:Array Bool) (a:Act) (W:World) (ba bb lo hi:Nat):Prop where
 A:L.getD (N+6) false=true→a.eval (.tmp (S (N+6)))=.pointer (some ⟨ba,0,none⟩)∧w0.heap.size≤ba∧BoxN W ba (if L.getD (N+8) false=true then qW (Co 0 (a.eval (.tmp (S N)))) else [.slice none 0 0])
 B:L.getD (N+7) false=true→a.eval (.tmp (S (N+7)))=.pointer (some ⟨bb,0,none⟩)∧w0.heap.size≤bb∧BoxN W bb (if L.getD (N+9) false=true then qW (Co 1 (a.eval (.tmp (S N)))) else [.float .f32 0,.int .i64 0,.int .i64 0])
 AB:L.getD (N+6) false=true→L.getD (N+7) false=true→ba≠bb
 R:L.getD N false=true→MSv F (a.eval (.tmp (S N))) W lo hi∧w0.heap.size≤lo∧hi≤W.heap.size
 RA:L.getD N false=true→L.getD (N+6) false=true→ba < lo∨hi≤ba
 RB:L.getD N false=true→L.getD (N+7) false=true→bb < lo∨hi≤bb
structure BInv (L:Array Bool) (a:Act) (W:World):Prop where
 size:L.size=N+12
 closed:∀j,L.getD j false=true→∀k,cF .any l.toArray j k=true→L.getD k false=true
 agr:Agr D a0 a
 bel:Below w0.heap.size w0 W
 pre:L.getD N false=false→∀j,j < N→L.getD j false=true→Φ j (a.eval (.tmp (S j))) W
 mv:L.getD (N+1) false=true→a.eval (.tmp (S (N+1)))=a.eval (.tmp (S N))
 ex:∀k,k < 4→L.getD (N+2+k) false=true→a.eval (.tmp (S (N+2+k)))=Co k (a.eval (.tmp (S N)))
 asn:∀k,k < 2→L.getD (N+10+k) false=true→a.eval (.tmp (S (N+10+k)))=Co (2+k) (a.eval (.tmp (S N)))
 box:∃ba bb lo hi,BX N S w0 F L a W ba bb lo hi
structure BOk:Prop where
 inj:∀i j,i < N+12→j < N+12→S i=S j→i=j
 sz:∀i,i < N+12→i≠N+8→i≠N+9→S i < a0.tmps.size∧S i∈D
 w1:cF .any l.toArray (N+1) N=true
 w2:∀k,k < 4→cF .any l.toArray (N+2+k) (N+1)=true
 w8:cF .any l.toArray (N+8) (N+6)=true
 w8e:cF .any l.toArray (N+8) (N+2)=true
 w9:cF .any l.toArray (N+9) (N+7)=true
 w9e:cF .any l.toArray (N+9) (N+3)=true
 w10:∀k,k < 2→cF .any l.toArray (N+10+k) (N+4+k)=true
 wp:∀i,i < N→cF .any l.toArray N i=true∨∃j,cF .any l.toArray N j=true∧cF .any l.toArray j i=true
end
section
variable {l:List Oper} {N:Nat} {S:Nat→Nat} {D:List Nat} {a0:Act} {w0:World} {Φ:Nat→Value→World→Prop} {F:Nat→Int→Int→Value→Value→List LayD→Prop} {L:Array Bool} {a:Act} {W W':World}
theorem BInv.grow (ok:BOk l N S D a0) (hst:∀i v W W',Φ i v W→Below W.heap.size W W'→Φ i v W') (h:BInv l N S D a0 w0 Φ F L a W) {i:Nat} (hi:i < N+12) (n8:i≠N+8) (n9:i≠N+9) (hun:L.getD i false=false)
  (hd:∀k,cF .any l.toArray i k=true→L.getD k false=true) (v:Value) (hb:Below W.heap.size W W')
  (f0:i < N→Φ i v W') (f1:i=N+1→v=a.eval (.tmp (S N))) (f2:∀k,k < 4→i=N+2+k→v=Co k (a.eval (.tmp (S N)))) (f3:∀k,k < 2→i=N+10+k→v=Co (2+k) (a.eval (.tmp (S N))))
  (fc:i=N→MSv F v W' W.heap.size W'.heap.size) (fA:i=N+6→v=.pointer (some ⟨W.heap.size,0,none⟩)∧BoxN W' W.heap.size [.slice none 0 0])
  (fB:i=N+7→v=.pointer (some ⟨W.heap.size,0,none⟩)∧BoxN W' W.heap.size [.float .f32 0,.int .i64 0,.int .i64 0]) :
  BInv l N S D a0 w0 Φ F (L.setIfInBounds i true) (a.put (some (S i)) v) W':=by
 have hsz:=h.size
 have hsi:=ok.sz i hi n8 n9
 have hLi:(L.setIfInBounds i true).getD i false=true:=yU (by omega) _
 have ei:(a.put (some (S i)) v).eval (.tmp (S i))=v:=Act.eval_put_same _ _ _ (by rw [h.agr.size];exact hsi.1)
 have ev:∀j,j < N+12→i≠j→(a.put (some (S i)) v).eval (.tmp (S j))=a.eval (.tmp (S j)):=fun j hj hij=>Act.eval_put_ne _ _ _ _ (fun e=>hij (ok.inj i j hi hj e))
 have g1:L.getD (N+1) false=true→L.getD N false=true:=fun h1=>h.closed _ h1 _ ok.w1
 have g2:∀k,k < 4→L.getD (N+2+k) false=true→L.getD N false=true:=fun k hk h1=>g1 (h.closed _ h1 _ (ok.w2 k hk))
 have g3:∀k,k < 2→L.getD (N+10+k) false=true→L.getD N false=true:=fun k hk h1=>g2 (2+k) (by omega) (by have:=h.closed _ h1 _ (ok.w10 k hk);rwa [show N+2+(2+k)=N+4+k by omega])
 have g8:L.getD (N+8) false=true→L.getD N false=true:=fun h1=>g2 0 (by omega) (h.closed _ h1 _ ok.w8e)
 have g9:L.getD (N+9) false=true→L.getD N false=true:=fun h1=>g2 1 (by omega) (h.closed _ h1 _ ok.w9e)
 have iN:L.getD N false=true→i≠N:=fun h1 e=>by rw [e,h1] at hun;cases hun
 have hsize:=hb.size
 have e8:(L.setIfInBounds i true).getD (N+8) false=L.getD (N+8) false:=bS n8 _
 have e9:(L.setIfInBounds i true).getD (N+9) false=L.getD (N+9) false:=bS n9 _
 refine ⟨by simpa using hsz,fun j hj k hw=>?_,h.agr.put hsi.2 v,aA h.bel hb,fun hN j hj hl=>?_,fun hl=>?_,fun k hk hl=>?_,fun k hk hl=>?_,?_⟩
 ·by_cases e:i=j
  ·subst e;exact jE (hd k hw)
  ·rw [bS e] at hj;exact jE (h.closed j hj k hw)
 ·have hiN:i≠N:=fun e=>by rw [←e,hLi] at hN;cases hN
  rw [bS hiN] at hN
  by_cases e:i=j
  ·subst e;rw [ei];exact f0 hj
  ·rw [bS e] at hl;rw [ev j (by omega) e];exact hst _ _ _ _ (h.pre hN j hj hl) hb
 ·by_cases e:i=N+1
  ·have:(a.put (some (S i)) v).eval (.tmp (S (N+1)))=v:=by rw [←e];exact ei
   rw [this,ev N (by omega) (by omega)];exact f1 e
  ·rw [bS e] at hl;rw [ev _ (by omega) e,ev N (by omega) (iN (g1 hl))];exact h.mv hl
 ·by_cases e:i=N+2+k
  ·have:(a.put (some (S i)) v).eval (.tmp (S (N+2+k)))=v:=by rw [←e];exact ei
   rw [this,ev N (by omega) (by omega)];exact f2 k hk e
  ·rw [bS e] at hl;rw [ev _ (by omega) e,ev N (by omega) (iN (g2 k hk hl))];exact h.ex k hk hl
 ·by_cases e:i=N+10+k
  ·have:(a.put (some (S i)) v).eval (.tmp (S (N+10+k)))=v:=by rw [←e];exact ei
   rw [this,ev N (by omega) (by omega)];exact f3 k hk e
  ·rw [bS e] at hl;rw [ev _ (by omega) e,ev N (by omega) (iN (g3 k hk hl))];exact h.asn k hk hl
 ·obtain ⟨ba,bb,lo,hi',bx⟩:=h.box
  have hA:i≠N+6→(L.setIfInBounds i true).getD (N+6) false=true→L.getD (N+6) false=true∧(a.put (some (S i)) v).eval (.tmp (S (N+6)))=.pointer (some ⟨ba,0,none⟩)∧w0.heap.size≤ba∧BoxN W' ba (if (L.setIfInBounds i true).getD (N+8) false=true then qW (Co 0 ((a.put (some (S i)) v).eval (.tmp (S N)))) else [.slice none 0 0]):=by
   intro hi6 hl
   rw [bS hi6] at hl
   obtain ⟨b1,b2,b3⟩:=bx.A hl
   rw [e8]
   refine ⟨hl,(ev _ (by omega) hi6).trans b1,b2,?_⟩
   by_cases h8:L.getD (N+8) false=true
   ·rw [if_pos h8] at b3 ⊢;rw [ev N (by omega) (iN (g8 h8))];exact b3.below hb
   ·rw [if_neg h8] at b3 ⊢;exact b3.below hb
  have hB:i≠N+7→(L.setIfInBounds i true).getD (N+7) false=true→L.getD (N+7) false=true∧(a.put (some (S i)) v).eval (.tmp (S (N+7)))=.pointer (some ⟨bb,0,none⟩)∧w0.heap.size≤bb∧BoxN W' bb (if (L.setIfInBounds i true).getD (N+9) false=true then qW (Co 1 ((a.put (some (S i)) v).eval (.tmp (S N)))) else [.float .f32 0,.int .i64 0,.int .i64 0]):=by
   intro hi6 hl
   rw [bS hi6] at hl
   obtain ⟨b1,b2,b3⟩:=bx.B hl
   rw [e9]
   refine ⟨hl,(ev _ (by omega) hi6).trans b1,b2,?_⟩
   by_cases h8:L.getD (N+9) false=true
   ·rw [if_pos h8] at b3 ⊢;rw [ev N (by omega) (iN (g9 h8))];exact b3.below hb
   ·rw [if_neg h8] at b3 ⊢;exact b3.below hb
  have hR:i≠N→(L.setIfInBounds i true).getD N false=true→L.getD N false=true∧MSv F ((a.put (some (S i)) v).eval (.tmp (S N))) W' lo hi'∧w0.heap.size≤lo∧hi'≤W'.heap.size:=by
   intro hiN hl
   rw [bS hiN] at hl
   obtain ⟨r1,r2,r3⟩:=bx.R hl
   rw [ev N (by omega) hiN]
   exact ⟨hl,r1.below hb,r2,by omega⟩
  have lA:∀hl:L.getD (N+6) false=true,ba < W.heap.size:=fun hl=>(bx.A hl).2.2.lt
  have lB:∀hl:L.getD (N+7) false=true,bb < W.heap.size:=fun hl=>(bx.B hl).2.2.lt
  have hw0:=h.bel.size
  by_cases c6:i=N+6
  ·obtain ⟨q1,q2⟩:=fA c6
   have n8':¬ L.getD (N+8) false=true:=fun h8=>by have:=h.closed _ h8 _ ok.w8;rw [←c6,hun] at this;cases this
   have ei':(a.put (some (S i)) v).eval (.tmp (S (N+6)))=v:=by rw [←c6];exact ei
   refine ⟨W.heap.size,bb,lo,hi',⟨fun _=>⟨by rw [ei',q1],hw0,?_⟩,fun hl=>(hB (by omega) hl).2,fun _ hl=>?_,fun hl=>(hR (by omega) hl).2,fun hl _=>?_,fun hl hl2=>?_⟩⟩
   ·rw [e8,if_neg n8'];exact q2
   ·have:=lB (hB (by omega) hl).1;omega
   ·have:=(bx.R (hR (by omega) hl).1).2.2;omega
   ·exact bx.RB (hR (by omega) hl).1 (hB (by omega) hl2).1
  by_cases c7:i=N+7
  ·obtain ⟨q1,q2⟩:=fB c7
   have n8':¬ L.getD (N+9) false=true:=fun h8=>by have:=h.closed _ h8 _ ok.w9;rw [←c7,hun] at this;cases this
   have ei':(a.put (some (S i)) v).eval (.tmp (S (N+7)))=v:=by rw [←c7];exact ei
   refine ⟨ba,W.heap.size,lo,hi',⟨fun hl=>(hA c6 hl).2,fun _=>⟨by rw [ei',q1],hw0,?_⟩,fun hl _=>?_,fun hl=>(hR (by omega) hl).2,fun hl hl2=>?_,fun hl _=>?_⟩⟩
   ·rw [e9,if_neg n8'];exact q2
   ·have:=lA (hA c6 hl).1;omega
   ·exact bx.RA (hR (by omega) hl).1 (hA c6 hl2).1
   ·have:=(bx.R (hR (by omega) hl).1).2.2;omega
  by_cases cN:i=N
  ·have q:=fc cN
   have ei':(a.put (some (S i)) v).eval (.tmp (S N))=v:=by rw [←cN];exact ei
   refine ⟨ba,bb,W.heap.size,W'.heap.size,⟨fun hl=>(hA c6 hl).2,fun hl=>(hB c7 hl).2,fun h1 h2=>bx.AB (hA c6 h1).1 (hB c7 h2).1,fun _=>⟨by rw [ei'];exact q,hw0,J _⟩,fun _ hl=>.inl (lA (hA c6 hl).1),fun _ hl=>.inl (lB (hB c7 hl).1)⟩⟩
  ·exact ⟨ba,bb,lo,hi',⟨fun hl=>(hA c6 hl).2,fun hl=>(hB c7 hl).2,fun h1 h2=>bx.AB (hA c6 h1).1 (hB c7 h2).1,fun hl=>(hR cN hl).2,fun h1 h2=>bx.RA (hR cN h1).1 (hA c6 h2).1,fun h1 h2=>bx.RB (hR cN h1).1 (hB c7 h2).1⟩⟩
theorem BInv.storeA (ok:BOk l N S D a0) (h:BInv l N S D a0 w0 Φ F L a W) (hd:∀k,cF .any l.toArray (N+8) k=true→L.getD k false=true) :
  ∃ba ad n cap,a.eval (.tmp (S (N+6)))=.pointer (some ⟨ba,0,none⟩)∧a.eval (.tmp (S (N+2)))=.agg #[.slice ad n cap]∧BoxN W ba (if L.getD (N+8) false=true then [.slice ad n cap] else [.slice none 0 0])∧BInv l N S D a0 w0 Φ F (L.setIfInBounds (N+8) true) a (W.setCell ⟨ba,0,none⟩ (.slice ad n cap)):=by
 obtain ⟨ba,bb,lo,hi,bx⟩:=h.box
 have l6:=hd _ ok.w8
 have l2:=hd _ ok.w8e
 have l1:=h.closed _ l2 _ (ok.w2 0 (by omega))
 have lN:=h.closed _ l1 _ ok.w1
 obtain ⟨b1,b2,b3⟩:=bx.A l6
 obtain ⟨r1,r2,r3⟩:=bx.R lN
 have hap:=bx.RA lN l6
 have hT:∀y,Touch ba (ba+1) W (W.setCell ⟨ba,0,none⟩ y):=fun y=>Touch.setCell (J _) (Nat.lt_succ_self _)
 obtain ⟨ad,n,cap,s',g',q',v2,v3,us,e,hf,ho⟩:=id r1
 have he2:=h.ex 0 (by omega) l2
 have e1:a.eval (.tmp (S (N+2)))=.agg #[.slice ad n cap]:=by rw [he2,e];rfl
 have e2:qW (Co 0 (a.eval (.tmp (S N))))=[.slice ad n cap]:=by rw [e];rfl
 rw [e2] at b3
 have hsz:=h.size
 have hx:BoxN (W.setCell ⟨ba,0,none⟩ (.slice ad n cap)) ba [.slice ad n cap]:=by
  split at b3
  ·exact b3.set 0 _
  ·exact b3.set 0 _
 refine ⟨ba,ad,n,cap,b1,e1,b3,⟨by simpa using hsz,fun j hj k hw=>?_,h.agr,Below.setCell h.bel b2 _,fun hN=>?_,fun hl=>?_,fun k hk hl=>?_,fun k hk hl=>?_,ba,bb,lo,hi,⟨fun _=>⟨b1,b2,?_⟩,fun hl=>?_,fun _ hl=>?_,fun _=>⟨r1.touch (hT _) hap,r2,by simpa [World.setCell] using r3⟩,fun _ _=>hap,fun _ hl=>?_⟩⟩⟩
 ·by_cases e:N+8=j
  ·subst e;exact jE (hd k hw)
  ·rw [bS e] at hj;exact jE (h.closed j hj k hw)
 ·rw [bS (by omega),lN] at hN;cases hN
 ·rw [bS (by omega)] at hl;exact h.mv hl
 ·rw [bS (by omega)] at hl;exact h.ex k hk hl
 ·rw [bS (by omega)] at hl;exact h.asn k hk hl
 ·rw [if_pos (yU (by omega) _),e2];exact hx
 ·rw [bS (by omega)] at hl
  obtain ⟨c1,c2,c3⟩:=bx.B hl
  refine ⟨c1,c2,?_⟩
  rw [bS (by omega)]
  exact c3.far _ _ _ (bx.AB l6 hl)
 ·rw [bS (by omega)] at hl;exact bx.AB l6 hl
 ·rw [bS (by omega)] at hl;exact bx.RB lN hl
theorem BInv.storeB (ok:BOk l N S D a0) (h:BInv l N S D a0 w0 Φ F L a W) (hd:∀k,cF .any l.toArray (N+9) k=true→L.getD k false=true) :
  ∃bb s' g' q',a.eval (.tmp (S (N+7)))=.pointer (some ⟨bb,0,none⟩)∧a.eval (.tmp (S (N+3)))=.agg #[.float .f32 s',.int .i64 g',.int .i64 q']∧BoxN W bb (if L.getD (N+9) false=true then [.float .f32 s',.int .i64 g',.int .i64 q'] else [.float .f32 0,.int .i64 0,.int .i64 0])∧BInv l N S D a0 w0 Φ F (L.setIfInBounds (N+9) true) a (setCs W bb 0 [.float .f32 s',.int .i64 g',.int .i64 q']):=by
 obtain ⟨ba,bb,lo,hi,bx⟩:=h.box
 have l6:=hd _ ok.w9
 have l2:=hd _ ok.w9e
 have l1:=h.closed _ l2 _ (ok.w2 1 (by omega))
 have lN:=h.closed _ l1 _ ok.w1
 obtain ⟨b1,b2,b3⟩:=bx.B l6
 obtain ⟨r1,r2,r3⟩:=bx.R lN
 have hap:=bx.RB lN l6
 obtain ⟨ad,n,cap,s',g',q',v2,v3,us,e,hf,ho⟩:=id r1
 have hT:Touch bb (bb+1) W (setCs W bb 0 [.float .f32 s',.int .i64 g',.int .i64 q']):=aB _ _ _ _
 have he2:=h.ex 1 (by omega) l2
 have e1:a.eval (.tmp (S (N+3)))=.agg #[.float .f32 s',.int .i64 g',.int .i64 q']:=by rw [he2,e];rfl
 have e2:qW (Co 1 (a.eval (.tmp (S N))))=[.float .f32 s',.int .i64 g',.int .i64 q']:=by rw [e];rfl
 rw [e2] at b3
 have hsz:=h.size
 have hx:BoxN (setCs W bb 0 [.float .f32 s',.int .i64 g',.int .i64 q']) bb [.float .f32 s',.int .i64 g',.int .i64 q']:=by
  split at b3
  ·exact b3.set3
  ·exact b3.set3
 refine ⟨bb,s',g',q',b1,e1,b3,⟨by simpa using hsz,fun j hj k hw=>?_,h.agr,aG h.bel b2 0 _,fun hN=>?_,fun hl=>?_,fun k hk hl=>?_,fun k hk hl=>?_,ba,bb,lo,hi,⟨fun hl=>?_,fun _=>⟨b1,b2,?_⟩,fun hl _=>?_,fun _=>⟨r1.touch hT hap,r2,by rw [aU];exact r3⟩,fun _ hl=>?_,fun _ _=>hap⟩⟩⟩
 ·by_cases e:N+9=j
  ·subst e;exact jE (hd k hw)
  ·rw [bS e] at hj;exact jE (h.closed j hj k hw)
 ·rw [bS (by omega),lN] at hN;cases hN
 ·rw [bS (by omega)] at hl;exact h.mv hl
 ·rw [bS (by omega)] at hl;exact h.ex k hk hl
 ·rw [bS (by omega)] at hl;exact h.asn k hk hl
 ·rw [bS (by omega)] at hl
  obtain ⟨c1,c2,c3⟩:=bx.A hl
  refine ⟨c1,c2,?_⟩
  rw [bS (by omega)]
  have:=bx.AB hl l6
  exact c3.touch hT (by omega)
 ·rw [if_pos (yU (by omega) _),e2];exact hx
 ·rw [bS (by omega)] at hl;exact bx.AB hl l6
 ·rw [bS (by omega)] at hl;exact bx.RA lN hl
def BEnd (N:Nat) (S:Nat→Nat) (D:List Nat) (a0:Act) (w0:World) (F:Nat→Int→Int→Value→Value→List LayD→Prop) (a:Act) (W:World):Prop :=
 Agr D a0 a∧∃(ba bb lo hi:Nat) (ad:Option Addr) (n cap s':Nat) (g' q':Int) (v2 v3:Value) (us:List LayD),(a.eval (.tmp (S (N+6)))=.pointer (some ⟨ba,0,none⟩)∧a.eval (.tmp (S (N+7)))=.pointer (some ⟨bb,0,none⟩)∧a.eval (.tmp (S (N+10)))=v2∧a.eval (.tmp (S (N+11)))=v3) ∧
  F s' g' q' v2 v3 us∧Below w0.heap.size w0 W∧BoxN W ba [.slice ad n cap]∧BoxN W bb [.float .f32 s',.int .i64 g',.int .i64 q']∧(w0.heap.size≤lo∧hi≤W.heap.size)∧(ba < lo∨hi≤ba)∧(bb < lo∨hi≤bb)∧(w0.heap.size≤ba∧ba < W.heap.size)∧(w0.heap.size≤bb∧bb < W.heap.size)∧OwnR aX W lo hi ad n cap us
theorem BInv.done (h:BInv l N S D a0 w0 Φ F L a W) (hall:∀i,i < N+12→L.getD i false=true):BEnd N S D a0 w0 F a W:=by
 obtain ⟨ba,bb,lo,hi,bx⟩:=h.box
 obtain ⟨a1,a2,a3⟩:=bx.A (hall _ (by omega))
 obtain ⟨b1,b2,b3⟩:=bx.B (hall _ (by omega))
 obtain ⟨r1,r2,r3⟩:=bx.R (hall _ (by omega))
 obtain ⟨ad,n,cap,s',g',q',v2,v3,us,e,hf,ho⟩:=id r1
 have f0:=h.asn 0 (by omega) (hall _ (by omega))
 have f1:=h.asn 1 (by omega) (hall _ (by omega))
 rw [if_pos (hall _ (by omega)),e] at a3 b3
 rw [e] at f0 f1
 exact ⟨h.agr,ba,bb,lo,hi,ad,n,cap,s',g',q',v2,v3,us,⟨a1,b1,f0,f1⟩,hf,h.bel,a3,b3,⟨r2,r3⟩,bx.RA (hall _ (by omega)) (hall _ (by omega)),bx.RB (hall _ (by omega)) (hall _ (by omega)),⟨a2,a3.lt⟩,⟨b2,b3.lt⟩,ho⟩
theorem BInv.start (N:Nat) (S:Nat→Nat) (D:List Nat) (Φ:Nat→Value→World→Prop) (F:Nat→Int→Int→Value→Value→List LayD→Prop) (a0:Act) (w0:World) (hl:l.length=N+12) (hb:Below w0.heap.size w0 W):BInv l N S D a0 w0 Φ F (Array.replicate l.toArray.size false) a0 W:=by
 have h0:∀j,(Array.replicate l.toArray.size false).getD j false=false:=fun j=>by
  rw [Array.getD_eq_getD_getElem?,Array.getElem?_replicate];split <;> rfl
 have no:∀ {j:Nat} {p:Prop},(Array.replicate l.toArray.size false).getD j false=true→p:=fun h=>by rw [h0] at h;cases h
 exact ⟨by simp [hl],fun _ h=>no h,Agr.refl _ _,hb,fun _ _ _ h=>no h,fun h=>no h,fun _ _ h=>no h,fun _ _ h=>no h,0,0,0,0,⟨fun h=>no h,fun h=>no h,fun h=>no h,fun h=>no h,fun h=>no h,fun h=>no h⟩⟩
def yV (l:List Oper) (i:Nat) (d:Option Tmp) (x:Op):Prop:=∃t p f,l[i]? = some ⟨d,x,t,p,f,none⟩
theorem lY {P:Program} {Q:Exit→Act→World→Prop} {id:Nat} {y0 y1:TypeId} {xC:Op} (hm:P.follows .mixedOrders=true) (hB:Dj l.toArray=true) (hl:l.length=N+12) (ok:BOk l N S D a0) (hst:∀i v W W',Φ i v W→Below W.heap.size W W'→Φ i v W')
  (oC:yV l N (some (S N)) xC) (o1:yV l (N+1) (some (S (N+1))) (.move (.tmp (S N)))) (oE:∀k,k < 4→yV l (N+2+k) (some (S (N+2+k))) (.extract (.tmp (S (N+1))) k))
  (oA:yV l (N+6) (some (S (N+6))) (.alloc y0)) (oB:yV l (N+7) (some (S (N+7))) (.alloc y1)) (oSA:yV l (N+8) none (.store y0 (.tmp (S (N+6))) (.tmp (S (N+2))))) (oSB:yV l (N+9) none (.store y1 (.tmp (S (N+7))) (.tmp (S (N+3)))))
  (oF:∀k,k < 2→yV l (N+10+k) (some (S (N+10+k))) (.assign (.tmp (S (N+4+k)))))
  (hpre:∀i o,i < N→l[i]? = some o→(o.guard=none∧o.dst=some (S i))∧∀a W K,Agr D a0 a→Below w0.heap.size w0 W→(∀j,j < N→cF .any l.toArray i j=true→Φ j (a.eval (.tmp (S j))) W)→(∀v W',Φ i v W'→Below W.heap.size W W'→K (a.put (some (S i)) v) W')→o.wp P a W K Q)
  (hcall:∀o,l[N]? = some o→∀a W K,Agr D a0 a→Below w0.heap.size w0 W→(∀j,j < N→cF .any l.toArray N j=true→Φ j (a.eval (.tmp (S j))) W)→(∀v W',MSv F v W' W.heap.size W'.heap.size→Below W.heap.size W W'→K (a.put (some (S N)) v) W')→o.wp P a W K Q)
  (hAl:∀(o:Oper) a W K,o.op=.alloc y0→K (a.put o.dst (.pointer (some ⟨W.heap.size,0,none⟩))) (W.alloc (.cells #[.slice none 0 0] y0))→o.wp P a W K Q)
  (hBl:∀(o:Oper) a W K,o.op=.alloc y1→K (a.put o.dst (.pointer (some ⟨W.heap.size,0,none⟩))) (W.alloc (.cells #[.float .f32 0,.int .i64 0,.int .i64 0] y1))→o.wp P a W K Q)
  (hSA:∀(o:Oper) a W K p v b x ad n cap,o.op=.store y0 (.tmp p) (.tmp v)→o.dst=none→a.eval (.tmp p)=.pointer (some ⟨b,0,none⟩)→a.eval (.tmp v)=.agg #[.slice ad n cap]→BoxN W b [x]→K a (W.setCell ⟨b,0,none⟩ (.slice ad n cap))→o.wp P a W K Q)
  (hSB:∀(o:Oper) a W K p v b x y z s g q,o.op=.store y1 (.tmp p) (.tmp v)→o.dst=none→a.eval (.tmp p)=.pointer (some ⟨b,0,none⟩)→a.eval (.tmp v)=.agg #[.float .f32 s,.int .i64 g,.int .i64 q]→BoxN W b [x,y,z]→K a (setCs W b 0 [.float .f32 s,.int .i64 g,.int .i64 q])→o.wp P a W K Q)
  (hend:∀a W,BEnd N S D a0 w0 F a W→Q .normal a W):(Code.region id l.toArray true).wp P Q a0 w0:=by
 refine vP (Inv:=BInv l N S D a0 w0 Φ F) hm hB (BInv.start N S D Φ F a0 w0 hl (below_drewN (O _ _) _)) (fun L a W i o ho hun hd h=>?_) (fun L a W hall h=>?_)
 ·have hi:i < N+12:=by
   rw [List.getElem?_toArray] at ho
   have:=(List.getElem?_eq_some_iff.1 ho).1;omega
  have hd2:∀k,cF .any l.toArray i k=true→L.getD k false=true:=fun k hk=>by
   obtain ⟨o',ho',e,he,hb,hk'⟩:=mM hk
   rw [ho] at ho';cases ho'
   rw [←hk'];exact hd e he hb
  have hun2:=fN hun
  rw [List.getElem?_toArray] at ho
  have hat:∀ {d x},yV l i d x→∃t p f,o=⟨d,x,t,p,f,none⟩:=fun ⟨t,p,f,e⟩=>⟨t,p,f,Option.some.inj (ho.symm.trans e)⟩
  have hwant:o.guard=none→Region.wanted o (yielded l.toArray a.tmps)=true:=fun e=>by unfold Region.wanted;rw [e]
  by_cases c0:i < N
  ·obtain ⟨⟨e1,e2⟩,hp⟩:=hpre i o c0 ho
   rw [if_pos (hwant e1)]
   have hNf:L.getD N false=false:=by
    cases hN:L.getD N false with
    | false=>rfl
    | true =>
     exfalso
     have:L.getD i false=true:=by
      rcases ok.wp i c0 with h1 | ⟨j,h1,h2⟩
      ·exact h.closed _ hN _ h1
      ·exact h.closed _ (h.closed _ hN _ h1) _ h2
     rw [hun2] at this;cases this
   refine hp a W _ h.agr h.bel (fun j hj hw=>h.pre hNf j hj (hd2 j hw)) fun v W' hv hb=>?_
   exact h.grow ok hst hi (by omega) (by omega) hun2 hd2 v hb (fun _=>hv) (fun e=>by omega) (fun k hk e=>by omega) (fun k hk e=>by omega) (fun e=>by omega) (fun e=>by omega) (fun e=>by omega)
  by_cases c1:i=N
  ·obtain ⟨t,p,f,rfl⟩:=hat (by rw [c1];exact oC)
   rw [if_pos (hwant rfl)]
   refine hcall _ (by rw [c1] at ho;exact ho) a W _ h.agr h.bel (fun j hj hw=>h.pre (by rw [←c1];exact hun2) j hj (hd2 j (by rw [c1];exact hw))) fun v W' hv hb=>?_
   have:=h.grow ok hst hi (by omega) (by omega) hun2 hd2 v hb (fun e=>by omega) (fun e=>by omega) (fun k hk e=>by omega) (fun k hk e=>by omega) (fun _=>hv) (fun e=>by omega) (fun e=>by omega)
   rw [c1] at this ⊢;exact this
  by_cases c2:i=N+1
  ·obtain ⟨t,p,f,rfl⟩:=hat (by rw [c2];exact o1)
   rw [if_pos (hwant rfl)]
   have:=h.grow ok hst hi (by omega) (by omega) hun2 hd2 (a.eval (.tmp (S N))) (O _ _) (fun e=>by omega) (fun _=>rfl) (fun k hk e=>by omega) (fun k hk e=>by omega) (fun e=>by omega) (fun e=>by omega) (fun e=>by omega)
   rw [c2] at this ⊢;exact this
  by_cases c3:i < N+6
  ·obtain ⟨k,hk,rfl⟩:∃k,k < 4∧i=N+2+k:=⟨i - (N+2),by omega,by omega⟩
   obtain ⟨t,p,f,rfl⟩:=hat (oE k hk)
   rw [if_pos (hwant rfl)]
   have lm:=hd2 _ (ok.w2 k hk)
   have lN:=h.closed _ lm _ ok.w1
   obtain ⟨ba,bb,lo,hi',bx⟩:=h.box
   obtain ⟨⟨ad,n,cap,s',g',q',v2,v3,us,e,hf,ho'⟩,-⟩:=bx.R lN
   have em:=(h.mv lm).trans e
   have:=h.grow ok hst hi (by omega) (by omega) hun2 hd2 (Co k (a.eval (.tmp (S N)))) (O _ _) (fun e=>by omega) (fun e=>by omega) (fun k' hk' e=>by rw [show k'=k by omega]) (fun k hk e=>by omega) (fun e=>by omega) (fun e=>by omega) (fun e=>by omega)
   have hx:(execOp a.eval ⟨some (S (N+2+k)),.extract (.tmp (S (N+1))) k,t,p,f,none⟩).run P W=.ok (.value (Co k (a.eval (.tmp (S N))))) W:=by
    show (do let x ←Instr.extract (a.eval (.tmp (S (N+1)))) k;pure (Next.value x):Sem Next).run P W = _
    rw [em,e]
    match k,hk with
    | 0,_=>rfl
    | 1,_=>rfl
    | 2,_=>rfl
    | 3,_=>rfl
   unfold Oper.wp
   rw [hx];exact this
  by_cases c6:i=N+6
  ·obtain ⟨t,p,f,rfl⟩:=hat (by rw [c6];exact oA)
   rw [if_pos (hwant rfl)]
   refine hAl _ _ _ _ rfl ?_
   have:=h.grow ok hst hi (by omega) (by omega) hun2 hd2 (.pointer (some ⟨W.heap.size,0,none⟩)) (aE W (.cells #[.slice none 0 0] y0)) (fun e=>by omega) (fun e=>by omega) (fun k hk e=>by omega) (fun k hk e=>by omega) (fun e=>by omega) (fun _=>⟨rfl,BoxN.alloc W #[.slice none 0 0] y0⟩) (fun e=>by omega)
   rw [c6] at this ⊢;exact this
  by_cases c7:i=N+7
  ·obtain ⟨t,p,f,rfl⟩:=hat (by rw [c7];exact oB)
   rw [if_pos (hwant rfl)]
   refine hBl _ _ _ _ rfl ?_
   have:=h.grow ok hst hi (by omega) (by omega) hun2 hd2 (.pointer (some ⟨W.heap.size,0,none⟩)) (aE W (.cells #[.float .f32 0,.int .i64 0,.int .i64 0] y1)) (fun e=>by omega) (fun e=>by omega) (fun k hk e=>by omega) (fun k hk e=>by omega) (fun e=>by omega) (fun e=>by omega) (fun _=>⟨rfl,BoxN.alloc W #[.float .f32 0,.int .i64 0,.int .i64 0] y1⟩)
   rw [c7] at this ⊢;exact this
  by_cases c8:i=N+8
  ·subst c8
   obtain ⟨t,p,f,rfl⟩:=hat oSA
   rw [if_pos (hwant rfl)]
   obtain ⟨ba,ad,n,cap,e1,e2,hx,h'⟩:=h.storeA ok hd2
   rw [if_neg (by rw [hun2];exact Bool.false_ne_true)] at hx
   exact hSA _ _ _ _ _ _ _ _ _ _ _ rfl rfl e1 e2 hx h'
  by_cases c9:i=N+9
  ·subst c9
   obtain ⟨t,p,f,rfl⟩:=hat oSB
   rw [if_pos (hwant rfl)]
   obtain ⟨bb,s,g,q,e1,e2,hx,h'⟩:=h.storeB ok hd2
   rw [if_neg (by rw [hun2];exact Bool.false_ne_true)] at hx
   exact hSB _ _ _ _ _ _ _ _ _ _ _ _ _ rfl rfl e1 e2 hx h'
  ·obtain ⟨k,hk,rfl⟩:∃k,k < 2∧i=N+10+k:=⟨i - (N+10),by omega,by omega⟩
   obtain ⟨t,p,f,rfl⟩:=hat (oF k hk)
   rw [if_pos (hwant rfl)]
   have lm:=hd2 _ (ok.w10 k hk)
   have hex:=h.ex (2+k) (by omega) (by rwa [show N+2+(2+k)=N+4+k by omega])
   rw [show N+2+(2+k)=N+4+k by omega] at hex
   have:=h.grow ok hst hi (by omega) (by omega) hun2 hd2 (a.eval (.tmp (S (N+4+k)))) (O _ _) (fun e=>by omega) (fun e=>by omega) (fun k hk e=>by omega) (fun k' hk' e=>by rw [show k'=k by omega];exact hex) (fun e=>by omega) (fun e=>by omega) (fun e=>by omega)
   exact this
 ·refine hend a W (h.done fun i hi=>?_)
  have:=hall i (by simp;omega)
  have hs:=h.size
  rw [Array.getD_eq_getD_getElem?] at this ⊢
  rw [Array.getElem?_eq_getElem (by omega)] at this ⊢
  exact this
end
section
variable {Q:Exit→Act→World→Prop} {K:Act→World→Prop} {o:Oper} {a:Act} {W:World}
theorem qX (ho:o.op=.alloc 35) (h:K (a.put o.dst (.pointer (some ⟨W.heap.size,0,none⟩))) (W.alloc (.cells #[.slice none 0 0] 35))):o.wp Tryz.prog a W K Q:=by
 obtain ⟨d,x,t,p,f,g⟩:=o
 subst ho
 unfold Oper.wp execOp
 dsimp only
 go_simp
 exact h
theorem qY (ho:o.op=.alloc 50) (h:K (a.put o.dst (.pointer (some ⟨W.heap.size,0,none⟩))) (W.alloc (.cells #[.float .f32 0,.int .i64 0,.int .i64 0] 50))):o.wp Tryz.prog a W K Q:=by
 obtain ⟨d,x,t,p,f,g⟩:=o
 subst ho
 unfold Oper.wp execOp
 dsimp only
 go_simp
 exact h
theorem qZ {p v b n cap:Nat} {x:Value} {ad:Option Addr} (ho:o.op=.store 35 (.tmp p) (.tmp v)) (hd:o.dst=none) (e1:a.eval (.tmp p)=.pointer (some ⟨b,0,none⟩)) (e2:a.eval (.tmp v)=.agg #[.slice ad n cap]) (hb:BoxN W b [x])
  (h:K a (W.setCell ⟨b,0,none⟩ (.slice ad n cap))):o.wp Tryz.prog a W K Q:=by
 obtain ⟨d,x,t,p,f,g⟩:=o
 subst ho
 subst hd
 obtain ⟨hb1,hb2,hb3⟩:=hb.one1
 unfold Oper.wp execOp
 dsimp only
 rw [e1,e2]
 go_simp
 exact h
theorem rA {p v b s:Nat} {g q:Int} {x y z:Value} (ho:o.op=.store 50 (.tmp p) (.tmp v)) (hd:o.dst=none) (e1:a.eval (.tmp p)=.pointer (some ⟨b,0,none⟩)) (e2:a.eval (.tmp v)=.agg #[.float .f32 s,.int .i64 g,.int .i64 q]) (hb:BoxN W b [x,y,z])
  (h:K a (setCs W b 0 [.float .f32 s,.int .i64 g,.int .i64 q])):o.wp Tryz.prog a W K Q:=by
 obtain ⟨d,x,t,p,f,g⟩:=o
 subst ho
 subst hd
 obtain ⟨hb1,hb2,hb3,hb4,hb5⟩:=hb.three
 unfold Oper.wp execOp
 dsimp only
 rw [e1,e2]
 go_simp
 exact h
theorem Dm {p b:Nat} {x:Value} (ho:o.op=.load 35 (.tmp p)) (e1:a.eval (.tmp p)=.pointer (some ⟨b,0,none⟩)) (hb:BoxN W b [x]) (h:K (a.put o.dst (.agg #[x])) W):o.wp Tryz.prog a W K Q:=by
 obtain ⟨d,x,t,p,f,g⟩:=o
 subst ho
 obtain ⟨hb1,hb2,hb3⟩:=hb.one1
 unfold Oper.wp execOp
 dsimp only
 rw [e1]
 go_simp
 exact h
theorem wX {p b:Nat} {x:Value} (ho:o.op=.load 24 (.tmp p)) (e1:a.eval (.tmp p)=.pointer (some ⟨b,0,none⟩)) (hb:BoxN W b [x]) (h:K (a.put o.dst (.agg #[x])) W):o.wp Tryz.prog a W K Q:=by
 obtain ⟨d,x,t,p,f,g⟩:=o
 subst ho
 obtain ⟨hb1,hb2,hb3⟩:=hb.one1
 unfold Oper.wp execOp
 dsimp only
 rw [e1]
 go_simp
 exact h
theorem rC {p b:Nat} {x y z:Value} (ho:o.op=.load 49 (.tmp p)) (e1:a.eval (.tmp p)=.pointer (some ⟨b,0,none⟩)) (hb:BoxN W b [x,y,z]) (h:K (a.put o.dst (.agg #[x,y,z])) W):o.wp Tryz.prog a W K Q:=by
 obtain ⟨d,x,t,p,f,g⟩:=o
 subst ho
 obtain ⟨hb1,hb2,hb3,hb4,hb5⟩:=hb.three
 unfold Oper.wp execOp
 dsimp only
 rw [e1]
 go_simp
 exact h
theorem nN {p b:Nat} {x y z:Value} (ho:o.op=.load 27 (.tmp p)) (e1:a.eval (.tmp p)=.pointer (some ⟨b,0,none⟩)) (hb:BoxN W b [x,y,z]) (h:K (a.put o.dst (.agg #[x,y,z])) W):o.wp Tryz.prog a W K Q:=by
 obtain ⟨d,x,t,p,f,g⟩:=o
 subst ho
 obtain ⟨hb1,hb2,hb3,hb4,hb5⟩:=hb.three
 unfold Oper.wp execOp
 dsimp only
 rw [e1]
 go_simp
 exact h
theorem Aq {p b:Nat} {x y z:Value} (ho:o.op=.load 37 (.tmp p)) (e1:a.eval (.tmp p)=.pointer (some ⟨b,0,none⟩)) (hb:BoxN W b [x,y,z]) (h:K (a.put o.dst (.agg #[x,y,z])) W):o.wp Tryz.prog a W K Q:=by
 obtain ⟨d,x,t,p,f,g⟩:=o
 subst ho
 obtain ⟨hb1,hb2,hb3,hb4,hb5⟩:=hb.three
 unfold Oper.wp execOp
 dsimp only
 rw [e1]
 go_simp
 exact h
theorem nO {x:Operand} (ho:o.op=.move x) (h:K (a.put o.dst (a.eval x)) W):o.wp Tryz.prog a W K Q:=by
 obtain ⟨d,x,t,p,f,g⟩:=o
 subst ho
 exact h
theorem fX {f:FuncId} {fn:Func} {c:Code} {xs:Array Operand} {ts:Array TypeId} {R:Ending→World→Prop} (ho:o.op=.call ⟨.value (.func f),xs,ts⟩) (hf:Tryz.prog.funcs[f]? = some fn) (hname:(fn.name == "runtime.NumGoroutine")=false) (hb:fn.body=some c) (vs:Array Value) (hv:xs.map a.eval=vs)
  (hc:Calls Tryz.prog f vs W R) (h:∀e W',R e W'→∃v,e=.returned v∧K (a.put o.dst v) W'):o.wp Tryz.prog a W K Q:=by
 obtain ⟨d,x,t,p,fq,g⟩:=o
 subst ho
 have h1:fn.name ≠ "runtime.NumGoroutine":=by simpa using hname
 have e1:(callFunc f vs).run Tryz.prog W=.ok (.enter f vs) W:=by simp [callFunc,hf,h1,hb]
 have e2:(execOp a.eval ⟨d,.call ⟨.value (.func f),xs,ts⟩,t,p,fq,g⟩).run Tryz.prog W=.ok (.enter f vs) W:=by
  rw [←e1,←hv]
  simp [execOp,resolve,Act.eval,Deferred.ofValue,go_sem]
 unfold Oper.wp
 rw [e2,Oper.upon_enter]
 refine hc.mono fun e W' hr=>?_
 obtain ⟨v,rfl,hk⟩:=h e W' hr
 exact hk
end
def Fa (l:List Oper) (N:Nat) (Sl D:List Nat) (n:Nat):Bool :=
 ((List.range (N+12)).all fun i=>(List.range (N+12)).all fun j=>i == j || Sl.getD i 0 != Sl.getD j 0) &&
 ((List.range (N+12)).all fun i=>i == N+8 || i == N+9 || (decide (Sl.getD i 0 < n) && D.contains (Sl.getD i 0))) &&
 (cF .any l.toArray (N+1) N && ((List.range 4).all fun k=>cF .any l.toArray (N+2+k) (N+1))) &&
 ((cF .any l.toArray (N+8) (N+6) && cF .any l.toArray (N+8) (N+2)) && (cF .any l.toArray (N+9) (N+7) && cF .any l.toArray (N+9) (N+3))) &&
 ((List.range 2).all fun k=>cF .any l.toArray (N+10+k) (N+4+k)) &&
 ((List.range N).all fun i=>cF .any l.toArray N i || (List.range N).any fun j=>cF .any l.toArray N j && cF .any l.toArray j i)
theorem AZ {l:List Oper} {N:Nat} {Sl D:List Nat} {n:Nat} {a0:Act} (h:Fa l N Sl D n=true) (hn:n≤a0.tmps.size):BOk l N (fun i=>Sl.getD i 0) D a0:=by
 unfold Fa at h
 simp only [Bool.and_eq_true] at h
 obtain ⟨⟨⟨⟨⟨h1,h2⟩,h3,h4⟩,⟨h5,h6⟩,h7,h8⟩,h9⟩,h10⟩:=h
 refine ⟨fun i j hi hj e=>?_,fun i hi n8 n9=>?_,h3,fun k hk=>List.all_eq_true.1 h4 k (List.mem_range.2 hk),h5,h6,h7,h8,fun k hk=>List.all_eq_true.1 h9 k (List.mem_range.2 hk),fun i hi=>?_⟩
 ·have:=List.all_eq_true.1 (List.all_eq_true.1 h1 i (List.mem_range.2 hi)) j (List.mem_range.2 hj)
  simp only [Bool.or_eq_true,beq_iff_eq,bne_iff_ne,ne_eq] at this
  exact this.resolve_right (fun h=>h e)
 ·have:=List.all_eq_true.1 h2 i (List.mem_range.2 hi)
  simp only [Bool.or_eq_true,beq_iff_eq,Bool.and_eq_true,decide_eq_true_eq,List.contains_iff_mem] at this
  rcases this with (h | h) | h
  ·exact absurd h n8
  ·exact absurd h n9
  ·exact ⟨Nat.lt_of_lt_of_le h.1 hn,h.2⟩
 ·have:=List.all_eq_true.1 h10 i (List.mem_range.2 hi)
  simp only [Bool.or_eq_true] at this
  refine this.imp id fun h=>?_
  obtain ⟨j,_,hj⟩:=List.any_eq_true.1 h
  exact ⟨j,Bool.and_eq_true_iff.1 hj⟩
def IsV (x v:Value) (W:World):Prop:=v=x
def IsM (l:List LayD) (v:Value) (W:World):Prop:=∃(p:Option Addr) (q:Nat) (o:List LayD) (lo hi:Nat),v=.agg #[.slice p l.length q]∧o.map LayD.toLayP=l.map LayD.toLayP∧OwnR aX W lo hi p l.length q o
def IsT (r k:Int) (l:List Nat) (v:Value) (W:World):Prop:=∃(p:Option Addr) (q lo hi:Nat),v=.agg #[.int .i64 r,.int .i64 k,.slice p l.length q]∧RepF W lo hi p l.length q l
def DP (P:Value→World→Prop):Prop:=∀v W W',P v W→Below W.heap.size W W'→P v W'
theorem IsV.stab (x:Value):DP (IsV x):=fun _ _ _ h _=>h
theorem IsM.stab (l:List LayD):DP (IsM l):=fun _ _ _ ⟨p,q,o,lo,hi,e,m,r⟩ hb=>⟨p,q,o,lo,hi,e,m,r.below hb⟩
theorem IsT.stab (r k:Int) (l:List Nat):DP (IsT r k l):=fun _ _ _ ⟨p,q,lo,hi,e,t⟩ hb=>⟨p,q,lo,hi,e,t.below hb⟩
def Eb:List (Value→World→Prop)→Prop
 | []=>True
 | P :: t=>DP P∧Eb t
theorem yW {Ps:List (Value→World→Prop)} (h:Eb Ps):∀i v W W',(Ps.getD i fun _ _=>False) v W→Below W.heap.size W W'→(Ps.getD i fun _ _=>False) v W':=by
 induction Ps with
 | nil=>intro i v W W' h;exact h.elim
 | cons P t ih =>
  intro i
  cases i with
  | zero=>exact h.1
  | succ i=>exact ih h.2 i
theorem oX {us:List LayD} {L:List LayP} {X Y:TenP} {m s r:Nat} {g q k:Int} (hs:s < 4294967296) (h:us.map (fun l=>l.toLayP.can)=((uV L X Y m s g q r k).map SX.L).getD []):vQ us.length us:=by
 have hV:us.length≤6∧∀u∈us,u.ws.length≤64∧u.bs.length≤8:=by
  unfold uV at h
  split at h
  ·rename_i hc
   have hok:=(AX hs hc.1).steps (r:=r) k.toNat
   have h2:us.map (fun l=>l.toLayP.can)=(SX.steps X Y m r ⟨L,s,g,q,0⟩ k.toNat).L:=h
   have hR:=hok.hR
   unfold SX.R at hR
   rw [←h2] at hR
   exact iI (iJ hR)
  ·have:us=[]:=by simpa using h
   subst this
   exact ⟨by simp,fun u hu=>(nomatch hu)⟩
 obtain ⟨h1,h2⟩:=hV
 have ht:eD us≤75 * us.length:=by
  clear h h1
  induction us with
  | nil=>simp [eD]
  | cons a us ih =>
   rw [kP,List.length_cons]
   have h1:=h2 a (List.mem_cons_self ..)
   have h3:=ih (fun u hu=>h2 u (List.mem_cons_of_mem _ hu))
   unfold LayD.w;omega
 exact ⟨by omega,by omega,fun u hu=>by have:=h2 u hu;omega⟩
def vR (L:List LayP) (xr xc:Int) (xs:List Nat) (yr yc:Int) (ys:List Nat) (s:Nat) (g q:Int) (r:Nat) (k:Int):Option SX:=uV (L.map LayP.can) ⟨xr,xc,xs.map (cn .f32)⟩ ⟨yr,yc,ys.map (cn .f32)⟩ ys.length s g q (cn .f32 r) k
structure CutN (w0 wx:World) (Q:Option SX) (ba bb lo hi:Nat) (ad:Option Addr) (n cap s':Nat) (g' q':Int) (k:Int) (b:Bool) (us:List LayD):Prop where
 below:Below w0.heap.size w0 wx
 boxA:BoxN wx ba [.slice ad n cap]
 boxB:BoxN wx bb [.float .f32 s',.int .i64 g',.int .i64 q']
 loL:w0.heap.size≤lo
 hiL:hi≤wx.heap.size
 apA:ba < lo∨hi≤ba
 apB:bb < lo∨hi≤bb
 geA:w0.heap.size≤ba∧ba < wx.heap.size
 geB:w0.heap.size≤bb∧bb < wx.heap.size
 res:(((b=Q.isSome∧k=(Q.map fun x=>(x.n:Int)).getD 0)∧(s',g',q')=(Q.map fun x=>(x.s,x.g,x.q)).getD (0,0,0))∧us.map (fun l=>l.toLayP.can)=(Q.map SX.L).getD [])∧OwnR aX wx lo hi ad n cap us
def DQ (Q:Option SX) (s':Nat) (g' q':Int) (v2 v3:Value) (us:List LayD):Prop :=
 ∃(k:Int) (b:Bool),v2=.int .i64 k∧v3=.bool b∧((b=Q.isSome∧k=(Q.map fun x=>(x.n:Int)).getD 0)∧(s',g',q')=(Q.map fun x=>(x.s,x.g,x.q)).getD (0,0,0))∧us.map (fun l=>l.toLayP.can)=(Q.map SX.L).getD []
theorem BEnd.cutN {N:Nat} {S:Nat→Nat} {D:List Nat} {a0 a:Act} {w0 W:World} {Q:Option SX} (h:BEnd N S D a0 w0 (DQ Q) a W) :
  Agr D a0 a∧∃(ba bb lo hi:Nat) (ad:Option Addr) (n cap s':Nat) (g' q':Int) (k:Int) (b:Bool) (us:List LayD),(a.eval (.tmp (S (N+6)))=.pointer (some ⟨ba,0,none⟩)∧a.eval (.tmp (S (N+7)))=.pointer (some ⟨bb,0,none⟩)∧a.eval (.tmp (S (N+10)))=.int .i64 k∧a.eval (.tmp (S (N+11)))=.bool b)∧Hid (CutN w0 W Q ba bb lo hi ad n cap s' g' q' k b us):=by
 obtain ⟨ha,ba,bb,lo,hi,ad,n,cap,s',g',q',v2,v3,us,⟨e1,e2,e3,e4⟩,⟨f,b,rfl,rfl,hf⟩,hb,x1,x2,⟨h1,h2⟩,p1,p2,p3,p4,ho⟩:=h
 exact ⟨ha,ba,bb,lo,hi,ad,n,cap,s',g',q',f,b,us,⟨e1,e2,e3,e4⟩,I ⟨hb,x1,x2,h1,h2,p1,p2,p3,p4,hf,ho⟩⟩
theorem rD (w:World) (ma:Option Addr) (mk:Nat) (ls:List LayD) {lo hi n:Nat} (h:OwnR aX w lo hi ma n mk ls) (hi2:∀l∈ls,l.ws.length≤1048576∧l.bs.length≤1048576)
  (s:Nat) (g q:Int) (hs:s < 4294967296) (wg:(Lit.int .i64 g).wf=true) (wq:(Lit.int .i64 q).wf=true)
  (xr xc:Int) (xa:Option Addr) (xk:Nat) (xs:List Nat) {lo2 hi3 n2:Nat} (hx:RepF w lo2 hi3 xa n2 xk xs) (hn:xs.length≤1048576) (wr:(Lit.int .i64 xr).wf=true) (wc:(Lit.int .i64 xc).wf=true)
  (yr yc:Int) (ya:Option Addr) (yk:Nat) (ys:List Nat) {lo4 hi5 n4:Nat} (hy:RepF w lo4 hi5 ya n4 yk ys) (hn2:ys.length≤1048576) (wr2:(Lit.int .i64 yr).wf=true) (wc2:(Lit.int .i64 yc).wf=true) (r:Nat) (hr:r < 4294967296) (k:Int) (hk:(Lit.int .i64 k).wf=true) :
  Calls Tryz.prog 25 #[.agg #[.slice ma ls.length mk],.agg #[.float .f32 s,.int .i64 g,.int .i64 q],.agg #[.int .i64 xr,.int .i64 xc,.slice xa xs.length xk],.agg #[.int .i64 yr,.int .i64 yc,.slice ya ys.length yk],.float .f32 r,.int .i64 k] w (RPost (vR (ls.map LayD.toLayP) xr xc xs yr yc ys s g q r k) w):=by
 unfold vR
 rw [show (ls.map LayD.toLayP).map LayP.can=ls.map fun l=>l.toLayP.can by rw [List.map_map];rfl]
 exact sM w ma mk ls s g q xr xc yr yc xa ya xk yk xs ys r k h.see h.nilL hs hx.arg hy.arg
theorem kY (w:World) (ma:Option Addr) (mk:Nat) (ls:List LayD) {lo hi n:Nat} (h:OwnR aX w lo hi ma n mk ls) (hi2:∀l∈ls,l.ws.length≤1048576∧l.bs.length≤1048576)
  (s:Nat) (g q:Int) (hs:s < 4294967296) (wg:(Lit.int .i64 g).wf=true) (wq:(Lit.int .i64 q).wf=true)
  (xr xc:Int) (xa:Option Addr) (xk:Nat) (xs:List Nat) {lo2 hi3 n2:Nat} (hx:RepF w lo2 hi3 xa n2 xk xs) (hn:xs.length≤1048576) (wr:(Lit.int .i64 xr).wf=true) (wc:(Lit.int .i64 xc).wf=true)
  (yr yc:Int) (ya:Option Addr) (yk:Nat) (ys:List Nat) {lo4 hi5 n4:Nat} (hy:RepF w lo4 hi5 ya n4 yk ys) (hn2:ys.length≤1048576) (wr2:(Lit.int .i64 yr).wf=true) (wc2:(Lit.int .i64 yc).wf=true) (r:Nat) (hr:r < 4294967296) (k:Int) (hk:(Lit.int .i64 k).wf=true) :
  Calls Tryz.prog 26 #[.agg #[.slice ma ls.length mk],.agg #[.float .f32 s,.int .i64 g,.int .i64 q],.agg #[.int .i64 xr,.int .i64 xc,.slice xa xs.length xk],.agg #[.int .i64 yr,.int .i64 yc,.slice ya ys.length yk],.float .f32 r,.int .i64 k] w (RPost (vR (ls.map LayD.toLayP) xr xc xs yr yc ys s g q r k) w):=by
 unfold vR
 rw [show (ls.map LayD.toLayP).map LayP.can=ls.map fun l=>l.toLayP.can by rw [List.map_map];rfl]
 exact sL w ma mk ls s g q xr xc yr yc xa ya xk yk xs ys r k h.see h.nilL hs hx.arg hy.arg
end Go.Proofs.YtpadlmidojpbeaaGreat
