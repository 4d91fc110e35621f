/- Joined texts 13. No condition. -/
import Derived.Test.YtpadlmidojpbeaaGreatMc0
import Derived.Test.YtpadlmidojpbeaaGreatMc11
import Derived.Test.YtpadlmidojpbeaaGreatMc12
set_option linter.unusedVariables false
set_option linter.unusedSimpArgs false
set_option maxRecDepth 100000
set_option maxHeartbeats 64000000
namespace Go.Proofs.YtpadlmidojpbeaaGreat
open Go Go.RowKit
theorem pW (w:World) (ad av:Option Addr) (cap cv:Nat) (os:List OpD) (vs:List Ten) (ho:SeeR lI w ad cap os) (hv:SeeR bV w av cv vs) (S:List Sh) (hS:cH (os.map OpD.toOpP)=some S) (hV:vs.map (fun t=>t.toTenP.can)=bJ (os.map OpD.toOpP)) :
  Calls Tryz.prog 86 #[.slice ad os.length cap,.slice av os.length cv] w fun e w' => ∃ad' cap' us,e=.returned (.slice ad' os.length cap')∧Hid (OwnR bV w' w.heap.size w'.heap.size ad' os.length cap' us∧us.map (fun t=>t.toTenP.can)=cW (os.map OpD.toOpP))∧Below w.heap.size w w':=by
 obtain ⟨i0,hi0,hz0,hzs,hz2⟩:=info_parts pF
 obtain ⟨j0,hj0,hy0,hy1,hy2⟩:=info_parts wB
 have hp:=cE hS
 have HOK:=I (fun m hm=>OkG.at hS m hm)
 obtain ⟨hVl,hVok⟩:=jS hS
 rw [List.length_map] at hp hVl HOK
 have HRD:=I (fun (i:Nat) (o:OpP) (h:(os.map OpD.toOpP)[i]? = some o)=>(And.intro (kN hS h) (oO hS h):fJ i o=true∧(o.k≠0→∃s,aQ o.k (aH (bJ (os.map OpD.toOpP)) o.a).sh (aH (bJ (os.map OpD.toOpP)) o.b).sh=some s∧(aH (bJ (os.map OpD.toOpP)) (i:Int)).sh=s)))
 have HPL:Hid ((os.map OpD.toOpP).length=os.length):=I (List.length_map _)
 have HPO:Hid (∀(i:Nat) (o:OpD),os[i]? = some o→(os.map OpD.toOpP)[i]? = some o.toOpP):=I (fun i o h=>by rw [List.getElem?_map,h];rfl)
 have HGP:Hid (cW (os.map OpD.toOpP)=cV (os.map OpD.toOpP) (bJ (os.map OpD.toOpP)) os.length):=I (by unfold cW;rw [List.length_map])
 obtain ⟨V,hVV⟩:∃V,V=bJ (os.map OpD.toOpP):=⟨_,rfl⟩
 rw [←hVV] at hV hVl hVok HOK HRD HGP
 obtain ⟨p,hpp⟩:∃p,p=os.map OpD.toOpP:=⟨_,rfl⟩
 rw [←hpp] at HOK HRD HPL HPO HGP ⊢
 obtain ⟨n,hN⟩:∃n,n=os.length:=⟨_,rfl⟩
 rw [←hN] at hp hVl HOK HPL HGP ⊢
 have hn1:=hp.1.1;have hn2:=hp.1.2
 have HN:=I hN;have H:=I ho;have HV:=I hv
 have HVS:=I (fun W (hb:Below w.heap.size w W) (i:Nat) (hi:i < n)=>Aj (hv.below hb) hV hVok (show i < V.length by omega))
 obtain ⟨vb,voff,rfl,HVB⟩:∃vb voff,av=some ⟨vb,voff,none⟩∧Hid (vb < w.heap.size):=by
  obtain ⟨d,_,_,_,b',off',e,hb',_⟩:=HVS.out w (O _ _) 0 (by omega)
  exact ⟨b',off',e,I hb'⟩
 replace HVS:Hid (∀W,Below w.heap.size w W→∀i,i < n→∃d:Dsc,vs[i]? = some d.ten∧d.can=aH V (i:Int)∧d.At W∧(W.cell? ⟨vb,voff+i * 3,none⟩=some (.int .i64 d.r)∧W.cell? ⟨vb,voff+i * 3+1,none⟩=some (.int .i64 d.c)∧W.cell? ⟨vb,voff+i * 3+2,none⟩=some (.slice d.a d.xs.length d.k))):=I (fun W hb i hi=>by
  obtain ⟨d,h1,h2,h3,b',off',e,_,h4⟩:=HVS.out W hb i hi
  cases e
  exact ⟨d,h1,h2,h3,h4⟩)
 have HVL:=I hVl
 have HVOK:=I hVok
 clear hN ho hv hS hp hVV hpp hV hVl hVok
 have hni:(n:Int) - 1=((n - 1:Nat):Int):=by omega
 obtain ⟨l,hl⟩:∃l,l=n - 1:=⟨_,rfl⟩
 have hln:l < n:=by omega
 have HLN:=I hl
 rw [←hl] at hni
 clear hl
 go_enter Tryz.func86,Tryz.ntmps86
 go_upto_region 3 with fail
 try rw [hni]
 clear hni
 have hr1:=OwnR.nil1 bV w
 have hb1:=aE w (.cells #[] 37)
 have HR:=I hr1;have HB1:=I hb1
 have HZ1:=I (show (w.alloc (.cells #[] 37)).heap.size=w.heap.size+1 by simp)
 clear hr1 hb1
 obtain ⟨w1,hw1⟩:∃W,W=w.alloc (.cells #[] 37):=⟨_,rfl⟩
 have HR1:Hid (OwnR bV w1 w.heap.size w1.heap.size (some ⟨w.heap.size,0,none⟩) 0 0 []):=I (by rw [hw1];exact HR.out)
 rw [←hw1] at HB1 HZ1 ⊢
 clear hw1 HR
 go_wp2_with (at_make;refine wpList_make_full _ rfl _ _ 130 rfl w1.heap.size 4 j0 (.bool false) 1 Tryz.underlying130 hj0 hy0 hy1 .i64 .i64 _ _ n rfl rfl rfl rfl ?d1 ?d2 ?d3 ?_)
 case d1=>first | omega | (rw [hy2];omega)
 case d2=>first | (unfold maxLen;omega) | omega | (rw [hy2];omega)
 case' d3=>skip
 all_goals try exact J _
 intro w3 hown hg
 have hb3:Below w1.heap.size w1 w3:=(O _ _).grown hg (J _) (fun k e=>by cases e)
 have hu0:Own w3 w1.heap.size w3.heap.size [dU w1.heap.size n (List.replicate n false)]:=by
  refine Own.one (Row.mk' ?_)
  rw [toList_madeCells_one] at hown
  show w3.ownsRow w1.heap.size 4 1 (.slice (some ⟨w1.heap.size,0,none⟩) n n) n ((List.replicate n false).map Value.bool)
  rw [List.map_replicate];exact hown
 have hx3:OwnX bV w3 w.heap.size w3.heap.size (some ⟨w.heap.size,0,none⟩) 0 0 [] [dU w1.heap.size n (List.replicate n false)] :=
  OwnX.beside (HR1.out.below hb3) hu0 HB1.out.size hb3.size
 have HX3:=I hx3
 have B3:=I (aA HB1.out hb3)
 have HLH:=I hx3.u.1
 have HHW:Hid (w.heap.size < w1.heap.size):=I (by have:=HZ1.out;omega)
 clear hown hg hb3 hu0 hx3 HR1 HB1 HZ1
 generalize w1.heap.size=hh at HX3 HLH HHW ⊢
 go_wp2
 go_loopw [6,8] (fun v i wt => ∃k:Nat,i=.int .i64 k∧k≤n∧∃(ad':Option Addr) (cap':Nat) (us:List Ten),v=.slice ad' k cap'∧Hid (OwnX bV wt w.heap.size wt.heap.size ad' k cap' us [dU hh n (List.replicate n false)])∧Hid (us.map (fun t=>t.toTenP.can)=(V.map fun v=>cO v 0).take k)∧Hid (Below w.heap.size w wt)) (fun _ i _=>n - (intOf i).toNat)
 case atStart=>exact ⟨0,rfl,Nat.zero_le _,_,_,[],rfl,HX3,I rfl,B3⟩
 case round =>
  clear HX3 B3 HLH
  obtain ⟨k,rfl,hk,ad',cap',us,rfl,HX,HE,HB⟩:=hrel
  by_cases hlt:k < n
  ·obtain ⟨⟨dr,dc,da,dk,dx⟩,hd1,hd2,hd3,c0,c1,c2⟩:=HVS.out wr HB.out k hlt
   simp only at c0 c1 c2
   have HD:=I (And.intro hd2 hd3)
   have KS:Hid (∀W,Below w.heap.size wr W→W.cell? ⟨vb,voff+k * 3,none⟩=some (.int .i64 dr)∧W.cell? ⟨vb,voff+k * 3+1,none⟩=some (.int .i64 dc)):=I (fun W hb=>⟨(hb.cell (p:=⟨vb,voff+k * 3,none⟩) HVB.out).trans c0,(hb.cell (p:=⟨vb,voff+k * 3+1,none⟩) HVB.out).trans c1⟩)
   have S0:=I (KS.out wr (O _ _))
   clear hd1 hd2 hd3 c0 c1 c2
   go_upto_region 7 with fail
   refine aL 14 [11,12,13] (fun W=>W.cell? ⟨vb,voff+k * 3,none⟩=some (.int .i64 dr)∧W.cell? ⟨vb,voff+k * 3+1,none⟩=some (.int .i64 dc)) (fun _ _ _=>False) (fun f args w1 v w2=>RTen (cO (aH V (k:Int)) 0) w1 v w2) (by kernel_rfl) (by kernel_rfl) S0.out (fun W q h=>by simpa using h) ?_
   iterate 11 (refine aD (by rfl) S0.out (fun K hK W hW=>?_);obtain ⟨e0,e1⟩:=hW;go_simp;refine hK _ ?_;clear hK K e0 e1)
   refine aF (by rfl) S0.out (fun K hK q0=>?_)
   go_simp
   have D0:=I (below_drewN (O wr.heap.size wr) q0)
   refine ⟨(fC _ dr dc 0 (by decide) HD.out.2.r2 HD.out.2.c2).mono (fun e w5 h=>RTen.of (T:=cO (aH V (k:Int)) 0) h (by
    rw [←HD.out.1]
    have h2:=HD.out.2.len
    unfold cO Dsc.can
    simp only at h2 ⊢
    rw [List.length_map,h2,bT])),?_⟩
   rintro v w5 hd
   obtain ⟨⟨tr,tc,ta,tk,tx⟩,rfl,he,hr,hb⟩:=hd
   have C5:=I (aA D0.out hb)
   have S5:=I (KS.out w5 (C5.out.mono HB.out.size))
   refine ⟨S5.out,hK _ _ ?_⟩
   have E5:=I he;have R5:=I (hr.bounds (show wr.heap.size≤_ from D0.out.size) (J _))
   clear hK K he hr hb
   refine aF (by rfl) S5.out (fun K hK q1=>?_)
   have C6:=I (aA C5.out (below_drewN (O _ _) q1))
   have C7:=I (aA C6.out (aE (w5.drewN q1) (.cells #[.int .i64 tr,.int .i64 tc,.slice ta tx.length tk] 37)))
   have S7:=I (KS.out _ (C7.out.mono HB.out.size))
   try unfold Dsc.val
   try simp only
   go_simp
   refine ⟨S7.out,hK _ _ ?_⟩
   clear hK K
   refine aF (by rfl) S7.out (fun K hK q2=>?_)
   have HO8:=I (((HX.out.below C7.out).bounds (J _) C7.out.size).below (below_drewN (O _ _) q2))
   refine bP rfl _ _ 109 rfl w.heap.size 37 i0 _ 3 40 Tryz.underlying109 hi0 hz0 hzs hz2 rfl (by decide) (.slice ad' k cap') k (us.flatMap bV.cells) rfl HO8.out.own.head.own ⟨w5.heap.size,0,none⟩ 1 1 [.int .i64 tr,.int .i64 tc,.slice ta tx.length tk] rfl rfl (World.news_of_block (cs:=#[.int .i64 tr,.int .i64 tc,.slice ta tx.length tk]) (t:=37) (fr:=(0,0)) (heap_alloc_new (w5.drewN q1) _)) (by intro u hu;simp at hu;rcases hu with rfl | rfl | rfl <;> rfl) (by unfold maxLen;omega) (by omega) (Nat.le_trans HB.out.size C7.out.size) ?_
   intro v' w9 ho9 hg9 hat9 hb9
   obtain ⟨ad9,cap9,rfl,hx9⟩:=OwnX.snoc (a:=Dsc.ten ⟨tr,tc,ta,tk,tx⟩) (w1:=(w5.drewN q1).drewN q2) HX.out HB.out.size (aA C6.out (below_drewN (O _ _) q2)) R5.out.okF ((R5.out.ownRow.below (below_drewN (below_drewN (O _ _) q1) q2)).bounds (J _) (show w5.heap.size≤((w5.drewN q1).drewN q2).heap.size by simp)) (J _) (by have:=C6.out.size;simpa using this) ho9 hg9 (by simpa using hat9)
   have B9:=I (HB.out.trans (((C7.out.mono HB.out.size).trans (below_drewN (O _ _) q2)).trans hb9))
   have S9:=I (KS.out w9 (((C7.out.mono HB.out.size).trans (below_drewN (O _ _) q2)).trans hb9))
   have HE9:Hid ((us ++ [Dsc.ten ⟨tr,tc,ta,tk,tx⟩]).map (fun t=>t.toTenP.can)=(V.map fun v=>cO v 0).take (k+1)):=I (by
    have hkl:k < (V.map fun v=>cO v 0).length:=by simp;rw [HVL.out];exact hlt
    rw [List.map_append,HE.out,List.take_add_one,List.getElem?_eq_getElem hkl,List.getElem_map]
    congr 1
    show [Dsc.can ⟨tr,tc,ta,tk,tx⟩]=[_]
    rw [E5.out,fF (by rw [HVL.out];exact hlt)])
   have HX9:=I hx9
   refine ⟨S9.out,hK _ _ ?_⟩
   clear hK K ho9 hg9 hat9 hb9 hx9 HO8 S7 C7 C6 C5 D0 S5 S0 KS HD E5 R5 HE HX HB S9
   refine aP (fun q9=>?_)
   have dB:=below_drewN (O w9.heap.size w9) q9
   have HXN:=I ((HX9.out.below dB).bounds (J _) dB.size)
   have HBN:=I (below_drewN B9.out q9)
   clear dB HX9 B9
   generalize w9.drewN q9=w10 at HXN HBN ⊢
   go_wp2
   go_roundw
   case rel=>exact ⟨k+1,by go_num,hlt,_,_,_,rfl,HXN,HE9,HBN⟩
   case measure=>simp [intOf];omega
  ·have hkn:n=k:=by omega
   subst hkn
   obtain ⟨t0,ht0⟩:=getElem?_lt (show 0 < us.length by rw [HX.out.len];omega)
   obtain ⟨g,rfl,⟨hgl1,hgl2,hgl3⟩,-,hgf,-⟩:=pS HX.out.r ht0
   have hgh:g≠hh:=by
    intro e
    have h1:=HX.out.own.sep
    rw [List.map_cons,List.pairwise_cons] at h1
    exact h1.1 _ (List.mem_map_of_mem (List.mem_append_right _ (List.mem_singleton.2 rfl))) g rfl (by rw [e];rfl)
   have HGL:Hid ((w.heap.size≤g∧w.heap.size≤hh)∧g≠hh):=I ⟨⟨hgl1,by have:=HHW.out;omega⟩,hgh⟩
   have HGW:=I hgl3
   clear ht0 hgl1 hgl2 hgf hgh hgl3
   have HREL0:Hid (RelG us (V.map fun v=>cO v 0) n (fun _=>True)):=I (by
    intro q hq _
    obtain ⟨t,ht⟩:=getElem?_lt (show q < us.length by rw [HX.out.len];exact hq)
    refine ⟨t,ht,?_⟩
    have h1:(us.map (fun t=>t.toTenP.can))[q]? = some t.toTenP.can:=by rw [List.getElem?_map,ht];rfl
    rw [HE.out,List.take_of_length_le (by simp;rw [HVL.out];exact J _)] at h1
    unfold aH
    rw [show ((q:Nat):Int).toNat=q by simp,List.getD_eq_getElem?_getD,h1];rfl)
   obtain ⟨⟨dr,dc,da,dk,dx⟩,hd1,hd2,hd3,c0,c1,c2⟩:=HVS.out wr HB.out l hln
   simp only at c0 c1 c2
   have HD:=I (And.intro hd2 hd3)
   have KS:Hid (∀W,Below w.heap.size wr W→W.cell? ⟨vb,voff+l * 3,none⟩=some (.int .i64 dr)∧W.cell? ⟨vb,voff+l * 3+1,none⟩=some (.int .i64 dc)):=I (fun W hb=>⟨(hb.cell (p:=⟨vb,voff+l * 3,none⟩) HVB.out).trans c0,(hb.cell (p:=⟨vb,voff+l * 3+1,none⟩) HVB.out).trans c1⟩)
   have S0:=I (KS.out wr (O _ _))
   obtain ⟨old,hold⟩:=getElem?_lt (show l < us.length by rw [HX.out.len];exact hln)
   obtain ⟨-,⟨g0,g1,g2⟩,gf,-⟩:=gK HX.out hold
   have HCG:=I (And.intro g0 (And.intro g1 (And.intro g2 gf)))
   have okl:okT (cO (aH V (l:Int)) 1065353216)∧(cO (aH V (l:Int)) 1065353216).sh=(aH V (l:Int)).sh:=lU (pR HVOK.out (by omega) (by rw [HVL.out];omega)) _
   clear hd1 hd2 hd3 c0 c1 c2 g0 g1 g2 gf hold HE okl
   go_upto_region 8 with fail
   refine aL 14 [12] (fun W=>W.cell? ⟨vb,voff+l * 3,none⟩=some (.int .i64 dr)∧W.cell? ⟨vb,voff+l * 3+1,none⟩=some (.int .i64 dc)) (fun _ _ _=>False) (fun f args w1 v w2=>RTen (cO (aH V (l:Int)) 1065353216) w1 v w2) (by kernel_rfl) (by kernel_rfl) S0.out (fun W q h=>by simpa using h) ?_
   iterate 12 (refine aD (by rfl) S0.out (fun K hK W hW=>?_);obtain ⟨e0,e1⟩:=hW;go_simp;refine hK _ ?_;clear hK K e0 e1)
   refine aF (by rfl) S0.out (fun K hK q0=>?_)
   go_simp
   have D0:=I (below_drewN (O wr.heap.size wr) q0)
   refine ⟨(fC _ dr dc 1065353216 (by decide) HD.out.2.r2 HD.out.2.c2).mono (fun e w5 h=>RTen.of (T:=cO (aH V (l:Int)) 1065353216) h (by
    rw [←HD.out.1]
    have h2:=HD.out.2.len
    unfold cO Dsc.can
    simp only at h2 ⊢
    rw [List.length_map,h2,show cn .f32 1065353216=1065353216 by decide +kernel])),?_⟩
   rintro v w5 hd
   obtain ⟨⟨tr,tc,ta,tk,tx⟩,rfl,he,hr,hb⟩:=hd
   have C5:=I (aA D0.out hb)
   have S5:=I (KS.out w5 (C5.out.mono HB.out.size))
   refine ⟨S5.out,hK _ _ ?_⟩
   have E5:=I he;have R5:=I (hr.bounds (show wr.heap.size≤_ from D0.out.size) (J _))
   clear hK K he hr hb
   refine aD (by rfl) S5.out (fun K hK W hW=>?_)
   obtain ⟨e0,e1⟩:=hW
   go_simp
   refine hK _ ?_
   clear hK K e0 e1
   refine aP (fun q9=>?_)
   have B5:=I (aA C5.out (below_drewN (O _ _) q9))
   have R6:Hid (RepF (w5.drewN q9) wr.heap.size (w5.drewN q9).heap.size ta tx.length tk tx):=I ((R5.out.below (below_drewN (O _ _) q9)).bounds (J _) (by simp))
   generalize w5.drewN q9=w6 at B5 R6 ⊢
   have hgl:=HGW.out
   have c50:=(B5.out.cell (p:=⟨g,l * 3,none⟩) hgl).trans HCG.out.1
   have c51:=(B5.out.cell (p:=⟨g,l * 3+1,none⟩) hgl).trans HCG.out.2.1
   have c52:=(B5.out.cell (p:=⟨g,l * 3+2,none⟩) hgl).trans HCG.out.2.2.1
   have f50:=(B5.out.frozen (p:=⟨g,l * 3,none⟩) hgl).trans (HCG.out.2.2.2 _)
   have f51:=(B5.out.frozen (p:=⟨g,l * 3+1,none⟩) hgl).trans (HCG.out.2.2.2 _)
   have f52:=(B5.out.frozen (p:=⟨g,l * 3+2,none⟩) hgl).trans (HCG.out.2.2.2 _)
   have X6:Hid (OwnX bV (setCs w6 g (l * 3) [.int .i64 tr,.int .i64 tc,.slice ta tx.length tk]) w.heap.size (setCs w6 g (l * 3) [.int .i64 tr,.int .i64 tc,.slice ta tx.length tk]).heap.size (some ⟨g,0,none⟩) n cap' (us.set l (Dsc.ten ⟨tr,tc,ta,tk,tx⟩)) [dU hh n (List.replicate n false)]):=I (kK HX.out HB.out.size B5.out hln (t:=⟨tr,tc,ta,tk,tx⟩) R6.out)
   have B6:=I (((Keep2.of_below (g:=g) (h:=hh) B5.out).trans (Keep2.of_touch1 (aB w6 g (l * 3) [.int .i64 tr,.int .i64 tc,.slice ta tx.length tk]))).below HB.out HB.out.size HGL.out.1.1 HGL.out.1.2)
   have Z6:Hid (g < (setCs w6 g (l * 3) [.int .i64 tr,.int .i64 tc,.slice ta tx.length tk]).heap.size):=I (by rw [aU];have:=B5.out.size;omega)
   clear HX HB HGW HCG B5 R6 R5 S5 C5 D0 S0 KS HD
   try unfold Dsc.val
   try simp only
   go_upto_region 9 with fail
   clear c50 c51 c52 f50 f51 f52 hgl
   change Code.wp _ _ _ _ (setCs w6 g (l * 3) [.int .i64 tr,.int .i64 tc,.slice ta tx.length tk])
   generalize setCs w6 g (l * 3) [.int .i64 tr,.int .i64 tc,.slice ta tx.length tk]=w7 at X6 B6 Z6 ⊢
   have hu:=X6.out.u
   have uc:=hu.2.2.1 l (by simp [hln])
   have uf:=hu.2.2.2 l
   have X7:=I (X6.out.setU l)
   have B7:=I (B6.out.setCell (p:=⟨hh,l,none⟩) HGL.out.1.2 (.bool true))
   have Z7:Hid (g < (w7.setCell ⟨hh,l,none⟩ (.bool true)).heap.size∧hh < (w7.setCell ⟨hh,l,none⟩ (.bool true)).heap.size):=I ⟨by simpa [World.setCell] using Z6.out,by simpa [World.setCell] using hu.1⟩
   have X8:Hid (OwnX bV (w7.setCell ⟨hh,l,none⟩ (.bool true)) w.heap.size (w7.setCell ⟨hh,l,none⟩ (.bool true)).heap.size (some ⟨g,0,none⟩) n cap' (us.set l (Dsc.ten ⟨tr,tc,ta,tk,tx⟩)) [dU hh n ((List.replicate n false).set l true)]):=I (X7.out.bounds (J _) (by simp [World.setCell]))
   clear X7 X6 B6 Z6 hu
   go_upto_region 10 with fail
   clear uc uf
   generalize w7.setCell ⟨hh,l,none⟩ (.bool true)=w8 at X8 B7 Z7 ⊢
   have HREL:Hid (RelG (us.set l (Dsc.ten ⟨tr,tc,ta,tk,tx⟩)) (cV p V 0) n (fun _=>True)):=I (by
    have h1:=HREL0.out.set (i:=l) (by have:=X8.out.len;rw [List.length_set] at this;omega) (by simp;rw [HVL.out];exact hln) (t:=Dsc.ten ⟨tr,tc,ta,tk,tx⟩) E5.out
    have e1:cV p V 0=(V.map fun v=>cO v 0).set l (cO (aH V (l:Int)) 1065353216):=by unfold cV;rw [HPL.out,←HLN.out]
    rw [e1]
    exact h1.mono (fun q hq hp=>.inr trivial))
   have HU0:Hid ((List.replicate n false).set l true=cP p 0):=I (by unfold cP;rw [HPL.out,←HLN.out])
   rw [HU0.out] at X8
   generalize us.set l (Dsc.ten ⟨tr,tc,ta,tk,tx⟩)=us0 at X8 HREL
   clear HREL0 E5 HU0
   go_wp2
   go_loopw [9] (fun i wt => ∃j:Nat,i=.int .i64 ((j:Int) - 1)∧j≤n∧∃us:List Ten,Hid (OwnX bV wt w.heap.size wt.heap.size (some ⟨g,0,none⟩) n cap' us [dU hh n (cP p (n - j))])∧Hid (RelG us (cV p V (n - j)) n (fun _=>True))∧Hid (Below w.heap.size w wt)∧Hid (g < wt.heap.size∧hh < wt.heap.size)) (fun i _=>(intOf i+1).toNat)
   case atStart =>
    refine ⟨n,by rw [HLN.out];congr 1;omega,J _,us0,?_,?_,B7,Z7⟩
    ·rw [Nat.sub_self];exact X8
    ·rw [Nat.sub_self];exact HREL
   case round =>
    clear X8 B7 Z7 HREL HLN hln us0
    obtain ⟨j,rfl,hj,us,HX,HREL,HB,HZ⟩:=hrel
    rcases j with _ | i
    ·have HA:Hid (us.map (fun t=>t.toTenP.can)=cW p):=I (by
      rw [HGP.out]
      have h:=HREL.out
      rw [Nat.sub_zero] at h
      exact h.all HX.out.len (by rw [iZ p V (by rw [HVL.out,HPL.out]),HPL.out]) (fun q hq=>trivial))
     have HXR:=I HX.out.r
     clear HX HREL
     go_wp2
     go_ret
     exact ⟨_,_,us,rfl,I ⟨HXR.out,HA.out⟩,HB.out⟩
    ·have hi:i < n:=by omega
     rw [show ((i+1:Nat):Int) - 1=(i:Int) by omega]
     obtain ⟨o,ho⟩:=getElem?_lt (show i < os.length by rw [←HN.out];exact hi)
     obtain ⟨ob,ooff,rfl,hobl,⟨p0,p1,p2,p3,p4,p5,p6⟩,hf,hok⟩:=sO (H.out.below HB.out) ho
     have hop:=HPO.out i o ho
     obtain ⟨hfit,hshp⟩:=HRD.out i o.toOpP hop
     have hunext:=rS (os:=p) (n:=n) HPL.out.symm hi hop
     have hgnext:=uB (os:=p) (V:=V) (n:=n) HPL.out.symm hi hop
     have hokg:=HOK.out (n - (i+1)) (by omega)
     have hul:(cP p (n - (i+1))).length=n:=by rw [lL,HPL.out]
     have hgl:(cV p V (n - (i+1))).length=n:=by rw [iZ p V (by rw [HVL.out,HPL.out]),HPL.out]
     obtain ⟨⟨kk,a,b',q,r,c,xs⟩,adx,capx⟩:=o
     simp only at p0 p1 p2 p3 p4 p5 p6
     replace hfit:fJ (i:Int) ⟨kk,a,b',q,r,c,xs⟩=true:=hfit
     obtain ⟨U,hU⟩:∃U,U=cP p (n - (i+1)):=⟨_,rfl⟩
     obtain ⟨G,hG⟩:∃G,G=cV p V (n - (i+1)):=⟨_,rfl⟩
     rw [←hU] at HX hunext hgnext hokg hul
     rw [←hG] at HREL hgnext hokg hgl
     obtain ⟨U2,hU2⟩:∃U,U=cP p (n - i):=⟨_,rfl⟩
     obtain ⟨G2,hG2⟩:∃G,G=cV p V (n - i):=⟨_,rfl⟩
     rw [←hU2] at hunext
     rw [←hG2] at hgnext
     have HFIN:Hid (∀(W:World) (us':List Ten),OwnX bV W w.heap.size W.heap.size (some ⟨g,0,none⟩) n cap' us' [dU hh n U2]→RelG us' G2 n (fun _=>True)→Below w.heap.size w W→(g < W.heap.size∧hh < W.heap.size)→∃us'',Hid (OwnX bV W w.heap.size W.heap.size (some ⟨g,0,none⟩) n cap' us'' [dU hh n (cP p (n - i))])∧Hid (RelG us'' (cV p V (n - i)) n (fun _=>True))∧Hid (Below w.heap.size w W)∧Hid (g < W.heap.size∧hh < W.heap.size)):=I (fun W us' h1 h2 h5 h6=>⟨us',by rw [←hU2];exact I h1,by rw [←hG2];exact I h2,I h5,I h6⟩)
     have HUN:=I hunext;have HGN:=I hgnext;have HOG:=I hokg;have HUL:=I hul;have HGL2:=I hgl
     have HFT:=I hfit;have HSP:=I hshp
     clear hU hG hU2 hG2 hunext hgnext hokg hul hgl hop hfit hshp hf hok ho
     go_upto_region 14 with fail
     have hbq:=aE wr (.cells #[.int .i64 kk,.int .i64 a,.int .i64 b',.float .f32 q,.int .i64 r,.int .i64 c,.slice adx xs.length capx] 74)
     have OB:=I (BoxN.alloc wr #[.int .i64 kk,.int .i64 a,.int .i64 b',.float .f32 q,.int .i64 r,.int .i64 c,.slice adx xs.length capx] 74)
     have XQ:=I ((HX.out.below hbq).bounds (J _) hbq.size)
     have BQ:=I (aA HB.out hbq)
     have ZQ:Hid ((g < wr.heap.size∧hh < wr.heap.size)∧wr.heap.size+1=(wr.alloc (.cells #[.int .i64 kk,.int .i64 a,.int .i64 b',.float .f32 q,.int .i64 r,.int .i64 c,.slice adx xs.length capx] 74)).heap.size):=I ⟨HZ.out,by simp⟩
     have HGB0:Hid (∀(t:Ten),us[i]? = some t→1≤t.xs.length→∀b o,t.ad=some ⟨b,o,none⟩→b < wr.heap.size):=I (fun t ht hl b o e=>by
      obtain ⟨-,-,-,hs⟩:=gK HX.out ht
      obtain ⟨b',o',e2,hl2,_⟩:=hs.spot (k:=0) hl
      rw [e] at e2;cases e2;exact hl2)
     clear HX HB HZ hbq p0 p1 p2 p3 p4 p5 p6 hobl
     generalize wr.alloc (.cells #[.int .i64 kk,.int .i64 a,.int .i64 b',.float .f32 q,.int .i64 r,.int .i64 c,.slice adx xs.length capx] 74)=wq at OB XQ BQ ZQ ⊢
     generalize wr.heap.size=gb at OB ZQ HGB0 ⊢
     have uc:=XQ.out.u.2.2.1 i (by rw [HUL.out];exact hi)
     obtain ⟨-,x0,x1,x2,x3,x4,x5,x6,xf⟩:=OB.out.seven
     clear xf x3 x4 x5 x6
     by_cases hc:U.getD i false=true∧kk≠0
     ·obtain ⟨hu,hk0⟩:=hc
      rw [hu] at uc
      have hk0':(kk == 0)=false:=by simpa using hk0
      obtain ⟨old',ho1,ho2⟩:=HREL.out i hi trivial
      have HGI:=(HOG.out.2 i (by rw [HVL.out];exact hi)).1
      obtain ⟨D,rfl⟩:=lW (t:=old') (by rw [ho2];exact HGI.1)
      obtain ⟨gr,gc,ga,gk,gx⟩:=D
      obtain ⟨⟨hgB,hgl⟩,⟨g0,g1,g2⟩,gf,gsee⟩:=gK XQ.out ho1
      have HGD:Hid ((Dsc.can ⟨gr,gc,ga,gk,gx⟩)=aH G (i:Int)):=I ho2
      have HGS:Hid ((aH G (i:Int)).sh=(aH V (i:Int)).sh):=I HGI.2
      have HDA:Hid (Dsc.At ⟨gr,gc,ga,gk,gx⟩ wq):=I (Dsc.at_of (by rw [HGD.out];exact HGI.1) gsee)
      have HFAR:=I (Ai XQ.out ho1 HDA.out.pos)
      have HGBN:Hid (∀b o,ga=some ⟨b,o,none⟩→b≠gb):=I (fun b o e=>by have:=HGB0.out _ ho1 HDA.out.pos b o e;omega)
      clear HGB0
      have HUI:=I hu
      clear HGI ho2 hu gf hgB gsee ho1
      have hfa:=dV HFT.out hk0
      have hfk:=jK HFT.out
      obtain ⟨A,hA⟩:∃A:Nat,a=A:=⟨a.toNat,by have:=hfa.1.1;simp only at this;omega⟩
      obtain ⟨B,hB⟩:∃B:Nat,b'=B:=⟨b'.toNat,by have:=hfa.2.1.1;simp only at this;omega⟩
      have hAi:A < i:=by have:=hfa.1.2;simp only at this;omega
      have hBi:B < i:=by have:=hfa.2.1.2;simp only at this;omega
      have hAn:A < n:=by omega
      have hBn:B < n:=by omega
      subst hA hB
      replace hfk:0≤kk∧kk≤10:=hfk
      have hk1:1≤kk∧kk≤10:=by omega
      obtain ⟨⟨vr,vc,va,vk,vx⟩,-,hv2,hv3,v0,v1,v2⟩:=HVS.out wq BQ.out A (by omega)
      obtain ⟨⟨wr',wy,wa,wk,wx⟩,-,hw2,hw3,w0,w1,w2⟩:=HVS.out wq BQ.out B (by omega)
      simp only [Dsc.ten] at v0 v1 v2 w0 w1 w2 g0 g1 g2
      have hsh:aQ kk (Dsc.can ⟨vr,vc,va,vk,vx⟩).sh (Dsc.can ⟨wr',wy,wa,wk,wx⟩).sh=some (Dsc.can ⟨gr,gc,ga,gk,gx⟩).sh:=by
       obtain ⟨s,h1,h2⟩:=HSP.out hk0
       rw [hv2,hw2,HGD.out,HGS.out,h2];exact h1
      have okA:=tZ (num:=cn .f32 q) hk1 HDA.out.okT hv3.okT hw3.okT hsh rfl
      have okB:=fun h2:fL kk=true=>uA h2 HDA.out.okT hv3.okT hw3.okT hsh rfl
      have OKA:=I okA;have OKB:=I okB
      have HVW:=I (And.intro hv2 (And.intro hw2 (And.intro hv3 hw3)))
      have HK1:=I hk1;have HK0:=I hk0;have HS:=I hsh
      clear hv2 hv3 hw2 hw3 hsh okA okB hk1 hfa hfk hk0
      go_upto_region 16 with fail
      clear uc g0 g1 g2 x0 x1 x2
      have OB0:=OB
      have HZQ:Hid (wq.heap.size+1=(wq.alloc (.cells #[.int .i64 gr,.int .i64 gc,.slice ga gx.length gk] 37)).heap.size):=I (by simp)
      have Y1:=I (aE wq (.cells #[.int .i64 gr,.int .i64 gc,.slice ga gx.length gk] 37))
      have GB:=I (BoxN.alloc wq #[.int .i64 gr,.int .i64 gc,.slice ga gx.length gk] 37)
      generalize (wq.alloc (.cells #[.int .i64 gr,.int .i64 gc,.slice ga gx.length gk] 37))=y1 at HZQ Y1 GB ⊢
      have HV1:=I (((Y1.out.cell (p:=⟨vb,voff+A * 3,none⟩) (Nat.lt_of_lt_of_le HVB.out BQ.out.size)).trans v0))
      have x1:=(OB.out.below Y1.out).seven.2.2.1
      have u0:=(Y1.out.cell (p:=⟨vb,voff+A * 3,none⟩) (Nat.lt_of_lt_of_le HVB.out BQ.out.size)).trans v0
      have u1:=(Y1.out.cell (p:=⟨vb,voff+A * 3+1,none⟩) (Nat.lt_of_lt_of_le HVB.out BQ.out.size)).trans v1
      have u2:=(Y1.out.cell (p:=⟨vb,voff+A * 3+2,none⟩) (Nat.lt_of_lt_of_le HVB.out BQ.out.size)).trans v2
      clear v0 v1 v2 HV1
      go_upto_region 17 with fail
      clear x1 u0 u1 u2
      have HZ1:Hid (y1.heap.size+1=(y1.alloc (.cells #[.int .i64 vr,.int .i64 vc,.slice va vx.length vk] 37)).heap.size):=I (by simp)
      have VB:=I (BoxN.alloc y1 #[.int .i64 vr,.int .i64 vc,.slice va vx.length vk] 37)
      have GB2:=I (GB.out.below (aE y1 (.cells #[.int .i64 vr,.int .i64 vc,.slice va vx.length vk] 37)))
      have Y2:=I (aA Y1.out (aE y1 (.cells #[.int .i64 vr,.int .i64 vc,.slice va vx.length vk] 37)))
      generalize y1.alloc (.cells #[.int .i64 vr,.int .i64 vc,.slice va vx.length vk] 37)=y2 at HZ1 VB GB2 Y2 ⊢
      have x2:=(OB.out.below Y2.out).seven.2.2.2.1
      have u0:=(Y2.out.cell (p:=⟨vb,voff+B * 3,none⟩) (Nat.lt_of_lt_of_le HVB.out BQ.out.size)).trans w0
      have u1:=(Y2.out.cell (p:=⟨vb,voff+B * 3+1,none⟩) (Nat.lt_of_lt_of_le HVB.out BQ.out.size)).trans w1
      have u2:=(Y2.out.cell (p:=⟨vb,voff+B * 3+2,none⟩) (Nat.lt_of_lt_of_le HVB.out BQ.out.size)).trans w2
      clear w0 w1 w2 Y1 GB
      go_upto_region 18 with fail
      clear x2 u0 u1 u2
      have HZ2:Hid (y2.heap.size+1=(y2.alloc (.cells #[.int .i64 wr',.int .i64 wy,.slice wa wx.length wk] 37)).heap.size):=I (by simp)
      have WB:=I (BoxN.alloc y2 #[.int .i64 wr',.int .i64 wy,.slice wa wx.length wk] 37)
      have GB3:=I (GB2.out.below (aE y2 (.cells #[.int .i64 wr',.int .i64 wy,.slice wa wx.length wk] 37)));have VB3:=I (VB.out.below (aE y2 (.cells #[.int .i64 wr',.int .i64 wy,.slice wa wx.length wk] 37)))
      have Y3:=I (aA Y2.out (aE y2 (.cells #[.int .i64 wr',.int .i64 wy,.slice wa wx.length wk] 37)))
      clear Y2 VB GB2
      generalize y2.alloc (.cells #[.int .i64 wr',.int .i64 wy,.slice wa wx.length wk] 37)=y3 at HZ2 WB GB3 VB3 Y3 ⊢
      go_upto_region 19 with fail
      have HZ3:Hid (y3.heap.size+1=(y3.alloc (.cells #[.int .i64 0,.int .i64 0,.slice none 0 0] 37)).heap.size):=I (by simp)
      have PB:=I (BoxN.alloc y3 #[.int .i64 0,.int .i64 0,.slice none 0 0] 37)
      have GB4:=I (GB3.out.below (aE y3 (.cells #[.int .i64 0,.int .i64 0,.slice none 0 0] 37)));have VB4:=I (VB3.out.below (aE y3 (.cells #[.int .i64 0,.int .i64 0,.slice none 0 0] 37)));have WB4:=I (WB.out.below (aE y3 (.cells #[.int .i64 0,.int .i64 0,.slice none 0 0] 37)))
      have Y4:=I (aA Y3.out (aE y3 (.cells #[.int .i64 0,.int .i64 0,.slice none 0 0] 37)))
      clear Y3 VB3 GB3 WB
      generalize y3.alloc (.cells #[.int .i64 0,.int .i64 0,.slice none 0 0] 37)=y4 at HZ3 PB GB4 VB4 WB4 Y4 ⊢
      go_upto_region 20 with fail
      have HZ4:Hid (y4.heap.size+1=(y4.alloc (.cells #[.int .i64 0,.int .i64 0,.slice none 0 0] 37)).heap.size):=I (by simp)
      have QB:=I (BoxN.alloc y4 #[.int .i64 0,.int .i64 0,.slice none 0 0] 37)
      have GB:=I (GB4.out.below (aE y4 (.cells #[.int .i64 0,.int .i64 0,.slice none 0 0] 37)));have VB:=I (VB4.out.below (aE y4 (.cells #[.int .i64 0,.int .i64 0,.slice none 0 0] 37)));have WB:=I (WB4.out.below (aE y4 (.cells #[.int .i64 0,.int .i64 0,.slice none 0 0] 37)))
      have PB5:=I (PB.out.below (aE y4 (.cells #[.int .i64 0,.int .i64 0,.slice none 0 0] 37)))
      have Y:=I (aA Y4.out (aE y4 (.cells #[.int .i64 0,.int .i64 0,.slice none 0 0] 37)))
      have OB5:=I (OB.out.below Y.out)
      clear Y4 GB4 VB4 WB4 PB OB0
      generalize y4.alloc (.cells #[.int .i64 0,.int .i64 0,.slice none 0 0] 37)=y5 at HZ4 QB GB VB WB PB5 Y OB5 ⊢
      have HBX:Hid ((gb < wq.heap.size∧wq.heap.size < y1.heap.size∧y1.heap.size < y2.heap.size∧y2.heap.size < y3.heap.size∧y3.heap.size < y4.heap.size∧y4.heap.size < y5.heap.size)∧g < wq.heap.size∧hh < wq.heap.size):=I (by have:=HZQ.out;have:=HZ1.out;have:=HZ2.out;have:=HZ3.out;have:=HZ4.out;have:=ZQ.out;omega)
      have HGBN2:Hid (gb≠g∧gb≠hh):=I (by have:=ZQ.out;omega)
      clear HZQ HZ1 HZ2 HZ3 HZ4
      obtain ⟨b11,hb11⟩:∃b,b=wq.heap.size:=⟨_,rfl⟩
      have HB11:=I hb11
      rw [←hb11] at GB ⊢
      clear hb11
      generalize y1.heap.size=b12 at VB HBX ⊢
      generalize y2.heap.size=b13 at WB HBX ⊢
      generalize y3.heap.size=b14 at PB5 HBX ⊢
      generalize y4.heap.size=b15 at QB HBX ⊢
      have x0:=OB5.out.seven.2.1
      go_upto_block 4 with fail
      clear x0
      go_cut [14,15] (fun p14 p15 wz=>p14=.pointer (some ⟨b14,0,none⟩)∧p15=.pointer (some ⟨b15,0,none⟩)∧∃t u:Dsc,Hid ((BoxN wz b14 t.cells∧BoxN wz b15 u.cells)∧(Below wq.heap.size wq wz∧y5.heap.size≤wz.heap.size)∧GotL (bC kk (Dsc.can ⟨gr,gc,ga,gk,gx⟩) (Dsc.can ⟨vr,vc,va,vk,vx⟩) (Dsc.can ⟨wr',wy,wa,wk,wx⟩) (cn .f32 q)) ⟨gr,gc,ga,gk,gx⟩ y5.heap.size wz t∧(fL kk=true→GotL (bU kk (Dsc.can ⟨gr,gc,ga,gk,gx⟩) (Dsc.can ⟨vr,vc,va,vk,vx⟩)) ⟨gr,gc,ga,gk,gx⟩ y5.heap.size wz u)))
      case first =>
       have K0:=I (Keep2.refl b14 b15 y5)
       have AG0:=I (HDA.out.below Y.out);have AV0:=I (HVW.out.2.2.1.below Y.out);have AW0:=I (HVW.out.2.2.2.below Y.out)
       have HSM:Hid ((∀b o,ga=some ⟨b,o,none⟩→b < wq.heap.size)∧(∀b o,va=some ⟨b,o,none⟩→b < wq.heap.size)∧(∀b o,wa=some ⟨b,o,none⟩→b < wq.heap.size)):=I (by
        refine ⟨fun b o e=>?_,fun b o e=>?_,fun b o e=>?_⟩
        ·obtain ⟨b',o',e2,hl,_⟩:=HDA.out.see.spot (k:=0) HDA.out.pos
         have e3:some (⟨b,o,none⟩:Addr)=some ⟨b',o',none⟩:=e.symm.trans e2
         cases e3;exact hl
        ·obtain ⟨b',o',e2,hl,_⟩:=HVW.out.2.2.1.see.spot (k:=0) HVW.out.2.2.1.pos
         have e3:some (⟨b,o,none⟩:Addr)=some ⟨b',o',none⟩:=e.symm.trans e2
         cases e3;exact hl
        ·obtain ⟨b',o',e2,hl,_⟩:=HVW.out.2.2.2.see.spot (k:=0) HVW.out.2.2.2.pos
         have e3:some (⟨b,o,none⟩:Addr)=some ⟨b',o',none⟩:=e.symm.trans e2
         cases e3;exact hl)
       have HNB:Hid ((b11≠b14∧b11≠b15)∧(b12≠b14∧b12≠b15)∧(b13≠b14∧b13≠b15)∧(gb≠b14∧gb≠b15)∧b14 < b15∧b15 < y5.heap.size∧wq.heap.size≤b14):=I (by have h1:=HBX.out;have h2:=HB11.out;omega)
       have AT:Hid (∀W,Keep2 b14 b15 y5 W→(Dsc.At ⟨gr,gc,ga,gk,gx⟩ W∧Dsc.At ⟨vr,vc,va,vk,vx⟩ W∧Dsc.At ⟨wr',wy,wa,wk,wx⟩ W)∧BoxN W b11 [.int .i64 gr,.int .i64 gc,.slice ga gx.length gk]∧BoxN W b12 [.int .i64 vr,.int .i64 vc,.slice va vx.length vk]∧BoxN W b13 [.int .i64 wr',.int .i64 wy,.slice wa wx.length wk]∧BoxN W gb [.int .i64 kk,.int .i64 A,.int .i64 B,.float .f32 q,.int .i64 r,.int .i64 c,.slice adx xs.length capx]):=I (fun W hk=>⟨⟨AG0.out.keep hk (fun b o e=>by have h1:=HSM.out.1 b o e;have h2:=HNB.out;omega),AV0.out.keep hk (fun b o e=>by have h1:=HSM.out.2.1 b o e;have h2:=HNB.out;omega),AW0.out.keep hk (fun b o e=>by have h1:=HSM.out.2.2 b o e;have h2:=HNB.out;omega)⟩,GB.out.keep hk HNB.out.1.1 HNB.out.1.2,VB.out.keep hk HNB.out.2.1.1 HNB.out.2.1.2,WB.out.keep hk HNB.out.2.2.1.1 HNB.out.2.2.1.2,OB5.out.keep hk HNB.out.2.2.2.1.1 HNB.out.2.2.2.1.2⟩)
       have P0:Hid (BoxN y5 b14 [.int .i64 0,.int .i64 0,.slice none 0 0]):=PB5
       have Q0:Hid (BoxN y5 b15 [.int .i64 0,.int .i64 0,.slice none 0 0]):=QB
       have YW:=Y
       have HHS:=HS
       clear GB VB WB PB5 QB OB5 AG0 AV0 AW0 HSM HFAR HGBN HGBN2 HREL XQ OB HFIN HUN HGN HOG HUL HGL2 HRD HVS HDA Y HS HVW HBX HB11
       have hk1:=HK1.out
       clear HK1
       rcases (by omega:kk=1∨kk=2∨kk=3∨kk=4∨kk=5∨kk=6∨kk=7∨kk=8∨kk=9∨kk=10) with rfl | rfl | rfl | rfl | rfl | rfl | rfl | rfl | rfl | rfl
       ·as_aux_lemma =>
         go_upto_region 22 with fail
         obtain ⟨⟨ag,av,aw⟩,gb',vb',wb',ob'⟩:=AT.out y5 K0.out
         obtain ⟨-,g0,g1,g2,gf⟩:=gb'.three
         obtain ⟨-,v0,v1,v2,vf⟩:=vb'.three
         obtain ⟨-,w0,w1,w2,wf⟩:=wb'.three
         obtain ⟨-,o0,o1,o2,o3,o4,o5,o6,of⟩:=ob'.seven
         clear gf vf wf of gb' vb' wb' ob'
         obtain ⟨-,q0,q1,q2,qf⟩:=P0.out.three
         have q3:=qf 0;have q4:=qf 1;have q5:=qf 2
         clear qf ag av aw
         go_upto_region 23 with fail
         clear g0 g1 g2 v0 v1 v2 w0 w1 w2 o0 o1 o2 o3 o4 o5 o6
         have K1':Hid (Keep2 b14 b15 y5 (setCs y5 b14 0 [.int .i64 gr,.int .i64 gc,.slice ga gx.length gk])):=I ((K0.out).trans (Keep2.of_touch1 (aB y5 b14 0 [.int .i64 gr,.int .i64 gc,.slice ga gx.length gk])))
         have P1:Hid (BoxN (setCs y5 b14 0 [.int .i64 gr,.int .i64 gc,.slice ga gx.length gk]) b14 [.int .i64 gr,.int .i64 gc,.slice ga gx.length gk]):=I (P0.out.set3)
         have Q1:Hid (BoxN (setCs y5 b14 0 [.int .i64 gr,.int .i64 gc,.slice ga gx.length gk]) b15 [.int .i64 0,.int .i64 0,.slice none 0 0]):=I (Q0.out.touch (aB y5 b14 0 [.int .i64 gr,.int .i64 gc,.slice ga gx.length gk]) (.inr HNB.out.2.2.2.2.1))
         clear q0 q1 q2 q3 q4 q5
         change Code.wp _ _ _ _ (setCs y5 b14 0 [.int .i64 gr,.int .i64 gc,.slice ga gx.length gk])
         generalize (setCs y5 b14 0 [.int .i64 gr,.int .i64 gc,.slice ga gx.length gk])=yw1 at K1' P1 Q1 ⊢
         obtain ⟨⟨ag,av,aw⟩,gb',vb',wb',ob'⟩:=AT.out yw1 K1'.out
         obtain ⟨-,g0,g1,g2,gf⟩:=gb'.three
         obtain ⟨-,v0,v1,v2,vf⟩:=vb'.three
         obtain ⟨-,w0,w1,w2,wf⟩:=wb'.three
         obtain ⟨-,o0,o1,o2,o3,o4,o5,o6,of⟩:=ob'.seven
         clear gf vf wf of gb' vb' wb' ob'
         obtain ⟨-,q0,q1,q2,qf⟩:=Q1.out.three
         have q3:=qf 0;have q4:=qf 1;have q5:=qf 2
         clear qf ag av aw
         go_wp2_with fail
         clear g0 g1 g2 v0 v1 v2 w0 w1 w2 o0 o1 o2 o3 o4 o5 o6
         have K2':Hid (Keep2 b14 b15 y5 (setCs yw1 b15 0 [.int .i64 gr,.int .i64 gc,.slice ga gx.length gk])):=I ((K1'.out).trans (Keep2.of_touch2 (aB yw1 b15 0 [.int .i64 gr,.int .i64 gc,.slice ga gx.length gk])))
         have P2:Hid (BoxN (setCs yw1 b15 0 [.int .i64 gr,.int .i64 gc,.slice ga gx.length gk]) b14 [.int .i64 gr,.int .i64 gc,.slice ga gx.length gk]):=I (P1.out.touch (aB yw1 b15 0 [.int .i64 gr,.int .i64 gc,.slice ga gx.length gk]) (.inl HNB.out.2.2.2.2.1))
         have Q2:Hid (BoxN (setCs yw1 b15 0 [.int .i64 gr,.int .i64 gc,.slice ga gx.length gk]) b15 [.int .i64 gr,.int .i64 gc,.slice ga gx.length gk]):=I (Q1.out.set3)
         go_meet
         exact ⟨rfl,rfl,⟨gr,gc,ga,gk,gx⟩,⟨gr,gc,ga,gk,gx⟩,I ⟨⟨P2.out,Q2.out⟩,⟨K2'.out.below YW.out YW.out.size HNB.out.2.2.2.2.2.2 (Nat.le_trans HNB.out.2.2.2.2.2.2 (Nat.le_of_lt HNB.out.2.2.2.2.1)),K2'.out.size⟩,⟨by simp [bC],.inl rfl⟩,fun _=>⟨by simp [bU],.inl rfl⟩⟩⟩
       ·as_aux_lemma =>
         go_upto_region 25 with fail
         obtain ⟨⟨ag,av,aw⟩,gb',vb',wb',ob'⟩:=AT.out y5 K0.out
         obtain ⟨-,g0,g1,g2,gf⟩:=gb'.three
         obtain ⟨-,v0,v1,v2,vf⟩:=vb'.three
         obtain ⟨-,w0,w1,w2,wf⟩:=wb'.three
         obtain ⟨-,o0,o1,o2,o3,o4,o5,o6,of⟩:=ob'.seven
         clear gf vf wf of gb' vb' wb' ob'
         obtain ⟨-,q0,q1,q2,qf⟩:=P0.out.three
         have q3:=qf 0;have q4:=qf 1;have q5:=qf 2
         clear qf ag av aw
         go_upto_region 26 with fail
         clear g0 g1 g2 v0 v1 v2 w0 w1 w2 o0 o1 o2 o3 o4 o5 o6
         have K1':Hid (Keep2 b14 b15 y5 (setCs y5 b14 0 [.int .i64 gr,.int .i64 gc,.slice ga gx.length gk])):=I ((K0.out).trans (Keep2.of_touch1 (aB y5 b14 0 [.int .i64 gr,.int .i64 gc,.slice ga gx.length gk])))
         have P1:Hid (BoxN (setCs y5 b14 0 [.int .i64 gr,.int .i64 gc,.slice ga gx.length gk]) b14 [.int .i64 gr,.int .i64 gc,.slice ga gx.length gk]):=I (P0.out.set3)
         have Q1:Hid (BoxN (setCs y5 b14 0 [.int .i64 gr,.int .i64 gc,.slice ga gx.length gk]) b15 [.int .i64 0,.int .i64 0,.slice none 0 0]):=I (Q0.out.touch (aB y5 b14 0 [.int .i64 gr,.int .i64 gc,.slice ga gx.length gk]) (.inr HNB.out.2.2.2.2.1))
         clear q0 q1 q2 q3 q4 q5
         change Code.wp _ _ _ _ (setCs y5 b14 0 [.int .i64 gr,.int .i64 gc,.slice ga gx.length gk])
         generalize (setCs y5 b14 0 [.int .i64 gr,.int .i64 gc,.slice ga gx.length gk])=yw1 at K1' P1 Q1 ⊢
         obtain ⟨⟨ag,av,aw⟩,gb',vb',wb',ob'⟩:=AT.out yw1 K1'.out
         obtain ⟨-,g0,g1,g2,gf⟩:=gb'.three
         obtain ⟨-,v0,v1,v2,vf⟩:=vb'.three
         obtain ⟨-,w0,w1,w2,wf⟩:=wb'.three
         obtain ⟨-,o0,o1,o2,o3,o4,o5,o6,of⟩:=ob'.seven
         clear gf vf wf of gb' vb' wb' ob'
         have KSUM:=I (fun q=>mF (yw1.drewN q) b11 0 gc ga gk gx.length gx (((AT.out yw1 K1'.out).2.1.below (below_drewN (O _ _) q)).three.2.2.1) (((AT.out yw1 K1'.out).2.1.below (below_drewN (O _ _) q)).three.2.2.2.1) ((AT.out yw1 K1'.out).1.1.below (below_drewN (O _ _) q)).see rfl (AT.out yw1 K1'.out).1.1.le (AT.out yw1 K1'.out).1.1.c1 (AT.out yw1 K1'.out).1.1.c2)
         have HGC:=I g1
         clear ag av aw
         clear g0 g1 g2 v0 v1 v2 w0 w1 w2 o0 o1 o2 o3 o4 o5 o6
         refine aL 4 [2] (fun W=>W.cell? ⟨b11,1,none⟩=some (.int .i64 gc)) (fun _ _ _=>False) (fun f args w1 v w2=>DF (bA gc (sI (gx.map (cn .f32)) gc gx.length)) w1 v w2) (by kernel_rfl) (by kernel_rfl) HGC.out (fun W q h=>by simpa using h) ?_
         iterate 2 (refine aD (by rfl) HGC.out (fun K hK W hW=>?_);go_simp;refine hK _ ?_;clear hK K hW)
         refine aF (by rfl) HGC.out (fun K hK q0=>?_)
         go_simp
         refine ⟨(KSUM.out q0).mono (fun e w5 h=>by
          obtain ⟨ad,cap,zs,he,hr,hm,hb⟩:=h
          have hl:=hr.out.len
          exact ⟨_,he,ad,cap,zs,by rw [hl],hm.out,by rw [hl];exact hr.out,hb⟩),?_⟩
         rintro v wa' hd
         obtain ⟨a2,k2,l2,rfl,he,hr,hb⟩:=hd
         have HB5:=I (aA (below_drewN (O _ _) q0) hb)
         have S5:Hid (wa'.cell? ⟨b11,1,none⟩=some (.int .i64 gc)):=I ((HB5.out.cell (p:=⟨b11,1,none⟩) (World.block_lt_of_cell? _ _ HGC.out)).trans HGC.out)
         refine ⟨S5.out,hK _ _ ?_⟩
         have E2:=I he
         have RF1:=I (hr.bounds (show y5.heap.size≤_ from Nat.le_trans K1'.out.size (by simp)) (J _))
         clear hK K he hr hb KSUM
         refine aD (by rfl) S5.out (fun K hK W hW=>?_)
         go_simp
         refine hK _ ?_
         clear hK K hW
         refine aP (fun q9=>?_)
         have HBB:=I (aA HB5.out (below_drewN (O _ _) q9))
         have RF0:Hid (RepF (wa'.drewN q9) y5.heap.size (wa'.drewN q9).heap.size a2 l2.length k2 l2):=I ((RF1.out.below (below_drewN (O _ _) q9)).bounds (J _) (by simp))
         have LL2:Hid (l2.length=gc):=I (by have:=congrArg List.length E2.out;rw [List.length_map,aJ] at this;exact this)
         have EE2:Hid (Dsc.can ⟨1,gc,a2,k2,l2⟩=nB (Dsc.can ⟨gr,gc,ga,gk,gx⟩)):=I (by
          have hch:gc=gc:=rfl
          unfold nB Dsc.can
          simp only
          rw [E2.out,←hch]
          simp)
         clear S5 HB5 RF1 HGC
         generalize wa'.drewN q9=wb' at HBB RF0 ⊢
         obtain ⟨-,q0',q1,q2,qf⟩:=(Q1.out.below HBB.out).three
         have q3:=qf 0;have q4:=qf 1;have q5:=qf 2
         clear qf
         go_wp2_with fail
         have K2':Hid (Keep2 b14 b15 y5 (setCs wb' b15 0 [.int .i64 1,.int .i64 gc,.slice a2 l2.length k2])):=I (((K1'.out).trans (Keep2.of_below HBB.out)).trans (Keep2.of_touch2 (aB wb' b15 0 [.int .i64 1,.int .i64 gc,.slice a2 l2.length k2])))
         have P2:=I ((P1.out.below HBB.out).touch (aB wb' b15 0 [.int .i64 1,.int .i64 gc,.slice a2 l2.length k2]) (.inl HNB.out.2.2.2.2.1))
         have Q2':BoxN (setCs wb' b15 0 [.int .i64 1,.int .i64 gc,.slice a2 l2.length k2]) b15 [.int .i64 1,.int .i64 gc,.slice a2 l2.length k2]:=(Q1.out.below HBB.out).set3 (x:=.int .i64 1) (y:=.int .i64 gc) (z:=.slice a2 l2.length k2)
         have Q2:Hid (BoxN (setCs wb' b15 0 [.int .i64 1,.int .i64 gc,.slice a2 l2.length k2]) b15 (Dsc.cells ⟨1,gc,a2,k2,l2⟩)):=I Q2'
         clear Q2'
         have R2:Hid (RepF (setCs wb' b15 0 [.int .i64 1,.int .i64 gc,.slice a2 l2.length k2]) y5.heap.size (setCs wb' b15 0 [.int .i64 1,.int .i64 gc,.slice a2 l2.length k2]).heap.size a2 l2.length k2 l2):=I ((RF0.out.touch (aB wb' b15 0 [.int .i64 1,.int .i64 gc,.slice a2 l2.length k2]) (.inr (by have h:=HNB.out;omega))).bounds (J _) (by rw [aU];exact J _))
         have HPB:Hid (bU 2 (Dsc.can ⟨gr,gc,ga,gk,gx⟩) (Dsc.can ⟨vr,vc,va,vk,vx⟩)=nB (Dsc.can ⟨gr,gc,ga,gk,gx⟩)):=I (by simp [bU])
         go_meet
         exact ⟨rfl,rfl,⟨gr,gc,ga,gk,gx⟩,(⟨1,gc,a2,k2,l2⟩:Dsc),I ⟨⟨P2.out,Q2.out⟩,⟨K2'.out.below YW.out YW.out.size HNB.out.2.2.2.2.2.2 (Nat.le_trans HNB.out.2.2.2.2.2.2 (Nat.le_of_lt HNB.out.2.2.2.2.1)),K2'.out.size⟩,⟨by simp [bC],.inl rfl⟩,fun _=>⟨EE2.out.trans HPB.out.symm,.inr R2.out⟩⟩⟩
       ·as_aux_lemma =>
         have hsh:Hid ((gr=wr'∧gc=wy)∧(gr=vr∧gc=vc)):=I (by have:=HHS.out;simp [aQ,TenP.sh,Dsc.can] at this;omega)
         have hlw:Hid (∀W,Dsc.At ⟨gr,gc,ga,gk,gx⟩ W→Dsc.At ⟨vr,vc,va,vk,vx⟩ W→Dsc.At ⟨wr',wy,wa,wk,wx⟩ W→wx.length=gx.length∧vx.length=gx.length):=I (fun W h1 h2 h3=>by have e1:=h1.len;have e2:=h2.len;have e3:=h3.len;have h:=hsh.out;simp only at e1 e2 e3;rw [e1,e2,e3,h.1.1,h.1.2,←h.2.1,←h.2.2,h.1.1,h.1.2];exact ⟨rfl,rfl⟩)
         go_upto_region 28 with fail
         obtain ⟨⟨ag,av,aw⟩,gb',vb',wb',ob'⟩:=AT.out y5 K0.out
         obtain ⟨-,g0,g1,g2,gf⟩:=gb'.three
         obtain ⟨-,v0,v1,v2,vf⟩:=vb'.three
         obtain ⟨-,w0,w1,w2,wf⟩:=wb'.three
         obtain ⟨-,o0,o1,o2,o3,o4,o5,o6,of⟩:=ob'.seven
         clear gf vf wf of gb' vb' wb' ob'
         have KC:=I (gF _ b11 0 b13 0 gr gc ga wa gk wk gx.length gx wx g0 g1 g2 (by rw [←(hlw.out _ ag av aw).1];exact w2) ag.see aw.see rfl (hlw.out _ ag av aw).1 ag.le)
         clear ag av aw
         go_wp2_with fail
         refine KC.out.mono fun e wa' h=>?_
         obtain ⟨v,rfl,hr⟩:=RTen.of (T:=eN (Dsc.can ⟨gr,gc,ga,gk,gx⟩) (Dsc.can ⟨wr',wy,wa,wk,wx⟩)) h (by simp [fI,eN,cU,gU,cO,Dsc.can])
         obtain ⟨⟨r1,c1,a1,k1,l1⟩,rfl,he,hrr,hb⟩:=hr
         have E1:=I he
         have RF0:=I (hrr.bounds (show y5.heap.size≤_ from K0.out.size) (J _))
         have HBB:=I hb
         clear g0 g1 g2 v0 v1 v2 w0 w1 w2 o0 o1 o2 o3 o4 o5 o6
         clear h he hrr hb KC
         obtain ⟨-,q0,q1,q2,qf⟩:=(P0.out.below HBB.out).three
         have q3:=qf 0;have q4:=qf 1;have q5:=qf 2
         clear qf
         try unfold Dsc.val
         try simp only
         go_upto_region 29 with fail
         have K1':Hid (Keep2 b14 b15 y5 (setCs wa' b14 0 [.int .i64 r1,.int .i64 c1,.slice a1 l1.length k1])):=I (((K0.out).trans (Keep2.of_below HBB.out)).trans (Keep2.of_touch1 (aB wa' b14 0 [.int .i64 r1,.int .i64 c1,.slice a1 l1.length k1])))
         have P1:=I ((P0.out.below HBB.out).set3 (x:=.int .i64 r1) (y:=.int .i64 c1) (z:=.slice a1 l1.length k1))
         have Q1:=I ((Q0.out.below HBB.out).touch (aB wa' b14 0 [.int .i64 r1,.int .i64 c1,.slice a1 l1.length k1]) (.inr HNB.out.2.2.2.2.1))
         have R1:Hid (RepF (setCs wa' b14 0 [.int .i64 r1,.int .i64 c1,.slice a1 l1.length k1]) y5.heap.size (setCs wa' b14 0 [.int .i64 r1,.int .i64 c1,.slice a1 l1.length k1]).heap.size a1 l1.length k1 l1):=I ((RF0.out.touch (aB wa' b14 0 [.int .i64 r1,.int .i64 c1,.slice a1 l1.length k1]) (.inr (by have h:=HNB.out;omega))).bounds (J _) (by rw [aU];exact J _))
         clear q0 q1 q2 q3 q4 q5 RF0 HBB
         change Code.wp _ _ _ _ (setCs wa' b14 0 [.int .i64 r1,.int .i64 c1,.slice a1 l1.length k1])
         generalize setCs wa' b14 0 [.int .i64 r1,.int .i64 c1,.slice a1 l1.length k1]=yw1 at K1' P1 Q1 R1 ⊢
         obtain ⟨⟨ag,av,aw⟩,gb',vb',wb',ob'⟩:=AT.out yw1 K1'.out
         obtain ⟨-,g0,g1,g2,gf⟩:=gb'.three
         obtain ⟨-,v0,v1,v2,vf⟩:=vb'.three
         obtain ⟨-,w0,w1,w2,wf⟩:=wb'.three
         obtain ⟨-,o0,o1,o2,o3,o4,o5,o6,of⟩:=ob'.seven
         clear gf vf wf of gb' vb' wb' ob'
         have KC:=I (gF _ b11 0 b12 0 gr gc ga va gk vk gx.length gx vx g0 g1 g2 (by rw [←(hlw.out _ ag av aw).2];exact v2) ag.see av.see rfl (hlw.out _ ag av aw).2 ag.le)
         clear ag av aw
         go_wp2_with fail
         refine KC.out.mono fun e wa' h=>?_
         obtain ⟨v,rfl,hr⟩:=RTen.of (T:=eN (Dsc.can ⟨gr,gc,ga,gk,gx⟩) (Dsc.can ⟨vr,vc,va,vk,vx⟩)) h (by simp [fI,eN,cU,gU,cO,Dsc.can])
         obtain ⟨⟨r2,c2,a2,k2,l2⟩,rfl,he,hrr,hb⟩:=hr
         have E2:=I he
         have RF0:=I (hrr.bounds (show y5.heap.size≤_ from K1'.out.size) (J _))
         have HBB:=I hb
         clear g0 g1 g2 v0 v1 v2 w0 w1 w2 o0 o1 o2 o3 o4 o5 o6
         clear h he hrr hb KC
         obtain ⟨-,q0,q1,q2,qf⟩:=(Q1.out.below HBB.out).three
         have q3:=qf 0;have q4:=qf 1;have q5:=qf 2
         clear qf
         try unfold Dsc.val
         try simp only
         go_wp2_with fail
         have K2':Hid (Keep2 b14 b15 y5 (setCs wa' b15 0 [.int .i64 r2,.int .i64 c2,.slice a2 l2.length k2])):=I (((K1'.out).trans (Keep2.of_below HBB.out)).trans (Keep2.of_touch2 (aB wa' b15 0 [.int .i64 r2,.int .i64 c2,.slice a2 l2.length k2])))
         have P2:=I ((P1.out.below HBB.out).touch (aB wa' b15 0 [.int .i64 r2,.int .i64 c2,.slice a2 l2.length k2]) (.inl HNB.out.2.2.2.2.1))
         have Q2:=I ((Q1.out.below HBB.out).set3 (x:=.int .i64 r2) (y:=.int .i64 c2) (z:=.slice a2 l2.length k2))
         have R2:Hid (RepF (setCs wa' b15 0 [.int .i64 r2,.int .i64 c2,.slice a2 l2.length k2]) y5.heap.size (setCs wa' b15 0 [.int .i64 r2,.int .i64 c2,.slice a2 l2.length k2]).heap.size a2 l2.length k2 l2):=I ((RF0.out.touch (aB wa' b15 0 [.int .i64 r2,.int .i64 c2,.slice a2 l2.length k2]) (.inr (by have h:=HNB.out;omega))).bounds (J _) (by rw [aU];exact J _))
         replace R1:Hid (RepF (setCs wa' b15 0 [.int .i64 r2,.int .i64 c2,.slice a2 l2.length k2]) y5.heap.size (setCs wa' b15 0 [.int .i64 r2,.int .i64 c2,.slice a2 l2.length k2]).heap.size a1 l1.length k1 l1):=I (((R1.out.below HBB.out).touch (aB wa' b15 0 [.int .i64 r2,.int .i64 c2,.slice a2 l2.length k2]) (.inr (by have h:=HNB.out;omega))).bounds (J _) (by rw [aU];exact HBB.out.size))
         go_meet
         exact ⟨rfl,rfl,(⟨r1,c1,a1,k1,l1⟩:Dsc),(⟨r2,c2,a2,k2,l2⟩:Dsc),I ⟨⟨P2.out,Q2.out⟩,⟨K2'.out.below YW.out YW.out.size HNB.out.2.2.2.2.2.2 (Nat.le_trans HNB.out.2.2.2.2.2.2 (Nat.le_of_lt HNB.out.2.2.2.2.1)),K2'.out.size⟩,⟨by rw [E1.out];simp [bC],.inr R1.out⟩,fun _=>⟨by rw [E2.out];simp [bU],.inr R2.out⟩⟩⟩
       ·as_aux_lemma =>
         have hsh:Hid ((gr=vr∧gc=vc)∧wr'=1∧wy=gc):=I (by have:=HHS.out;simp [aQ,TenP.sh,Dsc.can] at this;omega)
         have hlw:Hid (∀W,Dsc.At ⟨gr,gc,ga,gk,gx⟩ W→Dsc.At ⟨vr,vc,va,vk,vx⟩ W→Dsc.At ⟨wr',wy,wa,wk,wx⟩ W→wx.length=gc∧vx.length=gx.length):=I (fun W h1 h2 h3=>by have e1:=h1.len;have e2:=h2.len;have e3:=h3.len;have h:=hsh.out;simp only at e1 e2 e3;rw [e1,e2,e3,h.2.1,h.2.2,Nat.one_mul,←h.1.1,←h.1.2];exact ⟨rfl,rfl⟩)
         have hwl:wx.length=gc:=(hlw.out y5 (AT.out y5 K0.out).1.1 (AT.out y5 K0.out).1.2.1 (AT.out y5 K0.out).1.2.2).1
         have HWL:=I hwl
         clear hwl
         go_upto_region 31 with fail
         obtain ⟨⟨ag,av,aw⟩,gb',vb',wb',ob'⟩:=AT.out y5 K0.out
         obtain ⟨-,g0,g1,g2,gf⟩:=gb'.three
         obtain ⟨-,v0,v1,v2,vf⟩:=vb'.three
         obtain ⟨-,w0,w1,w2,wf⟩:=wb'.three
         obtain ⟨-,o0,o1,o2,o3,o4,o5,o6,of⟩:=ob'.seven
         clear gf vf wf of gb' vb' wb' ob'
         have KC:=I (show Calls Tryz.prog 107 #[.pointer (some ⟨b11,0,none⟩),.slice wa wx.length wk] y5 (bN gr gc gx.length (fT .mul (gx.map (cn .f32)) (wx.map (cn .f32)) gc gx.length) y5) by rw [HWL.out];exact mQ y5 b11 0 gr gc ga wa gk wk gx.length gx wx g0 g1 g2 ag.see aw.see rfl HWL.out ag.le ag.c1 ag.c2)
         clear ag av aw
         go_wp2_with fail
         refine KC.out.mono fun e wa' h=>?_
         obtain ⟨v,rfl,hr⟩:=RTen.of (T:=⟨gr,gc,fT .mul (gx.map (cn .f32)) (wx.map (cn .f32)) gc gx.length⟩) h (by simp [fI,eN,cU,gU,cO,Dsc.can])
         obtain ⟨⟨r1,c1,a1,k1,l1⟩,rfl,he,hrr,hb⟩:=hr
         have E1:=I he
         have RF0:=I (hrr.bounds (show y5.heap.size≤_ from K0.out.size) (J _))
         have HBB:=I hb
         clear g0 g1 g2 v0 v1 v2 w0 w1 w2 o0 o1 o2 o3 o4 o5 o6
         clear h he hrr hb KC
         obtain ⟨-,q0,q1,q2,qf⟩:=(P0.out.below HBB.out).three
         have q3:=qf 0;have q4:=qf 1;have q5:=qf 2
         clear qf
         try unfold Dsc.val
         try simp only
         go_upto_region 32 with fail
         have K1':Hid (Keep2 b14 b15 y5 (setCs wa' b14 0 [.int .i64 r1,.int .i64 c1,.slice a1 l1.length k1])):=I (((K0.out).trans (Keep2.of_below HBB.out)).trans (Keep2.of_touch1 (aB wa' b14 0 [.int .i64 r1,.int .i64 c1,.slice a1 l1.length k1])))
         have P1:=I ((P0.out.below HBB.out).set3 (x:=.int .i64 r1) (y:=.int .i64 c1) (z:=.slice a1 l1.length k1))
         have Q1:=I ((Q0.out.below HBB.out).touch (aB wa' b14 0 [.int .i64 r1,.int .i64 c1,.slice a1 l1.length k1]) (.inr HNB.out.2.2.2.2.1))
         have R1:Hid (RepF (setCs wa' b14 0 [.int .i64 r1,.int .i64 c1,.slice a1 l1.length k1]) y5.heap.size (setCs wa' b14 0 [.int .i64 r1,.int .i64 c1,.slice a1 l1.length k1]).heap.size a1 l1.length k1 l1):=I ((RF0.out.touch (aB wa' b14 0 [.int .i64 r1,.int .i64 c1,.slice a1 l1.length k1]) (.inr (by have h:=HNB.out;omega))).bounds (J _) (by rw [aU];exact J _))
         clear q0 q1 q2 q3 q4 q5 RF0 HBB
         change Code.wp _ _ _ _ (setCs wa' b14 0 [.int .i64 r1,.int .i64 c1,.slice a1 l1.length k1])
         generalize setCs wa' b14 0 [.int .i64 r1,.int .i64 c1,.slice a1 l1.length k1]=yw1 at K1' P1 Q1 R1 ⊢
         obtain ⟨⟨ag,av,aw⟩,gb',vb',wb',ob'⟩:=AT.out yw1 K1'.out
         obtain ⟨-,g0,g1,g2,gf⟩:=gb'.three
         obtain ⟨-,v0,v1,v2,vf⟩:=vb'.three
         obtain ⟨-,w0,w1,w2,wf⟩:=wb'.three
         obtain ⟨-,o0,o1,o2,o3,o4,o5,o6,of⟩:=ob'.seven
         clear gf vf wf of gb' vb' wb' ob'
         have KC:=I (gF _ b11 0 b12 0 gr gc ga va gk vk gx.length gx vx g0 g1 g2 (by rw [←(hlw.out _ ag av aw).2];exact v2) ag.see av.see rfl (hlw.out _ ag av aw).2 ag.le)
         have OKC:Hid (okT (eN (Dsc.can ⟨gr,gc,ga,gk,gx⟩) (Dsc.can ⟨vr,vc,va,vk,vx⟩))):=I ((hH ag.okT).1)
         clear ag av aw
         go_wp2_with fail
         refine KC.out.mono fun e wa' h=>?_
         obtain ⟨v,rfl,hr⟩:=RTen.of (T:=eN (Dsc.can ⟨gr,gc,ga,gk,gx⟩) (Dsc.can ⟨vr,vc,va,vk,vx⟩)) h (by simp [fI,eN,cU,gU,cO,Dsc.can])
         obtain ⟨⟨r2,c2,a2,k2,l2⟩,rfl,he,hrr,hb⟩:=hr
         have E2:=I he
         have BX2:=I (BoxN.alloc wa' #[.int .i64 r2,.int .i64 c2,.slice a2 l2.length k2] 37)
         have hbb:=aA hb (aE wa' (.cells #[.int .i64 r2,.int .i64 c2,.slice a2 l2.length k2] 37))
         have K2':Hid (Keep2 b14 b15 y5 (wa'.alloc (.cells #[.int .i64 r2,.int .i64 c2,.slice a2 l2.length k2] 37))):=I ((K1'.out).trans (Keep2.of_below hbb))
         have P2:=I (P1.out.below hbb);have Q2:=I (Q1.out.below hbb)
         have A2:Hid (Dsc.At (⟨r2,c2,a2,k2,l2⟩:Dsc) (wa'.alloc (.cells #[.int .i64 r2,.int .i64 c2,.slice a2 l2.length k2] 37))):=I (Dsc.at_of (by rw [he];exact OKC.out) (hrr.arg.below (aE wa' _)))
         have F2:Hid ((∀b o,a2=some ⟨b,o,none⟩→b≠b14∧b≠b15)∧wa'.heap.size≠b14∧wa'.heap.size≠b15):=I (by
          have h1:=K1'.out.size;have h2:=HNB.out;have h3:=hb.size
          refine ⟨fun b o e=>?_,by omega,by omega⟩
          have h4:=hrr.far A2.out.pos b o e
          omega)
         replace R1:Hid (RepF (wa'.alloc (.cells #[.int .i64 r2,.int .i64 c2,.slice a2 l2.length k2] 37)) y5.heap.size (wa'.alloc (.cells #[.int .i64 r2,.int .i64 c2,.slice a2 l2.length k2] 37)).heap.size a1 l1.length k1 l1):=I ((R1.out.below hbb).bounds (J _) hbb.size)
         clear g0 g1 g2 v0 v1 v2 w0 w1 w2 o0 o1 o2 o3 o4 o5 o6
         clear h he hrr hb hbb KC OKC
         try unfold Dsc.val
         try simp only
         go_upto_region 33 with fail
         have hzz:(wa'.alloc (.cells #[.int .i64 r2,.int .i64 c2,.slice a2 l2.length k2] 37)).heap.size=wa'.heap.size+1:=by simp
         clear hzz
         generalize wa'.alloc (.cells #[.int .i64 r2,.int .i64 c2,.slice a2 l2.length k2] 37)=yw2 at K2' P2 Q2 A2 BX2 R1 ⊢
         generalize wa'.heap.size=bt2 at BX2 F2 ⊢
         have H2:Hid (c2=gc):=I (by have e3:=E2.out;simp [Dsc.can,eN] at e3;omega)
         obtain ⟨⟨ag,av,aw⟩,gb',vb',wb',ob'⟩:=AT.out yw2 K2'.out
         obtain ⟨-,g0,g1,g2,gf⟩:=gb'.three
         obtain ⟨-,v0,v1,v2,vf⟩:=vb'.three
         obtain ⟨-,w0,w1,w2,wf⟩:=wb'.three
         obtain ⟨-,o0,o1,o2,o3,o4,o5,o6,of⟩:=ob'.seven
         clear gf vf wf of gb' vb' wb' ob'
         have KSUM:=I (fun q=>mF (yw2.drewN q) bt2 0 c2 a2 k2 l2.length l2 ((BX2.out.below (below_drewN (O _ _) q)).three.2.2.1) ((BX2.out.below (below_drewN (O _ _) q)).three.2.2.2.1) (A2.out.below (below_drewN (O _ _) q)).see rfl A2.out.le A2.out.c1 A2.out.c2)
         have HGC:=I g1
         clear ag av aw
         clear g0 g1 g2 v0 v1 v2 w0 w1 w2 o0 o1 o2 o3 o4 o5 o6
         refine aL 4 [2] (fun W=>W.cell? ⟨b11,1,none⟩=some (.int .i64 gc)) (fun _ _ _=>False) (fun f args w1 v w2=>DF (bA c2 (sI (l2.map (cn .f32)) c2 l2.length)) w1 v w2) (by kernel_rfl) (by kernel_rfl) HGC.out (fun W q h=>by simpa using h) ?_
         iterate 2 (refine aD (by rfl) HGC.out (fun K hK W hW=>?_);go_simp;refine hK _ ?_;clear hK K hW)
         refine aF (by rfl) HGC.out (fun K hK q0=>?_)
         go_simp
         refine ⟨(KSUM.out q0).mono (fun e w5 h=>by
          obtain ⟨ad,cap,zs,he,hr,hm,hb⟩:=h
          have hl:=hr.out.len
          exact ⟨_,he,ad,cap,zs,by rw [hl],hm.out,by rw [hl];exact hr.out,hb⟩),?_⟩
         rintro v wa' hd
         obtain ⟨a3,k3,l3,rfl,he,hr,hb⟩:=hd
         have HB5:=I (aA (below_drewN (O _ _) q0) hb)
         have S5:Hid (wa'.cell? ⟨b11,1,none⟩=some (.int .i64 gc)):=I ((HB5.out.cell (p:=⟨b11,1,none⟩) (World.block_lt_of_cell? _ _ HGC.out)).trans HGC.out)
         refine ⟨S5.out,hK _ _ ?_⟩
         have E3:=I he
         have RF1:=I (hr.bounds (show y5.heap.size≤_ from Nat.le_trans K2'.out.size (by simp)) (J _))
         clear hK K he hr hb KSUM
         refine aD (by rfl) S5.out (fun K hK W hW=>?_)
         go_simp
         refine hK _ ?_
         clear hK K hW
         refine aP (fun q9=>?_)
         have HBB:=I (aA HB5.out (below_drewN (O _ _) q9))
         have RF0:Hid (RepF (wa'.drewN q9) y5.heap.size (wa'.drewN q9).heap.size a3 l3.length k3 l3):=I ((RF1.out.below (below_drewN (O _ _) q9)).bounds (J _) (by simp))
         have LL3:Hid (l3.length=c2):=I (by have:=congrArg List.length E3.out;rw [List.length_map,aJ] at this;exact this)
         have EE3:Hid (Dsc.can ⟨1,gc,a3,k3,l3⟩=nB (Dsc.can ⟨r2,c2,a2,k2,l2⟩)):=I (by
          have hch:c2=gc:=H2.out
          unfold nB Dsc.can
          simp only
          rw [E3.out,←hch]
          simp)
         clear S5 HB5 RF1 HGC
         generalize wa'.drewN q9=wb' at HBB RF0 ⊢
         obtain ⟨-,q0',q1,q2,qf⟩:=(Q2.out.below HBB.out).three
         have q3:=qf 0;have q4:=qf 1;have q5:=qf 2
         clear qf
         go_wp2_with fail
         have K3':Hid (Keep2 b14 b15 y5 (setCs wb' b15 0 [.int .i64 1,.int .i64 gc,.slice a3 l3.length k3])):=I (((K2'.out).trans (Keep2.of_below HBB.out)).trans (Keep2.of_touch2 (aB wb' b15 0 [.int .i64 1,.int .i64 gc,.slice a3 l3.length k3])))
         have P3:=I ((P2.out.below HBB.out).touch (aB wb' b15 0 [.int .i64 1,.int .i64 gc,.slice a3 l3.length k3]) (.inl HNB.out.2.2.2.2.1))
         have Q3':BoxN (setCs wb' b15 0 [.int .i64 1,.int .i64 gc,.slice a3 l3.length k3]) b15 [.int .i64 1,.int .i64 gc,.slice a3 l3.length k3]:=(Q2.out.below HBB.out).set3 (x:=.int .i64 1) (y:=.int .i64 gc) (z:=.slice a3 l3.length k3)
         have Q3:Hid (BoxN (setCs wb' b15 0 [.int .i64 1,.int .i64 gc,.slice a3 l3.length k3]) b15 (Dsc.cells ⟨1,gc,a3,k3,l3⟩)):=I Q3'
         clear Q3'
         have R3:Hid (RepF (setCs wb' b15 0 [.int .i64 1,.int .i64 gc,.slice a3 l3.length k3]) y5.heap.size (setCs wb' b15 0 [.int .i64 1,.int .i64 gc,.slice a3 l3.length k3]).heap.size a3 l3.length k3 l3):=I ((RF0.out.touch (aB wb' b15 0 [.int .i64 1,.int .i64 gc,.slice a3 l3.length k3]) (.inr (by have h:=HNB.out;omega))).bounds (J _) (by rw [aU];exact J _))
         replace R1:Hid (RepF (setCs wb' b15 0 [.int .i64 1,.int .i64 gc,.slice a3 l3.length k3]) y5.heap.size (setCs wb' b15 0 [.int .i64 1,.int .i64 gc,.slice a3 l3.length k3]).heap.size a1 l1.length k1 l1):=I (((R1.out.below HBB.out).touch (aB wb' b15 0 [.int .i64 1,.int .i64 gc,.slice a3 l3.length k3]) (.inr (by have h:=HNB.out;omega))).bounds (J _) (by rw [aU];exact HBB.out.size))
         have HPB:Hid (bU 4 (Dsc.can ⟨gr,gc,ga,gk,gx⟩) (Dsc.can ⟨vr,vc,va,vk,vx⟩)=nB (Dsc.can ⟨r2,c2,a2,k2,l2⟩)):=I (by rw [E2.out];simp [bU])
         go_meet
         exact ⟨rfl,rfl,(⟨r1,c1,a1,k1,l1⟩:Dsc),(⟨1,gc,a3,k3,l3⟩:Dsc),I ⟨⟨P3.out,Q3.out⟩,⟨K3'.out.below YW.out YW.out.size HNB.out.2.2.2.2.2.2 (Nat.le_trans HNB.out.2.2.2.2.2.2 (Nat.le_of_lt HNB.out.2.2.2.2.1)),K3'.out.size⟩,⟨by rw [E1.out];simp [bC,Dsc.can],.inr R1.out⟩,fun _=>⟨EE3.out.trans HPB.out.symm,.inr R3.out⟩⟩⟩
       ·as_aux_lemma =>
         go_upto_region 35 with fail
         obtain ⟨⟨ag,av,aw⟩,gb',vb',wb',ob'⟩:=AT.out y5 K0.out
         obtain ⟨-,g0,g1,g2,gf⟩:=gb'.three
         obtain ⟨-,v0,v1,v2,vf⟩:=vb'.three
         obtain ⟨-,w0,w1,w2,wf⟩:=wb'.three
         obtain ⟨-,o0,o1,o2,o3,o4,o5,o6,of⟩:=ob'.seven
         clear gf vf wf of gb' vb' wb' ob'
         have KC:=I (nZ _ b11 0 gr gc ga gk gx.length gx q g0 g1 g2 ag.see rfl ag.le)
         clear ag av aw
         go_wp2_with fail
         refine KC.out.mono fun e wa' h=>?_
         obtain ⟨v,rfl,hr⟩:=RTen.of (T:=⟨gr,gc,oL (gx.map (cn .f32)) (cn .f32 q) gx.length⟩) h (by simp [fI,eN,cU,gU,cO,Dsc.can])
         obtain ⟨⟨r1,c1,a1,k1,l1⟩,rfl,he,hrr,hb⟩:=hr
         have E1:=I he
         have RF0:=I (hrr.bounds (show y5.heap.size≤_ from K0.out.size) (J _))
         have HBB:=I hb
         clear g0 g1 g2 v0 v1 v2 w0 w1 w2 o0 o1 o2 o3 o4 o5 o6
         clear h he hrr hb KC
         obtain ⟨-,q0,q1,q2,qf⟩:=(P0.out.below HBB.out).three
         have q3:=qf 0;have q4:=qf 1;have q5:=qf 2
         clear qf
         try unfold Dsc.val
         try simp only
         go_wp2_with fail
         have K1':Hid (Keep2 b14 b15 y5 (setCs wa' b14 0 [.int .i64 r1,.int .i64 c1,.slice a1 l1.length k1])):=I (((K0.out).trans (Keep2.of_below HBB.out)).trans (Keep2.of_touch1 (aB wa' b14 0 [.int .i64 r1,.int .i64 c1,.slice a1 l1.length k1])))
         have P1:=I ((P0.out.below HBB.out).set3 (x:=.int .i64 r1) (y:=.int .i64 c1) (z:=.slice a1 l1.length k1))
         have Q1:=I ((Q0.out.below HBB.out).touch (aB wa' b14 0 [.int .i64 r1,.int .i64 c1,.slice a1 l1.length k1]) (.inr HNB.out.2.2.2.2.1))
         have R1:Hid (RepF (setCs wa' b14 0 [.int .i64 r1,.int .i64 c1,.slice a1 l1.length k1]) y5.heap.size (setCs wa' b14 0 [.int .i64 r1,.int .i64 c1,.slice a1 l1.length k1]).heap.size a1 l1.length k1 l1):=I ((RF0.out.touch (aB wa' b14 0 [.int .i64 r1,.int .i64 c1,.slice a1 l1.length k1]) (.inr (by have h:=HNB.out;omega))).bounds (J _) (by rw [aU];exact J _))
         go_meet
         exact ⟨rfl,rfl,(⟨r1,c1,a1,k1,l1⟩:Dsc),(⟨0,0,none,0,[]⟩:Dsc),I ⟨⟨P1.out,Q1.out⟩,⟨K1'.out.below YW.out YW.out.size HNB.out.2.2.2.2.2.2 (Nat.le_trans HNB.out.2.2.2.2.2.2 (Nat.le_of_lt HNB.out.2.2.2.2.1)),K1'.out.size⟩,⟨by rw [E1.out];simp [bC,Dsc.can],.inr R1.out⟩,fun h=>absurd h (by decide)⟩⟩
       ·as_aux_lemma =>
         have hsh:Hid ((gr=vr∧gc=wy)∧vc=wr'):=I (by
          have:=HHS.out
          simp only [aQ,TenP.sh,Dsc.can] at this
          by_cases h6:((vc:Nat):Int)=((wr':Nat):Int) <;> simp [h6] at this
          omega)
         go_upto_region 37 with fail
         obtain ⟨⟨ag,av,aw⟩,gb',vb',wb',ob'⟩:=AT.out y5 K0.out
         obtain ⟨-,g0,g1,g2,gf⟩:=gb'.three
         obtain ⟨-,v0,v1,v2,vf⟩:=vb'.three
         obtain ⟨-,w0,w1,w2,wf⟩:=wb'.three
         obtain ⟨-,o0,o1,o2,o3,o4,o5,o6,of⟩:=ob'.seven
         clear gf vf wf of gb' vb' wb' ob'
         have KC:=I (iY _ b13 0 wr' wy wa wk wx.length wx w0 w1 w2 aw.see rfl aw.r2 aw.c2 aw.len)
         have OKC:Hid (okT (cU (Dsc.can ⟨wr',wy,wa,wk,wx⟩))):=I (jR aw.okT)
         clear ag av aw
         go_wp2_with fail
         refine KC.out.mono fun e wa' h=>?_
         obtain ⟨v,rfl,hr⟩:=RTen.of (T:=cU (Dsc.can ⟨wr',wy,wa,wk,wx⟩)) h (by simp [fI,eN,cU,gU,cO,Dsc.can])
         obtain ⟨⟨r1,c1,a1,k1,l1⟩,rfl,he,hrr,hb⟩:=hr
         have E1:=I he
         have BX1:=I (BoxN.alloc wa' #[.int .i64 r1,.int .i64 c1,.slice a1 l1.length k1] 37)
         have hbb:=aA hb (aE wa' (.cells #[.int .i64 r1,.int .i64 c1,.slice a1 l1.length k1] 37))
         have K1':Hid (Keep2 b14 b15 y5 (wa'.alloc (.cells #[.int .i64 r1,.int .i64 c1,.slice a1 l1.length k1] 37))):=I ((K0.out).trans (Keep2.of_below hbb))
         have P1:=I (P0.out.below hbb);have Q1:=I (Q0.out.below hbb)
         have A1:Hid (Dsc.At (⟨r1,c1,a1,k1,l1⟩:Dsc) (wa'.alloc (.cells #[.int .i64 r1,.int .i64 c1,.slice a1 l1.length k1] 37))):=I (Dsc.at_of (by rw [he];exact OKC.out) (hrr.arg.below (aE wa' _)))
         have F1:Hid ((∀b o,a1=some ⟨b,o,none⟩→b≠b14∧b≠b15)∧wa'.heap.size≠b14∧wa'.heap.size≠b15):=I (by
          have h1:=K0.out.size;have h2:=HNB.out;have h3:=hb.size
          refine ⟨fun b o e=>?_,by omega,by omega⟩
          have h4:=hrr.far A1.out.pos b o e
          omega)
         clear g0 g1 g2 v0 v1 v2 w0 w1 w2 o0 o1 o2 o3 o4 o5 o6
         clear h he hrr hb hbb KC OKC
         try unfold Dsc.val
         try simp only
         go_upto_region 38 with fail
         have hzz:(wa'.alloc (.cells #[.int .i64 r1,.int .i64 c1,.slice a1 l1.length k1] 37)).heap.size=wa'.heap.size+1:=by simp
         clear hzz
         generalize wa'.alloc (.cells #[.int .i64 r1,.int .i64 c1,.slice a1 l1.length k1] 37)=yw1 at K1' P1 Q1 A1 BX1  ⊢
         generalize wa'.heap.size=bt1 at BX1 F1 ⊢
         obtain ⟨⟨ag,av,aw⟩,gb',vb',wb',ob'⟩:=AT.out yw1 K1'.out
         obtain ⟨-,g0,g1,g2,gf⟩:=gb'.three
         obtain ⟨-,v0,v1,v2,vf⟩:=vb'.three
         obtain ⟨-,w0,w1,w2,wf⟩:=wb'.three
         obtain ⟨-,o0,o1,o2,o3,o4,o5,o6,of⟩:=ob'.seven
         clear gf vf wf of gb' vb' wb' ob'
         have KC:=I (iY _ b12 0 vr vc va vk vx.length vx v0 v1 v2 av.see rfl av.r2 av.c2 av.len)
         have OKC:Hid (okT (cU (Dsc.can ⟨vr,vc,va,vk,vx⟩))):=I (jR av.okT)
         clear ag av aw
         go_wp2_with fail
         refine KC.out.mono fun e wa' h=>?_
         obtain ⟨v,rfl,hr⟩:=RTen.of (T:=cU (Dsc.can ⟨vr,vc,va,vk,vx⟩)) h (by simp [fI,eN,cU,gU,cO,Dsc.can])
         obtain ⟨⟨r2,c2,a2,k2,l2⟩,rfl,he,hrr,hb⟩:=hr
         have E2:=I he
         have BX2:=I (BoxN.alloc wa' #[.int .i64 r2,.int .i64 c2,.slice a2 l2.length k2] 37)
         have hbb:=aA hb (aE wa' (.cells #[.int .i64 r2,.int .i64 c2,.slice a2 l2.length k2] 37))
         have K2':Hid (Keep2 b14 b15 y5 (wa'.alloc (.cells #[.int .i64 r2,.int .i64 c2,.slice a2 l2.length k2] 37))):=I ((K1'.out).trans (Keep2.of_below hbb))
         have P2:=I (P1.out.below hbb);have Q2:=I (Q1.out.below hbb)
         have A2:Hid (Dsc.At (⟨r2,c2,a2,k2,l2⟩:Dsc) (wa'.alloc (.cells #[.int .i64 r2,.int .i64 c2,.slice a2 l2.length k2] 37))):=I (Dsc.at_of (by rw [he];exact OKC.out) (hrr.arg.below (aE wa' _)))
         have F2:Hid ((∀b o,a2=some ⟨b,o,none⟩→b≠b14∧b≠b15)∧wa'.heap.size≠b14∧wa'.heap.size≠b15):=I (by
          have h1:=K1'.out.size;have h2:=HNB.out;have h3:=hb.size
          refine ⟨fun b o e=>?_,by omega,by omega⟩
          have h4:=hrr.far A2.out.pos b o e
          omega)
         replace BX1:=I (BX1.out.below hbb);replace A1:=I (A1.out.below hbb)
         clear g0 g1 g2 v0 v1 v2 w0 w1 w2 o0 o1 o2 o3 o4 o5 o6
         clear h he hrr hb hbb KC OKC
         try unfold Dsc.val
         try simp only
         go_upto_region 39 with fail
         have hzz:(wa'.alloc (.cells #[.int .i64 r2,.int .i64 c2,.slice a2 l2.length k2] 37)).heap.size=wa'.heap.size+1:=by simp
         clear hzz
         generalize wa'.alloc (.cells #[.int .i64 r2,.int .i64 c2,.slice a2 l2.length k2] 37)=yw2 at K2' P2 Q2 A2 BX2 BX1 A1 ⊢
         generalize wa'.heap.size=bt2 at BX2 F2 ⊢
         have H1:Hid (r1=gc∧c1=wr'):=I (by have e3:=E1.out;have h:=hsh.out;simp [Dsc.can,cU] at e3;omega)
         have H2:Hid (c2=gr∧r2=vc):=I (by have e3:=E2.out;have h:=hsh.out;simp [Dsc.can,cU] at e3;omega)
         obtain ⟨⟨ag,av,aw⟩,gb',vb',wb',ob'⟩:=AT.out yw2 K2'.out
         obtain ⟨-,g0,g1,g2,gf⟩:=gb'.three
         obtain ⟨-,v0,v1,v2,vf⟩:=vb'.three
         obtain ⟨-,w0,w1,w2,wf⟩:=wb'.three
         obtain ⟨-,o0,o1,o2,o3,o4,o5,o6,of⟩:=ob'.seven
         clear gf vf wf of gb' vb' wb' ob'
         have KC:=I (jN _ b11 0 bt1 0 gr gc c1 ga a1 gk k1 gx.length l1.length gx l1 g0 g1 g2 BX1.out.three.2.2.1 BX1.out.three.2.2.2.1 ag.see A1.out.see rfl rfl ag.r2 ag.c2 A1.out.c2 ag.len (by have e1:=A1.out.len;simp only at e1;rw [e1,H1.out.1]))
         clear ag av aw
         go_wp2_with fail
         refine KC.out.mono fun e wa' h=>?_
         obtain ⟨v,rfl,hr⟩:=RTen.of (T:=gU (Dsc.can ⟨gr,gc,ga,gk,gx⟩) (Dsc.can ⟨r1,c1,a1,k1,l1⟩)) h (by simp [fI,eN,cU,gU,cO,Dsc.can])
         obtain ⟨⟨r3,c3,a3,k3,l3⟩,rfl,he,hrr,hb⟩:=hr
         have E3:=I he
         have RF0:=I (hrr.bounds (show y5.heap.size≤_ from K2'.out.size) (J _))
         have HBB:=I hb
         clear g0 g1 g2 v0 v1 v2 w0 w1 w2 o0 o1 o2 o3 o4 o5 o6
         clear h he hrr hb KC
         obtain ⟨-,q0,q1,q2,qf⟩:=(P2.out.below HBB.out).three
         have q3:=qf 0;have q4:=qf 1;have q5:=qf 2
         clear qf
         try unfold Dsc.val
         try simp only
         go_upto_region 40 with fail
         have K3':Hid (Keep2 b14 b15 y5 (setCs wa' b14 0 [.int .i64 r3,.int .i64 c3,.slice a3 l3.length k3])):=I (((K2'.out).trans (Keep2.of_below HBB.out)).trans (Keep2.of_touch1 (aB wa' b14 0 [.int .i64 r3,.int .i64 c3,.slice a3 l3.length k3])))
         have P3:=I ((P2.out.below HBB.out).set3 (x:=.int .i64 r3) (y:=.int .i64 c3) (z:=.slice a3 l3.length k3))
         have Q3:=I ((Q2.out.below HBB.out).touch (aB wa' b14 0 [.int .i64 r3,.int .i64 c3,.slice a3 l3.length k3]) (.inr HNB.out.2.2.2.2.1))
         have R3:Hid (RepF (setCs wa' b14 0 [.int .i64 r3,.int .i64 c3,.slice a3 l3.length k3]) y5.heap.size (setCs wa' b14 0 [.int .i64 r3,.int .i64 c3,.slice a3 l3.length k3]).heap.size a3 l3.length k3 l3):=I ((RF0.out.touch (aB wa' b14 0 [.int .i64 r3,.int .i64 c3,.slice a3 l3.length k3]) (.inr (by have h:=HNB.out;omega))).bounds (J _) (by rw [aU];exact J _))
         have KT:Keep2 b14 b15 yw2 (setCs wa' b14 0 [.int .i64 r3,.int .i64 c3,.slice a3 l3.length k3]):=(Keep2.of_below HBB.out).trans (Keep2.of_touch1 (aB wa' b14 0 [.int .i64 r3,.int .i64 c3,.slice a3 l3.length k3]))
         replace BX1:=I (BX1.out.keep KT F1.out.2.1 F1.out.2.2)
         replace A1:=I (A1.out.keep KT F1.out.1)
         clear KT
         have KT:Keep2 b14 b15 yw2 (setCs wa' b14 0 [.int .i64 r3,.int .i64 c3,.slice a3 l3.length k3]):=(Keep2.of_below HBB.out).trans (Keep2.of_touch1 (aB wa' b14 0 [.int .i64 r3,.int .i64 c3,.slice a3 l3.length k3]))
         replace BX2:=I (BX2.out.keep KT F2.out.2.1 F2.out.2.2)
         replace A2:=I (A2.out.keep KT F2.out.1)
         clear KT
         clear q0 q1 q2 q3 q4 q5 RF0 HBB
         change Code.wp _ _ _ _ (setCs wa' b14 0 [.int .i64 r3,.int .i64 c3,.slice a3 l3.length k3])
         generalize setCs wa' b14 0 [.int .i64 r3,.int .i64 c3,.slice a3 l3.length k3]=yw3 at K3' P3 Q3 R3 BX1 A1 BX2 A2 ⊢
         obtain ⟨⟨ag,av,aw⟩,gb',vb',wb',ob'⟩:=AT.out yw3 K3'.out
         obtain ⟨-,g0,g1,g2,gf⟩:=gb'.three
         obtain ⟨-,v0,v1,v2,vf⟩:=vb'.three
         obtain ⟨-,w0,w1,w2,wf⟩:=wb'.three
         obtain ⟨-,o0,o1,o2,o3,o4,o5,o6,of⟩:=ob'.seven
         clear gf vf wf of gb' vb' wb' ob'
         have KC:=I (jN _ bt2 0 b11 0 r2 c2 gc a2 ga k2 gk l2.length gx.length l2 gx BX2.out.three.2.1 BX2.out.three.2.2.1 BX2.out.three.2.2.2.1 g1 g2 A2.out.see ag.see rfl rfl A2.out.r2 A2.out.c2 ag.c2 A2.out.len (by have e1:=ag.len;simp only at e1;rw [e1,H2.out.1]))
         clear ag av aw
         go_wp2_with fail
         refine KC.out.mono fun e wa' h=>?_
         obtain ⟨v,rfl,hr⟩:=RTen.of (T:=gU (Dsc.can ⟨r2,c2,a2,k2,l2⟩) (Dsc.can ⟨gr,gc,ga,gk,gx⟩)) h (by simp [fI,eN,cU,gU,cO,Dsc.can])
         obtain ⟨⟨r4,c4,a4,k4,l4⟩,rfl,he,hrr,hb⟩:=hr
         have E4:=I he
         have RF0:=I (hrr.bounds (show y5.heap.size≤_ from K3'.out.size) (J _))
         have HBB:=I hb
         clear g0 g1 g2 v0 v1 v2 w0 w1 w2 o0 o1 o2 o3 o4 o5 o6
         clear h he hrr hb KC
         obtain ⟨-,q0,q1,q2,qf⟩:=(Q3.out.below HBB.out).three
         have q3:=qf 0;have q4:=qf 1;have q5:=qf 2
         clear qf
         try unfold Dsc.val
         try simp only
         go_wp2_with fail
         have K4':Hid (Keep2 b14 b15 y5 (setCs wa' b15 0 [.int .i64 r4,.int .i64 c4,.slice a4 l4.length k4])):=I (((K3'.out).trans (Keep2.of_below HBB.out)).trans (Keep2.of_touch2 (aB wa' b15 0 [.int .i64 r4,.int .i64 c4,.slice a4 l4.length k4])))
         have P4:=I ((P3.out.below HBB.out).touch (aB wa' b15 0 [.int .i64 r4,.int .i64 c4,.slice a4 l4.length k4]) (.inl HNB.out.2.2.2.2.1))
         have Q4:=I ((Q3.out.below HBB.out).set3 (x:=.int .i64 r4) (y:=.int .i64 c4) (z:=.slice a4 l4.length k4))
         have R4:Hid (RepF (setCs wa' b15 0 [.int .i64 r4,.int .i64 c4,.slice a4 l4.length k4]) y5.heap.size (setCs wa' b15 0 [.int .i64 r4,.int .i64 c4,.slice a4 l4.length k4]).heap.size a4 l4.length k4 l4):=I ((RF0.out.touch (aB wa' b15 0 [.int .i64 r4,.int .i64 c4,.slice a4 l4.length k4]) (.inr (by have h:=HNB.out;omega))).bounds (J _) (by rw [aU];exact J _))
         replace R3:Hid (RepF (setCs wa' b15 0 [.int .i64 r4,.int .i64 c4,.slice a4 l4.length k4]) y5.heap.size (setCs wa' b15 0 [.int .i64 r4,.int .i64 c4,.slice a4 l4.length k4]).heap.size a3 l3.length k3 l3):=I (((R3.out.below HBB.out).touch (aB wa' b15 0 [.int .i64 r4,.int .i64 c4,.slice a4 l4.length k4]) (.inr (by have h:=HNB.out;omega))).bounds (J _) (by rw [aU];exact HBB.out.size))
         have KT:Keep2 b14 b15 yw3 (setCs wa' b15 0 [.int .i64 r4,.int .i64 c4,.slice a4 l4.length k4]):=(Keep2.of_below HBB.out).trans (Keep2.of_touch2 (aB wa' b15 0 [.int .i64 r4,.int .i64 c4,.slice a4 l4.length k4]))
         replace BX1:=I (BX1.out.keep KT F1.out.2.1 F1.out.2.2)
         replace A1:=I (A1.out.keep KT F1.out.1)
         clear KT
         have KT:Keep2 b14 b15 yw3 (setCs wa' b15 0 [.int .i64 r4,.int .i64 c4,.slice a4 l4.length k4]):=(Keep2.of_below HBB.out).trans (Keep2.of_touch2 (aB wa' b15 0 [.int .i64 r4,.int .i64 c4,.slice a4 l4.length k4]))
         replace BX2:=I (BX2.out.keep KT F2.out.2.1 F2.out.2.2)
         replace A2:=I (A2.out.keep KT F2.out.1)
         clear KT
         go_meet
         exact ⟨rfl,rfl,(⟨r3,c3,a3,k3,l3⟩:Dsc),(⟨r4,c4,a4,k4,l4⟩:Dsc),I ⟨⟨P4.out,Q4.out⟩,⟨K4'.out.below YW.out YW.out.size HNB.out.2.2.2.2.2.2 (Nat.le_trans HNB.out.2.2.2.2.2.2 (Nat.le_of_lt HNB.out.2.2.2.2.1)),K4'.out.size⟩,⟨by rw [E3.out,E1.out];simp [bC],.inr R3.out⟩,fun _=>⟨by rw [E4.out,E2.out];simp [bU],.inr R4.out⟩⟩⟩
       ·as_aux_lemma =>
         go_upto_region 42 with fail
         obtain ⟨⟨ag,av,aw⟩,gb',vb',wb',ob'⟩:=AT.out y5 K0.out
         obtain ⟨-,g0,g1,g2,gf⟩:=gb'.three
         obtain ⟨-,v0,v1,v2,vf⟩:=vb'.three
         obtain ⟨-,w0,w1,w2,wf⟩:=wb'.three
         obtain ⟨-,o0,o1,o2,o3,o4,o5,o6,of⟩:=ob'.seven
         clear gf vf wf of gb' vb' wb' ob'
         have KC:=I (iY _ b11 0 gr gc ga gk gx.length gx g0 g1 g2 ag.see rfl ag.r2 ag.c2 ag.len)
         clear ag av aw
         go_wp2_with fail
         refine KC.out.mono fun e wa' h=>?_
         obtain ⟨v,rfl,hr⟩:=RTen.of (T:=cU (Dsc.can ⟨gr,gc,ga,gk,gx⟩)) h (by simp [fI,eN,cU,gU,cO,Dsc.can])
         obtain ⟨⟨r1,c1,a1,k1,l1⟩,rfl,he,hrr,hb⟩:=hr
         have E1:=I he
         have RF0:=I (hrr.bounds (show y5.heap.size≤_ from K0.out.size) (J _))
         have HBB:=I hb
         clear g0 g1 g2 v0 v1 v2 w0 w1 w2 o0 o1 o2 o3 o4 o5 o6
         clear h he hrr hb KC
         obtain ⟨-,q0,q1,q2,qf⟩:=(P0.out.below HBB.out).three
         have q3:=qf 0;have q4:=qf 1;have q5:=qf 2
         clear qf
         try unfold Dsc.val
         try simp only
         go_wp2_with fail
         have K1':Hid (Keep2 b14 b15 y5 (setCs wa' b14 0 [.int .i64 r1,.int .i64 c1,.slice a1 l1.length k1])):=I (((K0.out).trans (Keep2.of_below HBB.out)).trans (Keep2.of_touch1 (aB wa' b14 0 [.int .i64 r1,.int .i64 c1,.slice a1 l1.length k1])))
         have P1:=I ((P0.out.below HBB.out).set3 (x:=.int .i64 r1) (y:=.int .i64 c1) (z:=.slice a1 l1.length k1))
         have Q1:=I ((Q0.out.below HBB.out).touch (aB wa' b14 0 [.int .i64 r1,.int .i64 c1,.slice a1 l1.length k1]) (.inr HNB.out.2.2.2.2.1))
         have R1:Hid (RepF (setCs wa' b14 0 [.int .i64 r1,.int .i64 c1,.slice a1 l1.length k1]) y5.heap.size (setCs wa' b14 0 [.int .i64 r1,.int .i64 c1,.slice a1 l1.length k1]).heap.size a1 l1.length k1 l1):=I ((RF0.out.touch (aB wa' b14 0 [.int .i64 r1,.int .i64 c1,.slice a1 l1.length k1]) (.inr (by have h:=HNB.out;omega))).bounds (J _) (by rw [aU];exact J _))
         go_meet
         exact ⟨rfl,rfl,(⟨r1,c1,a1,k1,l1⟩:Dsc),(⟨0,0,none,0,[]⟩:Dsc),I ⟨⟨P1.out,Q1.out⟩,⟨K1'.out.below YW.out YW.out.size HNB.out.2.2.2.2.2.2 (Nat.le_trans HNB.out.2.2.2.2.2.2 (Nat.le_of_lt HNB.out.2.2.2.2.1)),K1'.out.size⟩,⟨by rw [E1.out];simp [bC],.inr R1.out⟩,fun h=>absurd h (by decide)⟩⟩
       ·as_aux_lemma =>
         have hsh:Hid (gr=vr∧gc=vc):=I (by have:=HHS.out;simp [aQ,TenP.sh,Dsc.can] at this;omega)
         have HLG:Hid (gx.length=vx.length):=I (by have h1:=(AT.out y5 K0.out).1.2.1.len;have h2:=(AT.out y5 K0.out).1.1.len;have h3:=hsh.out;simp only at h1 h2;rw [h1,h2,h3.1,h3.2])
         have HVL0:Hid (1≤vx.length∧vx.length≤256):=I ⟨(AT.out y5 K0.out).1.2.1.pos,(AT.out y5 K0.out).1.2.1.le⟩
         go_upto_region 44 with fail
         obtain ⟨⟨ag,av,aw⟩,gb',vb',wb',ob'⟩:=AT.out y5 K0.out
         obtain ⟨-,g0,g1,g2,gf⟩:=gb'.three
         obtain ⟨-,v0,v1,v2,vf⟩:=vb'.three
         obtain ⟨-,w0,w1,w2,wf⟩:=wb'.three
         obtain ⟨-,o0,o1,o2,o3,o4,o5,o6,of⟩:=ob'.seven
         clear gf vf wf of gb' vb' wb' ob'
         have KC:=I (fC y5 vr vc 0 (by decide) av.r2 av.c2)
         clear ag av aw
         go_wp2_with fail
         refine KC.out.mono fun e wa' h=>?_
         obtain ⟨v,rfl,hr⟩:=RTen.of (T:=cO (Dsc.can ⟨vr,vc,va,vk,vx⟩) 0) h (by have h:=(AT.out y5 K0.out).1.2.1.len;unfold cO Dsc.can;simp only at h ⊢;rw [List.length_map,h,bT])
         obtain ⟨⟨r1,c1,a1,k1,l1⟩,rfl,he,hrr,hb⟩:=hr
         have E1:=I he
         have RF0:=I (hrr.bounds (show y5.heap.size≤_ from K0.out.size) (J _))
         have HBB:=I hb
         clear g0 g1 g2 v0 v1 v2 w0 w1 w2 o0 o1 o2 o3 o4 o5 o6
         clear h he hrr hb KC
         obtain ⟨-,q0,q1,q2,qf⟩:=(P0.out.below HBB.out).three
         have q3:=qf 0;have q4:=qf 1;have q5:=qf 2
         clear qf
         try unfold Dsc.val
         try simp only
         go_wp2_with fail
         have K1':Hid (Keep2 b14 b15 y5 (setCs wa' b14 0 [.int .i64 r1,.int .i64 c1,.slice a1 l1.length k1])):=I (((K0.out).trans (Keep2.of_below HBB.out)).trans (Keep2.of_touch1 (aB wa' b14 0 [.int .i64 r1,.int .i64 c1,.slice a1 l1.length k1])))
         have P1:=I ((P0.out.below HBB.out).set3 (x:=.int .i64 r1) (y:=.int .i64 c1) (z:=.slice a1 l1.length k1))
         have Q1:=I ((Q0.out.below HBB.out).touch (aB wa' b14 0 [.int .i64 r1,.int .i64 c1,.slice a1 l1.length k1]) (.inr HNB.out.2.2.2.2.1))
         have R1:Hid (RepF (setCs wa' b14 0 [.int .i64 r1,.int .i64 c1,.slice a1 l1.length k1]) y5.heap.size (setCs wa' b14 0 [.int .i64 r1,.int .i64 c1,.slice a1 l1.length k1]).heap.size a1 l1.length k1 l1):=I ((RF0.out.touch (aB wa' b14 0 [.int .i64 r1,.int .i64 c1,.slice a1 l1.length k1]) (.inr (by have h:=HNB.out;omega))).bounds (J _) (by rw [aU];exact J _))
         clear q0 q1 q2 q3 q4 q5 RF0 HBB
         change Code.wp _ _ _ _ (setCs wa' b14 0 [.int .i64 r1,.int .i64 c1,.slice a1 l1.length k1])
         generalize setCs wa' b14 0 [.int .i64 r1,.int .i64 c1,.slice a1 l1.length k1]=yw1 at K1' P1 Q1 R1 ⊢
         obtain ⟨MK,hMK⟩:∃F:Nat→Nat,F=fun i=>iH ((vx.map (cn .f32)).getD i 0) ((gx.map (cn .f32)).getD i 0):=⟨_,rfl⟩
         obtain ⟨m,hm⟩:∃m,m=vx.length:=⟨_,rfl⟩
         have HMK:=I hMK;have HM:=I hm
         have HE1:Hid ((l1.map (cn .f32)=bA m (fun i=>if i < 0 then MK i else 0)∧l1.length=m)∧r1=vr∧c1=vc):=I (by
          have h:=E1.out
          simp only [Dsc.can,cO,TenP.mk.injEq,List.length_map,←hm] at h
          have hl:l1.length=m:=by have h2:=congrArg List.length h.2.2;rw [List.length_map,mX] at h2;exact h2
          refine ⟨⟨?_,hl⟩,by have:=h.1;omega,by have:=h.2.1;omega⟩
          rw [h.2.2]
          exact lF fun i hi=>(if_neg (Nat.not_lt_zero i)).symm)
         clear hMK hm
         obtain ⟨g1,hg1,hg1lo,-,-,-⟩:=R1.out.open (by rw [HE1.out.1.2,HM.out];exact HVL0.out.1)
         subst hg1
         have HG1:Hid (y5.heap.size≤g1∧(g1≠b14∧g1≠b15)):=I (by have:=HNB.out;omega)
         clear hg1lo
         go_loopw [19] (fun i wt => ∃k:Nat,i=.int .i64 k∧k≤m∧∃zs:List Nat,Hid (RepF wt y5.heap.size wt.heap.size (some ⟨g1,0,none⟩) l1.length k1 zs)∧Hid (zs.map (cn .f32)=bA m (fun i=>if i < k then MK i else 0))∧Hid (BoxN wt b14 [.int .i64 r1,.int .i64 c1,.slice (some ⟨g1,0,none⟩) l1.length k1])∧Hid (BoxN wt b15 [.int .i64 0,.int .i64 0,.slice none 0 0])∧Hid (Keep2 b14 b15 y5 wt)) (fun i _=>m - (intOf i).toNat)
         case atStart=>exact ⟨0,rfl,Nat.zero_le _,l1,R1,I HE1.out.1.1,P1,Q1,K1'⟩
         case round =>
          clear R1 P1 Q1 K1'
          obtain ⟨k,rfl,hk,zs,HR,HZ,HP,HQ,HK⟩:=hrel
          by_cases hlt:k < m
          ·obtain ⟨⟨ag,av,aw⟩,gb',vb',wb',ob'⟩:=AT.out wr HK.out
           obtain ⟨-,g0,g1',g2,gf⟩:=gb'.three
           obtain ⟨-,v0,v1,v2,vf⟩:=vb'.three
           clear gf vf gb' vb' wb' ob' aw v0 v1 g0 g1'
           have hkv:k < vx.length:=by rw [←HM.out];exact hlt
           have hkg:k < gx.length:=by rw [HLG.out];exact hkv
           obtain ⟨bv,ov,hva,hvl,hvc⟩:=av.see.spot (k:=k) hkv
           obtain ⟨bg,og,hga,hgl,hgc⟩:=ag.see.spot (k:=k) hkg
           replace hva:va=some ⟨bv,ov,none⟩:=hva
           replace hga:ga=some ⟨bg,og,none⟩:=hga
           have d0:=hvc k hkv
           have d1:=hgc k hkg
           rw [hva] at v2
           rw [hga] at g2
           have hxl:vx.length≤256:=av.le
           have hlm:(vx.length:Int)=(m:Int):=by rw [HM.out]
           obtain ⟨x,hx⟩:∃x,x=vx.getD k 0:=⟨_,rfl⟩
           obtain ⟨y,hy⟩:∃y,y=gx.getD k 0:=⟨_,rfl⟩
           have HYL:Hid (y < 4294967296):=I (by rw [hy];exact ag.see.lt _ (iB (k:=k) hkg))
           have HMKK:Hid (MK k=iH x (cn .f32 y)):=I (by
            rw [HMK.out]
            show iH ((vx.map (cn .f32)).getD k 0) ((gx.map (cn .f32)).getD k 0) = _
            rw [bO,bO,←hx,←hy,Dc])
           replace d0:wr.cell? ⟨bv,ov+k,none⟩=some (.float .f32 x):=by rw [hx];exact d0
           replace d1:wr.cell? ⟨bg,og+k,none⟩=some (.float .f32 y):=by rw [hy];exact d1
           clear hvc hgc hva hga hx hy ag av hvl
           have hkw:k < maxLen:=by unfold maxLen;omega
           cases ho:(FloatKind.f32.format.order x 0 == some .gt)
           ·go_wp2
            go_roundw
            case rel =>
             exact ⟨k+1,by go_num,hlt,zs,HR,I (by
              rw [HZ.out]
              refine lF fun i hi=>?_
              by_cases e:i=k
              ·subst e
               rw [if_neg (Nat.lt_irrefl _),if_pos (Nat.lt_succ_self _),HMKK.out]
               unfold iH;rw [ho,if_neg (by decide)]
              ·by_cases e2:i < k
               ·rw [if_pos e2,if_pos (by omega)]
               ·rw [if_neg e2,if_neg (by omega)]),HP,HQ,HK⟩
            case measure=>simp [intOf];omega
           ·go_upto_region 49 with fail
            obtain ⟨-,p0,p1,p2,pf⟩:=HP.out.three
            have S0:Hid ((fun W=>(W.cell? ⟨b14,2,none⟩=some (.slice (some ⟨g1,0,none⟩) l1.length k1)∧W.cell? ⟨b11,2,none⟩=some (.slice (some ⟨bg,og,none⟩) gx.length gk))∧W.cell? ⟨bg,og+k,none⟩=some (.float .f32 y)) wr):=I ⟨⟨p2,g2⟩,d1⟩
            have hl1m:(l1.length:Int)=(m:Int):=by rw [HE1.out.1.2]
            have hlgm:(gx.length:Int)=(m:Int):=by rw [HLG.out,←HM.out]
            clear p0 p1 p2 pf v2 g2 d0 d1
            refine aL 9 [] (fun W=>(W.cell? ⟨b14,2,none⟩=some (.slice (some ⟨g1,0,none⟩) l1.length k1)∧W.cell? ⟨b11,2,none⟩=some (.slice (some ⟨bg,og,none⟩) gx.length gk))∧W.cell? ⟨bg,og+k,none⟩=some (.float .f32 y)) (fun _ _ _=>False) (fun f args w1 v w2=>False) (by kernel_rfl) (by kernel_rfl) S0.out (fun W q h=>by simpa using h) ?_
            iterate 9 (refine aD (by rfl) S0.out (fun K hK W hW=>?_);obtain ⟨⟨e0,e1⟩,e2⟩:=hW;go_simp;refine hK _ ?_;clear hK K e0 e1 e2)
            refine aP (fun q9=>?_)
            have dB:=below_drewN (O wr.heap.size wr) q9
            have HR2:Hid (RepF (wr.drewN q9) y5.heap.size (wr.drewN q9).heap.size (some ⟨g1,0,none⟩) l1.length k1 zs):=I ((HR.out.below dB).bounds (J _) dB.size)
            have HP2:=I (HP.out.below dB)
            have HQ2:=I (HQ.out.below dB)
            have HK2:Hid (Keep2 b14 b15 y5 (wr.drewN q9)):=I (HK.out.trans (Keep2.of_below dB))
            clear dB S0 HR HP HQ HK
            generalize wr.drewN q9=wd at HR2 HP2 HQ2 HK2 ⊢
            obtain ⟨g1',hg1',-,hc1,hf1,-⟩:=HR2.out.open (by rw [HE1.out.1.2];omega)
            obtain rfl:g1=g1':=by simpa using hg1'
            have e1:=hc1 k (by rw [HE1.out.1.2];exact hlt)
            have e2:=hf1 k
            clear hc1 hf1 hg1'
            go_wp2
            go_roundw
            have HT:Hid (Touch g1 (g1+1) wd (wd.setCell ⟨g1,k,none⟩ (.float .f32 y))):=I (Touch.setCell (J _) (Nat.lt_succ_self _))
            case rel =>
             exact ⟨k+1,by go_num,hlt,zs.set k y,I ((HR2.out.setAt k y HYL.out (by rw [HE1.out.1.2];omega)).bounds (J _) (by simp [World.setCell])),I (Ak (k:=k) HZ.out (by rw [if_pos (Nat.lt_succ_self _),HMKK.out];unfold iH;rw [ho,if_pos rfl]) (fun i hi=>by
              by_cases e2:i < k
              ·rw [if_pos e2,if_pos (by omega)]
              ·rw [if_neg e2,if_neg (by omega)])),I (HP2.out.far g1 k _ HG1.out.2.1),I (HQ2.out.far g1 k _ HG1.out.2.2),I (HK2.out.later (Touch.setCell (J _) (Nat.lt_succ_self _)) HG1.out.1)⟩
            case measure=>simp [intOf];omega
          ·have hkm:k=m:=by omega
           obtain ⟨⟨-,-,-⟩,-,vb',-,-⟩:=AT.out wr HK.out
           obtain ⟨-,-,-,v2,-⟩:=vb'.three
           have hlm:(vx.length:Int)=(m:Int):=by rw [HM.out]
           have hkl:¬ (k:Int) < (vx.length:Int):=by rw [hlm];omega
           have HZL:Hid (zs.length=l1.length):=I HR.out.len
           rw [←HZL.out] at HP HR
           have HP':Hid (BoxN wr b14 (Dsc.cells ⟨r1,c1,some ⟨g1,0,none⟩,k1,zs⟩)):=HP
           have EF:Hid (Dsc.can ⟨r1,c1,some ⟨g1,0,none⟩,k1,zs⟩=bC 8 (Dsc.can ⟨gr,gc,ga,gk,gx⟩) (Dsc.can ⟨vr,vc,va,vk,vx⟩) (Dsc.can ⟨wr',wy,wa,wk,wx⟩) (cn .f32 q)):=I (by
            have e:bC 8 (Dsc.can ⟨gr,gc,ga,gk,gx⟩) (Dsc.can ⟨vr,vc,va,vk,vx⟩) (Dsc.can ⟨wr',wy,wa,wk,wx⟩) (cn .f32 q)=⟨vr,vc,tY (vx.map (cn .f32)) (gx.map (cn .f32)) (vx.map (cn .f32)).length⟩:=by simp [bC,Dsc.can]
            rw [e]
            unfold Dsc.can
            simp only [TenP.mk.injEq]
            refine ⟨by rw [HE1.out.2.1],by rw [HE1.out.2.2],?_⟩
            rw [HZ.out,List.length_map,←HM.out]
            unfold tY
            refine lF fun i hi=>?_
            rw [if_pos (by omega),HMK.out])
           clear HP HZ HE1 E1
           go_wp2_with fail
           go_meet
           exact ⟨rfl,rfl,(⟨r1,c1,some ⟨g1,0,none⟩,k1,zs⟩:Dsc),(⟨0,0,none,0,[]⟩:Dsc),I ⟨⟨HP'.out,HQ.out⟩,⟨HK.out.below YW.out YW.out.size HNB.out.2.2.2.2.2.2 (Nat.le_trans HNB.out.2.2.2.2.2.2 (Nat.le_of_lt HNB.out.2.2.2.2.1)),HK.out.size⟩,⟨EF.out,.inr HR.out⟩,fun h=>absurd h (by decide)⟩⟩
       ·as_aux_lemma =>
         have hsh:Hid (gr=vr∧gc=vc):=I (by have:=HHS.out;simp [aQ,TenP.sh,Dsc.can] at this;omega)
         go_upto_region 51 with fail
         obtain ⟨⟨ag,av,aw⟩,gb',vb',wb',ob'⟩:=AT.out y5 K0.out
         obtain ⟨-,g0,g1,g2,gf⟩:=gb'.three
         obtain ⟨-,v0,v1,v2,vf⟩:=vb'.three
         obtain ⟨-,w0,w1,w2,wf⟩:=wb'.three
         obtain ⟨-,o0,o1,o2,o3,o4,o5,o6,of⟩:=ob'.seven
         clear gf vf wf of gb' vb' wb' ob'
         have KC:=I (iC _ b12 0 b12 0 vr vc va va vk vk vx.length vx vx v0 v1 v2 v2 av.see av.see rfl rfl av.le)
         have OKC:Hid (okT (fI (Dsc.can ⟨vr,vc,va,vk,vx⟩) (Dsc.can ⟨vr,vc,va,vk,vx⟩))):=I ((kG av.okT).1)
         clear ag av aw
         go_wp2_with fail
         refine KC.out.mono fun e wa' h=>?_
         obtain ⟨v,rfl,hr⟩:=RTen.of (T:=fI (Dsc.can ⟨vr,vc,va,vk,vx⟩) (Dsc.can ⟨vr,vc,va,vk,vx⟩)) h (by simp [fI,eN,cU,gU,cO,Dsc.can])
         obtain ⟨⟨r1,c1,a1,k1,l1⟩,rfl,he,hrr,hb⟩:=hr
         have E1:=I he
         have BX1:=I (BoxN.alloc wa' #[.int .i64 r1,.int .i64 c1,.slice a1 l1.length k1] 37)
         have hbb:=aA hb (aE wa' (.cells #[.int .i64 r1,.int .i64 c1,.slice a1 l1.length k1] 37))
         have K1':Hid (Keep2 b14 b15 y5 (wa'.alloc (.cells #[.int .i64 r1,.int .i64 c1,.slice a1 l1.length k1] 37))):=I ((K0.out).trans (Keep2.of_below hbb))
         have P1:=I (P0.out.below hbb);have Q1:=I (Q0.out.below hbb)
         have A1:Hid (Dsc.At (⟨r1,c1,a1,k1,l1⟩:Dsc) (wa'.alloc (.cells #[.int .i64 r1,.int .i64 c1,.slice a1 l1.length k1] 37))):=I (Dsc.at_of (by rw [he];exact OKC.out) (hrr.arg.below (aE wa' _)))
         have F1:Hid ((∀b o,a1=some ⟨b,o,none⟩→b≠b14∧b≠b15)∧wa'.heap.size≠b14∧wa'.heap.size≠b15):=I (by
          have h1:=K0.out.size;have h2:=HNB.out;have h3:=hb.size
          refine ⟨fun b o e=>?_,by omega,by omega⟩
          have h4:=hrr.far A1.out.pos b o e
          omega)
         clear g0 g1 g2 v0 v1 v2 w0 w1 w2 o0 o1 o2 o3 o4 o5 o6
         clear h he hrr hb hbb KC OKC
         try unfold Dsc.val
         try simp only
         go_upto_region 52 with fail
         have hzz:(wa'.alloc (.cells #[.int .i64 r1,.int .i64 c1,.slice a1 l1.length k1] 37)).heap.size=wa'.heap.size+1:=by simp
         clear hzz
         generalize wa'.alloc (.cells #[.int .i64 r1,.int .i64 c1,.slice a1 l1.length k1] 37)=yw1 at K1' P1 Q1 A1 BX1  ⊢
         generalize wa'.heap.size=bt1 at BX1 F1 ⊢
         have HL:Hid (∀W,Dsc.At ⟨gr,gc,ga,gk,gx⟩ W→l1.length=gx.length):=I (fun W h1=>by
          have e1:=h1.len;have e2:=A1.out.len;have e3:=E1.out;have h:=hsh.out
          simp [Dsc.can,fI] at e3;simp only at e1 e2
          rw [e1,e2,h.1,h.2]
          have h5:r1=vr:=by omega
          have h6:c1=vc:=by omega
          rw [h5,h6])
         obtain ⟨⟨ag,av,aw⟩,gb',vb',wb',ob'⟩:=AT.out yw1 K1'.out
         obtain ⟨-,g0,g1,g2,gf⟩:=gb'.three
         obtain ⟨-,v0,v1,v2,vf⟩:=vb'.three
         obtain ⟨-,w0,w1,w2,wf⟩:=wb'.three
         obtain ⟨-,o0,o1,o2,o3,o4,o5,o6,of⟩:=ob'.seven
         clear gf vf wf of gb' vb' wb' ob'
         have KC:=I (gF _ b11 0 bt1 0 gr gc ga a1 gk k1 gx.length gx l1 g0 g1 g2 (by rw [←HL.out _ ag];exact BX1.out.three.2.2.2.1) ag.see A1.out.see rfl (HL.out _ ag) ag.le)
         clear ag av aw
         go_wp2_with fail
         refine KC.out.mono fun e wa' h=>?_
         obtain ⟨v,rfl,hr⟩:=RTen.of (T:=eN (Dsc.can ⟨gr,gc,ga,gk,gx⟩) (Dsc.can ⟨r1,c1,a1,k1,l1⟩)) h (by simp [fI,eN,cU,gU,cO,Dsc.can])
         obtain ⟨⟨r2,c2,a2,k2,l2⟩,rfl,he,hrr,hb⟩:=hr
         have E2:=I he
         have RF0:=I (hrr.bounds (show y5.heap.size≤_ from K1'.out.size) (J _))
         have HBB:=I hb
         clear g0 g1 g2 v0 v1 v2 w0 w1 w2 o0 o1 o2 o3 o4 o5 o6
         clear h he hrr hb KC
         obtain ⟨-,q0,q1,q2,qf⟩:=(P1.out.below HBB.out).three
         have q3:=qf 0;have q4:=qf 1;have q5:=qf 2
         clear qf
         try unfold Dsc.val
         try simp only
         go_wp2_with fail
         have K2':Hid (Keep2 b14 b15 y5 (setCs wa' b14 0 [.int .i64 r2,.int .i64 c2,.slice a2 l2.length k2])):=I (((K1'.out).trans (Keep2.of_below HBB.out)).trans (Keep2.of_touch1 (aB wa' b14 0 [.int .i64 r2,.int .i64 c2,.slice a2 l2.length k2])))
         have P2:=I ((P1.out.below HBB.out).set3 (x:=.int .i64 r2) (y:=.int .i64 c2) (z:=.slice a2 l2.length k2))
         have Q2:=I ((Q1.out.below HBB.out).touch (aB wa' b14 0 [.int .i64 r2,.int .i64 c2,.slice a2 l2.length k2]) (.inr HNB.out.2.2.2.2.1))
         have R2:Hid (RepF (setCs wa' b14 0 [.int .i64 r2,.int .i64 c2,.slice a2 l2.length k2]) y5.heap.size (setCs wa' b14 0 [.int .i64 r2,.int .i64 c2,.slice a2 l2.length k2]).heap.size a2 l2.length k2 l2):=I ((RF0.out.touch (aB wa' b14 0 [.int .i64 r2,.int .i64 c2,.slice a2 l2.length k2]) (.inr (by have h:=HNB.out;omega))).bounds (J _) (by rw [aU];exact J _))
         have KT:Keep2 b14 b15 yw1 (setCs wa' b14 0 [.int .i64 r2,.int .i64 c2,.slice a2 l2.length k2]):=(Keep2.of_below HBB.out).trans (Keep2.of_touch1 (aB wa' b14 0 [.int .i64 r2,.int .i64 c2,.slice a2 l2.length k2]))
         replace BX1:=I (BX1.out.keep KT F1.out.2.1 F1.out.2.2)
         replace A1:=I (A1.out.keep KT F1.out.1)
         clear KT
         go_meet
         exact ⟨rfl,rfl,(⟨r2,c2,a2,k2,l2⟩:Dsc),(⟨0,0,none,0,[]⟩:Dsc),I ⟨⟨P2.out,Q2.out⟩,⟨K2'.out.below YW.out YW.out.size HNB.out.2.2.2.2.2.2 (Nat.le_trans HNB.out.2.2.2.2.2.2 (Nat.le_of_lt HNB.out.2.2.2.2.1)),K2'.out.size⟩,⟨by rw [E2.out,E1.out];simp [bC],.inr R2.out⟩,fun h=>absurd h (by decide)⟩⟩
       ·as_aux_lemma =>
         obtain ⟨bg,og,hga,hgl,hgc⟩:=(AT.out y5 K0.out).1.1.see.spot (k:=0) (AT.out y5 K0.out).1.1.pos
         replace hga:ga=some ⟨bg,og,none⟩:=hga
         subst hga
         have hg0:=hgc 0 (AT.out y5 K0.out).1.1.pos
         have hpos:0 < gx.length:=(AT.out y5 K0.out).1.1.pos
         obtain ⟨y,hy⟩:∃y,y=gx.getD 0 0:=⟨_,rfl⟩
         have HYL:Hid (y < 4294967296):=I (by rw [hy];exact (AT.out y5 K0.out).1.1.see.lt _ (iB (k:=0) hpos))
         have hg1:y5.cell? ⟨bg,og,none⟩=some (.float .f32 y):=by rw [hy];exact hg0
         have HY:=I hy
         have HG0:=I hg1
         clear hg0 hgc hy hg1 hgl
         go_upto_region 54 with fail
         obtain ⟨⟨ag,av,aw⟩,gb',vb',wb',ob'⟩:=AT.out y5 K0.out
         obtain ⟨-,g0,g1,g2,gf⟩:=gb'.three
         obtain ⟨-,v0,v1,v2,vf⟩:=vb'.three
         obtain ⟨-,w0,w1,w2,wf⟩:=wb'.three
         obtain ⟨-,o0,o1,o2,o3,o4,o5,o6,of⟩:=ob'.seven
         clear gf vf wf of gb' vb' wb' ob'
         have KSUM:=I (fun q=>fC (y5.drewN q) vr vc y HYL.out av.r2 av.c2)
         have S0:Hid ((fun W=>W.cell? ⟨b12,0,none⟩=some (.int .i64 vr)∧W.cell? ⟨b12,1,none⟩=some (.int .i64 vc)∧W.cell? ⟨b11,2,none⟩=some (.slice (some ⟨bg,og,none⟩) gx.length gk)∧W.cell? ⟨bg,og,none⟩=some (.float .f32 y)) y5):=I ⟨v0,v1,g2,HG0.out⟩
         clear ag av aw
         clear g0 g1 g2 v0 v1 v2 w0 w1 w2 o0 o1 o2 o3 o4 o5 o6
         refine aL 9 [8] (fun W=>W.cell? ⟨b12,0,none⟩=some (.int .i64 vr)∧W.cell? ⟨b12,1,none⟩=some (.int .i64 vc)∧W.cell? ⟨b11,2,none⟩=some (.slice (some ⟨bg,og,none⟩) gx.length gk)∧W.cell? ⟨bg,og,none⟩=some (.float .f32 y)) (fun _ _ _=>False) (fun f args w1 v w2=>RTen (cO (Dsc.can ⟨vr,vc,va,vk,vx⟩) (cn .f32 y)) w1 v w2) (by kernel_rfl) (by kernel_rfl) S0.out (fun W q h=>by simpa using h) ?_
         iterate 8 (refine aD (by rfl) S0.out (fun K hK W hW=>?_);obtain ⟨e0,e1,e2,e3⟩:=hW;go_simp;refine hK _ ?_;clear hK K e0 e1 e2 e3)
         refine aF (by rfl) S0.out (fun K hK q0=>?_)
         go_simp
         refine ⟨(KSUM.out q0).mono (fun e w5 h=>RTen.of (T:=cO (Dsc.can ⟨vr,vc,va,vk,vx⟩) (cn .f32 y)) h (by have h:=(AT.out y5 K0.out).1.2.1.len;unfold cO Dsc.can;simp only at h ⊢;rw [List.length_map,h])),?_⟩
         rintro v wa' hd
         obtain ⟨⟨r1,c1,a1,k1,l1⟩,rfl,he,hr,hb⟩:=hd
         have HB5:=I (aA (below_drewN (O _ _) q0) hb)
         have S5:Hid ((fun W=>W.cell? ⟨b12,0,none⟩=some (.int .i64 vr)∧W.cell? ⟨b12,1,none⟩=some (.int .i64 vc)∧W.cell? ⟨b11,2,none⟩=some (.slice (some ⟨bg,og,none⟩) gx.length gk)∧W.cell? ⟨bg,og,none⟩=some (.float .f32 y)) wa'):=I (by
          have h:=S0.out
          refine ⟨(HB5.out.cell (World.block_lt_of_cell? _ _ h.1)).trans h.1,(HB5.out.cell (World.block_lt_of_cell? _ _ h.2.1)).trans h.2.1,(HB5.out.cell (World.block_lt_of_cell? _ _ h.2.2.1)).trans h.2.2.1,(HB5.out.cell (World.block_lt_of_cell? _ _ h.2.2.2)).trans h.2.2.2⟩)
         refine ⟨S5.out,hK _ _ ?_⟩
         have E1:=I he
         have RF1:=I (hr.bounds (show y5.heap.size≤_ from Nat.le_trans K0.out.size (by simp)) (J _))
         clear hK K he hr hb KSUM
         refine aP (fun q9=>?_)
         have HBB:=I (aA HB5.out (below_drewN (O _ _) q9))
         have RF0:Hid (RepF (wa'.drewN q9) y5.heap.size (wa'.drewN q9).heap.size a1 l1.length k1 l1):=I ((RF1.out.below (below_drewN (O _ _) q9)).bounds (J _) (by simp))
         clear S5 HB5 RF1 S0
         generalize wa'.drewN q9=wb' at HBB RF0 ⊢
         obtain ⟨-,q0,q1,q2,qf⟩:=(P0.out.below HBB.out).three
         have q3:=qf 0;have q4:=qf 1;have q5:=qf 2
         clear qf
         try unfold Dsc.val
         try simp only
         go_wp2_with fail
         have K1':Hid (Keep2 b14 b15 y5 (setCs wb' b14 0 [.int .i64 r1,.int .i64 c1,.slice a1 l1.length k1])):=I (((K0.out).trans (Keep2.of_below HBB.out)).trans (Keep2.of_touch1 (aB wb' b14 0 [.int .i64 r1,.int .i64 c1,.slice a1 l1.length k1])))
         have P1:Hid (BoxN (setCs wb' b14 0 [.int .i64 r1,.int .i64 c1,.slice a1 l1.length k1]) b14 [.int .i64 r1,.int .i64 c1,.slice a1 l1.length k1]):=I ((P0.out.below HBB.out).set3 (x:=.int .i64 r1) (y:=.int .i64 c1) (z:=.slice a1 l1.length k1))
         have Q1:=I ((Q0.out.below HBB.out).touch (aB wb' b14 0 [.int .i64 r1,.int .i64 c1,.slice a1 l1.length k1]) (.inr HNB.out.2.2.2.2.1))
         have R1:Hid (RepF (setCs wb' b14 0 [.int .i64 r1,.int .i64 c1,.slice a1 l1.length k1]) y5.heap.size (setCs wb' b14 0 [.int .i64 r1,.int .i64 c1,.slice a1 l1.length k1]).heap.size a1 l1.length k1 l1):=I ((RF0.out.touch (aB wb' b14 0 [.int .i64 r1,.int .i64 c1,.slice a1 l1.length k1]) (.inr (by have h:=HNB.out;omega))).bounds (J _) (by rw [aU];exact J _))
         go_meet
         exact ⟨rfl,rfl,(⟨r1,c1,a1,k1,l1⟩:Dsc),(⟨0,0,none,0,[]⟩:Dsc),I ⟨⟨P1.out,Q1.out⟩,⟨K1'.out.below YW.out YW.out.size HNB.out.2.2.2.2.2.2 (Nat.le_trans HNB.out.2.2.2.2.2.2 (Nat.le_of_lt HNB.out.2.2.2.2.1)),K1'.out.size⟩,⟨by rw [E1.out,HY.out];simp only [bC,Dsc.can];simp only [bO];simp,.inr R1.out⟩,fun h=>absurd h (by decide)⟩⟩
      case rest =>
       obtain ⟨rfl,rfl,⟨tr,tc,ta,tk,tx⟩,⟨ur,uc',ua,uk,ux⟩,HCUT⟩:=hcut
       clear GB VB WB PB5 QB Y OB5 HB11
       obtain ⟨wv,hwv⟩:∃wv:World,wv=wc:=⟨_,rfl⟩
       rw [←hwv] at HCUT ⊢
       clear hwv
       have PV:Hid (BoxN wv b14 [.int .i64 tr,.int .i64 tc,.slice ta tx.length tk]):=I HCUT.out.1.1
       have QV:Hid (BoxN wv b15 [.int .i64 ur,.int .i64 uc',.slice ua ux.length uk]):=I HCUT.out.1.2
       have BQV:=I HCUT.out.2.1.1
       have HSZ:Hid (y5.heap.size≤wv.heap.size):=I HCUT.out.2.1.2
       have XV:=I (XQ.out.below BQV.out)
       have OV:=I (OB.out.below BQV.out)
       have BV:=I (aA BQ.out BQV.out)
       have FARG:Hid (∀b o,ga=some ⟨b,o,none⟩→(b≠g∧b≠hh)∧b < wq.heap.size):=I (fun b o e=>⟨HFAR.out b o e,by
        obtain ⟨b',o',e2,hl,_⟩:=HDA.out.see.spot (k:=0) HDA.out.pos
        have e3:some (⟨b,o,none⟩:Addr)=some ⟨b',o',none⟩:=e.symm.trans e2
        cases e3
        exact hl⟩)
       have HF:Hid (∀(T:TenP) (t:Dsc),okT T→GotL T ⟨gr,gc,ga,gk,gx⟩ y5.heap.size wv t→t.At wv∧∀b o,t.a=some ⟨b,o,none⟩→(b≠g∧b≠hh)∧b≠b14∧b≠b15∧b≠gb):=I (fun T t hT h=>by
        have hbx:=HBX.out
        rcases h.2 with rfl | hr
        ·refine ⟨HDA.out.below BQV.out,fun b o e=>?_⟩
         have hcell:=(OB.out.lt)
         have h1:=FARG.out b o e
         refine ⟨h1.1,by omega,by omega,?_⟩
         intro e4
         have h5:=HGBN.out b o e
         exact h5 e4
        ·have h1:t.At wv:=Dsc.at_of (by rw [h.1];exact hT) hr.arg
         refine ⟨h1,fun b o e=>?_⟩
         have:=hr.far h1.pos b o e
         omega)
       have HT8:Hid (((⟨tr,tc,ta,tk,tx⟩:Dsc).At wv∧∀b o,ta=some ⟨b,o,none⟩→(b≠g∧b≠hh)∧b≠b14∧b≠b15∧b≠gb)∧(⟨tr,tc,ta,tk,tx⟩:Dsc).can.sh=(aH V (A:Int)).sh∧(⟨tr,tc,ta,tk,tx⟩:Dsc).can=bC kk (aH G (i:Int)) (aH V (A:Int)) (aH V (B:Int)) (cn .f32 q)):=I ⟨HF.out _ ⟨tr,tc,ta,tk,tx⟩ OKA.out.1 HCUT.out.2.2.1,by rw [HCUT.out.2.2.1.1,OKA.out.2,HVW.out.1],by rw [HCUT.out.2.2.1.1,HGD.out,HVW.out.1,HVW.out.2.1]⟩
       have HU8:Hid (fL kk=true→((⟨ur,uc',ua,uk,ux⟩:Dsc).At wv∧∀b o,ua=some ⟨b,o,none⟩→(b≠g∧b≠hh)∧b≠b14∧b≠b15∧b≠gb)∧(⟨ur,uc',ua,uk,ux⟩:Dsc).can.sh=(aH V (B:Int)).sh∧(⟨ur,uc',ua,uk,ux⟩:Dsc).can=bU kk (aH G (i:Int)) (aH V (A:Int))):=I (fun h2=>⟨HF.out _ ⟨ur,uc',ua,uk,ux⟩ (OKB.out h2).1 (HCUT.out.2.2.2 h2),by rw [(HCUT.out.2.2.2 h2).1,(OKB.out h2).2,HVW.out.2.1],by rw [(HCUT.out.2.2.2 h2).1,HGD.out,HVW.out.1]⟩)
       have HBG:Hid ((b14 < wv.heap.size∧b15 < wv.heap.size∧gb < wv.heap.size∧g < wv.heap.size∧hh < wv.heap.size)∧(wq.heap.size≤b14∧wq.heap.size≤b15∧b14≠b15)∧(gb≠g∧gb≠hh∧gb < b14∧gb < b15)∧wq.heap.size≤wv.heap.size):=I (by have h1:=HBX.out;have h2:=HSZ.out;have h3:=HGBN2.out;omega)
       have HWQ:Hid (w.heap.size≤wq.heap.size):=I BQ.out.size
       clear HCUT HF HSZ BQV HBX HDA HFAR FARG OKA OKB HVW HGD HGS OB XQ BQ ZQ HSP HFT HS
      -- what is given to A and to B
       have HTC:Hid (okT (Dsc.can ⟨tr,tc,ta,tk,tx⟩)∧(Dsc.can ⟨tr,tc,ta,tk,tx⟩).sh=(aH V (A:Int)).sh∧(Dsc.can ⟨tr,tc,ta,tk,tx⟩)=bC kk (aH G (i:Int)) (aH V (A:Int)) (aH V (B:Int)) (cn .f32 q)):=I ⟨HT8.out.1.1.okT,HT8.out.2⟩
       have HXB:Hid (wq.heap.size≤wv.heap.size):=I HBG.out.2.2.2
       have HBV:Hid (True∧gb≠g∧gb≠hh∧True∧b15≠g∧b15≠hh):=I ⟨trivial,HGBN2.out.1,HGBN2.out.2,trivial,by have h1:=XV.out.own.cell (List.mem_cons_self ..);have h2:=HBG.out;have h3:=h1.2.1;omega,by have h1:=XV.out.own.cell (XV.out.memE (List.mem_cons_self ..));have h2:=HBG.out;have h3:=h1.2.1;omega⟩
       have HNIb14:=I (XV.out.notIn (x:=b14) HBG.out.2.1.1)
       have HNIb15:=I (XV.out.notIn (x:=b15) HBG.out.2.1.2.1)
       have HOTb14:Hid (b15 < b14∨b14+1≤b15):=I (by have:=HBG.out;omega)
       have HGTb14:Hid (gb < b14∨b14+1≤gb):=I (by have:=HBG.out;omega)
       have HGTb15:Hid (gb < b15∨b15+1≤gb):=I (by have:=HBG.out;omega)
       have HWBb14:Hid (w.heap.size≤b14):=I (by have:=HBG.out;have:=HWQ.out;omega)
       have HWBb15:Hid (w.heap.size≤b15):=I (by have:=HBG.out;have:=HWQ.out;omega)
       have HUZ:=HU8
       clear HU8 HBG
       obtain ⟨old,ho1,ho2⟩:=HREL.out A hAn trivial
       have hoo:=(HOG.out.2 A (by rw [HVL.out];exact hAn)).1
       obtain ⟨D,rfl⟩:=lW (t:=old) (by rw [ho2];exact hoo.1)
       obtain ⟨or',oc,oa,ok',ox⟩:=D
       have HO2:Hid (Dsc.can ⟨or',oc,oa,ok',ox⟩=aH G (A:Int)):=I ho2
       have HO1:=I ho1
       have HOS:Hid (or'=tr∧oc=tc):=I (by
        have h1:(Dsc.can ⟨or',oc,oa,ok',ox⟩).sh=(Dsc.can ⟨tr,tc,ta,tk,tx⟩).sh:=by rw [HO2.out,hoo.2];exact HT8.out.2.1.symm
        have h2:(((or':Nat):Int),((oc:Nat):Int))=(((tr:Nat):Int),((tc:Nat):Int)):=h1
        simp at h2;omega)
       have hocells:=gK (XV.out.bounds (J _) HXB.out) ho1
       have HOA:Hid (Dsc.At ⟨or',oc,oa,ok',ox⟩ wv):=I (Dsc.at_of (by rw [HO2.out];exact hoo.1) hocells.2.2.2)
       have HOC:=I (And.intro hocells.2.1 hocells.2.2.1)
       have huu:=XV.out.u
       have uc:=huu.2.2.1 A (by rw [HUL.out];exact hAn)
       obtain ⟨-,x0,x1,x2,x3,x4,x5,x6,xf⟩:=OV.out.seven
       clear ho1 ho2 hoo hocells huu xf x3 x4 x5 x6
       cases hu:U.getD A false
       ·focus
         rw [hu] at uc
         have HUF:=I hu
         clear hu
         go_upto_region 57 with fail
         clear uc x0 x1 x2
         have HSV:Hid (Dsc.can ⟨tr,tc,ta,tk,tx⟩=bX (U.getD A false) (aH G (A:Int)) (Dsc.can ⟨tr,tc,ta,tk,tx⟩)):=I (by rw [HUF.out];rfl)
         have XZ:=XV;have PZ:=PV;have QZ:=QV;have OZ:=OV;have BZ:=BV;have HXZ:=HXB
         have ATZ:Hid (Dsc.At ⟨tr,tc,ta,tk,tx⟩ wv):=I HT8.out.1.1
         have HBZ:Hid (True∧gb≠g∧gb≠hh∧True∧b15≠g∧b15≠hh):=I HBV.out
         clear XV PV QV OV BV HXB HBV HOA HOC HOS
         obtain ⟨wz,hwz⟩:∃wz:World,wz=wv:=⟨_,rfl⟩
         rw [←hwz] at XZ PZ QZ OZ BZ HXZ ATZ HUZ ⊢
         clear hwz
        obtain ⟨-,x0,x1,x2,x3,x4,x5,x6,xf⟩:=OZ.out.seven
        obtain ⟨-,p0,p1,p2,pf⟩:=PZ.out.three
        have S0:Hid ((fun W=>W.cell? ⟨gb,1,none⟩=some (.int .i64 A)∧W.cell? ⟨b14,0,none⟩=some (.int .i64 tr)) wz):=I ⟨x1,p0⟩
        clear xf x0 x1 x2 x3 x4 x5 x6 p0 p1 p2 pf
        refine aL 7 [5] (fun W=>W.cell? ⟨gb,1,none⟩=some (.int .i64 A)∧W.cell? ⟨b14,0,none⟩=some (.int .i64 tr)) (fun _ _ _=>False) (fun f args w1 v w2=>RTen (Dsc.can ⟨tr,tc,ta,tk,tx⟩) w1 v w2) (by kernel_rfl) (by kernel_rfl) S0.out (fun W q h=>by simpa using h) ?_
        iterate 5 (refine aD (by rfl) S0.out (fun K hK W hW=>?_);obtain ⟨e0,e1⟩:=hW;go_simp;refine hK _ ?_;clear hK K e0 e1)
        refine aF (by rfl) S0.out (fun K hK q1=>?_)
        have D1:=I (below_drewN (O wz.heap.size wz) q1)
        have KC:=I (cY (wz.drewN q1) b14 0 (tr:Int) tc ta tk tx.length tx (PZ.out.below D1.out).three.2.2.1 (PZ.out.below D1.out).three.2.2.2.1 (ATZ.out.below D1.out).see rfl ATZ.out.le 0 tr ATZ.out.r1 ATZ.out.c1 (by decide) (by have:=ATZ.out.c2;simp only at this;omega) (by have:=ATZ.out.len;simp only at this;rw [Nat.zero_add,this];exact J _))
        have hz00:((0:Nat):Int)=0:=rfl
        rw [hz00] at KC
        clear hz00
        go_simp
        refine ⟨KC.out.mono (fun e w2 hh=>RTen.of hh (by
         have h1:=jD (s:=⟨tr,tc,ta,tk,tx⟩) ATZ.out
         unfold Dsc.can
         simp only at h1 ⊢
         rw [h1])),?_⟩
        rintro v w4 hd
        obtain ⟨⟨mr,mc,ma,mk,mx⟩,rfl,he,hr,hb⟩:=hd
        have C4:=I (aA D1.out hb)
        have S4:Hid ((fun W=>W.cell? ⟨gb,1,none⟩=some (.int .i64 A)∧W.cell? ⟨b14,0,none⟩=some (.int .i64 tr)) w4):=I ⟨(C4.out.cell (p:=⟨gb,1,none⟩) OZ.out.lt).trans S0.out.1,(C4.out.cell (p:=⟨b14,0,none⟩) PZ.out.lt).trans S0.out.2⟩
        refine ⟨S4.out,hK _ _ ?_⟩
        have E4:=I he;have R4:=I (hr.bounds (show wz.heap.size≤_ from D1.out.size) (J _))
        clear hK K he hr hb KC
        refine aD (by rfl) S4.out (fun K hK W hW=>?_)
        obtain ⟨e0,e1⟩:=hW
        go_simp
        refine hK _ ?_
        clear hK K e0 e1
        refine aP (fun q9=>?_)
        have B5:=I (aA C4.out (below_drewN (O _ _) q9))
        have R5:Hid (RepF (w4.drewN q9) wz.heap.size (w4.drewN q9).heap.size ma mx.length mk mx):=I ((R4.out.below (below_drewN (O _ _) q9)).bounds (J _) (by simp))
        generalize w4.drewN q9=w5 at B5 R5 ⊢
        have hoc:=gK (XZ.out.bounds (J _) HXZ.out) HO1.out
        have hgl5:g < wz.heap.size:=hoc.1.2
        have c50:=(B5.out.cell (p:=⟨g,A * 3,none⟩) hgl5).trans hoc.2.1.1
        have c51:=(B5.out.cell (p:=⟨g,A * 3+1,none⟩) hgl5).trans hoc.2.1.2.1
        have c52:=(B5.out.cell (p:=⟨g,A * 3+2,none⟩) hgl5).trans hoc.2.1.2.2
        have f50:=(B5.out.frozen (p:=⟨g,A * 3,none⟩) hgl5).trans (hoc.2.2.1 _)
        have f51:=(B5.out.frozen (p:=⟨g,A * 3+1,none⟩) hgl5).trans (hoc.2.2.1 _)
        have f52:=(B5.out.frozen (p:=⟨g,A * 3+2,none⟩) hgl5).trans (hoc.2.2.1 _)
        have X6:Hid (OwnX bV (setCs w5 g (A * 3) [.int .i64 mr,.int .i64 mc,.slice ma mx.length mk]) w.heap.size (setCs w5 g (A * 3) [.int .i64 mr,.int .i64 mc,.slice ma mx.length mk]).heap.size (some ⟨g,0,none⟩) n cap' (us.set A (Dsc.ten ⟨mr,mc,ma,mk,mx⟩)) [dU hh n U]):=I (kK (XZ.out.bounds (J _) HXZ.out) BZ.out.size B5.out hAn (t:=⟨mr,mc,ma,mk,mx⟩) R5.out)
        have K6:Hid (Keep2 g hh wz (setCs w5 g (A * 3) [.int .i64 mr,.int .i64 mc,.slice ma mx.length mk])):=I ((Keep2.of_below B5.out).trans (Keep2.of_touch1 (aB _ _ _ _)))
        have RL6:Hid (∀b,(aK ma mk mx).val.ownBlock=some b→wz.heap.size≤b):=I (fun b e=>by
         have h1:=(R5.out.ownRow.row _ (List.mem_singleton.2 rfl)).own.lt b e
         exact h1.1)
        clear hoc hgl5 S4 S0 C4 D1 R4 B5 R5
        try unfold Dsc.val
        try simp only
        go_upto_region 58 with fail
        clear c50 c51 c52 f50 f51 f52
        change Code.wp _ _ _ _ (setCs w5 g (A * 3) [.int .i64 mr,.int .i64 mc,.slice ma mx.length mk])
        generalize setCs w5 g (A * 3) [.int .i64 mr,.int .i64 mc,.slice ma mx.length mk]=w6 at X6 K6 ⊢
        have O6:=I (OZ.out.keep K6.out HBZ.out.2.1 HBZ.out.2.2.1)
        obtain ⟨-,x0,x1,x2,x3,x4,x5,x6,xf⟩:=O6.out.seven
        clear xf x0 x3 x4 x5 x6
        have hu6:=X6.out.u
        have u6:=hu6.2.2.1 A (by rw [HUL.out];exact hAn)
        have v6:=hu6.2.2.2 A
        have X7:=I (X6.out.setU A)
        have K7:Hid (Keep2 g hh wz (w6.setCell ⟨hh,A,none⟩ (.bool true))):=I (K6.out.trans (Keep2.of_touch2 (aB w6 hh A [.bool true])))
        have X8:Hid (OwnX bV (w6.setCell ⟨hh,A,none⟩ (.bool true)) w.heap.size (w6.setCell ⟨hh,A,none⟩ (.bool true)).heap.size (some ⟨g,0,none⟩) n cap' (us.set A (Dsc.ten ⟨mr,mc,ma,mk,mx⟩)) [dU hh n (U.set A true)]):=I (X7.out.bounds (J _) (by simp [World.setCell]))
        have O8:=I (OZ.out.keep K7.out HBZ.out.2.1 HBZ.out.2.2.1)
        have Q8:=I (QZ.out.keep K7.out HBZ.out.2.2.2.2.1 HBZ.out.2.2.2.2.2)
        have B8:=I (K7.out.below BZ.out BZ.out.size HGL.out.1.1 HGL.out.1.2)
        have HM:Hid (Dsc.can ⟨mr,mc,ma,mk,mx⟩=bX (U.getD A false) (aH G (A:Int)) (Dsc.can ⟨tr,tc,ta,tk,tx⟩)):=I (by rw [E4.out];exact HSV.out)
        clear hu6 X6 X7 K6 O6 E4 HSV
        have HUB:Hid (fL kk=true→((Dsc.At ⟨ur,uc',ua,uk,ux⟩ (w6.setCell ⟨hh,A,none⟩ (.bool true)))∧∀b o,ua=some ⟨b,o,none⟩→(b≠g∧b≠hh)∧b≠b14∧b≠b15∧b≠gb)∧(Dsc.can ⟨ur,uc',ua,uk,ux⟩).sh=(aH V (B:Int)).sh∧(Dsc.can ⟨ur,uc',ua,uk,ux⟩)=bU kk (aH G (i:Int)) (aH V (A:Int))):=I (fun h2=>⟨⟨(HUZ.out h2).1.1.keep K7.out (fun b o e=>((HUZ.out h2).1.2 b o e).1),(HUZ.out h2).1.2⟩,(HUZ.out h2).2⟩)
        have HNB:Hid (NotIn bV (some ⟨g,0,none⟩) n cap' (us.set A (Dsc.ten ⟨mr,mc,ma,mk,mx⟩)) [dU hh n (U.set A true)] b15):=I (HNIb15.out.set _ (fun b e=>by have h1:=RL6.out b e;have h2:=QZ.out.lt;omega))
        obtain ⟨G1,hG1⟩:∃G1,G1=G.set A (bX (U.getD A false) (aH G (A:Int)) (bC kk (aH G (i:Int)) (aH V (A:Int)) (aH V (B:Int)) (cn .f32 q))):=⟨_,rfl⟩
        have HG1:=I hG1
        have HREL1:Hid (RelG (us.set A (Dsc.ten ⟨mr,mc,ma,mk,mx⟩)) G1 n (fun _=>True)):=I (by
         rw [hG1]
         have h1:=HREL.out.set (i:=A) (by rw [XZ.out.len];exact hAn) (by rw [HGL2.out];exact hAn) (t:=Dsc.ten ⟨mr,mc,ma,mk,mx⟩) (T:=bX (U.getD A false) (aH G (A:Int)) (bC kk (aH G (i:Int)) (aH V (A:Int)) (aH V (B:Int)) (cn .f32 q))) (by rw [←HTC.out.2.2];exact HM.out)
         exact h1.mono (fun q hq hp=>.inr trivial))
        have OKG1:Hid (OkG V (U.set A true) G1):=I (by
         rw [hG1]
         refine HOG.out.give (by rw [HVL.out];exact hAn) (p:=bC kk (aH G (i:Int)) (aH V (A:Int)) (aH V (B:Int)) (cn .f32 q)) ?_ ?_ (by rw [HUL.out,HVL.out])
         ·rw [←HTC.out.2.2];exact HTC.out.1
         ·rw [←HTC.out.2.2];exact HTC.out.2.1)
        have HUS1:Hid ((us.set A (Dsc.ten ⟨mr,mc,ma,mk,mx⟩)).length=n):=I X8.out.len
        clear hG1 HUZ HM RL6 K7 HREL HOG XZ PZ QZ OZ BZ HXZ ATZ HO1 HO2 HTC
        go_upto_region 59 with fail
        clear u6 v6 x1 x2
        generalize us.set A (Dsc.ten ⟨mr,mc,ma,mk,mx⟩)=us1 at X8 HNB HREL1 HUS1
        clear HNIb14 HNIb15 HOTb14 HGTb14 HWBb14
        generalize w6.setCell ⟨hh,A,none⟩ (.bool true)=w8 at X8 O8 Q8 B8 HUB ⊢
        obtain ⟨-,x0,x1,x2,x3,x4,x5,x6,xf⟩:=O8.out.seven
        clear xf x1 x2 x3 x4 x5 x6
        go_wp2_with fail
        refine (rH kk _).mono ?_
        rintro e wt ⟨rfl,rfl⟩
        clear x0
        cases h2:fL kk
        ·as_aux_lemma =>
          have hu2:U2=U.set A true:=by rw [HUN.out];exact oP HUI.out HK0.out h2
          have hg2:G2=G1:=by rw [HGN.out,HG1.out];exact qN HUI.out HK0.out h2
          have HE6:=I (HFIN.out w8 us1 (by rw [hu2];exact X8.out) (by rw [hg2];exact HREL1.out) B8.out ⟨by have h1:=X8.out.own.cell (List.mem_cons_self ..);exact h1.2.1.2.2,X8.out.u.1⟩)
          clear hu2 hg2 HFIN HREL1 X8 O8 Q8 B8 HUN HGN HUB HNB OKG1 HG1 h2
          go_wp2
          go_roundw
          case rel =>
           obtain ⟨us',h1,h2,h3,h4⟩:=HE6.out
           exact ⟨i,rfl,by omega,us',h1,h2,h3,h4⟩
          case measure=>first | (simp [intOf];done) | (simp [intOf];omega)
        ·have H2:=I h2
         clear h2
         have XV:=X8;have PV:=Q8;have QV:=O8;have OV:=O8;have BV:=B8
         have HXB:Hid (w8.heap.size≤w8.heap.size):=I (J _)
         have HBV:Hid (True∧gb≠g∧gb≠hh∧True∧gb≠g∧gb≠hh):=I ⟨trivial,HGBN2.out.1,HGBN2.out.2,trivial,HGBN2.out.1,HGBN2.out.2⟩
         have HNIb15:=HNB
         have HOTb15:=HGTb15
         clear X8 Q8 O8 B8 HNB
         obtain ⟨wv,hwv⟩:∃wv:World,wv=w8:=⟨_,rfl⟩
         rw [←hwv] at XV PV QV OV BV HXB HUB ⊢
         clear hwv
         obtain ⟨old,ho1,ho2⟩:=HREL1.out B hBn trivial
         have hoo:=(OKG1.out.2 B (by rw [HVL.out];exact hBn)).1
         obtain ⟨D,rfl⟩:=lW (t:=old) (by rw [ho2];exact hoo.1)
         obtain ⟨or',oc,oa,ok',ox⟩:=D
         have HO2:Hid (Dsc.can ⟨or',oc,oa,ok',ox⟩=aH G1 (B:Int)):=I ho2
         have HO1:=I ho1
         have HOS:Hid (or'=ur∧oc=uc'):=I (by
          have h1:(Dsc.can ⟨or',oc,oa,ok',ox⟩).sh=(Dsc.can ⟨ur,uc',ua,uk,ux⟩).sh:=by rw [HO2.out,hoo.2];exact (HUB.out H2.out).2.1.symm
          have h2:(((or':Nat):Int),((oc:Nat):Int))=(((ur:Nat):Int),((uc':Nat):Int)):=h1
          simp at h2;omega)
         have hocells:=gK (XV.out.bounds (J _) HXB.out) ho1
         have HOA:Hid (Dsc.At ⟨or',oc,oa,ok',ox⟩ wv):=I (Dsc.at_of (by rw [HO2.out];exact hoo.1) hocells.2.2.2)
         have HOC:=I (And.intro hocells.2.1 hocells.2.2.1)
         have huu:=XV.out.u
         have uc:=huu.2.2.1 B (by rw [List.length_set,HUL.out];exact hBn)
         obtain ⟨-,x0,x1,x2,x3,x4,x5,x6,xf⟩:=OV.out.seven
         clear ho1 ho2 hoo hocells huu xf x3 x4 x5 x6
         cases hu:(U.set A true).getD B false
         ·focus
           rw [hu] at uc
           have HUF:=I hu
           clear hu
           go_upto_region 62 with fail
           clear uc x0 x1 x2
           have HSV:Hid (Dsc.can ⟨ur,uc',ua,uk,ux⟩=bX ((U.set A true).getD B false) (aH G1 (B:Int)) (Dsc.can ⟨ur,uc',ua,uk,ux⟩)):=I (by rw [HUF.out];rfl)
           have XZ:=XV;have PZ:=PV;have QZ:=QV;have OZ:=OV;have BZ:=BV;have HXZ:=HXB
           have ATZ:Hid (Dsc.At ⟨ur,uc',ua,uk,ux⟩ wv):=I (HUB.out H2.out).1.1
           have HBZ:Hid (True∧gb≠g∧gb≠hh∧True∧gb≠g∧gb≠hh):=I HBV.out
           clear XV PV QV OV BV HXB HBV HOA HOC HOS
           obtain ⟨wz,hwz⟩:∃wz:World,wz=wv:=⟨_,rfl⟩
           rw [←hwz] at XZ PZ QZ OZ BZ HXZ ATZ  ⊢
           clear hwz
          obtain ⟨-,x0,x1,x2,x3,x4,x5,x6,xf⟩:=OZ.out.seven
          obtain ⟨-,p0,p1,p2,pf⟩:=PZ.out.three
          have S0:Hid ((fun W=>W.cell? ⟨gb,2,none⟩=some (.int .i64 B)∧W.cell? ⟨b15,0,none⟩=some (.int .i64 ur)) wz):=I ⟨x2,p0⟩
          clear xf x0 x1 x2 x3 x4 x5 x6 p0 p1 p2 pf
          refine aL 7 [5] (fun W=>W.cell? ⟨gb,2,none⟩=some (.int .i64 B)∧W.cell? ⟨b15,0,none⟩=some (.int .i64 ur)) (fun _ _ _=>False) (fun f args w1 v w2=>RTen (Dsc.can ⟨ur,uc',ua,uk,ux⟩) w1 v w2) (by kernel_rfl) (by kernel_rfl) S0.out (fun W q h=>by simpa using h) ?_
          iterate 5 (refine aD (by rfl) S0.out (fun K hK W hW=>?_);obtain ⟨e0,e1⟩:=hW;go_simp;refine hK _ ?_;clear hK K e0 e1)
          refine aF (by rfl) S0.out (fun K hK q1=>?_)
          have D1:=I (below_drewN (O wz.heap.size wz) q1)
          have KC:=I (cY (wz.drewN q1) b15 0 (ur:Int) uc' ua uk ux.length ux (PZ.out.below D1.out).three.2.2.1 (PZ.out.below D1.out).three.2.2.2.1 (ATZ.out.below D1.out).see rfl ATZ.out.le 0 ur ATZ.out.r1 ATZ.out.c1 (by decide) (by have:=ATZ.out.c2;simp only at this;omega) (by have:=ATZ.out.len;simp only at this;rw [Nat.zero_add,this];exact J _))
          have hz00:((0:Nat):Int)=0:=rfl
          rw [hz00] at KC
          clear hz00
          go_simp
          refine ⟨KC.out.mono (fun e w2 hh=>RTen.of hh (by
           have h1:=jD (s:=⟨ur,uc',ua,uk,ux⟩) ATZ.out
           unfold Dsc.can
           simp only at h1 ⊢
           rw [h1])),?_⟩
          rintro v w4 hd
          obtain ⟨⟨mr,mc,ma,mk,mx⟩,rfl,he,hr,hb⟩:=hd
          have C4:=I (aA D1.out hb)
          have S4:Hid ((fun W=>W.cell? ⟨gb,2,none⟩=some (.int .i64 B)∧W.cell? ⟨b15,0,none⟩=some (.int .i64 ur)) w4):=I ⟨(C4.out.cell (p:=⟨gb,2,none⟩) OZ.out.lt).trans S0.out.1,(C4.out.cell (p:=⟨b15,0,none⟩) PZ.out.lt).trans S0.out.2⟩
          refine ⟨S4.out,hK _ _ ?_⟩
          have E4:=I he;have R4:=I (hr.bounds (show wz.heap.size≤_ from D1.out.size) (J _))
          clear hK K he hr hb KC
          refine aD (by rfl) S4.out (fun K hK W hW=>?_)
          obtain ⟨e0,e1⟩:=hW
          go_simp
          refine hK _ ?_
          clear hK K e0 e1
          refine aP (fun q9=>?_)
          have B5:=I (aA C4.out (below_drewN (O _ _) q9))
          have R5:Hid (RepF (w4.drewN q9) wz.heap.size (w4.drewN q9).heap.size ma mx.length mk mx):=I ((R4.out.below (below_drewN (O _ _) q9)).bounds (J _) (by simp))
          generalize w4.drewN q9=w5 at B5 R5 ⊢
          have hoc:=gK (XZ.out.bounds (J _) HXZ.out) HO1.out
          have hgl5:g < wz.heap.size:=hoc.1.2
          have c50:=(B5.out.cell (p:=⟨g,B * 3,none⟩) hgl5).trans hoc.2.1.1
          have c51:=(B5.out.cell (p:=⟨g,B * 3+1,none⟩) hgl5).trans hoc.2.1.2.1
          have c52:=(B5.out.cell (p:=⟨g,B * 3+2,none⟩) hgl5).trans hoc.2.1.2.2
          have f50:=(B5.out.frozen (p:=⟨g,B * 3,none⟩) hgl5).trans (hoc.2.2.1 _)
          have f51:=(B5.out.frozen (p:=⟨g,B * 3+1,none⟩) hgl5).trans (hoc.2.2.1 _)
          have f52:=(B5.out.frozen (p:=⟨g,B * 3+2,none⟩) hgl5).trans (hoc.2.2.1 _)
          have X6:Hid (OwnX bV (setCs w5 g (B * 3) [.int .i64 mr,.int .i64 mc,.slice ma mx.length mk]) w.heap.size (setCs w5 g (B * 3) [.int .i64 mr,.int .i64 mc,.slice ma mx.length mk]).heap.size (some ⟨g,0,none⟩) n cap' (us1.set B (Dsc.ten ⟨mr,mc,ma,mk,mx⟩)) [dU hh n (U.set A true)]):=I (kK (XZ.out.bounds (J _) HXZ.out) BZ.out.size B5.out hBn (t:=⟨mr,mc,ma,mk,mx⟩) R5.out)
          have K6:Hid (Keep2 g hh wz (setCs w5 g (B * 3) [.int .i64 mr,.int .i64 mc,.slice ma mx.length mk])):=I ((Keep2.of_below B5.out).trans (Keep2.of_touch1 (aB _ _ _ _)))
          have RL6:Hid (∀b,(aK ma mk mx).val.ownBlock=some b→wz.heap.size≤b):=I (fun b e=>by
           have h1:=(R5.out.ownRow.row _ (List.mem_singleton.2 rfl)).own.lt b e
           exact h1.1)
          clear hoc hgl5 S4 S0 C4 D1 R4 B5 R5
          try unfold Dsc.val
          try simp only
          go_upto_region 63 with fail
          clear c50 c51 c52 f50 f51 f52
          change Code.wp _ _ _ _ (setCs w5 g (B * 3) [.int .i64 mr,.int .i64 mc,.slice ma mx.length mk])
          generalize setCs w5 g (B * 3) [.int .i64 mr,.int .i64 mc,.slice ma mx.length mk]=w6 at X6 K6 ⊢
          have O6:=I (OZ.out.keep K6.out HBZ.out.2.1 HBZ.out.2.2.1)
          obtain ⟨-,x0,x1,x2,x3,x4,x5,x6,xf⟩:=O6.out.seven
          clear xf x0 x3 x4 x5 x6
          have hu6:=X6.out.u
          have u6:=hu6.2.2.1 B (by rw [List.length_set,HUL.out];exact hBn)
          have v6:=hu6.2.2.2 B
          have X7:=I (X6.out.setU B)
          have K7:Hid (Keep2 g hh wz (w6.setCell ⟨hh,B,none⟩ (.bool true))):=I (K6.out.trans (Keep2.of_touch2 (aB w6 hh B [.bool true])))
          have X8:Hid (OwnX bV (w6.setCell ⟨hh,B,none⟩ (.bool true)) w.heap.size (w6.setCell ⟨hh,B,none⟩ (.bool true)).heap.size (some ⟨g,0,none⟩) n cap' (us1.set B (Dsc.ten ⟨mr,mc,ma,mk,mx⟩)) [dU hh n ((U.set A true).set B true)]):=I (X7.out.bounds (J _) (by simp [World.setCell]))
          have O8:=I (OZ.out.keep K7.out HBZ.out.2.1 HBZ.out.2.2.1)
          have Q8:=I (QZ.out.keep K7.out HBZ.out.2.2.2.2.1 HBZ.out.2.2.2.2.2)
          have B8:=I (K7.out.below BZ.out BZ.out.size HGL.out.1.1 HGL.out.1.2)
          have HM:Hid (Dsc.can ⟨mr,mc,ma,mk,mx⟩=bX ((U.set A true).getD B false) (aH G1 (B:Int)) (Dsc.can ⟨ur,uc',ua,uk,ux⟩)):=I (by rw [E4.out];exact HSV.out)
          clear hu6 X6 X7 K6 O6 E4 HSV
          have hu2:U2=(U.set A true).set B true:=by rw [HUN.out];exact jT HUI.out HK0.out H2.out
          have hg2:G2=G1.set B (bX ((U.set A true).getD B false) (aH G1 (B:Int)) (bU kk (aH G (i:Int)) (aH V (A:Int)))):=by rw [HGN.out];exact kT HUI.out HK0.out H2.out HG1.out
          have HE6:=I (HFIN.out (w6.setCell ⟨hh,B,none⟩ (.bool true)) _ (by rw [hu2];exact X8.out) (by
           rw [hg2]
           have h1:=HREL1.out.set (i:=B) (by rw [HUS1.out];exact hBn) (by rw [HG1.out,List.length_set,HGL2.out];exact hBn) (t:=Dsc.ten ⟨mr,mc,ma,mk,mx⟩) (T:=bX ((U.set A true).getD B false) (aH G1 (B:Int)) (bU kk (aH G (i:Int)) (aH V (A:Int)))) (by rw [←(HUB.out H2.out).2.2];exact HM.out)
           exact h1.mono (fun q hq hp=>.inr trivial)) B8.out ⟨by have h1:=X8.out.own.cell (List.mem_cons_self ..);exact h1.2.1.2.2,X8.out.u.1⟩)
          clear hu2 hg2 HFIN HREL1 X8 O8 Q8 B8 HM K7 HUN HGN
          go_wp2
          go_roundw
          case rel =>
           obtain ⟨us',h1,h2,h3,h4⟩:=HE6.out
           exact ⟨i,rfl,by omega,us',h1,h2,h3,h4⟩
          case measure=>first | (simp [intOf];done) | (simp [intOf];omega)
         ·focus
           rw [hu] at uc
           have HUF:=I hu
           clear hu
           obtain ⟨a0,a1,a2⟩:=HOC.out.1
           have hlen:ux.length=ox.length:=by
            have h1:=HOA.out.len;have h2:=(HUB.out H2.out).1.1.len;have h3:=HOS.out
            simp only at h1 h2;rw [h1,h2,h3.1,h3.2]
           have KA:=I (iC wv g (B * 3) b15 0 or' oc oa ua ok' uk ox.length ox ux a0 a1 a2 (by rw [←hlen];exact PV.out.three.2.2.2.1) HOA.out.see (HUB.out H2.out).1.1.see rfl hlen HOA.out.le)
           clear hlen a0 a1 a2
           go_wp2_with fail
           refine KA.out.mono fun e wa h=>?_
           obtain ⟨v,rfl,hr⟩:=RTen.of (T:=fI (Dsc.can ⟨or',oc,oa,ok',ox⟩) (Dsc.can ⟨ur,uc',ua,uk,ux⟩)) h (by simp [fI,Dsc.can])
           obtain ⟨⟨sr,sc,sa,sk,sx⟩,rfl,he,ha,hrr,hb⟩:=hr.at' (kG HOA.out.okT).1
           have HSV:Hid (Dsc.can ⟨sr,sc,sa,sk,sx⟩=bX ((U.set A true).getD B false) (aH G1 (B:Int)) (Dsc.can ⟨ur,uc',ua,uk,ux⟩)):=I (by rw [HUF.out,he,HO2.out];rfl)
           have SBL:=I hb;have SRF:=I hrr;have SOK:=I ha.okT
           obtain ⟨-,q0,q1,q2,qf⟩:=(PV.out.below hb).three
           have q3:=qf 0;have q4:=qf 1;have q5:=qf 2
           clear h hr he ha hrr hb qf uc x0 x1 x2 KA HOC
           try unfold Dsc.val
           try simp only
           go_upto_region 62 with fail
           clear q0 q1 q2 q3 q4 q5
           change Code.wp _ _ _ _ (setCs wa b15 0 [.int .i64 sr,.int .i64 sc,.slice sa sx.length sk])
           have hbv:=HBV.out
           have XZ:Hid (OwnX bV (setCs wa b15 0 [.int .i64 sr,.int .i64 sc,.slice sa sx.length sk]) w.heap.size wv.heap.size (some ⟨g,0,none⟩) n cap' us1 [dU hh n (U.set A true)]):=I ((XV.out.below SBL.out).touch1 (aB _ _ _ _) HNIb15.out)
           have PZ:=I ((PV.out.below SBL.out).set3 (x:=.int .i64 sr) (y:=.int .i64 sc) (z:=.slice sa sx.length sk))
           have QZ:=I ((QV.out.below SBL.out).touch (aB wa b15 0 [.int .i64 sr,.int .i64 sc,.slice sa sx.length sk]) HOTb15.out)
           have OZ:=I ((OV.out.below SBL.out).touch (aB wa b15 0 [.int .i64 sr,.int .i64 sc,.slice sa sx.length sk]) HGTb15.out)
           have BZ:=I (aG (aA BV.out SBL.out) HWBb15.out 0 [.int .i64 sr,.int .i64 sc,.slice sa sx.length sk])
           have HXZ:Hid (wv.heap.size≤(setCs wa b15 0 [.int .i64 sr,.int .i64 sc,.slice sa sx.length sk]).heap.size):=I (by rw [aU];exact Nat.le_trans HXB.out SBL.out.size)
           have ATZ:Hid (Dsc.At ⟨sr,sc,sa,sk,sx⟩ (setCs wa b15 0 [.int .i64 sr,.int .i64 sc,.slice sa sx.length sk])):=I (Dsc.at_of SOK.out (SRF.out.touch (aB wa b15 0 _) (.inr PV.out.lt)).arg)
           have HBZ:Hid (True∧gb≠g∧gb≠hh∧True∧gb≠g∧gb≠hh):=I hbv
           clear hbv XV PV QV OV BV HXB HBV HOA HOS SRF SOK SBL
           generalize setCs wa b15 0 [.int .i64 sr,.int .i64 sc,.slice sa sx.length sk]=wz at XZ PZ QZ OZ BZ HXZ ATZ  ⊢
          obtain ⟨-,x0,x1,x2,x3,x4,x5,x6,xf⟩:=OZ.out.seven
          obtain ⟨-,p0,p1,p2,pf⟩:=PZ.out.three
          have S0:Hid ((fun W=>W.cell? ⟨gb,2,none⟩=some (.int .i64 B)∧W.cell? ⟨b15,0,none⟩=some (.int .i64 sr)) wz):=I ⟨x2,p0⟩
          clear xf x0 x1 x2 x3 x4 x5 x6 p0 p1 p2 pf
          refine aL 7 [5] (fun W=>W.cell? ⟨gb,2,none⟩=some (.int .i64 B)∧W.cell? ⟨b15,0,none⟩=some (.int .i64 sr)) (fun _ _ _=>False) (fun f args w1 v w2=>RTen (Dsc.can ⟨sr,sc,sa,sk,sx⟩) w1 v w2) (by kernel_rfl) (by kernel_rfl) S0.out (fun W q h=>by simpa using h) ?_
          iterate 5 (refine aD (by rfl) S0.out (fun K hK W hW=>?_);obtain ⟨e0,e1⟩:=hW;go_simp;refine hK _ ?_;clear hK K e0 e1)
          refine aF (by rfl) S0.out (fun K hK q1=>?_)
          have D1:=I (below_drewN (O wz.heap.size wz) q1)
          have KC:=I (cY (wz.drewN q1) b15 0 (sr:Int) sc sa sk sx.length sx (PZ.out.below D1.out).three.2.2.1 (PZ.out.below D1.out).three.2.2.2.1 (ATZ.out.below D1.out).see rfl ATZ.out.le 0 sr ATZ.out.r1 ATZ.out.c1 (by decide) (by have:=ATZ.out.c2;simp only at this;omega) (by have:=ATZ.out.len;simp only at this;rw [Nat.zero_add,this];exact J _))
          have hz00:((0:Nat):Int)=0:=rfl
          rw [hz00] at KC
          clear hz00
          go_simp
          refine ⟨KC.out.mono (fun e w2 hh=>RTen.of hh (by
           have h1:=jD (s:=⟨sr,sc,sa,sk,sx⟩) ATZ.out
           unfold Dsc.can
           simp only at h1 ⊢
           rw [h1])),?_⟩
          rintro v w4 hd
          obtain ⟨⟨mr,mc,ma,mk,mx⟩,rfl,he,hr,hb⟩:=hd
          have C4:=I (aA D1.out hb)
          have S4:Hid ((fun W=>W.cell? ⟨gb,2,none⟩=some (.int .i64 B)∧W.cell? ⟨b15,0,none⟩=some (.int .i64 sr)) w4):=I ⟨(C4.out.cell (p:=⟨gb,2,none⟩) OZ.out.lt).trans S0.out.1,(C4.out.cell (p:=⟨b15,0,none⟩) PZ.out.lt).trans S0.out.2⟩
          refine ⟨S4.out,hK _ _ ?_⟩
          have E4:=I he;have R4:=I (hr.bounds (show wz.heap.size≤_ from D1.out.size) (J _))
          clear hK K he hr hb KC
          refine aD (by rfl) S4.out (fun K hK W hW=>?_)
          obtain ⟨e0,e1⟩:=hW
          go_simp
          refine hK _ ?_
          clear hK K e0 e1
          refine aP (fun q9=>?_)
          have B5:=I (aA C4.out (below_drewN (O _ _) q9))
          have R5:Hid (RepF (w4.drewN q9) wz.heap.size (w4.drewN q9).heap.size ma mx.length mk mx):=I ((R4.out.below (below_drewN (O _ _) q9)).bounds (J _) (by simp))
          generalize w4.drewN q9=w5 at B5 R5 ⊢
          have hoc:=gK (XZ.out.bounds (J _) HXZ.out) HO1.out
          have hgl5:g < wz.heap.size:=hoc.1.2
          have c50:=(B5.out.cell (p:=⟨g,B * 3,none⟩) hgl5).trans hoc.2.1.1
          have c51:=(B5.out.cell (p:=⟨g,B * 3+1,none⟩) hgl5).trans hoc.2.1.2.1
          have c52:=(B5.out.cell (p:=⟨g,B * 3+2,none⟩) hgl5).trans hoc.2.1.2.2
          have f50:=(B5.out.frozen (p:=⟨g,B * 3,none⟩) hgl5).trans (hoc.2.2.1 _)
          have f51:=(B5.out.frozen (p:=⟨g,B * 3+1,none⟩) hgl5).trans (hoc.2.2.1 _)
          have f52:=(B5.out.frozen (p:=⟨g,B * 3+2,none⟩) hgl5).trans (hoc.2.2.1 _)
          have X6:Hid (OwnX bV (setCs w5 g (B * 3) [.int .i64 mr,.int .i64 mc,.slice ma mx.length mk]) w.heap.size (setCs w5 g (B * 3) [.int .i64 mr,.int .i64 mc,.slice ma mx.length mk]).heap.size (some ⟨g,0,none⟩) n cap' (us1.set B (Dsc.ten ⟨mr,mc,ma,mk,mx⟩)) [dU hh n (U.set A true)]):=I (kK (XZ.out.bounds (J _) HXZ.out) BZ.out.size B5.out hBn (t:=⟨mr,mc,ma,mk,mx⟩) R5.out)
          have K6:Hid (Keep2 g hh wz (setCs w5 g (B * 3) [.int .i64 mr,.int .i64 mc,.slice ma mx.length mk])):=I ((Keep2.of_below B5.out).trans (Keep2.of_touch1 (aB _ _ _ _)))
          have RL6:Hid (∀b,(aK ma mk mx).val.ownBlock=some b→wz.heap.size≤b):=I (fun b e=>by
           have h1:=(R5.out.ownRow.row _ (List.mem_singleton.2 rfl)).own.lt b e
           exact h1.1)
          clear hoc hgl5 S4 S0 C4 D1 R4 B5 R5
          try unfold Dsc.val
          try simp only
          go_upto_region 63 with fail
          clear c50 c51 c52 f50 f51 f52
          change Code.wp _ _ _ _ (setCs w5 g (B * 3) [.int .i64 mr,.int .i64 mc,.slice ma mx.length mk])
          generalize setCs w5 g (B * 3) [.int .i64 mr,.int .i64 mc,.slice ma mx.length mk]=w6 at X6 K6 ⊢
          have O6:=I (OZ.out.keep K6.out HBZ.out.2.1 HBZ.out.2.2.1)
          obtain ⟨-,x0,x1,x2,x3,x4,x5,x6,xf⟩:=O6.out.seven
          clear xf x0 x3 x4 x5 x6
          have hu6:=X6.out.u
          have u6:=hu6.2.2.1 B (by rw [List.length_set,HUL.out];exact hBn)
          have v6:=hu6.2.2.2 B
          have X7:=I (X6.out.setU B)
          have K7:Hid (Keep2 g hh wz (w6.setCell ⟨hh,B,none⟩ (.bool true))):=I (K6.out.trans (Keep2.of_touch2 (aB w6 hh B [.bool true])))
          have X8:Hid (OwnX bV (w6.setCell ⟨hh,B,none⟩ (.bool true)) w.heap.size (w6.setCell ⟨hh,B,none⟩ (.bool true)).heap.size (some ⟨g,0,none⟩) n cap' (us1.set B (Dsc.ten ⟨mr,mc,ma,mk,mx⟩)) [dU hh n ((U.set A true).set B true)]):=I (X7.out.bounds (J _) (by simp [World.setCell]))
          have O8:=I (OZ.out.keep K7.out HBZ.out.2.1 HBZ.out.2.2.1)
          have Q8:=I (QZ.out.keep K7.out HBZ.out.2.2.2.2.1 HBZ.out.2.2.2.2.2)
          have B8:=I (K7.out.below BZ.out BZ.out.size HGL.out.1.1 HGL.out.1.2)
          have HM:Hid (Dsc.can ⟨mr,mc,ma,mk,mx⟩=bX ((U.set A true).getD B false) (aH G1 (B:Int)) (Dsc.can ⟨ur,uc',ua,uk,ux⟩)):=I (by rw [E4.out];exact HSV.out)
          clear hu6 X6 X7 K6 O6 E4 HSV
          have hu2:U2=(U.set A true).set B true:=by rw [HUN.out];exact jT HUI.out HK0.out H2.out
          have hg2:G2=G1.set B (bX ((U.set A true).getD B false) (aH G1 (B:Int)) (bU kk (aH G (i:Int)) (aH V (A:Int)))):=by rw [HGN.out];exact kT HUI.out HK0.out H2.out HG1.out
          have HE6:=I (HFIN.out (w6.setCell ⟨hh,B,none⟩ (.bool true)) _ (by rw [hu2];exact X8.out) (by
           rw [hg2]
           have h1:=HREL1.out.set (i:=B) (by rw [HUS1.out];exact hBn) (by rw [HG1.out,List.length_set,HGL2.out];exact hBn) (t:=Dsc.ten ⟨mr,mc,ma,mk,mx⟩) (T:=bX ((U.set A true).getD B false) (aH G1 (B:Int)) (bU kk (aH G (i:Int)) (aH V (A:Int)))) (by rw [←(HUB.out H2.out).2.2];exact HM.out)
           exact h1.mono (fun q hq hp=>.inr trivial)) B8.out ⟨by have h1:=X8.out.own.cell (List.mem_cons_self ..);exact h1.2.1.2.2,X8.out.u.1⟩)
          clear hu2 hg2 HFIN HREL1 X8 O8 Q8 B8 HM K7 HUN HGN
          go_wp2
          go_roundw
          case rel =>
           obtain ⟨us',h1,h2,h3,h4⟩:=HE6.out
           exact ⟨i,rfl,by omega,us',h1,h2,h3,h4⟩
          case measure=>first | (simp [intOf];done) | (simp [intOf];omega)
       ·focus
         rw [hu] at uc
         have HUF:=I hu
         clear hu
         obtain ⟨a0,a1,a2⟩:=HOC.out.1
         have hlen:tx.length=ox.length:=by
          have h1:=HOA.out.len;have h2:=HT8.out.1.1.len;have h3:=HOS.out
          simp only at h1 h2;rw [h1,h2,h3.1,h3.2]
         have KA:=I (iC wv g (A * 3) b14 0 or' oc oa ta ok' tk ox.length ox tx a0 a1 a2 (by rw [←hlen];exact PV.out.three.2.2.2.1) HOA.out.see HT8.out.1.1.see rfl hlen HOA.out.le)
         clear hlen a0 a1 a2
         go_wp2_with fail
         refine KA.out.mono fun e wa h=>?_
         obtain ⟨v,rfl,hr⟩:=RTen.of (T:=fI (Dsc.can ⟨or',oc,oa,ok',ox⟩) (Dsc.can ⟨tr,tc,ta,tk,tx⟩)) h (by simp [fI,Dsc.can])
         obtain ⟨⟨sr,sc,sa,sk,sx⟩,rfl,he,ha,hrr,hb⟩:=hr.at' (kG HOA.out.okT).1
         have HSV:Hid (Dsc.can ⟨sr,sc,sa,sk,sx⟩=bX (U.getD A false) (aH G (A:Int)) (Dsc.can ⟨tr,tc,ta,tk,tx⟩)):=I (by rw [HUF.out,he,HO2.out];rfl)
         have SBL:=I hb;have SRF:=I hrr;have SOK:=I ha.okT
         obtain ⟨-,q0,q1,q2,qf⟩:=(PV.out.below hb).three
         have q3:=qf 0;have q4:=qf 1;have q5:=qf 2
         clear h hr he ha hrr hb qf uc x0 x1 x2 KA HOC
         try unfold Dsc.val
         try simp only
         go_upto_region 57 with fail
         clear q0 q1 q2 q3 q4 q5
         change Code.wp _ _ _ _ (setCs wa b14 0 [.int .i64 sr,.int .i64 sc,.slice sa sx.length sk])
         have hbv:=HBV.out
         have XZ:Hid (OwnX bV (setCs wa b14 0 [.int .i64 sr,.int .i64 sc,.slice sa sx.length sk]) w.heap.size wq.heap.size (some ⟨g,0,none⟩) n cap' us [dU hh n U]):=I ((XV.out.below SBL.out).touch1 (aB _ _ _ _) HNIb14.out)
         have PZ:=I ((PV.out.below SBL.out).set3 (x:=.int .i64 sr) (y:=.int .i64 sc) (z:=.slice sa sx.length sk))
         have QZ:=I ((QV.out.below SBL.out).touch (aB wa b14 0 [.int .i64 sr,.int .i64 sc,.slice sa sx.length sk]) HOTb14.out)
         have OZ:=I ((OV.out.below SBL.out).touch (aB wa b14 0 [.int .i64 sr,.int .i64 sc,.slice sa sx.length sk]) HGTb14.out)
         have BZ:=I (aG (aA BV.out SBL.out) HWBb14.out 0 [.int .i64 sr,.int .i64 sc,.slice sa sx.length sk])
         have HXZ:Hid (wq.heap.size≤(setCs wa b14 0 [.int .i64 sr,.int .i64 sc,.slice sa sx.length sk]).heap.size):=I (by rw [aU];exact Nat.le_trans HXB.out SBL.out.size)
         have ATZ:Hid (Dsc.At ⟨sr,sc,sa,sk,sx⟩ (setCs wa b14 0 [.int .i64 sr,.int .i64 sc,.slice sa sx.length sk])):=I (Dsc.at_of SOK.out (SRF.out.touch (aB wa b14 0 _) (.inr PV.out.lt)).arg)
         have HBZ:Hid (True∧gb≠g∧gb≠hh∧True∧b15≠g∧b15≠hh):=I hbv
         have HUZ:Hid (fL kk=true→((Dsc.At ⟨ur,uc',ua,uk,ux⟩ (setCs wa b14 0 [.int .i64 sr,.int .i64 sc,.slice sa sx.length sk]))∧∀b o,ua=some ⟨b,o,none⟩→(b≠g∧b≠hh)∧b≠b14∧b≠b15∧b≠gb)∧(Dsc.can ⟨ur,uc',ua,uk,ux⟩).sh=(aH V (B:Int)).sh∧(Dsc.can ⟨ur,uc',ua,uk,ux⟩)=bU kk (aH G (i:Int)) (aH V (A:Int))):=I (fun h2=>⟨⟨((HUZ.out h2).1.1.below SBL.out).box 0 _ (fun b o e=>((HUZ.out h2).1.2 b o e).2.1),(HUZ.out h2).1.2⟩,(HUZ.out h2).2⟩)
         clear hbv XV PV QV OV BV HXB HBV HOA HOS SRF SOK SBL
         generalize setCs wa b14 0 [.int .i64 sr,.int .i64 sc,.slice sa sx.length sk]=wz at XZ PZ QZ OZ BZ HXZ ATZ HUZ ⊢
        obtain ⟨-,x0,x1,x2,x3,x4,x5,x6,xf⟩:=OZ.out.seven
        obtain ⟨-,p0,p1,p2,pf⟩:=PZ.out.three
        have S0:Hid ((fun W=>W.cell? ⟨gb,1,none⟩=some (.int .i64 A)∧W.cell? ⟨b14,0,none⟩=some (.int .i64 sr)) wz):=I ⟨x1,p0⟩
        clear xf x0 x1 x2 x3 x4 x5 x6 p0 p1 p2 pf
        refine aL 7 [5] (fun W=>W.cell? ⟨gb,1,none⟩=some (.int .i64 A)∧W.cell? ⟨b14,0,none⟩=some (.int .i64 sr)) (fun _ _ _=>False) (fun f args w1 v w2=>RTen (Dsc.can ⟨sr,sc,sa,sk,sx⟩) w1 v w2) (by kernel_rfl) (by kernel_rfl) S0.out (fun W q h=>by simpa using h) ?_
        iterate 5 (refine aD (by rfl) S0.out (fun K hK W hW=>?_);obtain ⟨e0,e1⟩:=hW;go_simp;refine hK _ ?_;clear hK K e0 e1)
        refine aF (by rfl) S0.out (fun K hK q1=>?_)
        have D1:=I (below_drewN (O wz.heap.size wz) q1)
        have KC:=I (cY (wz.drewN q1) b14 0 (sr:Int) sc sa sk sx.length sx (PZ.out.below D1.out).three.2.2.1 (PZ.out.below D1.out).three.2.2.2.1 (ATZ.out.below D1.out).see rfl ATZ.out.le 0 sr ATZ.out.r1 ATZ.out.c1 (by decide) (by have:=ATZ.out.c2;simp only at this;omega) (by have:=ATZ.out.len;simp only at this;rw [Nat.zero_add,this];exact J _))
        have hz00:((0:Nat):Int)=0:=rfl
        rw [hz00] at KC
        clear hz00
        go_simp
        refine ⟨KC.out.mono (fun e w2 hh=>RTen.of hh (by
         have h1:=jD (s:=⟨sr,sc,sa,sk,sx⟩) ATZ.out
         unfold Dsc.can
         simp only at h1 ⊢
         rw [h1])),?_⟩
        rintro v w4 hd
        obtain ⟨⟨mr,mc,ma,mk,mx⟩,rfl,he,hr,hb⟩:=hd
        have C4:=I (aA D1.out hb)
        have S4:Hid ((fun W=>W.cell? ⟨gb,1,none⟩=some (.int .i64 A)∧W.cell? ⟨b14,0,none⟩=some (.int .i64 sr)) w4):=I ⟨(C4.out.cell (p:=⟨gb,1,none⟩) OZ.out.lt).trans S0.out.1,(C4.out.cell (p:=⟨b14,0,none⟩) PZ.out.lt).trans S0.out.2⟩
        refine ⟨S4.out,hK _ _ ?_⟩
        have E4:=I he;have R4:=I (hr.bounds (show wz.heap.size≤_ from D1.out.size) (J _))
        clear hK K he hr hb KC
        refine aD (by rfl) S4.out (fun K hK W hW=>?_)
        obtain ⟨e0,e1⟩:=hW
        go_simp
        refine hK _ ?_
        clear hK K e0 e1
        refine aP (fun q9=>?_)
        have B5:=I (aA C4.out (below_drewN (O _ _) q9))
        have R5:Hid (RepF (w4.drewN q9) wz.heap.size (w4.drewN q9).heap.size ma mx.length mk mx):=I ((R4.out.below (below_drewN (O _ _) q9)).bounds (J _) (by simp))
        generalize w4.drewN q9=w5 at B5 R5 ⊢
        have hoc:=gK (XZ.out.bounds (J _) HXZ.out) HO1.out
        have hgl5:g < wz.heap.size:=hoc.1.2
        have c50:=(B5.out.cell (p:=⟨g,A * 3,none⟩) hgl5).trans hoc.2.1.1
        have c51:=(B5.out.cell (p:=⟨g,A * 3+1,none⟩) hgl5).trans hoc.2.1.2.1
        have c52:=(B5.out.cell (p:=⟨g,A * 3+2,none⟩) hgl5).trans hoc.2.1.2.2
        have f50:=(B5.out.frozen (p:=⟨g,A * 3,none⟩) hgl5).trans (hoc.2.2.1 _)
        have f51:=(B5.out.frozen (p:=⟨g,A * 3+1,none⟩) hgl5).trans (hoc.2.2.1 _)
        have f52:=(B5.out.frozen (p:=⟨g,A * 3+2,none⟩) hgl5).trans (hoc.2.2.1 _)
        have X6:Hid (OwnX bV (setCs w5 g (A * 3) [.int .i64 mr,.int .i64 mc,.slice ma mx.length mk]) w.heap.size (setCs w5 g (A * 3) [.int .i64 mr,.int .i64 mc,.slice ma mx.length mk]).heap.size (some ⟨g,0,none⟩) n cap' (us.set A (Dsc.ten ⟨mr,mc,ma,mk,mx⟩)) [dU hh n U]):=I (kK (XZ.out.bounds (J _) HXZ.out) BZ.out.size B5.out hAn (t:=⟨mr,mc,ma,mk,mx⟩) R5.out)
        have K6:Hid (Keep2 g hh wz (setCs w5 g (A * 3) [.int .i64 mr,.int .i64 mc,.slice ma mx.length mk])):=I ((Keep2.of_below B5.out).trans (Keep2.of_touch1 (aB _ _ _ _)))
        have RL6:Hid (∀b,(aK ma mk mx).val.ownBlock=some b→wz.heap.size≤b):=I (fun b e=>by
         have h1:=(R5.out.ownRow.row _ (List.mem_singleton.2 rfl)).own.lt b e
         exact h1.1)
        clear hoc hgl5 S4 S0 C4 D1 R4 B5 R5
        try unfold Dsc.val
        try simp only
        go_upto_region 58 with fail
        clear c50 c51 c52 f50 f51 f52
        change Code.wp _ _ _ _ (setCs w5 g (A * 3) [.int .i64 mr,.int .i64 mc,.slice ma mx.length mk])
        generalize setCs w5 g (A * 3) [.int .i64 mr,.int .i64 mc,.slice ma mx.length mk]=w6 at X6 K6 ⊢
        have O6:=I (OZ.out.keep K6.out HBZ.out.2.1 HBZ.out.2.2.1)
        obtain ⟨-,x0,x1,x2,x3,x4,x5,x6,xf⟩:=O6.out.seven
        clear xf x0 x3 x4 x5 x6
        have hu6:=X6.out.u
        have u6:=hu6.2.2.1 A (by rw [HUL.out];exact hAn)
        have v6:=hu6.2.2.2 A
        have X7:=I (X6.out.setU A)
        have K7:Hid (Keep2 g hh wz (w6.setCell ⟨hh,A,none⟩ (.bool true))):=I (K6.out.trans (Keep2.of_touch2 (aB w6 hh A [.bool true])))
        have X8:Hid (OwnX bV (w6.setCell ⟨hh,A,none⟩ (.bool true)) w.heap.size (w6.setCell ⟨hh,A,none⟩ (.bool true)).heap.size (some ⟨g,0,none⟩) n cap' (us.set A (Dsc.ten ⟨mr,mc,ma,mk,mx⟩)) [dU hh n (U.set A true)]):=I (X7.out.bounds (J _) (by simp [World.setCell]))
        have O8:=I (OZ.out.keep K7.out HBZ.out.2.1 HBZ.out.2.2.1)
        have Q8:=I (QZ.out.keep K7.out HBZ.out.2.2.2.2.1 HBZ.out.2.2.2.2.2)
        have B8:=I (K7.out.below BZ.out BZ.out.size HGL.out.1.1 HGL.out.1.2)
        have HM:Hid (Dsc.can ⟨mr,mc,ma,mk,mx⟩=bX (U.getD A false) (aH G (A:Int)) (Dsc.can ⟨tr,tc,ta,tk,tx⟩)):=I (by rw [E4.out];exact HSV.out)
        clear hu6 X6 X7 K6 O6 E4 HSV
        have HUB:Hid (fL kk=true→((Dsc.At ⟨ur,uc',ua,uk,ux⟩ (w6.setCell ⟨hh,A,none⟩ (.bool true)))∧∀b o,ua=some ⟨b,o,none⟩→(b≠g∧b≠hh)∧b≠b14∧b≠b15∧b≠gb)∧(Dsc.can ⟨ur,uc',ua,uk,ux⟩).sh=(aH V (B:Int)).sh∧(Dsc.can ⟨ur,uc',ua,uk,ux⟩)=bU kk (aH G (i:Int)) (aH V (A:Int))):=I (fun h2=>⟨⟨(HUZ.out h2).1.1.keep K7.out (fun b o e=>((HUZ.out h2).1.2 b o e).1),(HUZ.out h2).1.2⟩,(HUZ.out h2).2⟩)
        have HNB:Hid (NotIn bV (some ⟨g,0,none⟩) n cap' (us.set A (Dsc.ten ⟨mr,mc,ma,mk,mx⟩)) [dU hh n (U.set A true)] b15):=I (HNIb15.out.set _ (fun b e=>by have h1:=RL6.out b e;have h2:=QZ.out.lt;omega))
        obtain ⟨G1,hG1⟩:∃G1,G1=G.set A (bX (U.getD A false) (aH G (A:Int)) (bC kk (aH G (i:Int)) (aH V (A:Int)) (aH V (B:Int)) (cn .f32 q))):=⟨_,rfl⟩
        have HG1:=I hG1
        have HREL1:Hid (RelG (us.set A (Dsc.ten ⟨mr,mc,ma,mk,mx⟩)) G1 n (fun _=>True)):=I (by
         rw [hG1]
         have h1:=HREL.out.set (i:=A) (by rw [XZ.out.len];exact hAn) (by rw [HGL2.out];exact hAn) (t:=Dsc.ten ⟨mr,mc,ma,mk,mx⟩) (T:=bX (U.getD A false) (aH G (A:Int)) (bC kk (aH G (i:Int)) (aH V (A:Int)) (aH V (B:Int)) (cn .f32 q))) (by rw [←HTC.out.2.2];exact HM.out)
         exact h1.mono (fun q hq hp=>.inr trivial))
        have OKG1:Hid (OkG V (U.set A true) G1):=I (by
         rw [hG1]
         refine HOG.out.give (by rw [HVL.out];exact hAn) (p:=bC kk (aH G (i:Int)) (aH V (A:Int)) (aH V (B:Int)) (cn .f32 q)) ?_ ?_ (by rw [HUL.out,HVL.out])
         ·rw [←HTC.out.2.2];exact HTC.out.1
         ·rw [←HTC.out.2.2];exact HTC.out.2.1)
        have HUS1:Hid ((us.set A (Dsc.ten ⟨mr,mc,ma,mk,mx⟩)).length=n):=I X8.out.len
        clear hG1 HUZ HM RL6 K7 HREL HOG XZ PZ QZ OZ BZ HXZ ATZ HO1 HO2 HTC
        go_upto_region 59 with fail
        clear u6 v6 x1 x2
        generalize us.set A (Dsc.ten ⟨mr,mc,ma,mk,mx⟩)=us1 at X8 HNB HREL1 HUS1
        clear HNIb14 HNIb15 HOTb14 HGTb14 HWBb14
        generalize w6.setCell ⟨hh,A,none⟩ (.bool true)=w8 at X8 O8 Q8 B8 HUB ⊢
        obtain ⟨-,x0,x1,x2,x3,x4,x5,x6,xf⟩:=O8.out.seven
        clear xf x1 x2 x3 x4 x5 x6
        go_wp2_with fail
        refine (rH kk _).mono ?_
        rintro e wt ⟨rfl,rfl⟩
        clear x0
        cases h2:fL kk
        ·as_aux_lemma =>
          have hu2:U2=U.set A true:=by rw [HUN.out];exact oP HUI.out HK0.out h2
          have hg2:G2=G1:=by rw [HGN.out,HG1.out];exact qN HUI.out HK0.out h2
          have HE6:=I (HFIN.out w8 us1 (by rw [hu2];exact X8.out) (by rw [hg2];exact HREL1.out) B8.out ⟨by have h1:=X8.out.own.cell (List.mem_cons_self ..);exact h1.2.1.2.2,X8.out.u.1⟩)
          clear hu2 hg2 HFIN HREL1 X8 O8 Q8 B8 HUN HGN HUB HNB OKG1 HG1 h2
          go_wp2
          go_roundw
          case rel =>
           obtain ⟨us',h1,h2,h3,h4⟩:=HE6.out
           exact ⟨i,rfl,by omega,us',h1,h2,h3,h4⟩
          case measure=>first | (simp [intOf];done) | (simp [intOf];omega)
        ·have H2:=I h2
         clear h2
         have XV:=X8;have PV:=Q8;have QV:=O8;have OV:=O8;have BV:=B8
         have HXB:Hid (w8.heap.size≤w8.heap.size):=I (J _)
         have HBV:Hid (True∧gb≠g∧gb≠hh∧True∧gb≠g∧gb≠hh):=I ⟨trivial,HGBN2.out.1,HGBN2.out.2,trivial,HGBN2.out.1,HGBN2.out.2⟩
         have HNIb15:=HNB
         have HOTb15:=HGTb15
         clear X8 Q8 O8 B8 HNB
         obtain ⟨wv,hwv⟩:∃wv:World,wv=w8:=⟨_,rfl⟩
         rw [←hwv] at XV PV QV OV BV HXB HUB ⊢
         clear hwv
         obtain ⟨old,ho1,ho2⟩:=HREL1.out B hBn trivial
         have hoo:=(OKG1.out.2 B (by rw [HVL.out];exact hBn)).1
         obtain ⟨D,rfl⟩:=lW (t:=old) (by rw [ho2];exact hoo.1)
         obtain ⟨or',oc,oa,ok',ox⟩:=D
         have HO2:Hid (Dsc.can ⟨or',oc,oa,ok',ox⟩=aH G1 (B:Int)):=I ho2
         have HO1:=I ho1
         have HOS:Hid (or'=ur∧oc=uc'):=I (by
          have h1:(Dsc.can ⟨or',oc,oa,ok',ox⟩).sh=(Dsc.can ⟨ur,uc',ua,uk,ux⟩).sh:=by rw [HO2.out,hoo.2];exact (HUB.out H2.out).2.1.symm
          have h2:(((or':Nat):Int),((oc:Nat):Int))=(((ur:Nat):Int),((uc':Nat):Int)):=h1
          simp at h2;omega)
         have hocells:=gK (XV.out.bounds (J _) HXB.out) ho1
         have HOA:Hid (Dsc.At ⟨or',oc,oa,ok',ox⟩ wv):=I (Dsc.at_of (by rw [HO2.out];exact hoo.1) hocells.2.2.2)
         have HOC:=I (And.intro hocells.2.1 hocells.2.2.1)
         have huu:=XV.out.u
         have uc:=huu.2.2.1 B (by rw [List.length_set,HUL.out];exact hBn)
         obtain ⟨-,x0,x1,x2,x3,x4,x5,x6,xf⟩:=OV.out.seven
         clear ho1 ho2 hoo hocells huu xf x3 x4 x5 x6
         cases hu:(U.set A true).getD B false
         ·focus
           rw [hu] at uc
           have HUF:=I hu
           clear hu
           go_upto_region 62 with fail
           clear uc x0 x1 x2
           have HSV:Hid (Dsc.can ⟨ur,uc',ua,uk,ux⟩=bX ((U.set A true).getD B false) (aH G1 (B:Int)) (Dsc.can ⟨ur,uc',ua,uk,ux⟩)):=I (by rw [HUF.out];rfl)
           have XZ:=XV;have PZ:=PV;have QZ:=QV;have OZ:=OV;have BZ:=BV;have HXZ:=HXB
           have ATZ:Hid (Dsc.At ⟨ur,uc',ua,uk,ux⟩ wv):=I (HUB.out H2.out).1.1
           have HBZ:Hid (True∧gb≠g∧gb≠hh∧True∧gb≠g∧gb≠hh):=I HBV.out
           clear XV PV QV OV BV HXB HBV HOA HOC HOS
           obtain ⟨wz,hwz⟩:∃wz:World,wz=wv:=⟨_,rfl⟩
           rw [←hwz] at XZ PZ QZ OZ BZ HXZ ATZ  ⊢
           clear hwz
          obtain ⟨-,x0,x1,x2,x3,x4,x5,x6,xf⟩:=OZ.out.seven
          obtain ⟨-,p0,p1,p2,pf⟩:=PZ.out.three
          have S0:Hid ((fun W=>W.cell? ⟨gb,2,none⟩=some (.int .i64 B)∧W.cell? ⟨b15,0,none⟩=some (.int .i64 ur)) wz):=I ⟨x2,p0⟩
          clear xf x0 x1 x2 x3 x4 x5 x6 p0 p1 p2 pf
          refine aL 7 [5] (fun W=>W.cell? ⟨gb,2,none⟩=some (.int .i64 B)∧W.cell? ⟨b15,0,none⟩=some (.int .i64 ur)) (fun _ _ _=>False) (fun f args w1 v w2=>RTen (Dsc.can ⟨ur,uc',ua,uk,ux⟩) w1 v w2) (by kernel_rfl) (by kernel_rfl) S0.out (fun W q h=>by simpa using h) ?_
          iterate 5 (refine aD (by rfl) S0.out (fun K hK W hW=>?_);obtain ⟨e0,e1⟩:=hW;go_simp;refine hK _ ?_;clear hK K e0 e1)
          refine aF (by rfl) S0.out (fun K hK q1=>?_)
          have D1:=I (below_drewN (O wz.heap.size wz) q1)
          have KC:=I (cY (wz.drewN q1) b15 0 (ur:Int) uc' ua uk ux.length ux (PZ.out.below D1.out).three.2.2.1 (PZ.out.below D1.out).three.2.2.2.1 (ATZ.out.below D1.out).see rfl ATZ.out.le 0 ur ATZ.out.r1 ATZ.out.c1 (by decide) (by have:=ATZ.out.c2;simp only at this;omega) (by have:=ATZ.out.len;simp only at this;rw [Nat.zero_add,this];exact J _))
          have hz00:((0:Nat):Int)=0:=rfl
          rw [hz00] at KC
          clear hz00
          go_simp
          refine ⟨KC.out.mono (fun e w2 hh=>RTen.of hh (by
           have h1:=jD (s:=⟨ur,uc',ua,uk,ux⟩) ATZ.out
           unfold Dsc.can
           simp only at h1 ⊢
           rw [h1])),?_⟩
          rintro v w4 hd
          obtain ⟨⟨mr,mc,ma,mk,mx⟩,rfl,he,hr,hb⟩:=hd
          have C4:=I (aA D1.out hb)
          have S4:Hid ((fun W=>W.cell? ⟨gb,2,none⟩=some (.int .i64 B)∧W.cell? ⟨b15,0,none⟩=some (.int .i64 ur)) w4):=I ⟨(C4.out.cell (p:=⟨gb,2,none⟩) OZ.out.lt).trans S0.out.1,(C4.out.cell (p:=⟨b15,0,none⟩) PZ.out.lt).trans S0.out.2⟩
          refine ⟨S4.out,hK _ _ ?_⟩
          have E4:=I he;have R4:=I (hr.bounds (show wz.heap.size≤_ from D1.out.size) (J _))
          clear hK K he hr hb KC
          refine aD (by rfl) S4.out (fun K hK W hW=>?_)
          obtain ⟨e0,e1⟩:=hW
          go_simp
          refine hK _ ?_
          clear hK K e0 e1
          refine aP (fun q9=>?_)
          have B5:=I (aA C4.out (below_drewN (O _ _) q9))
          have R5:Hid (RepF (w4.drewN q9) wz.heap.size (w4.drewN q9).heap.size ma mx.length mk mx):=I ((R4.out.below (below_drewN (O _ _) q9)).bounds (J _) (by simp))
          generalize w4.drewN q9=w5 at B5 R5 ⊢
          have hoc:=gK (XZ.out.bounds (J _) HXZ.out) HO1.out
          have hgl5:g < wz.heap.size:=hoc.1.2
          have c50:=(B5.out.cell (p:=⟨g,B * 3,none⟩) hgl5).trans hoc.2.1.1
          have c51:=(B5.out.cell (p:=⟨g,B * 3+1,none⟩) hgl5).trans hoc.2.1.2.1
          have c52:=(B5.out.cell (p:=⟨g,B * 3+2,none⟩) hgl5).trans hoc.2.1.2.2
          have f50:=(B5.out.frozen (p:=⟨g,B * 3,none⟩) hgl5).trans (hoc.2.2.1 _)
          have f51:=(B5.out.frozen (p:=⟨g,B * 3+1,none⟩) hgl5).trans (hoc.2.2.1 _)
          have f52:=(B5.out.frozen (p:=⟨g,B * 3+2,none⟩) hgl5).trans (hoc.2.2.1 _)
          have X6:Hid (OwnX bV (setCs w5 g (B * 3) [.int .i64 mr,.int .i64 mc,.slice ma mx.length mk]) w.heap.size (setCs w5 g (B * 3) [.int .i64 mr,.int .i64 mc,.slice ma mx.length mk]).heap.size (some ⟨g,0,none⟩) n cap' (us1.set B (Dsc.ten ⟨mr,mc,ma,mk,mx⟩)) [dU hh n (U.set A true)]):=I (kK (XZ.out.bounds (J _) HXZ.out) BZ.out.size B5.out hBn (t:=⟨mr,mc,ma,mk,mx⟩) R5.out)
          have K6:Hid (Keep2 g hh wz (setCs w5 g (B * 3) [.int .i64 mr,.int .i64 mc,.slice ma mx.length mk])):=I ((Keep2.of_below B5.out).trans (Keep2.of_touch1 (aB _ _ _ _)))
          have RL6:Hid (∀b,(aK ma mk mx).val.ownBlock=some b→wz.heap.size≤b):=I (fun b e=>by
           have h1:=(R5.out.ownRow.row _ (List.mem_singleton.2 rfl)).own.lt b e
           exact h1.1)
          clear hoc hgl5 S4 S0 C4 D1 R4 B5 R5
          try unfold Dsc.val
          try simp only
          go_upto_region 63 with fail
          clear c50 c51 c52 f50 f51 f52
          change Code.wp _ _ _ _ (setCs w5 g (B * 3) [.int .i64 mr,.int .i64 mc,.slice ma mx.length mk])
          generalize setCs w5 g (B * 3) [.int .i64 mr,.int .i64 mc,.slice ma mx.length mk]=w6 at X6 K6 ⊢
          have O6:=I (OZ.out.keep K6.out HBZ.out.2.1 HBZ.out.2.2.1)
          obtain ⟨-,x0,x1,x2,x3,x4,x5,x6,xf⟩:=O6.out.seven
          clear xf x0 x3 x4 x5 x6
          have hu6:=X6.out.u
          have u6:=hu6.2.2.1 B (by rw [List.length_set,HUL.out];exact hBn)
          have v6:=hu6.2.2.2 B
          have X7:=I (X6.out.setU B)
          have K7:Hid (Keep2 g hh wz (w6.setCell ⟨hh,B,none⟩ (.bool true))):=I (K6.out.trans (Keep2.of_touch2 (aB w6 hh B [.bool true])))
          have X8:Hid (OwnX bV (w6.setCell ⟨hh,B,none⟩ (.bool true)) w.heap.size (w6.setCell ⟨hh,B,none⟩ (.bool true)).heap.size (some ⟨g,0,none⟩) n cap' (us1.set B (Dsc.ten ⟨mr,mc,ma,mk,mx⟩)) [dU hh n ((U.set A true).set B true)]):=I (X7.out.bounds (J _) (by simp [World.setCell]))
          have O8:=I (OZ.out.keep K7.out HBZ.out.2.1 HBZ.out.2.2.1)
          have Q8:=I (QZ.out.keep K7.out HBZ.out.2.2.2.2.1 HBZ.out.2.2.2.2.2)
          have B8:=I (K7.out.below BZ.out BZ.out.size HGL.out.1.1 HGL.out.1.2)
          have HM:Hid (Dsc.can ⟨mr,mc,ma,mk,mx⟩=bX ((U.set A true).getD B false) (aH G1 (B:Int)) (Dsc.can ⟨ur,uc',ua,uk,ux⟩)):=I (by rw [E4.out];exact HSV.out)
          clear hu6 X6 X7 K6 O6 E4 HSV
          have hu2:U2=(U.set A true).set B true:=by rw [HUN.out];exact jT HUI.out HK0.out H2.out
          have hg2:G2=G1.set B (bX ((U.set A true).getD B false) (aH G1 (B:Int)) (bU kk (aH G (i:Int)) (aH V (A:Int)))):=by rw [HGN.out];exact kT HUI.out HK0.out H2.out HG1.out
          have HE6:=I (HFIN.out (w6.setCell ⟨hh,B,none⟩ (.bool true)) _ (by rw [hu2];exact X8.out) (by
           rw [hg2]
           have h1:=HREL1.out.set (i:=B) (by rw [HUS1.out];exact hBn) (by rw [HG1.out,List.length_set,HGL2.out];exact hBn) (t:=Dsc.ten ⟨mr,mc,ma,mk,mx⟩) (T:=bX ((U.set A true).getD B false) (aH G1 (B:Int)) (bU kk (aH G (i:Int)) (aH V (A:Int)))) (by rw [←(HUB.out H2.out).2.2];exact HM.out)
           exact h1.mono (fun q hq hp=>.inr trivial)) B8.out ⟨by have h1:=X8.out.own.cell (List.mem_cons_self ..);exact h1.2.1.2.2,X8.out.u.1⟩)
          clear hu2 hg2 HFIN HREL1 X8 O8 Q8 B8 HM K7 HUN HGN
          go_wp2
          go_roundw
          case rel =>
           obtain ⟨us',h1,h2,h3,h4⟩:=HE6.out
           exact ⟨i,rfl,by omega,us',h1,h2,h3,h4⟩
          case measure=>first | (simp [intOf];done) | (simp [intOf];omega)
         ·focus
           rw [hu] at uc
           have HUF:=I hu
           clear hu
           obtain ⟨a0,a1,a2⟩:=HOC.out.1
           have hlen:ux.length=ox.length:=by
            have h1:=HOA.out.len;have h2:=(HUB.out H2.out).1.1.len;have h3:=HOS.out
            simp only at h1 h2;rw [h1,h2,h3.1,h3.2]
           have KA:=I (iC wv g (B * 3) b15 0 or' oc oa ua ok' uk ox.length ox ux a0 a1 a2 (by rw [←hlen];exact PV.out.three.2.2.2.1) HOA.out.see (HUB.out H2.out).1.1.see rfl hlen HOA.out.le)
           clear hlen a0 a1 a2
           go_wp2_with fail
           refine KA.out.mono fun e wa h=>?_
           obtain ⟨v,rfl,hr⟩:=RTen.of (T:=fI (Dsc.can ⟨or',oc,oa,ok',ox⟩) (Dsc.can ⟨ur,uc',ua,uk,ux⟩)) h (by simp [fI,Dsc.can])
           obtain ⟨⟨sr,sc,sa,sk,sx⟩,rfl,he,ha,hrr,hb⟩:=hr.at' (kG HOA.out.okT).1
           have HSV:Hid (Dsc.can ⟨sr,sc,sa,sk,sx⟩=bX ((U.set A true).getD B false) (aH G1 (B:Int)) (Dsc.can ⟨ur,uc',ua,uk,ux⟩)):=I (by rw [HUF.out,he,HO2.out];rfl)
           have SBL:=I hb;have SRF:=I hrr;have SOK:=I ha.okT
           obtain ⟨-,q0,q1,q2,qf⟩:=(PV.out.below hb).three
           have q3:=qf 0;have q4:=qf 1;have q5:=qf 2
           clear h hr he ha hrr hb qf uc x0 x1 x2 KA HOC
           try unfold Dsc.val
           try simp only
           go_upto_region 62 with fail
           clear q0 q1 q2 q3 q4 q5
           change Code.wp _ _ _ _ (setCs wa b15 0 [.int .i64 sr,.int .i64 sc,.slice sa sx.length sk])
           have hbv:=HBV.out
           have XZ:Hid (OwnX bV (setCs wa b15 0 [.int .i64 sr,.int .i64 sc,.slice sa sx.length sk]) w.heap.size wv.heap.size (some ⟨g,0,none⟩) n cap' us1 [dU hh n (U.set A true)]):=I ((XV.out.below SBL.out).touch1 (aB _ _ _ _) HNIb15.out)
           have PZ:=I ((PV.out.below SBL.out).set3 (x:=.int .i64 sr) (y:=.int .i64 sc) (z:=.slice sa sx.length sk))
           have QZ:=I ((QV.out.below SBL.out).touch (aB wa b15 0 [.int .i64 sr,.int .i64 sc,.slice sa sx.length sk]) HOTb15.out)
           have OZ:=I ((OV.out.below SBL.out).touch (aB wa b15 0 [.int .i64 sr,.int .i64 sc,.slice sa sx.length sk]) HGTb15.out)
           have BZ:=I (aG (aA BV.out SBL.out) HWBb15.out 0 [.int .i64 sr,.int .i64 sc,.slice sa sx.length sk])
           have HXZ:Hid (wv.heap.size≤(setCs wa b15 0 [.int .i64 sr,.int .i64 sc,.slice sa sx.length sk]).heap.size):=I (by rw [aU];exact Nat.le_trans HXB.out SBL.out.size)
           have ATZ:Hid (Dsc.At ⟨sr,sc,sa,sk,sx⟩ (setCs wa b15 0 [.int .i64 sr,.int .i64 sc,.slice sa sx.length sk])):=I (Dsc.at_of SOK.out (SRF.out.touch (aB wa b15 0 _) (.inr PV.out.lt)).arg)
           have HBZ:Hid (True∧gb≠g∧gb≠hh∧True∧gb≠g∧gb≠hh):=I hbv
           clear hbv XV PV QV OV BV HXB HBV HOA HOS SRF SOK SBL
           generalize setCs wa b15 0 [.int .i64 sr,.int .i64 sc,.slice sa sx.length sk]=wz at XZ PZ QZ OZ BZ HXZ ATZ  ⊢
          obtain ⟨-,x0,x1,x2,x3,x4,x5,x6,xf⟩:=OZ.out.seven
          obtain ⟨-,p0,p1,p2,pf⟩:=PZ.out.three
          have S0:Hid ((fun W=>W.cell? ⟨gb,2,none⟩=some (.int .i64 B)∧W.cell? ⟨b15,0,none⟩=some (.int .i64 sr)) wz):=I ⟨x2,p0⟩
          clear xf x0 x1 x2 x3 x4 x5 x6 p0 p1 p2 pf
          refine aL 7 [5] (fun W=>W.cell? ⟨gb,2,none⟩=some (.int .i64 B)∧W.cell? ⟨b15,0,none⟩=some (.int .i64 sr)) (fun _ _ _=>False) (fun f args w1 v w2=>RTen (Dsc.can ⟨sr,sc,sa,sk,sx⟩) w1 v w2) (by kernel_rfl) (by kernel_rfl) S0.out (fun W q h=>by simpa using h) ?_
          iterate 5 (refine aD (by rfl) S0.out (fun K hK W hW=>?_);obtain ⟨e0,e1⟩:=hW;go_simp;refine hK _ ?_;clear hK K e0 e1)
          refine aF (by rfl) S0.out (fun K hK q1=>?_)
          have D1:=I (below_drewN (O wz.heap.size wz) q1)
          have KC:=I (cY (wz.drewN q1) b15 0 (sr:Int) sc sa sk sx.length sx (PZ.out.below D1.out).three.2.2.1 (PZ.out.below D1.out).three.2.2.2.1 (ATZ.out.below D1.out).see rfl ATZ.out.le 0 sr ATZ.out.r1 ATZ.out.c1 (by decide) (by have:=ATZ.out.c2;simp only at this;omega) (by have:=ATZ.out.len;simp only at this;rw [Nat.zero_add,this];exact J _))
          have hz00:((0:Nat):Int)=0:=rfl
          rw [hz00] at KC
          clear hz00
          go_simp
          refine ⟨KC.out.mono (fun e w2 hh=>RTen.of hh (by
           have h1:=jD (s:=⟨sr,sc,sa,sk,sx⟩) ATZ.out
           unfold Dsc.can
           simp only at h1 ⊢
           rw [h1])),?_⟩
          rintro v w4 hd
          obtain ⟨⟨mr,mc,ma,mk,mx⟩,rfl,he,hr,hb⟩:=hd
          have C4:=I (aA D1.out hb)
          have S4:Hid ((fun W=>W.cell? ⟨gb,2,none⟩=some (.int .i64 B)∧W.cell? ⟨b15,0,none⟩=some (.int .i64 sr)) w4):=I ⟨(C4.out.cell (p:=⟨gb,2,none⟩) OZ.out.lt).trans S0.out.1,(C4.out.cell (p:=⟨b15,0,none⟩) PZ.out.lt).trans S0.out.2⟩
          refine ⟨S4.out,hK _ _ ?_⟩
          have E4:=I he;have R4:=I (hr.bounds (show wz.heap.size≤_ from D1.out.size) (J _))
          clear hK K he hr hb KC
          refine aD (by rfl) S4.out (fun K hK W hW=>?_)
          obtain ⟨e0,e1⟩:=hW
          go_simp
          refine hK _ ?_
          clear hK K e0 e1
          refine aP (fun q9=>?_)
          have B5:=I (aA C4.out (below_drewN (O _ _) q9))
          have R5:Hid (RepF (w4.drewN q9) wz.heap.size (w4.drewN q9).heap.size ma mx.length mk mx):=I ((R4.out.below (below_drewN (O _ _) q9)).bounds (J _) (by simp))
          generalize w4.drewN q9=w5 at B5 R5 ⊢
          have hoc:=gK (XZ.out.bounds (J _) HXZ.out) HO1.out
          have hgl5:g < wz.heap.size:=hoc.1.2
          have c50:=(B5.out.cell (p:=⟨g,B * 3,none⟩) hgl5).trans hoc.2.1.1
          have c51:=(B5.out.cell (p:=⟨g,B * 3+1,none⟩) hgl5).trans hoc.2.1.2.1
          have c52:=(B5.out.cell (p:=⟨g,B * 3+2,none⟩) hgl5).trans hoc.2.1.2.2
          have f50:=(B5.out.frozen (p:=⟨g,B * 3,none⟩) hgl5).trans (hoc.2.2.1 _)
          have f51:=(B5.out.frozen (p:=⟨g,B * 3+1,none⟩) hgl5).trans (hoc.2.2.1 _)
          have f52:=(B5.out.frozen (p:=⟨g,B * 3+2,none⟩) hgl5).trans (hoc.2.2.1 _)
          have X6:Hid (OwnX bV (setCs w5 g (B * 3) [.int .i64 mr,.int .i64 mc,.slice ma mx.length mk]) w.heap.size (setCs w5 g (B * 3) [.int .i64 mr,.int .i64 mc,.slice ma mx.length mk]).heap.size (some ⟨g,0,none⟩) n cap' (us1.set B (Dsc.ten ⟨mr,mc,ma,mk,mx⟩)) [dU hh n (U.set A true)]):=I (kK (XZ.out.bounds (J _) HXZ.out) BZ.out.size B5.out hBn (t:=⟨mr,mc,ma,mk,mx⟩) R5.out)
          have K6:Hid (Keep2 g hh wz (setCs w5 g (B * 3) [.int .i64 mr,.int .i64 mc,.slice ma mx.length mk])):=I ((Keep2.of_below B5.out).trans (Keep2.of_touch1 (aB _ _ _ _)))
          have RL6:Hid (∀b,(aK ma mk mx).val.ownBlock=some b→wz.heap.size≤b):=I (fun b e=>by
           have h1:=(R5.out.ownRow.row _ (List.mem_singleton.2 rfl)).own.lt b e
           exact h1.1)
          clear hoc hgl5 S4 S0 C4 D1 R4 B5 R5
          try unfold Dsc.val
          try simp only
          go_upto_region 63 with fail
          clear c50 c51 c52 f50 f51 f52
          change Code.wp _ _ _ _ (setCs w5 g (B * 3) [.int .i64 mr,.int .i64 mc,.slice ma mx.length mk])
          generalize setCs w5 g (B * 3) [.int .i64 mr,.int .i64 mc,.slice ma mx.length mk]=w6 at X6 K6 ⊢
          have O6:=I (OZ.out.keep K6.out HBZ.out.2.1 HBZ.out.2.2.1)
          obtain ⟨-,x0,x1,x2,x3,x4,x5,x6,xf⟩:=O6.out.seven
          clear xf x0 x3 x4 x5 x6
          have hu6:=X6.out.u
          have u6:=hu6.2.2.1 B (by rw [List.length_set,HUL.out];exact hBn)
          have v6:=hu6.2.2.2 B
          have X7:=I (X6.out.setU B)
          have K7:Hid (Keep2 g hh wz (w6.setCell ⟨hh,B,none⟩ (.bool true))):=I (K6.out.trans (Keep2.of_touch2 (aB w6 hh B [.bool true])))
          have X8:Hid (OwnX bV (w6.setCell ⟨hh,B,none⟩ (.bool true)) w.heap.size (w6.setCell ⟨hh,B,none⟩ (.bool true)).heap.size (some ⟨g,0,none⟩) n cap' (us1.set B (Dsc.ten ⟨mr,mc,ma,mk,mx⟩)) [dU hh n ((U.set A true).set B true)]):=I (X7.out.bounds (J _) (by simp [World.setCell]))
          have O8:=I (OZ.out.keep K7.out HBZ.out.2.1 HBZ.out.2.2.1)
          have Q8:=I (QZ.out.keep K7.out HBZ.out.2.2.2.2.1 HBZ.out.2.2.2.2.2)
          have B8:=I (K7.out.below BZ.out BZ.out.size HGL.out.1.1 HGL.out.1.2)
          have HM:Hid (Dsc.can ⟨mr,mc,ma,mk,mx⟩=bX ((U.set A true).getD B false) (aH G1 (B:Int)) (Dsc.can ⟨ur,uc',ua,uk,ux⟩)):=I (by rw [E4.out];exact HSV.out)
          clear hu6 X6 X7 K6 O6 E4 HSV
          have hu2:U2=(U.set A true).set B true:=by rw [HUN.out];exact jT HUI.out HK0.out H2.out
          have hg2:G2=G1.set B (bX ((U.set A true).getD B false) (aH G1 (B:Int)) (bU kk (aH G (i:Int)) (aH V (A:Int)))):=by rw [HGN.out];exact kT HUI.out HK0.out H2.out HG1.out
          have HE6:=I (HFIN.out (w6.setCell ⟨hh,B,none⟩ (.bool true)) _ (by rw [hu2];exact X8.out) (by
           rw [hg2]
           have h1:=HREL1.out.set (i:=B) (by rw [HUS1.out];exact hBn) (by rw [HG1.out,List.length_set,HGL2.out];exact hBn) (t:=Dsc.ten ⟨mr,mc,ma,mk,mx⟩) (T:=bX ((U.set A true).getD B false) (aH G1 (B:Int)) (bU kk (aH G (i:Int)) (aH V (A:Int)))) (by rw [←(HUB.out H2.out).2.2];exact HM.out)
           exact h1.mono (fun q hq hp=>.inr trivial)) B8.out ⟨by have h1:=X8.out.own.cell (List.mem_cons_self ..);exact h1.2.1.2.2,X8.out.u.1⟩)
          clear hu2 hg2 HFIN HREL1 X8 O8 Q8 B8 HM K7 HUN HGN
          go_wp2
          go_roundw
          case rel =>
           obtain ⟨us',h1,h2,h3,h4⟩:=HE6.out
           exact ⟨i,rfl,by omega,us',h1,h2,h3,h4⟩
          case measure=>first | (simp [intOf];done) | (simp [intOf];omega)
     ·as_aux_lemma =>
       have hno:U.getD i false=false∨kk=0:=by
        cases h:U.getD i false
        ·exact .inl rfl
        ·right
         by_cases h0:kk=0
         ·exact h0
         ·exact absurd ⟨h,h0⟩ hc
       have HU2:Hid (U2=U):=I (by rw [HUN.out];exact qM hno)
       have HG2:Hid (G2=G):=I (by rw [HGN.out];exact uC hno)
       have HE6:=I (HFIN.out wq us (by rw [HU2.out];exact XQ.out) (by rw [HG2.out];exact HREL.out) BQ.out (by have:=ZQ.out;omega))
       clear HFIN HREL XQ BQ OB HU2 HG2 HUN HGN HOG hc
       cases hu:U.getD i false
       ·rw [hu] at uc
        go_wp2
        go_roundw
        case rel =>
         obtain ⟨us',h1,h2,h3,h4⟩:=HE6.out
         exact ⟨i,rfl,by omega,us',h1,h2,h3,h4⟩
        case measure=>first | (simp [intOf];done) | (simp [intOf];omega)
       ·have hk0:kk=0:=by
         rcases hno with h | h
         ·rw [hu] at h;cases h
         ·exact h
        subst hk0
        rw [hu] at uc
        go_wp2
        go_roundw
        case rel =>
         obtain ⟨us',h1,h2,h3,h4⟩:=HE6.out
         exact ⟨i,rfl,by omega,us',h1,h2,h3,h4⟩
        case measure=>first | (simp [intOf];done) | (simp [intOf];omega)
end Go.Proofs.YtpadlmidojpbeaaGreat
