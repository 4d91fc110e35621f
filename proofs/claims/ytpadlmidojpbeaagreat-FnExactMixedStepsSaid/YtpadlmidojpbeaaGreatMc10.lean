/- Joined texts 10. No condition. -/
import Derived.Test.YtpadlmidojpbeaaGreatMc0
import Derived.Test.YtpadlmidojpbeaaGreatMc2
import Derived.Test.YtpadlmidojpbeaaGreatMc7
import Derived.Test.YtpadlmidojpbeaaGreatMc9
set_option linter.unusedVariables false
set_option linter.unusedSimpArgs false
set_option maxRecDepth 100000
set_option maxHeartbeats 64000000
namespace Go.Proofs.YtpadlmidojpbeaaGreat
open Go Go.RowKit
def wO (T:TenP) (G:Dsc) (w w':World) (t:Dsc):Prop:=t.can=T∧(t=G∨RepF w' w.heap.size w'.heap.size t.a t.xs.length t.k t.xs)
def Db (two:Bool) (T1 T2:TenP) (G:Dsc) (w:World) (e:Ending) (w':World):Prop:=∃t u:Dsc,e=.returned (.tuple #[t.val,u.val])∧Hid (wO T1 G w w' t)∧Hid (two=true→wO T2 G w w' u)∧Below w.heap.size w w'
theorem DG (x y:Nat):cn .f32 (iH x y)=iH (cn .f32 x) (cn .f32 y):=by
 have h0:cn .f32 0=0:=bT
 have e:FloatKind.f32.format.order (cn .f32 x) 0=FloatKind.f32.format.order x 0:=by
  rw [←tC .f32 x 0,h0]
 unfold iH
 rw [e]
 split <;> simp [h0]
theorem BoxN.set3 {w:World} {g:Nat} {a b c x y z:Value} (h:BoxN w g [a,b,c]):BoxN (setCs w g 0 [x,y,z]) g [x,y,z]:=((h.set 0 x).set 1 y).set 2 z
theorem DH {t:Dsc} {w:World} (h:t.At w) (Y:List Nat):okT ⟨t.r,t.c,fT .mul t.can.xs Y t.c t.xs.length⟩:=by
 obtain ⟨h1,h2,h3,h4,h5⟩:=h.okT
 refine ⟨h1,h2,h3,h4,?_⟩
 show (fT _ _ _ _ _).length = _
 rw [mW]
 have h6:(t.xs.map (cn .f32)).length = _:=h5
 rw [List.length_map] at h6
 exact h6
theorem RTen.self {T:TenP} {w1 w2:World} {v:Value} (h:RTen T w1 v w2):RTen T w1 v w2:=h
theorem gW {wl:World} {b8 b9 lo lo' hi n cap:Nat} {ad:Option Addr} {xs:List Nat} (h:RepF wl lo hi ad n cap xs) (h8:b8 < lo) (h9:b9 < lo) (h1:lo'≤lo) (h2:hi≤wl.heap.size) (c1 c2:List Value) :
  RepF (setCs (setCs wl b8 0 c1) b9 0 c2) lo' (setCs (setCs wl b8 0 c1) b9 0 c2).heap.size ad n cap xs :=
 (((h.touch (aB wl b8 0 c1) (.inr (by omega))).touch (aB _ b9 0 c2) (.inr (by omega))).bounds h1 (by rw [aU,aU];exact h2))
theorem Ah (i x g b o cap n:Nat) (ys:List Nat) (y:Nat) (w:World) (hy:y=ys.getD i 0) (hi:i < n) (hn:n≤256) (hyl:y < 4294967296) (hz:w.cell? ⟨g,2,none⟩=some (.slice (some ⟨b,o,none⟩) n cap)) (hc:w.cell? ⟨b,o+i,none⟩=some (.float .f32 y)) :
  Calls Tryz.prog 129 (#[.int .i64 i,.float .f32 x] ++ #[.pointer (some ⟨g,0,none⟩)]) w fun e w'=>e=.returned (.float .f32 (iH x y))∧w=w':=by
 have HY:=I hy;clear hy
 show Calls Tryz.prog 129 #[.int .i64 i,.float .f32 x,.pointer (some ⟨g,0,none⟩)] w _
 unfold iH
 cases ho:(FloatKind.f32.format.order x 0 == some .gt)
 ·go_enter Tryz.func129,Tryz.ntmps129
  go_wp2
  go_ret
  exact ⟨rfl,rfl⟩
 ·go_enter Tryz.func129,Tryz.ntmps129
  go_wp2
  go_ret
  exact ⟨rfl,rfl⟩
theorem AO (w:World) (kk A B:Int) (q:Nat) (r c:Int) (adx:Option Addr) (nx capx:Nat) (G V W:Dsc) (hg:G.At w) (hv:V.At w) (hw:W.At w) (hk:1≤kk∧kk≤10) (hs:aQ kk V.can.sh W.can.sh=some G.can.sh) :
  Calls Tryz.prog 96 #[.agg #[.int .i64 kk,.int .i64 A,.int .i64 B,.float .f32 q,.int .i64 r,.int .i64 c,.slice adx nx capx],G.val,V.val,W.val] w (Db (fL kk) (bC kk G.can V.can W.can (cn .f32 q)) (bU kk G.can V.can) G w):=by
 obtain ⟨gr,gc,ga,gk,gx⟩:=G
 obtain ⟨vr,vc,va,vk,vx⟩:=V
 obtain ⟨wr,wc,wa,wk,wx⟩:=W
 show Calls Tryz.prog 96 #[.agg #[.int .i64 kk,.int .i64 A,.int .i64 B,.float .f32 q,.int .i64 r,.int .i64 c,.slice adx nx capx],.agg #[.int .i64 gr,.int .i64 gc,.slice ga gx.length gk],.agg #[.int .i64 vr,.int .i64 vc,.slice va vx.length vk],.agg #[.int .i64 wr,.int .i64 wc,.slice wa wx.length wk]] w _
 replace hs:aQ kk (((vr:Nat):Int),((vc:Nat):Int)) (((wr:Nat):Int),((wc:Nat):Int))=some (((gr:Nat):Int),((gc:Nat):Int)):=hs
 have HG:=I hg;have HV:=I hv;have HW:=I hw;have HS:=I hs
 clear hg hv hw hs
 obtain ⟨W0,hW0⟩:∃W,W=(((((w.alloc (.cells #[.int .i64 kk,.int .i64 A,.int .i64 B,.float .f32 q,.int .i64 r,.int .i64 c,.slice adx nx capx] 74)).alloc (.cells #[.int .i64 gr,.int .i64 gc,.slice ga gx.length gk] 37)).alloc (.cells #[.int .i64 vr,.int .i64 vc,.slice va vx.length vk] 37)).alloc (.cells #[.int .i64 wr,.int .i64 wc,.slice wa wx.length wk] 37)).alloc (.cells #[.int .i64 0,.int .i64 0,.slice none 0 0] 37)).alloc (.cells #[.int .i64 0,.int .i64 0,.slice none 0 0] 37):=⟨_,rfl⟩
 have b0:Below w.heap.size w W0:=by rw [hW0];exact (((dE w _ _ _).alloc (by simp;omega) _).alloc (by simp;omega) _).alloc (by simp;omega) _
 have z0:W0.heap.size=w.heap.size+6:=by rw [hW0];simp
 have OB:Hid (BoxN W0 w.heap.size [.int .i64 kk,.int .i64 A,.int .i64 B,.float .f32 q,.int .i64 r,.int .i64 c,.slice adx nx capx]):=I (by rw [hW0];exact (((((BoxN.alloc w _ 74).below (aE _ _)).below (aE _ _)).below (aE _ _)).below (aE _ _)).below (aE _ _))
 have GB:Hid (BoxN W0 (w.heap.size+1) [.int .i64 gr,.int .i64 gc,.slice ga gx.length gk]):=I (by rw [hW0];exact ((((BoxN.alloc2 w _ #[.int .i64 gr,.int .i64 gc,.slice ga gx.length gk] 37).below (aE _ _)).below (aE _ _)).below (aE _ _)).below (aE _ _))
 have VB:Hid (BoxN W0 (w.heap.size+2) [.int .i64 vr,.int .i64 vc,.slice va vx.length vk]):=I (by rw [hW0];exact (((BoxN.alloc3 w _ _ #[.int .i64 vr,.int .i64 vc,.slice va vx.length vk] 37).below (aE _ _)).below (aE _ _)).below (aE _ _))
 have WB:Hid (BoxN W0 (w.heap.size+3) [.int .i64 wr,.int .i64 wc,.slice wa wx.length wk]):=I (by
  have h:=((BoxN.alloc3 (w.alloc (.cells #[.int .i64 kk,.int .i64 A,.int .i64 B,.float .f32 q,.int .i64 r,.int .i64 c,.slice adx nx capx] 74)) (.cells #[.int .i64 gr,.int .i64 gc,.slice ga gx.length gk] 37) (.cells #[.int .i64 vr,.int .i64 vc,.slice va vx.length vk] 37) #[.int .i64 wr,.int .i64 wc,.slice wa wx.length wk] 37).below (aE _ (.cells #[.int .i64 0,.int .i64 0,.slice none 0 0] 37))).below (aE _ (.cells #[.int .i64 0,.int .i64 0,.slice none 0 0] 37))
  have e:(w.alloc (.cells #[.int .i64 kk,.int .i64 A,.int .i64 B,.float .f32 q,.int .i64 r,.int .i64 c,.slice adx nx capx] 74)).heap.size+2=w.heap.size+3:=by simp
  rw [e] at h;rw [hW0];exact h)
 have R8:Hid (BoxN W0 (w.heap.size+1+1+1+1) [.int .i64 0,.int .i64 0,.slice none 0 0]):=I (by
  have h:=(BoxN.alloc3 ((w.alloc (.cells #[.int .i64 kk,.int .i64 A,.int .i64 B,.float .f32 q,.int .i64 r,.int .i64 c,.slice adx nx capx] 74)).alloc (.cells #[.int .i64 gr,.int .i64 gc,.slice ga gx.length gk] 37)) (.cells #[.int .i64 vr,.int .i64 vc,.slice va vx.length vk] 37) (.cells #[.int .i64 wr,.int .i64 wc,.slice wa wx.length wk] 37) #[.int .i64 0,.int .i64 0,.slice none 0 0] 37).below (aE _ (.cells #[.int .i64 0,.int .i64 0,.slice none 0 0] 37))
  have e:((w.alloc (.cells #[.int .i64 kk,.int .i64 A,.int .i64 B,.float .f32 q,.int .i64 r,.int .i64 c,.slice adx nx capx] 74)).alloc (.cells #[.int .i64 gr,.int .i64 gc,.slice ga gx.length gk] 37)).heap.size+2=w.heap.size+4:=by simp
  rw [e] at h;rw [hW0];exact h)
 have R9:Hid (BoxN W0 (w.heap.size+1+1+1+1+1) [.int .i64 0,.int .i64 0,.slice none 0 0]):=I (by
  have h:=BoxN.alloc ((((((w.alloc (.cells #[.int .i64 kk,.int .i64 A,.int .i64 B,.float .f32 q,.int .i64 r,.int .i64 c,.slice adx nx capx] 74)).alloc (.cells #[.int .i64 gr,.int .i64 gc,.slice ga gx.length gk] 37)).alloc (.cells #[.int .i64 vr,.int .i64 vc,.slice va vx.length vk] 37)).alloc (.cells #[.int .i64 wr,.int .i64 wc,.slice wa wx.length wk] 37)).alloc (.cells #[.int .i64 0,.int .i64 0,.slice none 0 0] 37))) #[.int .i64 0,.int .i64 0,.slice none 0 0] 37
  have e:((((((w.alloc (.cells #[.int .i64 kk,.int .i64 A,.int .i64 B,.float .f32 q,.int .i64 r,.int .i64 c,.slice adx nx capx] 74)).alloc (.cells #[.int .i64 gr,.int .i64 gc,.slice ga gx.length gk] 37)).alloc (.cells #[.int .i64 vr,.int .i64 vc,.slice va vx.length vk] 37)).alloc (.cells #[.int .i64 wr,.int .i64 wc,.slice wa wx.length wk] 37)).alloc (.cells #[.int .i64 0,.int .i64 0,.slice none 0 0] 37))).heap.size=w.heap.size+5:=by simp
  rw [e] at h;rw [hW0];exact h)
 have KS:Hid (∀W,Below W0.heap.size W0 W→(W.cell? ⟨w.heap.size+1,0,none⟩=some (.int .i64 gr)∧W.cell? ⟨w.heap.size+1,1,none⟩=some (.int .i64 gc)∧W.cell? ⟨w.heap.size+1,2,none⟩=some (.slice ga gx.length gk))∧(W.cell? ⟨w.heap.size+1+1,0,none⟩=some (.int .i64 vr)∧W.cell? ⟨w.heap.size+1+1,1,none⟩=some (.int .i64 vc)∧W.cell? ⟨w.heap.size+1+1,2,none⟩=some (.slice va vx.length vk))∧(W.cell? ⟨w.heap.size+1+1+1,0,none⟩=some (.int .i64 wr)∧W.cell? ⟨w.heap.size+1+1+1,1,none⟩=some (.int .i64 wc)∧W.cell? ⟨w.heap.size+1+1+1,2,none⟩=some (.slice wa wx.length wk))):=I (fun W hb=>⟨(GB.out.below hb).three.2.imp_right (fun h=>h.imp_right And.left),(VB.out.below hb).three.2.imp_right (fun h=>h.imp_right And.left),(WB.out.below hb).three.2.imp_right (fun h=>h.imp_right And.left)⟩)
 have AT:Hid (∀W,Below W0.heap.size W0 W→(⟨gr,gc,ga,gk,gx⟩:Dsc).At W∧(⟨vr,vc,va,vk,vx⟩:Dsc).At W∧(⟨wr,wc,wa,wk,wx⟩:Dsc).At W):=I (fun W hb=>⟨HG.out.below (aA b0 hb),HV.out.below (aA b0 hb),HW.out.below (aA b0 hb)⟩)
 rcases (by omega:kk=1∨kk=2∨kk=3∨kk=4∨kk=5∨kk=6∨kk=7∨kk=8∨kk=9∨kk=10) with rfl | rfl | rfl | rfl | rfl | rfl | rfl | rfl | rfl | rfl
 ·as_aux_lemma =>
  go_enter Tryz.func96,Tryz.ntmps96
  go_upto_region 3 with fail
  rw [←hW0]
  have B0:=I b0
  clear hW0 b0 OB GB VB WB HG HV HW
  have S0:=I (KS.out W0 (O _ _))
  have C0:=I (O W0.heap.size W0)
  refine eZ [2,3] (fun W=>(W.cell? ⟨w.heap.size+1,0,none⟩=some (.int .i64 gr)∧W.cell? ⟨w.heap.size+1,1,none⟩=some (.int .i64 gc)∧W.cell? ⟨w.heap.size+1,2,none⟩=some (.slice ga gx.length gk))∧(W.cell? ⟨w.heap.size+1+1,0,none⟩=some (.int .i64 vr)∧W.cell? ⟨w.heap.size+1+1,1,none⟩=some (.int .i64 vc)∧W.cell? ⟨w.heap.size+1+1,2,none⟩=some (.slice va vx.length vk))∧(W.cell? ⟨w.heap.size+1+1+1,0,none⟩=some (.int .i64 wr)∧W.cell? ⟨w.heap.size+1+1+1,1,none⟩=some (.int .i64 wc)∧W.cell? ⟨w.heap.size+1+1+1,2,none⟩=some (.slice wa wx.length wk))) (fun _ _ _=>False) DAll (by kernel_rfl) (by kernel_rfl) S0.out (fun W q h=>by simpa using h) ?_
  iterate 2 (refine aD (by rfl) S0.out (fun K hK W hW=>?_);obtain ⟨⟨e0,e1,e2⟩,⟨e3,e4,e5⟩,e6,e7,e8⟩:=hW;go_simp;refine hK _ ?_;clear hK K e0 e1 e2 e3 e4 e5 e6 e7 e8)
  refine aF (by rfl) S0.out (fun K hK q8=>?_)
  have C8:=I (below_drewN C0.out q8)
  obtain ⟨-,x0,x1,x2,xf⟩:=(R8.out.below C8.out).three
  obtain ⟨⟨e0,e1,e2⟩,⟨e3,e4,e5⟩,e6,e7,e8⟩:=KS.out _ C8.out
  generalize W0.drewN q8=V8 at  C8 x0 x1 x2 xf e0 e1 e2 e3 e4 e5 e6 e7 e8 ⊢
  have x3:=xf 0;have x4:=xf 1;have x5:=xf 2
  clear xf
  try unfold Dsc.val
  try simp only
  go_simp
  have S8:=I (show (fun W=>(W.cell? ⟨w.heap.size+1,0,none⟩=some (.int .i64 gr)∧W.cell? ⟨w.heap.size+1,1,none⟩=some (.int .i64 gc)∧W.cell? ⟨w.heap.size+1,2,none⟩=some (.slice ga gx.length gk))∧(W.cell? ⟨w.heap.size+1+1,0,none⟩=some (.int .i64 vr)∧W.cell? ⟨w.heap.size+1+1,1,none⟩=some (.int .i64 vc)∧W.cell? ⟨w.heap.size+1+1,2,none⟩=some (.slice va vx.length vk))∧(W.cell? ⟨w.heap.size+1+1+1,0,none⟩=some (.int .i64 wr)∧W.cell? ⟨w.heap.size+1+1+1,1,none⟩=some (.int .i64 wc)∧W.cell? ⟨w.heap.size+1+1+1,2,none⟩=some (.slice wa wx.length wk))) (setCs V8 (w.heap.size+1+1+1+1) 0 [.int .i64 (⟨gr,gc,ga,gk,gx⟩:Dsc).r,.int .i64 (⟨gr,gc,ga,gk,gx⟩:Dsc).c,.slice (⟨gr,gc,ga,gk,gx⟩:Dsc).a (⟨gr,gc,ga,gk,gx⟩:Dsc).xs.length (⟨gr,gc,ga,gk,gx⟩:Dsc).k]) by simp only [setCs];go_simp;done)
  refine hK _ _ ?_
  change kC _ _ _ _ _ _ _ _ _ _ (setCs V8 (w.heap.size+1+1+1+1) 0 [.int .i64 (⟨gr,gc,ga,gk,gx⟩:Dsc).r,.int .i64 (⟨gr,gc,ga,gk,gx⟩:Dsc).c,.slice (⟨gr,gc,ga,gk,gx⟩:Dsc).a (⟨gr,gc,ga,gk,gx⟩:Dsc).xs.length (⟨gr,gc,ga,gk,gx⟩:Dsc).k])
  clear hK K x0 x1 x2 x3 x4 x5 e0 e1 e2 e3 e4 e5 e6 e7 e8
  refine aF (by rfl) S8.out (fun K hK q9=>?_)
  have F8:=I (((R8.out.below C8.out).set3 (x:=.int .i64 (⟨gr,gc,ga,gk,gx⟩:Dsc).r) (y:=.int .i64 (⟨gr,gc,ga,gk,gx⟩:Dsc).c) (z:=.slice (⟨gr,gc,ga,gk,gx⟩:Dsc).a (⟨gr,gc,ga,gk,gx⟩:Dsc).xs.length (⟨gr,gc,ga,gk,gx⟩:Dsc).k)).below (below_drewN (O _ _) q9))
  have F9:=I (((R9.out.below C8.out).touch (aB _ (w.heap.size+1+1+1+1) 0 [.int .i64 (⟨gr,gc,ga,gk,gx⟩:Dsc).r,.int .i64 (⟨gr,gc,ga,gk,gx⟩:Dsc).c,.slice (⟨gr,gc,ga,gk,gx⟩:Dsc).a (⟨gr,gc,ga,gk,gx⟩:Dsc).xs.length (⟨gr,gc,ga,gk,gx⟩:Dsc).k]) (.inr (by omega))).below (below_drewN (O _ _) q9))
  have BB:Hid (Below w.heap.size w ((setCs V8 (w.heap.size+1+1+1+1) 0 [.int .i64 (⟨gr,gc,ga,gk,gx⟩:Dsc).r,.int .i64 (⟨gr,gc,ga,gk,gx⟩:Dsc).c,.slice (⟨gr,gc,ga,gk,gx⟩:Dsc).a (⟨gr,gc,ga,gk,gx⟩:Dsc).xs.length (⟨gr,gc,ga,gk,gx⟩:Dsc).k]).drewN q9)):=I (below_drewN (aG (aA B0.out C8.out) (by omega) 0 _) q9)
  have S9:Hid ((fun W=>(W.cell? ⟨w.heap.size+1,0,none⟩=some (.int .i64 gr)∧W.cell? ⟨w.heap.size+1,1,none⟩=some (.int .i64 gc)∧W.cell? ⟨w.heap.size+1,2,none⟩=some (.slice ga gx.length gk))∧(W.cell? ⟨w.heap.size+1+1,0,none⟩=some (.int .i64 vr)∧W.cell? ⟨w.heap.size+1+1,1,none⟩=some (.int .i64 vc)∧W.cell? ⟨w.heap.size+1+1,2,none⟩=some (.slice va vx.length vk))∧(W.cell? ⟨w.heap.size+1+1+1,0,none⟩=some (.int .i64 wr)∧W.cell? ⟨w.heap.size+1+1+1,1,none⟩=some (.int .i64 wc)∧W.cell? ⟨w.heap.size+1+1+1,2,none⟩=some (.slice wa wx.length wk))) ((setCs V8 (w.heap.size+1+1+1+1) 0 [.int .i64 (⟨gr,gc,ga,gk,gx⟩:Dsc).r,.int .i64 (⟨gr,gc,ga,gk,gx⟩:Dsc).c,.slice (⟨gr,gc,ga,gk,gx⟩:Dsc).a (⟨gr,gc,ga,gk,gx⟩:Dsc).xs.length (⟨gr,gc,ga,gk,gx⟩:Dsc).k]).drewN q9)):=I (by simpa using S8.out)
  generalize (setCs V8 (w.heap.size+1+1+1+1) 0 [.int .i64 (⟨gr,gc,ga,gk,gx⟩:Dsc).r,.int .i64 (⟨gr,gc,ga,gk,gx⟩:Dsc).c,.slice (⟨gr,gc,ga,gk,gx⟩:Dsc).a (⟨gr,gc,ga,gk,gx⟩:Dsc).xs.length (⟨gr,gc,ga,gk,gx⟩:Dsc).k]).drewN q9=W9 at F8 F9 BB S9 ⊢
  obtain ⟨⟨e0,e1,e2⟩,⟨e3,e4,e5⟩,e6,e7,e8⟩:=S9.out
  obtain ⟨-,y0,y1,y2,yf⟩:=F9.out.three
  have y3:=yf 0;have y4:=yf 1;have y5:=yf 2
  clear yf
  try unfold Dsc.val
  try simp only
  go_simp
  have SA:=I (show (fun W=>(W.cell? ⟨w.heap.size+1,0,none⟩=some (.int .i64 gr)∧W.cell? ⟨w.heap.size+1,1,none⟩=some (.int .i64 gc)∧W.cell? ⟨w.heap.size+1,2,none⟩=some (.slice ga gx.length gk))∧(W.cell? ⟨w.heap.size+1+1,0,none⟩=some (.int .i64 vr)∧W.cell? ⟨w.heap.size+1+1,1,none⟩=some (.int .i64 vc)∧W.cell? ⟨w.heap.size+1+1,2,none⟩=some (.slice va vx.length vk))∧(W.cell? ⟨w.heap.size+1+1+1,0,none⟩=some (.int .i64 wr)∧W.cell? ⟨w.heap.size+1+1+1,1,none⟩=some (.int .i64 wc)∧W.cell? ⟨w.heap.size+1+1+1,2,none⟩=some (.slice wa wx.length wk))) (setCs W9 (w.heap.size+1+1+1+1+1) 0 [.int .i64 (⟨gr,gc,ga,gk,gx⟩:Dsc).r,.int .i64 (⟨gr,gc,ga,gk,gx⟩:Dsc).c,.slice (⟨gr,gc,ga,gk,gx⟩:Dsc).a (⟨gr,gc,ga,gk,gx⟩:Dsc).xs.length (⟨gr,gc,ga,gk,gx⟩:Dsc).k]) by simp only [setCs];go_simp;done)
  refine hK _ _ ?_
  change kC _ _ _ _ _ _ _ _ _ _ (setCs W9 (w.heap.size+1+1+1+1+1) 0 [.int .i64 (⟨gr,gc,ga,gk,gx⟩:Dsc).r,.int .i64 (⟨gr,gc,ga,gk,gx⟩:Dsc).c,.slice (⟨gr,gc,ga,gk,gx⟩:Dsc).a (⟨gr,gc,ga,gk,gx⟩:Dsc).xs.length (⟨gr,gc,ga,gk,gx⟩:Dsc).k])
  clear hK K y0 y1 y2 y3 y4 y5 e0 e1 e2 e3 e4 e5 e6 e7 e8
  refine aP (fun qa=>?_)
  obtain ⟨WF,hWF⟩:∃WF,WF=(setCs W9 (w.heap.size+1+1+1+1+1) 0 [.int .i64 (⟨gr,gc,ga,gk,gx⟩:Dsc).r,.int .i64 (⟨gr,gc,ga,gk,gx⟩:Dsc).c,.slice (⟨gr,gc,ga,gk,gx⟩:Dsc).a (⟨gr,gc,ga,gk,gx⟩:Dsc).xs.length (⟨gr,gc,ga,gk,gx⟩:Dsc).k]).drewN qa:=⟨_,rfl⟩
  have PB:Hid (Below w.heap.size w WF):=I (by rw [hWF];exact below_drewN (aG BB.out (by omega) 0 _) qa)
  have G8:Hid (BoxN WF (w.heap.size+1+1+1+1) [.int .i64 (⟨gr,gc,ga,gk,gx⟩:Dsc).r,.int .i64 (⟨gr,gc,ga,gk,gx⟩:Dsc).c,.slice (⟨gr,gc,ga,gk,gx⟩:Dsc).a (⟨gr,gc,ga,gk,gx⟩:Dsc).xs.length (⟨gr,gc,ga,gk,gx⟩:Dsc).k]):=I (by rw [hWF];exact (F8.out.touch (aB _ (w.heap.size+1+1+1+1+1) 0 _) (.inl (by omega))).below (below_drewN (O _ _) qa))
  have G9:Hid (BoxN WF (w.heap.size+1+1+1+1+1) [.int .i64 (⟨gr,gc,ga,gk,gx⟩:Dsc).r,.int .i64 (⟨gr,gc,ga,gk,gx⟩:Dsc).c,.slice (⟨gr,gc,ga,gk,gx⟩:Dsc).a (⟨gr,gc,ga,gk,gx⟩:Dsc).xs.length (⟨gr,gc,ga,gk,gx⟩:Dsc).k]):=I (by rw [hWF];exact F9.out.set3.below (below_drewN (O _ _) qa))
  rw [←hWF]
  have Z0:=I z0
  clear z0 hWF KS AT R8 R9 S0 C0 HS S8 S9 SA F8 F9 BB
  go_wp2
  try simp only [Exit.inBlock,Exit.then]
  obtain ⟨-,x0,x1,x2,xf⟩:=G8.out.three
  obtain ⟨-,y0,y1,y2,yf⟩:=G9.out.three
  refine bodyPost_ret (v:=.tuple #[(⟨gr,gc,ga,gk,gx⟩:Dsc).val,(⟨gr,gc,ga,gk,gx⟩:Dsc).val]) (by simp [results,Tryz.results96,go_sem,x0,x1,x2,y0,y1,y2,Dsc.val]) rfl ⟨(⟨gr,gc,ga,gk,gx⟩:Dsc),(⟨gr,gc,ga,gk,gx⟩:Dsc),rfl,I (⟨by simp [bC],Or.inl rfl⟩),I (fun _=>⟨by simp [bU],Or.inl rfl⟩),PB.out⟩
 ·as_aux_lemma =>
  go_enter Tryz.func96,Tryz.ntmps96
  go_upto_region 5 with fail
  rw [←hW0]
  have B0:=I b0
  clear hW0 b0 OB GB VB WB HG HV HW
  have S0:=I (KS.out W0 (O _ _))
  have C0:=I (O W0.heap.size W0)
  refine aL 4 [2,3] (fun W=>(W.cell? ⟨w.heap.size+1,0,none⟩=some (.int .i64 gr)∧W.cell? ⟨w.heap.size+1,1,none⟩=some (.int .i64 gc)∧W.cell? ⟨w.heap.size+1,2,none⟩=some (.slice ga gx.length gk))∧(W.cell? ⟨w.heap.size+1+1,0,none⟩=some (.int .i64 vr)∧W.cell? ⟨w.heap.size+1+1,1,none⟩=some (.int .i64 vc)∧W.cell? ⟨w.heap.size+1+1,2,none⟩=some (.slice va vx.length vk))∧(W.cell? ⟨w.heap.size+1+1+1,0,none⟩=some (.int .i64 wr)∧W.cell? ⟨w.heap.size+1+1+1,1,none⟩=some (.int .i64 wc)∧W.cell? ⟨w.heap.size+1+1+1,2,none⟩=some (.slice wa wx.length wk))) (fun _ _ _=>False) DAll (by kernel_rfl) (by kernel_rfl) S0.out (fun W q h=>by simpa using h) ?_
  iterate 2 (refine aD (by rfl) S0.out (fun K hK W hW=>?_);obtain ⟨⟨e0,e1,e2⟩,⟨e3,e4,e5⟩,e6,e7,e8⟩:=hW;go_simp;refine hK _ ?_;clear hK K e0 e1 e2 e3 e4 e5 e6 e7 e8)
  refine aF (by rfl) S0.out (fun K hK q1=>?_)
  go_simp
  have D1:=I (below_drewN C0.out q1)
  refine ⟨(pV (t:=(⟨gr,gc,ga,gk,gx⟩:Dsc)) (AT.out _ D1.out).1),?_⟩
  rintro v w1 hd
  obtain ⟨a1,k1,l1,rfl,he1,hr1,hb1⟩:=DAll.sumRows (t:=(⟨gr,gc,ga,gk,gx⟩:Dsc)) hd (AT.out _ D1.out).1
  have C1:=I (aA D1.out hb1)
  have hs1:=KS.out w1 C1.out
  have S1:=I hs1
  refine ⟨hs1,hK _ _ ?_⟩
  have E1:=I he1;have Z1:=I (hr1.bounds (show W0.heap.size≤_ from D1.out.size) (J _))
  clear hK K hd he1 hr1 hb1 hs1
  have LL:Hid (l1.length=gc):=I (by have:=congrArg List.length E1.out;rw [List.length_map,aJ] at this;exact this)
  refine aF (by rfl) S1.out (fun K hK q2=>?_)
  go_simp
  have D2:=I (below_drewN C1.out q2)
  refine ⟨(nD (a:=a1) (k:=k1) (ys:=l1) (Z1.out.arg.below (below_drewN (O _ _) q2)) (by rw [LL.out];exact (AT.out _ D2.out).1.c1) (by rw [LL.out];have:=(AT.out _ D2.out).1.c2;simp only at this;omega)),?_⟩
  rintro v w2 hd
  obtain ⟨⟨r2,c2,a2,k2,l2⟩,rfl,he2,ha2,hr2,hb2⟩:=(DAll.rowTensor (a:=a1) (k:=k1) (ys:=l1) hd (Z1.out.arg.below (below_drewN (O _ _) q2))).at' (by have h:=(sX (AT.out _ D2.out).1.okT);have e:(⟨1,l1.length,l1.map (cn .f32)⟩:TenP)=nB (Dsc.can ⟨gr,gc,ga,gk,gx⟩):=by { unfold nB;rw [LL.out,E1.out];simp [Dsc.can] };rw [e];exact h)
  have C2:=I (aA D2.out hb2)
  have hs2:=KS.out w2 C2.out
  have S2:=I hs2
  refine ⟨hs2,hK _ _ ?_⟩
  have E2:=I he2;have A2:=I ha2;have Z2:=I (hr2.bounds (show W0.heap.size≤_ from D2.out.size) (J _))
  clear hK K hd he2 ha2 hr2 hb2 hs2
  have EE:Hid (Dsc.can ⟨r2,c2,a2,k2,l2⟩=nB (Dsc.can ⟨gr,gc,ga,gk,gx⟩)):=I (by rw [E2.out];unfold nB;rw [LL.out,E1.out];simp [Dsc.can])
  refine aP (fun q9=>?_)
  have C9:=I (below_drewN C2.out q9)
  obtain ⟨-,x0,x1,x2,xf⟩:=(R8.out.below C9.out).three
  obtain ⟨-,y0,y1,y2,yf⟩:=(R9.out.below C9.out).three
  have ZZ2:=I ((Z2.out.below (below_drewN (O _ _) q9)).bounds (J _) (show w2.heap.size≤(w2.drewN q9).heap.size by simp))
  generalize w2.drewN q9=W9 at ZZ2 C9 x0 x1 x2 xf y0 y1 y2 yf ⊢
  obtain ⟨WF,hWF⟩:∃WF,WF=setCs (setCs W9 (w.heap.size+1+1+1+1) 0 [.int .i64 (⟨gr,gc,ga,gk,gx⟩:Dsc).r,.int .i64 (⟨gr,gc,ga,gk,gx⟩:Dsc).c,.slice (⟨gr,gc,ga,gk,gx⟩:Dsc).a (⟨gr,gc,ga,gk,gx⟩:Dsc).xs.length (⟨gr,gc,ga,gk,gx⟩:Dsc).k]) (w.heap.size+1+1+1+1+1) 0 [.int .i64 (⟨r2,c2,a2,k2,l2⟩:Dsc).r,.int .i64 (⟨r2,c2,a2,k2,l2⟩:Dsc).c,.slice (⟨r2,c2,a2,k2,l2⟩:Dsc).a (⟨r2,c2,a2,k2,l2⟩:Dsc).xs.length (⟨r2,c2,a2,k2,l2⟩:Dsc).k]:=⟨_,rfl⟩
  have P8:Hid (∀t:Dsc,RepF W9 W0.heap.size W9.heap.size t.a t.xs.length t.k t.xs→RepF WF w.heap.size WF.heap.size t.a t.xs.length t.k t.xs):=I (fun t ht=>by rw [hWF];exact gW ht (by omega) (by omega) (by omega) (J _) _ _)
  have PB:Hid (Below w.heap.size w WF):=I (by rw [hWF];exact aG (aG (aA B0.out C9.out) (by omega) 0 _) (by omega) 0 _)
  have F8:Hid (BoxN WF (w.heap.size+1+1+1+1) [.int .i64 (⟨gr,gc,ga,gk,gx⟩:Dsc).r,.int .i64 (⟨gr,gc,ga,gk,gx⟩:Dsc).c,.slice (⟨gr,gc,ga,gk,gx⟩:Dsc).a (⟨gr,gc,ga,gk,gx⟩:Dsc).xs.length (⟨gr,gc,ga,gk,gx⟩:Dsc).k]):=I (by rw [hWF];exact ((R8.out.below C9.out).set3).touch (aB _ (w.heap.size+1+1+1+1+1) 0 _) (.inl (by omega)))
  have F9:Hid (BoxN WF (w.heap.size+1+1+1+1+1) [.int .i64 (⟨r2,c2,a2,k2,l2⟩:Dsc).r,.int .i64 (⟨r2,c2,a2,k2,l2⟩:Dsc).c,.slice (⟨r2,c2,a2,k2,l2⟩:Dsc).a (⟨r2,c2,a2,k2,l2⟩:Dsc).xs.length (⟨r2,c2,a2,k2,l2⟩:Dsc).k]):=I (by rw [hWF];exact ((R9.out.below C9.out).touch (aB _ (w.heap.size+1+1+1+1) 0 _) (.inr (by omega))).set3)
  have HWF:=I hWF
  have Z0:=I z0
  have x3:=xf 0;have x4:=xf 1;have x5:=xf 2;have y3:=yf 0;have y4:=yf 1;have y5:=yf 2
  clear z0 hWF xf yf KS AT R8 R9 S0 C0 HS
  unfold Dsc.val
  simp only
  go_wp2
  try simp only [Exit.inBlock,Exit.then]
  change bodyPost _ _ _ _ _ (setCs (setCs W9 (w.heap.size+1+1+1+1) 0 [.int .i64 (⟨gr,gc,ga,gk,gx⟩:Dsc).r,.int .i64 (⟨gr,gc,ga,gk,gx⟩:Dsc).c,.slice (⟨gr,gc,ga,gk,gx⟩:Dsc).a (⟨gr,gc,ga,gk,gx⟩:Dsc).xs.length (⟨gr,gc,ga,gk,gx⟩:Dsc).k]) (w.heap.size+1+1+1+1+1) 0 [.int .i64 (⟨r2,c2,a2,k2,l2⟩:Dsc).r,.int .i64 (⟨r2,c2,a2,k2,l2⟩:Dsc).c,.slice (⟨r2,c2,a2,k2,l2⟩:Dsc).a (⟨r2,c2,a2,k2,l2⟩:Dsc).xs.length (⟨r2,c2,a2,k2,l2⟩:Dsc).k])
  rw [←HWF.out]
  clear x0 x1 x2 x3 x4 x5 y0 y1 y2 y3 y4 y5
  obtain ⟨-,x0,x1,x2,xf⟩:=F8.out.three
  obtain ⟨-,y0,y1,y2,yf⟩:=F9.out.three
  refine bodyPost_ret (v:=.tuple #[(⟨gr,gc,ga,gk,gx⟩:Dsc).val,(⟨r2,c2,a2,k2,l2⟩:Dsc).val]) (by simp [results,Tryz.results96,go_sem,x0,x1,x2,y0,y1,y2,Dsc.val]) rfl ⟨(⟨gr,gc,ga,gk,gx⟩:Dsc),(⟨r2,c2,a2,k2,l2⟩:Dsc),rfl,I (⟨by simp [bC],Or.inl rfl⟩),I (fun _=>⟨by rw [EE.out];simp [bU],Or.inr (P8.out _ ZZ2.out)⟩),PB.out⟩
 ·as_aux_lemma =>
  have hsh:Hid ((gr=wr∧gc=wc)∧(gr=vr∧gc=vc)):=I (by have:=HS.out;simp [aQ] at this;omega)
  go_enter Tryz.func96,Tryz.ntmps96
  go_upto_region 7 with fail
  rw [←hW0]
  have B0:=I b0
  clear hW0 b0 OB GB VB WB HG HV HW
  have S0:=I (KS.out W0 (O _ _))
  have C0:=I (O W0.heap.size W0)
  refine aL 6 [2,5] (fun W=>(W.cell? ⟨w.heap.size+1,0,none⟩=some (.int .i64 gr)∧W.cell? ⟨w.heap.size+1,1,none⟩=some (.int .i64 gc)∧W.cell? ⟨w.heap.size+1,2,none⟩=some (.slice ga gx.length gk))∧(W.cell? ⟨w.heap.size+1+1,0,none⟩=some (.int .i64 vr)∧W.cell? ⟨w.heap.size+1+1,1,none⟩=some (.int .i64 vc)∧W.cell? ⟨w.heap.size+1+1,2,none⟩=some (.slice va vx.length vk))∧(W.cell? ⟨w.heap.size+1+1+1,0,none⟩=some (.int .i64 wr)∧W.cell? ⟨w.heap.size+1+1+1,1,none⟩=some (.int .i64 wc)∧W.cell? ⟨w.heap.size+1+1+1,2,none⟩=some (.slice wa wx.length wk))) (fun _ _ _=>False) DAll (by kernel_rfl) (by kernel_rfl) S0.out (fun W q h=>by simpa using h) ?_
  iterate 2 (refine aD (by rfl) S0.out (fun K hK W hW=>?_);obtain ⟨⟨e0,e1,e2⟩,⟨e3,e4,e5⟩,e6,e7,e8⟩:=hW;go_simp;refine hK _ ?_;clear hK K e0 e1 e2 e3 e4 e5 e6 e7 e8)
  refine aF (by rfl) S0.out (fun K hK q1=>?_)
  go_simp
  have D1:=I (below_drewN C0.out q1)
  refine ⟨(fW (t:=(⟨gr,gc,ga,gk,gx⟩:Dsc)) (u:=(⟨wr,wc,wa,wk,wx⟩:Dsc)) (AT.out _ D1.out).1 (AT.out _ D1.out).2.2 hsh.out.1.1 hsh.out.1.2),?_⟩
  rintro v w1 hd
  obtain ⟨⟨r1,c1,a1,k1,l1⟩,rfl,he1,ha1,hr1,hb1⟩:=(DAll.mulTensors (t:=(⟨gr,gc,ga,gk,gx⟩:Dsc)) (u:=(⟨wr,wc,wa,wk,wx⟩:Dsc)) hd (AT.out _ D1.out).1 (AT.out _ D1.out).2.2).at' ((hH (AT.out _ D1.out).1.okT).1)
  have C1:=I (aA D1.out hb1)
  have hs1:=KS.out w1 C1.out
  have S1:=I hs1
  refine ⟨hs1,hK _ _ ?_⟩
  have E1:=I he1;have A1:=I ha1;have Z1:=I (hr1.bounds (show W0.heap.size≤_ from D1.out.size) (J _))
  clear hK K hd he1 ha1 hr1 hb1 hs1
  iterate 2 (refine aD (by rfl) S1.out (fun K hK W hW=>?_);obtain ⟨⟨e0,e1,e2⟩,⟨e3,e4,e5⟩,e6,e7,e8⟩:=hW;go_simp;refine hK _ ?_;clear hK K e0 e1 e2 e3 e4 e5 e6 e7 e8)
  refine aF (by rfl) S1.out (fun K hK q2=>?_)
  go_simp
  have D2:=I (below_drewN C1.out q2)
  refine ⟨(fW (t:=(⟨gr,gc,ga,gk,gx⟩:Dsc)) (u:=(⟨vr,vc,va,vk,vx⟩:Dsc)) (AT.out _ D2.out).1 (AT.out _ D2.out).2.1 hsh.out.2.1 hsh.out.2.2),?_⟩
  rintro v w2 hd
  obtain ⟨⟨r2,c2,a2,k2,l2⟩,rfl,he2,ha2,hr2,hb2⟩:=(DAll.mulTensors (t:=(⟨gr,gc,ga,gk,gx⟩:Dsc)) (u:=(⟨vr,vc,va,vk,vx⟩:Dsc)) hd (AT.out _ D2.out).1 (AT.out _ D2.out).2.1).at' ((hH (AT.out _ D2.out).1.okT).1)
  have C2:=I (aA D2.out hb2)
  have hs2:=KS.out w2 C2.out
  have S2:=I hs2
  refine ⟨hs2,hK _ _ ?_⟩
  have E2:=I he2;have A2:=I ha2;have Z2:=I (hr2.bounds (show W0.heap.size≤_ from D2.out.size) (J _))
  replace Z1:=I ((Z1.out.below (aA (below_drewN (O _ _) q2) hb2)).bounds (J _) (aA (below_drewN (O w1.heap.size w1) q2) hb2).size)
  clear hK K hd he2 ha2 hr2 hb2 hs2
  refine aP (fun q9=>?_)
  have C9:=I (below_drewN C2.out q9)
  obtain ⟨-,x0,x1,x2,xf⟩:=(R8.out.below C9.out).three
  obtain ⟨-,y0,y1,y2,yf⟩:=(R9.out.below C9.out).three
  have ZZ1:=I ((Z1.out.below (below_drewN (O _ _) q9)).bounds (J _) (show w2.heap.size≤(w2.drewN q9).heap.size by simp))
  have ZZ2:=I ((Z2.out.below (below_drewN (O _ _) q9)).bounds (J _) (show w2.heap.size≤(w2.drewN q9).heap.size by simp))
  generalize w2.drewN q9=W9 at ZZ1 ZZ2 C9 x0 x1 x2 xf y0 y1 y2 yf ⊢
  obtain ⟨WF,hWF⟩:∃WF,WF=setCs (setCs W9 (w.heap.size+1+1+1+1) 0 [.int .i64 (⟨r1,c1,a1,k1,l1⟩:Dsc).r,.int .i64 (⟨r1,c1,a1,k1,l1⟩:Dsc).c,.slice (⟨r1,c1,a1,k1,l1⟩:Dsc).a (⟨r1,c1,a1,k1,l1⟩:Dsc).xs.length (⟨r1,c1,a1,k1,l1⟩:Dsc).k]) (w.heap.size+1+1+1+1+1) 0 [.int .i64 (⟨r2,c2,a2,k2,l2⟩:Dsc).r,.int .i64 (⟨r2,c2,a2,k2,l2⟩:Dsc).c,.slice (⟨r2,c2,a2,k2,l2⟩:Dsc).a (⟨r2,c2,a2,k2,l2⟩:Dsc).xs.length (⟨r2,c2,a2,k2,l2⟩:Dsc).k]:=⟨_,rfl⟩
  have P8:Hid (∀t:Dsc,RepF W9 W0.heap.size W9.heap.size t.a t.xs.length t.k t.xs→RepF WF w.heap.size WF.heap.size t.a t.xs.length t.k t.xs):=I (fun t ht=>by rw [hWF];exact gW ht (by omega) (by omega) (by omega) (J _) _ _)
  have PB:Hid (Below w.heap.size w WF):=I (by rw [hWF];exact aG (aG (aA B0.out C9.out) (by omega) 0 _) (by omega) 0 _)
  have F8:Hid (BoxN WF (w.heap.size+1+1+1+1) [.int .i64 (⟨r1,c1,a1,k1,l1⟩:Dsc).r,.int .i64 (⟨r1,c1,a1,k1,l1⟩:Dsc).c,.slice (⟨r1,c1,a1,k1,l1⟩:Dsc).a (⟨r1,c1,a1,k1,l1⟩:Dsc).xs.length (⟨r1,c1,a1,k1,l1⟩:Dsc).k]):=I (by rw [hWF];exact ((R8.out.below C9.out).set3).touch (aB _ (w.heap.size+1+1+1+1+1) 0 _) (.inl (by omega)))
  have F9:Hid (BoxN WF (w.heap.size+1+1+1+1+1) [.int .i64 (⟨r2,c2,a2,k2,l2⟩:Dsc).r,.int .i64 (⟨r2,c2,a2,k2,l2⟩:Dsc).c,.slice (⟨r2,c2,a2,k2,l2⟩:Dsc).a (⟨r2,c2,a2,k2,l2⟩:Dsc).xs.length (⟨r2,c2,a2,k2,l2⟩:Dsc).k]):=I (by rw [hWF];exact ((R9.out.below C9.out).touch (aB _ (w.heap.size+1+1+1+1) 0 _) (.inr (by omega))).set3)
  have HWF:=I hWF
  have Z0:=I z0
  have x3:=xf 0;have x4:=xf 1;have x5:=xf 2;have y3:=yf 0;have y4:=yf 1;have y5:=yf 2
  clear z0 hWF xf yf KS AT R8 R9 S0 C0 HS
  unfold Dsc.val
  simp only
  go_wp2
  try simp only [Exit.inBlock,Exit.then]
  change bodyPost _ _ _ _ _ (setCs (setCs W9 (w.heap.size+1+1+1+1) 0 [.int .i64 (⟨r1,c1,a1,k1,l1⟩:Dsc).r,.int .i64 (⟨r1,c1,a1,k1,l1⟩:Dsc).c,.slice (⟨r1,c1,a1,k1,l1⟩:Dsc).a (⟨r1,c1,a1,k1,l1⟩:Dsc).xs.length (⟨r1,c1,a1,k1,l1⟩:Dsc).k]) (w.heap.size+1+1+1+1+1) 0 [.int .i64 (⟨r2,c2,a2,k2,l2⟩:Dsc).r,.int .i64 (⟨r2,c2,a2,k2,l2⟩:Dsc).c,.slice (⟨r2,c2,a2,k2,l2⟩:Dsc).a (⟨r2,c2,a2,k2,l2⟩:Dsc).xs.length (⟨r2,c2,a2,k2,l2⟩:Dsc).k])
  rw [←HWF.out]
  clear x0 x1 x2 x3 x4 x5 y0 y1 y2 y3 y4 y5
  obtain ⟨-,x0,x1,x2,xf⟩:=F8.out.three
  obtain ⟨-,y0,y1,y2,yf⟩:=F9.out.three
  refine bodyPost_ret (v:=.tuple #[(⟨r1,c1,a1,k1,l1⟩:Dsc).val,(⟨r2,c2,a2,k2,l2⟩:Dsc).val]) (by simp [results,Tryz.results96,go_sem,x0,x1,x2,y0,y1,y2,Dsc.val]) rfl ⟨(⟨r1,c1,a1,k1,l1⟩:Dsc),(⟨r2,c2,a2,k2,l2⟩:Dsc),rfl,I (⟨by rw [E1.out];simp [bC],Or.inr (P8.out _ ZZ1.out)⟩),I (fun _=>⟨by rw [E2.out];simp [bU],Or.inr (P8.out _ ZZ2.out)⟩),PB.out⟩
 ·as_aux_lemma =>
  have hsh:Hid ((gr=vr∧gc=vc)∧wr=1∧wc=gc):=I (by have:=HS.out;simp [aQ] at this;omega)
  have LW:Hid (wx.length=gc):=I (by have h:=HW.out.len;have h1:=hsh.out;simp only at h;rw [h,h1.2.1,Nat.one_mul];exact h1.2.2)
  go_enter Tryz.func96,Tryz.ntmps96
  go_upto_region 9 with fail
  rw [←hW0]
  have B0:=I b0
  clear hW0 b0 OB GB VB WB HG HV HW
  have S0:=I (KS.out W0 (O _ _))
  have C0:=I (O W0.heap.size W0)
  refine aL 9 [3,6,7,8] (fun W=>(W.cell? ⟨w.heap.size+1,0,none⟩=some (.int .i64 gr)∧W.cell? ⟨w.heap.size+1,1,none⟩=some (.int .i64 gc)∧W.cell? ⟨w.heap.size+1,2,none⟩=some (.slice ga gx.length gk))∧(W.cell? ⟨w.heap.size+1+1,0,none⟩=some (.int .i64 vr)∧W.cell? ⟨w.heap.size+1+1,1,none⟩=some (.int .i64 vc)∧W.cell? ⟨w.heap.size+1+1,2,none⟩=some (.slice va vx.length vk))∧(W.cell? ⟨w.heap.size+1+1+1,0,none⟩=some (.int .i64 wr)∧W.cell? ⟨w.heap.size+1+1+1,1,none⟩=some (.int .i64 wc)∧W.cell? ⟨w.heap.size+1+1+1,2,none⟩=some (.slice wa wx.length wk))) (fun _ _ _=>False) DAll (by kernel_rfl) (by kernel_rfl) S0.out (fun W q h=>by simpa using h) ?_
  iterate 3 (refine aD (by rfl) S0.out (fun K hK W hW=>?_);obtain ⟨⟨e0,e1,e2⟩,⟨e3,e4,e5⟩,e6,e7,e8⟩:=hW;go_simp;refine hK _ ?_;clear hK K e0 e1 e2 e3 e4 e5 e6 e7 e8)
  refine aF (by rfl) S0.out (fun K hK q1=>?_)
  go_simp
  have D1:=I (below_drewN C0.out q1)
  refine ⟨(Ag (t:=(⟨gr,gc,ga,gk,gx⟩:Dsc)) (a:=wa) (k:=wk) (ys:=wx) (AT.out _ D1.out).1 (AT.out _ D1.out).2.2.see LW.out),?_⟩
  rintro v w1 hd
  obtain ⟨⟨r1,c1,a1,k1,l1⟩,rfl,he1,ha1,hr1,hb1⟩:=(DAll.mulRow (t:=(⟨gr,gc,ga,gk,gx⟩:Dsc)) (a:=wa) (k:=wk) (ys:=wx) hd (AT.out _ D1.out).1 (AT.out _ D1.out).2.2.see).at' (DH (AT.out _ D1.out).1 _)
  have C1:=I (aA D1.out hb1)
  have hs1:=KS.out w1 C1.out
  have S1:=I hs1
  refine ⟨hs1,hK _ _ ?_⟩
  have E1:=I he1;have A1:=I ha1;have Z1:=I (hr1.bounds (show W0.heap.size≤_ from D1.out.size) (J _))
  clear hK K hd he1 ha1 hr1 hb1 hs1
  iterate 2 (refine aD (by rfl) S1.out (fun K hK W hW=>?_);obtain ⟨⟨e0,e1,e2⟩,⟨e3,e4,e5⟩,e6,e7,e8⟩:=hW;go_simp;refine hK _ ?_;clear hK K e0 e1 e2 e3 e4 e5 e6 e7 e8)
  refine aF (by rfl) S1.out (fun K hK q2=>?_)
  go_simp
  have D2:=I (below_drewN C1.out q2)
  refine ⟨(fW (t:=(⟨gr,gc,ga,gk,gx⟩:Dsc)) (u:=(⟨vr,vc,va,vk,vx⟩:Dsc)) (AT.out _ D2.out).1 (AT.out _ D2.out).2.1 hsh.out.1.1 hsh.out.1.2),?_⟩
  rintro v w2 hd
  obtain ⟨⟨r2,c2,a2,k2,l2⟩,rfl,he2,ha2,hr2,hb2⟩:=(DAll.mulTensors (t:=(⟨gr,gc,ga,gk,gx⟩:Dsc)) (u:=(⟨vr,vc,va,vk,vx⟩:Dsc)) hd (AT.out _ D2.out).1 (AT.out _ D2.out).2.1).at' ((hH (AT.out _ D2.out).1.okT).1)
  have C2:=I (aA D2.out hb2)
  have hs2:=KS.out w2 C2.out
  have S2:=I hs2
  refine ⟨hs2,hK _ _ ?_⟩
  have E2:=I he2;have A2:=I ha2;have Z2:=I (hr2.bounds (show W0.heap.size≤_ from D2.out.size) (J _))
  replace Z1:=I ((Z1.out.below (aA (below_drewN (O _ _) q2) hb2)).bounds (J _) (aA (below_drewN (O w1.heap.size w1) q2) hb2).size)
  clear hK K hd he2 ha2 hr2 hb2 hs2
  have R2:Hid (c2=gc):=I (by have h:=E2.out;simp [Dsc.can,eN] at h;omega)
  refine aF (by rfl) S2.out (fun K hK q3=>?_)
  go_simp
  have D3:=I (below_drewN C2.out q3)
  refine ⟨(pV (t:=(⟨r2,c2,a2,k2,l2⟩:Dsc)) (A2.out.below (below_drewN (O _ _) q3))),?_⟩
  rintro v w3 hd
  obtain ⟨a3,k3,l3,rfl,he3,hr3,hb3⟩:=DAll.sumRows (t:=(⟨r2,c2,a2,k2,l2⟩:Dsc)) hd (A2.out.below (below_drewN (O _ _) q3))
  have C3:=I (aA D3.out hb3)
  have hs3:=KS.out w3 C3.out
  have S3:=I hs3
  refine ⟨hs3,hK _ _ ?_⟩
  have E3:=I he3;have Z3:=I (hr3.bounds (show W0.heap.size≤_ from D3.out.size) (J _))
  replace Z1:=I ((Z1.out.below (aA (below_drewN (O _ _) q3) hb3)).bounds (J _) (aA (below_drewN (O w2.heap.size w2) q3) hb3).size)
  replace A2:=I (A2.out.below (aA (below_drewN (O _ _) q3) hb3))
  clear hK K hd he3 hr3 hb3 hs3
  have LL:Hid (l3.length=c2):=I (by have:=congrArg List.length E3.out;rw [List.length_map,aJ] at this;exact this)
  have EE:Hid ((⟨1,l3.length,l3.map (cn .f32)⟩:TenP)=nB (eN (Dsc.can ⟨gr,gc,ga,gk,gx⟩) (Dsc.can ⟨vr,vc,va,vk,vx⟩))):=I (by rw [←E2.out];unfold nB;rw [LL.out,E3.out];simp [Dsc.can])
  refine aF (by rfl) S3.out (fun K hK q4=>?_)
  go_simp
  have D4:=I (below_drewN C3.out q4)
  refine ⟨(nD (a:=a3) (k:=k3) (ys:=l3) (Z3.out.arg.below (below_drewN (O _ _) q4)) (by rw [LL.out,R2.out];exact (AT.out _ D4.out).1.c1) (by rw [LL.out,R2.out];have:=(AT.out _ D4.out).1.c2;simp only at this;omega)),?_⟩
  rintro v w4 hd
  obtain ⟨⟨r4,c4,a4,k4,l4⟩,rfl,he4,ha4,hr4,hb4⟩:=(DAll.rowTensor (a:=a3) (k:=k3) (ys:=l3) hd (Z3.out.arg.below (below_drewN (O _ _) q4))).at' (by rw [EE.out];exact sX (hH (AT.out _ D4.out).1.okT).1)
  have C4:=I (aA D4.out hb4)
  have hs4:=KS.out w4 C4.out
  have S4:=I hs4
  refine ⟨hs4,hK _ _ ?_⟩
  have E4:=I he4;have A4:=I ha4;have Z4:=I (hr4.bounds (show W0.heap.size≤_ from D4.out.size) (J _))
  replace Z1:=I ((Z1.out.below (aA (below_drewN (O _ _) q4) hb4)).bounds (J _) (aA (below_drewN (O w3.heap.size w3) q4) hb4).size)
  clear hK K hd he4 ha4 hr4 hb4 hs4
  refine aP (fun q9=>?_)
  have C9:=I (below_drewN C4.out q9)
  obtain ⟨-,x0,x1,x2,xf⟩:=(R8.out.below C9.out).three
  obtain ⟨-,y0,y1,y2,yf⟩:=(R9.out.below C9.out).three
  have ZZ1:=I ((Z1.out.below (below_drewN (O _ _) q9)).bounds (J _) (show w4.heap.size≤(w4.drewN q9).heap.size by simp))
  have ZZ4:=I ((Z4.out.below (below_drewN (O _ _) q9)).bounds (J _) (show w4.heap.size≤(w4.drewN q9).heap.size by simp))
  generalize w4.drewN q9=W9 at ZZ1 ZZ4 C9 x0 x1 x2 xf y0 y1 y2 yf ⊢
  obtain ⟨WF,hWF⟩:∃WF,WF=setCs (setCs W9 (w.heap.size+1+1+1+1) 0 [.int .i64 (⟨r1,c1,a1,k1,l1⟩:Dsc).r,.int .i64 (⟨r1,c1,a1,k1,l1⟩:Dsc).c,.slice (⟨r1,c1,a1,k1,l1⟩:Dsc).a (⟨r1,c1,a1,k1,l1⟩:Dsc).xs.length (⟨r1,c1,a1,k1,l1⟩:Dsc).k]) (w.heap.size+1+1+1+1+1) 0 [.int .i64 (⟨r4,c4,a4,k4,l4⟩:Dsc).r,.int .i64 (⟨r4,c4,a4,k4,l4⟩:Dsc).c,.slice (⟨r4,c4,a4,k4,l4⟩:Dsc).a (⟨r4,c4,a4,k4,l4⟩:Dsc).xs.length (⟨r4,c4,a4,k4,l4⟩:Dsc).k]:=⟨_,rfl⟩
  have P8:Hid (∀t:Dsc,RepF W9 W0.heap.size W9.heap.size t.a t.xs.length t.k t.xs→RepF WF w.heap.size WF.heap.size t.a t.xs.length t.k t.xs):=I (fun t ht=>by rw [hWF];exact gW ht (by omega) (by omega) (by omega) (J _) _ _)
  have PB:Hid (Below w.heap.size w WF):=I (by rw [hWF];exact aG (aG (aA B0.out C9.out) (by omega) 0 _) (by omega) 0 _)
  have F8:Hid (BoxN WF (w.heap.size+1+1+1+1) [.int .i64 (⟨r1,c1,a1,k1,l1⟩:Dsc).r,.int .i64 (⟨r1,c1,a1,k1,l1⟩:Dsc).c,.slice (⟨r1,c1,a1,k1,l1⟩:Dsc).a (⟨r1,c1,a1,k1,l1⟩:Dsc).xs.length (⟨r1,c1,a1,k1,l1⟩:Dsc).k]):=I (by rw [hWF];exact ((R8.out.below C9.out).set3).touch (aB _ (w.heap.size+1+1+1+1+1) 0 _) (.inl (by omega)))
  have F9:Hid (BoxN WF (w.heap.size+1+1+1+1+1) [.int .i64 (⟨r4,c4,a4,k4,l4⟩:Dsc).r,.int .i64 (⟨r4,c4,a4,k4,l4⟩:Dsc).c,.slice (⟨r4,c4,a4,k4,l4⟩:Dsc).a (⟨r4,c4,a4,k4,l4⟩:Dsc).xs.length (⟨r4,c4,a4,k4,l4⟩:Dsc).k]):=I (by rw [hWF];exact ((R9.out.below C9.out).touch (aB _ (w.heap.size+1+1+1+1) 0 _) (.inr (by omega))).set3)
  have HWF:=I hWF
  have Z0:=I z0
  have x3:=xf 0;have x4:=xf 1;have x5:=xf 2;have y3:=yf 0;have y4:=yf 1;have y5:=yf 2
  clear z0 hWF xf yf KS AT R8 R9 S0 C0 HS
  unfold Dsc.val
  simp only
  go_wp2
  try simp only [Exit.inBlock,Exit.then]
  change bodyPost _ _ _ _ _ (setCs (setCs W9 (w.heap.size+1+1+1+1) 0 [.int .i64 (⟨r1,c1,a1,k1,l1⟩:Dsc).r,.int .i64 (⟨r1,c1,a1,k1,l1⟩:Dsc).c,.slice (⟨r1,c1,a1,k1,l1⟩:Dsc).a (⟨r1,c1,a1,k1,l1⟩:Dsc).xs.length (⟨r1,c1,a1,k1,l1⟩:Dsc).k]) (w.heap.size+1+1+1+1+1) 0 [.int .i64 (⟨r4,c4,a4,k4,l4⟩:Dsc).r,.int .i64 (⟨r4,c4,a4,k4,l4⟩:Dsc).c,.slice (⟨r4,c4,a4,k4,l4⟩:Dsc).a (⟨r4,c4,a4,k4,l4⟩:Dsc).xs.length (⟨r4,c4,a4,k4,l4⟩:Dsc).k])
  rw [←HWF.out]
  clear x0 x1 x2 x3 x4 x5 y0 y1 y2 y3 y4 y5
  obtain ⟨-,x0,x1,x2,xf⟩:=F8.out.three
  obtain ⟨-,y0,y1,y2,yf⟩:=F9.out.three
  refine bodyPost_ret (v:=.tuple #[(⟨r1,c1,a1,k1,l1⟩:Dsc).val,(⟨r4,c4,a4,k4,l4⟩:Dsc).val]) (by simp [results,Tryz.results96,go_sem,x0,x1,x2,y0,y1,y2,Dsc.val]) rfl ⟨(⟨r1,c1,a1,k1,l1⟩:Dsc),(⟨r4,c4,a4,k4,l4⟩:Dsc),rfl,I (⟨by rw [E1.out];simp [bC,Dsc.can],Or.inr (P8.out _ ZZ1.out)⟩),I (fun _=>⟨by rw [E4.out,EE.out];simp [bU],Or.inr (P8.out _ ZZ4.out)⟩),PB.out⟩
 ·as_aux_lemma =>
  obtain ⟨-,o0,o1,o2,o3,o4,o5,o6,of⟩:=OB.out.seven
  go_enter Tryz.func96,Tryz.ntmps96
  go_upto_region 11 with fail
  rw [←hW0]
  have B0:=I b0
  obtain ⟨⟨e0,e1,e2⟩,⟨e3,e4,e5⟩,e6,e7,e8⟩:=KS.out W0 (O _ _)
  clear hW0 b0 OB GB VB WB HG HV HW o1 o2 o4 o5 o6 of
  have ag:=(AT.out W0 (O _ _)).1
  have K:=I (kD W0 gr gc ga gk gx ag.see gx.length rfl ag.le q)
  clear ag
  go_wp2_with fail
  refine K.out.mono fun e w1 h=>?_
  obtain ⟨v,rfl,hr⟩:=RTen.of (T:=⟨gr,gc,oL (gx.map (cn .f32)) (cn .f32 q) gx.length⟩) h rfl
  obtain ⟨⟨r1,c1,a1,k1,l1⟩,rfl,he,hz,hb⟩:=hr
  have E1:=I he;have Z1:=I hz;have CC:=I hb
  clear he hz hb h K o0 o3 e0 e1 e2 e3 e4 e5 e6 e7 e8
  obtain ⟨-,x0,x1,x2,xf⟩:=(R8.out.below CC.out).three
  obtain ⟨-,y0,y1,y2,yf⟩:=(R9.out.below CC.out).three
  obtain ⟨WF,hWF⟩:∃WF,WF=setCs (setCs w1 (w.heap.size+1+1+1+1) 0 [.int .i64 (⟨r1,c1,a1,k1,l1⟩:Dsc).r,.int .i64 (⟨r1,c1,a1,k1,l1⟩:Dsc).c,.slice (⟨r1,c1,a1,k1,l1⟩:Dsc).a (⟨r1,c1,a1,k1,l1⟩:Dsc).xs.length (⟨r1,c1,a1,k1,l1⟩:Dsc).k]) (w.heap.size+1+1+1+1+1) 0 [.int .i64 (⟨0,0,none,0,[]⟩:Dsc).r,.int .i64 (⟨0,0,none,0,[]⟩:Dsc).c,.slice (⟨0,0,none,0,[]⟩:Dsc).a (⟨0,0,none,0,[]⟩:Dsc).xs.length (⟨0,0,none,0,[]⟩:Dsc).k]:=⟨_,rfl⟩
  have P8:Hid (∀t:Dsc,RepF w1 W0.heap.size w1.heap.size t.a t.xs.length t.k t.xs→RepF WF w.heap.size WF.heap.size t.a t.xs.length t.k t.xs):=I (fun t ht=>by rw [hWF];exact gW ht (by omega) (by omega) (by omega) (J _) _ _)
  have PB:Hid (Below w.heap.size w WF):=I (by rw [hWF];exact aG (aG (aA B0.out CC.out) (by omega) 0 _) (by omega) 0 _)
  have F8:Hid (BoxN WF (w.heap.size+1+1+1+1) [.int .i64 (⟨r1,c1,a1,k1,l1⟩:Dsc).r,.int .i64 (⟨r1,c1,a1,k1,l1⟩:Dsc).c,.slice (⟨r1,c1,a1,k1,l1⟩:Dsc).a (⟨r1,c1,a1,k1,l1⟩:Dsc).xs.length (⟨r1,c1,a1,k1,l1⟩:Dsc).k]):=I (by rw [hWF];exact ((R8.out.below CC.out).set3).touch (aB _ (w.heap.size+1+1+1+1+1) 0 _) (.inl (by omega)))
  have F9:Hid (BoxN WF (w.heap.size+1+1+1+1+1) [.int .i64 (⟨0,0,none,0,[]⟩:Dsc).r,.int .i64 (⟨0,0,none,0,[]⟩:Dsc).c,.slice (⟨0,0,none,0,[]⟩:Dsc).a (⟨0,0,none,0,[]⟩:Dsc).xs.length (⟨0,0,none,0,[]⟩:Dsc).k]):=I (by rw [hWF];exact ((R9.out.below CC.out).touch (aB _ (w.heap.size+1+1+1+1) 0 _) (.inr (by omega))).set3)
  have HWF:=I hWF
  have Z0:=I z0
  have x3:=xf 0;have x4:=xf 1;have x5:=xf 2;have y3:=yf 0;have y4:=yf 1;have y5:=yf 2
  clear z0 hWF xf yf KS AT R8 R9 HS
  try unfold Dsc.val
  try simp only
  go_wp2
  try simp only [Exit.inBlock,Exit.then]
  change bodyPost _ _ _ _ _ (setCs (setCs w1 (w.heap.size+1+1+1+1) 0 [.int .i64 (⟨r1,c1,a1,k1,l1⟩:Dsc).r,.int .i64 (⟨r1,c1,a1,k1,l1⟩:Dsc).c,.slice (⟨r1,c1,a1,k1,l1⟩:Dsc).a (⟨r1,c1,a1,k1,l1⟩:Dsc).xs.length (⟨r1,c1,a1,k1,l1⟩:Dsc).k]) (w.heap.size+1+1+1+1+1) 0 [.int .i64 (⟨0,0,none,0,[]⟩:Dsc).r,.int .i64 (⟨0,0,none,0,[]⟩:Dsc).c,.slice (⟨0,0,none,0,[]⟩:Dsc).a (⟨0,0,none,0,[]⟩:Dsc).xs.length (⟨0,0,none,0,[]⟩:Dsc).k])
  rw [←HWF.out]
  clear x0 x1 x2 x3 x4 x5 y0 y1 y2 y3 y4 y5
  obtain ⟨-,x0,x1,x2,xf⟩:=F8.out.three
  obtain ⟨-,y0,y1,y2,yf⟩:=F9.out.three
  refine bodyPost_ret (v:=.tuple #[(⟨r1,c1,a1,k1,l1⟩:Dsc).val,(⟨0,0,none,0,[]⟩:Dsc).val]) (by simp [results,Tryz.results96,go_sem,x0,x1,x2,y0,y1,y2,Dsc.val]) rfl ⟨(⟨r1,c1,a1,k1,l1⟩:Dsc),(⟨0,0,none,0,[]⟩:Dsc),rfl,I (⟨by rw [E1.out];simp [bC,Dsc.can],Or.inr (P8.out _ Z1.out)⟩),I (fun h=>absurd h (by decide)),PB.out⟩
 ·as_aux_lemma =>
  have hsh:Hid ((gr=vr∧gc=wc)∧vc=wr):=I (by
   have:=HS.out
   simp only [aQ] at this
   by_cases h6:((vc:Nat):Int)=((wr:Nat):Int) <;> simp [h6] at this
   omega)
  go_enter Tryz.func96,Tryz.ntmps96
  go_upto_region 13 with fail
  rw [←hW0]
  have B0:=I b0
  clear hW0 b0 OB GB VB WB HG HV HW
  have S0:=I (KS.out W0 (O _ _))
  have C0:=I (O W0.heap.size W0)
  refine aL 8 [2,3,5,7] (fun W=>(W.cell? ⟨w.heap.size+1,0,none⟩=some (.int .i64 gr)∧W.cell? ⟨w.heap.size+1,1,none⟩=some (.int .i64 gc)∧W.cell? ⟨w.heap.size+1,2,none⟩=some (.slice ga gx.length gk))∧(W.cell? ⟨w.heap.size+1+1,0,none⟩=some (.int .i64 vr)∧W.cell? ⟨w.heap.size+1+1,1,none⟩=some (.int .i64 vc)∧W.cell? ⟨w.heap.size+1+1,2,none⟩=some (.slice va vx.length vk))∧(W.cell? ⟨w.heap.size+1+1+1,0,none⟩=some (.int .i64 wr)∧W.cell? ⟨w.heap.size+1+1+1,1,none⟩=some (.int .i64 wc)∧W.cell? ⟨w.heap.size+1+1+1,2,none⟩=some (.slice wa wx.length wk))) (fun _ _ _=>False) DAll (by kernel_rfl) (by kernel_rfl) S0.out (fun W q h=>by simpa using h) ?_
  iterate 2 (refine aD (by rfl) S0.out (fun K hK W hW=>?_);obtain ⟨⟨e0,e1,e2⟩,⟨e3,e4,e5⟩,e6,e7,e8⟩:=hW;go_simp;refine hK _ ?_;clear hK K e0 e1 e2 e3 e4 e5 e6 e7 e8)
  refine aF (by rfl) S0.out (fun K hK q1=>?_)
  go_simp
  have D1:=I (below_drewN C0.out q1)
  refine ⟨(iT (t:=(⟨wr,wc,wa,wk,wx⟩:Dsc)) (AT.out _ D1.out).2.2),?_⟩
  rintro v w1 hd
  obtain ⟨⟨r1,c1,a1,k1,l1⟩,rfl,he1,ha1,hr1,hb1⟩:=(DAll.transposed (t:=(⟨wr,wc,wa,wk,wx⟩:Dsc)) hd (AT.out _ D1.out).2.2).at' (jR (AT.out _ D1.out).2.2.okT)
  have C1:=I (aA D1.out hb1)
  have hs1:=KS.out w1 C1.out
  have S1:=I hs1
  refine ⟨hs1,hK _ _ ?_⟩
  have E1:=I he1;have A1:=I ha1;have Z1:=I (hr1.bounds (show W0.heap.size≤_ from D1.out.size) (J _))
  clear hK K hd he1 ha1 hr1 hb1 hs1
  have R1:Hid (gc=r1):=I (by have h:=E1.out;have h1:=hsh.out;simp [Dsc.can,cU] at h;omega)
  refine aF (by rfl) S1.out (fun K hK q2=>?_)
  go_simp
  have D2:=I (below_drewN C1.out q2)
  refine ⟨(rY (t:=(⟨gr,gc,ga,gk,gx⟩:Dsc)) (u:=(⟨r1,c1,a1,k1,l1⟩:Dsc)) (AT.out _ D2.out).1 (A1.out.below (below_drewN (O _ _) q2)) R1.out),?_⟩
  rintro v w2 hd
  obtain ⟨⟨r2,c2,a2,k2,l2⟩,rfl,he2,ha2,hr2,hb2⟩:=(DAll.matMul (t:=(⟨gr,gc,ga,gk,gx⟩:Dsc)) (u:=(⟨r1,c1,a1,k1,l1⟩:Dsc)) hd (AT.out _ D2.out).1 (A1.out.below (below_drewN (O _ _) q2))).at' (sY (AT.out _ D2.out).1.okT (A1.out.below (below_drewN (O _ _) q2)).okT)
  have C2:=I (aA D2.out hb2)
  have hs2:=KS.out w2 C2.out
  have S2:=I hs2
  refine ⟨hs2,hK _ _ ?_⟩
  have E2:=I he2;have A2:=I ha2;have Z2:=I (hr2.bounds (show W0.heap.size≤_ from D2.out.size) (J _))
  clear hK K hd he2 ha2 hr2 hb2 hs2
  iterate 1 (refine aD (by rfl) S2.out (fun K hK W hW=>?_);obtain ⟨⟨e0,e1,e2⟩,⟨e3,e4,e5⟩,e6,e7,e8⟩:=hW;go_simp;refine hK _ ?_;clear hK K e0 e1 e2 e3 e4 e5 e6 e7 e8)
  refine aF (by rfl) S2.out (fun K hK q3=>?_)
  go_simp
  have D3:=I (below_drewN C2.out q3)
  refine ⟨(iT (t:=(⟨vr,vc,va,vk,vx⟩:Dsc)) (AT.out _ D3.out).2.1),?_⟩
  rintro v w3 hd
  obtain ⟨⟨r3,c3,a3,k3,l3⟩,rfl,he3,ha3,hr3,hb3⟩:=(DAll.transposed (t:=(⟨vr,vc,va,vk,vx⟩:Dsc)) hd (AT.out _ D3.out).2.1).at' (jR (AT.out _ D3.out).2.1.okT)
  have C3:=I (aA D3.out hb3)
  have hs3:=KS.out w3 C3.out
  have S3:=I hs3
  refine ⟨hs3,hK _ _ ?_⟩
  have E3:=I he3;have A3:=I ha3;have Z3:=I (hr3.bounds (show W0.heap.size≤_ from D3.out.size) (J _))
  replace Z2:=I ((Z2.out.below (aA (below_drewN (O _ _) q3) hb3)).bounds (J _) (aA (below_drewN (O w2.heap.size w2) q3) hb3).size)
  clear hK K hd he3 ha3 hr3 hb3 hs3
  have R3:Hid (c3=gr):=I (by have h:=E3.out;have h1:=hsh.out;simp [Dsc.can,cU] at h;omega)
  iterate 1 (refine aD (by rfl) S3.out (fun K hK W hW=>?_);obtain ⟨⟨e0,e1,e2⟩,⟨e3,e4,e5⟩,e6,e7,e8⟩:=hW;go_simp;refine hK _ ?_;clear hK K e0 e1 e2 e3 e4 e5 e6 e7 e8)
  refine aF (by rfl) S3.out (fun K hK q4=>?_)
  go_simp
  have D4:=I (below_drewN C3.out q4)
  refine ⟨(rY (t:=(⟨r3,c3,a3,k3,l3⟩:Dsc)) (u:=(⟨gr,gc,ga,gk,gx⟩:Dsc)) (A3.out.below (below_drewN (O _ _) q4)) (AT.out _ D4.out).1 R3.out),?_⟩
  rintro v w4 hd
  obtain ⟨⟨r4,c4,a4,k4,l4⟩,rfl,he4,ha4,hr4,hb4⟩:=(DAll.matMul (t:=(⟨r3,c3,a3,k3,l3⟩:Dsc)) (u:=(⟨gr,gc,ga,gk,gx⟩:Dsc)) hd (A3.out.below (below_drewN (O _ _) q4)) (AT.out _ D4.out).1).at' (sY (A3.out.below (below_drewN (O _ _) q4)).okT (AT.out _ D4.out).1.okT)
  have C4:=I (aA D4.out hb4)
  have hs4:=KS.out w4 C4.out
  have S4:=I hs4
  refine ⟨hs4,hK _ _ ?_⟩
  have E4:=I he4;have A4:=I ha4;have Z4:=I (hr4.bounds (show W0.heap.size≤_ from D4.out.size) (J _))
  replace Z2:=I ((Z2.out.below (aA (below_drewN (O _ _) q4) hb4)).bounds (J _) (aA (below_drewN (O w3.heap.size w3) q4) hb4).size)
  clear hK K hd he4 ha4 hr4 hb4 hs4
  refine aP (fun q9=>?_)
  have C9:=I (below_drewN C4.out q9)
  obtain ⟨-,x0,x1,x2,xf⟩:=(R8.out.below C9.out).three
  obtain ⟨-,y0,y1,y2,yf⟩:=(R9.out.below C9.out).three
  have ZZ2:=I ((Z2.out.below (below_drewN (O _ _) q9)).bounds (J _) (show w4.heap.size≤(w4.drewN q9).heap.size by simp))
  have ZZ4:=I ((Z4.out.below (below_drewN (O _ _) q9)).bounds (J _) (show w4.heap.size≤(w4.drewN q9).heap.size by simp))
  generalize w4.drewN q9=W9 at ZZ2 ZZ4 C9 x0 x1 x2 xf y0 y1 y2 yf ⊢
  obtain ⟨WF,hWF⟩:∃WF,WF=setCs (setCs W9 (w.heap.size+1+1+1+1) 0 [.int .i64 (⟨r2,c2,a2,k2,l2⟩:Dsc).r,.int .i64 (⟨r2,c2,a2,k2,l2⟩:Dsc).c,.slice (⟨r2,c2,a2,k2,l2⟩:Dsc).a (⟨r2,c2,a2,k2,l2⟩:Dsc).xs.length (⟨r2,c2,a2,k2,l2⟩:Dsc).k]) (w.heap.size+1+1+1+1+1) 0 [.int .i64 (⟨r4,c4,a4,k4,l4⟩:Dsc).r,.int .i64 (⟨r4,c4,a4,k4,l4⟩:Dsc).c,.slice (⟨r4,c4,a4,k4,l4⟩:Dsc).a (⟨r4,c4,a4,k4,l4⟩:Dsc).xs.length (⟨r4,c4,a4,k4,l4⟩:Dsc).k]:=⟨_,rfl⟩
  have P8:Hid (∀t:Dsc,RepF W9 W0.heap.size W9.heap.size t.a t.xs.length t.k t.xs→RepF WF w.heap.size WF.heap.size t.a t.xs.length t.k t.xs):=I (fun t ht=>by rw [hWF];exact gW ht (by omega) (by omega) (by omega) (J _) _ _)
  have PB:Hid (Below w.heap.size w WF):=I (by rw [hWF];exact aG (aG (aA B0.out C9.out) (by omega) 0 _) (by omega) 0 _)
  have F8:Hid (BoxN WF (w.heap.size+1+1+1+1) [.int .i64 (⟨r2,c2,a2,k2,l2⟩:Dsc).r,.int .i64 (⟨r2,c2,a2,k2,l2⟩:Dsc).c,.slice (⟨r2,c2,a2,k2,l2⟩:Dsc).a (⟨r2,c2,a2,k2,l2⟩:Dsc).xs.length (⟨r2,c2,a2,k2,l2⟩:Dsc).k]):=I (by rw [hWF];exact ((R8.out.below C9.out).set3).touch (aB _ (w.heap.size+1+1+1+1+1) 0 _) (.inl (by omega)))
  have F9:Hid (BoxN WF (w.heap.size+1+1+1+1+1) [.int .i64 (⟨r4,c4,a4,k4,l4⟩:Dsc).r,.int .i64 (⟨r4,c4,a4,k4,l4⟩:Dsc).c,.slice (⟨r4,c4,a4,k4,l4⟩:Dsc).a (⟨r4,c4,a4,k4,l4⟩:Dsc).xs.length (⟨r4,c4,a4,k4,l4⟩:Dsc).k]):=I (by rw [hWF];exact ((R9.out.below C9.out).touch (aB _ (w.heap.size+1+1+1+1) 0 _) (.inr (by omega))).set3)
  have HWF:=I hWF
  have Z0:=I z0
  have x3:=xf 0;have x4:=xf 1;have x5:=xf 2;have y3:=yf 0;have y4:=yf 1;have y5:=yf 2
  clear z0 hWF xf yf KS AT R8 R9 S0 C0 HS
  unfold Dsc.val
  simp only
  go_wp2
  try simp only [Exit.inBlock,Exit.then]
  change bodyPost _ _ _ _ _ (setCs (setCs W9 (w.heap.size+1+1+1+1) 0 [.int .i64 (⟨r2,c2,a2,k2,l2⟩:Dsc).r,.int .i64 (⟨r2,c2,a2,k2,l2⟩:Dsc).c,.slice (⟨r2,c2,a2,k2,l2⟩:Dsc).a (⟨r2,c2,a2,k2,l2⟩:Dsc).xs.length (⟨r2,c2,a2,k2,l2⟩:Dsc).k]) (w.heap.size+1+1+1+1+1) 0 [.int .i64 (⟨r4,c4,a4,k4,l4⟩:Dsc).r,.int .i64 (⟨r4,c4,a4,k4,l4⟩:Dsc).c,.slice (⟨r4,c4,a4,k4,l4⟩:Dsc).a (⟨r4,c4,a4,k4,l4⟩:Dsc).xs.length (⟨r4,c4,a4,k4,l4⟩:Dsc).k])
  rw [←HWF.out]
  clear x0 x1 x2 x3 x4 x5 y0 y1 y2 y3 y4 y5
  obtain ⟨-,x0,x1,x2,xf⟩:=F8.out.three
  obtain ⟨-,y0,y1,y2,yf⟩:=F9.out.three
  refine bodyPost_ret (v:=.tuple #[(⟨r2,c2,a2,k2,l2⟩:Dsc).val,(⟨r4,c4,a4,k4,l4⟩:Dsc).val]) (by simp [results,Tryz.results96,go_sem,x0,x1,x2,y0,y1,y2,Dsc.val]) rfl ⟨(⟨r2,c2,a2,k2,l2⟩:Dsc),(⟨r4,c4,a4,k4,l4⟩:Dsc),rfl,I (⟨by rw [E2.out,E1.out];simp [bC],Or.inr (P8.out _ ZZ2.out)⟩),I (fun _=>⟨by rw [E4.out,E3.out];simp [bU],Or.inr (P8.out _ ZZ4.out)⟩),PB.out⟩
 ·as_aux_lemma =>
  go_enter Tryz.func96,Tryz.ntmps96
  go_upto_region 15 with fail
  rw [←hW0]
  have B0:=I b0
  obtain ⟨⟨e0,e1,e2⟩,⟨e3,e4,e5⟩,e6,e7,e8⟩:=KS.out W0 (O _ _)
  clear hW0 b0 OB GB VB WB HG HV HW
  have K:=I (iT (AT.out W0 (O _ _)).1)
  unfold Dsc.val at K
  go_wp2_with fail
  refine K.out.mono fun e w1 h=>?_
  obtain ⟨v,rfl,hd⟩:=h
  obtain ⟨⟨r1,c1,a1,k1,l1⟩,rfl,he,hz,hb⟩:=DAll.transposed (t:=⟨gr,gc,ga,gk,gx⟩) hd (AT.out W0 (O _ _)).1
  have E1:=I he;have Z1:=I hz;have CC:=I hb
  clear he hz hb hd K e0 e1 e2 e3 e4 e5 e6 e7 e8
  obtain ⟨-,x0,x1,x2,xf⟩:=(R8.out.below CC.out).three
  obtain ⟨-,y0,y1,y2,yf⟩:=(R9.out.below CC.out).three
  obtain ⟨WF,hWF⟩:∃WF,WF=setCs (setCs w1 (w.heap.size+1+1+1+1) 0 [.int .i64 (⟨r1,c1,a1,k1,l1⟩:Dsc).r,.int .i64 (⟨r1,c1,a1,k1,l1⟩:Dsc).c,.slice (⟨r1,c1,a1,k1,l1⟩:Dsc).a (⟨r1,c1,a1,k1,l1⟩:Dsc).xs.length (⟨r1,c1,a1,k1,l1⟩:Dsc).k]) (w.heap.size+1+1+1+1+1) 0 [.int .i64 (⟨0,0,none,0,[]⟩:Dsc).r,.int .i64 (⟨0,0,none,0,[]⟩:Dsc).c,.slice (⟨0,0,none,0,[]⟩:Dsc).a (⟨0,0,none,0,[]⟩:Dsc).xs.length (⟨0,0,none,0,[]⟩:Dsc).k]:=⟨_,rfl⟩
  have P8:Hid (∀t:Dsc,RepF w1 W0.heap.size w1.heap.size t.a t.xs.length t.k t.xs→RepF WF w.heap.size WF.heap.size t.a t.xs.length t.k t.xs):=I (fun t ht=>by rw [hWF];exact gW ht (by omega) (by omega) (by omega) (J _) _ _)
  have PB:Hid (Below w.heap.size w WF):=I (by rw [hWF];exact aG (aG (aA B0.out CC.out) (by omega) 0 _) (by omega) 0 _)
  have F8:Hid (BoxN WF (w.heap.size+1+1+1+1) [.int .i64 (⟨r1,c1,a1,k1,l1⟩:Dsc).r,.int .i64 (⟨r1,c1,a1,k1,l1⟩:Dsc).c,.slice (⟨r1,c1,a1,k1,l1⟩:Dsc).a (⟨r1,c1,a1,k1,l1⟩:Dsc).xs.length (⟨r1,c1,a1,k1,l1⟩:Dsc).k]):=I (by rw [hWF];exact ((R8.out.below CC.out).set3).touch (aB _ (w.heap.size+1+1+1+1+1) 0 _) (.inl (by omega)))
  have F9:Hid (BoxN WF (w.heap.size+1+1+1+1+1) [.int .i64 (⟨0,0,none,0,[]⟩:Dsc).r,.int .i64 (⟨0,0,none,0,[]⟩:Dsc).c,.slice (⟨0,0,none,0,[]⟩:Dsc).a (⟨0,0,none,0,[]⟩:Dsc).xs.length (⟨0,0,none,0,[]⟩:Dsc).k]):=I (by rw [hWF];exact ((R9.out.below CC.out).touch (aB _ (w.heap.size+1+1+1+1) 0 _) (.inr (by omega))).set3)
  have HWF:=I hWF
  have Z0:=I z0
  have x3:=xf 0;have x4:=xf 1;have x5:=xf 2;have y3:=yf 0;have y4:=yf 1;have y5:=yf 2
  clear z0 hWF xf yf KS AT R8 R9 HS
  try unfold Dsc.val
  try simp only
  go_wp2
  try simp only [Exit.inBlock,Exit.then]
  change bodyPost _ _ _ _ _ (setCs (setCs w1 (w.heap.size+1+1+1+1) 0 [.int .i64 (⟨r1,c1,a1,k1,l1⟩:Dsc).r,.int .i64 (⟨r1,c1,a1,k1,l1⟩:Dsc).c,.slice (⟨r1,c1,a1,k1,l1⟩:Dsc).a (⟨r1,c1,a1,k1,l1⟩:Dsc).xs.length (⟨r1,c1,a1,k1,l1⟩:Dsc).k]) (w.heap.size+1+1+1+1+1) 0 [.int .i64 (⟨0,0,none,0,[]⟩:Dsc).r,.int .i64 (⟨0,0,none,0,[]⟩:Dsc).c,.slice (⟨0,0,none,0,[]⟩:Dsc).a (⟨0,0,none,0,[]⟩:Dsc).xs.length (⟨0,0,none,0,[]⟩:Dsc).k])
  rw [←HWF.out]
  clear x0 x1 x2 x3 x4 x5 y0 y1 y2 y3 y4 y5
  obtain ⟨-,x0,x1,x2,xf⟩:=F8.out.three
  obtain ⟨-,y0,y1,y2,yf⟩:=F9.out.three
  refine bodyPost_ret (v:=.tuple #[(⟨r1,c1,a1,k1,l1⟩:Dsc).val,(⟨0,0,none,0,[]⟩:Dsc).val]) (by simp [results,Tryz.results96,go_sem,x0,x1,x2,y0,y1,y2,Dsc.val]) rfl ⟨(⟨r1,c1,a1,k1,l1⟩:Dsc),(⟨0,0,none,0,[]⟩:Dsc),rfl,I (⟨by rw [E1.out];simp [bC],Or.inr (P8.out _ Z1.out)⟩),I (fun h=>absurd h (by decide)),PB.out⟩
 ·as_aux_lemma =>
  have hsh:Hid (gr=vr∧gc=vc):=I (by have:=HS.out;simp [aQ] at this;omega)
  have LG:Hid (vx.length=gx.length):=I (by have h1:=HV.out.len;have h2:=HG.out.len;have h3:=hsh.out;simp only at h1 h2;rw [h1,h2,h3.1,h3.2])
  go_enter Tryz.func96,Tryz.ntmps96
  go_upto_region 17 with fail
  rw [←hW0]
  have B0:=I b0
  obtain ⟨⟨e0,e1,e2⟩,⟨e3,e4,e5⟩,e6,e7,e8⟩:=KS.out W0 (O _ _)
  clear hW0 b0 OB GB VB WB HG HV HW
  have av:=(AT.out W0 (O _ _)).2.1
  have K:=I (gA W0 vr vc va vk vx av.see av.le 129 #[.pointer (some ⟨w.heap.size+1,0,none⟩)] (fun i x z=>cn .f32 z=iH (cn .f32 x) ((gx.map (cn .f32)).getD i 0)) (fun args W=>by kernel_rfl) (fun W i x hb hi hx=>by
   have hg:=(AT.out W hb).1
   have hi2:i < gx.length:=by rw [←LG.out];exact hi
   obtain ⟨b,o,e,_,hc⟩:=hg.see.spot (k:=i) hi2
   have hcell:=(KS.out W hb).1.2.2
   simp only at e
   rw [e] at hcell
   have hcc:=hc i hi2
   obtain ⟨y,hy⟩:∃y,y=gx.getD i 0:=⟨_,rfl⟩
   have hyl:y < 4294967296:=by rw [hy];exact hg.see.lt _ (iB (k:=i) hi2)
   rw [←hy] at hcc
   refine (Ah i x (w.heap.size+1) b o gk gx.length gx y W hy hi2 hg.le hyl hcell hcc).mono ?_
   rintro e w' ⟨rfl,rfl⟩
   refine ⟨_,rfl,I ⟨?_,?_⟩,O _ _⟩
   ·rw [DG,bO,hy]
   ·unfold iH;split
    ·exact hyl
    ·decide))
  clear av
  go_wp2_with fail
  refine K.out.mono ?_
  rintro e w1 ⟨a1,k1,l1,rfl,RO,RM,hb⟩
  have hl1:=RO.out.len
  rw [←hl1]
  have E1:Hid (Dsc.can ⟨vr,vc,a1,k1,l1⟩=⟨vr,vc,tY (vx.map (cn .f32)) (gx.map (cn .f32)) vx.length⟩):=I (by
   have h:=gR (n:=vx.length) (G:=fun i x=>iH x ((gx.map (cn .f32)).getD i 0)) RM.out hl1
   unfold Dsc.can
   simp only
   rw [h];rfl)
  have Z1:Hid (RepF w1 W0.heap.size w1.heap.size a1 l1.length k1 l1):=I (by rw [hl1];exact RO.out)
  have CC:=I hb
  clear RO RM hb hl1 K e0 e1 e2 e3 e4 e5 e6 e7 e8
  obtain ⟨-,x0,x1,x2,xf⟩:=(R8.out.below CC.out).three
  obtain ⟨-,y0,y1,y2,yf⟩:=(R9.out.below CC.out).three
  obtain ⟨WF,hWF⟩:∃WF,WF=setCs (setCs w1 (w.heap.size+1+1+1+1) 0 [.int .i64 (⟨vr,vc,a1,k1,l1⟩:Dsc).r,.int .i64 (⟨vr,vc,a1,k1,l1⟩:Dsc).c,.slice (⟨vr,vc,a1,k1,l1⟩:Dsc).a (⟨vr,vc,a1,k1,l1⟩:Dsc).xs.length (⟨vr,vc,a1,k1,l1⟩:Dsc).k]) (w.heap.size+1+1+1+1+1) 0 [.int .i64 (⟨0,0,none,0,[]⟩:Dsc).r,.int .i64 (⟨0,0,none,0,[]⟩:Dsc).c,.slice (⟨0,0,none,0,[]⟩:Dsc).a (⟨0,0,none,0,[]⟩:Dsc).xs.length (⟨0,0,none,0,[]⟩:Dsc).k]:=⟨_,rfl⟩
  have P8:Hid (∀t:Dsc,RepF w1 W0.heap.size w1.heap.size t.a t.xs.length t.k t.xs→RepF WF w.heap.size WF.heap.size t.a t.xs.length t.k t.xs):=I (fun t ht=>by rw [hWF];exact gW ht (by omega) (by omega) (by omega) (J _) _ _)
  have PB:Hid (Below w.heap.size w WF):=I (by rw [hWF];exact aG (aG (aA B0.out CC.out) (by omega) 0 _) (by omega) 0 _)
  have F8:Hid (BoxN WF (w.heap.size+1+1+1+1) [.int .i64 (⟨vr,vc,a1,k1,l1⟩:Dsc).r,.int .i64 (⟨vr,vc,a1,k1,l1⟩:Dsc).c,.slice (⟨vr,vc,a1,k1,l1⟩:Dsc).a (⟨vr,vc,a1,k1,l1⟩:Dsc).xs.length (⟨vr,vc,a1,k1,l1⟩:Dsc).k]):=I (by rw [hWF];exact ((R8.out.below CC.out).set3).touch (aB _ (w.heap.size+1+1+1+1+1) 0 _) (.inl (by omega)))
  have F9:Hid (BoxN WF (w.heap.size+1+1+1+1+1) [.int .i64 (⟨0,0,none,0,[]⟩:Dsc).r,.int .i64 (⟨0,0,none,0,[]⟩:Dsc).c,.slice (⟨0,0,none,0,[]⟩:Dsc).a (⟨0,0,none,0,[]⟩:Dsc).xs.length (⟨0,0,none,0,[]⟩:Dsc).k]):=I (by rw [hWF];exact ((R9.out.below CC.out).touch (aB _ (w.heap.size+1+1+1+1) 0 _) (.inr (by omega))).set3)
  have HWF:=I hWF
  have Z0:=I z0
  have x3:=xf 0;have x4:=xf 1;have x5:=xf 2;have y3:=yf 0;have y4:=yf 1;have y5:=yf 2
  clear z0 hWF xf yf KS AT R8 R9 HS
  try unfold Dsc.val
  try simp only
  go_wp2
  try simp only [Exit.inBlock,Exit.then]
  change bodyPost _ _ _ _ _ (setCs (setCs w1 (w.heap.size+1+1+1+1) 0 [.int .i64 (⟨vr,vc,a1,k1,l1⟩:Dsc).r,.int .i64 (⟨vr,vc,a1,k1,l1⟩:Dsc).c,.slice (⟨vr,vc,a1,k1,l1⟩:Dsc).a (⟨vr,vc,a1,k1,l1⟩:Dsc).xs.length (⟨vr,vc,a1,k1,l1⟩:Dsc).k]) (w.heap.size+1+1+1+1+1) 0 [.int .i64 (⟨0,0,none,0,[]⟩:Dsc).r,.int .i64 (⟨0,0,none,0,[]⟩:Dsc).c,.slice (⟨0,0,none,0,[]⟩:Dsc).a (⟨0,0,none,0,[]⟩:Dsc).xs.length (⟨0,0,none,0,[]⟩:Dsc).k])
  rw [←HWF.out]
  clear x0 x1 x2 x3 x4 x5 y0 y1 y2 y3 y4 y5
  obtain ⟨-,x0,x1,x2,xf⟩:=F8.out.three
  obtain ⟨-,y0,y1,y2,yf⟩:=F9.out.three
  refine bodyPost_ret (v:=.tuple #[(⟨vr,vc,a1,k1,l1⟩:Dsc).val,(⟨0,0,none,0,[]⟩:Dsc).val]) (by simp [results,Tryz.results96,go_sem,x0,x1,x2,y0,y1,y2,Dsc.val]) rfl ⟨(⟨vr,vc,a1,k1,l1⟩:Dsc),(⟨0,0,none,0,[]⟩:Dsc),rfl,I (⟨by rw [E1.out];simp [bC,Dsc.can],Or.inr (P8.out ⟨vr,vc,a1,k1,l1⟩ Z1.out)⟩),I (fun h=>absurd h (by decide)),PB.out⟩
 ·as_aux_lemma =>
  have hsh:Hid (gr=vr∧gc=vc):=I (by have:=HS.out;simp [aQ] at this;omega)
  go_enter Tryz.func96,Tryz.ntmps96
  go_upto_region 19 with fail
  rw [←hW0]
  have B0:=I b0
  clear hW0 b0 OB GB VB WB HG HV HW
  have S0:=I (KS.out W0 (O _ _))
  have C0:=I (O W0.heap.size W0)
  refine aL 7 [3,4,6] (fun W=>(W.cell? ⟨w.heap.size+1,0,none⟩=some (.int .i64 gr)∧W.cell? ⟨w.heap.size+1,1,none⟩=some (.int .i64 gc)∧W.cell? ⟨w.heap.size+1,2,none⟩=some (.slice ga gx.length gk))∧(W.cell? ⟨w.heap.size+1+1,0,none⟩=some (.int .i64 vr)∧W.cell? ⟨w.heap.size+1+1,1,none⟩=some (.int .i64 vc)∧W.cell? ⟨w.heap.size+1+1,2,none⟩=some (.slice va vx.length vk))∧(W.cell? ⟨w.heap.size+1+1+1,0,none⟩=some (.int .i64 wr)∧W.cell? ⟨w.heap.size+1+1+1,1,none⟩=some (.int .i64 wc)∧W.cell? ⟨w.heap.size+1+1+1,2,none⟩=some (.slice wa wx.length wk))) (fun _ _ _=>False) DAll (by kernel_rfl) (by kernel_rfl) S0.out (fun W q h=>by simpa using h) ?_
  iterate 3 (refine aD (by rfl) S0.out (fun K hK W hW=>?_);obtain ⟨⟨e0,e1,e2⟩,⟨e3,e4,e5⟩,e6,e7,e8⟩:=hW;go_simp;refine hK _ ?_;clear hK K e0 e1 e2 e3 e4 e5 e6 e7 e8)
  refine aF (by rfl) S0.out (fun K hK q1=>?_)
  go_simp
  have D1:=I (below_drewN C0.out q1)
  refine ⟨(mE (t:=(⟨vr,vc,va,vk,vx⟩:Dsc)) (u:=(⟨vr,vc,va,vk,vx⟩:Dsc)) (AT.out _ D1.out).2.1 (AT.out _ D1.out).2.1 rfl rfl),?_⟩
  rintro v w1 hd
  obtain ⟨⟨r1,c1,a1,k1,l1⟩,rfl,he1,ha1,hr1,hb1⟩:=(DAll.addTensors (t:=(⟨vr,vc,va,vk,vx⟩:Dsc)) (u:=(⟨vr,vc,va,vk,vx⟩:Dsc)) hd (AT.out _ D1.out).2.1 (AT.out _ D1.out).2.1).at' ((kG (AT.out _ D1.out).2.1.okT).1)
  have C1:=I (aA D1.out hb1)
  have hs1:=KS.out w1 C1.out
  have S1:=I hs1
  refine ⟨hs1,hK _ _ ?_⟩
  have E1:=I he1;have A1:=I ha1;have Z1:=I (hr1.bounds (show W0.heap.size≤_ from D1.out.size) (J _))
  clear hK K hd he1 ha1 hr1 hb1 hs1
  have R1:Hid (gr=r1∧gc=c1):=I (by have h:=E1.out;have h1:=hsh.out;simp [Dsc.can,fI] at h;omega)
  refine aF (by rfl) S1.out (fun K hK q2=>?_)
  go_simp
  have D2:=I (below_drewN C1.out q2)
  refine ⟨(fW (t:=(⟨gr,gc,ga,gk,gx⟩:Dsc)) (u:=(⟨r1,c1,a1,k1,l1⟩:Dsc)) (AT.out _ D2.out).1 (A1.out.below (below_drewN (O _ _) q2)) R1.out.1 R1.out.2),?_⟩
  rintro v w2 hd
  obtain ⟨⟨r2,c2,a2,k2,l2⟩,rfl,he2,ha2,hr2,hb2⟩:=(DAll.mulTensors (t:=(⟨gr,gc,ga,gk,gx⟩:Dsc)) (u:=(⟨r1,c1,a1,k1,l1⟩:Dsc)) hd (AT.out _ D2.out).1 (A1.out.below (below_drewN (O _ _) q2))).at' ((hH (AT.out _ D2.out).1.okT).1)
  have C2:=I (aA D2.out hb2)
  have hs2:=KS.out w2 C2.out
  have S2:=I hs2
  refine ⟨hs2,hK _ _ ?_⟩
  have E2:=I he2;have A2:=I ha2;have Z2:=I (hr2.bounds (show W0.heap.size≤_ from D2.out.size) (J _))
  clear hK K hd he2 ha2 hr2 hb2 hs2
  iterate 1 (refine aD (by rfl) S2.out (fun K hK W hW=>?_);obtain ⟨⟨e0,e1,e2⟩,⟨e3,e4,e5⟩,e6,e7,e8⟩:=hW;go_simp;refine hK _ ?_;clear hK K e0 e1 e2 e3 e4 e5 e6 e7 e8)
  refine aF (by rfl) S2.out (fun K hK q8=>?_)
  have C8:=I (below_drewN C2.out q8)
  obtain ⟨-,x0,x1,x2,xf⟩:=(R8.out.below C8.out).three
  obtain ⟨⟨e0,e1,e2⟩,⟨e3,e4,e5⟩,e6,e7,e8⟩:=KS.out _ C8.out
  have ZZ2:=I ((Z2.out.below (below_drewN (O _ _) q8)).bounds (J _) (show w2.heap.size≤(w2.drewN q8).heap.size by simp))
  generalize w2.drewN q8=V8 at ZZ2 C8 x0 x1 x2 xf e0 e1 e2 e3 e4 e5 e6 e7 e8 ⊢
  have x3:=xf 0;have x4:=xf 1;have x5:=xf 2
  clear xf
  try unfold Dsc.val
  try simp only
  go_simp
  have S8:=I (show (fun W=>(W.cell? ⟨w.heap.size+1,0,none⟩=some (.int .i64 gr)∧W.cell? ⟨w.heap.size+1,1,none⟩=some (.int .i64 gc)∧W.cell? ⟨w.heap.size+1,2,none⟩=some (.slice ga gx.length gk))∧(W.cell? ⟨w.heap.size+1+1,0,none⟩=some (.int .i64 vr)∧W.cell? ⟨w.heap.size+1+1,1,none⟩=some (.int .i64 vc)∧W.cell? ⟨w.heap.size+1+1,2,none⟩=some (.slice va vx.length vk))∧(W.cell? ⟨w.heap.size+1+1+1,0,none⟩=some (.int .i64 wr)∧W.cell? ⟨w.heap.size+1+1+1,1,none⟩=some (.int .i64 wc)∧W.cell? ⟨w.heap.size+1+1+1,2,none⟩=some (.slice wa wx.length wk))) (setCs V8 (w.heap.size+1+1+1+1) 0 [.int .i64 (⟨r2,c2,a2,k2,l2⟩:Dsc).r,.int .i64 (⟨r2,c2,a2,k2,l2⟩:Dsc).c,.slice (⟨r2,c2,a2,k2,l2⟩:Dsc).a (⟨r2,c2,a2,k2,l2⟩:Dsc).xs.length (⟨r2,c2,a2,k2,l2⟩:Dsc).k]) by simp only [setCs];go_simp;done)
  refine hK _ _ ?_
  change kC _ _ _ _ _ _ _ _ _ _ (setCs V8 (w.heap.size+1+1+1+1) 0 [.int .i64 (⟨r2,c2,a2,k2,l2⟩:Dsc).r,.int .i64 (⟨r2,c2,a2,k2,l2⟩:Dsc).c,.slice (⟨r2,c2,a2,k2,l2⟩:Dsc).a (⟨r2,c2,a2,k2,l2⟩:Dsc).xs.length (⟨r2,c2,a2,k2,l2⟩:Dsc).k])
  clear hK K x0 x1 x2 x3 x4 x5 e0 e1 e2 e3 e4 e5 e6 e7 e8
  refine aP (fun q9=>?_)
  have F8:=I (((R8.out.below C8.out).set3 (x:=.int .i64 (⟨r2,c2,a2,k2,l2⟩:Dsc).r) (y:=.int .i64 (⟨r2,c2,a2,k2,l2⟩:Dsc).c) (z:=.slice (⟨r2,c2,a2,k2,l2⟩:Dsc).a (⟨r2,c2,a2,k2,l2⟩:Dsc).xs.length (⟨r2,c2,a2,k2,l2⟩:Dsc).k)).below (below_drewN (O _ _) q9))
  have F9:=I (((R9.out.below C8.out).touch (aB _ (w.heap.size+1+1+1+1) 0 [.int .i64 (⟨r2,c2,a2,k2,l2⟩:Dsc).r,.int .i64 (⟨r2,c2,a2,k2,l2⟩:Dsc).c,.slice (⟨r2,c2,a2,k2,l2⟩:Dsc).a (⟨r2,c2,a2,k2,l2⟩:Dsc).xs.length (⟨r2,c2,a2,k2,l2⟩:Dsc).k]) (.inr (by omega))).below (below_drewN (O _ _) q9))
  have TT:Hid (∀t:Dsc,RepF V8 W0.heap.size V8.heap.size t.a t.xs.length t.k t.xs→RepF ((setCs V8 (w.heap.size+1+1+1+1) 0 [.int .i64 (⟨r2,c2,a2,k2,l2⟩:Dsc).r,.int .i64 (⟨r2,c2,a2,k2,l2⟩:Dsc).c,.slice (⟨r2,c2,a2,k2,l2⟩:Dsc).a (⟨r2,c2,a2,k2,l2⟩:Dsc).xs.length (⟨r2,c2,a2,k2,l2⟩:Dsc).k]).drewN q9) W0.heap.size ((setCs V8 (w.heap.size+1+1+1+1) 0 [.int .i64 (⟨r2,c2,a2,k2,l2⟩:Dsc).r,.int .i64 (⟨r2,c2,a2,k2,l2⟩:Dsc).c,.slice (⟨r2,c2,a2,k2,l2⟩:Dsc).a (⟨r2,c2,a2,k2,l2⟩:Dsc).xs.length (⟨r2,c2,a2,k2,l2⟩:Dsc).k]).drewN q9).heap.size t.a t.xs.length t.k t.xs):=I (fun t ht=>((ht.touch (aB _ (w.heap.size+1+1+1+1) 0 [.int .i64 (⟨r2,c2,a2,k2,l2⟩:Dsc).r,.int .i64 (⟨r2,c2,a2,k2,l2⟩:Dsc).c,.slice (⟨r2,c2,a2,k2,l2⟩:Dsc).a (⟨r2,c2,a2,k2,l2⟩:Dsc).xs.length (⟨r2,c2,a2,k2,l2⟩:Dsc).k]) (.inr (by omega))).below (below_drewN (O _ _) q9)).bounds (J _) (by simp [aU]))
  have BB:Hid (Below w.heap.size w ((setCs V8 (w.heap.size+1+1+1+1) 0 [.int .i64 (⟨r2,c2,a2,k2,l2⟩:Dsc).r,.int .i64 (⟨r2,c2,a2,k2,l2⟩:Dsc).c,.slice (⟨r2,c2,a2,k2,l2⟩:Dsc).a (⟨r2,c2,a2,k2,l2⟩:Dsc).xs.length (⟨r2,c2,a2,k2,l2⟩:Dsc).k]).drewN q9)):=I (below_drewN (aG (aA B0.out C8.out) (by omega) 0 _) q9)
  generalize (setCs V8 (w.heap.size+1+1+1+1) 0 [.int .i64 (⟨r2,c2,a2,k2,l2⟩:Dsc).r,.int .i64 (⟨r2,c2,a2,k2,l2⟩:Dsc).c,.slice (⟨r2,c2,a2,k2,l2⟩:Dsc).a (⟨r2,c2,a2,k2,l2⟩:Dsc).xs.length (⟨r2,c2,a2,k2,l2⟩:Dsc).k]).drewN q9=W9 at F8 F9 TT BB ⊢
  obtain ⟨WF,hWF⟩:∃WF,WF=setCs W9 (w.heap.size+1+1+1+1+1) 0 [.int .i64 (⟨0,0,none,0,[]⟩:Dsc).r,.int .i64 (⟨0,0,none,0,[]⟩:Dsc).c,.slice (⟨0,0,none,0,[]⟩:Dsc).a (⟨0,0,none,0,[]⟩:Dsc).xs.length (⟨0,0,none,0,[]⟩:Dsc).k]:=⟨_,rfl⟩
  have HZ9:Hid (w.heap.size≤W0.heap.size∧W9.heap.size≤W9.heap.size):=I ⟨by omega,J _⟩
  have P8:Hid (∀t:Dsc,RepF V8 W0.heap.size V8.heap.size t.a t.xs.length t.k t.xs→RepF WF w.heap.size WF.heap.size t.a t.xs.length t.k t.xs):=I (fun t ht=>by rw [hWF];exact ((TT.out t ht).touch (aB W9 (w.heap.size+1+1+1+1+1) 0 [.int .i64 (⟨0,0,none,0,[]⟩:Dsc).r,.int .i64 (⟨0,0,none,0,[]⟩:Dsc).c,.slice (⟨0,0,none,0,[]⟩:Dsc).a (⟨0,0,none,0,[]⟩:Dsc).xs.length (⟨0,0,none,0,[]⟩:Dsc).k]) (.inr (by omega))).bounds (by omega) (by rw [aU];exact J _))
  have PB:Hid (Below w.heap.size w WF):=I (by rw [hWF];exact aG BB.out (by omega) 0 _)
  obtain ⟨-,y0,y1,y2,yf⟩:=F9.out.three
  have G8:Hid (BoxN WF (w.heap.size+1+1+1+1) [.int .i64 (⟨r2,c2,a2,k2,l2⟩:Dsc).r,.int .i64 (⟨r2,c2,a2,k2,l2⟩:Dsc).c,.slice (⟨r2,c2,a2,k2,l2⟩:Dsc).a (⟨r2,c2,a2,k2,l2⟩:Dsc).xs.length (⟨r2,c2,a2,k2,l2⟩:Dsc).k]):=I (by rw [hWF];exact F8.out.touch (aB _ (w.heap.size+1+1+1+1+1) 0 _) (.inl (by omega)))
  have G9:Hid (BoxN WF (w.heap.size+1+1+1+1+1) [.int .i64 (⟨0,0,none,0,[]⟩:Dsc).r,.int .i64 (⟨0,0,none,0,[]⟩:Dsc).c,.slice (⟨0,0,none,0,[]⟩:Dsc).a (⟨0,0,none,0,[]⟩:Dsc).xs.length (⟨0,0,none,0,[]⟩:Dsc).k]):=I (by rw [hWF];exact F9.out.set3)
  have HWF:=I hWF
  have Z0:=I z0
  have y3:=yf 0;have y4:=yf 1;have y5:=yf 2
  clear z0 hWF yf KS AT R8 R9 S0 C0 HS S8
  try unfold Dsc.val
  try simp only
  go_wp2
  try simp only [Exit.inBlock,Exit.then]
  change bodyPost _ _ _ _ _ (setCs W9 (w.heap.size+1+1+1+1+1) 0 [.int .i64 (⟨0,0,none,0,[]⟩:Dsc).r,.int .i64 (⟨0,0,none,0,[]⟩:Dsc).c,.slice (⟨0,0,none,0,[]⟩:Dsc).a (⟨0,0,none,0,[]⟩:Dsc).xs.length (⟨0,0,none,0,[]⟩:Dsc).k])
  rw [←HWF.out]
  clear y0 y1 y2 y3 y4 y5
  obtain ⟨-,x0,x1,x2,xf⟩:=G8.out.three
  obtain ⟨-,y0,y1,y2,yf⟩:=G9.out.three
  refine bodyPost_ret (v:=.tuple #[(⟨r2,c2,a2,k2,l2⟩:Dsc).val,(⟨0,0,none,0,[]⟩:Dsc).val]) (by simp [results,Tryz.results96,go_sem,x0,x1,x2,y0,y1,y2,Dsc.val]) rfl ⟨(⟨r2,c2,a2,k2,l2⟩:Dsc),(⟨0,0,none,0,[]⟩:Dsc),rfl,I (⟨by rw [E2.out,E1.out];simp [bC],Or.inr (P8.out _ ZZ2.out)⟩),I (fun h=>absurd h (by decide)),PB.out⟩
 ·as_aux_lemma =>
  obtain ⟨bg,og,hga,hgl,hgc⟩:=HG.out.see.spot (k:=0) HG.out.pos
  replace hga:ga=some ⟨bg,og,none⟩:=hga
  subst hga
  have hg0:=hgc 0 HG.out.pos
  have hpos:0 < gx.length:=HG.out.pos
  obtain ⟨y,hy⟩:∃y,y=gx.getD 0 0:=⟨_,rfl⟩
  have HYL:Hid (y < 4294967296):=I (by rw [hy];exact HG.out.see.lt _ (iB (k:=0) HG.out.pos))
  have hg1:W0.cell? ⟨bg,og,none⟩=some (.float .f32 y):=by rw [hy];exact (b0.cell (p:=⟨bg,og,none⟩) hgl).trans hg0
  have hgl0:bg < W0.heap.size:=by omega
  have KS0:=I KS.out
  have HY:=I hy
  have hne1:¬ bg=w.heap.size+1+1+1+1:=by omega
  have hne2:¬ w.heap.size+1+1+1+1=bg:=by omega
  replace KS:Hid (∀W,Below W0.heap.size W0 W→(fun W=>W.cell? ⟨bg,og,none⟩=some (.float .f32 y)∧(W.cell? ⟨w.heap.size+1,0,none⟩=some (.int .i64 gr)∧W.cell? ⟨w.heap.size+1,1,none⟩=some (.int .i64 gc)∧W.cell? ⟨w.heap.size+1,2,none⟩=some (.slice (some ⟨bg,og,none⟩) gx.length gk))∧(W.cell? ⟨w.heap.size+1+1,0,none⟩=some (.int .i64 vr)∧W.cell? ⟨w.heap.size+1+1,1,none⟩=some (.int .i64 vc)∧W.cell? ⟨w.heap.size+1+1,2,none⟩=some (.slice va vx.length vk))∧(W.cell? ⟨w.heap.size+1+1+1,0,none⟩=some (.int .i64 wr)∧W.cell? ⟨w.heap.size+1+1+1,1,none⟩=some (.int .i64 wc)∧W.cell? ⟨w.heap.size+1+1+1,2,none⟩=some (.slice wa wx.length wk))) W):=I (fun W hb=>⟨(hb.cell (p:=⟨bg,og,none⟩) hgl0).trans hg1,KS0.out W hb⟩)
  clear hg0 hgc hy hg1 hgl0 hgl KS0
  go_enter Tryz.func96,Tryz.ntmps96
  go_upto_region 20 with fail
  rw [←hW0]
  have B0:=I b0
  clear hW0 b0 OB GB VB WB HG HV HW
  have OF:Hid (okT (cO (Dsc.can ⟨vr,vc,va,vk,vx⟩) (cn .f32 y))):=I (lU (AT.out W0 (O _ _)).2.1.okT _).1
  have S0:=I (KS.out W0 (O _ _))
  have C0:=I (O W0.heap.size W0)
  refine aL 11 [8,10] (fun W=>W.cell? ⟨bg,og,none⟩=some (.float .f32 y)∧(W.cell? ⟨w.heap.size+1,0,none⟩=some (.int .i64 gr)∧W.cell? ⟨w.heap.size+1,1,none⟩=some (.int .i64 gc)∧W.cell? ⟨w.heap.size+1,2,none⟩=some (.slice (some ⟨bg,og,none⟩) gx.length gk))∧(W.cell? ⟨w.heap.size+1+1,0,none⟩=some (.int .i64 vr)∧W.cell? ⟨w.heap.size+1+1,1,none⟩=some (.int .i64 vc)∧W.cell? ⟨w.heap.size+1+1,2,none⟩=some (.slice va vx.length vk))∧(W.cell? ⟨w.heap.size+1+1+1,0,none⟩=some (.int .i64 wr)∧W.cell? ⟨w.heap.size+1+1+1,1,none⟩=some (.int .i64 wc)∧W.cell? ⟨w.heap.size+1+1+1,2,none⟩=some (.slice wa wx.length wk))) (fun _ _ _=>False) (fun f args w1 v w2=>RTen (cO (Dsc.can ⟨vr,vc,va,vk,vx⟩) (cn .f32 y)) w1 v w2) (by kernel_rfl) (by kernel_rfl) S0.out (fun W q h=>by simpa using h) ?_
  iterate 8 (refine aD (by rfl) S0.out (fun K hK W hW=>?_);obtain ⟨e9,⟨e0,e1,e2⟩,⟨e3,e4,e5⟩,e6,e7,e8⟩:=hW;go_simp;refine hK _ ?_;clear hK K e0 e1 e2 e3 e4 e5 e6 e7 e8 e9)
  refine aF (by rfl) S0.out (fun K hK q1=>?_)
  go_simp
  have D1:=I (below_drewN C0.out q1)
  refine ⟨((kE _ vr vc y HYL.out (AT.out W0 (O _ _)).2.1.r1 (AT.out W0 (O _ _)).2.1.r2 (AT.out W0 (O _ _)).2.1.c1 (AT.out W0 (O _ _)).2.1.c2).mono (fun e w2 h=>RTen.of (T:=cO (Dsc.can ⟨vr,vc,va,vk,vx⟩) (cn .f32 y)) h (by have h:=(AT.out W0 (O _ _)).2.1.len;unfold cO Dsc.can;simp only at h ⊢;rw [List.length_map,h]))),?_⟩
  rintro v w1 hd
  obtain ⟨⟨r1,c1,a1,k1,l1⟩,rfl,he1,ha1,hr1,hb1⟩:=(RTen.self hd).at' (OF.out)
  have C1:=I (aA D1.out hb1)
  have hs1:=KS.out w1 C1.out
  have S1:=I hs1
  refine ⟨hs1,hK _ _ ?_⟩
  have E1:=I he1;have A1:=I ha1;have Z1:=I (hr1.bounds (show W0.heap.size≤_ from D1.out.size) (J _))
  clear hK K hd he1 ha1 hr1 hb1 hs1
  iterate 1 (refine aD (by rfl) S1.out (fun K hK W hW=>?_);obtain ⟨e9,⟨e0,e1,e2⟩,⟨e3,e4,e5⟩,e6,e7,e8⟩:=hW;go_simp;refine hK _ ?_;clear hK K e0 e1 e2 e3 e4 e5 e6 e7 e8 e9)
  refine aF (by rfl) S1.out (fun K hK q8=>?_)
  have C8:=I (below_drewN C1.out q8)
  obtain ⟨-,x0,x1,x2,xf⟩:=(R8.out.below C8.out).three
  obtain ⟨e9,⟨e0,e1,e2⟩,⟨e3,e4,e5⟩,e6,e7,e8⟩:=KS.out _ C8.out
  have ZZ1:=I ((Z1.out.below (below_drewN (O _ _) q8)).bounds (J _) (show w1.heap.size≤(w1.drewN q8).heap.size by simp))
  generalize w1.drewN q8=V8 at ZZ1 C8 x0 x1 x2 xf e0 e1 e2 e3 e4 e5 e6 e7 e8 e9 ⊢
  have x3:=xf 0;have x4:=xf 1;have x5:=xf 2
  clear xf
  try unfold Dsc.val
  try simp only
  go_simp
  have S8:=I (show (fun W=>W.cell? ⟨bg,og,none⟩=some (.float .f32 y)∧(W.cell? ⟨w.heap.size+1,0,none⟩=some (.int .i64 gr)∧W.cell? ⟨w.heap.size+1,1,none⟩=some (.int .i64 gc)∧W.cell? ⟨w.heap.size+1,2,none⟩=some (.slice (some ⟨bg,og,none⟩) gx.length gk))∧(W.cell? ⟨w.heap.size+1+1,0,none⟩=some (.int .i64 vr)∧W.cell? ⟨w.heap.size+1+1,1,none⟩=some (.int .i64 vc)∧W.cell? ⟨w.heap.size+1+1,2,none⟩=some (.slice va vx.length vk))∧(W.cell? ⟨w.heap.size+1+1+1,0,none⟩=some (.int .i64 wr)∧W.cell? ⟨w.heap.size+1+1+1,1,none⟩=some (.int .i64 wc)∧W.cell? ⟨w.heap.size+1+1+1,2,none⟩=some (.slice wa wx.length wk))) (setCs V8 (w.heap.size+1+1+1+1) 0 [.int .i64 (⟨r1,c1,a1,k1,l1⟩:Dsc).r,.int .i64 (⟨r1,c1,a1,k1,l1⟩:Dsc).c,.slice (⟨r1,c1,a1,k1,l1⟩:Dsc).a (⟨r1,c1,a1,k1,l1⟩:Dsc).xs.length (⟨r1,c1,a1,k1,l1⟩:Dsc).k]) by simp only [setCs];go_simp;done)
  refine hK _ _ ?_
  change kC _ _ _ _ _ _ _ _ _ _ (setCs V8 (w.heap.size+1+1+1+1) 0 [.int .i64 (⟨r1,c1,a1,k1,l1⟩:Dsc).r,.int .i64 (⟨r1,c1,a1,k1,l1⟩:Dsc).c,.slice (⟨r1,c1,a1,k1,l1⟩:Dsc).a (⟨r1,c1,a1,k1,l1⟩:Dsc).xs.length (⟨r1,c1,a1,k1,l1⟩:Dsc).k])
  clear hK K x0 x1 x2 x3 x4 x5 e0 e1 e2 e3 e4 e5 e6 e7 e8 e9
  refine aP (fun q9=>?_)
  have F8:=I (((R8.out.below C8.out).set3 (x:=.int .i64 (⟨r1,c1,a1,k1,l1⟩:Dsc).r) (y:=.int .i64 (⟨r1,c1,a1,k1,l1⟩:Dsc).c) (z:=.slice (⟨r1,c1,a1,k1,l1⟩:Dsc).a (⟨r1,c1,a1,k1,l1⟩:Dsc).xs.length (⟨r1,c1,a1,k1,l1⟩:Dsc).k)).below (below_drewN (O _ _) q9))
  have F9:=I (((R9.out.below C8.out).touch (aB _ (w.heap.size+1+1+1+1) 0 [.int .i64 (⟨r1,c1,a1,k1,l1⟩:Dsc).r,.int .i64 (⟨r1,c1,a1,k1,l1⟩:Dsc).c,.slice (⟨r1,c1,a1,k1,l1⟩:Dsc).a (⟨r1,c1,a1,k1,l1⟩:Dsc).xs.length (⟨r1,c1,a1,k1,l1⟩:Dsc).k]) (.inr (by omega))).below (below_drewN (O _ _) q9))
  have TT:Hid (∀t:Dsc,RepF V8 W0.heap.size V8.heap.size t.a t.xs.length t.k t.xs→RepF ((setCs V8 (w.heap.size+1+1+1+1) 0 [.int .i64 (⟨r1,c1,a1,k1,l1⟩:Dsc).r,.int .i64 (⟨r1,c1,a1,k1,l1⟩:Dsc).c,.slice (⟨r1,c1,a1,k1,l1⟩:Dsc).a (⟨r1,c1,a1,k1,l1⟩:Dsc).xs.length (⟨r1,c1,a1,k1,l1⟩:Dsc).k]).drewN q9) W0.heap.size ((setCs V8 (w.heap.size+1+1+1+1) 0 [.int .i64 (⟨r1,c1,a1,k1,l1⟩:Dsc).r,.int .i64 (⟨r1,c1,a1,k1,l1⟩:Dsc).c,.slice (⟨r1,c1,a1,k1,l1⟩:Dsc).a (⟨r1,c1,a1,k1,l1⟩:Dsc).xs.length (⟨r1,c1,a1,k1,l1⟩:Dsc).k]).drewN q9).heap.size t.a t.xs.length t.k t.xs):=I (fun t ht=>((ht.touch (aB _ (w.heap.size+1+1+1+1) 0 [.int .i64 (⟨r1,c1,a1,k1,l1⟩:Dsc).r,.int .i64 (⟨r1,c1,a1,k1,l1⟩:Dsc).c,.slice (⟨r1,c1,a1,k1,l1⟩:Dsc).a (⟨r1,c1,a1,k1,l1⟩:Dsc).xs.length (⟨r1,c1,a1,k1,l1⟩:Dsc).k]) (.inr (by omega))).below (below_drewN (O _ _) q9)).bounds (J _) (by simp [aU]))
  have BB:Hid (Below w.heap.size w ((setCs V8 (w.heap.size+1+1+1+1) 0 [.int .i64 (⟨r1,c1,a1,k1,l1⟩:Dsc).r,.int .i64 (⟨r1,c1,a1,k1,l1⟩:Dsc).c,.slice (⟨r1,c1,a1,k1,l1⟩:Dsc).a (⟨r1,c1,a1,k1,l1⟩:Dsc).xs.length (⟨r1,c1,a1,k1,l1⟩:Dsc).k]).drewN q9)):=I (below_drewN (aG (aA B0.out C8.out) (by omega) 0 _) q9)
  generalize (setCs V8 (w.heap.size+1+1+1+1) 0 [.int .i64 (⟨r1,c1,a1,k1,l1⟩:Dsc).r,.int .i64 (⟨r1,c1,a1,k1,l1⟩:Dsc).c,.slice (⟨r1,c1,a1,k1,l1⟩:Dsc).a (⟨r1,c1,a1,k1,l1⟩:Dsc).xs.length (⟨r1,c1,a1,k1,l1⟩:Dsc).k]).drewN q9=W9 at F8 F9 TT BB ⊢
  obtain ⟨WF,hWF⟩:∃WF,WF=setCs W9 (w.heap.size+1+1+1+1+1) 0 [.int .i64 (⟨0,0,none,0,[]⟩:Dsc).r,.int .i64 (⟨0,0,none,0,[]⟩:Dsc).c,.slice (⟨0,0,none,0,[]⟩:Dsc).a (⟨0,0,none,0,[]⟩:Dsc).xs.length (⟨0,0,none,0,[]⟩:Dsc).k]:=⟨_,rfl⟩
  have HZ9:Hid (w.heap.size≤W0.heap.size∧W9.heap.size≤W9.heap.size):=I ⟨by omega,J _⟩
  have P8:Hid (∀t:Dsc,RepF V8 W0.heap.size V8.heap.size t.a t.xs.length t.k t.xs→RepF WF w.heap.size WF.heap.size t.a t.xs.length t.k t.xs):=I (fun t ht=>by rw [hWF];exact ((TT.out t ht).touch (aB W9 (w.heap.size+1+1+1+1+1) 0 [.int .i64 (⟨0,0,none,0,[]⟩:Dsc).r,.int .i64 (⟨0,0,none,0,[]⟩:Dsc).c,.slice (⟨0,0,none,0,[]⟩:Dsc).a (⟨0,0,none,0,[]⟩:Dsc).xs.length (⟨0,0,none,0,[]⟩:Dsc).k]) (.inr (by omega))).bounds (by omega) (by rw [aU];exact J _))
  have PB:Hid (Below w.heap.size w WF):=I (by rw [hWF];exact aG BB.out (by omega) 0 _)
  obtain ⟨-,y0,y1,y2,yf⟩:=F9.out.three
  have G8:Hid (BoxN WF (w.heap.size+1+1+1+1) [.int .i64 (⟨r1,c1,a1,k1,l1⟩:Dsc).r,.int .i64 (⟨r1,c1,a1,k1,l1⟩:Dsc).c,.slice (⟨r1,c1,a1,k1,l1⟩:Dsc).a (⟨r1,c1,a1,k1,l1⟩:Dsc).xs.length (⟨r1,c1,a1,k1,l1⟩:Dsc).k]):=I (by rw [hWF];exact F8.out.touch (aB _ (w.heap.size+1+1+1+1+1) 0 _) (.inl (by omega)))
  have G9:Hid (BoxN WF (w.heap.size+1+1+1+1+1) [.int .i64 (⟨0,0,none,0,[]⟩:Dsc).r,.int .i64 (⟨0,0,none,0,[]⟩:Dsc).c,.slice (⟨0,0,none,0,[]⟩:Dsc).a (⟨0,0,none,0,[]⟩:Dsc).xs.length (⟨0,0,none,0,[]⟩:Dsc).k]):=I (by rw [hWF];exact F9.out.set3)
  have HWF:=I hWF
  have Z0:=I z0
  have y3:=yf 0;have y4:=yf 1;have y5:=yf 2
  clear z0 hWF yf KS AT R8 R9 S0 C0 HS S8
  try unfold Dsc.val
  try simp only
  go_wp2
  try simp only [Exit.inBlock,Exit.then]
  change bodyPost _ _ _ _ _ (setCs W9 (w.heap.size+1+1+1+1+1) 0 [.int .i64 (⟨0,0,none,0,[]⟩:Dsc).r,.int .i64 (⟨0,0,none,0,[]⟩:Dsc).c,.slice (⟨0,0,none,0,[]⟩:Dsc).a (⟨0,0,none,0,[]⟩:Dsc).xs.length (⟨0,0,none,0,[]⟩:Dsc).k])
  rw [←HWF.out]
  clear y0 y1 y2 y3 y4 y5
  obtain ⟨-,x0,x1,x2,xf⟩:=G8.out.three
  obtain ⟨-,y0,y1,y2,yf⟩:=G9.out.three
  refine bodyPost_ret (v:=.tuple #[(⟨r1,c1,a1,k1,l1⟩:Dsc).val,(⟨0,0,none,0,[]⟩:Dsc).val]) (by simp [results,Tryz.results96,go_sem,x0,x1,x2,y0,y1,y2,Dsc.val]) rfl ⟨(⟨r1,c1,a1,k1,l1⟩:Dsc),(⟨0,0,none,0,[]⟩:Dsc),rfl,I (⟨by rw [E1.out,HY.out];simp only [bC,Dsc.can];simp only [bO];simp,Or.inr (P8.out _ ZZ1.out)⟩),I (fun h=>absurd h (by decide)),PB.out⟩
end Go.Proofs.YtpadlmidojpbeaaGreat
