/- Joined texts 11. No condition. -/
import Derived.Deep.CutBlock
import Derived.Test.YtpadlmidojpbeaaGreatMc0
import Derived.Test.YtpadlmidojpbeaaGreatMc2
import Derived.Test.YtpadlmidojpbeaaGreatMc7
import Derived.Test.YtpadlmidojpbeaaGreatMc10
set_option linter.unusedVariables false
set_option linter.unusedSimpArgs false
set_option maxRecDepth 100000
set_option maxHeartbeats 64000000
namespace Go.Proofs.YtpadlmidojpbeaaGreat
open Go Go.RowKit
structure Keep2 (g h:Nat) (w w':World):Prop where
 os:w'.os=w.os
 tape:w'.tape=w.tape
 output:w'.output=w.output
 size:w.heap.size≤w'.heap.size
 block:∀k,k < w.heap.size→k≠g→k≠h→w'.heap[k]? = w.heap[k]?
section
variable {g h:Nat} {w w' w2:World}
theorem Keep2.refl (g h:Nat) (w:World):Keep2 g h w w:=⟨rfl,rfl,rfl,J _,fun _ _ _ _=>rfl⟩
theorem Keep2.trans (a:Keep2 g h w w') (b:Keep2 g h w' w2):Keep2 g h w w2 :=
 ⟨b.os.trans a.os,b.tape.trans a.tape,b.output.trans a.output,Nat.le_trans a.size b.size,fun k hk h1 h2=>(b.block k (Nat.lt_of_lt_of_le hk a.size) h1 h2).trans (a.block k hk h1 h2)⟩
theorem Keep2.of_below (hb:Below w.heap.size w w'):Keep2 g h w w':=⟨hb.os,hb.tape,hb.output,hb.size,fun k hk _ _=>hb.block k hk⟩
theorem Keep2.of_touch1 (ht:Touch g (g+1) w w'):Keep2 g h w w':=⟨ht.os,ht.tape,ht.output,ht.size,fun k hk h1 _=>ht.block k hk (by omega)⟩
theorem Keep2.of_touch2 (ht:Touch h (h+1) w w'):Keep2 g h w w':=⟨ht.os,ht.tape,ht.output,ht.size,fun k hk _ h2=>ht.block k hk (by omega)⟩
theorem Keep2.below {B:Nat} {w0:World} (a:Keep2 g h w w') (hb:Below B w0 w) (hB:B≤w.heap.size) (h1:B≤g) (h2:B≤h):Below B w0 w' :=
 ⟨a.os.trans hb.os,a.tape.trans hb.tape,a.output.trans hb.output,Nat.le_trans hb.size a.size,fun k hk=>(a.block k (by omega) (by omega) (by omega)).trans (hb.block k hk)⟩
theorem F32s.keep {a:Option Addr} {k:Nat} {xs:List Nat} (hf:F32s w a k xs) (hk:Keep2 g h w w') (hne:∀b o,a=some ⟨b,o,none⟩→b≠g∧b≠h):F32s w' a k xs :=
 ⟨hf.len,hf.cap,hf.rd.kept hk.size (fun b off e hb=>hk.block b hb (hne b off e).1 (hne b off e).2),hf.lt⟩
theorem BoxN.keep {b:Nat} {vs:List Value} (hx:BoxN w b vs) (hk:Keep2 g h w w') (h1:b≠g) (h2:b≠h):BoxN w' b vs :=
 ⟨Nat.lt_of_lt_of_le hx.lt hk.size,fun j hj=>(World.cell?_of_block (w:=w) (hk.block b hx.lt h1 h2)).trans (hx.at' j hj),fun o=>(World.frozen?_of_block (w:=w) (hk.block b hx.lt h1 h2)).trans (hx.fz o)⟩
end
theorem BoxN.one {w:World} {g:Nat} {a:Value} (h:BoxN w g [a]):g < w.heap.size∧w.cell? ⟨g,0,none⟩=some a∧(∀o,w.frozen? ⟨g,o,none⟩=false):=⟨h.lt,h.at' 0 (by simp),h.fz⟩
theorem Dsc.At.keep {g h:Nat} {w w':World} {t:Dsc} (ht:t.At w) (hk:Keep2 g h w w') (hne:∀b o,t.a=some ⟨b,o,none⟩→b≠g∧b≠h):t.At w':=⟨ht.see.keep hk hne,ht.r1,ht.r2,ht.c1,ht.c2,ht.len⟩
def Dsc.ten (t:Dsc):Ten:=⟨⟨t.r,t.c,t.xs⟩,t.a,t.k⟩
theorem lW {t:Ten} (h:okT t.toTenP.can):∃d:Dsc,t=d.ten:=by
 obtain ⟨⟨r,c,xs⟩,a,k⟩:=t
 obtain ⟨r',c',e1,e2,_⟩:=h.nat
 replace e1:r=r':=e1
 replace e2:c=c':=e2
 subst e1 e2
 exact ⟨⟨r',c',a,k,xs⟩,rfl⟩
theorem Dsc.at_of {t:Dsc} {w:World} (h:okT t.can) (hf:F32s w t.a t.k t.xs):t.At w:=by
 obtain ⟨r',c',e1,e2,h1,h2,h3⟩:=h.nat
 have e3:((t.r:Nat):Int)=r':=e1
 have e4:((t.c:Nat):Int)=c':=e2
 have e5:(t.xs.map (cn .f32)).length=r' * c':=h3
 have e6:t.r=r':=by omega
 have e7:t.c=c':=by omega
 rw [List.length_map] at e5
 exact ⟨hf,by omega,by omega,by omega,by omega,by rw [e5,e6,e7]⟩
section
variable {w w1:World} {B g n cp:Nat} {us:List Ten} {E:List RowD}
theorem kK (h:OwnX bV w B w.heap.size (some ⟨g,0,none⟩) n cp us E) (hB:B≤w.heap.size) (hb:Below w.heap.size w w1) {i:Nat} (hi:i < n) {t:Dsc} (hr:RepF w1 w.heap.size w1.heap.size t.a t.xs.length t.k t.xs) :
  OwnX bV (setCs w1 g (i * 3) t.cells) B (setCs w1 g (i * 3) t.cells).heap.size (some ⟨g,0,none⟩) n cp (us.set i t.ten) E:=by
 have h1:=h.setNew (w1:=w1) (w2:=setCs w1 g (i * 3) t.cells) (hi1:=w1.heap.size) hB hb hi (a:=t.ten) hr.okF hr.ownRow hb.size (fun M hM=>jA hM (i * 3) t.cells)
 exact h1.bounds (J _) (by rw [aU];exact J _)
theorem gK (h:OwnX bV w B w.heap.size (some ⟨g,0,none⟩) n cp us E) {k:Nat} {t:Ten} (hk:us[k]? = some t):(B≤g∧g < w.heap.size) ∧
  (w.cell? ⟨g,k * 3,none⟩=some (.int .i64 t.r)∧w.cell? ⟨g,k * 3+1,none⟩=some (.int .i64 t.c)∧w.cell? ⟨g,k * 3+2,none⟩=some (.slice t.ad t.xs.length t.cap)) ∧
  (∀j,w.frozen? ⟨g,j,none⟩=false)∧F32s w t.ad t.cap t.xs:=by
 obtain ⟨g',e,hr,hc,hf,hx⟩:=pS h.r hk
 cases e
 exact ⟨⟨hr.1,hr.2.2⟩,hc,hf,hx.arg⟩
end
theorem Ai {w:World} {B g h n m cp:Nat} {us:List Ten} {U:List Bool} {E:List RowD} (hx:OwnX bV w B w.heap.size (some ⟨g,0,none⟩) n cp us (dU h m U :: E)) {k:Nat} {t:Ten} (hk:us[k]? = some t) (hl:1≤t.xs.length):∀b o,t.ad=some ⟨b,o,none⟩→b≠g∧b≠h:=by
 intro b o e
 have hm:aK t.ad t.cap t.xs∈us.flatMap bV.inn:=List.mem_flatMap.2 ⟨t,List.mem_of_getElem? hk,List.mem_singleton.2 rfl⟩
 have hown:=hx.own.row _ (List.mem_cons_of_mem _ (List.mem_append_left _ hm))
 have hob:(aK t.ad t.cap t.xs).val.ownBlock=some b:=by
  rcases hown.own.2 with h2 | ⟨g',cap',cur,hv,_⟩
  ·have:t.xs.length=0:=by
    have h3:=hown.own.1
    have h4:=h2.2
    simpa [aK] using h4
   omega
  ·have hv2:Value.slice t.ad t.xs.length t.cap=.slice (some ⟨g',0,none⟩) t.xs.length cap':=hv
   injection hv2 with h5 h6 h7
   rw [e] at h5
   cases h5
   show (Value.slice t.ad t.xs.length t.cap).ownBlock = _
   rw [e];rfl
 refine ⟨fun e1=>?_,fun e1=>?_⟩
 ·have h1:=hx.own.apart (List.mem_append_left _ hm) g rfl
  rw [e1] at hob
  exact h1 hob
 ·subst e1
  have h1:=hx.own.sep
  rw [List.map_cons,List.pairwise_cons,List.map_append,List.pairwise_append] at h1
  exact h1.2.2.2 _ (List.mem_map_of_mem hm) _ (List.mem_map_of_mem (List.mem_cons_self ..)) b hob rfl
theorem qR (w:World) (B g h bo bh n cp:Nat) (us:List Ten) (U:List Bool) (hI:OwnX bV w B w.heap.size (some ⟨g,0,none⟩) n cp us [dU h n U]) (hB:B≤w.heap.size) (hU:U.length=n) (hbo:BoxN w bo [.slice (some ⟨g,0,none⟩) n cp]) (hbh:BoxN w bh [.slice (some ⟨h,0,none⟩) n n])
  (hne:(bo≠g∧bo≠h)∧(bh≠g∧bh≠h)) (hn:n≤48) (i:Nat) (hi:i < n) (t:Dsc) (ht:t.At w) (old:Ten) (ho:us[i]? = some old) (hold:U.getD i false=true→okT old.toTenP.can∧old.toTenP.can.sh=t.can.sh) :
  Calls Tryz.prog 93 #[.int .i64 i,t.val,.pointer (some ⟨bh,0,none⟩),.pointer (some ⟨bo,0,none⟩)] w fun e w'=>e=.returned (.tuple #[])∧Keep2 g h w w'∧∃t':Dsc,Hid (OwnX bV w' B w'.heap.size (some ⟨g,0,none⟩) n cp (us.set i t'.ten) [dU h n (U.set i true)])∧t'.can=bX (U.getD i false) old.toTenP.can t.can:=by
 obtain ⟨tr,tc,ta,tk,tx⟩:=t
 obtain ⟨hhl,hhB,hhc,hhf⟩:=hI.u
 obtain ⟨⟨hgB,hgl⟩,⟨hg0,hg1,hg2⟩,hgf,hgx⟩:=gK hI ho
 have hgh:g≠h:=by
  intro e
  have h1:=hI.own.sep
  rw [List.map_cons,List.pairwise_cons] at h1
  exact h1.1 _ (List.mem_map_of_mem (List.mem_append_right _ (List.mem_singleton.2 rfl))) g rfl (by rw [e];rfl)
 show Calls Tryz.prog 93 #[.int .i64 i,.agg #[.int .i64 tr,.int .i64 tc,.slice ta tx.length tk],.pointer (some ⟨bh,0,none⟩),.pointer (some ⟨bo,0,none⟩)] w _
 have uh:=hhc i (by rw [hU];exact hi)
 have hb1:=aE w (.cells #[.int .i64 tr,.int .i64 tc,.slice ta tx.length tk] 37)
 have PB:=I (BoxN.alloc w #[.int .i64 tr,.int .i64 tc,.slice ta tx.length tk] 37)
 have HBO:=I hbo;have HBH:=I hbh
 have HNE:=I hne;have HGH:=I hgh
 obtain ⟨-,bo0,bof⟩:=hbo.one
 obtain ⟨-,bh0,bhf⟩:=hbh.one
 clear bof bhf hbo hbh hne hgh
 have HI:=I hI;have HT:=I ht;have HOL:=I hold;have HO:=I ho
 have HC:=I (And.intro hg0 (And.intro hg1 (And.intro hg2 hgf)))
 have HL:=I (And.intro hhl (And.intro hhB (And.intro hgl hgB)))
 have HX:=I hgx
 have HHF:=I hhf
 have HB1:=I hb1
 clear hI ht hold hg0 hg1 hg2 hgf hhc hgx hhf hb1 ho hhB hgB
 -- the end,from the world where the part is in its box
 cases hu:U.getD i false
 ·as_aux_lemma =>
  have HV:Hid (Dsc.can ⟨tr,tc,ta,tk,tx⟩=bX false old.toTenP.can (Dsc.can ⟨tr,tc,ta,tk,tx⟩)):=I rfl
  obtain ⟨pr,hpr⟩:∃p,p=tr:=⟨_,rfl⟩
  obtain ⟨pc,hpc⟩:∃p,p=tc:=⟨_,rfl⟩
  obtain ⟨pa,hpa⟩:∃p,p=ta:=⟨_,rfl⟩
  obtain ⟨pk,hpk⟩:∃p,p=tk:=⟨_,rfl⟩
  obtain ⟨px,hpx⟩:∃p,p=tx:=⟨_,rfl⟩
  rw [←hpr,←hpc,←hpa,←hpk,←hpx] at HV HB1 PB HT ⊢
  clear hpr hpc hpa hpk hpx
  have uh':=(HB1.out.cell (p:=⟨h,i,none⟩) HL.out.1).trans uh
  rw [hu] at uh'
  have bh1:=(HBH.out.below HB1.out).one.2.1
  have HUH:=I hu
  clear uh hu HOL bo0 bh0
  go_enter Tryz.func93,Tryz.ntmps93
  go_upto_region 3 with fail
  clear uh' bh1
  have B3:=HB1;have P3:=PB
  have AT3:=I (HT.out.below HB1.out)
  clear HB1 PB HT
  generalize w.alloc (.cells #[.int .i64 pr,.int .i64 pc,.slice pa px.length pk] 37)=w3 at B3 P3 AT3 ⊢
  have e0:=P3.out
  obtain ⟨-,p0,p1,p2,pf⟩:=P3.out.three
  obtain ⟨-,bo1,bof1⟩:=(HBO.out.below B3.out).one
  have S3:Hid ((fun W=>W.cell? ⟨bo,0,none⟩=some (.slice (some ⟨g,0,none⟩) n cp)∧W.cell? ⟨w.heap.size,0,none⟩=some (.int .i64 pr)∧W.cell? ⟨w.heap.size,1,none⟩=some (.int .i64 pc)∧W.cell? ⟨w.heap.size,2,none⟩=some (.slice pa px.length pk)) w3):=I ⟨bo1,p0,p1,p2⟩
  go_upto_region 3 with fail
  clear p0 p1 p2 pf bo1 bof1 e0
  refine aL 5 [3] (fun W=>W.cell? ⟨bo,0,none⟩=some (.slice (some ⟨g,0,none⟩) n cp)∧W.cell? ⟨w.heap.size,0,none⟩=some (.int .i64 pr)∧W.cell? ⟨w.heap.size,1,none⟩=some (.int .i64 pc)∧W.cell? ⟨w.heap.size,2,none⟩=some (.slice pa px.length pk)) (fun _ _ _=>False) (fun f args w1 v w2=>RTen (Dsc.can ⟨pr,pc,pa,pk,px⟩) w1 v w2) (by kernel_rfl) (by kernel_rfl) S3.out (fun W q h=>by simpa using h) ?_
  iterate 3 (refine aD (by rfl) S3.out (fun K hK W hW=>?_);obtain ⟨e0,e1,e2,e3⟩:=hW;go_simp;refine hK _ ?_;clear hK K e0 e1 e2 e3)
  refine aF (by rfl) S3.out (fun K hK q1=>?_)
  go_simp
  have D1:=I (below_drewN (O w3.heap.size w3) q1)
  refine ⟨(gS _ pr pc pa pk px (AT3.out.below D1.out).see AT3.out.nil px.length rfl (by have:=AT3.out.le;simp only at this;omega)).mono (fun e w2 hh=>RTen.of hh rfl),?_⟩
  rintro v w4 hd
  obtain ⟨⟨nr,nc,na,nk,nx⟩,rfl,he,hr,hb⟩:=hd
  have B4:=I (aA (aA B3.out D1.out) hb)
  have P4:=I (P3.out.below (aA D1.out hb))
  have hs4:(fun W=>W.cell? ⟨bo,0,none⟩=some (.slice (some ⟨g,0,none⟩) n cp)∧W.cell? ⟨w.heap.size,0,none⟩=some (.int .i64 pr)∧W.cell? ⟨w.heap.size,1,none⟩=some (.int .i64 pc)∧W.cell? ⟨w.heap.size,2,none⟩=some (.slice pa px.length pk)) w4:=⟨(HBO.out.below B4.out).one.2.1,P4.out.three.2.1,P4.out.three.2.2.1,P4.out.three.2.2.2.1⟩
  have S4:=I hs4
  refine ⟨hs4,hK _ _ ?_⟩
  have E4:=I he;have R4:=I hr
  clear hK K he hr hb hs4
  refine aD (by rfl) S4.out (fun K hK W hW=>?_)
  obtain ⟨e0,e1,e2,e3⟩:=hW
  go_simp
  refine hK _ ?_
  clear hK K e0 e1 e2 e3
  refine aP (fun q9=>?_)
  have B5:=I (below_drewN B4.out q9)
  have R5:Hid (RepF (w4.drewN q9) w.heap.size (w4.drewN q9).heap.size na nx.length nk nx):=I ((R4.out.below (below_drewN (O _ _) q9)).bounds (Nat.le_trans B3.out.size D1.out.size) (by simp))
  have c50:=(B5.out.cell (p:=⟨g,i * 3,none⟩) HL.out.2.2.1).trans HC.out.1
  have c51:=(B5.out.cell (p:=⟨g,i * 3+1,none⟩) HL.out.2.2.1).trans HC.out.2.1
  have c52:=(B5.out.cell (p:=⟨g,i * 3+2,none⟩) HL.out.2.2.1).trans HC.out.2.2.1
  have f5:∀j,(w4.drewN q9).frozen? ⟨g,j,none⟩=false:=fun j=>(B5.out.frozen (p:=⟨g,j,none⟩) HL.out.2.2.1).trans (HC.out.2.2.2 j)
  have H5:=I (HBH.out.below B5.out)
  generalize w4.drewN q9=w5 at B5 R5 c50 c51 c52 f5 H5 ⊢
  have f50:=f5 (i * 3);have f51:=f5 (i * 3+1);have f52:=f5 (i * 3+2)
  have X6:Hid (OwnX bV (setCs w5 g (i * 3) [.int .i64 nr,.int .i64 nc,.slice na nx.length nk]) B (setCs w5 g (i * 3) [.int .i64 nr,.int .i64 nc,.slice na nx.length nk]).heap.size (some ⟨g,0,none⟩) n cp (us.set i (Dsc.ten ⟨nr,nc,na,nk,nx⟩)) [dU h n U]):=I (kK HI.out hB B5.out hi (t:=⟨nr,nc,na,nk,nx⟩) R5.out)
  have K6:Hid (Keep2 g h w (setCs w5 g (i * 3) [.int .i64 nr,.int .i64 nc,.slice na nx.length nk])):=I ((Keep2.of_below B5.out).trans (Keep2.of_touch1 (aB _ _ _ _)))
  have H6:=I (H5.out.touch (aB w5 g (i * 3) [.int .i64 nr,.int .i64 nc,.slice na nx.length nk]) (by have:=HNE.out.2.1;omega))
  clear f5 S3 S4 D1 B4 R4 P4 B5
  try unfold Dsc.val
  try simp only
  go_upto_region 4 with fail
  clear c50 c51 c52 f50 f51 f52
  change Code.wp _ _ _ _ (setCs w5 g (i * 3) [.int .i64 nr,.int .i64 nc,.slice na nx.length nk])
  generalize setCs w5 g (i * 3) [.int .i64 nr,.int .i64 nc,.slice na nx.length nk]=w6 at X6 K6 H6 ⊢
  obtain ⟨-,h60,h6f⟩:=H6.out.one
  obtain ⟨hl6,hB6,hc6,hf6⟩:=X6.out.u
  have u6:=hc6 i (by rw [hU];exact hi)
  have v6:=hf6 i
  have X7:=I (X6.out.setU i)
  have K7:Hid (Keep2 g h w (w6.setCell ⟨h,i,none⟩ (.bool true))):=I (K6.out.trans (Keep2.of_touch2 (aB w6 h i [.bool true])))
  clear hc6 hf6 h6f hB6
  go_wp2
  go_end0
  exact ⟨rfl,K7.out,⟨nr,nc,na,nk,nx⟩,I (by have:=X7.out;exact this.bounds (J _) (by simp [World.setCell])),by rw [E4.out];exact HV.out⟩
 ·as_aux_lemma =>
  obtain ⟨hok,hsh⟩:=HOL.out hu
  obtain ⟨d,rfl⟩:=lW hok
  obtain ⟨dr,dc,da,dk,dx⟩:=d
  have HSH:Hid (dr=tr∧dc=tc):=I (by have:(((dr:Nat):Int),((dc:Nat):Int))=(((tr:Nat):Int),((tc:Nat):Int)):=hsh;simp at this;omega)
  have DT:Hid (∀W,Below w.heap.size w W→(⟨dr,dc,da,dk,dx⟩:Dsc).At W):=I (fun W hb=>Dsc.at_of hok (HX.out.below hb))
  have HUH:=I hu
  have uh':=(HB1.out.cell (p:=⟨h,i,none⟩) HL.out.1).trans uh
  rw [hu] at uh'
  have bh1:=(HBH.out.below HB1.out).one.2.1
  clear uh hu HOL hok hsh bo0 bh0
  go_enter Tryz.func93,Tryz.ntmps93
  go_upto_region 2 with fail
  clear uh' bh1
  generalize w.alloc (.cells #[.int .i64 tr,.int .i64 tc,.slice ta tx.length tk] 37)=w1 at HB1 PB ⊢
  have KS:Hid (∀W,Below w1.heap.size w1 W→(fun W=>W.cell? ⟨bo,0,none⟩=some (.slice (some ⟨g,0,none⟩) n cp)∧(W.cell? ⟨g,i * 3,none⟩=some (.int .i64 dr)∧W.cell? ⟨g,i * 3+1,none⟩=some (.int .i64 dc)∧W.cell? ⟨g,i * 3+2,none⟩=some (.slice da dx.length dk))∧(W.cell? ⟨w.heap.size,0,none⟩=some (.int .i64 tr)∧W.cell? ⟨w.heap.size,1,none⟩=some (.int .i64 tc)∧W.cell? ⟨w.heap.size,2,none⟩=some (.slice ta tx.length tk))) W):=I (fun W hb=>⟨(HBO.out.below (aA HB1.out hb)).one.2.1,⟨((aA HB1.out hb).cell (p:=⟨g,i * 3,none⟩) HL.out.2.2.1).trans HC.out.1,((aA HB1.out hb).cell (p:=⟨g,i * 3+1,none⟩) HL.out.2.2.1).trans HC.out.2.1,((aA HB1.out hb).cell (p:=⟨g,i * 3+2,none⟩) HL.out.2.2.1).trans HC.out.2.2.1⟩,(PB.out.below hb).three.2.imp_right (fun h=>h.imp_right And.left)⟩)
  have S0:=I (KS.out w1 (O _ _))
  refine aL 6 [5] (fun W=>W.cell? ⟨bo,0,none⟩=some (.slice (some ⟨g,0,none⟩) n cp)∧(W.cell? ⟨g,i * 3,none⟩=some (.int .i64 dr)∧W.cell? ⟨g,i * 3+1,none⟩=some (.int .i64 dc)∧W.cell? ⟨g,i * 3+2,none⟩=some (.slice da dx.length dk))∧(W.cell? ⟨w.heap.size,0,none⟩=some (.int .i64 tr)∧W.cell? ⟨w.heap.size,1,none⟩=some (.int .i64 tc)∧W.cell? ⟨w.heap.size,2,none⟩=some (.slice ta tx.length tk))) (fun _ _ _=>False) DAll (by kernel_rfl) (by kernel_rfl) S0.out (fun W q h=>by simpa using h) ?_
  iterate 5 (refine aD (by rfl) S0.out (fun K hK W hW=>?_);obtain ⟨e0,⟨e1,e2,e3⟩,e4,e5,e6⟩:=hW;go_simp;refine hK _ ?_;clear hK K e0 e1 e2 e3 e4 e5 e6)
  refine aF (by rfl) S0.out (fun K hK q0=>?_)
  go_simp
  have D0:=I (below_drewN (O w1.heap.size w1) q0)
  have A1:=I (DT.out _ (aA HB1.out D0.out));have A2:=I (HT.out.below (aA HB1.out D0.out))
  refine ⟨(mE (t:=⟨dr,dc,da,dk,dx⟩) (u:=⟨tr,tc,ta,tk,tx⟩) A1.out A2.out HSH.out.1 HSH.out.2),?_⟩
  rintro v w2 hd
  obtain ⟨⟨pr,pc,pa,pk,px⟩,rfl,he,ha,hr,hb⟩:=(DAll.addTensors (t:=⟨dr,dc,da,dk,dx⟩) (u:=⟨tr,tc,ta,tk,tx⟩) hd A1.out A2.out).at' (kG A1.out.okT).1
  have C2:=I (aA D0.out hb)
  have hs2:=KS.out w2 C2.out
  refine ⟨hs2,hK _ _ ?_⟩
  have HV:Hid (Dsc.can ⟨pr,pc,pa,pk,px⟩=bX true (Dsc.ten ⟨dr,dc,da,dk,dx⟩).toTenP.can (Dsc.can ⟨tr,tc,ta,tk,tx⟩)):=I he
  have A4:=I ha
  have RZ:=I hr
  have HZD:Hid (w1.heap.size≤(w1.drewN q0).heap.size):=I D0.out.size
  clear hK K hd he ha hr hb hs2 A1 A2
  refine aP (fun q1=>?_)
  obtain ⟨-,p0,p1,p2,pf⟩:=(PB.out.below (aA C2.out (below_drewN (O _ _) q1))).three
  have B2:=I (aA HB1.out (aA C2.out (below_drewN (O _ _) q1)))
  have A5:=I (RZ.out.below (below_drewN (O _ _) q1));have P5:=I (PB.out.below (aA C2.out (below_drewN (O _ _) q1)))
  have HO5:=I A4.out.okT
  have HZ5:=I (show w2.heap.size≤(w2.drewN q1).heap.size by simp)
  generalize w2.drewN q1=w2' at p0 p1 p2 pf B2 A5 P5 HZ5 ⊢
  have pf0:=pf 0;have pf1:=pf 1;have pf2:=pf 2
  clear pf
  try unfold Dsc.val
  try simp only
  go_upto_region 3 with fail
  change Code.wp _ _ _ _ (setCs w2' w.heap.size 0 [.int .i64 pr,.int .i64 pc,.slice pa px.length pk])
  have B3:Hid (Below w.heap.size w (setCs w2' w.heap.size 0 [.int .i64 pr,.int .i64 pc,.slice pa px.length pk])):=I (aG B2.out (J _) 0 _)
  have P3:Hid (BoxN (setCs w2' w.heap.size 0 [.int .i64 pr,.int .i64 pc,.slice pa px.length pk]) w.heap.size [.int .i64 pr,.int .i64 pc,.slice pa px.length pk]):=I P5.out.set3
  have AT3:Hid ((⟨pr,pc,pa,pk,px⟩:Dsc).At (setCs w2' w.heap.size 0 [.int .i64 pr,.int .i64 pc,.slice pa px.length pk])):=I (Dsc.at_of HO5.out (A5.out.touch (aB w2' w.heap.size 0 _) (.inr (by have:=HZD.out;have:=PB.out.lt;omega))).arg)
  clear p0 p1 p2 pf0 pf1 pf2 B2 A5 P5 HZ5 A4 RZ HZD C2 D0 S0 KS HT DT HSH HB1 PB
  generalize setCs w2' w.heap.size 0 [.int .i64 pr,.int .i64 pc,.slice pa px.length pk]=w3 at B3 P3 AT3 ⊢
  have e0:=P3.out
  obtain ⟨-,p0,p1,p2,pf⟩:=P3.out.three
  obtain ⟨-,bo1,bof1⟩:=(HBO.out.below B3.out).one
  have S3:Hid ((fun W=>W.cell? ⟨bo,0,none⟩=some (.slice (some ⟨g,0,none⟩) n cp)∧W.cell? ⟨w.heap.size,0,none⟩=some (.int .i64 pr)∧W.cell? ⟨w.heap.size,1,none⟩=some (.int .i64 pc)∧W.cell? ⟨w.heap.size,2,none⟩=some (.slice pa px.length pk)) w3):=I ⟨bo1,p0,p1,p2⟩
  go_upto_region 3 with fail
  clear p0 p1 p2 pf bo1 bof1 e0
  refine aL 5 [3] (fun W=>W.cell? ⟨bo,0,none⟩=some (.slice (some ⟨g,0,none⟩) n cp)∧W.cell? ⟨w.heap.size,0,none⟩=some (.int .i64 pr)∧W.cell? ⟨w.heap.size,1,none⟩=some (.int .i64 pc)∧W.cell? ⟨w.heap.size,2,none⟩=some (.slice pa px.length pk)) (fun _ _ _=>False) (fun f args w1 v w2=>RTen (Dsc.can ⟨pr,pc,pa,pk,px⟩) w1 v w2) (by kernel_rfl) (by kernel_rfl) S3.out (fun W q h=>by simpa using h) ?_
  iterate 3 (refine aD (by rfl) S3.out (fun K hK W hW=>?_);obtain ⟨e0,e1,e2,e3⟩:=hW;go_simp;refine hK _ ?_;clear hK K e0 e1 e2 e3)
  refine aF (by rfl) S3.out (fun K hK q1=>?_)
  go_simp
  have D1:=I (below_drewN (O w3.heap.size w3) q1)
  refine ⟨(gS _ pr pc pa pk px (AT3.out.below D1.out).see AT3.out.nil px.length rfl (by have:=AT3.out.le;simp only at this;omega)).mono (fun e w2 hh=>RTen.of hh rfl),?_⟩
  rintro v w4 hd
  obtain ⟨⟨nr,nc,na,nk,nx⟩,rfl,he,hr,hb⟩:=hd
  have B4:=I (aA (aA B3.out D1.out) hb)
  have P4:=I (P3.out.below (aA D1.out hb))
  have hs4:(fun W=>W.cell? ⟨bo,0,none⟩=some (.slice (some ⟨g,0,none⟩) n cp)∧W.cell? ⟨w.heap.size,0,none⟩=some (.int .i64 pr)∧W.cell? ⟨w.heap.size,1,none⟩=some (.int .i64 pc)∧W.cell? ⟨w.heap.size,2,none⟩=some (.slice pa px.length pk)) w4:=⟨(HBO.out.below B4.out).one.2.1,P4.out.three.2.1,P4.out.three.2.2.1,P4.out.three.2.2.2.1⟩
  have S4:=I hs4
  refine ⟨hs4,hK _ _ ?_⟩
  have E4:=I he;have R4:=I hr
  clear hK K he hr hb hs4
  refine aD (by rfl) S4.out (fun K hK W hW=>?_)
  obtain ⟨e0,e1,e2,e3⟩:=hW
  go_simp
  refine hK _ ?_
  clear hK K e0 e1 e2 e3
  refine aP (fun q9=>?_)
  have B5:=I (below_drewN B4.out q9)
  have R5:Hid (RepF (w4.drewN q9) w.heap.size (w4.drewN q9).heap.size na nx.length nk nx):=I ((R4.out.below (below_drewN (O _ _) q9)).bounds (Nat.le_trans B3.out.size D1.out.size) (by simp))
  have c50:=(B5.out.cell (p:=⟨g,i * 3,none⟩) HL.out.2.2.1).trans HC.out.1
  have c51:=(B5.out.cell (p:=⟨g,i * 3+1,none⟩) HL.out.2.2.1).trans HC.out.2.1
  have c52:=(B5.out.cell (p:=⟨g,i * 3+2,none⟩) HL.out.2.2.1).trans HC.out.2.2.1
  have f5:∀j,(w4.drewN q9).frozen? ⟨g,j,none⟩=false:=fun j=>(B5.out.frozen (p:=⟨g,j,none⟩) HL.out.2.2.1).trans (HC.out.2.2.2 j)
  have H5:=I (HBH.out.below B5.out)
  generalize w4.drewN q9=w5 at B5 R5 c50 c51 c52 f5 H5 ⊢
  have f50:=f5 (i * 3);have f51:=f5 (i * 3+1);have f52:=f5 (i * 3+2)
  have X6:Hid (OwnX bV (setCs w5 g (i * 3) [.int .i64 nr,.int .i64 nc,.slice na nx.length nk]) B (setCs w5 g (i * 3) [.int .i64 nr,.int .i64 nc,.slice na nx.length nk]).heap.size (some ⟨g,0,none⟩) n cp (us.set i (Dsc.ten ⟨nr,nc,na,nk,nx⟩)) [dU h n U]):=I (kK HI.out hB B5.out hi (t:=⟨nr,nc,na,nk,nx⟩) R5.out)
  have K6:Hid (Keep2 g h w (setCs w5 g (i * 3) [.int .i64 nr,.int .i64 nc,.slice na nx.length nk])):=I ((Keep2.of_below B5.out).trans (Keep2.of_touch1 (aB _ _ _ _)))
  have H6:=I (H5.out.touch (aB w5 g (i * 3) [.int .i64 nr,.int .i64 nc,.slice na nx.length nk]) (by have:=HNE.out.2.1;omega))
  clear f5 S3 S4 D1 B4 R4 P4 B5
  try unfold Dsc.val
  try simp only
  go_upto_region 4 with fail
  clear c50 c51 c52 f50 f51 f52
  change Code.wp _ _ _ _ (setCs w5 g (i * 3) [.int .i64 nr,.int .i64 nc,.slice na nx.length nk])
  generalize setCs w5 g (i * 3) [.int .i64 nr,.int .i64 nc,.slice na nx.length nk]=w6 at X6 K6 H6 ⊢
  obtain ⟨-,h60,h6f⟩:=H6.out.one
  obtain ⟨hl6,hB6,hc6,hf6⟩:=X6.out.u
  have u6:=hc6 i (by rw [hU];exact hi)
  have v6:=hf6 i
  have X7:=I (X6.out.setU i)
  have K7:Hid (Keep2 g h w (w6.setCell ⟨h,i,none⟩ (.bool true))):=I (K6.out.trans (Keep2.of_touch2 (aB w6 h i [.bool true])))
  clear hc6 hf6 h6f hB6
  go_wp2
  go_end0
  exact ⟨rfl,K7.out,⟨nr,nc,na,nk,nx⟩,I (by have:=X7.out;exact this.bounds (J _) (by simp [World.setCell])),by rw [E4.out];exact HV.out⟩
def GotL (T:TenP) (G:Dsc) (lo:Nat) (w':World) (t:Dsc):Prop:=t.can=T∧(t=G∨RepF w' lo w'.heap.size t.a t.xs.length t.k t.xs)
theorem GotL.of {T:TenP} {G t:Dsc} {w w':World} {lo:Nat} (h:wO T G w w' t) (hl:lo≤w.heap.size):GotL T G lo w' t:=⟨h.1,h.2.imp id (fun h=>h.bounds hl (J _))⟩
theorem GotL.to {T:TenP} {G t:Dsc} {w w':World} {lo:Nat} (h:GotL T G lo w' t) (hl:w.heap.size≤lo):wO T G w w' t:=⟨h.1,h.2.imp id (fun h=>h.bounds hl (J _))⟩
theorem GotL.alloc {T:TenP} {G t:Dsc} {w:World} {lo:Nat} (h:GotL T G lo w t) (o:Obj):GotL T G lo (w.alloc o) t:=⟨h.1,h.2.imp id (fun h=>(h.below (aE w o)).bounds (J _) (by simp))⟩
def nF (wq:World) (T1 T2:TenP) (G:Dsc) (two:Bool) (wz:World) (ba bb:Nat) (t u:Dsc):Prop:=(BoxN wz ba t.cells∧BoxN wz bb u.cells)∧(wq.heap.size≤ba∧wq.heap.size≤bb)∧Below wq.heap.size wq wz∧wO T1 G wq wz t∧(two=true→wO T2 G wq wz u)
theorem GotL.setCs {T:TenP} {G t:Dsc} {w:World} {lo g:Nat} (h:GotL T G lo w t) (k:Nat) (vs:List Value) (hg:g < lo):GotL T G lo (setCs w g k vs) t:=⟨h.1,h.2.imp id (fun h=>(h.touch (aB w g k vs) (.inr (by omega))).bounds (J _) (by rw [aU];exact J _))⟩
section
variable {wq w5:World} {T1 T2:TenP} {G:Dsc} {two:Bool} {tr tc tk ur uc uk:Nat} {ta ua:Option Addr} {tx ux:List Nat}
theorem ER (hb:Below wq.heap.size wq w5) (ht:GotL T1 G wq.heap.size w5 ⟨tr,tc,ta,tk,tx⟩) (hu:two=true→GotL T2 G wq.heap.size w5 ⟨ur,uc,ua,uk,ux⟩) :
  nF wq T1 T2 G two ((w5.alloc (.cells #[.int .i64 tr,.int .i64 tc,.slice ta tx.length tk] 37)).alloc (.cells #[.int .i64 ur,.int .i64 uc,.slice ua ux.length uk] 37)) w5.heap.size (w5.heap.size+1) ⟨tr,tc,ta,tk,tx⟩ ⟨ur,uc,ua,uk,ux⟩ :=
 ⟨⟨(BoxN.alloc w5 #[.int .i64 tr,.int .i64 tc,.slice ta tx.length tk] 37).below (aE _ _),BoxN.alloc2 w5 _ #[.int .i64 ur,.int .i64 uc,.slice ua ux.length uk] 37⟩,⟨hb.size,Nat.le_succ_of_le hb.size⟩,aA hb (bZ w5 _ _),((ht.alloc _).alloc _).to (J _),fun h=>(((hu h).alloc _).alloc _).to (J _)⟩
theorem ES (hb:Below wq.heap.size wq w5) (ht:GotL T1 G wq.heap.size w5 ⟨tr,tc,ta,tk,tx⟩) (hu:two=true→GotL T2 G wq.heap.size w5 ⟨ur,uc,ua,uk,ux⟩) :
  nF wq T1 T2 G two ((w5.alloc (.cells #[.int .i64 ur,.int .i64 uc,.slice ua ux.length uk] 37)).alloc (.cells #[.int .i64 tr,.int .i64 tc,.slice ta tx.length tk] 37)) (w5.heap.size+1) w5.heap.size ⟨tr,tc,ta,tk,tx⟩ ⟨ur,uc,ua,uk,ux⟩ :=
 ⟨⟨BoxN.alloc2 w5 _ #[.int .i64 tr,.int .i64 tc,.slice ta tx.length tk] 37,(BoxN.alloc w5 #[.int .i64 ur,.int .i64 uc,.slice ua ux.length uk] 37).below (aE _ _)⟩,⟨Nat.le_succ_of_le hb.size,hb.size⟩,aA hb (bZ w5 _ _),((ht.alloc _).alloc _).to (J _),fun h=>(((hu h).alloc _).alloc _).to (J _)⟩
theorem ET (hb:Below wq.heap.size wq w5) (hz:BoxN w5 wq.heap.size [.int .i64 0,.int .i64 0,.slice none 0 0]) (ht:GotL T1 G (wq.heap.size+1) w5 ⟨tr,tc,ta,tk,tx⟩) (hu:two=true→GotL T2 G (wq.heap.size+1) w5 ⟨ur,uc,ua,uk,ux⟩) :
  nF wq T1 T2 G two ((((w5.setCell ⟨wq.heap.size,0,none⟩ (.int .i64 tr)).setCell ⟨wq.heap.size,1,none⟩ (.int .i64 tc)).setCell ⟨wq.heap.size,2,none⟩ (.slice ta tx.length tk)).alloc (.cells #[.int .i64 ur,.int .i64 uc,.slice ua ux.length uk] 37)) wq.heap.size w5.heap.size ⟨tr,tc,ta,tk,tx⟩ ⟨ur,uc,ua,uk,ux⟩:=by
 show nF wq T1 T2 G two ((setCs w5 wq.heap.size 0 [.int .i64 tr,.int .i64 tc,.slice ta tx.length tk]).alloc (.cells #[.int .i64 ur,.int .i64 uc,.slice ua ux.length uk] 37)) _ _ _ _
 have h2:=BoxN.alloc (setCs w5 wq.heap.size 0 [.int .i64 tr,.int .i64 tc,.slice ta tx.length tk]) #[.int .i64 ur,.int .i64 uc,.slice ua ux.length uk] 37
 rw [aU] at h2
 exact ⟨⟨(hz.set3 (x:=.int .i64 tr) (y:=.int .i64 tc) (z:=.slice ta tx.length tk)).below (aE _ _),h2⟩,⟨J _,hb.size⟩,aA (aG hb (J _) 0 [.int .i64 tr,.int .i64 tc,.slice ta tx.length tk]) (aE _ _),((ht.setCs 0 [.int .i64 tr,.int .i64 tc,.slice ta tx.length tk] (Nat.lt_succ_self _)).alloc _).to (Nat.le_succ _),fun h=>(((hu h).setCs 0 [.int .i64 tr,.int .i64 tc,.slice ta tx.length tk] (Nat.lt_succ_self _)).alloc _).to (Nat.le_succ _)⟩
theorem EU (hb:Below wq.heap.size wq w5) (hz:BoxN w5 wq.heap.size [.int .i64 0,.int .i64 0,.slice none 0 0]) (ht:GotL T1 G (wq.heap.size+1) w5 ⟨tr,tc,ta,tk,tx⟩) (hu:two=true→GotL T2 G (wq.heap.size+1) w5 ⟨ur,uc,ua,uk,ux⟩) :
  nF wq T1 T2 G two ((((w5.setCell ⟨wq.heap.size,0,none⟩ (.int .i64 ur)).setCell ⟨wq.heap.size,1,none⟩ (.int .i64 uc)).setCell ⟨wq.heap.size,2,none⟩ (.slice ua ux.length uk)).alloc (.cells #[.int .i64 tr,.int .i64 tc,.slice ta tx.length tk] 37)) w5.heap.size wq.heap.size ⟨tr,tc,ta,tk,tx⟩ ⟨ur,uc,ua,uk,ux⟩:=by
 show nF wq T1 T2 G two ((setCs w5 wq.heap.size 0 [.int .i64 ur,.int .i64 uc,.slice ua ux.length uk]).alloc (.cells #[.int .i64 tr,.int .i64 tc,.slice ta tx.length tk] 37)) _ _ _ _
 have h2:=BoxN.alloc (setCs w5 wq.heap.size 0 [.int .i64 ur,.int .i64 uc,.slice ua ux.length uk]) #[.int .i64 tr,.int .i64 tc,.slice ta tx.length tk] 37
 rw [aU] at h2
 exact ⟨⟨h2,(hz.set3 (x:=.int .i64 ur) (y:=.int .i64 uc) (z:=.slice ua ux.length uk)).below (aE _ _)⟩,⟨hb.size,J _⟩,aA (aG hb (J _) 0 [.int .i64 ur,.int .i64 uc,.slice ua ux.length uk]) (aE _ _),((ht.setCs 0 [.int .i64 ur,.int .i64 uc,.slice ua ux.length uk] (Nat.lt_succ_self _)).alloc _).to (Nat.le_succ _),fun h=>(((hu h).setCs 0 [.int .i64 ur,.int .i64 uc,.slice ua ux.length uk] (Nat.lt_succ_self _)).alloc _).to (Nat.le_succ _)⟩
theorem EV (hb:Below wq.heap.size wq w5) (hz:BoxN w5 wq.heap.size [.int .i64 0,.int .i64 0,.slice none 0 0]) (hy:BoxN w5 (wq.heap.size+1) [.int .i64 0,.int .i64 0,.slice none 0 0]) (ht:GotL T1 G (wq.heap.size+2) w5 ⟨tr,tc,ta,tk,tx⟩) (hu:two=true→GotL T2 G (wq.heap.size+2) w5 ⟨ur,uc,ua,uk,ux⟩) :
  nF wq T1 T2 G two ((((((w5.setCell ⟨wq.heap.size,0,none⟩ (.int .i64 tr)).setCell ⟨wq.heap.size,1,none⟩ (.int .i64 tc)).setCell ⟨wq.heap.size,2,none⟩ (.slice ta tx.length tk)).setCell ⟨wq.heap.size+1,0,none⟩ (.int .i64 ur)).setCell ⟨wq.heap.size+1,1,none⟩ (.int .i64 uc)).setCell ⟨wq.heap.size+1,2,none⟩ (.slice ua ux.length uk)) wq.heap.size (wq.heap.size+1) ⟨tr,tc,ta,tk,tx⟩ ⟨ur,uc,ua,uk,ux⟩:=by
 show nF wq T1 T2 G two (setCs (setCs w5 wq.heap.size 0 [.int .i64 tr,.int .i64 tc,.slice ta tx.length tk]) (wq.heap.size+1) 0 [.int .i64 ur,.int .i64 uc,.slice ua ux.length uk]) _ _ _ _
 have h1:=(hz.set3 (x:=.int .i64 tr) (y:=.int .i64 tc) (z:=.slice ta tx.length tk)).touch (aB _ (wq.heap.size+1) 0 [.int .i64 ur,.int .i64 uc,.slice ua ux.length uk]) (.inl (Nat.lt_succ_self _))
 have h2:=(hy.touch (aB w5 wq.heap.size 0 [.int .i64 tr,.int .i64 tc,.slice ta tx.length tk]) (.inr (J _))).set3 (x:=.int .i64 ur) (y:=.int .i64 uc) (z:=.slice ua ux.length uk)
 exact ⟨⟨h1,h2⟩,⟨J _,Nat.le_succ _⟩,aG (aG hb (J _) 0 [.int .i64 tr,.int .i64 tc,.slice ta tx.length tk]) (Nat.le_succ _) 0 [.int .i64 ur,.int .i64 uc,.slice ua ux.length uk],((ht.setCs 0 [.int .i64 tr,.int .i64 tc,.slice ta tx.length tk] (show wq.heap.size < _ by omega)).setCs 0 [.int .i64 ur,.int .i64 uc,.slice ua ux.length uk] (show wq.heap.size+1 < _ by omega)).to (by omega),fun h=>(((hu h).setCs 0 [.int .i64 tr,.int .i64 tc,.slice ta tx.length tk] (show wq.heap.size < _ by omega)).setCs 0 [.int .i64 ur,.int .i64 uc,.slice ua ux.length uk] (show wq.heap.size+1 < _ by omega)).to (by omega)⟩
theorem EW (hb:Below wq.heap.size wq w5) (hz:BoxN w5 wq.heap.size [.int .i64 0,.int .i64 0,.slice none 0 0]) (hy:BoxN w5 (wq.heap.size+1) [.int .i64 0,.int .i64 0,.slice none 0 0]) (ht:GotL T1 G (wq.heap.size+2) w5 ⟨tr,tc,ta,tk,tx⟩) (hu:two=true→GotL T2 G (wq.heap.size+2) w5 ⟨ur,uc,ua,uk,ux⟩) :
  nF wq T1 T2 G two ((((((w5.setCell ⟨wq.heap.size+1,0,none⟩ (.int .i64 tr)).setCell ⟨wq.heap.size+1,1,none⟩ (.int .i64 tc)).setCell ⟨wq.heap.size+1,2,none⟩ (.slice ta tx.length tk)).setCell ⟨wq.heap.size,0,none⟩ (.int .i64 ur)).setCell ⟨wq.heap.size,1,none⟩ (.int .i64 uc)).setCell ⟨wq.heap.size,2,none⟩ (.slice ua ux.length uk)) (wq.heap.size+1) wq.heap.size ⟨tr,tc,ta,tk,tx⟩ ⟨ur,uc,ua,uk,ux⟩:=by
 show nF wq T1 T2 G two (setCs (setCs w5 (wq.heap.size+1) 0 [.int .i64 tr,.int .i64 tc,.slice ta tx.length tk]) wq.heap.size 0 [.int .i64 ur,.int .i64 uc,.slice ua ux.length uk]) _ _ _ _
 have h1:=(hy.set3 (x:=.int .i64 tr) (y:=.int .i64 tc) (z:=.slice ta tx.length tk)).touch (aB _ wq.heap.size 0 [.int .i64 ur,.int .i64 uc,.slice ua ux.length uk]) (.inr (J _))
 have h2:=(hz.touch (aB w5 (wq.heap.size+1) 0 [.int .i64 tr,.int .i64 tc,.slice ta tx.length tk]) (.inl (Nat.lt_succ_self _))).set3 (x:=.int .i64 ur) (y:=.int .i64 uc) (z:=.slice ua ux.length uk)
 exact ⟨⟨h1,h2⟩,⟨Nat.le_succ _,J _⟩,aG (aG hb (Nat.le_succ _) 0 [.int .i64 tr,.int .i64 tc,.slice ta tx.length tk]) (J _) 0 [.int .i64 ur,.int .i64 uc,.slice ua ux.length uk],((ht.setCs 0 [.int .i64 tr,.int .i64 tc,.slice ta tx.length tk] (show wq.heap.size+1 < _ by omega)).setCs 0 [.int .i64 ur,.int .i64 uc,.slice ua ux.length uk] (show wq.heap.size < _ by omega)).to (by omega),fun h=>(((hu h).setCs 0 [.int .i64 tr,.int .i64 tc,.slice ta tx.length tk] (show wq.heap.size+1 < _ by omega)).setCs 0 [.int .i64 ur,.int .i64 uc,.slice ua ux.length uk] (show wq.heap.size < _ by omega)).to (by omega)⟩
end
def RelG (us:List Ten) (G:List TenP) (n:Nat) (P:Nat→Prop):Prop:=∀q,q < n→P q→∃t,us[q]? = some t∧t.toTenP.can=aH G (q:Int)
theorem RelG.set {us:List Ten} {G:List TenP} {n:Nat} {P:Nat→Prop} (h:RelG us G n P) {i:Nat} (hi:i < us.length) (hg:i < G.length) {t:Ten} {T:TenP} (ht:t.toTenP.can=T):RelG (us.set i t) (G.set i T) n (fun q=>q=i∨P q):=by
 intro q hq hp
 rw [Ae hg,List.getElem?_set]
 by_cases e:i=q
 ·subst e
  rw [if_pos rfl,if_pos hi,if_pos rfl]
  exact ⟨t,rfl,ht⟩
 ·rw [if_neg e,if_neg e]
  rcases hp with rfl | hp
  ·exact absurd rfl e
  ·exact h q hq hp
theorem RelG.mono {us:List Ten} {G:List TenP} {n:Nat} {P Q:Nat→Prop} (h:RelG us G n P) (hq:∀q,q < n→Q q→P q):RelG us G n Q:=fun q h1 h2=>h q h1 (hq q h1 h2)
theorem RelG.all {us:List Ten} {G:List TenP} {n:Nat} {P:Nat→Prop} (h:RelG us G n P) (hl:us.length=n) (hg:G.length=n) (hp:∀q,q < n→P q):us.map (fun t=>t.toTenP.can)=G:=by
 refine List.ext_getElem (by rw [List.length_map,hl,hg]) fun q h1 h2=>?_
 rw [List.length_map] at h1
 obtain ⟨t,ht,hc⟩:=h q (by omega) (hp q (by omega))
 rw [List.getElem?_eq_getElem h1] at ht
 cases ht
 rw [List.getElem_map,hc,fF h2]
theorem kL {U:List Bool} {i j:Nat} (hi:i < U.length):(U.set i true).getD j false=(if i=j then true else U.getD j false):=by
 rw [List.getD_eq_getElem?_getD,List.getElem?_set]
 by_cases e:i=j
 ·rw [if_pos e,if_pos hi,if_pos e];rfl
 ·rw [if_neg e,if_neg e,←List.getD_eq_getElem?_getD]
theorem RepF.far {w:World} {lo hi n cap:Nat} {ad:Option Addr} {xs:List Nat} (h:RepF w lo hi ad n cap xs) (hl:1≤xs.length):∀b o,ad=some ⟨b,o,none⟩→lo≤b:=by
 intro b o e
 subst e
 rcases h.row.own.2 with ⟨h2,h3⟩ | ⟨g',cap',cur,hv,hg,_⟩
 ·have:=h.len
  injection h2 with h4 h5 h6
  cases h4
 ·injection hv with h5 h6 h7
  cases h5
  exact hg
def hJ:Ten:=⟨⟨0,0,[]⟩,none,0⟩
def EX (F1 F2:FuncId) (T:TenP) (g h:Nat) (Q:World→Prop) (f:FuncId) (args:Array Value) (w1:World) (v:Value) (w2:World):Prop:=(f=F1→RTen T w1 v w2)∧(f=F2→v=.tuple #[]∧Keep2 g h w1 w2∧Q w2)
theorem Aj {w:World} {ad:Option Addr} {cap:Nat} {vs:List Ten} (hv:SeeR bV w ad cap vs) {V:List TenP} (hV:vs.map (fun t=>t.toTenP.can)=V) (hok:∀t∈V,okT t) {i:Nat} (hi:i < V.length):∃d:Dsc,vs[i]? = some d.ten∧d.can=aH V (i:Int)∧d.At w∧∃b off,ad=some ⟨b,off,none⟩∧b < w.heap.size ∧
  (w.cell? ⟨b,off+i * 3,none⟩=some (.int .i64 d.r)∧w.cell? ⟨b,off+i * 3+1,none⟩=some (.int .i64 d.c)∧w.cell? ⟨b,off+i * 3+2,none⟩=some (.slice d.a d.xs.length d.k)):=by
 have hl:vs.length=V.length:=by rw [←hV,List.length_map]
 obtain ⟨t,ht⟩:=getElem?_lt (show i < vs.length by omega)
 have hc:t.toTenP.can=aH V (i:Int):=by
  rw [fF hi]
  have h1:(vs.map (fun t=>t.toTenP.can))[i]? = some t.toTenP.can:=by rw [List.getElem?_map,ht];rfl
  rw [hV,List.getElem?_eq_getElem hi] at h1
  exact (Option.some.inj h1).symm
 have hk:okT t.toTenP.can:=by rw [hc];exact pR hok (by omega) (by omega)
 obtain ⟨d,rfl⟩:=lW hk
 obtain ⟨b,off,e,hb,hcell,hf⟩:=mZ hv ht
 exact ⟨d,ht,hc,Dsc.at_of hk hf,b,off,e,hb,hcell⟩
theorem uG (w:World) (ad av:Option Addr) (cap cv:Nat) (os:List OpD) (vs:List Ten) (ho:SeeR lI w ad cap os) (hv:SeeR bV w av cv vs) (S:List Sh) (hS:cH (os.map OpD.toOpP)=some S) (hV:vs.map (fun t=>t.toTenP.can)=bJ (os.map OpD.toOpP)) :
  Calls Tryz.prog 70 #[.slice ad os.length cap,.slice av os.length cv] w fun e w' => ∃ad' cap' us,e=.returned (.slice ad' os.length cap')∧Hid (OwnR bV w' w.heap.size w'.heap.size ad' os.length cap' us∧us.map (fun t=>t.toTenP.can)=cW (os.map OpD.toOpP))∧Below w.heap.size w w':=by
 obtain ⟨i0,hi0,hz0,hzs,hz2⟩:=info_parts pF
 obtain ⟨j0,hj0,hy0,hy1,hy2⟩:=info_parts wB
 have hp:=cE hS
 have HOK:=I (fun m hm=>OkG.at hS m hm)
 obtain ⟨hVl,hVok⟩:=jS hS
 rw [List.length_map] at hp hVl HOK
 have HRD:=I (fun (i:Nat) (o:OpP) (h:(os.map OpD.toOpP)[i]? = some o)=>(And.intro (kN hS h) (oO hS h):fJ i o=true∧(o.k≠0→∃s,aQ o.k (aH (bJ (os.map OpD.toOpP)) o.a).sh (aH (bJ (os.map OpD.toOpP)) o.b).sh=some s∧(aH (bJ (os.map OpD.toOpP)) (i:Int)).sh=s)))
 have HPL:Hid ((os.map OpD.toOpP).length=os.length):=I (List.length_map _)
 have HPO:Hid (∀(i:Nat) (o:OpD),os[i]? = some o→(os.map OpD.toOpP)[i]? = some o.toOpP):=I (fun i o h=>by rw [List.getElem?_map,h];rfl)
 have HGP:Hid (cW (os.map OpD.toOpP)=cV (os.map OpD.toOpP) (bJ (os.map OpD.toOpP)) os.length):=I (by unfold cW;rw [List.length_map])
 obtain ⟨V,hVV⟩:∃V,V=bJ (os.map OpD.toOpP):=⟨_,rfl⟩
 rw [←hVV] at hV hVl hVok HOK HRD HGP
 obtain ⟨p,hpp⟩:∃p,p=os.map OpD.toOpP:=⟨_,rfl⟩
 rw [←hpp] at HOK HRD HPL HPO HGP ⊢
 obtain ⟨n,hN⟩:∃n,n=os.length:=⟨_,rfl⟩
 rw [←hN] at hp hVl HOK HPL HGP ⊢
 have hn1:=hp.1.1;have hn2:=hp.1.2
 have HN:=I hN;have H:=I ho;have HV:=I hv
 have HVS:=I (fun W (hb:Below w.heap.size w W) (i:Nat) (hi:i < n)=>Aj (hv.below hb) hV hVok (show i < V.length by omega))
 obtain ⟨vb,voff,rfl,HVB⟩:∃vb voff,av=some ⟨vb,voff,none⟩∧Hid (vb < w.heap.size):=by
  obtain ⟨d,_,_,_,b',off',e,hb',_⟩:=HVS.out w (O _ _) 0 (by omega)
  exact ⟨b',off',e,I hb'⟩
 replace HVS:Hid (∀W,Below w.heap.size w W→∀i,i < n→∃d:Dsc,vs[i]? = some d.ten∧d.can=aH V (i:Int)∧d.At W∧(W.cell? ⟨vb,voff+i * 3,none⟩=some (.int .i64 d.r)∧W.cell? ⟨vb,voff+i * 3+1,none⟩=some (.int .i64 d.c)∧W.cell? ⟨vb,voff+i * 3+2,none⟩=some (.slice d.a d.xs.length d.k))):=I (fun W hb i hi=>by
  obtain ⟨d,h1,h2,h3,b',off',e,_,h4⟩:=HVS.out W hb i hi
  cases e
  exact ⟨d,h1,h2,h3,h4⟩)
 have HVL:=I hVl
 have HVOK:=I hVok
 clear hN ho hv hS hp hVV hpp hV hVl hVok
 go_enter Tryz.func70,Tryz.ntmps70
 go_wp2_with (at_make;refine wpList_make_full _ rfl _ _ 109 rfl w.heap.size 37 i0 (.agg #[.int .i64 0,.int .i64 0,.slice none 0 0]) 3 Tryz.underlying109 hi0 hz0 hzs .i64 .i64 _ _ n rfl rfl rfl rfl ?c1 ?c2 ?c3 ?_)
 case c1=>rw [hz2];omega
 case c2=>unfold maxLen;omega
 case c3=>exact J _
 intro w1 hown hg
 have hb1:Below w.heap.size w w1:=(O _ _).grown hg (J _) (fun k e=>by cases e)
 have hr0:OwnR bV w1 w.heap.size w1.heap.size (some ⟨w.heap.size,0,none⟩) n n (List.replicate n hJ):=by
  refine OwnR.made (R:=bV) (z:=hJ) hown (vZ bV hJ n _ rfl (by decide)) (fun x hx=>?_) (fun x hx=>(nomatch hx))
  rw [List.mem_singleton.1 hx]
  exact ⟨rfl,rfl,rfl,rfl⟩
 have HR:=I hr0;have HB1:=I hb1
 clear hg hown hr0 hb1
 go_upto_region 2 with fail
 have HBO0:=I (BoxN.alloc w1 #[.slice (some ⟨w.heap.size,0,none⟩) n n] 109)
 have hb2:=aE w1 (.cells #[.slice (some ⟨w.heap.size,0,none⟩) n n] 109)
 have HB2:=I hb2
 have hz2s:(w1.alloc (.cells #[.slice (some ⟨w.heap.size,0,none⟩) n n] 109)).heap.size=w1.heap.size+1:=by simp
 have HZ2:=I hz2s
 clear hb2 hz2s
 obtain ⟨w2,hw2⟩:∃W,W=w1.alloc (.cells #[.slice (some ⟨w.heap.size,0,none⟩) n n] 109):=⟨_,rfl⟩
 rw [←hw2] at HBO0 HB2 HZ2 ⊢
 clear hw2
 have hbo0:=HBO0.out.one.2.1
 have hbof:=HBO0.out.fz 0
 go_wp2_with (at_make;refine wpList_make_full _ rfl _ _ 130 rfl w2.heap.size 4 j0 (.bool false) 1 Tryz.underlying130 hj0 hy0 hy1 .i64 .i64 _ _ n rfl rfl rfl rfl ?d1 ?d2 ?d3 ?_)
 case d1=>first | omega | (rw [hy2];omega)
 case d2=>first | (unfold maxLen;omega) | omega | (rw [hy2];omega)
 intro w3 hown hg
 have hb3:Below w2.heap.size w2 w3:=(O _ _).grown hg (J _) (fun k e=>by cases e)
 have hu0:Own w3 w2.heap.size w3.heap.size [dU w2.heap.size n (List.replicate n false)]:=by
  refine Own.one (Row.mk' ?_)
  rw [toList_madeCells_one] at hown
  show w3.ownsRow w2.heap.size 4 1 (.slice (some ⟨w2.heap.size,0,none⟩) n n) n ((List.replicate n false).map Value.bool)
  rw [List.map_replicate];exact hown
 have hx3:OwnX bV w3 w.heap.size w3.heap.size (some ⟨w.heap.size,0,none⟩) n n (List.replicate n hJ) [dU w2.heap.size n (List.replicate n false)] :=
  OwnX.beside (((HR.out.below HB2.out).below hb3).bounds (J _) (HB2.out.size)) hu0 (Nat.le_trans HB1.out.size HB2.out.size) hb3.size
 have HX3:=I hx3;have HB3:=I hb3
 have HBO3:=I (HBO0.out.below hb3)
 have hlh:w2.heap.size < w3.heap.size:=hx3.u.1
 have HLH:=I hlh
 have HLG:Hid (w.heap.size < w1.heap.size):=I (by
  have:=HR.out.own.cell (g:=w.heap.size) (o:=0) (n:=n) (cap:=n) (List.mem_cons_self ..)
  exact this.2.1.2.2)
 clear hown hg hb3 hu0 hx3 hbo0 hbof HBO0 hlh
 go_upto_region 5 with fail
 have hb4:=aE w3 (.cells #[.slice (some ⟨w2.heap.size,0,none⟩) n n] 130)
 have HBH:=I (BoxN.alloc w3 #[.slice (some ⟨w2.heap.size,0,none⟩) n n] 130)
 have HBO:=I (HBO3.out.below hb4)
 have HX:=I ((HX3.out.below hb4).bounds (J _) hb4.size)
 have B4:=I (aA (aA (aA HB1.out HB2.out) HB3.out) hb4)
 have HNE:Hid (((w1.heap.size≠w.heap.size∧w1.heap.size≠w2.heap.size)∧(w3.heap.size≠w.heap.size∧w3.heap.size≠w2.heap.size))∧w.heap.size≤w2.heap.size∧w.heap.size≠w2.heap.size∧w2.heap.size < (w3.alloc (.cells #[.slice (some ⟨w2.heap.size,0,none⟩) n n] 130)).heap.size∧w.heap.size < (w3.alloc (.cells #[.slice (some ⟨w2.heap.size,0,none⟩) n n] 130)).heap.size):=I (by
  have h1:=HLG.out;have h2:=HZ2.out;have h3:=HLH.out
  simp only [World.size_alloc]
  omega)
 clear HX3 HBO3 HR hb4 HB3
 generalize w3.alloc (.cells #[.slice (some ⟨w2.heap.size,0,none⟩) n n] 130)=w4 at HBH HBO HX B4 HNE ⊢
 clear HLH HB2 HZ2 HLG HB1
 generalize w1.heap.size=bo at HBO HNE ⊢
 generalize w2.heap.size=hh at HBH HBO HX HNE ⊢
 generalize w3.heap.size=bh at HBH HNE ⊢
 have hni:(n:Int) - 1=((n - 1:Nat):Int):=by omega
 rw [hni]
 clear hni
 obtain ⟨l,hl⟩:∃l,l=n - 1:=⟨_,rfl⟩
 rw [←hl]
 have hln:l < n:=by omega
 have HLN:=I hl
 clear hl
 obtain ⟨⟨dr,dc,da,dk,dx⟩,hd1,hd2,hd3,c0,c1,c2⟩:=HVS.out w4 B4.out l hln
 simp only at c0 c1 c2
 have HD:=I (And.intro hd2 hd3)
 have KS:Hid (∀W,Below w.heap.size w4 W→W.cell? ⟨vb,voff+l * 3,none⟩=some (.int .i64 dr)∧W.cell? ⟨vb,voff+l * 3+1,none⟩=some (.int .i64 dc)):=I (fun W hb=>⟨(hb.cell (p:=⟨vb,voff+l * 3,none⟩) HVB.out).trans c0,(hb.cell (p:=⟨vb,voff+l * 3+1,none⟩) HVB.out).trans c1⟩)
 have S0:=I (KS.out w4 (O _ _))
 have okl:okT (cO (aH V (l:Int)) 1065353216)∧(cO (aH V (l:Int)) 1065353216).sh=(aH V (l:Int)).sh:=lU (pR HVOK.out (by omega) (by rw [HVL.out];omega)) _
 have OKL:=I okl
 clear hd1 hd2 hd3 c0 c1 c2 okl
 refine eZ [12,13] (fun W=>W.cell? ⟨vb,voff+l * 3,none⟩=some (.int .i64 dr)∧W.cell? ⟨vb,voff+l * 3+1,none⟩=some (.int .i64 dc)) (fun _ _ _=>False) (EX 95 93 (cO (aH V (l:Int)) 1065353216) w.heap.size hh (fun w2 => ∃t':Dsc,Hid (OwnX bV w2 w.heap.size w2.heap.size (some ⟨w.heap.size,0,none⟩) n n ((List.replicate n hJ).set l t'.ten) [dU hh n ((List.replicate n false).set l true)])∧t'.can=cO (aH V (l:Int)) 1065353216)) (by kernel_rfl) (by kernel_rfl) S0.out (fun W q h=>by simpa using h) ?_
 iterate 12 (refine aD (by rfl) S0.out (fun K hK W hW=>?_);obtain ⟨e0,e1⟩:=hW;go_simp;refine hK _ ?_;clear hK K e0 e1)
 refine aF (by rfl) S0.out (fun K hK q0=>?_)
 go_simp
 have D0:=I (below_drewN (O w4.heap.size w4) q0)
 refine ⟨(kE _ dr dc 1065353216 (by decide) HD.out.2.r1 HD.out.2.r2 HD.out.2.c1 HD.out.2.c2).mono (fun e w5 h=>by
  obtain ⟨v,he,hr⟩:=RTen.of (T:=cO (aH V (l:Int)) 1065353216) h (by
   rw [←HD.out.1]
   have h2:=HD.out.2.len
   unfold cO Dsc.can
   simp only at h2 ⊢
   rw [List.length_map,h2,show cn .f32 1065353216=1065353216 by decide +kernel])
  exact ⟨v,he,fun _=>hr,fun h=>absurd h (by decide)⟩),?_⟩
 rintro v w5 hd
 obtain ⟨⟨tr,tc,ta,tk,tx⟩,rfl,he,ha,hr,hb⟩:=(hd.1 rfl).at' OKL.out.1
 have C5:=I (aA D0.out hb)
 have hs5:=KS.out w5 (C5.out.mono B4.out.size)
 have S5:=I hs5
 refine ⟨hs5,hK _ _ ?_⟩
 have E5:=I he;have A5:=I ha
 clear hK K hd he ha hr hb hs5
 refine aF (by rfl) S5.out (fun K hK q1=>?_)
 have C6:=I (aA C5.out (below_drewN (O _ _) q1))
 have A6:=I (A5.out.below (below_drewN (O _ _) q1))
 have KG:=I (qR (w5.drewN q1) w.heap.size w.heap.size hh bo bh n n (List.replicate n hJ) (List.replicate n false) ((HX.out.below C6.out).bounds (J _) C6.out.size) (Nat.le_trans B4.out.size C6.out.size) (by simp) (HBO.out.below C6.out) (HBH.out.below C6.out) ⟨HNE.out.1.1,HNE.out.1.2⟩ hn2 l hln ⟨tr,tc,ta,tk,tx⟩ A6.out hJ (by simp [hln]) (fun h=>by simp [hln] at h))
 unfold Dsc.val
 try simp only
 go_simp
 refine ⟨KG.out.mono ?_,?_⟩
 ·rintro e w6 ⟨rfl,hk,t',hx,hc⟩
  exact ⟨_,rfl,fun h=>absurd h (by decide),fun _=>⟨rfl,hk,t',hx,by rw [hc];simp [bX,hln];exact E5.out⟩⟩
 rintro v w6 hd
 obtain ⟨rfl,hk6,t6,hx6,ht6⟩:=hd.2 rfl
 have B6:=I (hk6.below (aA B4.out C6.out) (Nat.le_trans B4.out.size C6.out.size) (J _) HNE.out.2.1)
 have BB6:=I (hk6.below ((C6.out.mono B4.out.size)) (Nat.le_trans B4.out.size C6.out.size) (J _) HNE.out.2.1)
 refine ⟨KS.out w6 BB6.out,hK _ _ ?_⟩
 have HBO6:=I ((HBO.out.below C6.out).keep hk6 HNE.out.1.1.1 HNE.out.1.1.2)
 have HBH6:=I ((HBH.out.below C6.out).keep hk6 HNE.out.1.2.1 HNE.out.1.2.2)
 have HX6:=hx6
 have HT6:=I ht6
 have HNE6:Hid (((bo≠w.heap.size∧bo≠hh)∧(bh≠w.heap.size∧bh≠hh))∧w.heap.size≤hh∧w.heap.size≠hh∧hh < w6.heap.size∧w.heap.size < w6.heap.size):=I (by
  have h1:=HNE.out;have h2:=hk6.size;have h3:=C6.out.size
  omega)
 clear hK K hd hk6 ht6 hx6 KG A6 A5 E5 C6 C5 D0 S5 S0 KS HD B4 BB6 HBO HBH HX HNE OKL
 refine aP (fun q9=>?_)
 have dB:=below_drewN (O w6.heap.size w6) q9
 have HBO:=I (HBO6.out.below dB)
 have HBH:=I (HBH6.out.below dB)
 have HX:=I ((HX6.out.below dB).bounds (J _) dB.size)
 have B7:=I (below_drewN B6.out q9)
 have HNE:Hid (((bo≠w.heap.size∧bo≠hh)∧(bh≠w.heap.size∧bh≠hh))∧w.heap.size≤hh∧w.heap.size≠hh∧hh < (w6.drewN q9).heap.size∧w.heap.size < (w6.drewN q9).heap.size):=I (by simpa using HNE6.out)
 clear HBO6 HBH6 HX6 B6 HNE6 dB
 generalize w6.drewN q9=w7 at HBO HBH HX B7 HNE ⊢
 have HREL:Hid (RelG ((List.replicate n hJ).set l t6.ten) (cV p V 0) n (fun q=>(cP p 0).getD q false=true∨n≤q)):=I (by
  have h0:RelG (List.replicate n hJ) (V.map fun v=>cO v 0) n (fun _=>False):=fun q _ h=>h.elim
  have h1:=h0.set (i:=l) (by simp [hln]) (by simp;rw [HVL.out];exact hln) (t:=t6.ten) HT6.out
  have e1:cV p V 0=(V.map fun v=>cO v 0).set l (cO (aH V (l:Int)) 1065353216):=by unfold cV;rw [HPL.out,←HLN.out]
  rw [e1]
  refine h1.mono (fun q hq hp=>?_)
  rcases hp with hp | hp
  ·left
   have e2:cP p 0=(List.replicate n false).set l true:=by unfold cP;rw [HPL.out,←HLN.out]
   rw [e2,kL (by simp [hln])] at hp
   by_cases e:l=q
   ·exact e.symm
   ·rw [if_neg e] at hp
    rw [List.getD_eq_getElem?_getD] at hp
    simp [hq] at hp
  ·omega)
 have HU0:Hid ((List.replicate n false).set l true=cP p 0):=I (by unfold cP;rw [HPL.out,←HLN.out])
 rw [HU0.out] at HX
 obtain ⟨us0,hus0⟩:∃us0,us0=(List.replicate n hJ).set l t6.ten:=⟨_,rfl⟩
 rw [←hus0] at HX HREL
 clear hus0 HT6 HU0
 go_wp2
 go_loopw [9] (fun i wt => ∃j:Nat,i=.int .i64 ((j:Int) - 1)∧j≤n∧∃us:List Ten,Hid (OwnX bV wt w.heap.size wt.heap.size (some ⟨w.heap.size,0,none⟩) n n us [dU hh n (cP p (n - j))])∧Hid (RelG us (cV p V (n - j)) n (fun q=>(cP p (n - j)).getD q false=true∨j≤q))∧Hid (BoxN wt bo [.slice (some ⟨w.heap.size,0,none⟩) n n])∧Hid (BoxN wt bh [.slice (some ⟨hh,0,none⟩) n n])∧Hid (Below w.heap.size w wt)∧Hid (hh < wt.heap.size∧w.heap.size < wt.heap.size)) (fun i _=>(intOf i+1).toNat)
 case atStart =>
  refine ⟨n,by rw [HLN.out];congr 1;omega,J _,us0,?_,?_,HBO,HBH,B7,I ⟨HNE.out.2.2.2.1,HNE.out.2.2.2.2⟩⟩
  ·rw [Nat.sub_self];exact HX
  ·rw [Nat.sub_self];exact HREL
 case round =>
  have HNB:Hid (((bo≠w.heap.size∧bo≠hh)∧(bh≠w.heap.size∧bh≠hh))∧w.heap.size≤hh∧w.heap.size≠hh):=I ⟨HNE.out.1,HNE.out.2.1,HNE.out.2.2.1⟩
  clear HBO HBH B7 HNE HREL HX HLN hln us0
  obtain ⟨j,rfl,hj,us,HX,HREL,HBO,HBH,HB,HZ⟩:=hrel
  rcases j with _ | i
  ·have bo0:=HBO.out.one.2.1
   have HA:Hid (us.map (fun t=>t.toTenP.can)=cW p):=I (by
    rw [HGP.out]
    have h:=HREL.out
    rw [Nat.sub_zero] at h
    exact h.all HX.out.len (by rw [iZ p V (by rw [HVL.out,HPL.out]),HPL.out]) (fun q hq=>.inr (Nat.zero_le _)))
   have HXR:=I HX.out.r
   clear HX HREL HBH
   go_wp2
   go_ret
   exact ⟨_,_,us,rfl,I ⟨HXR.out,HA.out⟩,HB.out⟩
  ·have hi:i < n:=by omega
   rw [show ((i+1:Nat):Int) - 1=(i:Int) by omega]
   obtain ⟨o,ho⟩:=getElem?_lt (show i < os.length by rw [←HN.out];exact hi)
   obtain ⟨ob,ooff,rfl,hobl,⟨p0,p1,p2,p3,p4,p5,p6⟩,hf,hok⟩:=sO (H.out.below HB.out) ho
   have hop:=HPO.out i o ho
   obtain ⟨hfit,hshp⟩:=HRD.out i o.toOpP hop
   have hunext:=rS (os:=p) (n:=n) HPL.out.symm hi hop
   have hgnext:=uB (os:=p) (V:=V) (n:=n) HPL.out.symm hi hop
   have hokg:=HOK.out (n - (i+1)) (by omega)
   have hul:(cP p (n - (i+1))).length=n:=by rw [lL,HPL.out]
   have hgl:(cV p V (n - (i+1))).length=n:=by rw [iZ p V (by rw [HVL.out,HPL.out]),HPL.out]
   obtain ⟨⟨kk,a,b',q,r,c,xs⟩,adx,capx⟩:=o
   simp only at p0 p1 p2 p3 p4 p5 p6
   replace hfit:fJ (i:Int) ⟨kk,a,b',q,r,c,xs⟩=true:=hfit
   obtain ⟨U,hU⟩:∃U,U=cP p (n - (i+1)):=⟨_,rfl⟩
   obtain ⟨G,hG⟩:∃G,G=cV p V (n - (i+1)):=⟨_,rfl⟩
   rw [←hU] at HX HREL hunext hgnext hokg hul
   rw [←hG] at HREL hgnext hokg hgl
   obtain ⟨U2,hU2⟩:∃U,U=cP p (n - i):=⟨_,rfl⟩
   obtain ⟨G2,hG2⟩:∃G,G=cV p V (n - i):=⟨_,rfl⟩
   rw [←hU2] at hunext
   rw [←hG2] at hgnext
   have HFIN:Hid (∀(W:World) (us':List Ten),OwnX bV W w.heap.size W.heap.size (some ⟨w.heap.size,0,none⟩) n n us' [dU hh n U2]→RelG us' G2 n (fun q=>U2.getD q false=true∨i≤q)→BoxN W bo [.slice (some ⟨w.heap.size,0,none⟩) n n]→BoxN W bh [.slice (some ⟨hh,0,none⟩) n n]→Below w.heap.size w W→(hh < W.heap.size∧w.heap.size < W.heap.size)→∃us'',Hid (OwnX bV W w.heap.size W.heap.size (some ⟨w.heap.size,0,none⟩) n n us'' [dU hh n (cP p (n - i))])∧Hid (RelG us'' (cV p V (n - i)) n (fun q=>(cP p (n - i)).getD q false=true∨i≤q))∧Hid (BoxN W bo [.slice (some ⟨w.heap.size,0,none⟩) n n])∧Hid (BoxN W bh [.slice (some ⟨hh,0,none⟩) n n])∧Hid (Below w.heap.size w W)∧Hid (hh < W.heap.size∧w.heap.size < W.heap.size)):=I (fun W us' h1 h2 h3 h4 h5 h6=>⟨us',by rw [←hU2];exact I h1,by rw [←hU2,←hG2];exact I h2,I h3,I h4,I h5,I h6⟩)
   have HUN:=I hunext;have HGN:=I hgnext;have HOG:=I hokg;have HUL:=I hul;have HGL:=I hgl
   have HFT:=I hfit;have HSP:=I hshp
   clear hU hG hU2 hG2 hunext hgnext hokg hul hgl hop hfit hshp hf hok ho
   go_upto_region 10 with fail
   have hbq:=aE wr (.cells #[.int .i64 kk,.int .i64 a,.int .i64 b',.float .f32 q,.int .i64 r,.int .i64 c,.slice adx xs.length capx] 74)
   have OB:=I (BoxN.alloc wr #[.int .i64 kk,.int .i64 a,.int .i64 b',.float .f32 q,.int .i64 r,.int .i64 c,.slice adx xs.length capx] 74)
   have XQ:=I ((HX.out.below hbq).bounds (J _) hbq.size)
   have BOQ:=I (HBO.out.below hbq);have BHQ:=I (HBH.out.below hbq)
   have BQ:=I (aA HB.out hbq)
   have ZQ:Hid ((hh < wr.heap.size∧w.heap.size < wr.heap.size)∧wr.heap.size+1=(wr.alloc (.cells #[.int .i64 kk,.int .i64 a,.int .i64 b',.float .f32 q,.int .i64 r,.int .i64 c,.slice adx xs.length capx] 74)).heap.size):=I ⟨HZ.out,by simp⟩
   clear HX HBO HBH HB HZ hbq p0 p1 p2 p3 p4 p5 p6 hobl
   generalize wr.alloc (.cells #[.int .i64 kk,.int .i64 a,.int .i64 b',.float .f32 q,.int .i64 r,.int .i64 c,.slice adx xs.length capx] 74)=wq at OB XQ BOQ BHQ BQ ZQ ⊢
   generalize wr.heap.size=gb at OB ZQ ⊢
   have bh0:=BHQ.out.one.2.1
   have uc:=XQ.out.u.2.2.1 i (by rw [HUL.out];exact hi)
   obtain ⟨old,hold⟩:=getElem?_lt (show i < us.length by rw [XQ.out.len];exact hi)
   obtain ⟨⟨hgB,hgl⟩,⟨g0,g1,g2⟩,gf,gx⟩:=gK XQ.out hold
   have HCG:=I (And.intro g0 (And.intro g1 (And.intro g2 gf)))
   have HOLD:=I hold
   have HGX:=I gx
   clear g0 g1 g2 gf gx hgB hgl hold
   cases hu:U.getD i false
   ·as_aux_lemma =>
     rw [hu] at uc
     obtain ⟨⟨dr,dc,da,dk,dx⟩,hd1,hd2,hd3,c0,c1,c2⟩:=HVS.out wq BQ.out i hi
     simp only at c0 c1 c2
     have HD:=I (And.intro hd2 hd3)
     have KS:Hid (∀W,Below wq.heap.size wq W→W.cell? ⟨bo,0,none⟩=some (.slice (some ⟨w.heap.size,0,none⟩) n n)∧W.cell? ⟨vb,voff+i * 3,none⟩=some (.int .i64 dr)∧W.cell? ⟨vb,voff+i * 3+1,none⟩=some (.int .i64 dc)):=I (fun W hb=>⟨(BOQ.out.below hb).one.2.1,(hb.cell (p:=⟨vb,voff+i * 3,none⟩) (Nat.lt_of_lt_of_le HVB.out BQ.out.size)).trans c0,(hb.cell (p:=⟨vb,voff+i * 3+1,none⟩) (Nat.lt_of_lt_of_le HVB.out BQ.out.size)).trans c1⟩)
     have S0:=I (KS.out wq (O _ _))
     have HFZ:Hid (aH G (i:Int)=cO (aH V (i:Int)) 0):=I ((HOG.out.2 i (by rw [HVL.out];exact hi)).2 hu)
     have HU2:Hid (U2=U):=I (by rw [HUN.out];exact qM (.inl hu))
     have HG2:Hid (G2=G):=I (by rw [HGN.out];exact uC (.inl hu))
     have HUF:=I hu
     clear hd1 hd2 hd3 c0 c1 c2 HUN HGN HOG hu
     go_upto_region 11 with fail
     clear bh0 uc
     refine aL 14 [12] (fun W=>W.cell? ⟨bo,0,none⟩=some (.slice (some ⟨w.heap.size,0,none⟩) n n)∧W.cell? ⟨vb,voff+i * 3,none⟩=some (.int .i64 dr)∧W.cell? ⟨vb,voff+i * 3+1,none⟩=some (.int .i64 dc)) (fun _ _ _=>False) (fun f args w1 v w2=>RTen (cO (aH V (i:Int)) 0) w1 v w2) (by kernel_rfl) (by kernel_rfl) S0.out (fun W q h=>by simpa using h) ?_
     iterate 12 (refine aD (by rfl) S0.out (fun K hK W hW=>?_);obtain ⟨e0,e1,e2⟩:=hW;go_simp;refine hK _ ?_;clear hK K e0 e1 e2)
     refine aF (by rfl) S0.out (fun K hK q0=>?_)
     go_simp
     have D0:=I (below_drewN (O wq.heap.size wq) q0)
     refine ⟨(kE _ dr dc 0 (by decide) HD.out.2.r1 HD.out.2.r2 HD.out.2.c1 HD.out.2.c2).mono (fun e w5 h=>RTen.of (T:=cO (aH V (i:Int)) 0) h (by
      rw [←HD.out.1]
      have h2:=HD.out.2.len
      unfold cO Dsc.can
      simp only at h2 ⊢
      rw [List.length_map,h2,bT])),?_⟩
     rintro v w5 hd
     obtain ⟨⟨tr,tc,ta,tk,tx⟩,rfl,he,hr,hb⟩:=hd
     have C5:=I (aA D0.out hb)
     have S5:=I (KS.out w5 C5.out)
     refine ⟨S5.out,hK _ _ ?_⟩
     have E5:=I he;have R5:=I hr
     clear hK K he hr hb
     refine aD (by rfl) S5.out (fun K hK W hW=>?_)
     obtain ⟨e0,e1,e2⟩:=hW
     go_simp
     refine hK _ ?_
     clear hK K e0 e1 e2
     refine aP (fun q9=>?_)
     have B5:=I (aA C5.out (below_drewN (O _ _) q9))
     have R6:Hid (RepF (w5.drewN q9) wq.heap.size (w5.drewN q9).heap.size ta tx.length tk tx):=I ((R5.out.below (below_drewN (O _ _) q9)).bounds D0.out.size (by simp))
     generalize w5.drewN q9=w6 at B5 R6 ⊢
     have hgl:=ZQ.out.1.2
     have hzq:=ZQ.out.2
     have c50:=(B5.out.cell (p:=⟨w.heap.size,i * 3,none⟩) (by simp only;omega)).trans HCG.out.1
     have c51:=(B5.out.cell (p:=⟨w.heap.size,i * 3+1,none⟩) (by simp only;omega)).trans HCG.out.2.1
     have c52:=(B5.out.cell (p:=⟨w.heap.size,i * 3+2,none⟩) (by simp only;omega)).trans HCG.out.2.2.1
     have f50:=(B5.out.frozen (p:=⟨w.heap.size,i * 3,none⟩) (by simp only;omega)).trans (HCG.out.2.2.2 _)
     have f51:=(B5.out.frozen (p:=⟨w.heap.size,i * 3+1,none⟩) (by simp only;omega)).trans (HCG.out.2.2.2 _)
     have f52:=(B5.out.frozen (p:=⟨w.heap.size,i * 3+2,none⟩) (by simp only;omega)).trans (HCG.out.2.2.2 _)
     have X6:Hid (OwnX bV (setCs w6 w.heap.size (i * 3) [.int .i64 tr,.int .i64 tc,.slice ta tx.length tk]) w.heap.size (setCs w6 w.heap.size (i * 3) [.int .i64 tr,.int .i64 tc,.slice ta tx.length tk]).heap.size (some ⟨w.heap.size,0,none⟩) n n (us.set i (Dsc.ten ⟨tr,tc,ta,tk,tx⟩)) [dU hh n U]):=I (kK XQ.out BQ.out.size B5.out hi (t:=⟨tr,tc,ta,tk,tx⟩) R6.out)
     have K6:Keep2 w.heap.size hh wq (setCs w6 w.heap.size (i * 3) [.int .i64 tr,.int .i64 tc,.slice ta tx.length tk]):=(Keep2.of_below B5.out).trans (Keep2.of_touch1 (aB _ _ _ _))
     have BO6:=I (BOQ.out.keep K6 HNB.out.1.1.1 HNB.out.1.1.2);have BH6:=I (BHQ.out.keep K6 HNB.out.1.2.1 HNB.out.1.2.2)
     have B6:=I (K6.below BQ.out BQ.out.size (J _) HNB.out.2.1)
     have Z6:Hid (hh < (setCs w6 w.heap.size (i * 3) [.int .i64 tr,.int .i64 tc,.slice ta tx.length tk]).heap.size∧w.heap.size < (setCs w6 w.heap.size (i * 3) [.int .i64 tr,.int .i64 tc,.slice ta tx.length tk]).heap.size):=I (by have h1:=K6.size;have h2:=ZQ.out;omega)
     have RL6:Hid (RelG (us.set i (Dsc.ten ⟨tr,tc,ta,tk,tx⟩)) G2 n (fun q=>U2.getD q false=true∨i≤q)):=I (by
      rw [HU2.out,HG2.out]
      have h1:=HREL.out.set (i:=i) (by rw [XQ.out.len];exact hi) (by rw [HGL.out];exact hi) (t:=Dsc.ten ⟨tr,tc,ta,tk,tx⟩) (T:=aH G (i:Int)) (by rw [HFZ.out];exact E5.out)
      have e1:G.set i (aH G (i:Int))=G:=by
       rw [fF (by rw [HGL.out];exact hi)]
       exact List.set_getElem_self _
      rw [e1] at h1
      refine h1.mono (fun q hq hp=>?_)
      rcases hp with hp | hp
      ·exact .inr (.inl hp)
      ·by_cases e:q=i
       ·exact .inl e
       ·exact .inr (.inr (by omega)))
     have HE6:=I (HFIN.out _ _ (by rw [HU2.out];exact X6.out) RL6.out BO6.out BH6.out B6.out Z6.out)
     clear X6 RL6 BO6 BH6 B6 Z6 K6 B5 R6 S5 C5 D0 S0 R5 E5 HFIN HREL XQ BOQ BHQ BQ KS HD HFZ OB hgl hzq HCG HOLD HGX
     try unfold Dsc.val
     try simp only
     go_wp2
     go_roundw
     case rel =>
      obtain ⟨us',h1,h2,h3,h4,h5,h6⟩:=HE6.out
      exact ⟨i,rfl,by omega,us',h1,h2,h3,h4,h5,h6⟩
     case measure=>first | (simp [intOf];done) | (simp [intOf];omega)
   ·rw [hu] at uc
    have HRI:=HREL.out i hi (.inl hu)
    have HGI:=(HOG.out.2 i (by rw [HVL.out];exact hi)).1
    obtain ⟨old',ho1,ho2⟩:=HRI
    rw [HOLD.out] at ho1
    cases ho1
    obtain ⟨D,rfl⟩:=lW (t:=old) (by rw [ho2];exact HGI.1)
    have HGD:Hid (D.can=aH G (i:Int)):=I ho2
    have HGS:Hid ((aH G (i:Int)).sh=(aH V (i:Int)).sh):=I HGI.2
    have HDA:Hid (D.At wq):=I (Dsc.at_of (by rw [HGD.out];exact HGI.1) HGX.out)
    have HUI:=I hu
    clear HGI ho2 hu
    by_cases hk0:kk=0
    ·as_aux_lemma =>
      subst hk0
      have HU2:Hid (U2=U):=I (by rw [HUN.out];exact qM (.inr rfl))
      have HG2:Hid (G2=G):=I (by rw [HGN.out];exact uC (.inr rfl))
      have HE6:=I (HFIN.out wq us (by rw [HU2.out];exact XQ.out) (by
       rw [HU2.out,HG2.out]
       refine HREL.out.mono (fun q hq hp=>?_)
       rcases hp with hp | hp
       ·exact .inl hp
       ·by_cases e:q=i
        ·subst e;exact .inl HUI.out
        ·exact .inr (by omega)) BOQ.out BHQ.out BQ.out (by have:=ZQ.out;omega))
      obtain ⟨-,x0,x1,x2,x3,x4,x5,x6,xf⟩:=OB.out.seven
      clear xf HFIN HREL XQ BOQ BHQ BQ OB HCG HOLD HGX HU2 HG2 HUN HGN HOG HGD HDA x1 x2 x3 x4 x5 x6
      go_wp2
      go_roundw
      case rel =>
       obtain ⟨us',h1,h2,h3,h4,h5,h6⟩:=HE6.out
       exact ⟨i,rfl,by omega,us',h1,h2,h3,h4,h5,h6⟩
      case measure=>first | (simp [intOf];done) | (simp [intOf];omega)
    ·have hfa:=dV HFT.out hk0
     have hfk:=jK HFT.out
     obtain ⟨A,hA⟩:∃A:Nat,a=A:=⟨a.toNat,by have:=hfa.1.1;simp only at this;omega⟩
     obtain ⟨B,hB⟩:∃B:Nat,b'=B:=⟨b'.toNat,by have:=hfa.2.1.1;simp only at this;omega⟩
     have hAi:A < i:=by have:=hfa.1.2;simp only at this;omega
     have hBi:B < i:=by have:=hfa.2.1.2;simp only at this;omega
     have hAn:A < n:=by omega
     have hBn:B < n:=by omega
     subst hA hB
     replace hfk:0≤kk∧kk≤10:=hfk
     have hk1:1≤kk∧kk≤10:=by omega
     obtain ⟨⟨vr,vc,va,vk,vx⟩,-,hv2,hv3,v0,v1,v2⟩:=HVS.out wq BQ.out A (by omega)
     obtain ⟨⟨wr',wy,wa,wk,wx⟩,-,hw2,hw3,w0,w1,w2⟩:=HVS.out wq BQ.out B (by omega)
     obtain ⟨gr,gc,ga,gk,gx⟩:=D
     simp only at v0 v1 v2 w0 w1 w2
     have hsh:aQ kk (Dsc.can ⟨vr,vc,va,vk,vx⟩).sh (Dsc.can ⟨wr',wy,wa,wk,wx⟩).sh=some (Dsc.can ⟨gr,gc,ga,gk,gx⟩).sh:=by
      obtain ⟨s,h1,h2⟩:=HSP.out hk0
      rw [hv2,hw2,HGD.out,HGS.out,h2];exact h1
     have okA:=tZ (num:=cn .f32 q) hk1 HDA.out.okT hv3.okT hw3.okT hsh rfl
     have okB:=fun h2:fL kk=true=>uA h2 HDA.out.okT hv3.okT hw3.okT hsh rfl
     have OKA:=I okA;have OKB:=I okB
     have HVW:=I (And.intro hv2 (And.intro hw2 (And.intro hv3 hw3)))
     have KP:=I (fun W (hb:Below wq.heap.size wq W)=>AO W kk A B q r c adx xs.length capx ⟨gr,gc,ga,gk,gx⟩ ⟨vr,vc,va,vk,vx⟩ ⟨wr',wy,wa,wk,wx⟩ (HDA.out.below hb) (hv3.below hb) (hw3.below hb) hk1 hsh)
     have KS:Hid (∀W,Below wq.heap.size wq W→(W.cell? ⟨gb,0,none⟩=some (.int .i64 kk)∧W.cell? ⟨gb,1,none⟩=some (.int .i64 A)∧W.cell? ⟨gb,2,none⟩=some (.int .i64 B)∧W.cell? ⟨gb,3,none⟩=some (.float .f32 q)∧W.cell? ⟨gb,4,none⟩=some (.int .i64 r)∧W.cell? ⟨gb,5,none⟩=some (.int .i64 c)∧W.cell? ⟨gb,6,none⟩=some (.slice adx xs.length capx))∧W.cell? ⟨bo,0,none⟩=some (.slice (some ⟨w.heap.size,0,none⟩) n n)∧(W.cell? ⟨w.heap.size,i * 3,none⟩=some (.int .i64 gr)∧W.cell? ⟨w.heap.size,i * 3+1,none⟩=some (.int .i64 gc)∧W.cell? ⟨w.heap.size,i * 3+2,none⟩=some (.slice ga gx.length gk))∧(W.cell? ⟨vb,voff+A * 3,none⟩=some (.int .i64 vr)∧W.cell? ⟨vb,voff+A * 3+1,none⟩=some (.int .i64 vc)∧W.cell? ⟨vb,voff+A * 3+2,none⟩=some (.slice va vx.length vk))∧(W.cell? ⟨vb,voff+B * 3,none⟩=some (.int .i64 wr')∧W.cell? ⟨vb,voff+B * 3+1,none⟩=some (.int .i64 wy)∧W.cell? ⟨vb,voff+B * 3+2,none⟩=some (.slice wa wx.length wk))):=I (fun W hb=>by
      have hvl:vb < wq.heap.size:=Nat.lt_of_lt_of_le HVB.out BQ.out.size
      have hgl:w.heap.size < wq.heap.size:=by have:=ZQ.out;omega
      obtain ⟨-,y0,y1,y2,y3,y4,y5,y6,-⟩:=(OB.out.below hb).seven
      exact ⟨⟨y0,y1,y2,y3,y4,y5,y6⟩,(BOQ.out.below hb).one.2.1,⟨(hb.cell (p:=⟨w.heap.size,i * 3,none⟩) hgl).trans HCG.out.1,(hb.cell (p:=⟨w.heap.size,i * 3+1,none⟩) hgl).trans HCG.out.2.1,(hb.cell (p:=⟨w.heap.size,i * 3+2,none⟩) hgl).trans HCG.out.2.2.1⟩,⟨(hb.cell (p:=⟨vb,voff+A * 3,none⟩) hvl).trans v0,(hb.cell (p:=⟨vb,voff+A * 3+1,none⟩) hvl).trans v1,(hb.cell (p:=⟨vb,voff+A * 3+2,none⟩) hvl).trans v2⟩,⟨(hb.cell (p:=⟨vb,voff+B * 3,none⟩) hvl).trans w0,(hb.cell (p:=⟨vb,voff+B * 3+1,none⟩) hvl).trans w1,(hb.cell (p:=⟨vb,voff+B * 3+2,none⟩) hvl).trans w2⟩⟩)
     have S0:=I (KS.out wq (O _ _))
     have hk0':(kk == 0)=false:=by simpa using hk0
     obtain ⟨-,x0,x1,x2,x3,x4,x5,x6,xf⟩:=OB.out.seven
     have HK1:=I hk1;have HK0:=I hk0
     clear xf x1 x2 x3 x4 x5 x6 v0 v1 v2 w0 w1 w2 hv2 hv3 hw2 hw3 hsh okA okB hk1 hfa hfk hk0
     go_upto_region 13 with fail
     clear x0 bh0 uc hk0'
     obtain ⟨⟨s0,s1,s2,s3,s4,s5,s6⟩,s7,⟨s8,s9,s10⟩,⟨s11,s12,s13⟩,s14,s15,s16⟩:=S0.out
     unfold Dsc.val at KP
     go_cut [11,12] (fun p11 p12 wz => ∃ba bb:Nat,∃t u:Dsc,p11=.pointer (some ⟨ba,0,none⟩)∧p12=.pointer (some ⟨bb,0,none⟩)∧Hid (nF wq (bC kk (Dsc.can ⟨gr,gc,ga,gk,gx⟩) (Dsc.can ⟨vr,vc,va,vk,vx⟩) (Dsc.can ⟨wr',wy,wa,wk,wx⟩) (cn .f32 q)) (bU kk (Dsc.can ⟨gr,gc,ga,gk,gx⟩) (Dsc.can ⟨vr,vc,va,vk,vx⟩)) ⟨gr,gc,ga,gk,gx⟩ (fL kk) wz ba bb t u))
     case first =>
      have hgbl:gb < wq.heap.size:=by have:=ZQ.out;omega
      have hbol:bo < wq.heap.size:=BOQ.out.lt
      have hwl:w.heap.size < wq.heap.size:=by have:=ZQ.out;omega
      have hvbl:vb < wq.heap.size:=Nat.lt_of_lt_of_le HVB.out BQ.out.size
      have hn0:¬ gb=wq.heap.size:=by omega
      have hm0:¬ wq.heap.size=gb:=by omega
      have hn1:¬ gb=wq.heap.size+1:=by omega
      have hm1:¬ wq.heap.size+1=gb:=by omega
      have hn2:¬ bo=wq.heap.size:=by omega
      have hm2:¬ wq.heap.size=bo:=by omega
      have hn3:¬ bo=wq.heap.size+1:=by omega
      have hm3:¬ wq.heap.size+1=bo:=by omega
      have hn4:¬ w.heap.size=wq.heap.size:=by omega
      have hm4:¬ wq.heap.size=w.heap.size:=by omega
      have hn5:¬ w.heap.size=wq.heap.size+1:=by omega
      have hm5:¬ wq.heap.size+1=w.heap.size:=by omega
      have hn6:¬ vb=wq.heap.size:=by omega
      have hm6:¬ wq.heap.size=vb:=by omega
      have hn7:¬ vb=wq.heap.size+1:=by omega
      have hm7:¬ wq.heap.size+1=vb:=by omega
      clear hgbl hbol hwl hvbl
      go_region_held3 (fun w'=>(w'.cell? ⟨gb,0,none⟩=some (.int .i64 kk)∧w'.cell? ⟨gb,1,none⟩=some (.int .i64 A)∧w'.cell? ⟨gb,2,none⟩=some (.int .i64 B)∧w'.cell? ⟨gb,3,none⟩=some (.float .f32 q)∧w'.cell? ⟨gb,4,none⟩=some (.int .i64 r)∧w'.cell? ⟨gb,5,none⟩=some (.int .i64 c)∧w'.cell? ⟨gb,6,none⟩=some (.slice adx xs.length capx))∧w'.cell? ⟨bo,0,none⟩=some (.slice (some ⟨w.heap.size,0,none⟩) n n)∧(w'.cell? ⟨w.heap.size,i * 3,none⟩=some (.int .i64 gr)∧w'.cell? ⟨w.heap.size,i * 3+1,none⟩=some (.int .i64 gc)∧w'.cell? ⟨w.heap.size,i * 3+2,none⟩=some (.slice ga gx.length gk))∧(w'.cell? ⟨vb,voff+A * 3,none⟩=some (.int .i64 vr)∧w'.cell? ⟨vb,voff+A * 3+1,none⟩=some (.int .i64 vc)∧w'.cell? ⟨vb,voff+A * 3+2,none⟩=some (.slice va vx.length vk))∧(w'.cell? ⟨vb,voff+B * 3,none⟩=some (.int .i64 wr')∧w'.cell? ⟨vb,voff+B * 3+1,none⟩=some (.int .i64 wy)∧w'.cell? ⟨vb,voff+B * 3+2,none⟩=some (.slice wa wx.length wk))) (go_keep)
       (first
         | (go_at_call 96;(with_reducible refine (KP.out _ (by repeat (first | exact O _ _ | apply Below.drew | (refine Below.alloc ?_ (by first | (simp;done) | (simp;omega) | omega) _)))).mono ?_);intro e w5 hq;obtain ⟨t',u',he,ht,hu,hb⟩:=hq;obtain ⟨tr,tc,ta,tk,tx⟩:=t';obtain ⟨ur,uc',ua,uk,ux⟩:=u';subst he;dsimp only [Dsc.val];have hs5:=KS.out w5 (aA (by repeat (first | exact O _ _ | apply Below.drew | (refine Below.alloc ?_ (by first | (simp;done) | (simp;omega) | omega) _))) hb);have zA:BoxN w5 wq.heap.size [.int .i64 0,.int .i64 0,.slice none 0 0]:=(((BoxN.alloc wq #[.int .i64 0,.int .i64 0,.slice none 0 0] 37).below (aE _ (.cells #[.int .i64 0,.int .i64 0,.slice none 0 0] 37))).below (Below.drew (O _ _))).below hb;have zB:BoxN w5 (wq.heap.size+1) [.int .i64 0,.int .i64 0,.slice none 0 0]:=((BoxN.alloc2 wq (.cells #[.int .i64 0,.int .i64 0,.slice none 0 0] 37) #[.int .i64 0,.int .i64 0,.slice none 0 0] 37).below (Below.drew (O _ _))).below hb;obtain ⟨zl,z0,z1,z2,zf⟩:=zA.three;obtain ⟨yl,y0,y1,y2,yf⟩:=zB.three;have z3:=zf 0;have z4:=zf 1;have z5:=zf 2;have y3:=yf 0;have y4:=yf 1;have y5:=yf 2;have ZA:=I zA;have ZB:=I zB;clear zf yf zA zB;have HTL:Hid (GotL (bC kk (Dsc.can ⟨gr,gc,ga,gk,gx⟩) (Dsc.can ⟨vr,vc,va,vk,vx⟩) (Dsc.can ⟨wr',wy,wa,wk,wx⟩) (cn .f32 q)) ⟨gr,gc,ga,gk,gx⟩ (wq.heap.size+2) w5 ⟨tr,tc,ta,tk,tx⟩):=I (GotL.of ht.out (by first | exact J _ | (simp;done) | (simp;omega)));have HUL2:Hid (fL kk=true→GotL (bU kk (Dsc.can ⟨gr,gc,ga,gk,gx⟩) (Dsc.can ⟨vr,vc,va,vk,vx⟩)) ⟨gr,gc,ga,gk,gx⟩ (wq.heap.size+2) w5 ⟨ur,uc',ua,uk,ux⟩):=I (fun h2=>GotL.of (hu.out h2) (by first | exact J _ | (simp;done) | (simp;omega)));have HBW:Hid (Below wq.heap.size wq w5):=I (aA (by repeat (first | exact O _ _ | apply Below.drew | (refine Below.alloc ?_ (by first | (simp;done) | (simp;omega) | omega) _))) hb);clear hb ht hu)
         | (go_at_call 96;(with_reducible refine (KP.out _ (by repeat (first | exact O _ _ | apply Below.drew | (refine Below.alloc ?_ (by first | (simp;done) | (simp;omega) | omega) _)))).mono ?_);intro e w5 hq;obtain ⟨t',u',he,ht,hu,hb⟩:=hq;obtain ⟨tr,tc,ta,tk,tx⟩:=t';obtain ⟨ur,uc',ua,uk,ux⟩:=u';subst he;dsimp only [Dsc.val];have hs5:=KS.out w5 (aA (by repeat (first | exact O _ _ | apply Below.drew | (refine Below.alloc ?_ (by first | (simp;done) | (simp;omega) | omega) _))) hb);have zA:BoxN w5 wq.heap.size [.int .i64 0,.int .i64 0,.slice none 0 0]:=((BoxN.alloc wq #[.int .i64 0,.int .i64 0,.slice none 0 0] 37).below (Below.drew (O _ _))).below hb;obtain ⟨zl,z0,z1,z2,zf⟩:=zA.three;have z3:=zf 0;have z4:=zf 1;have z5:=zf 2;have ZA:=I zA;clear zf zA;have HTL:Hid (GotL (bC kk (Dsc.can ⟨gr,gc,ga,gk,gx⟩) (Dsc.can ⟨vr,vc,va,vk,vx⟩) (Dsc.can ⟨wr',wy,wa,wk,wx⟩) (cn .f32 q)) ⟨gr,gc,ga,gk,gx⟩ (wq.heap.size+1) w5 ⟨tr,tc,ta,tk,tx⟩):=I (GotL.of ht.out (by first | exact J _ | (simp;done) | (simp;omega)));have HUL2:Hid (fL kk=true→GotL (bU kk (Dsc.can ⟨gr,gc,ga,gk,gx⟩) (Dsc.can ⟨vr,vc,va,vk,vx⟩)) ⟨gr,gc,ga,gk,gx⟩ (wq.heap.size+1) w5 ⟨ur,uc',ua,uk,ux⟩):=I (fun h2=>GotL.of (hu.out h2) (by first | exact J _ | (simp;done) | (simp;omega)));have HBW:Hid (Below wq.heap.size wq w5):=I (aA (by repeat (first | exact O _ _ | apply Below.drew | (refine Below.alloc ?_ (by first | (simp;done) | (simp;omega) | omega) _))) hb);clear hb ht hu)
         | (go_at_call 96;(with_reducible refine (KP.out _ (by repeat (first | exact O _ _ | apply Below.drew | (refine Below.alloc ?_ (by first | (simp;done) | (simp;omega) | omega) _)))).mono ?_);intro e w5 hq;obtain ⟨t',u',he,ht,hu,hb⟩:=hq;obtain ⟨tr,tc,ta,tk,tx⟩:=t';obtain ⟨ur,uc',ua,uk,ux⟩:=u';subst he;dsimp only [Dsc.val];have hs5:=KS.out w5 (aA (by repeat (first | exact O _ _ | apply Below.drew | (refine Below.alloc ?_ (by first | (simp;done) | (simp;omega) | omega) _))) hb);have HTL:Hid (GotL (bC kk (Dsc.can ⟨gr,gc,ga,gk,gx⟩) (Dsc.can ⟨vr,vc,va,vk,vx⟩) (Dsc.can ⟨wr',wy,wa,wk,wx⟩) (cn .f32 q)) ⟨gr,gc,ga,gk,gx⟩ wq.heap.size w5 ⟨tr,tc,ta,tk,tx⟩):=I (GotL.of ht.out (by first | exact J _ | (simp;done) | (simp;omega)));have HUL2:Hid (fL kk=true→GotL (bU kk (Dsc.can ⟨gr,gc,ga,gk,gx⟩) (Dsc.can ⟨vr,vc,va,vk,vx⟩)) ⟨gr,gc,ga,gk,gx⟩ wq.heap.size w5 ⟨ur,uc',ua,uk,ux⟩):=I (fun h2=>GotL.of (hu.out h2) (by first | exact J _ | (simp;done) | (simp;omega)));have HBW:Hid (Below wq.heap.size wq w5):=I (aA (by repeat (first | exact O _ _ | apply Below.drew | (refine Below.alloc ?_ (by first | (simp;done) | (simp;omega) | omega) _))) hb);clear hb ht hu))
      all_goals (try go_wp2_with fail)
      all_goals go_meet
      all_goals clear s0 s1 s2 s3 s4 s5 s6 s7 s8 s9 s10 s11 s12 s13 s14 s15 s16
      all_goals refine ⟨_,_,⟨tr,tc,ta,tk,tx⟩,⟨ur,uc',ua,uk,ux⟩,rfl,rfl,I ?_⟩
      ·exact ER HBW.out HTL.out HUL2.out
      ·exact ES HBW.out HTL.out HUL2.out
      ·exact ET HBW.out ZA.out HTL.out HUL2.out
      ·exact EV HBW.out ZA.out ZB.out HTL.out HUL2.out
      ·exact EU HBW.out ZA.out HTL.out HUL2.out
      ·exact EW HBW.out ZA.out ZB.out HTL.out HUL2.out
     case rest =>
      clear s0 s1 s2 s3 s4 s5 s6 s7 s8 s9 s10 s11 s12 s13 s14 s15 s16
      obtain ⟨ba,bb,⟨tr,tc,ta,tk,tx⟩,⟨ur,uc',ua,uk,ux⟩,rfl,rfl,HCUT⟩:=hcut
      have BA0:Hid (BoxN wc ba [.int .i64 tr,.int .i64 tc,.slice ta tx.length tk]):=I HCUT.out.1.1
      have BB0:Hid (BoxN wc bb [.int .i64 ur,.int .i64 uc',.slice ua ux.length uk]):=I HCUT.out.1.2
      have HBAB:=I HCUT.out.2.1
      have B8:=I HCUT.out.2.2.1
      have T6:=I HCUT.out.2.2.2.1
      have U6:=I HCUT.out.2.2.2.2
      clear HCUT
      obtain ⟨w8,rfl⟩:∃w8:World,w8=wc:=⟨_,rfl⟩
      have far:∀t:Dsc,(t=⟨gr,gc,ga,gk,gx⟩∨RepF w8 wq.heap.size w8.heap.size t.a t.xs.length t.k t.xs)→okT t.can→t.At w8∧∀b o,t.a=some ⟨b,o,none⟩→b≠w.heap.size∧b≠hh:=fun t ht ho=>by
       have hzz:=ZQ.out
       rcases ht with rfl | ht
       ·exact ⟨HDA.out.below B8.out,Ai XQ.out HOLD.out HDA.out.pos⟩
       ·have h1:t.At w8:=Dsc.at_of ho ht.arg
        refine ⟨h1,fun b o e=>?_⟩
        have:=ht.far h1.pos b o e
        omega
      have HT8:Hid ((⟨tr,tc,ta,tk,tx⟩:Dsc).At w8∧(⟨tr,tc,ta,tk,tx⟩:Dsc).can.sh=(aH V (A:Int)).sh∧(⟨tr,tc,ta,tk,tx⟩:Dsc).can=bC kk (aH G (i:Int)) (aH V (A:Int)) (aH V (B:Int)) (cn .f32 q)):=I ⟨(far ⟨tr,tc,ta,tk,tx⟩ T6.out.2 (by rw [T6.out.1];exact OKA.out.1)).1,by rw [T6.out.1,OKA.out.2,HVW.out.1],by rw [T6.out.1,HGD.out,HVW.out.1,HVW.out.2.1]⟩
      have HU8:Hid (fL kk=true→((⟨ur,uc',ua,uk,ux⟩:Dsc).At w8∧∀b o,ua=some ⟨b,o,none⟩→b≠w.heap.size∧b≠hh)∧(⟨ur,uc',ua,uk,ux⟩:Dsc).can.sh=(aH V (B:Int)).sh∧(⟨ur,uc',ua,uk,ux⟩:Dsc).can=bU kk (aH G (i:Int)) (aH V (A:Int))):=I (fun h2=>⟨far ⟨ur,uc',ua,uk,ux⟩ (U6.out h2).2 (by rw [(U6.out h2).1];exact (OKB.out h2).1),by rw [(U6.out h2).1,(OKB.out h2).2,HVW.out.2.1],by rw [(U6.out h2).1,HGD.out,HVW.out.1]⟩)
      have X8:=I ((XQ.out.below B8.out).bounds (J _) B8.out.size)
      have BO8:=I (BOQ.out.below B8.out);have BH8:=I (BHQ.out.below B8.out)
      have OB8:=I (OB.out.below B8.out)
      have BW8:=I (aA BQ.out B8.out)
      have hzb:(gb≠w.heap.size∧gb≠hh)∧(ba≠w.heap.size∧ba≠hh)∧(bb≠w.heap.size∧bb≠hh):=by have h1:=ZQ.out;have h2:=HBAB.out;omega
      have HZB:=I hzb
      have HZ8:Hid (hh < w8.heap.size∧w.heap.size < w8.heap.size):=I (by have h1:=ZQ.out;have h2:=B8.out.size;omega)
      clear far hzb T6 U6 B8 KS KP OB BOQ BHQ BQ HCG HGX HBAB ZQ S0
      go_upto_region 14 with fail
      -- the part of A
      obtain ⟨oldA,holdA⟩:=getElem?_lt (show A < us.length by rw [XQ.out.len];exact hAn)
      have hga:U.getD A false=true→oldA.toTenP.can=aH G (A:Int):=fun h=>by
       obtain ⟨t',h1,h2⟩:=HREL.out A hAn (.inl h)
       rw [holdA] at h1
       cases h1
       exact h2
      have KG:=I (qR w8 w.heap.size w.heap.size hh bo bh n n us U X8.out BW8.out.size HUL.out BO8.out BH8.out HNB.out.1 hn2 A hAn ⟨tr,tc,ta,tk,tx⟩ HT8.out.1 oldA holdA (fun h=>by
       rw [hga h]
       have h1:=HOG.out.2 A (by rw [HVL.out];exact hAn)
       exact ⟨h1.1.1,h1.1.2.trans HT8.out.2.1.symm⟩))
      have HGA:Hid (∀T,bX (U.getD A false) oldA.toTenP.can T=bX (U.getD A false) (aH G (A:Int)) T):=I (fun T=>by
       cases hua:U.getD A false
       ·rfl
       ·rw [hga hua])
      clear hga holdA
      unfold Dsc.val at KG
      obtain ⟨-,x0,x1,x2,x3,x4,x5,x6,xf⟩:=OB8.out.seven
      obtain ⟨-,y0,y1,y2,yf⟩:=BA0.out.three
      clear xf yf x0 x2 x3 x4 x5 x6
      go_wp2_with fail
      refine KG.out.mono ?_
      rintro e w9 ⟨rfl,hk9,⟨sr,sc,sa,sk,sx⟩,hx9,hs9⟩
      have X9:=hx9
      have S9:=I (hs9.trans (HGA.out _))
      have BO9:=I (BO8.out.keep hk9 HNB.out.1.1.1 HNB.out.1.1.2);have BH9:=I (BH8.out.keep hk9 HNB.out.1.2.1 HNB.out.1.2.2)
      have OB9:=I (OB8.out.keep hk9 HZB.out.1.1 HZB.out.1.2)
      have BB9:=I (BB0.out.keep hk9 HZB.out.2.2.1 HZB.out.2.2.2)
      have BW9:=I (hk9.below BW8.out BW8.out.size (J _) HNB.out.2.1)
      have HU9:Hid (fL kk=true→(⟨ur,uc',ua,uk,ux⟩:Dsc).At w9∧(⟨ur,uc',ua,uk,ux⟩:Dsc).can.sh=(aH V (B:Int)).sh∧(⟨ur,uc',ua,uk,ux⟩:Dsc).can=bU kk (aH G (i:Int)) (aH V (A:Int))):=I (fun h2=>⟨(HU8.out h2).1.1.keep hk9 (HU8.out h2).1.2,(HU8.out h2).2⟩)
      have HZ9:Hid (hh < w9.heap.size∧w.heap.size < w9.heap.size):=I (by have h1:=HZ8.out;have h2:=hk9.size;omega)
      obtain ⟨G1,hG1⟩:∃G1,G1=G.set A (bX (U.getD A false) (aH G (A:Int)) (bC kk (aH G (i:Int)) (aH V (A:Int)) (aH V (B:Int)) (cn .f32 q))):=⟨_,rfl⟩
      have R9:Hid (RelG (us.set A (Dsc.ten ⟨sr,sc,sa,sk,sx⟩)) G1 n (fun q=>q=A∨U.getD q false=true∨i+1≤q)):=I (by
       rw [hG1]
       exact HREL.out.set (i:=A) (by rw [XQ.out.len];exact hAn) (by rw [HGL.out];exact hAn) (t:=Dsc.ten ⟨sr,sc,sa,sk,sx⟩) (by rw [←HT8.out.2.2];exact S9.out))
      have HG1:=I hG1
      have HUA:Hid (∀q,(U.set A true).getD q false=(if A=q then true else U.getD q false)):=I (fun q=>kL (by rw [HUL.out];exact hAn))
      have OKG1:Hid (OkG V (U.set A true) G1):=I (by
       rw [hG1]
       refine HOG.out.give (by rw [HVL.out];exact hAn) (p:=bC kk (aH G (i:Int)) (aH V (A:Int)) (aH V (B:Int)) (cn .f32 q)) ?_ ?_ (by rw [HUL.out,HVL.out])
       ·rw [←HT8.out.2.2];exact HT8.out.1.okT
       ·rw [←HT8.out.2.2];exact HT8.out.2.1)
      clear hk9 hx9 hs9 hG1 KG x1 y0 y1 y2 X8 BO8 BH8 OB8 BB0 BA0 BW8 HU8 HZ8 HT8 XQ HOLD HREL HOG HGA S9 OKA OKB HVW HGD HGS HDA HSP HFT
      obtain ⟨-,x0,x1,x2,x3,x4,x5,x6,xf⟩:=OB9.out.seven
      clear xf x1 x3 x4 x5 x6
      go_wp2_with fail
      refine (vD kk _).mono ?_
      rintro e wt ⟨rfl,rfl⟩
      clear x0
      cases h2:fL kk
      ·as_aux_lemma =>
        have hu2:U2=U.set A true:=by rw [HUN.out];exact oP HUI.out HK0.out h2
        have hg2:G2=G1:=by rw [HGN.out,HG1.out];exact qN HUI.out HK0.out h2
        have HE6:=I (HFIN.out w9 (us.set A (Dsc.ten ⟨sr,sc,sa,sk,sx⟩)) (by rw [hu2];exact X9.out) (by
         rw [hu2,hg2]
         refine R9.out.mono (fun q hq hp=>?_)
         rcases hp with hp | hp
         ·rw [HUA.out] at hp
          by_cases e:A=q
          ·exact .inl e.symm
          ·rw [if_neg e] at hp;exact .inr (.inl hp)
         ·by_cases e:q=i
          ·subst e;exact .inr (.inl HUI.out)
          ·exact .inr (.inr (by omega))) BO9.out BH9.out BW9.out HZ9.out)
        clear hu2 hg2 HFIN X9 R9 BO9 BH9 BW9 HZ9 OB9 BB9 HU9 HUA OKG1 HG1 HUN HGN HUI HK0 HK1 x2 h2
        go_wp2
        go_roundw
        case rel =>
         obtain ⟨us',h1,h2,h3,h4,h5,h6⟩:=HE6.out
         exact ⟨i,rfl,by omega,us',h1,h2,h3,h4,h5,h6⟩
        case measure=>first | (simp [intOf];done) | (simp [intOf];omega)
      ·as_aux_lemma =>
        obtain ⟨hu1,hu3,hu4⟩:=HU9.out h2
        obtain ⟨oldB,holdB⟩:=getElem?_lt (show B < (us.set A (Dsc.ten ⟨sr,sc,sa,sk,sx⟩)).length by rw [X9.out.len];exact hBn)
        have hgb:(U.set A true).getD B false=true→oldB.toTenP.can=aH G1 (B:Int):=fun h=>by
         obtain ⟨t',h1,h2⟩:=R9.out B hBn (by
          rw [HUA.out] at h
          by_cases e:A=B
          ·exact .inl e.symm
          ·rw [if_neg e] at h;exact .inr (.inl h))
         rw [holdB] at h1
         cases h1
         exact h2
        have KG:=I (qR w9 w.heap.size w.heap.size hh bo bh n n _ _ X9.out BW9.out.size (by simp [HUL.out]) BO9.out BH9.out HNB.out.1 hn2 B hBn ⟨ur,uc',ua,uk,ux⟩ hu1 oldB holdB (fun h=>by
         rw [hgb h]
         have h1:=OKG1.out.2 B (by rw [HVL.out];exact hBn)
         exact ⟨h1.1.1,h1.1.2.trans hu3.symm⟩))
        have HGB:Hid (∀T,bX ((U.set A true).getD B false) oldB.toTenP.can T=bX ((U.set A true).getD B false) (aH G1 (B:Int)) T):=I (fun T=>by
         cases hua:(U.set A true).getD B false
         ·rfl
         ·rw [hgb hua])
        have HU4:=I hu4
        have H2:=I h2
        unfold Dsc.val at KG
        obtain ⟨-,y0,y1,y2,yf⟩:=BB9.out.three
        clear hgb holdB hu1 hu3 hu4 yf h2
        go_wp2_with fail
        refine KG.out.mono ?_
        rintro e wx ⟨rfl,hk,⟨mr,mc,ma,mk,mx⟩,hx,hs⟩
        have hu2:U2=(U.set A true).set B true:=by rw [HUN.out];exact jT HUI.out HK0.out H2.out
        have hg2:G2=G1.set B (bX ((U.set A true).getD B false) (aH G1 (B:Int)) (bU kk (aH G (i:Int)) (aH V (A:Int)))):=by rw [HGN.out];exact kT HUI.out HK0.out H2.out HG1.out
        have HE6:=I (HFIN.out wx ((us.set A (Dsc.ten ⟨sr,sc,sa,sk,sx⟩)).set B (Dsc.ten ⟨mr,mc,ma,mk,mx⟩)) (by rw [hu2];exact hx.out) (by
         rw [hu2,hg2]
         have h1:=R9.out.set (i:=B) (by rw [X9.out.len];exact hBn) (by rw [HG1.out,List.length_set,HGL.out];exact hBn) (t:=Dsc.ten ⟨mr,mc,ma,mk,mx⟩) (T:=bX ((U.set A true).getD B false) (aH G1 (B:Int)) (bU kk (aH G (i:Int)) (aH V (A:Int)))) (by rw [←HU4.out];exact hs.trans (HGB.out _))
         refine h1.mono (fun q hq hp=>?_)
         rcases hp with hp | hp
         ·rw [kL (by simp [HUL.out];exact hBn),HUA.out] at hp
          by_cases e:B=q
          ·exact .inl e.symm
          ·rw [if_neg e] at hp
           by_cases e2:A=q
           ·exact .inr (.inl e2.symm)
           ·rw [if_neg e2] at hp;exact .inr (.inr (.inl hp))
         ·by_cases e:q=i
          ·subst e;exact .inr (.inr (.inl HUI.out))
          ·exact .inr (.inr (.inr (by omega)))) (BO9.out.keep hk HNB.out.1.1.1 HNB.out.1.1.2) (BH9.out.keep hk HNB.out.1.2.1 HNB.out.1.2.2) (hk.below BW9.out BW9.out.size (J _) HNB.out.2.1) (by have h1:=HZ9.out;have h3:=hk.size;omega))
        clear hu2 hg2 hk hx hs HFIN X9 R9 BO9 BH9 BW9 HZ9 OB9 BB9 HU9 HUA OKG1 HG1 HUN HGN HUI HK0 HK1 KG HGB HU4 H2 x2 y0 y1 y2
        go_wp2
        go_roundw
        case rel =>
         obtain ⟨us',h1,h2,h3,h4,h5,h6⟩:=HE6.out
         exact ⟨i,rfl,by omega,us',h1,h2,h3,h4,h5,h6⟩
        case measure=>first | (simp [intOf];done) | (simp [intOf];omega)

theorem Row.touch1 {w w':World} {e:TypeId} {size lo hi x:Nat} {v:Value} {n:Nat} {cs:List Value} (h:Row w e size lo hi v n cs) (ht:Touch x (x+1) w w') (hn:∀b,v.ownBlock=some b→b≠x):Row w' e size lo hi v n cs:=by
 refine ⟨⟨h.own.1,?_⟩,h.top⟩
 rcases h.own.2 with h2 | ⟨g,cap,cur,hv,hg,hh,r⟩
 ·exact .inl h2
 ·have h3:=hn g (by rw [hv];rfl)
  exact .inr ⟨g,cap,cur,hv,hg,by rw [ht.block g (Array.getElem?_eq_some_iff.1 hh).1 (by omega)];exact hh,r⟩
theorem Own.touch1 {w w':World} {lo hi x:Nat} {L:List RowD} (h:Own w lo hi L) (ht:Touch x (x+1) w w') (hn:∀r∈L,∀b,r.val.ownBlock=some b→b≠x):Own w' lo hi L :=
 ⟨fun r hr=>(h.row r hr).touch1 ht (hn r hr),h.sep⟩
def NotIn {α:Type} (R:RecT α) (ad:Option Addr) (n cap:Nat) (us:List α) (E:List RowD) (x:Nat):Prop:=∀r∈(⟨R.e,R.size,ad,n,cap,us.flatMap R.cells⟩ :: (us.flatMap R.inn ++ E):List RowD),∀b,r.val.ownBlock=some b→b≠x
theorem OwnX.touch1 {α:Type} {R:RecT α} {w w':World} {lo hi x:Nat} {ad:Option Addr} {n cap:Nat} {us:List α} {E:List RowD} (h:OwnX R w lo hi ad n cap us E) (ht:Touch x (x+1) w w') (hn:NotIn R ad n cap us E x):OwnX R w' lo hi ad n cap us E:=⟨h.own.touch1 ht hn,h.len,h.ok⟩
theorem OwnX.notIn {α:Type} {R:RecT α} {w:World} {lo hi x:Nat} {ad:Option Addr} {n cap:Nat} {us:List α} {E:List RowD} (h:OwnX R w lo hi ad n cap us E) (hx:hi≤x):NotIn R ad n cap us E x:=fun r hr b e=>by
 have:=(h.own.row r hr).top b e
 omega
theorem NotIn.set {ad:Option Addr} {n cap x h m i:Nat} {us:List Ten} {U U':List Bool} (hn:NotIn bV ad n cap us [dU h m U] x) (t:Ten) (ht:∀b,(aK t.ad t.cap t.xs).val.ownBlock=some b→b≠x):NotIn bV ad n cap (us.set i t) [dU h m U'] x:=by
 intro r hr b e
 rcases List.mem_cons.1 hr with rfl | hr
 ·exact hn _ (List.mem_cons_self ..) b e
 ·rcases List.mem_append.1 hr with hr | hr
  ·obtain ⟨u,hu,hru⟩:=List.mem_flatMap.1 hr
   rcases List.mem_or_eq_of_mem_set hu with hu | hut
   ·exact hn r (List.mem_cons_of_mem _ (List.mem_append_left _ (List.mem_flatMap.2 ⟨u,hu,hru⟩))) b e
   ·subst hut
    have hr2:r∈[aK u.ad u.cap u.xs]:=hru
    rw [List.mem_singleton.1 hr2] at e
    exact ht b e
  ·rw [List.mem_singleton.1 hr] at e
   exact hn (dU h m U) (List.mem_cons_of_mem _ (List.mem_append_right _ (List.mem_singleton.2 rfl))) b e
theorem F32s.box {w:World} {x:Nat} {a:Option Addr} {k:Nat} {xs:List Nat} (h:F32s w a k xs) (i:Nat) (vs:List Value) (hn:∀b o,a=some ⟨b,o,none⟩→b≠x):F32s (setCs w x i vs) a k xs :=
 h.keep (Keep2.of_touch1 (h:=x) (aB w x i vs)) (fun b o e=>⟨hn b o e,hn b o e⟩)
theorem Dsc.At.box {w:World} {x:Nat} {t:Dsc} (h:t.At w) (i:Nat) (vs:List Value) (hn:∀b o,t.a=some ⟨b,o,none⟩→b≠x):t.At (setCs w x i vs):=⟨h.see.box i vs hn,h.r1,h.r2,h.c1,h.c2,h.len⟩
theorem jD {s:Dsc} {w:World} (h:s.At w):(((s.xs.drop (0 * s.c)).take (s.r * s.c)).map (cn .f32))=s.xs.map (cn .f32):=by
 rw [Nat.zero_mul,List.drop_zero,←h.len,List.take_length]
theorem Keep2.later {g h lo hi:Nat} {w w1 w2:World} (a:Keep2 g h w w1) (ht:Touch lo hi w1 w2) (hx:w.heap.size≤lo):Keep2 g h w w2 :=
 ⟨ht.os.trans a.os,ht.tape.trans a.tape,ht.output.trans a.output,Nat.le_trans a.size ht.size,fun k hk h1 h2=>(ht.block k (Nat.lt_of_lt_of_le hk a.size) (by omega)).trans (a.block k hk h1 h2)⟩
theorem Ak {n k:Nat} {f g:Nat→Nat} {y:Nat} {zs:List Nat} (h:zs.map (cn .f32)=bA n f) (hy:cn .f32 y=g k) (hg:∀i,i≠k→g i=f i):(zs.set k y).map (cn .f32)=bA n g:=by
 rw [List.map_set,h,hy]
 apply List.ext_getElem
 ·simp [bA]
 ·intro i h1 h2
  simp only [List.getElem_set]
  split
  ·next e=>subst e;simp [bA]
  ·next e=>simp [bA,hg i (Ne.symm e)]
theorem Dc (x z:Nat):iH (cn .f32 x) z=iH x z:=by
 have h0:cn .f32 0=0:=bT
 have e:FloatKind.f32.format.order (cn .f32 x) 0=FloatKind.f32.format.order x 0:=by
  rw [←tC .f32 x 0,h0]
 unfold iH
 rw [e]
end Go.Proofs.YtpadlmidojpbeaaGreat
