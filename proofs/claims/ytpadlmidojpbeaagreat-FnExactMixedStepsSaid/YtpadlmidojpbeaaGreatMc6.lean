/- Joined texts 6. No condition. -/
import Derived.Deep.CutRange
import Derived.Deep.DeepCutAuto
import Derived.Deep.CutBlock
import Derived.Test.YtpadlmidojpbeaaGreatMc0
import Derived.Test.YtpadlmidojpbeaaGreatMc2
import Derived.Test.YtpadlmidojpbeaaGreatMc4
import Derived.Test.YtpadlmidojpbeaaGreatMc5
set_option linter.unusedVariables false
set_option linter.unusedSimpArgs false
set_option maxRecDepth 100000
set_option maxHeartbeats 64000000
namespace Go.Proofs.YtpadlmidojpbeaaGreat
section
open Go Go.RowKit
theorem bI {w w':World} {n:Nat} (h:Dr (w.drewN n) w'):eJ w w':=by
 obtain ⟨m,rfl⟩:=h
 exact ⟨n+m,by simp⟩
theorem cB {w w':World} {p:Addr} {v:Value} (hd:Dr w w') (h:w.cell? p=some v):w'.cell? p=some v:=by obtain ⟨q,rfl⟩:=hd;simpa using h
theorem Dr.more {w w':World} (hd:Dr w w') (q:Nat):Dr w (w'.drewN q):=by obtain ⟨m,rfl⟩:=hd;exact ⟨m+q,by simp⟩
theorem tX (w:World) (g off:Nat) (k i o:Int) (p0:w.cell? ⟨g,off,none⟩=some (.int .i64 k)) (p1:w.cell? ⟨g,off+1,none⟩=some (.int .i64 i)) (p2:w.cell? ⟨g,off+2,none⟩=some (.int .i64 o)) (hi:1≤i∧i≤8) (ho:1≤o∧o≤8) :
  Calls Tryz.prog 101 #[.pointer (some ⟨g,off,none⟩)] w fun e w'=>e=.returned (.tuple #[.int .i64 (oI k i o),.int .i64 (oJ k i o)])∧Dr w w':=by
 obtain ⟨i1,i2⟩:=hi
 obtain ⟨o1,o2⟩:=ho
 obtain ⟨p,hp⟩:∃p,p=o * i:=⟨_,rfl⟩
 have q1:0≤p:=by rw [hp];exact Int.mul_nonneg (by omega) (by omega)
 have q2:p≤64:=by
  rw [hp]
  have h3:o * i≤8 * i:=Int.mul_le_mul_of_nonneg_right o2 (by omega)
  omega
 have hpw2:IntKind.i64.wrap (i * o)=p:=by rw [Int.mul_comm,←hp,IntKind.wrap_i64];omega
 by_cases hk0:k=0
 ·subst hk0
  have eW:oI 0 i o=p:=by rw [hp];rfl
  have eB:oJ 0 i o=o:=rfl
  rw [eW,eB]
  clear hp eW eB
  go_enter Tryz.func101,Tryz.ntmps101
  go_wp2
  refine aN (fun _ _ _=>False) (by kernel_rfl) (by kernel_rfl) ?_
  repeat (refine aV (fun K hK nq=>?_);go_simp;refine hK _ ?_;clear hK K)
  refine bD ?_
  rintro w' ⟨q,rfl⟩
  go_wp2
  go_ret2
  exact ⟨rfl,_,rfl⟩
 have f3:(k == 0)=false:=by simp;omega
 by_cases hk2:k=2
 ·subst hk2
  have eW:oI 2 i o=i:=rfl
  have eB:oJ 2 i o=0:=rfl
  rw [eW,eB]
  clear eW eB hp
  go_enter Tryz.func101,Tryz.ntmps101
  go_wp2
  go_ret2
  exact ⟨rfl,0,rfl⟩
 have f4:(k == 2)=false:=by simp;omega
 by_cases hk5:k=5
 ·subst hk5
  have eW:oI 5 i o=i:=rfl
  have eB:oJ 5 i o=i:=rfl
  rw [eW,eB]
  clear eW eB hp
  go_enter Tryz.func101,Tryz.ntmps101
  go_wp2
  refine aN (fun _ _ _=>False) (by kernel_rfl) (by kernel_rfl) ?_
  repeat (refine aV (fun K hK nq=>?_);go_simp;refine hK _ ?_;clear hK K)
  refine bD ?_
  rintro w' ⟨q,rfl⟩
  go_wp2
  go_ret2
  exact ⟨rfl,_,rfl⟩
 have f5:(k == 5)=false:=by simp;omega
 have eW:oI k i o=0:=by unfold oI;rw [if_neg hk0,if_neg hk2,if_neg hk5]
 have eB:oJ k i o=0:=by unfold oJ;rw [if_neg hk0,if_neg hk5]
 rw [eW,eB]
 clear eW eB hp hk0 hk2 hk5
 go_enter Tryz.func101,Tryz.ntmps101
 go_wp2
 go_ret2
 exact ⟨rfl,0,rfl⟩
theorem vJ (w:World) (g off:Nat) (k i o:Int) (a b:Option Addr) (n c m d:Nat) (hn:n≤maxLen) (hm:m≤maxLen) (p0:w.cell? ⟨g,off,none⟩=some (.int .i64 k)) (p1:w.cell? ⟨g,off+1,none⟩=some (.int .i64 i)) (p2:w.cell? ⟨g,off+2,none⟩=some (.int .i64 o)) (p3:w.cell? ⟨g,off+3,none⟩=some (.slice a n c)) (p4:w.cell? ⟨g,off+4,none⟩=some (.slice b m d)) :
  Calls Tryz.prog 80 #[.pointer (some ⟨g,off,none⟩)] w fun e w'=>e=.returned (.bool (vE k i o n m))∧Dr w w':=by
 unfold maxLen at hn hm
 have K1:=I (fun W=>gN k 0 5 W)
 have K2:=I (fun W=>gN i 1 8 W)
 have K3:=I (fun W=>gN o 1 8 W)
 unfold vE
 cases h1:jU k 0 5
 ·rw [h1] at K1;clear h1
  go_enter Tryz.func80,Tryz.ntmps80
  go_wp2_with fail
  refine (K1.out _).mono ?_
  rintro e w1 ⟨rfl,rfl⟩
  go_wp2
  go_ret
  exact ⟨rfl,0,rfl⟩
 rw [h1] at K1;have ⟨k1,k2⟩:=cA.1 h1;clear h1
 cases h2:jU i 1 8
 ·rw [h2] at K2;clear h2
  go_enter Tryz.func80,Tryz.ntmps80
  go_wp2_with fail
  refine (K1.out _).mono ?_
  rintro e w1 ⟨rfl,rfl⟩
  go_wp2_with fail
  refine (K2.out _).mono ?_
  rintro e w1 ⟨rfl,rfl⟩
  go_wp2
  go_ret
  exact ⟨rfl,0,rfl⟩
 rw [h2] at K2;have ⟨i1,i2⟩:=cA.1 h2;clear h2
 cases h3:jU o 1 8
 ·rw [h3] at K3;clear h3
  go_enter Tryz.func80,Tryz.ntmps80
  go_wp2_with fail
  refine (K1.out _).mono ?_
  rintro e w1 ⟨rfl,rfl⟩
  go_wp2_with fail
  refine (K2.out _).mono ?_
  rintro e w1 ⟨rfl,rfl⟩
  go_wp2_with fail
  refine (K3.out _).mono ?_
  rintro e w1 ⟨rfl,rfl⟩
  go_wp2
  go_ret
  exact ⟨rfl,0,rfl⟩
 rw [h3] at K3;have ⟨o1,o2⟩:=cA.1 h3;clear h3
 have KC:=I (tX w g off k i o p0 p1 p2 ⟨i1,i2⟩ ⟨o1,o2⟩)
 obtain ⟨cw,hcw⟩:∃x,x=oI k i o:=⟨_,rfl⟩
 obtain ⟨cb,hcb⟩:∃x,x=oJ k i o:=⟨_,rfl⟩
 rw [←hcw,←hcb] at KC ⊢
 clear hcw hcb
 by_cases hk0:k=0
 ·subst hk0
  rw [decide_eq_true (Or.inl rfl)]
  by_cases hA:(n:Int)=cw
  rotate_left
  ·rw [decide_eq_false hA]
   have g1:((n:Int) == cw)=false:=by simpa using hA
   clear hA
   go_enter Tryz.func80,Tryz.ntmps80
   go_wp2_with fail
   refine (K1.out _).mono ?_
   rintro e w1 ⟨rfl,rfl⟩
   go_wp2_with fail
   refine (K2.out _).mono ?_
   rintro e w1 ⟨rfl,rfl⟩
   go_wp2_with fail
   refine (K3.out _).mono ?_
   rintro e w1 ⟨rfl,rfl⟩
   go_wp2_with fail
   refine KC.out.mono ?_
   rintro e w1 ⟨rfl,hd⟩
   have e0:=cB hd p0;have e1:=cB hd p1;have e2:=cB hd p2;have e3:=cB hd p3;have e4:=cB hd p4
   have HD:=I hd
   clear hd p0 p1 p2 p3 p4
   go_wp2
   refine aN (fun _ _ _=>False) (by kernel_rfl) (by kernel_rfl) ?_
   repeat (refine aV (fun K hK nq=>?_);go_simp;refine hK _ ?_;clear hK K)
   refine bD ?_
   rintro w' ⟨q,rfl⟩
   go_wp2
   go_ret
   exact ⟨rfl,HD.out.more q⟩
  ·rw [decide_eq_true hA]
   have g1:((n:Int) == cw)=true:=by simp [hA]
   clear hA
   go_enter Tryz.func80,Tryz.ntmps80
   go_wp2_with fail
   refine (K1.out _).mono ?_
   rintro e w1 ⟨rfl,rfl⟩
   go_wp2_with fail
   refine (K2.out _).mono ?_
   rintro e w1 ⟨rfl,rfl⟩
   go_wp2_with fail
   refine (K3.out _).mono ?_
   rintro e w1 ⟨rfl,rfl⟩
   go_wp2_with fail
   refine KC.out.mono ?_
   rintro e w1 ⟨rfl,hd⟩
   have e0:=cB hd p0;have e1:=cB hd p1;have e2:=cB hd p2;have e3:=cB hd p3;have e4:=cB hd p4
   have HD:=I hd
   clear hd p0 p1 p2 p3 p4
   go_wp2
   refine aN (fun _ _ _=>False) (by kernel_rfl) (by kernel_rfl) ?_
   repeat (refine aV (fun K hK nq=>?_);go_simp;refine hK _ ?_;clear hK K)
   refine bD ?_
   rintro w' ⟨q,rfl⟩
   go_wp2
   go_ret
   exact ⟨by congr 2,HD.out.more q⟩
 have f3:(k == 0)=false:=by simp;omega
 by_cases hio:i=o
 ·subst hio
  rw [decide_eq_true (Or.inr rfl)]
  clear hk0
  by_cases hA:(n:Int)=cw
  rotate_left
  ·rw [decide_eq_false hA]
   have g1:((n:Int) == cw)=false:=by simpa using hA
   clear hA
   go_enter Tryz.func80,Tryz.ntmps80
   go_wp2_with fail
   refine (K1.out _).mono ?_
   rintro e w1 ⟨rfl,rfl⟩
   go_wp2_with fail
   refine (K2.out _).mono ?_
   rintro e w1 ⟨rfl,rfl⟩
   go_wp2_with fail
   refine (K3.out _).mono ?_
   rintro e w1 ⟨rfl,rfl⟩
   go_wp2_with fail
   refine KC.out.mono ?_
   rintro e w1 ⟨rfl,hd⟩
   have e0:=cB hd p0;have e1:=cB hd p1;have e2:=cB hd p2;have e3:=cB hd p3;have e4:=cB hd p4
   have HD:=I hd
   clear hd p0 p1 p2 p3 p4
   go_wp2
   refine aN (fun _ _ _=>False) (by kernel_rfl) (by kernel_rfl) ?_
   repeat (refine aV (fun K hK nq=>?_);go_simp;refine hK _ ?_;clear hK K)
   refine bD ?_
   rintro w' ⟨q,rfl⟩
   go_wp2
   go_ret
   exact ⟨rfl,HD.out.more q⟩
  ·rw [decide_eq_true hA]
   have g1:((n:Int) == cw)=true:=by simp [hA]
   clear hA
   go_enter Tryz.func80,Tryz.ntmps80
   go_wp2_with fail
   refine (K1.out _).mono ?_
   rintro e w1 ⟨rfl,rfl⟩
   go_wp2_with fail
   refine (K2.out _).mono ?_
   rintro e w1 ⟨rfl,rfl⟩
   go_wp2_with fail
   refine (K3.out _).mono ?_
   rintro e w1 ⟨rfl,rfl⟩
   go_wp2_with fail
   refine KC.out.mono ?_
   rintro e w1 ⟨rfl,hd⟩
   have e0:=cB hd p0;have e1:=cB hd p1;have e2:=cB hd p2;have e3:=cB hd p3;have e4:=cB hd p4
   have HD:=I hd
   clear hd p0 p1 p2 p3 p4
   go_wp2
   refine aN (fun _ _ _=>False) (by kernel_rfl) (by kernel_rfl) ?_
   repeat (refine aV (fun K hK nq=>?_);go_simp;refine hK _ ?_;clear hK K)
   refine bD ?_
   rintro w' ⟨q,rfl⟩
   go_wp2
   go_ret
   exact ⟨by congr 2,HD.out.more q⟩
 ·rw [decide_eq_false (by omega)]
  have f1:(i == o)=false:=by simp;omega
  clear hk0 hio
  go_enter Tryz.func80,Tryz.ntmps80
  go_wp2_with fail
  refine (K1.out _).mono ?_
  rintro e w1 ⟨rfl,rfl⟩
  go_wp2_with fail
  refine (K2.out _).mono ?_
  rintro e w1 ⟨rfl,rfl⟩
  go_wp2_with fail
  refine (K3.out _).mono ?_
  rintro e w1 ⟨rfl,rfl⟩
  go_wp2_with fail
  refine KC.out.mono ?_
  rintro e w1 ⟨rfl,hd⟩
  have e0:=cB hd p0;have e1:=cB hd p1;have e2:=cB hd p2;have e3:=cB hd p3;have e4:=cB hd p4
  have HD:=I hd
  clear hd p0 p1 p2 p3 p4
  go_wp2
  refine aN (fun _ _ _=>False) (by kernel_rfl) (by kernel_rfl) ?_
  repeat (refine aV (fun K hK nq=>?_);go_simp;refine hK _ ?_;clear hK K)
  refine bD ?_
  rintro w' ⟨q,rfl⟩
  go_wp2
  go_ret
  exact ⟨rfl,HD.out.more q⟩
theorem gT (w:World) (g o:Nat) (ad:Option Addr) (cap:Nat) (us:List LayD) (h:SeeR aX w ad cap us) (hg:w.cell? ⟨g,o,none⟩=some (.slice ad us.length cap)) :
  Calls Tryz.prog 53 #[.pointer (some ⟨g,o,none⟩)] w fun e w'=>e=.returned (.bool (dG (us.map LayD.toLayP)))∧Dr w w':=by
 have hm:=Nat.le_trans h.le h.cap
 unfold maxLen at hm
 obtain ⟨R,hR⟩:∃R,R=dG (us.map LayD.toLayP):=⟨_,rfl⟩
 rw [←hR]
 unfold dG at hR
 rw [List.length_map] at hR
 obtain ⟨n,hN⟩:∃n,n=us.length:=⟨_,rfl⟩
 rw [←hN] at hR hm hg
 have HR:=I hR;have HN:=I hN;have H:=I h;have HG:=I hg
 clear hR hN h
 by_cases hn1:1≤n
 rotate_left
 ·have HE:Hid (R=false):=I (by rw [HR.out,decide_eq_false (by omega),Bool.and_false])
  go_enter Tryz.func53,Tryz.ntmps53
  go_wp2
  go_ret
  exact ⟨by rw [HE.out];rfl,0,rfl⟩
 by_cases hn6:n≤6
 rotate_left
 ·have HE:Hid (R=false):=I (by rw [HR.out,decide_eq_false (by omega),Bool.and_false])
  go_enter Tryz.func53,Tryz.ntmps53
  go_wp2
  go_ret
  exact ⟨by rw [HE.out];rfl,0,rfl⟩
 have HR2:Hid (R=dA (us.map LayD.toLayP) n):=I (by rw [HR.out,decide_eq_true ⟨hn1,hn6⟩,Bool.and_true])
 clear HR
 go_enter Tryz.func53,Tryz.ntmps53
 go_wp2
 clear hg
 go_loopw [4] (fun i wt => ∃k:Nat,i=.int .i64 k∧k≤n∧Hid (dA (us.map LayD.toLayP) k=true)∧Hid (Dr w wt)) (fun i _=>n - (intOf i).toNat)
 case atStart=>exact ⟨0,rfl,Nat.zero_le _,I rfl,I ⟨0,rfl⟩⟩
 case round =>
  obtain ⟨k,rfl,hk,HL,HD⟩:=hrel
  have g0:=cB HD.out HG.out
  by_cases hlt:k < n
  ·obtain ⟨l,hl⟩:=getElem?_lt (show k < us.length by rw [←HN.out];exact hlt)
   obtain ⟨b,off,had,hbl,⟨p0,p1,p2,p3,p4⟩,hf,hok⟩:=bG (H.out.below HD.out.below) hl
   have hlp:(us.map LayD.toLayP)[k]? = some l.toLayP:=by rw [List.getElem?_map,hl];rfl
   have HLP:=I hlp
   obtain ⟨⟨lk,li,lo,ws,bs⟩,wa,wk,ba,bk⟩:=l
   simp only at p0 p1 p2 p3 p4 hf
   have hlw:ws.length≤maxLen:=Nat.le_trans hf.1.len hf.1.cap
   have hlb:bs.length≤maxLen:=Nat.le_trans hf.2.len hf.2.cap
   have KV:=I (fun q=>vJ (wr.drewN q) b (off+k * 5) lk li lo wa ba ws.length wk bs.length bk hlw hlb (by simpa using p0) (by simpa using p1) (by simpa using p2) (by simpa using p3) (by simpa using p4))
   have hLB:jW ⟨lk,li,lo,ws,bs⟩=vE lk li lo ws.length bs.length:=rfl
   have HLB:=I hLB
   have hprev:∀q,k=q+1→∃p:LayD,(us.map LayD.toLayP)[q]? = some p.toLayP∧wr.cell? ⟨b,off+q * 5+2,none⟩=some (.int .i64 p.o):=by
    intro q hq
    obtain ⟨p,hp⟩:=getElem?_lt (show q < us.length by rw [←HN.out];omega)
    obtain ⟨b',off',had',-,⟨-,-,d2,-,-⟩,-,-⟩:=bG (H.out.below HD.out.below) hp
    rw [had] at had';cases had'
    exact ⟨p,by rw [List.getElem?_map,hp];rfl,d2⟩
   have HPV:=I hprev
   subst had
   clear hlp hf hok hlw hlb hLB hprev hl p0 p2 p3 p4 hbl
   obtain ⟨x,hx⟩:∃x,x=ws.length:=⟨_,rfl⟩
   obtain ⟨y,hy⟩:∃y,y=bs.length:=⟨_,rfl⟩
   rw [←hx] at KV HLB
   rw [←hy] at KV HLB
   clear hx hy
   cases e1:vE lk li lo x y
   ·rw [e1] at KV HLB
    have HF:=I (wF HL.out HLP.out HLB.out)
    have HRF:Hid (R=false):=I (by rw [HR2.out,lP HF.out (show k+1≤n from hlt)])
    clear e1 p1 HPV
    go_wp2
    refine aN (fun f args v=>v=.bool false) (by kernel_rfl) (by kernel_rfl) ?_
    repeat (refine aV (fun K hK nq=>?_);first | (go_simp;refine hK _ ?_;clear hK K) | (go_simp;refine ⟨(KV.out _).mono ?_,?_⟩;(rintro e w' ⟨rfl,hd⟩;exact ⟨rfl,bI hd⟩);(refine hK _ ?_;clear hK K)))
    refine bD ?_
    rintro w' ⟨q,rfl⟩
    go_wp2
    go_ret
    exact ⟨by rw [HRF.out];rfl,HD.out.more q⟩
   ·rw [e1] at KV HLB
    clear e1
    by_cases hk0:k=0
    ·subst hk0
     have HL1:Hid (dA (us.map LayD.toLayP) 1=true):=I (by rw [tT HLP.out];exact HLB.out)
     clear HPV p1
     go_wp2
     refine aN (fun f args v=>v=.bool true) (by kernel_rfl) (by kernel_rfl) ?_
     repeat (refine aV (fun K hK nq=>?_);first | (go_simp;refine hK _ ?_;clear hK K) | (go_simp;refine ⟨(KV.out _).mono ?_,?_⟩;(rintro e w' ⟨rfl,hd⟩;exact ⟨rfl,bI hd⟩);(refine hK _ ?_;clear hK K)))
     refine bD ?_
     rintro w' ⟨q,rfl⟩
     have HD2:=I (HD.out.more q)
     go_wp2
     go_roundw
     case rel=>exact ⟨1,by go_num,hlt,HL1,HD2⟩
     case measure=>simp [intOf];omega
    ·obtain ⟨z,hz⟩:∃z,k=z+1:=⟨k - 1,by omega⟩
     obtain ⟨p,hp,dp⟩:=HPV.out z hz
     have HZ:=I hz
     have HLN:Hid (dA (us.map LayD.toLayP) (k+1)=(jW ⟨lk,li,lo,ws,bs⟩ && decide (p.toLayP.o=li))):=I (by
      have h1:=HL.out;have h2:=HLP.out
      rw [hz] at h1 h2 ⊢
      exact oK h1 h2 hp)
     have hzk:z < k:=by omega
     have hk1:0 < k:=by omega
     have hk2:decide (0 < k)=true:=decide_eq_true hk1
     have hz0:(0:Int)≤(z:Int):=by omega
     have hzn:(z:Int) < (n:Int):=by omega
     have hwq:IntKind.i64.wrap ((k:Int) - 1)=(z:Int):=by rw [IntKind.wrap_i64];omega
     clear hz hk0
     obtain ⟨po,hpo⟩:∃po,po=p.o:=⟨_,rfl⟩
     rw [←hpo] at dp HLN
     clear hp HPV hpo
     have hqn:z < n:=by omega
     by_cases hd:po=li
     ·subst hd
      have HL1:Hid (dA (us.map LayD.toLayP) (k+1)=true):=I (by rw [HLN.out,HLB.out];simp)
      go_wp2
      refine aN (fun f args v=>v=.bool true) (by kernel_rfl) (by kernel_rfl) ?_
      repeat (refine aV (fun K hK nq=>?_);first | (go_simp;refine hK _ ?_;clear hK K) | (go_simp;refine ⟨(KV.out _).mono ?_,?_⟩;(rintro e w' ⟨rfl,hd⟩;exact ⟨rfl,bI hd⟩);(refine hK _ ?_;clear hK K)))
      refine bD ?_
      rintro w' ⟨q,rfl⟩
      have HD2:=I (HD.out.more q)
      go_wp2
      go_roundw
      case rel=>exact ⟨k+1,by go_num,hlt,HL1,HD2⟩
      case measure=>simp [intOf];omega
     ·have HRF:Hid (R=false):=I (by rw [HR2.out,lP (k:=k+1) (by rw [HLN.out,HLB.out];simpa using hd) (show k+1≤n from hlt)])
      have f1:(po != li)=true:=by simp;omega
      have f2:(po == li)=false:=by simp;omega
      go_wp2
      refine aN (fun f args v=>v=.bool true) (by kernel_rfl) (by kernel_rfl) ?_
      repeat (refine aV (fun K hK nq=>?_);first | (go_simp;refine hK _ ?_;clear hK K) | (go_simp;refine ⟨(KV.out _).mono ?_,?_⟩;(rintro e w' ⟨rfl,hd⟩;exact ⟨rfl,bI hd⟩);(refine hK _ ?_;clear hK K)))
      refine bD ?_
      rintro w' ⟨q,rfl⟩
      go_wp2
      go_ret
      exact ⟨by rw [HRF.out];rfl,HD.out.more q⟩
  ·have hkn:k=n:=by omega
   subst hkn
   have HE2:Hid (R=true):=I (by rw [HR2.out,HL.out])
   go_wp2
   go_ret
   exact ⟨by rw [HE2.out];rfl,HD.out⟩
end
section
open Go
section
variable {P:Program} {ops:Array Oper} {VC:FuncId→Array Value→Value→Prop} {w:World} {Q:Act→Prop} {o:Oper} {rest:List Oper} {a:Act}
theorem aR (hw:Region.wanted o (yielded ops a.tmps)=true) (h:∀K:Act→Prop,(∀a,jV P ops (eJ w) VC Q rest a→K a)→∀n:Nat,UponS P VC w (fun v=>K (a.put o.dst v)) ((execOp a.eval o).run P (w.drewN n))) :
  jV P ops (eJ w) VC Q (o :: rest) a :=
 aV fun K hK n=>by rw [if_pos hw];exact h K hK n
theorem aY (hw:Region.wanted o (yielded ops a.tmps)=false) (h:∀K:Act→Prop,(∀a,jV P ops (eJ w) VC Q rest a→K a)→K (a.put o.dst undef)) :
  jV P ops (eJ w) VC Q (o :: rest) a :=
 aV fun K hK n=>by rw [if_neg (by rw [hw];exact Bool.false_ne_true)];exact h K hK
end
end
section
open Go Go.RowKit
theorem cY (w:World) (g1 o1:Nat) (r:Int) (c:Nat) (a1:Option Addr) (c1 n:Nat) (xs:List Nat) (p1:w.cell? ⟨g1,o1+1,none⟩=some (.int .i64 c)) (p2:w.cell? ⟨g1,o1+2,none⟩=some (.slice a1 n c1))
  (hx:F32s w a1 c1 xs) (hxl:xs.length=n) (hn:n≤256) (f k:Nat) (hk:1≤k) (hc:1≤c) (hf:f≤256) (hc2:c≤256) (hfk:(f+k) * c≤n) :
  Calls Tryz.prog 103 #[.pointer (some ⟨g1,o1,none⟩),.int .i64 f,.int .i64 k] w (bN k c (k * c) (((xs.drop (f * c)).take (k * c)).map (cn .f32)) w):=by
 have hg1:=World.block_lt_of_cell? w _ p1
 simp only at hg1
 have hadd:(f+k) * c=f * c+k * c:=Nat.add_mul _ _ _
 have hkk:1≤k * c:=Nat.mul_le_mul hk hc
 have hfc:f≤f * c:=by have:=Nat.mul_le_mul_left f hc;omega
 have hkc:k≤k * c:=by have:=Nat.mul_le_mul_left k hc;omega
 obtain ⟨p,hp⟩:∃p,p=f * c:=⟨_,rfl⟩
 obtain ⟨m,hm⟩:∃m,m=k * c:=⟨_,rfl⟩
 obtain ⟨q,hq⟩:∃q,q=p+m:=⟨_,rfl⟩
 have hqe:(f+k) * c=q:=by rw [hadd,hq,hp,hm]
 have e1:(f:Int) * (c:Int)=(p:Int):=by rw [hp];rfl
 have e2:((f+k:Nat):Int) * (c:Int)=(q:Int):=by rw [←hqe];rfl
 obtain ⟨u,hu⟩:∃u,u=f+k:=⟨_,rfl⟩
 have e3:(f:Int)+(k:Int)=(u:Int):=by rw [hu];rfl
 rw [←hu] at e2 hqe hfk
 rw [hqe] at hfk
 rw [←hp] at hfc ⊢
 rw [←hm] at hkc hkk ⊢
 have t1:IntKind.i64.wrap (p:Int)=p:=eL (by omega)
 have t2:IntKind.i64.wrap (q:Int)=q:=eL (by omega)
 have t3:IntKind.i64.wrap (u:Int)=u:=eL (by omega)
 obtain ⟨b,off,rfl,hbl,_⟩:=hx.spot (k:=0) (by omega)
 have hcap:=hx.len
 rw [hxl] at hcap
 have h1:=hx.cut3 q (by rw [hxl];exact hfk)
 have h2:=(h1.1.cut3 p (by rw [List.length_take,hxl];omega)).2
 have hyl:((xs.take q).drop p).length=m:=by rw [List.length_drop,List.length_take,hxl];omega
 have hye:(xs.take q).drop p=(xs.drop p).take m:=by rw [List.drop_take];congr 1;omega
 rw [hye] at h2 hyl
 obtain ⟨ys,hys⟩:∃ys,ys=(xs.drop p).take m:=⟨_,rfl⟩
 rw [←hys] at h2 hyl ⊢
 have K:=I (fun W (hb:Below w.heap.size w W)=>fH W _ _ ys (h2.below hb) (fun h=>nomatch h) (by omega))
 rw [hyl] at K
 have KS:Hid (∀W,Below w.heap.size w W→W.cell? ⟨g1,o1+1,none⟩=some (.int .i64 c)∧W.cell? ⟨g1,o1+2,none⟩=some (.slice (some ⟨b,off,none⟩) n c1)):=I (fun W hb=>⟨(hb.cell (p:=⟨g1,o1+1,none⟩) hg1).trans p1,(hb.cell (p:=⟨g1,o1+2,none⟩) hg1).trans p2⟩)
 have hpq:p≤q:=by omega
 have hqc:q≤c1:=by omega
 have t9:q - p=m:=by omega
 have t8:¬ (c1=p):=by omega
 have HQ:=I hq
 clear hx h1 h2 hye hys hyl hxl p1 p2 hp hm hadd hqe hu hq
 go_enter Tryz.func103,Tryz.ntmps103
 go_upto_region 1 with fail
 have hb1:=aE w (.cells #[.int .i64 0,.int .i64 0,.slice none 0 0] 37)
 have RB0:=I (BoxN.alloc w #[.int .i64 0,.int .i64 0,.slice none 0 0] 37)
 obtain ⟨W1,hW1⟩:∃W,W=w.alloc (.cells #[.int .i64 0,.int .i64 0,.slice none 0 0] 37):=⟨_,rfl⟩
 have hz1:W1.heap.size=w.heap.size+1:=by rw [hW1];simp
 rw [←hW1] at hb1 RB0 ⊢
 have HS:=I (KS.out W1 hb1)
 have HB1:=I hb1
 clear hb1 hW1
 refine aL 26 [24] (fun W=>W.cell? ⟨g1,o1+1,none⟩=some (.int .i64 c)∧W.cell? ⟨g1,o1+2,none⟩=some (.slice (some ⟨b,off,none⟩) n c1)) (fun _ _ _=>False) (DB m ys) (by kernel_rfl) (by kernel_rfl) HS.out (fun W q h=>by simpa using h) ?_
 iterate 24 (refine aD (by rfl) HS.out (fun K hK W hW=>?_);obtain ⟨d1,d2⟩:=hW;go_simp;refine hK _ ?_;clear hK K d1 d2)
 refine aF (by rfl) HS.out (fun K' hK dq=>?_)
 go_simp
 refine ⟨(K.out _ (below_drewN HB1.out dq)).mono ?_,?_⟩
 ·rintro e w1 ⟨a2,c2,rfl,HX,hb⟩
  exact ⟨_,rfl,_,_,rfl,HX.out,hb⟩
 rintro v w2 ⟨a2,c2,rfl,hx2,hb2⟩
 have hb3:=aA (below_drewN HB1.out dq) hb2
 have HS2:=I (KS.out w2 hb3)
 have HX2:=I hx2;have HB3:=I hb3
 have RB2:=I ((RB0.out.below (below_drewN (O _ _) dq)).below hb2)
 refine ⟨KS.out w2 hb3,hK _ _ ?_⟩
 clear hK K' hb2 hx2 hb3
 refine aD (by rfl) HS2.out (fun K hK W hW=>?_)
 go_simp
 refine hK _ ?_
 clear hK K hW
 refine aP (fun q3=>?_)
 have HX3:=I (HX2.out.below (below_drewN (O _ _) q3))
 have HB4:=I (below_drewN HB3.out q3)
 have RB3:=I (RB2.out.below (below_drewN (O _ _) q3))
 have hz3:w2.heap.size≤(w2.drewN q3).heap.size:=by simp
 have hzq:(W1.drewN dq).heap.size=w.heap.size+1:=hz1
 generalize w2.drewN q3=w3 at HX3 HB4 RB3 hz3 ⊢
 obtain ⟨rl,u0,u1,u2,uf⟩:=RB3.out.three
 have hfin:=bF (g:=w.heap.size) (lo':=w.heap.size) (i:=0) HX3.out (by rw [hzq];omega) (by rw [hzq];omega) hz3 [.int .i64 k,.int .i64 c,.slice a2 m c2]
 have hbf:=aG HB4.out (g:=w.heap.size) (J _) 0 [.int .i64 k,.int .i64 c,.slice a2 m c2]
 have HF:=I hfin;have HBF:=I hbf
 clear hfin hbf HX2 HB3 RB2 HS HS2 KS K
 go_wp2
 try simp only [Exit.inBlock,Exit.then]
 refine bodyPost_ret (v:=.agg #[.int .i64 k,.int .i64 c,.slice a2 m c2]) (by simp [results,Tryz.results103,go_sem,u0,u1,u2]) rfl ⟨_,_,_,rfl,HF,I rfl,HBF.out⟩
def yF (R:Option (List OpP × List Int)) (w:World) (e:Ending) (w':World):Prop:=∃ad n cap wa m wk b,e=.returned (.tuple #[.slice ad n cap,.slice wa m wk,.bool b]) ∧
 Hid (b=R.isSome∧(b=true→∃C ws,R=some (C,ws)∧ws.length=m∧(∀x∈ws,(Lit.int .i64 x).wf=true)∧TN w w' ad n cap C [bQ wa wk ws]))∧Below w.heap.size w w'
theorem cS {ls:List LayP} {X Y:TenP} {num:Nat} (h:fR ls X Y=false):bH ls X Y num=none:=by unfold bH;rw [h];rfl
theorem TN.start (w:World):TN w ((w.alloc (.cells #[] 74)).alloc (.cells #[] 2)) (some ⟨w.heap.size,0,none⟩) 0 0 [] [bQ (some ⟨w.heap.size+1,0,none⟩) 0 []]:=by
 have h1:=(OwnR.nil1 lI w).below (aE (w.alloc (.cells #[] 74)) (.cells #[] 2))
 have hz:(w.alloc (.cells #[] 74)).heap.size=w.heap.size+1:=by simp
 have ho:=World.ownsRow_made (base:=w.heap.size+1) (e:=2) (size:=1) (w.alloc (.cells #[] 74)) #[] 0 (by rw [hz];exact J _) (Nat.zero_le _) rfl
 have hE:Own ((w.alloc (.cells #[] 74)).alloc (.cells #[] 2)) (w.heap.size+1) ((w.alloc (.cells #[] 74)).alloc (.cells #[] 2)).heap.size [bQ (some ⟨w.heap.size+1,0,none⟩) 0 []]:=by
  rw [hz] at ho
  exact Own.one (Row.mk' ho)
 rw [show (w.alloc (.cells #[] lI.e)).heap.size=w.heap.size+1 by simp] at h1
 exact ⟨[],rfl,rfl,⟨OwnX.beside h1 hE (by omega) (by simp),bZ w _ _⟩⟩
def VM (b1 b2 b3:Bool) (px py:Value) (f:FuncId) (args:Array Value) (v:Value):Prop:=(f=53→v=.bool b1)∧(f=54→(args=#[px]→v=.bool b2)∧(args=#[py]→v=.bool b3))
theorem pO (w:World) (mb mo xb xo yb yo:Nat) (ma:Option Addr) (mk:Nat) (ls:List LayD) (xr xc yr yc:Int) (xa ya:Option Addr) (xk yk:Nat) (xs ys:List Nat) (num:Nat) (hnum:num < 4294967296)
  (hm:w.cell? ⟨mb,mo,none⟩=some (.slice ma ls.length mk)) (hls:SeeR aX w ma mk ls)
  (hx0:w.cell? ⟨xb,xo,none⟩=some (.int .i64 xr)) (hx1:w.cell? ⟨xb,xo+1,none⟩=some (.int .i64 xc)) (hx2:w.cell? ⟨xb,xo+2,none⟩=some (.slice xa xs.length xk)) (hx:F32s w xa xk xs)
  (hy0:w.cell? ⟨yb,yo,none⟩=some (.int .i64 yr)) (hy1:w.cell? ⟨yb,yo+1,none⟩=some (.int .i64 yc)) (hy2:w.cell? ⟨yb,yo+2,none⟩=some (.slice ya ys.length yk)) (hy:F32s w ya yk ys) (hxy:xb≠yb) (hA:(dG (ls.map LayD.toLayP) && (dZ xr xc xs.length && (dZ yr yc ys.length && decide (xr=yr))))=false) :
  Calls Tryz.prog 83 #[.pointer (some ⟨mb,mo,none⟩),.pointer (some ⟨xb,xo,none⟩),.pointer (some ⟨yb,yo,none⟩),.float .f32 num] w (yF (bH (ls.map fun l=>l.toLayP.can) ⟨xr,xc,xs.map (cn .f32)⟩ ⟨yr,yc,ys.map (cn .f32)⟩ (cn .f32 num)) w):=by
 obtain ⟨i0,hi0,hz0,hzs,hz2⟩:=info_parts lK
 obtain ⟨j0,hj0,jz0,jzs,jz2⟩:=info_parts kM
 obtain ⟨R,hR⟩:∃R,R=bH (ls.map fun l=>l.toLayP.can) ⟨xr,xc,xs.map (cn .f32)⟩ ⟨yr,yc,ys.map (cn .f32)⟩ (cn .f32 num):=⟨_,rfl⟩
 rw [←hR]
 have HR:=I hR
 have hgood:fR (ls.map fun l=>l.toLayP.can) ⟨xr,xc,xs.map (cn .f32)⟩ ⟨yr,yc,ys.map (cn .f32)⟩=(dG (ls.map LayD.toLayP) && (dZ xr xc xs.length && (dZ yr yc ys.length && (decide (xr=yr) && (decide (xc=(cG (ls.map LayD.toLayP) 0).i) && decide (yc=(cG (ls.map LayD.toLayP) (ls.length - 1)).o)))))):=by
  have e:(ls.map fun l=>l.toLayP.can)=(ls.map LayD.toLayP).map LayP.can:=by rw [List.map_map];rfl
  unfold fR
  rw [e,mS,(gE _ _).1,(gE _ _).2]
  simp only [List.length_map]
 have HG:=I hgood
 clear hR hgood
 obtain ⟨n,hN⟩:∃n,n=xs.length:=⟨_,rfl⟩
 obtain ⟨m,hM⟩:∃m,m=ys.length:=⟨_,rfl⟩
 obtain ⟨L,hL⟩:∃L,L=ls.length:=⟨_,rfl⟩
 rw [←hN] at hx2 HG
 rw [←hM] at hy2 HG
 rw [←hL] at hm HG
 have HN:=I hN;have HM:=I hM;have HL:=I hL
 have hnm:=Nat.le_trans hx.len hx.cap
 have hmm:=Nat.le_trans hy.len hy.cap
 rw [←hN] at hnm
 rw [←hM] at hmm
 have HLS:=I hls;have HX:=I hx;have HY:=I hy
 have CW:Hid (∀W,Below w.heap.size w W→W.cell? ⟨mb,mo,none⟩=some (.slice ma L mk)∧(W.cell? ⟨xb,xo,none⟩=some (.int .i64 xr)∧W.cell? ⟨xb,xo+1,none⟩=some (.int .i64 xc)∧W.cell? ⟨xb,xo+2,none⟩=some (.slice xa n xk))∧W.cell? ⟨yb,yo,none⟩=some (.int .i64 yr)∧W.cell? ⟨yb,yo+1,none⟩=some (.int .i64 yc)∧W.cell? ⟨yb,yo+2,none⟩=some (.slice ya m yk)):=I (fun W hb=>by
  have f:∀ {p:Addr} {v:Value},w.cell? p=some v→W.cell? p=some v:=fun h=>(hb.cell (World.block_lt_of_cell? _ _ h)).trans h
  exact ⟨f hm,⟨f hx0,f hx1,f hx2⟩,f hy0,f hy1,f hy2⟩)
 have KM:=I (fun W (hb:Below w.heap.size w W)=>gT W mb mo ma mk ls (HLS.out.below hb) (by rw [←HL.out];exact (CW.out W hb).1))
 have KX:=I (fun W (hb:Below w.heap.size w W)=>fZ W xb xo xr xc xa n xk hnm (CW.out W hb).2.1.1 (CW.out W hb).2.1.2.1 (CW.out W hb).2.1.2.2)
 have KY:=I (fun W (hb:Below w.heap.size w W)=>fZ W yb yo yr yc ya m yk hmm (CW.out W hb).2.2.1 (CW.out W hb).2.2.2.1 (CW.out W hb).2.2.2.2)
 have hpxy:(.pointer (some ⟨xb,xo,none⟩):Value)≠.pointer (some ⟨yb,yo,none⟩):=by intro e;injection e with e;injection e with e;injection e with e;exact hxy e
 have HPXY:=I hpxy
 clear hm hls hx0 hx1 hx2 hx hy0 hy1 hy2 hy hN hM hL hxy hnm hmm hpxy
 have hts:=TN.start w
 have HT:=I hts
 clear hts
 obtain ⟨v1,hv1⟩:∃W,W=(w.alloc (.cells #[] 74)).alloc (.cells #[] 2):=⟨_,rfl⟩
 rw [←hv1] at HT
 have HV1:=I hv1
 clear hv1
 have VN:Hid (∀b1 b2 b3,VM b1 b2 b3 (.pointer (some ⟨xb,xo,none⟩)) (.pointer (some ⟨yb,yo,none⟩)) 53 #[.pointer (some ⟨mb,mo,none⟩)] (.bool b1)∧VM b1 b2 b3 (.pointer (some ⟨xb,xo,none⟩)) (.pointer (some ⟨yb,yo,none⟩)) 54 #[.pointer (some ⟨xb,xo,none⟩)] (.bool b2)∧VM b1 b2 b3 (.pointer (some ⟨xb,xo,none⟩)) (.pointer (some ⟨yb,yo,none⟩)) 54 #[.pointer (some ⟨yb,yo,none⟩)] (.bool b3)):=I (fun b1 b2 b3=>⟨⟨fun _=>rfl,fun e=>absurd e (by decide)⟩,⟨fun e=>absurd e (by decide),fun _=>⟨fun _=>rfl,fun e=>by injection e with e;injection e with e;exact absurd e HPXY.out⟩⟩,⟨fun e=>absurd e (by decide),fun _=>⟨fun e=>by injection e with e;injection e with e;exact absurd e.symm HPXY.out,fun _=>rfl⟩⟩⟩)
 rw [←HN.out,←HM.out] at hA
 cases e1:dG (ls.map LayD.toLayP)
 ·rw [e1] at KM
  have HRN:Hid (R=none):=I (by rw [HR.out];exact cS (by rw [HG.out];simp [e1]))
  clear e1
  obtain ⟨hc0,⟨hc1,hc2,hc3⟩,hc4,hc5,hc6⟩:=CW.out v1 HT.out.below
  try clear CL
  try clear HLN
  try clear HQ
  clear HG HR HLS HX HY HN HM HL CW HPXY hi0 hz0 hzs hz2 hj0 jz0 jzs jz2
  go_enter Tryz.func83,Tryz.ntmps83
  go_upto_region 3 with fail
  rw [←HV1.out]
  refine aN (VM false false false (.pointer (some ⟨xb,xo,none⟩)) (.pointer (some ⟨yb,yo,none⟩))) (by kernel_rfl) (by kernel_rfl) ?_
  iterate 1 (first | (refine aY (by rfl) (fun K hK=>?_);go_simp;refine hK _ ?_;clear hK K) | (refine aR (by rfl) (fun K hK nq=>?_);go_simp;refine hK _ ?_;clear hK K))
  refine aR (by rfl) (fun K hK nq=>?_)
  go_simp
  refine ⟨(KM.out _ (HT.out.move (below_drewN (O _ _) nq)).below).mono ?_,?_⟩
  ·rintro e w' ⟨rfl,hd⟩
   exact ⟨_,rfl,bI hd,(VN.out false false false).1⟩
  rintro v hv
  obtain rfl:=hv.1 rfl
  refine hK _ ?_
  clear hK K hv
  iterate 3 (first | (refine aY (by rfl) (fun K hK=>?_);go_simp;refine hK _ ?_;clear hK K) | (refine aR (by rfl) (fun K hK nq=>?_);go_simp;refine hK _ ?_;clear hK K))
  iterate 1 (first | (refine aY (by rfl) (fun K hK=>?_);go_simp;refine hK _ ?_;clear hK K) | (refine aR (by rfl) (fun K hK nq=>?_);go_simp;refine hK _ ?_;clear hK K))
  iterate 4 (first | (refine aY (by rfl) (fun K hK=>?_);go_simp;refine hK _ ?_;clear hK K) | (refine aR (by rfl) (fun K hK nq=>?_);go_simp;refine hK _ ?_;clear hK K))
  iterate 1 (first | (refine aY (by rfl) (fun K hK=>?_);go_simp;refine hK _ ?_;clear hK K) | (refine aR (by rfl) (fun K hK nq=>?_);go_simp;refine hK _ ?_;clear hK K))
  iterate 47 (first | (refine aY (by rfl) (fun K hK=>?_);go_simp;refine hK _ ?_;clear hK K) | (refine aR (by rfl) (fun K hK nq=>?_);go_simp;refine hK _ ?_;clear hK K))
  refine bD ?_
  rintro w' ⟨q,rfl⟩
  have HT1:=I (HT.out.move (below_drewN (O _ _) q))
  clear hc0 hc1 hc2 hc3 hc4 hc5 hc6 HT HV1 KM KX KY VN
  generalize v1.drewN q=v2 at HT1 ⊢
  go_wp2
  go_ret3
  exact ⟨_,_,_,_,_,_,false,rfl,I ⟨by rw [HRN.out];rfl,fun h=>by cases h⟩,HT1.out.below⟩
 rw [e1] at KM
 cases e2:dZ xr xc n
 ·rw [e2] at KX
  have HRN:Hid (R=none):=I (by rw [HR.out];exact cS (by rw [HG.out];simp [e2]))
  clear e1 e2
  obtain ⟨hc0,⟨hc1,hc2,hc3⟩,hc4,hc5,hc6⟩:=CW.out v1 HT.out.below
  try clear CL
  try clear HLN
  try clear HQ
  clear HG HR HLS HX HY HN HM HL CW HPXY hi0 hz0 hzs hz2 hj0 jz0 jzs jz2
  go_enter Tryz.func83,Tryz.ntmps83
  go_upto_region 3 with fail
  rw [←HV1.out]
  refine aN (VM true false false (.pointer (some ⟨xb,xo,none⟩)) (.pointer (some ⟨yb,yo,none⟩))) (by kernel_rfl) (by kernel_rfl) ?_
  iterate 1 (first | (refine aY (by rfl) (fun K hK=>?_);go_simp;refine hK _ ?_;clear hK K) | (refine aR (by rfl) (fun K hK nq=>?_);go_simp;refine hK _ ?_;clear hK K))
  refine aR (by rfl) (fun K hK nq=>?_)
  go_simp
  refine ⟨(KM.out _ (HT.out.move (below_drewN (O _ _) nq)).below).mono ?_,?_⟩
  ·rintro e w' ⟨rfl,hd⟩
   exact ⟨_,rfl,bI hd,(VN.out true false false).1⟩
  rintro v hv
  obtain rfl:=hv.1 rfl
  refine hK _ ?_
  clear hK K hv
  iterate 3 (first | (refine aY (by rfl) (fun K hK=>?_);go_simp;refine hK _ ?_;clear hK K) | (refine aR (by rfl) (fun K hK nq=>?_);go_simp;refine hK _ ?_;clear hK K))
  refine aR (by rfl) (fun K hK nq=>?_)
  go_simp
  refine ⟨(KX.out _ (HT.out.move (below_drewN (O _ _) nq)).below).mono ?_,?_⟩
  ·rintro e w' ⟨rfl,hd⟩
   exact ⟨_,rfl,bI hd,(VN.out true false false).2.1⟩
  rintro v hv
  obtain rfl:=(hv.2 rfl).1 rfl
  refine hK _ ?_
  clear hK K hv
  iterate 4 (first | (refine aY (by rfl) (fun K hK=>?_);go_simp;refine hK _ ?_;clear hK K) | (refine aR (by rfl) (fun K hK nq=>?_);go_simp;refine hK _ ?_;clear hK K))
  iterate 1 (first | (refine aY (by rfl) (fun K hK=>?_);go_simp;refine hK _ ?_;clear hK K) | (refine aR (by rfl) (fun K hK nq=>?_);go_simp;refine hK _ ?_;clear hK K))
  iterate 47 (first | (refine aY (by rfl) (fun K hK=>?_);go_simp;refine hK _ ?_;clear hK K) | (refine aR (by rfl) (fun K hK nq=>?_);go_simp;refine hK _ ?_;clear hK K))
  refine bD ?_
  rintro w' ⟨q,rfl⟩
  have HT1:=I (HT.out.move (below_drewN (O _ _) q))
  clear hc0 hc1 hc2 hc3 hc4 hc5 hc6 HT HV1 KM KX KY VN
  generalize v1.drewN q=v2 at HT1 ⊢
  go_wp2
  go_ret3
  exact ⟨_,_,_,_,_,_,false,rfl,I ⟨by rw [HRN.out];rfl,fun h=>by cases h⟩,HT1.out.below⟩
 rw [e2] at KX
 cases e3:dZ yr yc m
 ·rw [e3] at KY
  have HRN:Hid (R=none):=I (by rw [HR.out];exact cS (by rw [HG.out];simp [e3]))
  clear e1 e2 e3
  obtain ⟨hc0,⟨hc1,hc2,hc3⟩,hc4,hc5,hc6⟩:=CW.out v1 HT.out.below
  try clear CL
  try clear HLN
  try clear HQ
  clear HG HR HLS HX HY HN HM HL CW HPXY hi0 hz0 hzs hz2 hj0 jz0 jzs jz2
  go_enter Tryz.func83,Tryz.ntmps83
  go_upto_region 3 with fail
  rw [←HV1.out]
  refine aN (VM true true false (.pointer (some ⟨xb,xo,none⟩)) (.pointer (some ⟨yb,yo,none⟩))) (by kernel_rfl) (by kernel_rfl) ?_
  iterate 1 (first | (refine aY (by rfl) (fun K hK=>?_);go_simp;refine hK _ ?_;clear hK K) | (refine aR (by rfl) (fun K hK nq=>?_);go_simp;refine hK _ ?_;clear hK K))
  refine aR (by rfl) (fun K hK nq=>?_)
  go_simp
  refine ⟨(KM.out _ (HT.out.move (below_drewN (O _ _) nq)).below).mono ?_,?_⟩
  ·rintro e w' ⟨rfl,hd⟩
   exact ⟨_,rfl,bI hd,(VN.out true true false).1⟩
  rintro v hv
  obtain rfl:=hv.1 rfl
  refine hK _ ?_
  clear hK K hv
  iterate 3 (first | (refine aY (by rfl) (fun K hK=>?_);go_simp;refine hK _ ?_;clear hK K) | (refine aR (by rfl) (fun K hK nq=>?_);go_simp;refine hK _ ?_;clear hK K))
  refine aR (by rfl) (fun K hK nq=>?_)
  go_simp
  refine ⟨(KX.out _ (HT.out.move (below_drewN (O _ _) nq)).below).mono ?_,?_⟩
  ·rintro e w' ⟨rfl,hd⟩
   exact ⟨_,rfl,bI hd,(VN.out true true false).2.1⟩
  rintro v hv
  obtain rfl:=(hv.2 rfl).1 rfl
  refine hK _ ?_
  clear hK K hv
  iterate 4 (first | (refine aY (by rfl) (fun K hK=>?_);go_simp;refine hK _ ?_;clear hK K) | (refine aR (by rfl) (fun K hK nq=>?_);go_simp;refine hK _ ?_;clear hK K))
  refine aR (by rfl) (fun K hK nq=>?_)
  go_simp
  refine ⟨(KY.out _ (HT.out.move (below_drewN (O _ _) nq)).below).mono ?_,?_⟩
  ·rintro e w' ⟨rfl,hd⟩
   exact ⟨_,rfl,bI hd,(VN.out true true false).2.2⟩
  rintro v hv
  obtain rfl:=(hv.2 rfl).2 rfl
  refine hK _ ?_
  clear hK K hv
  iterate 47 (first | (refine aY (by rfl) (fun K hK=>?_);go_simp;refine hK _ ?_;clear hK K) | (refine aR (by rfl) (fun K hK nq=>?_);go_simp;refine hK _ ?_;clear hK K))
  refine bD ?_
  rintro w' ⟨q,rfl⟩
  have HT1:=I (HT.out.move (below_drewN (O _ _) q))
  clear hc0 hc1 hc2 hc3 hc4 hc5 hc6 HT HV1 KM KX KY VN
  generalize v1.drewN q=v2 at HT1 ⊢
  go_wp2
  go_ret3
  exact ⟨_,_,_,_,_,_,false,rfl,I ⟨by rw [HRN.out];rfl,fun h=>by cases h⟩,HT1.out.below⟩
 rw [e3] at KY
 by_cases e4:xr=yr
 rotate_left
 ·have f1:(xr != yr)=true:=by simpa using e4
  have f2:(xr == yr)=false:=by simpa using e4
  have HRN:Hid (R=none):=I (by rw [HR.out];exact cS (by rw [HG.out];simp [e4]))
  clear e1 e2 e3 e4
  obtain ⟨hc0,⟨hc1,hc2,hc3⟩,hc4,hc5,hc6⟩:=CW.out v1 HT.out.below
  try clear CL
  try clear HLN
  try clear HQ
  clear HG HR HLS HX HY HN HM HL CW HPXY hi0 hz0 hzs hz2 hj0 jz0 jzs jz2
  go_enter Tryz.func83,Tryz.ntmps83
  go_upto_region 3 with fail
  rw [←HV1.out]
  refine aN (VM true true true (.pointer (some ⟨xb,xo,none⟩)) (.pointer (some ⟨yb,yo,none⟩))) (by kernel_rfl) (by kernel_rfl) ?_
  iterate 1 (first | (refine aY (by rfl) (fun K hK=>?_);go_simp;refine hK _ ?_;clear hK K) | (refine aR (by rfl) (fun K hK nq=>?_);go_simp;refine hK _ ?_;clear hK K))
  refine aR (by rfl) (fun K hK nq=>?_)
  go_simp
  refine ⟨(KM.out _ (HT.out.move (below_drewN (O _ _) nq)).below).mono ?_,?_⟩
  ·rintro e w' ⟨rfl,hd⟩
   exact ⟨_,rfl,bI hd,(VN.out true true true).1⟩
  rintro v hv
  obtain rfl:=hv.1 rfl
  refine hK _ ?_
  clear hK K hv
  iterate 3 (first | (refine aY (by rfl) (fun K hK=>?_);go_simp;refine hK _ ?_;clear hK K) | (refine aR (by rfl) (fun K hK nq=>?_);go_simp;refine hK _ ?_;clear hK K))
  refine aR (by rfl) (fun K hK nq=>?_)
  go_simp
  refine ⟨(KX.out _ (HT.out.move (below_drewN (O _ _) nq)).below).mono ?_,?_⟩
  ·rintro e w' ⟨rfl,hd⟩
   exact ⟨_,rfl,bI hd,(VN.out true true true).2.1⟩
  rintro v hv
  obtain rfl:=(hv.2 rfl).1 rfl
  refine hK _ ?_
  clear hK K hv
  iterate 4 (first | (refine aY (by rfl) (fun K hK=>?_);go_simp;refine hK _ ?_;clear hK K) | (refine aR (by rfl) (fun K hK nq=>?_);go_simp;refine hK _ ?_;clear hK K))
  refine aR (by rfl) (fun K hK nq=>?_)
  go_simp
  refine ⟨(KY.out _ (HT.out.move (below_drewN (O _ _) nq)).below).mono ?_,?_⟩
  ·rintro e w' ⟨rfl,hd⟩
   exact ⟨_,rfl,bI hd,(VN.out true true true).2.2⟩
  rintro v hv
  obtain rfl:=(hv.2 rfl).2 rfl
  refine hK _ ?_
  clear hK K hv
  iterate 47 (first | (refine aY (by rfl) (fun K hK=>?_);go_simp;refine hK _ ?_;clear hK K) | (refine aR (by rfl) (fun K hK nq=>?_);go_simp;refine hK _ ?_;clear hK K))
  refine bD ?_
  rintro w' ⟨q,rfl⟩
  have HT1:=I (HT.out.move (below_drewN (O _ _) q))
  clear hc0 hc1 hc2 hc3 hc4 hc5 hc6 HT HV1 KM KX KY VN
  generalize v1.drewN q=v2 at HT1 ⊢
  go_wp2
  go_ret3
  exact ⟨_,_,_,_,_,_,false,rfl,I ⟨by rw [HRN.out];rfl,fun h=>by cases h⟩,HT1.out.below⟩
 rw [e1,e2,e3,decide_eq_true e4] at hA
 cases hA
end
section
open Go
section
variable {P:Program} {ops:Array Oper} {C:World→Prop} {VC:FuncId→Array Value→Value→Prop} {Q:Act→Prop} {o:Oper} {rest:List Oper} {a:Act} {w0:World}
theorem aI (h0:C w0) (hw:Region.wanted o (yielded ops a.tmps)=true) (h:∀K:Act→Prop,(∀a,jV P ops C VC Q rest a→K a)→∀W:World,C W→UponC P VC C (fun v=>K (a.put o.dst v)) ((execOp a.eval o).run P W)) :
  jV P ops C VC Q (o :: rest) a :=
 jB h0 fun K hK W hW=>by rw [if_pos hw];exact h K hK W hW
theorem aO (h0:C w0) (hw:Region.wanted o (yielded ops a.tmps)=false) (h:∀K:Act→Prop,(∀a,jV P ops C VC Q rest a→K a)→K (a.put o.dst undef)) :
  jV P ops C VC Q (o :: rest) a :=
 jB h0 fun K hK W hW=>by rw [if_neg (by rw [hw];exact Bool.false_ne_true)];exact h K hK
end
end
section
open Go Go.RowKit
theorem Bh (w:World) (ad:Option Addr) (cap:Nat) (ls:List LayD) (h:SeeR aX w ad cap ls) (L:Nat) (hL:L=ls.length) (l:LayD) (hl:ls[0]? = some l) :
  Calls Tryz.prog 62 #[.agg #[.slice ad L cap]] w fun e w'=>e=.returned (.int .i64 l.i)∧Below w.heap.size w w':=by
 obtain ⟨b,off,rfl,hbl,⟨-,c1,-,-,-⟩,-,-⟩:=bG (h.below (aE w (.cells #[.slice ad L cap] 35))) hl
 have h0:0 < L:=by rw [hL];exact (List.getElem?_eq_some_iff.1 hl).1
 have hb:=aE w (.cells #[.slice (some ⟨b,off,none⟩) L cap] 35)
 have HB:=I hb
 obtain ⟨x,hx⟩:∃x,x=l.i:=⟨_,rfl⟩
 rw [←hx] at c1 ⊢
 rw [show off+0 * 5+1=off+1 by omega] at c1
 clear hx h hL hl hbl hb
 go_enter Tryz.func62,Tryz.ntmps62
 go_wp2
 go_ret
 exact ⟨rfl,HB.out⟩
theorem Ac (w:World) (ad:Option Addr) (cap:Nat) (ls:List LayD) (h:SeeR aX w ad cap ls) (L q:Nat) (hL:L=ls.length) (hm:L≤6) (hq:q+1=L) (l:LayD) (hl:ls[q]? = some l) :
  Calls Tryz.prog 63 #[.agg #[.slice ad L cap]] w fun e w'=>e=.returned (.int .i64 l.o)∧Below w.heap.size w w':=by
 obtain ⟨b,off,rfl,hbl,⟨-,-,c2,-,-⟩,-,-⟩:=bG (h.below (aE w (.cells #[.slice ad L cap] 35))) hl
 have h0:q < L:=by omega
 have h1:(q:Int) < (L:Int):=by omega
 have h2:(0:Int)≤(q:Int):=by omega
 have h3:IntKind.i64.wrap ((L:Int) - 1)=(q:Int):=by rw [IntKind.wrap_i64];omega
 have hb:=aE w (.cells #[.slice (some ⟨b,off,none⟩) L cap] 35)
 have HB:=I hb
 obtain ⟨x,hx⟩:∃x,x=l.o:=⟨_,rfl⟩
 rw [←hx] at c2 ⊢
 clear hx h hL hl hbl hb hq
 go_enter Tryz.func63,Tryz.ntmps63
 go_wp2
 go_ret
 exact ⟨rfl,HB.out⟩
theorem TN.start0 (w:World):TN w (w.alloc (.cells #[] 74)) (some ⟨w.heap.size,0,none⟩) 0 0 [] []:=by
 have h1:OwnR lI (w.alloc (.cells #[] 74)) w.heap.size (w.alloc (.cells #[] 74)).heap.size (some ⟨w.heap.size,0,none⟩) 0 0 []:=OwnR.nil1 lI w
 exact ⟨[],rfl,rfl,⟨⟨by have:=h1.own;simpa using this,rfl,fun a ha=>(nomatch ha)⟩,aE w _⟩⟩
theorem TN.allocI {w0 W:World} {ad:Option Addr} {n cap:Nat} {C:List OpP} {E:List RowD} (h:TN w0 W ad n cap C E):TN w0 (W.alloc (.cells #[] 2)) ad n cap C (bQ (some ⟨W.heap.size,0,none⟩) 0 [] :: E):=by
 obtain ⟨us,h1,h2,h3⟩:=h
 have hb:=aE W (.cells #[] 2)
 have h4:=h3.move hb
 have ho:=World.ownsRow_made (base:=w0.heap.size) (e:=2) (size:=1) W #[] 0 h3.below.size (Nat.zero_le _) rfl
 refine ⟨us,h1,h2,⟨⟨?_,h4.own.len,h4.own.ok⟩,h4.below⟩⟩
 have h5:Own (W.alloc (.cells #[] 2)) w0.heap.size (W.alloc (.cells #[] 2)).heap.size (bQ (some ⟨W.heap.size,0,none⟩) 0 [] :: (⟨lI.e,lI.size,ad,us.length,cap,us.flatMap lI.cells⟩ :: (us.flatMap lI.inn ++ E))):=by
  refine Own.cons (Row.mk' ho) h4.own.own fun y hy g e1 e2=>?_
  have e3:g=W.heap.size:=by
   have e4:(Value.slice (some ⟨W.heap.size,0,none⟩) 0 0).ownBlock=some g:=e1
   cases e4;rfl
  have h6:=(h3.own.own.row y hy).own.lt g e2
  omega
 exact h5.perm ((List.Perm.swap _ _ _).trans (List.Perm.cons _ List.perm_middle.symm))
theorem sV {P:Program} {ops:Array Oper} {rest:List Oper} {o:Oper} {a:Act} {Q:Exit→Act→World→Prop} {e:TypeId} {W:World} {cs:Array Value} (hgd:o.guard=none) (s x:Operand) (t:TypeId)
  (ho:o.op=.call { callee:=.builtin .append,args:=#[s,x],argTypes:=#[t,t] })
  (base:Nat) (i:TypeInfo) (z:Value) (size bytes m:Nat) (ht:P.underlying t=some (.slice e)) (hi:P.info? e=some i) (hz:i.zero=some z)
  (hsize:i.size=size) (hby:i.bytes=bytes) (hzs:z.cells.size=size) (hsz:0 < size)
  (hcs:cs.size=m * size) (h1:∀u∈cs.toList,u.oneCell'=true)
  (v:Value) (n:Nat) (xs:List Value) (hs:a.eval s=v) (hown:W.ownsRow base e size v n xs) (hx:a.eval x=.slice (some ⟨W.heap.size,0,none⟩) m m)
  (h63:n+m≤maxLen) (hbytes:(n+m) * bytes≤140737488355328) (hbase:base≤W.heap.size)
  (h:∀v' w',w'.ownsRow base e size v' (n+m) (xs ++ cs.toList)→(W.alloc (.cells cs e)).grownBy w' v.ownBlock→(v'.ownBlock=v.ownBlock∨v'.ownBlock=some (W.heap.size+1))→wpList P ops Q rest (a.put o.dst v') w'):wpList P ops Q (o :: rest) a (W.alloc (.cells cs e)):=by
 refine wpList_append_own_at (W.alloc (.cells cs e)) hgd s x t ho base e i z size bytes ht hi hz hsize hby hzs hsz v n xs hs (hown.alloc _) ⟨W.heap.size,0,none⟩ m m cs.toList hx (by simpa using hcs) ?_ h1 h63 hbytes (by simp;omega) ?_
 ·intro j u hj
  rw [Addr.add_lit,World.cell?_alloc_at _ _ _ _ rfl]
  simpa using hj
 ·intro v' w' h2 hg _ hat
  exact h v' w' h2 hg (by simpa using hat)
section
variable {w0 W w2:World} {ad:Option Addr} {n cap:Nat} {C:List OpP} {E:List RowD} {us:List OpD}
theorem TB.pushIs {wa:Option Addr} {wk:Nat} {ws js:List Int} {x:Obj} {v':Value} (h:TB w0 W ad cap us (bQ wa wk ws :: E))
  (h2:w2.ownsRow w0.heap.size 2 1 v' (ws.length+js.length) (ws.map (Value.int .i64) ++ js.map (Value.int .i64))) (hg:(W.alloc x).grownBy w2 (Value.slice wa ws.length wk).ownBlock) (hat:v'.ownBlock=(Value.slice wa ws.length wk).ownBlock∨v'.ownBlock=some (W.heap.size+1)) :
  ∃wa' wk',v'=.slice wa' (ws ++ js).length wk'∧TB w0 w2 ad cap us (bQ wa' wk' (ws ++ js) :: E):=by
 obtain ⟨wa',wk',rfl,_⟩:=Rd.of_owns h2
 have hl:(ws ++ js).length=ws.length+js.length:=by simp
 have p:∀(y:RowD),(⟨lI.e,lI.size,ad,us.length,cap,us.flatMap lI.cells⟩ :: (us.flatMap lI.inn ++ y :: E)).Perm (y :: (⟨lI.e,lI.size,ad,us.length,cap,us.flatMap lI.cells⟩ :: (us.flatMap lI.inn ++ E))):=fun y =>
  (List.Perm.cons _ List.perm_middle).trans (List.Perm.swap _ _ _)
 have h3:=(h.own.own.perm (p _)).below (aE W x)
 have hs:=hg.size
 simp at hs
 have hrow:=h.own.own.row _ (h.own.memE (List.mem_cons_self ..))
 have h4:=h3.grown (w':=w2) (hi':=w2.heap.size) (y:=bQ wa' wk' (ws ++ js)) hg (by
  refine Row.mk' ?_
  show w2.ownsRow w0.heap.size 2 1 (.slice wa' (ws ++ js).length wk') (ws ++ js).length ((ws ++ js).map (Value.int .i64))
  rw [hl,List.map_append];exact h2) (fun g e=>by
   have e0:(Value.slice wa' (ws.length+js.length) wk').ownBlock=some g:=by
    have e9:(Value.slice wa' (ws ++ js).length wk').ownBlock=some g:=e
    rw [hl] at e9;exact e9
   rcases hat with e1 | e1
   ·exact .inl (e1.symm.trans e0)
   ·right
    have e2:some g=some (W.heap.size+1):=e0.symm.trans e1
    cases e2
    omega) (by omega)
 refine ⟨wa',wk',by rw [hl],⟨h4.perm (p _).symm,h.own.len,h.own.ok⟩,?_⟩
 exact Below.grown (h.below.alloc h.below.size x) hg (by have:=h.below.size;simp;omega) (fun j e=>(hrow.own.lt j e).1)
theorem TN.goIs {wa:Option Addr} {wk:Nat} {ws:List Int} (h:TN w0 W ad n cap C (bQ wa wk ws :: E)):W.ownsRow w0.heap.size 2 1 (.slice wa ws.length wk) ws.length (ws.map (Value.int .i64)) ∧
  ∀(js:List Int) (x:Obj) (v':Value) (w2:World),w2.ownsRow w0.heap.size 2 1 v' (ws.length+js.length) (ws.map (Value.int .i64) ++ js.map (Value.int .i64))→(W.alloc x).grownBy w2 (Value.slice wa ws.length wk).ownBlock→(v'.ownBlock=(Value.slice wa ws.length wk).ownBlock∨v'.ownBlock=some (W.heap.size+1)) →
   ∃wa' wk',v'=.slice wa' (ws ++ js).length wk'∧TN w0 w2 ad n cap C (bQ wa' wk' (ws ++ js) :: E):=by
 obtain ⟨us,h1,h2,h3⟩:=h
 refine ⟨h3.ints (List.mem_cons_self ..),fun js x v' w2 h4 hg hat=>?_⟩
 obtain ⟨wa',wk',e,hx⟩:=h3.pushIs h4 hg hat
 exact ⟨wa',wk',e,us,h1,h2,hx⟩
end
theorem LN.ge {w0 W:World} {ad:Option Addr} {n cap:Nat} {C:List LayP} {E:List RowD} (h:LN w0 W ad n cap C E) {t:TypeId} {g:Nat} {cs:List Value} (hm:aZ t g cs∈E):w0.heap.size≤g:=by
 obtain ⟨us,h1,h2,h3,h4⟩:=h
 exact (h3.own.cell (h3.memE hm)).2.1.1
theorem F32s.belowLt {w w':World} {B b off cap:Nat} {xs:List Nat} (h:F32s w (some ⟨b,off,none⟩) cap xs) (hb:Below B w w') (hB:b < B):F32s w' (some ⟨b,off,none⟩) cap xs :=
 ⟨h.len,h.cap,h.rd.belowLt hb (fun b' off' e=>by cases e;exact hB),h.lt⟩
theorem wH (w0 W:World) (ad:Option Addr) (n c:Nat) (C:List LayP) (E:List RowD) (lb b off m ck q:Nat) (zs:List Nat) (h:LN w0 W ad n c C (aZ 25 lb [.slice (some ⟨b,off,none⟩) m ck] :: E)) (hx:F32s W (some ⟨b,off,none⟩) ck zs) (hbw:b < w0.heap.size) (hm:m=zs.length) (hq:q≤m) (hm2:m≤1000) :
  Calls Tryz.prog 76 #[.int .i64 q,.pointer (some ⟨lb,0,none⟩)] W fun e W' => ∃a k off' ck',e=.returned (.slice a q k) ∧
   Hid (LN w0 W' ad n c C (aZ 25 lb [.slice (some ⟨b,off',none⟩) (m - q) ck'] :: aK a k (zs.take q) :: E)∧F32s W' (some ⟨b,off',none⟩) ck' (zs.drop q)):=by
 obtain ⟨hlb,p0,pf⟩:=(h.box (List.mem_cons_self ..)).one1
 have hcut:=hx.cut3 q (by omega)
 have H1:=I hcut.1;have H2:=I hcut.2
 have hcl:=hx.len;rw [←hm] at hcl
 have hcap:=hx.cap
 have H:=I h
 have HM:=I hm
 clear h hx hcut hm pf
 have t3:IntKind.i64.wrap (q:Int)=(q:Int):=pG (by omega) (by omega)
 have t4:(0:Int)≤(q:Int):=by omega
 have t5:(q:Int)≤(ck:Int):=by omega
 have t6:(q:Int)≤(m:Int):=by omega
 have hl:(zs.take q).length=q:=by rw [List.length_take,←HM.out];omega
 have K:=I (kJ W (some ⟨b,off,none⟩) ck (zs.take q) H1.out (fun e=>nomatch e) (by omega))
 rw [hl] at K
 clear hl
 by_cases hck:ck=q
 ·have hqm:q=m:=by omega
  subst hck
  subst hqm
  go_enter Tryz.func76,Tryz.ntmps76
  go_upto_region 1 with fail
  go_wp2_with fail
  refine K.out.mono ?_
  rintro e w1 ⟨a,k,rfl,HR,hb⟩
  have HL:=I ((H.out.addF hb HR.out).swap)
  have H3:=I (H2.out.below hb)
  clear K HR hb H H1 H2 p0 hlb
  obtain ⟨hlb,p0,pf⟩:=(HL.out.box (List.mem_cons_self ..)).one1
  have hpf:=pf 0
  clear pf
  go_wp2
  go_ret
  have hge:=HL.out.ge (List.mem_cons_self ..)
  have h5:=HL.out.store 0 (.slice (some ⟨b,off,none⟩) 0 0)
  have hz:zs.drop ck=[]:=List.drop_eq_nil_of_le (by rw [←HM.out];omega)
  refine ⟨a,k,off,0,rfl,I ⟨by rw [Nat.sub_self];exact h5,?_⟩⟩
  rw [hz]
  exact ⟨Nat.zero_le _,Nat.zero_le _,.inl rfl,fun x hx=>(nomatch hx)⟩
 ·go_enter Tryz.func76,Tryz.ntmps76
  go_upto_region 1 with fail
  go_wp2_with fail
  refine K.out.mono ?_
  rintro e w1 ⟨a,k,rfl,HR,hb⟩
  have HL:=I ((H.out.addF hb HR.out).swap)
  have H3:=I (H2.out.below hb)
  clear K HR hb H H1 H2 p0 hlb
  obtain ⟨hlb,p0,pf⟩:=(HL.out.box (List.mem_cons_self ..)).one1
  have hpf:=pf 0
  clear pf
  go_wp2
  go_ret
  have hge:=HL.out.ge (List.mem_cons_self ..)
  have h5:=HL.out.store 0 (.slice (some ⟨b,off+q,none⟩) (m - q) (ck - q))
  exact ⟨a,k,off+q,ck - q,rfl,I ⟨h5,H3.out.belowLt ((O w0.heap.size w1).setCell (p:=⟨lb,0,none⟩) hge _) hbw⟩⟩
theorem oM {L:List LayP} {k:Nat} {l:LayP} (h:L[k]? = some l) (xs:List Nat):cT (L.take (k+1)) xs=cT (L.take k) xs ++ [kF l (xs.drop (dC (L.take k)))]∧dC (L.take (k+1))=dC (L.take k)+(l.ws.length+l.bs.length)∧dC (L.take (k+1))≤dC L:=by
 have e:L.take (k+1)=L.take k ++ [l]:=by rw [List.take_add_one,h];rfl
 have h3:dC (L.take (k+1))≤dC L:=by
  have:=zZ (L.take (k+1)) (L.drop (k+1))
  rw [List.take_append_drop] at this
  omega
 rw [e] at h3 ⊢
 exact ⟨AH _ _ _,BH _ _,h3⟩
theorem F32s.via {w W V:World} {b off cap:Nat} {xs:List Nat} (h:F32s W (some ⟨b,off,none⟩) cap xs) (h1:Below w.heap.size w W) (h2:Below w.heap.size w V) (hb:b < w.heap.size):F32s V (some ⟨b,off,none⟩) cap xs:=by
 refine ⟨h.len,h.cap,?_,h.lt⟩
 rcases h.rd with h3 | ⟨b',off',e,hl,hc⟩
 ·exact .inl h3
 ·cases e
  refine .inr ⟨b,off,rfl,Nat.lt_of_lt_of_le hb h2.size,fun i hi=>?_⟩
  rw [h2.cell (p:=⟨b,off+i,none⟩) hb,←h1.cell (p:=⟨b,off+i,none⟩) hb]
  exact hc i hi
theorem iR (w:World) (ma:Option Addr) (mk:Nat) (ls:List LayD) (b off ck:Nat) (xs:List Nat) (hls:SeeR aX w ma mk ls) (hx:F32s w (some ⟨b,off,none⟩) ck xs) (hbw:b < w.heap.size) (hn:ls.length≤6) (hi2:∀l∈ls,l.ws.length≤64∧l.bs.length≤8) (hcnt:xs.length=dC (ls.map LayD.toLayP)) :
  Calls Tryz.prog 45 #[.agg #[.slice ma ls.length mk],.slice (some ⟨b,off,none⟩) xs.length ck] w (sS ((cT (ls.map LayD.toLayP) xs).map LayP.can) w):=by
 obtain ⟨i0,hi0,hz0,hzs,hz2⟩:=info_parts pI
 have HLS:=I hls;have HI2:=I hi2;have HX:=I hx
 obtain ⟨L,hL⟩:∃L,L=ls.map LayD.toLayP:=⟨_,rfl⟩
 rw [←hL] at hcnt ⊢
 have HLL:=I hL
 have hmx:xs.length≤432:=by
  have h1:∀A:List LayD,(∀l∈A,l.ws.length≤64∧l.bs.length≤8)→dC (A.map LayD.toLayP)≤72 * A.length:=by
   intro A
   induction A with
   | nil=>intro _;exact Nat.zero_le _
   | cons a A ih =>
    intro h
    have h1:=h a (List.mem_cons_self ..)
    have h2:=ih (fun l hl=>h l (List.mem_cons_of_mem _ hl))
    rw [List.map_cons,kS,List.length_cons]
    omega
  have:=h1 ls hi2
  rw [←hL] at this
  omega
 obtain ⟨m,hM⟩:∃m,m=xs.length:=⟨_,rfl⟩
 rw [←hM] at hcnt hmx ⊢
 obtain ⟨n,hN⟩:∃n,n=ls.length:=⟨_,rfl⟩
 rw [←hN] at hn ⊢
 have HN:=I hN;have HM:=I hM;have HCNT:=I hcnt
 clear hls hi2 hx hN hM hL hcnt
 have HL0:=I ((((LN.nil w).alloc #[.slice ma n mk] 35).alloc #[.slice (some ⟨b,off,none⟩) m ck] 25).alloc #[.slice none 0 0] 35 |>.alloc #[.slice none 0 0] 35)
 go_enter Tryz.func45,Tryz.ntmps45
 go_upto_region 2 with fail
 obtain ⟨lB,hlB⟩:∃g,g=w.heap.size+1:=⟨_,rfl⟩
 obtain ⟨rB,hrB⟩:∃g,g=w.heap.size+1+1:=⟨_,rfl⟩
 obtain ⟨oB,hoB⟩:∃g,g=w.heap.size+1+1+1:=⟨_,rfl⟩
 obtain ⟨W3,hW3⟩:∃W,W=(((w.alloc (.cells #[.slice ma n mk] 35)).alloc (.cells #[.slice (some ⟨b,off,none⟩) m ck] 25)).alloc (.cells #[.slice none 0 0] 35)).alloc (.cells #[.slice none 0 0] 35):=⟨_,rfl⟩
 rw [←hoB,←hrB,←hlB,←hW3]
 have HLW:Hid (LN w W3 none 0 0 [] [aZ 25 lB [.slice (some ⟨b,off,none⟩) m ck],aZ 35 oB [.slice none 0 0],aZ 35 rB [.slice none 0 0]]∧W3.cell? ⟨w.heap.size,0,none⟩=some (.slice ma n mk)):=I (by
  have h:=HL0.out
  have e1:(w.alloc (.cells #[.slice ma n mk] 35)).heap.size=w.heap.size+1:=by simp
  have e2:((w.alloc (.cells #[.slice ma n mk] 35)).alloc (.cells #[.slice (some ⟨b,off,none⟩) m ck] 25)).heap.size=w.heap.size+1+1:=by simp
  have e3:(((w.alloc (.cells #[.slice ma n mk] 35)).alloc (.cells #[.slice (some ⟨b,off,none⟩) m ck] 25)).alloc (.cells #[.slice none 0 0] 35)).heap.size=w.heap.size+1+1+1:=by simp
  rw [e1,e2,e3,←hoB,←hrB,←hlB,←hW3] at h
  obtain ⟨-,q0,-⟩:=(h.box (t:=35) (g:=w.heap.size) (cs:=[.slice ma n mk]) (by simp)).one1
  refine ⟨(h.sub (E':=[aZ 35 oB [.slice none 0 0],aZ 35 rB [.slice none 0 0],aZ 25 lB [.slice (some ⟨b,off,none⟩) m ck]]) ?_).third,q0⟩
  exact (List.Sublist.cons_cons _ (List.Sublist.cons_cons _ (List.Sublist.cons_cons _ (List.nil_sublist _)))))
 have HFX:=I (HX.out.below ((HLW.out.1.below).mono (J _)))
 have HL:=I HLW.out.1
 have q0:=HLW.out.2
 clear hoB hrB hlB hW3 HL0 HLW
 go_wp2
 clear q0
 go_loopw [8,14] (fun p i wt => ∃k r off' ck':Nat,i=.int .i64 k∧k≤n∧r+dC (L.take k)=m∧∃ad cap,Hid (LN w wt ad k cap ((cT (L.take k) xs).map LayP.can) [aZ 25 lB [.slice (some ⟨b,off',none⟩) r ck'],aZ 35 oB [.slice ad k cap],aZ 35 rB [.slice none 0 0]]∧F32s wt (some ⟨b,off',none⟩) ck' (xs.drop (dC (L.take k))))) (fun p i wt=>n - (intOf i).toNat)
 case atStart=>exact ⟨0,m,off,ck,rfl,Nat.zero_le _,rfl,none,0,I ⟨HL.out,HFX.out⟩⟩
 case round =>
  obtain ⟨k,r,off',ck',rfl,hk,hr,ad,cap,HH⟩:=hrel
  by_cases hlt:k < n
  ·obtain ⟨l,hl⟩:=getElem?_lt (show k < ls.length by rw [←HN.out];exact hlt)
   have hii:=HI2.out l (List.mem_of_getElem? hl)
   have hLk:L[k]? = some l.toLayP:=by rw [HLL.out,List.getElem?_map,hl];rfl
   obtain ⟨ht1,ht2,ht3⟩:=oM hLk xs
   have hb0:=HH.out.1.below
   obtain ⟨-,-,-,-,-,-,hok⟩:=bG HLS.out hl
   obtain ⟨b1,off1,rfl,hb,⟨c0,c1,c2,c3,c4⟩,-,-⟩:=bG (HLS.out.below hb0) hl
   have HTK:=I ht1;have HTC:=I ht2;have HOK:=I hok
   obtain ⟨⟨kk,li,lo,lws,lbs⟩,wa,wk,ba,bk⟩:=l
   simp only at c0 c1 c2 c3 c4 hii ht2
   obtain ⟨m1,hm1⟩:∃m,m=lws.length:=⟨_,rfl⟩
   obtain ⟨m2,hm2⟩:∃m,m=lbs.length:=⟨_,rfl⟩
   rw [←hm1] at c3 hii ht2;rw [←hm2] at c4 hii ht2
   have HM1:=I hm1;have HM2:=I hm2
   have hcm:=HCNT.out
   obtain ⟨cn0,hcn0⟩:∃q,q=dC (L.take k):=⟨_,rfl⟩
   rw [←hcn0] at ht2 hr
   rw [ht2] at ht3
   have hrm:m1+m2≤r:=by omega
   have HCN:=I hcn0
   have HL1:=I HH.out.1
   obtain ⟨zs,hzs⟩:∃zs,zs=xs.drop (dC (L.take k)):=⟨_,rfl⟩
   have HF1:=I (show F32s wr (some ⟨b,off',none⟩) ck' zs by rw [hzs];exact HH.out.2)
   have HZS:=I hzs
   have hzl:r=zs.length:=by rw [hzs,List.length_drop,←HM.out,←HCN.out];omega
   have HZL:=I hzl
   clear hm1 hm2 hl hLk ht1 ht2 ht3 hb0 hok hcn0 HH hzs hzl hcm
   have HL2:=I ((HL1.out.alloc #[.int .i64 kk,.int .i64 li,.int .i64 lo,.slice wa m1 wk,.slice ba m2 bk] 99).swap)
   go_upto_region 6 with fail
   replace HF1:=I (HF1.out.below (aE wr (.cells #[.int .i64 kk,.int .i64 li,.int .i64 lo,.slice wa m1 wk,.slice ba m2 bk] 99)))
   clear c0 c1 c2 c3 c4 HL1 hb
   generalize wr.alloc (.cells #[.int .i64 kk,.int .i64 li,.int .i64 lo,.slice wa m1 wk,.slice ba m2 bk] 99)=W4 at HL2 HF1 ⊢
   generalize wr.heap.size=lb at HL2 ⊢
   obtain ⟨-,d0,d1,d2,d3,d4,-⟩:=(HL2.out.box (t:=99) (g:=lb) (List.mem_cons_of_mem _ (List.mem_cons_self ..))).five
   have K:=I (wH w W4 ad k cap _ _ lB b off' r ck' m1 zs HL2.out HF1.out hbw HZL.out (by omega) (by omega))
   go_wp2_with fail
   refine K.out.mono ?_
   rintro e w5 ⟨a5,k5,off5,ck5,rfl,HT5⟩
   have HL3:=I (HT5.out.1.third)
   have HF5:=I HT5.out.2
   clear K d0 d1 d2 d3 d4 HL2 HF1 HT5
   obtain ⟨hl5,d0,d1,d2,d3,d4,hf⟩:=(HL3.out.box (List.mem_cons_self ..)).five
   have hf3:=hf 3
   clear hf
   go_upto_region 7 with fail
   have HL4:=I ((HL3.out.store 3 (.slice a5 m1 k5)).swap)
   replace HF5:=I (HF5.out.belowLt ((O w.heap.size w5).setCell (p:=⟨lb,3,none⟩) (HL3.out.ge (List.mem_cons_self ..)) (.slice a5 m1 k5)) hbw)
   clear HL3 d0 d1 d2 d3 d4 hf3 hl5
   generalize w5.setCell ⟨lb,3,none⟩ (.slice a5 m1 k5)=W6 at HL4 HF5 ⊢
   have HL4:Hid (LN w W6 ad k cap ((cT (L.take k) xs).map LayP.can) (aZ 25 lB [.slice (some ⟨b,off5,none⟩) (r - m1) ck5] :: aZ 99 lb [.int .i64 kk,.int .i64 li,.int .i64 lo,.slice a5 m1 k5,.slice ba m2 bk] :: aK a5 k5 (zs.take m1) :: [aZ 35 oB [.slice ad k cap],aZ 35 rB [.slice none 0 0]])):=HL4
   obtain ⟨-,d0,d1,d2,d3,d4,-⟩:=(HL4.out.box (t:=99) (g:=lb) (List.mem_cons_of_mem _ (List.mem_cons_self ..))).five
   have K:=I (wH w W6 ad k cap _ _ lB b off5 (r - m1) ck5 m2 (zs.drop m1) HL4.out HF5.out hbw (by rw [List.length_drop,←HZL.out]) (by omega) (by omega))
   go_wp2_with fail
   refine K.out.mono ?_
   rintro e w7 ⟨a7,k7,off7,ck7,rfl,HT7⟩
   have HL5:=I (HT7.out.1.third)
   have HF7:=I HT7.out.2
   clear K d0 d1 d2 d3 d4 HL4 HF5 HT7
   obtain ⟨hl7,d0,d1,d2,d3,d4,hf⟩:=(HL5.out.box (List.mem_cons_self ..)).five
   have hf4:=hf 4
   clear hf
   go_upto_region 8 with fail
   have HL6:=I (HL5.out.store 4 (.slice a7 m2 k7))
   replace HF7:=I (HF7.out.belowLt ((O w.heap.size w7).setCell (p:=⟨lb,4,none⟩) (HL5.out.ge (List.mem_cons_self ..)) (.slice a7 m2 k7)) hbw)
   clear HL5 d0 d1 d2 d3 d4 hf4 hl7
   generalize w7.setCell ⟨lb,4,none⟩ (.slice a7 m2 k7)=W8 at HL6 HF7 ⊢
   have HL6:Hid (LN w W8 ad k cap ((cT (L.take k) xs).map LayP.can) (aZ 99 lb [.int .i64 kk,.int .i64 li,.int .i64 lo,.slice a5 m1 k5,.slice a7 m2 k7] :: aZ 25 lB [.slice (some ⟨b,off7,none⟩) (r - m1 - m2) ck7] :: aK a7 k7 ((zs.drop m1).take m2) :: aK a5 k5 (zs.take m1) :: [aZ 35 oB [.slice ad k cap],aZ 35 rB [.slice none 0 0]])):=HL6
   obtain ⟨-,d0,d1,d2,d3,d4,-⟩:=(HL6.out.box (List.mem_cons_self ..)).five
   obtain ⟨ho8,o0,of⟩:=(HL6.out.box (t:=35) (g:=oB) (cs:=[.slice ad k cap]) (by simp)).one1
   have hlP:=((HL6.out.sub (E':=aZ 25 lB [.slice (some ⟨b,off7,none⟩) (r - m1 - m2) ck7] :: aK a7 k7 ((zs.drop m1).take m2) :: aK a5 k5 (zs.take m1) :: [aZ 35 oB [.slice ad k cap],aZ 35 rB [.slice none 0 0]]) (List.sublist_cons_self _ _)).third.perm (List.Perm.cons _ (List.Perm.swap _ _ _))).push
   obtain ⟨vs,hrow,hpush⟩:=hlP
   have HROW:=I hrow;have HPU:=I hpush
   have hbs:=HL6.out.below.size
   have HB8:=I HL6.out.below
   have ho5:okF (zs.take m1):=fun x hx=>HX.out.lt x (List.mem_of_mem_drop (by rw [←HZS.out];exact List.mem_of_mem_take hx))
   have ho7:okF ((zs.drop m1).take m2):=fun x hx=>HX.out.lt x (List.mem_of_mem_drop (by rw [←HZS.out];exact List.mem_of_mem_drop (List.mem_of_mem_take hx)))
   have HO5:=I ho5;have HO7:=I ho7
   have hn5:(zs.take m1).length=m1:=by rw [List.length_take,←HZL.out];omega
   have hn7:((zs.drop m1).take m2).length=m2:=by rw [List.length_take,List.length_drop,←HZL.out];omega
   have HN5:=I hn5;have HN7:=I hn7
   clear hrow hpush HL6 ho5 ho7 hn5 hn7
   go_wp2_with (at_builtin;refine sV rfl _ _ 33 rfl w.heap.size i0 (.agg #[.int .i64 0,.int .i64 0,.int .i64 0,.slice none 0 0,.slice none 0 0]) 5 72 1 Tryz.underlying33 hi0 hz0 hzs hz2 rfl (by decide) rfl (by intro u hu;simp at hu;rcases hu with rfl | rfl | rfl | rfl | rfl <;> rfl) _ _ _ rfl HROW.out (by go_simp) ?c3 ?c4 ?c5 ?_)
   case c3=>unfold maxLen;omega
   case c4=>omega
   case c5=>exact hbs
   intro v' w9 hown9 hg9 hat9
   obtain ⟨ad9,cap9,rfl,HL9⟩:=HPU.out ⟨⟨kk,li,lo,zs.take m1,(zs.drop m1).take m2⟩,a5,k5,a7,k7⟩ _ v' w9 ⟨⟨HO5.out,HO7.out⟩,HOK.out.2⟩ (by rfl) (by have h:=hown9;unfold LayD.cells;simp only [HN5.out,HN7.out];exact h) hg9 hat9
   have HLA:=I HL9.swap
   have HF9:=I (HF7.out.via HB8.out HL9.below hbw)
   clear hown9 hg9 hat9 HPU HL9 HROW d0 d1 d2 d3 d4 o0 of ho8
   obtain ⟨ho9,o0,of⟩:=(HLA.out.box (List.mem_cons_self ..)).one1
   have hof:=of 0
   have hge9:=HLA.out.ge (List.mem_cons_self ..)
   clear of
   go_wp2
   refine ⟨?rel,?measure⟩
   case rel =>
    refine ⟨k+1,r - m1 - m2,off7,ck7,by go_num,hlt,by rw [HTC.out,←HCN.out];show r - m1 - m2+(cn0+(lws.length+lbs.length))=m;rw [←HM1.out,←HM2.out];omega,ad9,cap9,I ⟨?_,?_⟩⟩
    ·have h:=(HLA.out.store 0 (.slice ad9 (k+1) cap9)).swap
     rw [HTK.out,List.map_append,←HZS.out]
     unfold kF
     simp only [←HM1.out,←HM2.out]
     exact h
    ·have h:=HF9.out.belowLt ((O w.heap.size w9).setCell (p:=⟨oB,0,none⟩) hge9 (.slice ad9 (k+1) cap9)) hbw
     have e:xs.drop (dC (L.take (k+1)))=(zs.drop m1).drop m2:=by
      rw [HTC.out,HZS.out,List.drop_drop,List.drop_drop]
      show xs.drop (dC (L.take k)+(lws.length+lbs.length)) = _
      rw [←HM1.out,←HM2.out]
     rw [e];exact h
   case measure=>simp [intOf];omega
  ·have e:k=n:=by omega
   subst e
   have HT:=I (show L.take k=L by rw [HN.out,HLL.out,←List.length_map (f:=LayD.toLayP)];exact List.take_length)
   have HL1:=I HH.out.1.swap
   rw [HT.out] at HL1
   clear HH
   obtain ⟨-,o0,-⟩:=(HL1.out.box (List.mem_cons_self ..)).one1
   obtain ⟨hr1,r0,rf⟩:=(HL1.out.box (t:=35) (g:=rB) (cs:=[.slice none 0 0]) (by simp)).one1
   have hrf:=rf 0
   clear rf
   have HFIN:=I (HL1.out.third.store 0 (.slice ad k cap))
   go_wp2
   try simp only [Exit.inBlock,Exit.then]
   refine bodyPost_ret (v:=.agg #[.slice ad k cap]) (by simp [results,Tryz.results45,go_sem,r0,hr1]) rfl ?_
   obtain ⟨us,h0,h2,h3,h4⟩:=HFIN.out
   exact ⟨ad,k,cap,us,rfl,I ⟨h2,h3.r⟩,h4⟩
theorem mU (w:World) (mb mo:Nat) (ma:Option Addr) (mk:Nat) (ls:List LayD) (hmb:mb < w.heap.size) (hm:w.cell? ⟨mb,mo,none⟩=some (.slice ma ls.length mk)) (hls:SeeR aX w ma mk ls) (hnil:nilL ls) (hn:ls.length≤6) (hi2:∀l∈ls,l.ws.length≤64∧l.bs.length≤8) :
  Calls Tryz.prog 78 #[.pointer (some ⟨mb,mo,none⟩)] w fun e w' => ∃g n cap,e=.returned (.slice (some ⟨g,0,none⟩) n cap)∧Hid (RepF w' w.heap.size w'.heap.size (some ⟨g,0,none⟩) n cap (aM (ls.map LayD.toLayP)))∧Below w.heap.size w w':=by
 obtain ⟨i0,hi0,hz0,hz1,hz2⟩:=info_parts bW
 have HLS:=I hls;have HI2:=I hi2;have HNL:=I hnil
 obtain ⟨n,hN⟩:∃n,n=ls.length:=⟨_,rfl⟩
 rw [←hN] at hn
 rw [←hN] at hm
 have HM:=I (fun W (hb:Below w.heap.size w W)=>(hb.cell (p:=⟨mb,mo,none⟩) hmb).trans hm)
 have HN:=I hN
 clear hls hi2 hN hnil hm hmb
 go_enter Tryz.func78,Tryz.ntmps78
 go_wp2
 go_loopw [3,4] (fun v i wt => ∃k nk:Nat,i=.int .i64 k∧k≤n∧nk≤72 * k∧Hid (wt.ownsRow w.heap.size 28 1 v nk ((aM ((ls.map LayD.toLayP).take k)).map (Value.float .f32))∧nk=(aM ((ls.map LayD.toLayP).take k)).length∧v≠.slice none 0 0)∧Hid (Below w.heap.size w wt)) (fun v i wt=>n - (intOf i).toNat)
 case atStart=>exact ⟨0,0,rfl,Nat.zero_le _,by omega,I ⟨World.ownsRow_made _ _ _ (J _) (Nat.zero_le _) rfl,rfl,fun e=>by cases e⟩,I (aE _ _)⟩
 case round =>
  obtain ⟨k,nk,rfl,hk,hnk,HO,HB⟩:=hrel
  have hm:=HM.out wr HB.out
  by_cases hlt:k < n
  ·obtain ⟨l,hl⟩:=getElem?_lt (show k < ls.length by rw [←HN.out];exact hlt)
   have hii:=HI2.out l (List.mem_of_getElem? hl)
   have hnl:=HNL.out l (List.mem_of_getElem? hl)
   have HT:=I (pN hl)
   obtain ⟨-,-,-,-,-,⟨hfw,hfb⟩,-⟩:=bG HLS.out hl
   obtain ⟨b,off,rfl,hb,⟨c0,c1,c2,c3,c4⟩,-,-⟩:=bG (HLS.out.below HB.out) hl
   have HFW:=I (fun W (hb:Below w.heap.size w W)=>(hfw.below hb).rd);have HFB:=I (fun W (hb:Below w.heap.size w W)=>(hfb.below hb).rd)
   have HNW:=I hnl.1;have HNB:=I hnl.2
   have HLK:=I hl
   clear hfw hfb hnl hl
   obtain ⟨⟨kk,li,lo,lws,lbs⟩,wa,wk,ba,bk⟩:=l
   simp only at c0 c1 c2 c3 c4 hii HT HFW HFB HNW HNB
   have h1:∀xs:List Nat,∀u∈xs.map (Value.float .f32),u.oneCell'=true:=by intro xs u hu;obtain ⟨x,_,rfl⟩:=List.mem_map.1 hu;rfl
   have H1:=I h1
   obtain ⟨m1,hm1⟩:∃m,m=lws.length:=⟨_,rfl⟩
   obtain ⟨m2,hm2⟩:∃m,m=lbs.length:=⟨_,rfl⟩
   rw [←hm1] at c3 hii;rw [←hm2] at c4 hii
   have HM1:=I hm1;have HM2:=I hm2
   have HOW:=I HO.out.1;have HNK:=I HO.out.2.1;have HV0:=I HO.out.2.2
   have hbs:=HB.out.size
   clear h1 hm1 hm2 HO
   go_wp2_with (at_builtin;refine sU rfl _ _ 25 rfl w.heap.size i0 (.float .f32 0) 4 Tryz.underlying25 hi0 hz0 hz1 hz2 rfl _ nk _ rfl HOW.out wa m1 wk (lws.map (Value.float .f32)) rfl HNW.out (by rw [List.length_map,HM1.out]) (HFW.out _ HB.out) (H1.out lws) ?c3 ?c4 ?c5 ?_)
   case c3=>unfold maxLen;omega
   case c4=>omega
   case c5=>omega
   intro v5 w5 hown5 hb5 hbs5 hkeep hv5
   replace HV0:=I (hv5 HV0.out)
   clear hv5
   obtain ⟨b2,off2,eb,hb2,⟨d0,d1,d2,d3,d4⟩,-,-⟩:=bG (HLS.out.below (HB.out.trans hb5)) HLK.out
   cases eb
   have hm5:=HM.out w5 (HB.out.trans hb5)
   simp only at d0 d1 d2 d3 d4
   rw [←HM2.out] at d4
   have HB5:=I (HB.out.trans hb5)
   have HOW5:=I hown5
   clear hown5 hb5 hkeep HOW HB hm c0 c1 c2 c3 c4 hb
   go_wp2_with (at_builtin;refine sU rfl _ _ 25 rfl w.heap.size i0 (.float .f32 0) 4 Tryz.underlying25 hi0 hz0 hz1 hz2 rfl _ (nk+m1) _ rfl HOW5.out ba m2 bk (lbs.map (Value.float .f32)) rfl HNB.out (by rw [List.length_map,HM2.out]) (HFB.out _ HB5.out) (H1.out lbs) ?c3 ?c4 ?c5 ?_)
   case c3=>unfold maxLen;omega
   case c4=>omega
   case c5=>exact hbs5
   intro v6 w6 hown6 hb6 hbs6 hkeep hv6
   replace HV0:=I (hv6 HV0.out)
   clear hv6
   have HB6:=I (HB5.out.trans hb6)
   have HOW6:=I hown6
   clear hown6 hb6 hkeep d0 d1 d2 d3 d4 HOW5 HB5 hm5
   go_wp2
   refine ⟨?rel,?measure⟩
   case rel=>exact ⟨k+1,nk+m1+m2,by go_num,hlt,by omega,I ⟨by rw [HT.out,List.map_append,List.map_append,List.append_assoc];exact HOW6.out,by rw [HT.out,List.length_append,List.length_append,HNK.out,HM1.out,HM2.out],HV0.out⟩,HB6⟩
   case measure=>simp [intOf];omega
  ·have e:k=n:=by omega
   subst e
   have e2:(ls.map LayD.toLayP).take k=ls.map LayD.toLayP:=by rw [HN.out,←List.length_map (f:=LayD.toLayP)];exact List.take_length
   rw [e2] at HO
   have hok:=rO HLS.out
   obtain ⟨ad,cap,rfl,hr⟩:=RepF.of_owns HO.out.1 hok
   obtain ⟨g,rfl⟩:∃g,ad=some ⟨g,0,none⟩:=by
    rcases hr.row.own.2 with ⟨e1,_⟩ | ⟨g,cap',cur,e1,_⟩
    ·exact absurd e1 HO.out.2.2
    ·cases e1;exact ⟨g,rfl⟩
   have HR:=I hr
   clear hok hr HO e2
   go_wp2
   go_ret
   exact ⟨g,_,cap,rfl,HR,HB.out⟩
theorem CX (w W:World) (hb:Below w.heap.size w W) (b off ck:Nat) (xs:List Nat) (hx:F32s w (some ⟨b,off,none⟩) ck xs) (m:Nat) (hm:m=xs.length) (hm2:m≤432) (f q:Nat) (hfq:f+q≤m) (v:Value) (hv:(ck=f∧v=.slice (some ⟨b,off,none⟩) q 0)∨(v=.slice (some ⟨b,off+f,none⟩) q (ck - f))) :
  Calls Tryz.prog 100 #[v] W fun e w' => ∃ad' cap',e=.returned (.slice ad' q cap')∧Hid (RepF w' W.heap.size w'.heap.size ad' q cap' ((xs.drop f).take q))∧Below W.heap.size W w':=by
 have hl:((xs.drop f).take q).length=q:=by rw [List.length_take,List.length_drop,←hm];omega
 have hcl:=hx.len
 rcases hv with ⟨h1,h2⟩ | h2
 ·have hq:q=0:=by omega
  subst hq
  have h3:=fH W (some ⟨b,off,none⟩) 0 ((xs.drop f).take 0) ⟨Nat.zero_le _,Nat.zero_le _,.inl rfl,fun x hx=>(nomatch hx)⟩ (fun e=>(nomatch e)) (Nat.zero_le _)
  rw [hl] at h3
  rw [h2];exact h3
 ·have h3:=fH W (some ⟨b,off+f,none⟩) (ck - f) ((xs.drop f).take q) ((((hx.below hb).cut3 f (by rw [←hm];omega)).2).cut3 q (by rw [List.length_drop,←hm];omega)).1 (fun e=>(nomatch e)) (by omega)
  rw [hl] at h3
  rw [h2];exact h3
theorem yG (w:World) (mb mo:Nat) (ma:Option Addr) (mk:Nat) (ls:List LayD) (hmb:mb < w.heap.size) (hm:w.cell? ⟨mb,mo,none⟩=some (.slice ma ls.length mk)) (b off ck:Nat) (xs:List Nat) (hls:SeeR aX w ma mk ls) (hx:F32s w (some ⟨b,off,none⟩) ck xs) (hbw:b < w.heap.size) (hn:ls.length≤6) (hi2:∀l∈ls,l.ws.length≤64∧l.bs.length≤8) (hcnt:xs.length=dC (ls.map LayD.toLayP)) :
  Calls Tryz.prog 79 #[.pointer (some ⟨mb,mo,none⟩),.slice (some ⟨b,off,none⟩) xs.length ck] w (sS ((cT (ls.map LayD.toLayP) xs).map LayP.can) w):=by
 obtain ⟨i0,hi0,hz0,hzs,hz2⟩:=info_parts pI
 have HLS:=I hls;have HI2:=I hi2;have HX:=I hx
 obtain ⟨L,hL⟩:∃L,L=ls.map LayD.toLayP:=⟨_,rfl⟩
 rw [←hL] at hcnt ⊢
 have HLL:=I hL
 have hmx:xs.length≤432:=by
  have h1:∀A:List LayD,(∀l∈A,l.ws.length≤64∧l.bs.length≤8)→dC (A.map LayD.toLayP)≤72 * A.length:=by
   intro A
   induction A with
   | nil=>intro _;exact Nat.zero_le _
   | cons a A ih =>
    intro h
    have h1:=h a (List.mem_cons_self ..)
    have h2:=ih (fun l hl=>h l (List.mem_cons_of_mem _ hl))
    rw [List.map_cons,kS,List.length_cons]
    omega
  have:=h1 ls hi2
  rw [←hL] at this
  omega
 obtain ⟨m,hM⟩:∃m,m=xs.length:=⟨_,rfl⟩
 rw [←hM] at hcnt hmx ⊢
 obtain ⟨n,hN⟩:∃n,n=ls.length:=⟨_,rfl⟩
 rw [←hN] at hn hm
 have HMM:=I (fun W (hb:Below w.heap.size w W)=>(hb.cell (p:=⟨mb,mo,none⟩) hmb).trans hm)
 have HN:=I hN;have HM:=I hM;have HCNT:=I hcnt
 clear hls hi2 hx hN hM hL hcnt hm hmb
 have HL0:=I (((LN.nil w).alloc #[.slice none 0 0] 35).alloc #[.slice none 0 0] 35)
 go_enter Tryz.func79,Tryz.ntmps79
 go_upto_region 2 with fail
 obtain ⟨oB,hoB⟩:∃g,g=w.heap.size+1:=⟨_,rfl⟩
 obtain ⟨W3,hW3⟩:∃W,W=(w.alloc (.cells #[.slice none 0 0] 35)).alloc (.cells #[.slice none 0 0] 35):=⟨_,rfl⟩
 rw [←hoB,←hW3]
 have HL:Hid (LN w W3 none 0 0 [] [aZ 35 oB [.slice none 0 0],aZ 35 w.heap.size [.slice none 0 0]]):=I (by
  have h:=HL0.out
  have e1:(w.alloc (.cells #[.slice none 0 0] 35)).heap.size=w.heap.size+1:=by simp
  rw [e1,←hoB,←hW3] at h
  exact h)
 obtain ⟨rB,hrB⟩:∃g,g=w.heap.size:=⟨_,rfl⟩
 clear hoB hW3 HL0
 go_wp2
 go_loopw [6,7,8,9,10] (fun q i p v1 v2 wt => ∃k c0:Nat,i=.int .i64 k∧k≤n∧q=.int .i64 c0∧c0=dC (L.take k)∧∃ad cap,Hid (LN w wt ad k cap ((cT (L.take k) xs).map LayP.can) [aZ 35 oB [.slice ad k cap],aZ 35 w.heap.size [.slice none 0 0]])) (fun q i p v1 v2 wt=>n - (intOf i).toNat)
 case atStart=>exact ⟨0,0,rfl,Nat.zero_le _,rfl,rfl,none,0,HL⟩
 case round =>
  obtain ⟨k,cn0,rfl,hk,rfl,hcn0,ad,cap,HH⟩:=hrel
  have hmm:=HMM.out wr HH.out.below
  by_cases hlt:k < n
  ·obtain ⟨l,hl⟩:=getElem?_lt (show k < ls.length by rw [←HN.out];exact hlt)
   have hii:=HI2.out l (List.mem_of_getElem? hl)
   have hLk:L[k]? = some l.toLayP:=by rw [HLL.out,List.getElem?_map,hl];rfl
   obtain ⟨ht1,ht2,ht3⟩:=oM hLk xs
   have hb0:=HH.out.below
   obtain ⟨-,-,-,-,-,-,hok⟩:=bG HLS.out hl
   obtain ⟨b1,off1,rfl,hb,⟨c0,c1,c2,c3,c4⟩,-,-⟩:=bG (HLS.out.below hb0) hl
   have HTK:=I ht1;have HTC:=I ht2;have HOK:=I hok
   obtain ⟨⟨kk,li,lo,lws,lbs⟩,wa,wk,ba,bk⟩:=l
   simp only at c0 c1 c2 c3 c4 hii ht2
   obtain ⟨m1,hm1⟩:∃m,m=lws.length:=⟨_,rfl⟩
   obtain ⟨m2,hm2⟩:∃m,m=lbs.length:=⟨_,rfl⟩
   rw [←hm1] at c3 hii ht2;rw [←hm2] at c4 hii ht2
   have HM1:=I hm1;have HM2:=I hm2
   have hcm:=HCNT.out
   rw [←hcn0] at ht2
   rw [ht2,←hcm] at ht3
   have HCN:=I hcn0
   have HL1:=I HH.out
   have hcl:=HX.out.len;rw [←HM.out] at hcl
   have hcp:=HX.out.cap
   clear hm1 hm2 hl hLk ht1 ht2 hb0 hok hcn0 HH hcm
   have HL2:=I (HL1.out.alloc #[.int .i64 kk,.int .i64 li,.int .i64 lo,.slice wa m1 wk,.slice ba m2 bk] 99)
   go_upto_region 7 with fail
   clear c0 c1 c2 c3 c4 HL1 hb hmm
   generalize wr.alloc (.cells #[.int .i64 kk,.int .i64 li,.int .i64 lo,.slice wa m1 wk,.slice ba m2 bk] 99)=W4 at HL2 ⊢
   generalize wr.heap.size=lb at HL2 ⊢
   have HY1:Hid (((xs.drop cn0).take m1).length=m1):=I (by rw [List.length_take,List.length_drop,←HM.out];omega)
   have HY2:Hid (((xs.drop (cn0+m1)).take m2).length=m2):=I (by rw [List.length_take,List.length_drop,←HM.out];omega)
   have KO:=I (fun W (hb:Below w.heap.size w W)=>CX w W hb b off ck xs HX.out m HM.out hmx)
   obtain ⟨-,d0,d1,d2,d3,d4,-⟩:=(HL2.out.box (t:=99) (g:=lb) (List.mem_cons_self ..)).five
   have w1:IntKind.i64.wrap ((cn0:Int)+(m1:Int))=(cn0:Int)+(m1:Int):=pG (by omega) (by omega)
   have w2:(0:Int)≤(cn0:Int)+(m1:Int):=by omega
   have w3:(cn0:Int)+(m1:Int)≤(ck:Int):=by omega
   have w4:(cn0:Int)≤(cn0:Int)+(m1:Int):=by omega
   have w5:((cn0:Int)+(m1:Int)).toNat=cn0+m1:=by omega
   have w6:cn0+m1 - cn0=m1:=by omega
   have w7:(cn0:Int)≤max ((cn0:Int)+(m1:Int)) 0:=by omega
   go_upto_region 9 with fail
   go_cut [] (fun wx => ∃a5 k5,Hid (LN w wx ad k cap ((cT (L.take k) xs).map LayP.can) (aZ 99 lb [.int .i64 kk,.int .i64 li,.int .i64 lo,.slice a5 m1 k5,.slice ba m2 bk] :: aK a5 k5 ((xs.drop cn0).take m1) :: [aZ 35 oB [.slice ad k cap],aZ 35 w.heap.size [.slice none 0 0]])))
   case first =>
    by_cases hck:ck=cn0
    ·subst hck
     go_wp2_with fail
     refine (KO.out _ HL2.out.below ck m1 (by omega) _ (.inl ⟨rfl,rfl⟩)).mono ?_
     rintro e w5 ⟨a5,k5,rfl,HY5,hb5⟩
     have HL3:=I ((HL2.out.addF hb5 HY5.out).swap)
     clear HY5 hb5 d0 d1 d2 d3 d4 KO
     obtain ⟨hl5,d0,d1,d2,d3,d4,hf⟩:=(HL3.out.box (List.mem_cons_self ..)).five
     have hf3:=hf 3
     clear hf
     have HL4:=I (HL3.out.store 3 (.slice a5 m1 k5))
     go_wp2_with fail
     go_meet
     exact ⟨a5,k5,HL4⟩
    ·go_wp2_with fail
     refine (KO.out _ HL2.out.below cn0 m1 (by omega) _ (.inr rfl)).mono ?_
     rintro e w5 ⟨a5,k5,rfl,HY5,hb5⟩
     have HL3:=I ((HL2.out.addF hb5 HY5.out).swap)
     clear HY5 hb5 d0 d1 d2 d3 d4 KO
     obtain ⟨hl5,d0,d1,d2,d3,d4,hf⟩:=(HL3.out.box (List.mem_cons_self ..)).five
     have hf3:=hf 3
     clear hf
     have HL4:=I (HL3.out.store 3 (.slice a5 m1 k5))
     go_wp2_with fail
     go_meet
     exact ⟨a5,k5,HL4⟩
   case rest =>
    obtain ⟨a5,k5,HL4⟩:=hcut
    clear HL2 d0 d1 d2 d3 d4
    obtain ⟨-,d0,d1,d2,d3,d4,-⟩:=(HL4.out.box (t:=99) (g:=lb) (List.mem_cons_self ..)).five
    have v1:IntKind.i64.wrap (((cn0:Int)+(m1:Int))+(m2:Int))=((cn0:Int)+(m1:Int))+(m2:Int):=pG (by omega) (by omega)
    have v2:(0:Int)≤((cn0:Int)+(m1:Int))+(m2:Int):=by omega
    have v3:((cn0:Int)+(m1:Int))+(m2:Int)≤(ck:Int):=by omega
    have v4:(cn0:Int)+(m1:Int)≤((cn0:Int)+(m1:Int))+(m2:Int):=by omega
    have v5:(((cn0:Int)+(m1:Int))+(m2:Int)).toNat=cn0+m1+m2:=by omega
    have v6:cn0+m1+m2 - (cn0+m1)=m2:=by omega
    have v7:(cn0:Int)+(m1:Int)≤max (((cn0:Int)+(m1:Int))+(m2:Int)) 0:=by omega
    go_upto_region 10 with fail
    go_cut [] (fun wx => ∃a7 k7,Hid (LN w wx ad k cap ((cT (L.take k) xs).map LayP.can) (aZ 99 lb [.int .i64 kk,.int .i64 li,.int .i64 lo,.slice a5 m1 k5,.slice a7 m2 k7] :: aK a7 k7 ((xs.drop (cn0+m1)).take m2) :: aK a5 k5 ((xs.drop cn0).take m1) :: [aZ 35 oB [.slice ad k cap],aZ 35 w.heap.size [.slice none 0 0]])))
    case first =>
     by_cases hck:ck=cn0+m1
     ·subst hck
      go_wp2_with fail
      refine (KO.out _ HL4.out.below (cn0+m1) m2 (by omega) _ (.inl ⟨rfl,rfl⟩)).mono ?_
      rintro e w5 ⟨a7,k7,rfl,HY5,hb5⟩
      have HL3:=I ((HL4.out.addF hb5 HY5.out).swap)
      clear HY5 hb5 d0 d1 d2 d3 d4 KO
      obtain ⟨hl5,d0,d1,d2,d3,d4,hf⟩:=(HL3.out.box (List.mem_cons_self ..)).five
      have hf3:=hf 4
      clear hf
      have HL5:=I (HL3.out.store 4 (.slice a7 m2 k7))
      go_wp2_with fail
      go_meet
      exact ⟨a7,k7,HL5⟩
     ·go_wp2_with fail
      refine (KO.out _ HL4.out.below (cn0+m1) m2 (by omega) _ (.inr rfl)).mono ?_
      rintro e w5 ⟨a7,k7,rfl,HY5,hb5⟩
      have HL3:=I ((HL4.out.addF hb5 HY5.out).swap)
      clear HY5 hb5 d0 d1 d2 d3 d4 KO
      obtain ⟨hl5,d0,d1,d2,d3,d4,hf⟩:=(HL3.out.box (List.mem_cons_self ..)).five
      have hf3:=hf 4
      clear hf
      have HL5:=I (HL3.out.store 4 (.slice a7 m2 k7))
      go_wp2_with fail
      go_meet
      exact ⟨a7,k7,HL5⟩
    case rest =>
     obtain ⟨a7,k7,HL6⟩:=hcut
     clear HL4 d0 d1 d2 d3 d4 KO
     obtain ⟨-,d0,d1,d2,d3,d4,-⟩:=(HL6.out.box (List.mem_cons_self ..)).five
     obtain ⟨ho8,o0,of⟩:=(HL6.out.box (t:=35) (g:=oB) (cs:=[.slice ad k cap]) (by simp)).one1
     have hlP:=((HL6.out.sub (E':=aK a7 k7 ((xs.drop (cn0+m1)).take m2) :: aK a5 k5 ((xs.drop cn0).take m1) :: [aZ 35 oB [.slice ad k cap],aZ 35 w.heap.size [.slice none 0 0]]) (List.sublist_cons_self _ _)).swap).push
     obtain ⟨vs,hrow,hpush⟩:=hlP
     have HROW:=I hrow;have HPU:=I hpush
     have hbs:=HL6.out.below.size
     have HO5:Hid (okF ((xs.drop cn0).take m1)):=I (fun x hx=>HX.out.lt x (List.mem_of_mem_drop (List.mem_of_mem_take hx)))
     have HO7:Hid (okF ((xs.drop (cn0+m1)).take m2)):=I (fun x hx=>HX.out.lt x (List.mem_of_mem_drop (List.mem_of_mem_take hx)))
     have u1:IntKind.i64.wrap ((m1:Int)+(m2:Int))=(m1:Int)+(m2:Int):=pG (by omega) (by omega)
     have u2:IntKind.i64.wrap ((cn0:Int)+((m1:Int)+(m2:Int)))=((cn0+(m1+m2):Nat):Int):=by rw [pG (by omega) (by omega)];omega
     clear hrow hpush HL6 w1 w2 w3 w4 w5 w6 w7 v1 v2 v3 v4 v5 v6 v7
     go_upto_region 12 with fail
     go_wp2_with (at_builtin;refine sV rfl _ _ 33 rfl w.heap.size i0 (.agg #[.int .i64 0,.int .i64 0,.int .i64 0,.slice none 0 0,.slice none 0 0]) 5 72 1 Tryz.underlying33 hi0 hz0 hzs hz2 rfl (by decide) rfl (by intro u hu;simp at hu;rcases hu with rfl | rfl | rfl | rfl | rfl <;> rfl) _ _ _ rfl HROW.out (by go_simp) ?c3 ?c4 ?c5 ?_)
     case c3=>unfold maxLen;omega
     case c4=>omega
     intro v' w9 hown9 hg9 hat9
     obtain ⟨ad9,cap9,rfl,HL9⟩:=HPU.out ⟨⟨kk,li,lo,(xs.drop cn0).take m1,(xs.drop (cn0+m1)).take m2⟩,a5,k5,a7,k7⟩ _ v' w9 ⟨⟨HO5.out,HO7.out⟩,HOK.out.2⟩ (by rfl) (by have h:=hown9;unfold LayD.cells;simp only [HY1.out,HY2.out];exact h) hg9 hat9
     have HLA:=I HL9
     clear hown9 hg9 hat9 HPU HL9 HROW d0 d1 d2 d3 d4 o0 of ho8
     obtain ⟨ho9,o0,of⟩:=(HLA.out.box (List.mem_cons_self ..)).one1
     have hof:=of 0
     clear of
     go_wp2
     refine ⟨?rel,?measure⟩
     case rel =>
      refine ⟨k+1,cn0+(m1+m2),by go_num,hlt,by go_num,by rw [HTC.out,←HCN.out];show cn0+(m1+m2)=cn0+(lws.length+lbs.length);rw [HM1.out,HM2.out],ad9,cap9,I ?_⟩
      have h:=HLA.out.store 0 (.slice ad9 (k+1) cap9)
      rw [HTK.out,List.map_append,←HCN.out]
      unfold kF
      simp only [←HM1.out,←HM2.out,List.drop_drop]
      exact h
     case measure=>simp [intOf];omega
  ·have e:k=n:=by omega
   subst e
   have HT:=I (show L.take k=L by rw [HN.out,HLL.out,←List.length_map (f:=LayD.toLayP)];exact List.take_length)
   have HL1:=I HH.out
   rw [HT.out] at HL1
   clear HH
   obtain ⟨-,o0,-⟩:=(HL1.out.box (List.mem_cons_self ..)).one1
   obtain ⟨hr1,r0,rf⟩:=(HL1.out.box (t:=35) (g:=w.heap.size) (cs:=[.slice none 0 0]) (by simp)).one1
   have hrf:=rf 0
   clear rf
   have HFIN:=I (HL1.out.swap.store 0 (.slice ad k cap))
   go_wp2
   try simp only [Exit.inBlock,Exit.then]
   refine bodyPost_ret (v:=.agg #[.slice ad k cap]) (by simp [results,Tryz.results79,go_sem,r0,hr1]) rfl ?_
   obtain ⟨us,h0,h2,h3,h4⟩:=HFIN.out
   exact ⟨ad,k,cap,us,rfl,I ⟨h2,h3.r⟩,h4⟩
def InPl (f:Nat→Nat) (xs:List Nat) (k:Nat) (ys:List Nat):Prop:=∃zs,ys=zs ++ xs.drop k∧zs.length=k∧zs.map (cn .f32)=((xs.take k).map (cn .f32)).map f
theorem InPl.zero (f:Nat→Nat) (xs:List Nat):InPl f xs 0 xs:=⟨[],rfl,rfl,rfl⟩
theorem nM {xs:List Nat} {k x:Nat} (hx:xs[k]? = some x):xs.drop k=x :: xs.drop (k+1):=by
 obtain ⟨hk,rfl⟩:=List.getElem?_eq_some_iff.1 hx
 exact List.drop_eq_getElem_cons hk
theorem InPl.at' {f:Nat→Nat} {xs ys:List Nat} {k x:Nat} (h:InPl f xs k ys) (hx:xs[k]? = some x):ys.getD k 0=x:=by
 obtain ⟨zs,rfl,h2,h3⟩:=h
 rw [nM hx,List.getD_eq_getElem?_getD,List.getElem?_append_right (by omega),h2,Nat.sub_self];rfl
theorem InPl.set {f:Nat→Nat} {xs ys:List Nat} {k x y:Nat} (h:InPl f xs k ys) (hx:xs[k]? = some x) (hy:cn .f32 y=f (cn .f32 x)):InPl f xs (k+1) (ys.set k y):=by
 obtain ⟨zs,rfl,h2,h3⟩:=h
 refine ⟨zs ++ [y],?_,by simp [h2],?_⟩
 ·rw [nM hx]
  subst h2
  rw [xM,List.append_assoc];rfl
 ·rw [List.map_append,h3,List.take_add_one,hx,List.map_append,List.map_append]
  simp [hy]
theorem InPl.all {f:Nat→Nat} {xs ys:List Nat} {k:Nat} (h:InPl f xs k ys) (hk:k=xs.length):ys.map (cn .f32)=(xs.map (cn .f32)).map f:=by
 obtain ⟨zs,rfl,h2,h3⟩:=h
 subst hk
 rw [List.drop_length,List.append_nil,h3,List.take_length]
theorem BJ (L:List LayP) {ys:List Nat} (h:ys.map (cn .f32)=((aM L).map (cn .f32)).map mH):(cT L ys).map LayP.can=(L.map LayP.can).map (cZ mH):=by
 rw [jC,h,fE,wG]
theorem pP (A:List LayD) (h:∀l∈A,l.ws.length≤64∧l.bs.length≤8):dC (A.map LayD.toLayP)≤72 * A.length:=by
 induction A with
 | nil=>exact Nat.zero_le _
 | cons a A ih =>
  have h1:=h a (List.mem_cons_self ..)
  have h2:=ih (fun l hl=>h l (List.mem_cons_of_mem _ hl))
  rw [List.map_cons,kS,List.length_cons]
  omega
theorem yH (w:World) (ma:Option Addr) (mk:Nat) (ls:List LayD) (hls:SeeR aX w ma mk ls) (hnil:nilL ls) (hn:ls.length≤6) (hi2:∀l∈ls,l.ws.length≤64∧l.bs.length≤8) :
  Calls Tryz.prog 36 #[.agg #[.slice ma ls.length mk]] w (sS ((ls.map fun l=>l.toLayP.can).map (cZ mH)) w):=by
 have b2:=bZ w (.cells #[.slice ma ls.length mk] 35) (.cells #[.slice none 0 0] 35)
 have BM:=I ((BoxN.alloc w #[.slice ma ls.length mk] 35).below (aE _ (.cells #[.slice none 0 0] 35)))
 have BR:=I (BoxN.alloc2 w (.cells #[.slice ma ls.length mk] 35) #[.slice none 0 0] 35)
 obtain ⟨W2,hW2⟩:∃W,W=(w.alloc (.cells #[.slice ma ls.length mk] 35)).alloc (.cells #[.slice none 0 0] 35):=⟨_,rfl⟩
 have hs2:W2.heap.size=w.heap.size+1+1:=by rw [hW2];simp
 rw [←hW2] at b2 BM BR
 have B2:=I b2
 obtain ⟨L,hL⟩:∃L,L=ls.map LayD.toLayP:=⟨_,rfl⟩
 have HLL:=I hL
 have hcnt:dC L≤432:=by have:=pP ls hi2;rw [←hL] at this;omega
 have K1:=I (mT W2 ma mk ls (hls.below b2) hnil hn hi2)
 have K2:=I (fun W (hb:Below W2.heap.size W2 W) b off ck xs h1 h2 h3=>iR W ma mk ls b off ck xs ((hls.below b2).below hb) h1 h2 hn hi2 h3)
 have HCE:=I (show (ls.map fun l=>l.toLayP.can)=L.map LayP.can by rw [hL,List.map_map];rfl)
 rw [←hL] at K1 K2
 rw [HCE.out]
 obtain ⟨n,hN⟩:∃n,n=ls.length:=⟨_,rfl⟩
 rw [←hN] at hn BM K1 K2 hW2 ⊢
 have HW2:=I hW2
 clear hls hnil hi2 b2 hN hL hW2
 go_enter Tryz.func36,Tryz.ntmps36
 go_upto_region 1 with fail
 rw [←HW2.out]
 obtain ⟨-,p0,-⟩:=BM.out.one1
 go_wp2_with fail
 refine K1.out.mono ?_
 rintro e w3 ⟨g3,n3,c3,rfl,HR,hb3⟩
 have HB3:=I hb3
 have hlen:=HR.out.len
 have hP:n3=(aM L).length:=hlen.symm
 have HP:=I hP
 have hn3:n3≤432:=by rw [hP];exact hcnt
 clear hcnt
 have hge:W2.heap.size≤g3:=(HR.out.row.own.lt g3 rfl).1
 have hs3:=hb3.size
 clear K1 hb3 p0 hlen hP
 go_wp2
 go_loopw [4,5,10] (fun i x q wt => ∃k:Nat,q=.int .i64 k∧k≤n3∧Hid (∃ys,RepF wt W2.heap.size w3.heap.size (some ⟨g3,0,none⟩) n3 c3 ys∧InPl mH (aM L) k ys)∧Hid (Below W2.heap.size W2 wt∧w3.heap.size≤wt.heap.size)) (fun i x q wt=>n3 - (intOf q).toNat)
 case atStart=>exact ⟨0,rfl,Nat.zero_le _,I ⟨_,HR.out,InPl.zero _ _⟩,I ⟨HB3.out,J _⟩⟩
 case round =>
  obtain ⟨k,rfl,hk,HY,HB⟩:=hrel
  by_cases hlt:k < n3
  ·obtain ⟨ys,hr,hip⟩:=HY.out
   obtain ⟨x,hx⟩:=getElem?_lt (show k < (aM L).length by rw [←HP.out];exact hlt)
   have HX:=I hx
   obtain ⟨g',e1,-,hc,-,-⟩:=hr.open (by omega)
   cases e1
   have hck:=hc k hlt
   rw [hip.at' hx] at hck
   have hxl:x < 4294967296:=hr.lt x (by
    have h1:=hip.at' hx
    have h2:k < ys.length:=by rw [hr.len];exact hlt
    rw [←h1,List.getD_eq_getElem?_getD,List.getElem?_eq_getElem h2]
    exact List.getElem_mem h2)
   have K:=I (fun W=>vB x hxl W)
   have HRR:=I hr;have HIP:=I hip
   clear hx hc hr hip HY
   go_wp2_with fail
   refine (K.out _).mono ?_
   rintro e w5 ⟨r,rfl,hrr,hd⟩
   have HRX:=I hrr.out
   have HR5:=I (HRR.out.below hd.below)
   have HB5:=I (And.intro (HB.out.1.trans (hd.below.mono HB.out.1.size)) (Nat.le_trans HB.out.2 hd.below.size))
   clear K hrr hd hck HRR
   obtain ⟨g',e1,-,hc,hf,-⟩:=HR5.out.open (by omega)
   cases e1
   have hck:=hc k hlt
   rw [HIP.out.at' HX.out] at hck
   clear hc
   have hfk:=hf k
   have hgl:g3 < w5.heap.size:=(HR5.out.row.own.lt g3 rfl).2
   clear hf
   go_wp2
   refine ⟨?rel,?measure⟩
   case rel=>exact ⟨k+1,by go_num,hlt,I ⟨_,HR5.out.setAt k r HRX.out.2 (by omega),HIP.out.set HX.out HRX.out.1⟩,I ⟨HB5.out.1.setCell (p:=⟨g3,k,none⟩) hge _,by simpa [World.setCell] using HB5.out.2⟩⟩
   case measure=>simp [intOf];omega
  ·have e:k=n3:=by omega
   subst e
   obtain ⟨ys,hr,hip⟩:=HY.out
   have hyl:ys.length=k:=hr.len
   have HE:=I (hip.all HP.out)
   have HF:=I hr.arg
   have hgl:g3 < wr.heap.size:=(hr.row.own.lt g3 rfl).2
   have KK:=I (K2.out wr (HB.out.1.mono (J _)) g3 0 c3 ys hr.arg hgl (by rw [hyl];exact HP.out))
   rw [hyl,BJ L HE.out] at KK
   have hmw:w.heap.size < W2.heap.size:=by omega
   have hrw:w.heap.size+1 < W2.heap.size:=by omega
   obtain ⟨-,p0,-⟩:=(BM.out.below (HB.out.1)).one1
   clear hr hip HY hyl K2
   go_wp2_with fail
   refine KK.out.mono ?_
   rintro e w9 ⟨ad,m,cap,us,rfl,HU,hb9⟩
   have HB9:=I (HB.out.1.trans (hb9.mono HB.out.1.size))
   have hs9:=HB.out.1.size
   have HBB:=I hb9
   clear KK hb9 p0
   obtain ⟨hlr,r0,rf⟩:=(BR.out.below HB9.out).one1
   have hrf:=rf 0
   clear rf
   go_wp2
   try simp only [Exit.inBlock,Exit.then]
   refine bodyPost_ret (v:=.agg #[.slice ad m cap]) (by simp [results,Tryz.results36,go_sem,r0,hlr]) rfl ?_
   have ht:Touch (w.heap.size+1) (w.heap.size+2) w9 (w9.setCell ⟨w.heap.size+1,0,none⟩ (.slice ad m cap)):=Touch.setCell (J _) (Nat.lt_succ_self _)
   exact ⟨ad,m,cap,us,rfl,I ⟨HU.out.1,((HU.out.2.touch ht (.inr (by omega))).bounds (by omega) (by simp [World.setCell]))⟩,((aA B2.out HB9.out).setCell (p:=⟨w.heap.size+1,0,none⟩) (by show w.heap.size≤w.heap.size+1;omega) _)⟩
end
end Go.Proofs.YtpadlmidojpbeaaGreat
