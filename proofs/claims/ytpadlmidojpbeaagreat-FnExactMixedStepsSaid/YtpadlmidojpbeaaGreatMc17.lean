/- Joined texts 17. No condition. -/
import Derived.Test.YtpadlmidojpbeaaGreatMc0
import Derived.Test.YtpadlmidojpbeaaGreatMc16
set_option linter.unusedVariables false
set_option linter.unusedSimpArgs false
set_option maxRecDepth 100000
set_option maxHeartbeats 64000000
namespace Go.Proofs.YtpadlmidojpbeaaGreat
open Go Go.RowKit
theorem DR (w:World) (a b c d:Obj):Below w.heap.size w ((((w.alloc a).alloc b).alloc c).alloc d):=(dE w a b c).alloc (by simp;omega) d
theorem BoxN.alloc4 (w:World) (o o2 o3:Obj) (cs:Array Value) (t:TypeId):BoxN ((((w.alloc o).alloc o2).alloc o3).alloc (.cells cs t)) (w.heap.size+3) cs.toList:=by
 have h:=BoxN.alloc3 (w.alloc o) o2 o3 cs t
 rwa [show (w.alloc o).heap.size+2=w.heap.size+3 by simp] at h
theorem fnExactMixedSteps_walk (w:World) (a0:Option Addr) (c0:Nat) (l0:List LayD) (A0:SeeR aX w a0 c0 l0) (s1_:Nat) (g1_ q1_:Int) (A1:s1_ < 4294967296) (G1:(Lit.int .i64 g1_).wf=true) (Q1:(Lit.int .i64 q1_).wf=true) (r2_ k2_:Int) (a2:Option Addr) (c2:Nat) (l2:List Nat) (R2:(Lit.int .i64 r2_).wf=true) (C2:(Lit.int .i64 k2_).wf=true) (A2:F32s w a2 c2 l2) (r3_ k3_:Int) (a3:Option Addr) (c3:Nat) (l3:List Nat) (R3:(Lit.int .i64 r3_).wf=true) (C3:(Lit.int .i64 k3_).wf=true) (A3:F32s w a3 c3 l3) (a4:Nat) (A4:a4 < 4294967296) (a5:Int) (A5:(Lit.int .i64 a5).wf=true) :
  Calls Tryz.prog 5 #[.agg #[.slice a0 l0.length c0],.agg #[.float .f32 s1_,.int .i64 g1_,.int .i64 q1_],.agg #[.int .i64 r2_,.int .i64 k2_,.slice a2 l2.length c2],.agg #[.int .i64 r3_,.int .i64 k3_,.slice a3 l3.length c3],.float .f32 a4,.int .i64 a5] w fun e w'=>e=.returned (.bool true)∧Below w.heap.size w w':=by
 replace A0:=I A0
 replace A2:=I A2
 replace A3:=I A3
 have B0:=A0
 have B2:=A2
 have B3:=A3
 obtain ⟨L0,hL0⟩:∃L,L=lJ LayD.n l0 1048576:=⟨_,rfl⟩
 have KS0:=I (fun W (h:SeeR aX W a0 c0 l0)=>Fi W a0 c0 l0 h 1048576 (by decide) (by decide))
 rw [←hL0] at KS0
 have HL0:=I hL0;clear hL0
 go_enter Tryz.func5,Tryz.ntmps5
 go_wp2_with fail
 obtain ⟨w0,hw0⟩:∃w0,w0=((((w.alloc (.cells #[.slice a0 l0.length c0] 24)).alloc (.cells #[.float .f32 s1_,.int .i64 g1_,.int .i64 q1_] 49)).alloc (.cells #[.int .i64 r2_,.int .i64 k2_,.slice a2 l2.length c2] 27)).alloc (.cells #[.int .i64 r3_,.int .i64 k3_,.slice a3 l3.length c3] 27)):=⟨_,rfl⟩
 rw [←hw0]
 have hb:Below w.heap.size w w0:=by rw [hw0];exact DR w (.cells #[.slice a0 l0.length c0] 24) (.cells #[.float .f32 s1_,.int .i64 g1_,.int .i64 q1_] 49) (.cells #[.int .i64 r2_,.int .i64 k2_,.slice a2 l2.length c2] 27) (.cells #[.int .i64 r3_,.int .i64 k3_,.slice a3 l3.length c3] 27)
 have BX0:Hid (BoxN w0 w.heap.size [.slice a0 l0.length c0]):=I (by rw [hw0];exact (((BoxN.alloc w #[.slice a0 l0.length c0] 24).below (aE _ (.cells #[.float .f32 s1_,.int .i64 g1_,.int .i64 q1_] 49))).below (aE _ (.cells #[.int .i64 r2_,.int .i64 k2_,.slice a2 l2.length c2] 27))).below (aE _ (.cells #[.int .i64 r3_,.int .i64 k3_,.slice a3 l3.length c3] 27)))
 have BX1:Hid (BoxN w0 (w.heap.size+1) [.float .f32 s1_,.int .i64 g1_,.int .i64 q1_]):=I (by rw [hw0];exact ((BoxN.alloc2 w _ #[.float .f32 s1_,.int .i64 g1_,.int .i64 q1_] 49).below (aE _ (.cells #[.int .i64 r2_,.int .i64 k2_,.slice a2 l2.length c2] 27))).below (aE _ (.cells #[.int .i64 r3_,.int .i64 k3_,.slice a3 l3.length c3] 27)))
 have BX2:Hid (BoxN w0 (w.heap.size+2) [.int .i64 r2_,.int .i64 k2_,.slice a2 l2.length c2]):=I (by rw [hw0];exact (BoxN.alloc3 w _ _ #[.int .i64 r2_,.int .i64 k2_,.slice a2 l2.length c2] 27).below (aE _ (.cells #[.int .i64 r3_,.int .i64 k3_,.slice a3 l3.length c3] 27)))
 have BX3:Hid (BoxN w0 (w.heap.size+3) [.int .i64 r3_,.int .i64 k3_,.slice a3 l3.length c3]):=I (by rw [hw0];exact BoxN.alloc4 w _ _ _ #[.int .i64 r3_,.int .i64 k3_,.slice a3 l3.length c3] 27)
 have z0:w.heap.size+4≤w0.heap.size:=by rw [hw0];simp
 clear hw0
 replace A0:=I (A0.out.below hb)
 replace A2:=I (A2.out.below hb)
 replace A3:=I (A3.out.below hb)
 have b0:=I hb;clear hb
 obtain ⟨-,BX0_0,-⟩:=BX0.out.one1
 obtain ⟨-,BX1_0,BX1_1,BX1_2,-⟩:=BX1.out.three
 obtain ⟨-,BX2_0,BX2_1,BX2_2,-⟩:=BX2.out.three
 obtain ⟨-,BX3_0,BX3_1,BX3_2,-⟩:=BX3.out.three
 refine (KS0.out _ A0.out).mono ?_
 rintro e w1 ⟨rfl,hb⟩
 clear BX0_0 BX1_0 BX1_1 BX1_2 BX2_0 BX2_1 BX2_2 BX3_0 BX3_1 BX3_2
 replace BX0:=I (BX0.out.below hb)
 replace BX1:=I (BX1.out.below hb)
 replace BX2:=I (BX2.out.below hb)
 replace BX3:=I (BX3.out.below hb)
 replace A0:=I (A0.out.below hb)
 replace A2:=I (A2.out.below hb)
 replace A3:=I (A3.out.below hb)
 have z1:w0.heap.size≤w1.heap.size:=hb.size
 have b1:=I (aA b0.out hb);clear b0
 clear hb
 by_cases hp0:0≤L0
 rotate_left
 ·have hp0:L0 < 0:=by omega
  go_wp2
  go_ret
  exact ⟨rfl,b1.out⟩
 have hS0:=xX HL0.out hp0 (by decide)
 have hn0:=hS0.1;have hq0:=hS0.2.1;have HI0:=I hS0.2.2.1;have ht0:=hS0.2.2.2;clear hS0
 obtain ⟨L2,hL2⟩:∃L:Int,L=if (l2.length:Int)≤L0 then L0 - l2.length else -1:=⟨_,rfl⟩
 have KS2:=I (fun W=>ED W r2_ k2_ a2 l2.length c2 L0 (Nat.le_trans A2.out.len A2.out.cap) hp0 hq0)
 rw [←hL2] at KS2
 have HL2:=I hL2;clear hL2
 obtain ⟨-,BX0_0,-⟩:=BX0.out.one1
 obtain ⟨-,BX1_0,BX1_1,BX1_2,-⟩:=BX1.out.three
 obtain ⟨-,BX2_0,BX2_1,BX2_2,-⟩:=BX2.out.three
 obtain ⟨-,BX3_0,BX3_1,BX3_2,-⟩:=BX3.out.three
 go_wp2_with fail
 refine (KS2.out _).mono ?_
 rintro e w2 ⟨rfl,hb⟩
 clear BX0_0 BX1_0 BX1_1 BX1_2 BX2_0 BX2_1 BX2_2 BX3_0 BX3_1 BX3_2
 replace BX0:=I (BX0.out.below hb)
 replace BX1:=I (BX1.out.below hb)
 replace BX2:=I (BX2.out.below hb)
 replace BX3:=I (BX3.out.below hb)
 replace A0:=I (A0.out.below hb)
 replace A2:=I (A2.out.below hb)
 replace A3:=I (A3.out.below hb)
 have z2:w1.heap.size≤w2.heap.size:=hb.size
 have b2:=I (aA b1.out hb);clear b1
 clear hb
 by_cases hp2:0≤L2
 rotate_left
 ·have hp2:L2 < 0:=by omega
  go_wp2
  go_ret
  exact ⟨rfl,b2.out⟩
 have hS2:=rU HL2.out hp2 (by omega)
 have hn2:=hS2.1;have hq2:=hS2.2;clear hS2
 obtain ⟨L3,hL3⟩:∃L:Int,L=if (l3.length:Int)≤L2 then L2 - l3.length else -1:=⟨_,rfl⟩
 have KS3:=I (fun W=>ED W r3_ k3_ a3 l3.length c3 L2 (Nat.le_trans A3.out.len A3.out.cap) hp2 hq2)
 rw [←hL3] at KS3
 have HL3:=I hL3;clear hL3
 obtain ⟨-,BX0_0,-⟩:=BX0.out.one1
 obtain ⟨-,BX1_0,BX1_1,BX1_2,-⟩:=BX1.out.three
 obtain ⟨-,BX2_0,BX2_1,BX2_2,-⟩:=BX2.out.three
 obtain ⟨-,BX3_0,BX3_1,BX3_2,-⟩:=BX3.out.three
 go_wp2_with fail
 refine (KS3.out _).mono ?_
 rintro e w3 ⟨rfl,hb⟩
 clear BX0_0 BX1_0 BX1_1 BX1_2 BX2_0 BX2_1 BX2_2 BX3_0 BX3_1 BX3_2
 replace BX0:=I (BX0.out.below hb)
 replace BX1:=I (BX1.out.below hb)
 replace BX2:=I (BX2.out.below hb)
 replace BX3:=I (BX3.out.below hb)
 replace A0:=I (A0.out.below hb)
 replace A2:=I (A2.out.below hb)
 replace A3:=I (A3.out.below hb)
 have z3:w2.heap.size≤w3.heap.size:=hb.size
 have b3:=I (aA b2.out hb);clear b2
 clear hb
 by_cases hp3:0≤L3
 rotate_left
 ·have hp3:L3 < 0:=by omega
  go_wp2
  go_ret
  exact ⟨rfl,b3.out⟩
 have hS3:=rU HL3.out hp3 (by omega)
 have hn3:=hS3.1;have hq3:=hS3.2;clear hS3
 obtain ⟨-,BX0_0,-⟩:=BX0.out.one1
 obtain ⟨-,BX1_0,BX1_1,BX1_2,-⟩:=BX1.out.three
 obtain ⟨-,BX2_0,BX2_1,BX2_2,-⟩:=BX2.out.three
 obtain ⟨-,BX3_0,BX3_1,BX3_2,-⟩:=BX3.out.three
 go_wp2_with fail
 go_cut [14,15,16,17] (fun p1 p2 v1 v2 wx => ∃(ba bb lo hi:Nat) (ad:Option Addr) (n cap s':Nat) (g' q':Int) (f:Int) (b:Bool) (us:List LayD),(p1=.pointer (some ⟨ba,0,none⟩)∧p2=.pointer (some ⟨bb,0,none⟩)∧v1=.int .i64 f∧v2=.bool b)∧Hid (CutN w3 wx (vR (l0.map LayD.toLayP) r2_ k2_ l2 r3_ k3_ l3 s1_ g1_ q1_ a4 a5) ba bb lo hi ad n cap s' g' q' f b us))
 case first =>
  refine lY (N:=10) (S:=fun i=>([48,49,50,51,52,53,54,55,56,57,58,47,59,60,61,62,14,15,10000,10001,16,17]:List Nat).getD i 0) (D:=[48,49,50,51,52,53,54,55,56,57,58,47,59,60,61,62,14,15,16,17]) (Φ:=fun i=>([IsV (.agg #[.slice a0 l0.length c0]),IsM l0,IsV (.agg #[.float .f32 s1_,.int .i64 g1_,.int .i64 q1_]),IsV (.agg #[.float .f32 s1_,.int .i64 g1_,.int .i64 q1_]),IsV (.agg #[.int .i64 r2_,.int .i64 k2_,.slice a2 l2.length c2]),IsT r2_ k2_ l2,IsV (.agg #[.int .i64 r3_,.int .i64 k3_,.slice a3 l3.length c3]),IsT r3_ k3_ l3,IsV (.float .f32 a4),IsV (.int .i64 a5)]:List (Value→World→Prop)).getD i fun _ _=>False) (F:=DQ (vR (l0.map LayD.toLayP) r2_ k2_ l2 r3_ k3_ l3 s1_ g1_ q1_ a4 a5)) (y0:=35) (y1:=50) (by kernel_rfl) (by kernel_rfl) rfl (AZ (n:=63) (by kernel_rfl) (Nat.le_of_ble_eq_true rfl)) (yW ⟨IsV.stab (.agg #[.slice a0 l0.length c0]),IsM.stab l0,IsV.stab (.agg #[.float .f32 s1_,.int .i64 g1_,.int .i64 q1_]),IsV.stab (.agg #[.float .f32 s1_,.int .i64 g1_,.int .i64 q1_]),IsV.stab (.agg #[.int .i64 r2_,.int .i64 k2_,.slice a2 l2.length c2]),IsT.stab r2_ k2_ l2,IsV.stab (.agg #[.int .i64 r3_,.int .i64 k3_,.slice a3 l3.length c3]),IsT.stab r3_ k3_ l3,IsV.stab (.float .f32 a4),IsV.stab (.int .i64 a5),trivial⟩) ⟨_,_,_,rfl⟩ ⟨_,_,_,rfl⟩ ?oE ⟨_,_,_,rfl⟩ ⟨_,_,_,rfl⟩ ⟨_,_,_,rfl⟩ ⟨_,_,_,rfl⟩ ?oF ?pre ?call (fun o a W K=>qX) (fun o a W K=>qY) (fun o a W K p v b x ad n cap=>qZ) (fun o a W K p v b x y z s g q=>rA) ?fin
  case oE=>exact fun k hk=>by match k,hk with | 0,_=>exact ⟨_,_,_,rfl⟩ | 1,_=>exact ⟨_,_,_,rfl⟩ | 2,_=>exact ⟨_,_,_,rfl⟩ | 3,_=>exact ⟨_,_,_,rfl⟩
  case oF=>exact fun k hk=>by match k,hk with | 0,_=>exact ⟨_,_,_,rfl⟩ | 1,_=>exact ⟨_,_,_,rfl⟩
  case pre =>
   intro i o hi ho
   match i,hi,ho with
   | 0,_,ho =>
    have ho2:=Option.some.inj ho
    subst ho2
    refine ⟨⟨rfl,rfl⟩,fun a W K hag hbel hdep hK=>?_⟩
    exact wX rfl ((hag.at' _ (by decide)).trans rfl) (BX0.out.below hbel) (hK _ _ rfl (O _ _))
   | 1,_,ho =>
    have ho2:=Option.some.inj ho
    subst ho2
    refine ⟨⟨rfl,rfl⟩,fun a W K hag hbel hdep hK=>?_⟩
    have hd:a.eval (.tmp 48)=.agg #[.slice a0 l0.length c0]:=hdep 0 (by decide) (by kernel_rfl)
    exact fX rfl Tryz.func9 (by kernel_rfl) rfl #[.agg #[.slice a0 l0.length c0]] (by simp [hd]) (DC W a0 c0 l0 (A0.out.below hbel) hn0 HI0.out) (fun e W' ⟨p,q,o,h1,h2,h3,h4⟩=>⟨_,h1,hK _ _ ⟨p,q,o,_,_,rfl,h2,h3.out⟩ h4⟩)
   | 2,_,ho =>
    have ho2:=Option.some.inj ho
    subst ho2
    refine ⟨⟨rfl,rfl⟩,fun a W K hag hbel hdep hK=>?_⟩
    exact rC rfl ((hag.at' _ (by decide)).trans rfl) (BX1.out.below hbel) (hK _ _ rfl (O _ _))
   | 3,_,ho =>
    have ho2:=Option.some.inj ho
    subst ho2
    refine ⟨⟨rfl,rfl⟩,fun a W K hag hbel hdep hK=>?_⟩
    have hd:a.eval (.tmp 50)=.agg #[.float .f32 s1_,.int .i64 g1_,.int .i64 q1_]:=hdep 2 (by decide) (by kernel_rfl)
    exact fX rfl Tryz.func21 (by kernel_rfl) rfl #[.agg #[.float .f32 s1_,.int .i64 g1_,.int .i64 q1_]] (by simp [hd]) (gV s1_ g1_ q1_ W) (fun e W' ⟨h1,h2⟩=>⟨_,h1,hK _ _ rfl h2⟩)
   | 4,_,ho =>
    have ho2:=Option.some.inj ho
    subst ho2
    refine ⟨⟨rfl,rfl⟩,fun a W K hag hbel hdep hK=>?_⟩
    exact nN rfl ((hag.at' _ (by decide)).trans rfl) (BX2.out.below hbel) (hK _ _ rfl (O _ _))
   | 5,_,ho =>
    have ho2:=Option.some.inj ho
    subst ho2
    refine ⟨⟨rfl,rfl⟩,fun a W K hag hbel hdep hK=>?_⟩
    have hd:a.eval (.tmp 52)=.agg #[.int .i64 r2_,.int .i64 k2_,.slice a2 l2.length c2]:=hdep 4 (by decide) (by kernel_rfl)
    exact fX rfl Tryz.func10 (by kernel_rfl) rfl #[.agg #[.int .i64 r2_,.int .i64 k2_,.slice a2 l2.length c2]] (by simp [hd]) (Ay W r2_ k2_ a2 c2 l2 (A2.out.below hbel) hn2) (fun e W' ⟨p,q,h1,h2,h3⟩=>⟨_,h1,hK _ _ ⟨p,q,_,_,rfl,h2.out⟩ h3⟩)
   | 6,_,ho =>
    have ho2:=Option.some.inj ho
    subst ho2
    refine ⟨⟨rfl,rfl⟩,fun a W K hag hbel hdep hK=>?_⟩
    exact nN rfl ((hag.at' _ (by decide)).trans rfl) (BX3.out.below hbel) (hK _ _ rfl (O _ _))
   | 7,_,ho =>
    have ho2:=Option.some.inj ho
    subst ho2
    refine ⟨⟨rfl,rfl⟩,fun a W K hag hbel hdep hK=>?_⟩
    have hd:a.eval (.tmp 54)=.agg #[.int .i64 r3_,.int .i64 k3_,.slice a3 l3.length c3]:=hdep 6 (by decide) (by kernel_rfl)
    exact fX rfl Tryz.func10 (by kernel_rfl) rfl #[.agg #[.int .i64 r3_,.int .i64 k3_,.slice a3 l3.length c3]] (by simp [hd]) (Ay W r3_ k3_ a3 c3 l3 (A3.out.below hbel) hn3) (fun e W' ⟨p,q,h1,h2,h3⟩=>⟨_,h1,hK _ _ ⟨p,q,_,_,rfl,h2.out⟩ h3⟩)
   | 8,_,ho =>
    have ho2:=Option.some.inj ho
    subst ho2
    refine ⟨⟨rfl,rfl⟩,fun a W K hag hbel hdep hK=>?_⟩
    exact nO rfl (hK _ _ ((hag.at' _ (by decide)).trans rfl) (O _ _))
   | 9,_,ho =>
    have ho2:=Option.some.inj ho
    subst ho2
    refine ⟨⟨rfl,rfl⟩,fun a W K hag hbel hdep hK=>?_⟩
    exact nO rfl (hK _ _ ((hag.at' _ (by decide)).trans rfl) (O _ _))
  case call =>
   intro o ho a W K hag hbel hdep hK
   have ho2:=Option.some.inj ho
   subst ho2
   obtain ⟨p0,q0,o0,lo0,hi0,e0,m0,r0⟩:IsM l0 (a.eval (.tmp 49)) W:=hdep 1 (by decide) (by kernel_rfl)
   have n0:o0.length=l0.length:=by have:=congrArg List.length m0;simpa using this
   have e1:a.eval (.tmp 51)=.agg #[.float .f32 s1_,.int .i64 g1_,.int .i64 q1_]:=hdep 3 (by decide) (by kernel_rfl)
   obtain ⟨p2,q2,lo2,hi2,e2,t2⟩:IsT r2_ k2_ l2 (a.eval (.tmp 53)) W:=hdep 5 (by decide) (by kernel_rfl)
   obtain ⟨p3,q3,lo3,hi3,e3,t3⟩:IsT r3_ k3_ l3 (a.eval (.tmp 55)) W:=hdep 7 (by decide) (by kernel_rfl)
   have e4:a.eval (.tmp 56)=.float .f32 a4:=hdep 8 (by decide) (by kernel_rfl)
   have e5:a.eval (.tmp 57)=.int .i64 a5:=hdep 9 (by decide) (by kernel_rfl)
   have hk:=rD W p0 q0 o0 r0 (mP m0 HI0.out) s1_ g1_ q1_ A1 G1 Q1 r2_ k2_ p2 q2 l2 t2 hn2 R2 C2 r3_ k3_ p3 q3 l3 t3 hn3 R3 C3 a4 A4 a5 A5
   rw [n0,m0] at hk
   exact fX rfl Tryz.func25 (by kernel_rfl) rfl #[.agg #[.slice p0 l0.length q0],.agg #[.float .f32 s1_,.int .i64 g1_,.int .i64 q1_],.agg #[.int .i64 r2_,.int .i64 k2_,.slice p2 l2.length q2],.agg #[.int .i64 r3_,.int .i64 k3_,.slice p3 l3.length q3],.float .f32 a4,.int .i64 a5] (by simp [e0,e1,e2,e3,e4,e5]) hk (fun e W' ⟨ad,n,cap,s',g',q',f,b,us,h1,h2,h3⟩=>⟨_,h1,hK _ _ ⟨ad,n,cap,s',g',q',_,_,us,rfl,⟨f,b,rfl,rfl,h2.out.1⟩,h2.out.2⟩ h3⟩)
  case fin =>
   intro a W h
   obtain ⟨hag,ba,bb,lo,hi,ad,n,cap,s',g',q',f,b,us,⟨h1,h2,h3,h4⟩,hC⟩:=h.cutN
   replace h1:a.eval (.tmp 14) = _:=h1
   replace h2:a.eval (.tmp 15) = _:=h2
   replace h3:a.eval (.tmp 16) = _:=h3
   replace h4:a.eval (.tmp 17) = _:=h4
   go_step
   go_step
   rw [hag.fold]
   simp only [List.foldl,h1,h2,h3,h4,Act.put,List.setIfInBounds_toArray,List.set]
   refine Met.intro ?_
   go_step
   (repeat apply Exists.intro)
   refine ⟨?_,rfl⟩
   exact ⟨ba,bb,lo,hi,ad,n,cap,s',g',q',f,b,us,⟨rfl,rfl,rfl,rfl⟩,hC⟩
 obtain ⟨ba_s,bb_s,lo_s,hi_s,ad_s0,n_s0,cp_s0,vs_s1,vg_s1,vq_s1,v_s2,v_s3,y_s0,⟨rfl,rfl,rfl,rfl⟩,HC_s⟩:=hcut
 have hb:=HC_s.out.below
 have hc1_s:=HC_s.out.loL;have hc2_s:=HC_s.out.hiL;have hc3_s:=HC_s.out.apA;have hc4_s:=HC_s.out.apB;have hc5_s:=HC_s.out.geA;have hc6_s:=HC_s.out.geB
 have BRs0:Hid (BoxN wc ba_s [.slice ad_s0 n_s0 cp_s0]):=I HC_s.out.boxA
 have BRs1:Hid (BoxN wc bb_s [.float .f32 vs_s1,.int .i64 vg_s1,.int .i64 vq_s1]):=I HC_s.out.boxB
 have HO_s:=I HC_s.out.res;clear HC_s
 have Q_s0:=I HO_s.out.1.2
 have Q_s1:=I HO_s.out.1.1.2
 have U_s:=I HO_s.out.1.1.1.2
 have V_s:=I HO_s.out.1.1.1.1
 have M_s0:=I (show vQ n_s0 y_s0 from by have h1:=HO_s.out.2.len;have h2:=oX A1 HO_s.out.1.2;rw [h1] at h2;exact h2)
 have s0:=I HO_s.out.2;clear HO_s
 generalize wc=w4 at hb BRs0 BRs1 s0 hc2_s hc5_s hc6_s ⊢
 clear BX0_0 BX1_0 BX1_1 BX1_2 BX2_0 BX2_1 BX2_2 BX3_0 BX3_1 BX3_2
 replace BX0:=I (BX0.out.below hb)
 replace BX1:=I (BX1.out.below hb)
 replace BX2:=I (BX2.out.below hb)
 replace BX3:=I (BX3.out.below hb)
 replace A0:=I (A0.out.below hb)
 replace A2:=I (A2.out.below hb)
 replace A3:=I (A3.out.below hb)
 have z4:w3.heap.size≤w4.heap.size:=hb.size
 have b4:=I (aA b3.out hb);clear b3
 clear hb
 obtain ⟨-,BX0_0,-⟩:=BX0.out.one1
 obtain ⟨-,BX1_0,BX1_1,BX1_2,-⟩:=BX1.out.three
 obtain ⟨-,BX2_0,BX2_1,BX2_2,-⟩:=BX2.out.three
 obtain ⟨-,BX3_0,BX3_1,BX3_2,-⟩:=BX3.out.three
 obtain ⟨-,BRs0_0,-⟩:=BRs0.out.one1
 obtain ⟨-,BRs1_0,BRs1_1,BRs1_2,-⟩:=BRs1.out.three
 go_wp2_with fail
 refine (DC _ a0 c0 l0 A0.out hn0 HI0.out).mono ?_
 rintro e w5 ⟨p_x0,q_x0,o_x0,rfl,he_x0,x0,hb⟩
 have E_x0:=I he_x0
 have hlen_x0:o_x0.length=l0.length:=by have:=congrArg List.length he_x0;simpa using this
 have N_x0:=I hlen_x0;clear he_x0 hlen_x0
 clear BX0_0 BX1_0 BX1_1 BX1_2 BX2_0 BX2_1 BX2_2 BX3_0 BX3_1 BX3_2 BRs0_0 BRs1_0 BRs1_1 BRs1_2
 replace BX0:=I (BX0.out.below hb)
 replace BX1:=I (BX1.out.below hb)
 replace BX2:=I (BX2.out.below hb)
 replace BX3:=I (BX3.out.below hb)
 replace BRs0:=I (BRs0.out.below hb)
 replace BRs1:=I (BRs1.out.below hb)
 replace s0:=I (s0.out.below hb)
 replace A0:=I (A0.out.below hb)
 replace A2:=I (A2.out.below hb)
 replace A3:=I (A3.out.below hb)
 have z5:w4.heap.size≤w5.heap.size:=hb.size
 have b5:=I (aA b4.out hb);clear b4
 clear hb
 obtain ⟨-,BX0_0,-⟩:=BX0.out.one1
 obtain ⟨-,BX1_0,BX1_1,BX1_2,-⟩:=BX1.out.three
 obtain ⟨-,BX2_0,BX2_1,BX2_2,-⟩:=BX2.out.three
 obtain ⟨-,BX3_0,BX3_1,BX3_2,-⟩:=BX3.out.three
 obtain ⟨-,BRs0_0,-⟩:=BRs0.out.one1
 obtain ⟨-,BRs1_0,BRs1_1,BRs1_2,-⟩:=BRs1.out.three
 go_upto_region 13 with fail
 obtain ⟨w6,hw0⟩:∃W,W=w5.alloc (.cells #[.slice p_x0 l0.length q_x0] 35):=⟨_,rfl⟩
 rw [←hw0]
 have hb:Below w5.heap.size w5 w6:=by rw [hw0];exact aE w5 (.cells #[.slice p_x0 l0.length q_x0] 35)
 clear BX0_0 BX1_0 BX1_1 BX1_2 BX2_0 BX2_1 BX2_2 BX3_0 BX3_1 BX3_2 BRs0_0 BRs1_0 BRs1_1 BRs1_2
 replace BX0:=I (BX0.out.below hb)
 replace BX1:=I (BX1.out.below hb)
 replace BX2:=I (BX2.out.below hb)
 replace BX3:=I (BX3.out.below hb)
 replace BRs0:=I (BRs0.out.below hb)
 replace BRs1:=I (BRs1.out.below hb)
 replace s0:=I (s0.out.below hb)
 replace x0:=I (x0.out.below hb)
 replace A0:=I (A0.out.below hb)
 replace A2:=I (A2.out.below hb)
 replace A3:=I (A3.out.below hb)
 have z6:w5.heap.size+1≤w6.heap.size:=by rw [hw0];simp
 have b6:=I (aA b5.out hb);clear b5
 clear hb
 have BXx0:Hid (BoxN w6 w5.heap.size [.slice p_x0 l0.length q_x0]):=I (by rw [hw0];exact BoxN.alloc w5 #[.slice p_x0 l0.length q_x0] 35)
 clear hw0
 obtain ⟨-,BX0_0,-⟩:=BX0.out.one1
 obtain ⟨-,BX1_0,BX1_1,BX1_2,-⟩:=BX1.out.three
 obtain ⟨-,BX2_0,BX2_1,BX2_2,-⟩:=BX2.out.three
 obtain ⟨-,BX3_0,BX3_1,BX3_2,-⟩:=BX3.out.three
 obtain ⟨-,BRs0_0,-⟩:=BRs0.out.one1
 obtain ⟨-,BRs1_0,BRs1_1,BRs1_2,-⟩:=BRs1.out.three
 obtain ⟨-,BXx0_0,-⟩:=BXx0.out.one1
 go_wp2_with fail
 refine (Ay _ r2_ k2_ a2 c2 l2 A2.out hn2).mono ?_
 rintro e w7 ⟨p_x2,q_x2,rfl,x2,hb⟩
 clear BX0_0 BX1_0 BX1_1 BX1_2 BX2_0 BX2_1 BX2_2 BX3_0 BX3_1 BX3_2 BRs0_0 BRs1_0 BRs1_1 BRs1_2 BXx0_0
 replace BX0:=I (BX0.out.below hb)
 replace BX1:=I (BX1.out.below hb)
 replace BX2:=I (BX2.out.below hb)
 replace BX3:=I (BX3.out.below hb)
 replace BRs0:=I (BRs0.out.below hb)
 replace BRs1:=I (BRs1.out.below hb)
 replace BXx0:=I (BXx0.out.below hb)
 replace s0:=I (s0.out.below hb)
 replace x0:=I (x0.out.below hb)
 replace A0:=I (A0.out.below hb)
 replace A2:=I (A2.out.below hb)
 replace A3:=I (A3.out.below hb)
 have z7:w6.heap.size≤w7.heap.size:=hb.size
 have b7:=I (aA b6.out hb);clear b6
 clear hb
 obtain ⟨-,BX0_0,-⟩:=BX0.out.one1
 obtain ⟨-,BX1_0,BX1_1,BX1_2,-⟩:=BX1.out.three
 obtain ⟨-,BX2_0,BX2_1,BX2_2,-⟩:=BX2.out.three
 obtain ⟨-,BX3_0,BX3_1,BX3_2,-⟩:=BX3.out.three
 obtain ⟨-,BRs0_0,-⟩:=BRs0.out.one1
 obtain ⟨-,BRs1_0,BRs1_1,BRs1_2,-⟩:=BRs1.out.three
 obtain ⟨-,BXx0_0,-⟩:=BXx0.out.one1
 go_upto_region 14 with fail
 obtain ⟨w8,hw0⟩:∃W,W=w7.alloc (.cells #[.int .i64 r2_,.int .i64 k2_,.slice p_x2 l2.length q_x2] 37):=⟨_,rfl⟩
 rw [←hw0]
 have hb:Below w7.heap.size w7 w8:=by rw [hw0];exact aE w7 (.cells #[.int .i64 r2_,.int .i64 k2_,.slice p_x2 l2.length q_x2] 37)
 clear BX0_0 BX1_0 BX1_1 BX1_2 BX2_0 BX2_1 BX2_2 BX3_0 BX3_1 BX3_2 BRs0_0 BRs1_0 BRs1_1 BRs1_2 BXx0_0
 replace BX0:=I (BX0.out.below hb)
 replace BX1:=I (BX1.out.below hb)
 replace BX2:=I (BX2.out.below hb)
 replace BX3:=I (BX3.out.below hb)
 replace BRs0:=I (BRs0.out.below hb)
 replace BRs1:=I (BRs1.out.below hb)
 replace BXx0:=I (BXx0.out.below hb)
 replace s0:=I (s0.out.below hb)
 replace x0:=I (x0.out.below hb)
 replace x2:=I (x2.out.below hb)
 replace A0:=I (A0.out.below hb)
 replace A2:=I (A2.out.below hb)
 replace A3:=I (A3.out.below hb)
 have z8:w7.heap.size+1≤w8.heap.size:=by rw [hw0];simp
 have b8:=I (aA b7.out hb);clear b7
 clear hb
 have BXx2:Hid (BoxN w8 w7.heap.size [.int .i64 r2_,.int .i64 k2_,.slice p_x2 l2.length q_x2]):=I (by rw [hw0];exact BoxN.alloc w7 #[.int .i64 r2_,.int .i64 k2_,.slice p_x2 l2.length q_x2] 37)
 clear hw0
 obtain ⟨-,BX0_0,-⟩:=BX0.out.one1
 obtain ⟨-,BX1_0,BX1_1,BX1_2,-⟩:=BX1.out.three
 obtain ⟨-,BX2_0,BX2_1,BX2_2,-⟩:=BX2.out.three
 obtain ⟨-,BX3_0,BX3_1,BX3_2,-⟩:=BX3.out.three
 obtain ⟨-,BRs0_0,-⟩:=BRs0.out.one1
 obtain ⟨-,BRs1_0,BRs1_1,BRs1_2,-⟩:=BRs1.out.three
 obtain ⟨-,BXx0_0,-⟩:=BXx0.out.one1
 obtain ⟨-,BXx2_0,BXx2_1,BXx2_2,-⟩:=BXx2.out.three
 go_wp2_with fail
 refine (Ay _ r3_ k3_ a3 c3 l3 A3.out hn3).mono ?_
 rintro e w9 ⟨p_x3,q_x3,rfl,x3,hb⟩
 clear BX0_0 BX1_0 BX1_1 BX1_2 BX2_0 BX2_1 BX2_2 BX3_0 BX3_1 BX3_2 BRs0_0 BRs1_0 BRs1_1 BRs1_2 BXx0_0 BXx2_0 BXx2_1 BXx2_2
 replace BX0:=I (BX0.out.below hb)
 replace BX1:=I (BX1.out.below hb)
 replace BX2:=I (BX2.out.below hb)
 replace BX3:=I (BX3.out.below hb)
 replace BRs0:=I (BRs0.out.below hb)
 replace BRs1:=I (BRs1.out.below hb)
 replace BXx0:=I (BXx0.out.below hb)
 replace BXx2:=I (BXx2.out.below hb)
 replace s0:=I (s0.out.below hb)
 replace x0:=I (x0.out.below hb)
 replace x2:=I (x2.out.below hb)
 replace A0:=I (A0.out.below hb)
 replace A2:=I (A2.out.below hb)
 replace A3:=I (A3.out.below hb)
 have z9:w8.heap.size≤w9.heap.size:=hb.size
 have b9:=I (aA b8.out hb);clear b8
 clear hb
 go_upto_region 15 with fail
 obtain ⟨w10,hw0⟩:∃W,W=w9.alloc (.cells #[.int .i64 r3_,.int .i64 k3_,.slice p_x3 l3.length q_x3] 37):=⟨_,rfl⟩
 rw [←hw0]
 have hb:Below w9.heap.size w9 w10:=by rw [hw0];exact aE w9 (.cells #[.int .i64 r3_,.int .i64 k3_,.slice p_x3 l3.length q_x3] 37)
 replace BX0:=I (BX0.out.below hb)
 replace BX1:=I (BX1.out.below hb)
 replace BX2:=I (BX2.out.below hb)
 replace BX3:=I (BX3.out.below hb)
 replace BRs0:=I (BRs0.out.below hb)
 replace BRs1:=I (BRs1.out.below hb)
 replace BXx0:=I (BXx0.out.below hb)
 replace BXx2:=I (BXx2.out.below hb)
 replace s0:=I (s0.out.below hb)
 replace x0:=I (x0.out.below hb)
 replace x2:=I (x2.out.below hb)
 replace x3:=I (x3.out.below hb)
 replace A0:=I (A0.out.below hb)
 replace A2:=I (A2.out.below hb)
 replace A3:=I (A3.out.below hb)
 have z10:w9.heap.size+1≤w10.heap.size:=by rw [hw0];simp
 have b10:=I (aA b9.out hb);clear b9
 clear hb
 have BXx3:Hid (BoxN w10 w9.heap.size [.int .i64 r3_,.int .i64 k3_,.slice p_x3 l3.length q_x3]):=I (by rw [hw0];exact BoxN.alloc w9 #[.int .i64 r3_,.int .i64 k3_,.slice p_x3 l3.length q_x3] 37)
 clear hw0
 obtain ⟨-,BX0_0,-⟩:=BX0.out.one1
 obtain ⟨-,BX1_0,BX1_1,BX1_2,-⟩:=BX1.out.three
 obtain ⟨-,BX2_0,BX2_1,BX2_2,-⟩:=BX2.out.three
 obtain ⟨-,BX3_0,BX3_1,BX3_2,-⟩:=BX3.out.three
 obtain ⟨-,BRs0_0,-⟩:=BRs0.out.one1
 obtain ⟨-,BRs1_0,BRs1_1,BRs1_2,-⟩:=BRs1.out.three
 obtain ⟨-,BXx0_0,-⟩:=BXx0.out.one1
 obtain ⟨-,BXx2_0,BXx2_1,BXx2_2,-⟩:=BXx2.out.three
 obtain ⟨-,BXx3_0,BXx3_1,BXx3_2,-⟩:=BXx3.out.three
 go_cut [21,22,23,24] (fun p1 p2 v1 v2 wx => ∃(ba bb lo hi:Nat) (ad:Option Addr) (n cap s':Nat) (g' q':Int) (f:Int) (b:Bool) (us:List LayD),(p1=.pointer (some ⟨ba,0,none⟩)∧p2=.pointer (some ⟨bb,0,none⟩)∧v1=.int .i64 f∧v2=.bool b)∧Hid (CutN w10 wx (vR (l0.map LayD.toLayP) r2_ k2_ l2 r3_ k3_ l3 s1_ g1_ q1_ a4 a5) ba bb lo hi ad n cap s' g' q' f b us))
 case first =>
  refine lY (N:=7) (S:=fun i=>([70,71,72,73,74,75,76,77,69,78,79,80,81,21,22,10000,10001,23,24]:List Nat).getD i 0) (D:=[70,71,72,73,74,75,76,77,69,78,79,80,81,21,22,23,24]) (Φ:=fun i=>([IsV (.agg #[.slice p_x0 l0.length q_x0]),IsV (.agg #[.float .f32 s1_,.int .i64 g1_,.int .i64 q1_]),IsV (.agg #[.float .f32 s1_,.int .i64 g1_,.int .i64 q1_]),IsV (.agg #[.int .i64 r2_,.int .i64 k2_,.slice p_x2 l2.length q_x2]),IsV (.agg #[.int .i64 r3_,.int .i64 k3_,.slice p_x3 l3.length q_x3]),IsV (.float .f32 a4),IsV (.int .i64 a5)]:List (Value→World→Prop)).getD i fun _ _=>False) (F:=DQ (vR (l0.map LayD.toLayP) r2_ k2_ l2 r3_ k3_ l3 s1_ g1_ q1_ a4 a5)) (y0:=35) (y1:=50) (by kernel_rfl) (by kernel_rfl) rfl (AZ (n:=82) (by kernel_rfl) (Nat.le_of_ble_eq_true rfl)) (yW ⟨IsV.stab (.agg #[.slice p_x0 l0.length q_x0]),IsV.stab (.agg #[.float .f32 s1_,.int .i64 g1_,.int .i64 q1_]),IsV.stab (.agg #[.float .f32 s1_,.int .i64 g1_,.int .i64 q1_]),IsV.stab (.agg #[.int .i64 r2_,.int .i64 k2_,.slice p_x2 l2.length q_x2]),IsV.stab (.agg #[.int .i64 r3_,.int .i64 k3_,.slice p_x3 l3.length q_x3]),IsV.stab (.float .f32 a4),IsV.stab (.int .i64 a5),trivial⟩) ⟨_,_,_,rfl⟩ ⟨_,_,_,rfl⟩ ?oE ⟨_,_,_,rfl⟩ ⟨_,_,_,rfl⟩ ⟨_,_,_,rfl⟩ ⟨_,_,_,rfl⟩ ?oF ?pre ?call (fun o a W K=>qX) (fun o a W K=>qY) (fun o a W K p v b x ad n cap=>qZ) (fun o a W K p v b x y z s g q=>rA) ?fin
  case oE=>exact fun k hk=>by match k,hk with | 0,_=>exact ⟨_,_,_,rfl⟩ | 1,_=>exact ⟨_,_,_,rfl⟩ | 2,_=>exact ⟨_,_,_,rfl⟩ | 3,_=>exact ⟨_,_,_,rfl⟩
  case oF=>exact fun k hk=>by match k,hk with | 0,_=>exact ⟨_,_,_,rfl⟩ | 1,_=>exact ⟨_,_,_,rfl⟩
  case pre =>
   intro i o hi ho
   match i,hi,ho with
   | 0,_,ho =>
    have ho2:=Option.some.inj ho
    subst ho2
    refine ⟨⟨rfl,rfl⟩,fun a W K hag hbel hdep hK=>?_⟩
    exact Dm rfl ((hag.at' _ (by decide)).trans rfl) (BXx0.out.below hbel) (hK _ _ rfl (O _ _))
   | 1,_,ho =>
    have ho2:=Option.some.inj ho
    subst ho2
    refine ⟨⟨rfl,rfl⟩,fun a W K hag hbel hdep hK=>?_⟩
    exact rC rfl ((hag.at' _ (by decide)).trans rfl) (BX1.out.below hbel) (hK _ _ rfl (O _ _))
   | 2,_,ho =>
    have ho2:=Option.some.inj ho
    subst ho2
    refine ⟨⟨rfl,rfl⟩,fun a W K hag hbel hdep hK=>?_⟩
    have hd:a.eval (.tmp 71)=.agg #[.float .f32 s1_,.int .i64 g1_,.int .i64 q1_]:=hdep 1 (by decide) (by kernel_rfl)
    exact fX rfl Tryz.func21 (by kernel_rfl) rfl #[.agg #[.float .f32 s1_,.int .i64 g1_,.int .i64 q1_]] (by simp [hd]) (gV s1_ g1_ q1_ W) (fun e W' ⟨h1,h2⟩=>⟨_,h1,hK _ _ rfl h2⟩)
   | 3,_,ho =>
    have ho2:=Option.some.inj ho
    subst ho2
    refine ⟨⟨rfl,rfl⟩,fun a W K hag hbel hdep hK=>?_⟩
    exact Aq rfl ((hag.at' _ (by decide)).trans rfl) (BXx2.out.below hbel) (hK _ _ rfl (O _ _))
   | 4,_,ho =>
    have ho2:=Option.some.inj ho
    subst ho2
    refine ⟨⟨rfl,rfl⟩,fun a W K hag hbel hdep hK=>?_⟩
    exact Aq rfl ((hag.at' _ (by decide)).trans rfl) (BXx3.out.below hbel) (hK _ _ rfl (O _ _))
   | 5,_,ho =>
    have ho2:=Option.some.inj ho
    subst ho2
    refine ⟨⟨rfl,rfl⟩,fun a W K hag hbel hdep hK=>?_⟩
    exact nO rfl (hK _ _ ((hag.at' _ (by decide)).trans rfl) (O _ _))
   | 6,_,ho =>
    have ho2:=Option.some.inj ho
    subst ho2
    refine ⟨⟨rfl,rfl⟩,fun a W K hag hbel hdep hK=>?_⟩
    exact nO rfl (hK _ _ ((hag.at' _ (by decide)).trans rfl) (O _ _))
  case call =>
   intro o ho a W K hag hbel hdep hK
   have ho2:=Option.some.inj ho
   subst ho2
   have e0:a.eval (.tmp 70)=.agg #[.slice p_x0 l0.length q_x0]:=hdep 0 (by decide) (by kernel_rfl)
   have e1:a.eval (.tmp 72)=.agg #[.float .f32 s1_,.int .i64 g1_,.int .i64 q1_]:=hdep 2 (by decide) (by kernel_rfl)
   have e2:a.eval (.tmp 73)=.agg #[.int .i64 r2_,.int .i64 k2_,.slice p_x2 l2.length q_x2]:=hdep 3 (by decide) (by kernel_rfl)
   have e3:a.eval (.tmp 74)=.agg #[.int .i64 r3_,.int .i64 k3_,.slice p_x3 l3.length q_x3]:=hdep 4 (by decide) (by kernel_rfl)
   have e4:a.eval (.tmp 75)=.float .f32 a4:=hdep 5 (by decide) (by kernel_rfl)
   have e5:a.eval (.tmp 76)=.int .i64 a5:=hdep 6 (by decide) (by kernel_rfl)
   have hk:=kY W p_x0 q_x0 o_x0 (x0.out.below hbel) (mP E_x0.out HI0.out) s1_ g1_ q1_ A1 G1 Q1 r2_ k2_ p_x2 q_x2 l2 (x2.out.below hbel) hn2 R2 C2 r3_ k3_ p_x3 q_x3 l3 (x3.out.below hbel) hn3 R3 C3 a4 A4 a5 A5
   rw [N_x0.out,E_x0.out] at hk
   exact fX rfl Tryz.func26 (by kernel_rfl) rfl #[.agg #[.slice p_x0 l0.length q_x0],.agg #[.float .f32 s1_,.int .i64 g1_,.int .i64 q1_],.agg #[.int .i64 r2_,.int .i64 k2_,.slice p_x2 l2.length q_x2],.agg #[.int .i64 r3_,.int .i64 k3_,.slice p_x3 l3.length q_x3],.float .f32 a4,.int .i64 a5] (by simp [e0,e1,e2,e3,e4,e5]) hk (fun e W' ⟨ad,n,cap,s',g',q',f,b,us,h1,h2,h3⟩=>⟨_,h1,hK _ _ ⟨ad,n,cap,s',g',q',_,_,us,rfl,⟨f,b,rfl,rfl,h2.out.1⟩,h2.out.2⟩ h3⟩)
  case fin =>
   intro a W h
   obtain ⟨hag,ba,bb,lo,hi,ad,n,cap,s',g',q',f,b,us,⟨h1,h2,h3,h4⟩,hC⟩:=h.cutN
   replace h1:a.eval (.tmp 21) = _:=h1
   replace h2:a.eval (.tmp 22) = _:=h2
   replace h3:a.eval (.tmp 23) = _:=h3
   replace h4:a.eval (.tmp 24) = _:=h4
   go_step
   go_step
   rw [hag.fold]
   simp only [List.foldl,h1,h2,h3,h4,Act.put,List.setIfInBounds_toArray,List.set]
   refine Met.intro ?_
   go_step
   (repeat apply Exists.intro)
   refine ⟨?_,rfl⟩
   exact ⟨ba,bb,lo,hi,ad,n,cap,s',g',q',f,b,us,⟨rfl,rfl,rfl,rfl⟩,hC⟩
 obtain ⟨ba_g,bb_g,lo_g,hi_g,ad_g0,n_g0,cp_g0,vs_g1,vg_g1,vq_g1,v_g2,v_g3,y_g0,⟨rfl,rfl,rfl,rfl⟩,HC_g⟩:=hcut
 have hb:=HC_g.out.below
 have hc1_g:=HC_g.out.loL;have hc2_g:=HC_g.out.hiL;have hc3_g:=HC_g.out.apA;have hc4_g:=HC_g.out.apB;have hc5_g:=HC_g.out.geA;have hc6_g:=HC_g.out.geB
 have BRg0:Hid (BoxN wc ba_g [.slice ad_g0 n_g0 cp_g0]):=I HC_g.out.boxA
 have BRg1:Hid (BoxN wc bb_g [.float .f32 vs_g1,.int .i64 vg_g1,.int .i64 vq_g1]):=I HC_g.out.boxB
 have HO_g:=I HC_g.out.res;clear HC_g
 have Q_g0:=I HO_g.out.1.2
 have Q_g1:=I HO_g.out.1.1.2
 have U_g:=I HO_g.out.1.1.1.2
 have V_g:=I HO_g.out.1.1.1.1
 have M_g0:=I (show vQ n_g0 y_g0 from by have h1:=HO_g.out.2.len;have h2:=oX A1 HO_g.out.1.2;rw [h1] at h2;exact h2)
 have g0:=I HO_g.out.2;clear HO_g
 generalize wc=w11 at hb BRg0 BRg1 g0 hc2_g hc5_g hc6_g ⊢
 clear BX0_0 BX1_0 BX1_1 BX1_2 BX2_0 BX2_1 BX2_2 BX3_0 BX3_1 BX3_2 BRs0_0 BRs1_0 BRs1_1 BRs1_2 BXx0_0 BXx2_0 BXx2_1 BXx2_2 BXx3_0 BXx3_1 BXx3_2
 replace BX0:=I (BX0.out.below hb)
 replace BX1:=I (BX1.out.below hb)
 replace BX2:=I (BX2.out.below hb)
 replace BX3:=I (BX3.out.below hb)
 replace BRs0:=I (BRs0.out.below hb)
 replace BRs1:=I (BRs1.out.below hb)
 replace BXx0:=I (BXx0.out.below hb)
 replace BXx2:=I (BXx2.out.below hb)
 replace BXx3:=I (BXx3.out.below hb)
 replace s0:=I (s0.out.below hb)
 replace x0:=I (x0.out.below hb)
 replace x2:=I (x2.out.below hb)
 replace x3:=I (x3.out.below hb)
 replace A0:=I (A0.out.below hb)
 replace A2:=I (A2.out.below hb)
 replace A3:=I (A3.out.below hb)
 have z11:w10.heap.size≤w11.heap.size:=hb.size
 have b11:=I (aA b10.out hb);clear b10
 clear hb
 have hS:=Q_s1.out.trans Q_g1.out.symm
 rw [Prod.mk.injEq,Prod.mk.injEq] at hS
 obtain ⟨rfl,rfl,rfl⟩:=hS
 obtain rfl:v_s2=v_g2:=U_s.out.trans U_g.out.symm
 obtain rfl:v_s3=v_g3:=V_s.out.trans V_g.out.symm
 obtain ⟨-,BX0_0,-⟩:=BX0.out.one1
 obtain ⟨-,BX1_0,BX1_1,BX1_2,-⟩:=BX1.out.three
 obtain ⟨-,BX2_0,BX2_1,BX2_2,-⟩:=BX2.out.three
 obtain ⟨-,BX3_0,BX3_1,BX3_2,-⟩:=BX3.out.three
 obtain ⟨-,BRs0_0,-⟩:=BRs0.out.one1
 obtain ⟨-,BRs1_0,BRs1_1,BRs1_2,-⟩:=BRs1.out.three
 obtain ⟨-,BXx0_0,-⟩:=BXx0.out.one1
 obtain ⟨-,BXx2_0,BXx2_1,BXx2_2,-⟩:=BXx2.out.three
 obtain ⟨-,BXx3_0,BXx3_1,BXx3_2,-⟩:=BXx3.out.three
 obtain ⟨-,BRg0_0,-⟩:=BRg0.out.one1
 obtain ⟨-,BRg1_0,BRg1_1,BRg1_2,-⟩:=BRg1.out.three
 go_wp2_with fail
 refine (Dk _ g0.out s0.out (by rw [Q_g0.out,Q_s0.out]) M_g0.out).mono ?_
 rintro e w12 ⟨rfl,hb⟩
 clear BX0_0 BX1_0 BX1_1 BX1_2 BX2_0 BX2_1 BX2_2 BX3_0 BX3_1 BX3_2 BRs0_0 BRs1_0 BRs1_1 BRs1_2 BXx0_0 BXx2_0 BXx2_1 BXx2_2 BXx3_0 BXx3_1 BXx3_2 BRg0_0 BRg1_0 BRg1_1 BRg1_2
 replace BX0:=I (BX0.out.below hb)
 replace BX1:=I (BX1.out.below hb)
 replace BX2:=I (BX2.out.below hb)
 replace BX3:=I (BX3.out.below hb)
 replace BRs0:=I (BRs0.out.below hb)
 replace BRs1:=I (BRs1.out.below hb)
 replace BXx0:=I (BXx0.out.below hb)
 replace BXx2:=I (BXx2.out.below hb)
 replace BXx3:=I (BXx3.out.below hb)
 replace BRg0:=I (BRg0.out.below hb)
 replace BRg1:=I (BRg1.out.below hb)
 replace s0:=I (s0.out.below hb)
 replace x0:=I (x0.out.below hb)
 replace x2:=I (x2.out.below hb)
 replace x3:=I (x3.out.below hb)
 replace g0:=I (g0.out.below hb)
 replace A0:=I (A0.out.below hb)
 replace A2:=I (A2.out.below hb)
 replace A3:=I (A3.out.below hb)
 have z12:w11.heap.size≤w12.heap.size:=hb.size
 have b12:=I (aA b11.out hb);clear b11
 clear hb
 obtain ⟨-,BX0_0,-⟩:=BX0.out.one1
 obtain ⟨-,BX1_0,BX1_1,BX1_2,-⟩:=BX1.out.three
 obtain ⟨-,BX2_0,BX2_1,BX2_2,-⟩:=BX2.out.three
 obtain ⟨-,BX3_0,BX3_1,BX3_2,-⟩:=BX3.out.three
 obtain ⟨-,BRs0_0,-⟩:=BRs0.out.one1
 obtain ⟨-,BRs1_0,BRs1_1,BRs1_2,-⟩:=BRs1.out.three
 obtain ⟨-,BXx0_0,-⟩:=BXx0.out.one1
 obtain ⟨-,BXx2_0,BXx2_1,BXx2_2,-⟩:=BXx2.out.three
 obtain ⟨-,BXx3_0,BXx3_1,BXx3_2,-⟩:=BXx3.out.three
 obtain ⟨-,BRg0_0,-⟩:=BRg0.out.one1
 obtain ⟨-,BRg1_0,BRg1_1,BRg1_2,-⟩:=BRg1.out.three
 go_wp2_with fail
 refine (gX _ _ _ _).mono ?_
 rintro e w13 ⟨rfl,hb⟩
 clear BX0_0 BX1_0 BX1_1 BX1_2 BX2_0 BX2_1 BX2_2 BX3_0 BX3_1 BX3_2 BRs0_0 BRs1_0 BRs1_1 BRs1_2 BXx0_0 BXx2_0 BXx2_1 BXx2_2 BXx3_0 BXx3_1 BXx3_2 BRg0_0 BRg1_0 BRg1_1 BRg1_2
 replace BX0:=I (BX0.out.below hb)
 replace BX1:=I (BX1.out.below hb)
 replace BX2:=I (BX2.out.below hb)
 replace BX3:=I (BX3.out.below hb)
 replace BRs0:=I (BRs0.out.below hb)
 replace BRs1:=I (BRs1.out.below hb)
 replace BXx0:=I (BXx0.out.below hb)
 replace BXx2:=I (BXx2.out.below hb)
 replace BXx3:=I (BXx3.out.below hb)
 replace BRg0:=I (BRg0.out.below hb)
 replace BRg1:=I (BRg1.out.below hb)
 replace s0:=I (s0.out.below hb)
 replace x0:=I (x0.out.below hb)
 replace x2:=I (x2.out.below hb)
 replace x3:=I (x3.out.below hb)
 replace g0:=I (g0.out.below hb)
 replace A0:=I (A0.out.below hb)
 replace A2:=I (A2.out.below hb)
 replace A3:=I (A3.out.below hb)
 have z13:w12.heap.size≤w13.heap.size:=hb.size
 have b13:=I (aA b12.out hb);clear b12
 clear hb
 obtain ⟨-,BX0_0,-⟩:=BX0.out.one1
 obtain ⟨-,BX1_0,BX1_1,BX1_2,-⟩:=BX1.out.three
 obtain ⟨-,BX2_0,BX2_1,BX2_2,-⟩:=BX2.out.three
 obtain ⟨-,BX3_0,BX3_1,BX3_2,-⟩:=BX3.out.three
 obtain ⟨-,BRs0_0,-⟩:=BRs0.out.one1
 obtain ⟨-,BRs1_0,BRs1_1,BRs1_2,-⟩:=BRs1.out.three
 obtain ⟨-,BXx0_0,-⟩:=BXx0.out.one1
 obtain ⟨-,BXx2_0,BXx2_1,BXx2_2,-⟩:=BXx2.out.three
 obtain ⟨-,BXx3_0,BXx3_1,BXx3_2,-⟩:=BXx3.out.three
 obtain ⟨-,BRg0_0,-⟩:=BRg0.out.one1
 obtain ⟨-,BRg1_0,BRg1_1,BRg1_2,-⟩:=BRg1.out.three
 go_wp2_with fail
 go_region_held3 (fun w'=>w'.cell? ⟨w.heap.size,0,none⟩=some (.slice a0 l0.length c0)∧w'.cell? ⟨w.heap.size+1,0,none⟩=some (.float .f32 s1_)∧w'.cell? ⟨w.heap.size+1,1,none⟩=some (.int .i64 g1_)∧w'.cell? ⟨w.heap.size+1,2,none⟩=some (.int .i64 q1_)∧w'.cell? ⟨w.heap.size+2,0,none⟩=some (.int .i64 r2_)∧w'.cell? ⟨w.heap.size+2,1,none⟩=some (.int .i64 k2_)∧w'.cell? ⟨w.heap.size+2,2,none⟩=some (.slice a2 l2.length c2)∧w'.cell? ⟨w.heap.size+3,0,none⟩=some (.int .i64 r3_)∧w'.cell? ⟨w.heap.size+3,1,none⟩=some (.int .i64 k3_)∧w'.cell? ⟨w.heap.size+3,2,none⟩=some (.slice a3 l3.length c3)∧w'.cell? ⟨ba_s,0,none⟩=some (.slice ad_s0 n_s0 cp_s0)∧w'.cell? ⟨bb_s,0,none⟩=some (.float .f32 vs_s1)∧w'.cell? ⟨bb_s,1,none⟩=some (.int .i64 vg_s1)∧w'.cell? ⟨bb_s,2,none⟩=some (.int .i64 vq_s1)∧w'.cell? ⟨w5.heap.size,0,none⟩=some (.slice p_x0 l0.length q_x0)∧w'.cell? ⟨w7.heap.size,0,none⟩=some (.int .i64 r2_)∧w'.cell? ⟨w7.heap.size,1,none⟩=some (.int .i64 k2_)∧w'.cell? ⟨w7.heap.size,2,none⟩=some (.slice p_x2 l2.length q_x2)∧w'.cell? ⟨w9.heap.size,0,none⟩=some (.int .i64 r3_)∧w'.cell? ⟨w9.heap.size,1,none⟩=some (.int .i64 k3_)∧w'.cell? ⟨w9.heap.size,2,none⟩=some (.slice p_x3 l3.length q_x3)∧w'.cell? ⟨ba_g,0,none⟩=some (.slice ad_g0 n_g0 cp_g0)∧w'.cell? ⟨bb_g,0,none⟩=some (.float .f32 vs_s1)∧w'.cell? ⟨bb_g,1,none⟩=some (.int .i64 vg_s1)∧w'.cell? ⟨bb_g,2,none⟩=some (.int .i64 vq_s1)) (go_keep)
  (first
    | (((go_at_call 9);(refine (EM w13 a0 c0 l0 A0.out hn0 HI0.out).mono ?_);(rintro e w14 ⟨p_t0,q_t0,o_t0,rfl,he_t0,t0,hb⟩);(have E_t0:=I he_t0);(have hlen_t0:o_t0.length=l0.length:=by have:=congrArg List.length he_t0;simpa using this);(have N_t0:=I hlen_t0;clear he_t0 hlen_t0);(clear BX0_0 BX1_0 BX1_1 BX1_2 BX2_0 BX2_1 BX2_2 BX3_0 BX3_1 BX3_2 BRs0_0 BRs1_0 BRs1_1 BRs1_2 BXx0_0 BXx2_0 BXx2_1 BXx2_2 BXx3_0 BXx3_1 BXx3_2 BRg0_0 BRg1_0 BRg1_1 BRg1_2);(replace BX0:=I (BX0.out.below hb));(replace BX1:=I (BX1.out.below hb));(replace BX2:=I (BX2.out.below hb));(replace BX3:=I (BX3.out.below hb));(replace BRs0:=I (BRs0.out.below hb));(replace BRs1:=I (BRs1.out.below hb));(replace BXx0:=I (BXx0.out.below hb));(replace BXx2:=I (BXx2.out.below hb));(replace BXx3:=I (BXx3.out.below hb));(replace BRg0:=I (BRg0.out.below hb));(replace BRg1:=I (BRg1.out.below hb));(replace s0:=I (s0.out.below hb));(replace x0:=I (x0.out.below hb));(replace x2:=I (x2.out.below hb));(replace x3:=I (x3.out.below hb));(replace g0:=I (g0.out.below hb));(replace A0:=I (A0.out.below hb));(replace A2:=I (A2.out.below hb));(replace A3:=I (A3.out.below hb));(have z14:w13.heap.size≤w14.heap.size:=hb.size);(have b14:=I (aA b13.out hb);clear b13);(clear hb);(obtain ⟨-,BX0_0,-⟩:=BX0.out.one1);(obtain ⟨-,BX1_0,BX1_1,BX1_2,-⟩:=BX1.out.three);(obtain ⟨-,BX2_0,BX2_1,BX2_2,-⟩:=BX2.out.three);(obtain ⟨-,BX3_0,BX3_1,BX3_2,-⟩:=BX3.out.three);(obtain ⟨-,BRs0_0,-⟩:=BRs0.out.one1);(obtain ⟨-,BRs1_0,BRs1_1,BRs1_2,-⟩:=BRs1.out.three);(obtain ⟨-,BXx0_0,-⟩:=BXx0.out.one1);(obtain ⟨-,BXx2_0,BXx2_1,BXx2_2,-⟩:=BXx2.out.three);(obtain ⟨-,BXx3_0,BXx3_1,BXx3_2,-⟩:=BXx3.out.three);(obtain ⟨-,BRg0_0,-⟩:=BRg0.out.one1);(obtain ⟨-,BRg1_0,BRg1_1,BRg1_2,-⟩:=BRg1.out.three)))
    | (((go_at_call 14);(have hq:=EL w14 x0.out.see t0.out.see (by rw [Be E_x0.out,Be E_t0.out]) (by rw [N_x0.out];exact hn0) (mP E_x0.out HI0.out));(rw [N_x0.out,N_t0.out] at hq);(refine hq.mono ?_);(rintro e w15 ⟨rfl,hb⟩);(clear BX0_0 BX1_0 BX1_1 BX1_2 BX2_0 BX2_1 BX2_2 BX3_0 BX3_1 BX3_2 BRs0_0 BRs1_0 BRs1_1 BRs1_2 BXx0_0 BXx2_0 BXx2_1 BXx2_2 BXx3_0 BXx3_1 BXx3_2 BRg0_0 BRg1_0 BRg1_1 BRg1_2);(replace BX0:=I (BX0.out.below hb));(replace BX1:=I (BX1.out.below hb));(replace BX2:=I (BX2.out.below hb));(replace BX3:=I (BX3.out.below hb));(replace BRs0:=I (BRs0.out.below hb));(replace BRs1:=I (BRs1.out.below hb));(replace BXx0:=I (BXx0.out.below hb));(replace BXx2:=I (BXx2.out.below hb));(replace BXx3:=I (BXx3.out.below hb));(replace BRg0:=I (BRg0.out.below hb));(replace BRg1:=I (BRg1.out.below hb));(replace s0:=I (s0.out.below hb));(replace x0:=I (x0.out.below hb));(replace x2:=I (x2.out.below hb));(replace x3:=I (x3.out.below hb));(replace g0:=I (g0.out.below hb));(replace t0:=I (t0.out.below hb));(replace A0:=I (A0.out.below hb));(replace A2:=I (A2.out.below hb));(replace A3:=I (A3.out.below hb));(have z15:w14.heap.size≤w15.heap.size:=hb.size);(have b15:=I (aA b14.out hb);clear b14);(clear hb);(clear hq);(obtain ⟨-,BX0_0,-⟩:=BX0.out.one1);(obtain ⟨-,BX1_0,BX1_1,BX1_2,-⟩:=BX1.out.three);(obtain ⟨-,BX2_0,BX2_1,BX2_2,-⟩:=BX2.out.three);(obtain ⟨-,BX3_0,BX3_1,BX3_2,-⟩:=BX3.out.three);(obtain ⟨-,BRs0_0,-⟩:=BRs0.out.one1);(obtain ⟨-,BRs1_0,BRs1_1,BRs1_2,-⟩:=BRs1.out.three);(obtain ⟨-,BXx0_0,-⟩:=BXx0.out.one1);(obtain ⟨-,BXx2_0,BXx2_1,BXx2_2,-⟩:=BXx2.out.three);(obtain ⟨-,BXx3_0,BXx3_1,BXx3_2,-⟩:=BXx3.out.three);(obtain ⟨-,BRg0_0,-⟩:=BRg0.out.one1);(obtain ⟨-,BRg1_0,BRg1_1,BRg1_2,-⟩:=BRg1.out.three))))
 clear BX0_0 BX1_0 BX1_1 BX1_2 BX2_0 BX2_1 BX2_2 BX3_0 BX3_1 BX3_2 BRs0_0 BRs1_0 BRs1_1 BRs1_2 BXx0_0 BXx2_0 BXx2_1 BXx2_2 BXx3_0 BXx3_1 BXx3_2 BRg0_0 BRg1_0 BRg1_1 BRg1_2
 try go_wp2_with fail
 clear t0
 try clear E_t0 N_t0
 obtain ⟨-,BX0_0,-⟩:=BX0.out.one1
 obtain ⟨-,BX1_0,BX1_1,BX1_2,-⟩:=BX1.out.three
 obtain ⟨-,BX2_0,BX2_1,BX2_2,-⟩:=BX2.out.three
 obtain ⟨-,BX3_0,BX3_1,BX3_2,-⟩:=BX3.out.three
 obtain ⟨-,BRs0_0,-⟩:=BRs0.out.one1
 obtain ⟨-,BRs1_0,BRs1_1,BRs1_2,-⟩:=BRs1.out.three
 obtain ⟨-,BXx0_0,-⟩:=BXx0.out.one1
 obtain ⟨-,BXx2_0,BXx2_1,BXx2_2,-⟩:=BXx2.out.three
 obtain ⟨-,BXx3_0,BXx3_1,BXx3_2,-⟩:=BXx3.out.three
 obtain ⟨-,BRg0_0,-⟩:=BRg0.out.one1
 obtain ⟨-,BRg1_0,BRg1_1,BRg1_2,-⟩:=BRg1.out.three
 go_wp2_with fail
 go_region_held3 (fun w'=>w'.cell? ⟨w.heap.size,0,none⟩=some (.slice a0 l0.length c0)∧w'.cell? ⟨w.heap.size+1,0,none⟩=some (.float .f32 s1_)∧w'.cell? ⟨w.heap.size+1,1,none⟩=some (.int .i64 g1_)∧w'.cell? ⟨w.heap.size+1,2,none⟩=some (.int .i64 q1_)∧w'.cell? ⟨w.heap.size+2,0,none⟩=some (.int .i64 r2_)∧w'.cell? ⟨w.heap.size+2,1,none⟩=some (.int .i64 k2_)∧w'.cell? ⟨w.heap.size+2,2,none⟩=some (.slice a2 l2.length c2)∧w'.cell? ⟨w.heap.size+3,0,none⟩=some (.int .i64 r3_)∧w'.cell? ⟨w.heap.size+3,1,none⟩=some (.int .i64 k3_)∧w'.cell? ⟨w.heap.size+3,2,none⟩=some (.slice a3 l3.length c3)∧w'.cell? ⟨ba_s,0,none⟩=some (.slice ad_s0 n_s0 cp_s0)∧w'.cell? ⟨bb_s,0,none⟩=some (.float .f32 vs_s1)∧w'.cell? ⟨bb_s,1,none⟩=some (.int .i64 vg_s1)∧w'.cell? ⟨bb_s,2,none⟩=some (.int .i64 vq_s1)∧w'.cell? ⟨w5.heap.size,0,none⟩=some (.slice p_x0 l0.length q_x0)∧w'.cell? ⟨w7.heap.size,0,none⟩=some (.int .i64 r2_)∧w'.cell? ⟨w7.heap.size,1,none⟩=some (.int .i64 k2_)∧w'.cell? ⟨w7.heap.size,2,none⟩=some (.slice p_x2 l2.length q_x2)∧w'.cell? ⟨w9.heap.size,0,none⟩=some (.int .i64 r3_)∧w'.cell? ⟨w9.heap.size,1,none⟩=some (.int .i64 k3_)∧w'.cell? ⟨w9.heap.size,2,none⟩=some (.slice p_x3 l3.length q_x3)∧w'.cell? ⟨ba_g,0,none⟩=some (.slice ad_g0 n_g0 cp_g0)∧w'.cell? ⟨bb_g,0,none⟩=some (.float .f32 vs_s1)∧w'.cell? ⟨bb_g,1,none⟩=some (.int .i64 vg_s1)∧w'.cell? ⟨bb_g,2,none⟩=some (.int .i64 vq_s1)) (go_keep)
  (first
    | (((go_at_call 10);(with_reducible refine (DY w15 r2_ k2_ a2 c2 l2 A2.out hn2).mono ?_);(rintro e w16 ⟨p_t2,q_t2,rfl,t2,hb⟩);(clear BX0_0 BX1_0 BX1_1 BX1_2 BX2_0 BX2_1 BX2_2 BX3_0 BX3_1 BX3_2 BRs0_0 BRs1_0 BRs1_1 BRs1_2 BXx0_0 BXx2_0 BXx2_1 BXx2_2 BXx3_0 BXx3_1 BXx3_2 BRg0_0 BRg1_0 BRg1_1 BRg1_2);(replace BX0:=I (BX0.out.below hb));(replace BX1:=I (BX1.out.below hb));(replace BX2:=I (BX2.out.below hb));(replace BX3:=I (BX3.out.below hb));(replace BRs0:=I (BRs0.out.below hb));(replace BRs1:=I (BRs1.out.below hb));(replace BXx0:=I (BXx0.out.below hb));(replace BXx2:=I (BXx2.out.below hb));(replace BXx3:=I (BXx3.out.below hb));(replace BRg0:=I (BRg0.out.below hb));(replace BRg1:=I (BRg1.out.below hb));(replace s0:=I (s0.out.below hb));(replace x0:=I (x0.out.below hb));(replace x2:=I (x2.out.below hb));(replace x3:=I (x3.out.below hb));(replace g0:=I (g0.out.below hb));(replace A0:=I (A0.out.below hb));(replace A2:=I (A2.out.below hb));(replace A3:=I (A3.out.below hb));(have z16:w15.heap.size≤w16.heap.size:=hb.size);(have b16:=I (aA b15.out hb);clear b15);(clear hb);(obtain ⟨-,BX0_0,-⟩:=BX0.out.one1);(obtain ⟨-,BX1_0,BX1_1,BX1_2,-⟩:=BX1.out.three);(obtain ⟨-,BX2_0,BX2_1,BX2_2,-⟩:=BX2.out.three);(obtain ⟨-,BX3_0,BX3_1,BX3_2,-⟩:=BX3.out.three);(obtain ⟨-,BRs0_0,-⟩:=BRs0.out.one1);(obtain ⟨-,BRs1_0,BRs1_1,BRs1_2,-⟩:=BRs1.out.three);(obtain ⟨-,BXx0_0,-⟩:=BXx0.out.one1);(obtain ⟨-,BXx2_0,BXx2_1,BXx2_2,-⟩:=BXx2.out.three);(obtain ⟨-,BXx3_0,BXx3_1,BXx3_2,-⟩:=BXx3.out.three);(obtain ⟨-,BRg0_0,-⟩:=BRg0.out.one1);(obtain ⟨-,BRg1_0,BRg1_1,BRg1_2,-⟩:=BRg1.out.three)))
    | (((go_at_call 15);(refine (EG _ r2_ k2_ p_x2 p_t2 q_x2 q_t2 l2 l2 x2.out.arg t2.out.arg hn2 rfl).mono ?_);(rintro e w17 ⟨rfl,hb⟩);(clear BX0_0 BX1_0 BX1_1 BX1_2 BX2_0 BX2_1 BX2_2 BX3_0 BX3_1 BX3_2 BRs0_0 BRs1_0 BRs1_1 BRs1_2 BXx0_0 BXx2_0 BXx2_1 BXx2_2 BXx3_0 BXx3_1 BXx3_2 BRg0_0 BRg1_0 BRg1_1 BRg1_2);(replace BX0:=I (BX0.out.below hb));(replace BX1:=I (BX1.out.below hb));(replace BX2:=I (BX2.out.below hb));(replace BX3:=I (BX3.out.below hb));(replace BRs0:=I (BRs0.out.below hb));(replace BRs1:=I (BRs1.out.below hb));(replace BXx0:=I (BXx0.out.below hb));(replace BXx2:=I (BXx2.out.below hb));(replace BXx3:=I (BXx3.out.below hb));(replace BRg0:=I (BRg0.out.below hb));(replace BRg1:=I (BRg1.out.below hb));(replace s0:=I (s0.out.below hb));(replace x0:=I (x0.out.below hb));(replace x2:=I (x2.out.below hb));(replace x3:=I (x3.out.below hb));(replace g0:=I (g0.out.below hb));(replace t2:=I (t2.out.below hb));(replace A0:=I (A0.out.below hb));(replace A2:=I (A2.out.below hb));(replace A3:=I (A3.out.below hb));(have z17:w16.heap.size≤w17.heap.size:=hb.size);(have b17:=I (aA b16.out hb);clear b16);(clear hb);(obtain ⟨-,BX0_0,-⟩:=BX0.out.one1);(obtain ⟨-,BX1_0,BX1_1,BX1_2,-⟩:=BX1.out.three);(obtain ⟨-,BX2_0,BX2_1,BX2_2,-⟩:=BX2.out.three);(obtain ⟨-,BX3_0,BX3_1,BX3_2,-⟩:=BX3.out.three);(obtain ⟨-,BRs0_0,-⟩:=BRs0.out.one1);(obtain ⟨-,BRs1_0,BRs1_1,BRs1_2,-⟩:=BRs1.out.three);(obtain ⟨-,BXx0_0,-⟩:=BXx0.out.one1);(obtain ⟨-,BXx2_0,BXx2_1,BXx2_2,-⟩:=BXx2.out.three);(obtain ⟨-,BXx3_0,BXx3_1,BXx3_2,-⟩:=BXx3.out.three);(obtain ⟨-,BRg0_0,-⟩:=BRg0.out.one1);(obtain ⟨-,BRg1_0,BRg1_1,BRg1_2,-⟩:=BRg1.out.three))))
 clear BX0_0 BX1_0 BX1_1 BX1_2 BX2_0 BX2_1 BX2_2 BX3_0 BX3_1 BX3_2 BRs0_0 BRs1_0 BRs1_1 BRs1_2 BXx0_0 BXx2_0 BXx2_1 BXx2_2 BXx3_0 BXx3_1 BXx3_2 BRg0_0 BRg1_0 BRg1_1 BRg1_2
 try go_wp2_with fail
 clear t2
 try clear E_t2 N_t2
 obtain ⟨-,BX0_0,-⟩:=BX0.out.one1
 obtain ⟨-,BX1_0,BX1_1,BX1_2,-⟩:=BX1.out.three
 obtain ⟨-,BX2_0,BX2_1,BX2_2,-⟩:=BX2.out.three
 obtain ⟨-,BX3_0,BX3_1,BX3_2,-⟩:=BX3.out.three
 obtain ⟨-,BRs0_0,-⟩:=BRs0.out.one1
 obtain ⟨-,BRs1_0,BRs1_1,BRs1_2,-⟩:=BRs1.out.three
 obtain ⟨-,BXx0_0,-⟩:=BXx0.out.one1
 obtain ⟨-,BXx2_0,BXx2_1,BXx2_2,-⟩:=BXx2.out.three
 obtain ⟨-,BXx3_0,BXx3_1,BXx3_2,-⟩:=BXx3.out.three
 obtain ⟨-,BRg0_0,-⟩:=BRg0.out.one1
 obtain ⟨-,BRg1_0,BRg1_1,BRg1_2,-⟩:=BRg1.out.three
 go_wp2_with fail
 go_region_held3 (fun w'=>w'.cell? ⟨w.heap.size,0,none⟩=some (.slice a0 l0.length c0)∧w'.cell? ⟨w.heap.size+1,0,none⟩=some (.float .f32 s1_)∧w'.cell? ⟨w.heap.size+1,1,none⟩=some (.int .i64 g1_)∧w'.cell? ⟨w.heap.size+1,2,none⟩=some (.int .i64 q1_)∧w'.cell? ⟨w.heap.size+2,0,none⟩=some (.int .i64 r2_)∧w'.cell? ⟨w.heap.size+2,1,none⟩=some (.int .i64 k2_)∧w'.cell? ⟨w.heap.size+2,2,none⟩=some (.slice a2 l2.length c2)∧w'.cell? ⟨w.heap.size+3,0,none⟩=some (.int .i64 r3_)∧w'.cell? ⟨w.heap.size+3,1,none⟩=some (.int .i64 k3_)∧w'.cell? ⟨w.heap.size+3,2,none⟩=some (.slice a3 l3.length c3)∧w'.cell? ⟨ba_s,0,none⟩=some (.slice ad_s0 n_s0 cp_s0)∧w'.cell? ⟨bb_s,0,none⟩=some (.float .f32 vs_s1)∧w'.cell? ⟨bb_s,1,none⟩=some (.int .i64 vg_s1)∧w'.cell? ⟨bb_s,2,none⟩=some (.int .i64 vq_s1)∧w'.cell? ⟨w5.heap.size,0,none⟩=some (.slice p_x0 l0.length q_x0)∧w'.cell? ⟨w7.heap.size,0,none⟩=some (.int .i64 r2_)∧w'.cell? ⟨w7.heap.size,1,none⟩=some (.int .i64 k2_)∧w'.cell? ⟨w7.heap.size,2,none⟩=some (.slice p_x2 l2.length q_x2)∧w'.cell? ⟨w9.heap.size,0,none⟩=some (.int .i64 r3_)∧w'.cell? ⟨w9.heap.size,1,none⟩=some (.int .i64 k3_)∧w'.cell? ⟨w9.heap.size,2,none⟩=some (.slice p_x3 l3.length q_x3)∧w'.cell? ⟨ba_g,0,none⟩=some (.slice ad_g0 n_g0 cp_g0)∧w'.cell? ⟨bb_g,0,none⟩=some (.float .f32 vs_s1)∧w'.cell? ⟨bb_g,1,none⟩=some (.int .i64 vg_s1)∧w'.cell? ⟨bb_g,2,none⟩=some (.int .i64 vq_s1)) (go_keep)
  (first
    | (((go_at_call 10);(with_reducible refine (DY w17 r3_ k3_ a3 c3 l3 A3.out hn3).mono ?_);(rintro e w18 ⟨p_t3,q_t3,rfl,t3,hb⟩);(clear BX0_0 BX1_0 BX1_1 BX1_2 BX2_0 BX2_1 BX2_2 BX3_0 BX3_1 BX3_2 BRs0_0 BRs1_0 BRs1_1 BRs1_2 BXx0_0 BXx2_0 BXx2_1 BXx2_2 BXx3_0 BXx3_1 BXx3_2 BRg0_0 BRg1_0 BRg1_1 BRg1_2);(replace BX0:=I (BX0.out.below hb));(replace BX1:=I (BX1.out.below hb));(replace BX2:=I (BX2.out.below hb));(replace BX3:=I (BX3.out.below hb));(replace BRs0:=I (BRs0.out.below hb));(replace BRs1:=I (BRs1.out.below hb));(replace BXx0:=I (BXx0.out.below hb));(replace BXx2:=I (BXx2.out.below hb));(replace BXx3:=I (BXx3.out.below hb));(replace BRg0:=I (BRg0.out.below hb));(replace BRg1:=I (BRg1.out.below hb));(replace s0:=I (s0.out.below hb));(replace x0:=I (x0.out.below hb));(replace x2:=I (x2.out.below hb));(replace x3:=I (x3.out.below hb));(replace g0:=I (g0.out.below hb));(replace A0:=I (A0.out.below hb));(replace A2:=I (A2.out.below hb));(replace A3:=I (A3.out.below hb));(have z18:w17.heap.size≤w18.heap.size:=hb.size);(have b18:=I (aA b17.out hb);clear b17);(clear hb);(obtain ⟨-,BX0_0,-⟩:=BX0.out.one1);(obtain ⟨-,BX1_0,BX1_1,BX1_2,-⟩:=BX1.out.three);(obtain ⟨-,BX2_0,BX2_1,BX2_2,-⟩:=BX2.out.three);(obtain ⟨-,BX3_0,BX3_1,BX3_2,-⟩:=BX3.out.three);(obtain ⟨-,BRs0_0,-⟩:=BRs0.out.one1);(obtain ⟨-,BRs1_0,BRs1_1,BRs1_2,-⟩:=BRs1.out.three);(obtain ⟨-,BXx0_0,-⟩:=BXx0.out.one1);(obtain ⟨-,BXx2_0,BXx2_1,BXx2_2,-⟩:=BXx2.out.three);(obtain ⟨-,BXx3_0,BXx3_1,BXx3_2,-⟩:=BXx3.out.three);(obtain ⟨-,BRg0_0,-⟩:=BRg0.out.one1);(obtain ⟨-,BRg1_0,BRg1_1,BRg1_2,-⟩:=BRg1.out.three)))
    | (((go_at_call 15);(refine (EG _ r3_ k3_ p_x3 p_t3 q_x3 q_t3 l3 l3 x3.out.arg t3.out.arg hn3 rfl).mono ?_);(rintro e w19 ⟨rfl,hb⟩);(clear BX0_0 BX1_0 BX1_1 BX1_2 BX2_0 BX2_1 BX2_2 BX3_0 BX3_1 BX3_2 BRs0_0 BRs1_0 BRs1_1 BRs1_2 BXx0_0 BXx2_0 BXx2_1 BXx2_2 BXx3_0 BXx3_1 BXx3_2 BRg0_0 BRg1_0 BRg1_1 BRg1_2);(replace BX0:=I (BX0.out.below hb));(replace BX1:=I (BX1.out.below hb));(replace BX2:=I (BX2.out.below hb));(replace BX3:=I (BX3.out.below hb));(replace BRs0:=I (BRs0.out.below hb));(replace BRs1:=I (BRs1.out.below hb));(replace BXx0:=I (BXx0.out.below hb));(replace BXx2:=I (BXx2.out.below hb));(replace BXx3:=I (BXx3.out.below hb));(replace BRg0:=I (BRg0.out.below hb));(replace BRg1:=I (BRg1.out.below hb));(replace s0:=I (s0.out.below hb));(replace x0:=I (x0.out.below hb));(replace x2:=I (x2.out.below hb));(replace x3:=I (x3.out.below hb));(replace g0:=I (g0.out.below hb));(replace t3:=I (t3.out.below hb));(replace A0:=I (A0.out.below hb));(replace A2:=I (A2.out.below hb));(replace A3:=I (A3.out.below hb));(have z19:w18.heap.size≤w19.heap.size:=hb.size);(have b19:=I (aA b18.out hb);clear b18);(clear hb);(obtain ⟨-,BX0_0,-⟩:=BX0.out.one1);(obtain ⟨-,BX1_0,BX1_1,BX1_2,-⟩:=BX1.out.three);(obtain ⟨-,BX2_0,BX2_1,BX2_2,-⟩:=BX2.out.three);(obtain ⟨-,BX3_0,BX3_1,BX3_2,-⟩:=BX3.out.three);(obtain ⟨-,BRs0_0,-⟩:=BRs0.out.one1);(obtain ⟨-,BRs1_0,BRs1_1,BRs1_2,-⟩:=BRs1.out.three);(obtain ⟨-,BXx0_0,-⟩:=BXx0.out.one1);(obtain ⟨-,BXx2_0,BXx2_1,BXx2_2,-⟩:=BXx2.out.three);(obtain ⟨-,BXx3_0,BXx3_1,BXx3_2,-⟩:=BXx3.out.three);(obtain ⟨-,BRg0_0,-⟩:=BRg0.out.one1);(obtain ⟨-,BRg1_0,BRg1_1,BRg1_2,-⟩:=BRg1.out.three))))
 clear BX0_0 BX1_0 BX1_1 BX1_2 BX2_0 BX2_1 BX2_2 BX3_0 BX3_1 BX3_2 BRs0_0 BRs1_0 BRs1_1 BRs1_2 BXx0_0 BXx2_0 BXx2_1 BXx2_2 BXx3_0 BXx3_1 BXx3_2 BRg0_0 BRg1_0 BRg1_1 BRg1_2
 try go_wp2_with fail
 clear t3
 try clear E_t3 N_t3
 obtain ⟨-,BX0_0,-⟩:=BX0.out.one1
 obtain ⟨-,BX1_0,BX1_1,BX1_2,-⟩:=BX1.out.three
 obtain ⟨-,BX2_0,BX2_1,BX2_2,-⟩:=BX2.out.three
 obtain ⟨-,BX3_0,BX3_1,BX3_2,-⟩:=BX3.out.three
 obtain ⟨-,BRs0_0,-⟩:=BRs0.out.one1
 obtain ⟨-,BRs1_0,BRs1_1,BRs1_2,-⟩:=BRs1.out.three
 obtain ⟨-,BXx0_0,-⟩:=BXx0.out.one1
 obtain ⟨-,BXx2_0,BXx2_1,BXx2_2,-⟩:=BXx2.out.three
 obtain ⟨-,BXx3_0,BXx3_1,BXx3_2,-⟩:=BXx3.out.three
 obtain ⟨-,BRg0_0,-⟩:=BRg0.out.one1
 obtain ⟨-,BRg1_0,BRg1_1,BRg1_2,-⟩:=BRg1.out.three
 go_wp2_with fail
 refine (CQ _ (1) x0.out (by omega) hn0 (by rw [Bd E_x0.out];omega) (mP E_x0.out HI0.out)).mono ?_
 rintro e w20 ⟨rfl,-,ht⟩
 rw [Bd E_x0.out]
 clear x0
 clear BX0_0 BX1_0 BX1_1 BX1_2 BX2_0 BX2_1 BX2_2 BX3_0 BX3_1 BX3_2 BRs0_0 BRs1_0 BRs1_1 BRs1_2 BXx0_0 BXx2_0 BXx2_1 BXx2_2 BXx3_0 BXx3_1 BXx3_2 BRg0_0 BRg1_0 BRg1_1 BRg1_2
 replace BX0:=I (BX0.out.touch ht (by omega))
 replace BX1:=I (BX1.out.touch ht (by omega))
 replace BX2:=I (BX2.out.touch ht (by omega))
 replace BX3:=I (BX3.out.touch ht (by omega))
 replace BRs0:=I (BRs0.out.touch ht (by omega))
 replace BRs1:=I (BRs1.out.touch ht (by omega))
 replace BXx0:=I (BXx0.out.touch ht (by omega))
 replace BXx2:=I (BXx2.out.touch ht (by omega))
 replace BXx3:=I (BXx3.out.touch ht (by omega))
 replace BRg0:=I (BRg0.out.touch ht (by omega))
 replace BRg1:=I (BRg1.out.touch ht (by omega))
 replace s0:=I (s0.out.touch ht (by omega))
 replace x2:=I (x2.out.touch ht (by omega))
 replace x3:=I (x3.out.touch ht (by omega))
 replace g0:=I (g0.out.touch ht (by omega))
 have z20:w19.heap.size≤w20.heap.size:=ht.size
 have b20:=I (jY b19.out ht (by omega));clear b19 ht
 replace A0:=I (B0.out.below b20.out)
 replace A2:=I (B2.out.below b20.out)
 replace A3:=I (B3.out.below b20.out)
 obtain ⟨-,BX0_0,-⟩:=BX0.out.one1
 obtain ⟨-,BX1_0,BX1_1,BX1_2,-⟩:=BX1.out.three
 obtain ⟨-,BX2_0,BX2_1,BX2_2,-⟩:=BX2.out.three
 obtain ⟨-,BX3_0,BX3_1,BX3_2,-⟩:=BX3.out.three
 obtain ⟨-,BRs0_0,-⟩:=BRs0.out.one1
 obtain ⟨-,BRs1_0,BRs1_1,BRs1_2,-⟩:=BRs1.out.three
 obtain ⟨-,BXx0_0,-⟩:=BXx0.out.one1
 obtain ⟨-,BXx2_0,BXx2_1,BXx2_2,-⟩:=BXx2.out.three
 obtain ⟨-,BXx3_0,BXx3_1,BXx3_2,-⟩:=BXx3.out.three
 obtain ⟨-,BRg0_0,-⟩:=BRg0.out.one1
 obtain ⟨-,BRg1_0,BRg1_1,BRg1_2,-⟩:=BRg1.out.three
 go_wp2_with fail
 refine (CJ _ r2_ k2_ (1+eD l0) x2.out (by omega) hn2 (by omega)).mono ?_
 rintro e w21 ⟨rfl,-,ht⟩
 clear x2
 clear BX0_0 BX1_0 BX1_1 BX1_2 BX2_0 BX2_1 BX2_2 BX3_0 BX3_1 BX3_2 BRs0_0 BRs1_0 BRs1_1 BRs1_2 BXx0_0 BXx2_0 BXx2_1 BXx2_2 BXx3_0 BXx3_1 BXx3_2 BRg0_0 BRg1_0 BRg1_1 BRg1_2
 replace BX0:=I (BX0.out.touch ht (by omega))
 replace BX1:=I (BX1.out.touch ht (by omega))
 replace BX2:=I (BX2.out.touch ht (by omega))
 replace BX3:=I (BX3.out.touch ht (by omega))
 replace BRs0:=I (BRs0.out.touch ht (by omega))
 replace BRs1:=I (BRs1.out.touch ht (by omega))
 replace BXx0:=I (BXx0.out.touch ht (by omega))
 replace BXx2:=I (BXx2.out.touch ht (by omega))
 replace BXx3:=I (BXx3.out.touch ht (by omega))
 replace BRg0:=I (BRg0.out.touch ht (by omega))
 replace BRg1:=I (BRg1.out.touch ht (by omega))
 replace s0:=I (s0.out.touch ht (by omega))
 replace x3:=I (x3.out.touch ht (by omega))
 replace g0:=I (g0.out.touch ht (by omega))
 have z21:w20.heap.size≤w21.heap.size:=ht.size
 have b21:=I (jY b20.out ht (by omega));clear b20 ht
 replace A0:=I (B0.out.below b21.out)
 replace A2:=I (B2.out.below b21.out)
 replace A3:=I (B3.out.below b21.out)
 obtain ⟨-,BX0_0,-⟩:=BX0.out.one1
 obtain ⟨-,BX1_0,BX1_1,BX1_2,-⟩:=BX1.out.three
 obtain ⟨-,BX2_0,BX2_1,BX2_2,-⟩:=BX2.out.three
 obtain ⟨-,BX3_0,BX3_1,BX3_2,-⟩:=BX3.out.three
 obtain ⟨-,BRs0_0,-⟩:=BRs0.out.one1
 obtain ⟨-,BRs1_0,BRs1_1,BRs1_2,-⟩:=BRs1.out.three
 obtain ⟨-,BXx0_0,-⟩:=BXx0.out.one1
 obtain ⟨-,BXx2_0,BXx2_1,BXx2_2,-⟩:=BXx2.out.three
 obtain ⟨-,BXx3_0,BXx3_1,BXx3_2,-⟩:=BXx3.out.three
 obtain ⟨-,BRg0_0,-⟩:=BRg0.out.one1
 obtain ⟨-,BRg1_0,BRg1_1,BRg1_2,-⟩:=BRg1.out.three
 go_wp2_with fail
 refine (CJ _ r3_ k3_ (1+eD l0+l2.length) x3.out (by omega) hn3 (by omega)).mono ?_
 rintro e w22 ⟨rfl,-,ht⟩
 clear x3
 clear BX0_0 BX1_0 BX1_1 BX1_2 BX2_0 BX2_1 BX2_2 BX3_0 BX3_1 BX3_2 BRs0_0 BRs1_0 BRs1_1 BRs1_2 BXx0_0 BXx2_0 BXx2_1 BXx2_2 BXx3_0 BXx3_1 BXx3_2 BRg0_0 BRg1_0 BRg1_1 BRg1_2
 replace BX0:=I (BX0.out.touch ht (by omega))
 replace BX1:=I (BX1.out.touch ht (by omega))
 replace BX2:=I (BX2.out.touch ht (by omega))
 replace BX3:=I (BX3.out.touch ht (by omega))
 replace BRs0:=I (BRs0.out.touch ht (by omega))
 replace BRs1:=I (BRs1.out.touch ht (by omega))
 replace BXx0:=I (BXx0.out.touch ht (by omega))
 replace BXx2:=I (BXx2.out.touch ht (by omega))
 replace BXx3:=I (BXx3.out.touch ht (by omega))
 replace BRg0:=I (BRg0.out.touch ht (by omega))
 replace BRg1:=I (BRg1.out.touch ht (by omega))
 replace s0:=I (s0.out.touch ht (by omega))
 replace g0:=I (g0.out.touch ht (by omega))
 have z22:w21.heap.size≤w22.heap.size:=ht.size
 have b22:=I (jY b21.out ht (by omega));clear b21 ht
 replace A0:=I (B0.out.below b22.out)
 replace A2:=I (B2.out.below b22.out)
 replace A3:=I (B3.out.below b22.out)
 obtain ⟨-,BX0_0,-⟩:=BX0.out.one1
 obtain ⟨-,BX1_0,BX1_1,BX1_2,-⟩:=BX1.out.three
 obtain ⟨-,BX2_0,BX2_1,BX2_2,-⟩:=BX2.out.three
 obtain ⟨-,BX3_0,BX3_1,BX3_2,-⟩:=BX3.out.three
 obtain ⟨-,BRs0_0,-⟩:=BRs0.out.one1
 obtain ⟨-,BRs1_0,BRs1_1,BRs1_2,-⟩:=BRs1.out.three
 obtain ⟨-,BXx0_0,-⟩:=BXx0.out.one1
 obtain ⟨-,BXx2_0,BXx2_1,BXx2_2,-⟩:=BXx2.out.three
 obtain ⟨-,BXx3_0,BXx3_1,BXx3_2,-⟩:=BXx3.out.three
 obtain ⟨-,BRg0_0,-⟩:=BRg0.out.one1
 obtain ⟨-,BRg1_0,BRg1_1,BRg1_2,-⟩:=BRg1.out.three
 go_wp2_with fail
 refine (Dk _ g0.out s0.out (by rw [Q_g0.out,Q_s0.out]) M_g0.out).mono ?_
 rintro e w23 ⟨rfl,hb⟩
 clear BX0_0 BX1_0 BX1_1 BX1_2 BX2_0 BX2_1 BX2_2 BX3_0 BX3_1 BX3_2 BRs0_0 BRs1_0 BRs1_1 BRs1_2 BXx0_0 BXx2_0 BXx2_1 BXx2_2 BXx3_0 BXx3_1 BXx3_2 BRg0_0 BRg1_0 BRg1_1 BRg1_2
 replace BX0:=I (BX0.out.below hb)
 replace BX1:=I (BX1.out.below hb)
 replace BX2:=I (BX2.out.below hb)
 replace BX3:=I (BX3.out.below hb)
 replace BRs0:=I (BRs0.out.below hb)
 replace BRs1:=I (BRs1.out.below hb)
 replace BXx0:=I (BXx0.out.below hb)
 replace BXx2:=I (BXx2.out.below hb)
 replace BXx3:=I (BXx3.out.below hb)
 replace BRg0:=I (BRg0.out.below hb)
 replace BRg1:=I (BRg1.out.below hb)
 replace s0:=I (s0.out.below hb)
 replace g0:=I (g0.out.below hb)
 replace A0:=I (A0.out.below hb)
 replace A2:=I (A2.out.below hb)
 replace A3:=I (A3.out.below hb)
 have z23:w22.heap.size≤w23.heap.size:=hb.size
 have b23:=I (aA b22.out hb);clear b22
 clear hb
 obtain ⟨-,BX0_0,-⟩:=BX0.out.one1
 obtain ⟨-,BX1_0,BX1_1,BX1_2,-⟩:=BX1.out.three
 obtain ⟨-,BX2_0,BX2_1,BX2_2,-⟩:=BX2.out.three
 obtain ⟨-,BX3_0,BX3_1,BX3_2,-⟩:=BX3.out.three
 obtain ⟨-,BRs0_0,-⟩:=BRs0.out.one1
 obtain ⟨-,BRs1_0,BRs1_1,BRs1_2,-⟩:=BRs1.out.three
 obtain ⟨-,BXx0_0,-⟩:=BXx0.out.one1
 obtain ⟨-,BXx2_0,BXx2_1,BXx2_2,-⟩:=BXx2.out.three
 obtain ⟨-,BXx3_0,BXx3_1,BXx3_2,-⟩:=BXx3.out.three
 obtain ⟨-,BRg0_0,-⟩:=BRg0.out.one1
 obtain ⟨-,BRg1_0,BRg1_1,BRg1_2,-⟩:=BRg1.out.three
 go_wp2_with fail
 refine (gX _ _ _ _).mono ?_
 rintro e w24 ⟨rfl,hb⟩
 clear BX0_0 BX1_0 BX1_1 BX1_2 BX2_0 BX2_1 BX2_2 BX3_0 BX3_1 BX3_2 BRs0_0 BRs1_0 BRs1_1 BRs1_2 BXx0_0 BXx2_0 BXx2_1 BXx2_2 BXx3_0 BXx3_1 BXx3_2 BRg0_0 BRg1_0 BRg1_1 BRg1_2
 replace BX0:=I (BX0.out.below hb)
 replace BX1:=I (BX1.out.below hb)
 replace BX2:=I (BX2.out.below hb)
 replace BX3:=I (BX3.out.below hb)
 replace BRs0:=I (BRs0.out.below hb)
 replace BRs1:=I (BRs1.out.below hb)
 replace BXx0:=I (BXx0.out.below hb)
 replace BXx2:=I (BXx2.out.below hb)
 replace BXx3:=I (BXx3.out.below hb)
 replace BRg0:=I (BRg0.out.below hb)
 replace BRg1:=I (BRg1.out.below hb)
 replace s0:=I (s0.out.below hb)
 replace g0:=I (g0.out.below hb)
 replace A0:=I (A0.out.below hb)
 replace A2:=I (A2.out.below hb)
 replace A3:=I (A3.out.below hb)
 have z24:w23.heap.size≤w24.heap.size:=hb.size
 have b24:=I (aA b23.out hb);clear b23
 clear hb
 obtain ⟨-,BX0_0,-⟩:=BX0.out.one1
 obtain ⟨-,BX1_0,BX1_1,BX1_2,-⟩:=BX1.out.three
 obtain ⟨-,BX2_0,BX2_1,BX2_2,-⟩:=BX2.out.three
 obtain ⟨-,BX3_0,BX3_1,BX3_2,-⟩:=BX3.out.three
 obtain ⟨-,BRs0_0,-⟩:=BRs0.out.one1
 obtain ⟨-,BRs1_0,BRs1_1,BRs1_2,-⟩:=BRs1.out.three
 obtain ⟨-,BXx0_0,-⟩:=BXx0.out.one1
 obtain ⟨-,BXx2_0,BXx2_1,BXx2_2,-⟩:=BXx2.out.three
 obtain ⟨-,BXx3_0,BXx3_1,BXx3_2,-⟩:=BXx3.out.three
 obtain ⟨-,BRg0_0,-⟩:=BRg0.out.one1
 obtain ⟨-,BRg1_0,BRg1_1,BRg1_2,-⟩:=BRg1.out.three
 go_wp2_with fail
 refine (DN _ (1) g0.out (by omega) M_g0.out (by have:=M_g0.out;try unfold vQ at this;omega)).mono ?_
 rintro e w25 ⟨rfl,hr,ht⟩
 clear g0;have g0:=hr;clear hr
 clear BX0_0 BX1_0 BX1_1 BX1_2 BX2_0 BX2_1 BX2_2 BX3_0 BX3_1 BX3_2 BRs0_0 BRs1_0 BRs1_1 BRs1_2 BXx0_0 BXx2_0 BXx2_1 BXx2_2 BXx3_0 BXx3_1 BXx3_2 BRg0_0 BRg1_0 BRg1_1 BRg1_2
 replace BX0:=I (BX0.out.touch ht (by omega))
 replace BX1:=I (BX1.out.touch ht (by omega))
 replace BX2:=I (BX2.out.touch ht (by omega))
 replace BX3:=I (BX3.out.touch ht (by omega))
 replace BRs0:=I (BRs0.out.touch ht (by omega))
 replace BRs1:=I (BRs1.out.touch ht (by omega))
 replace BXx0:=I (BXx0.out.touch ht (by omega))
 replace BXx2:=I (BXx2.out.touch ht (by omega))
 replace BXx3:=I (BXx3.out.touch ht (by omega))
 replace BRg0:=I (BRg0.out.touch ht (by omega))
 replace BRg1:=I (BRg1.out.touch ht (by omega))
 replace s0:=I (s0.out.touch ht (by omega))
 have z25:w24.heap.size≤w25.heap.size:=ht.size
 have b25:=I (jY b24.out ht (by omega));clear b24 ht
 replace A0:=I (B0.out.below b25.out)
 replace A2:=I (B2.out.below b25.out)
 replace A3:=I (B3.out.below b25.out)
 obtain ⟨-,BX0_0,-⟩:=BX0.out.one1
 obtain ⟨-,BX1_0,BX1_1,BX1_2,-⟩:=BX1.out.three
 obtain ⟨-,BX2_0,BX2_1,BX2_2,-⟩:=BX2.out.three
 obtain ⟨-,BX3_0,BX3_1,BX3_2,-⟩:=BX3.out.three
 obtain ⟨-,BRs0_0,-⟩:=BRs0.out.one1
 obtain ⟨-,BRs1_0,BRs1_1,BRs1_2,-⟩:=BRs1.out.three
 obtain ⟨-,BXx0_0,-⟩:=BXx0.out.one1
 obtain ⟨-,BXx2_0,BXx2_1,BXx2_2,-⟩:=BXx2.out.three
 obtain ⟨-,BXx3_0,BXx3_1,BXx3_2,-⟩:=BXx3.out.three
 obtain ⟨-,BRg0_0,-⟩:=BRg0.out.one1
 obtain ⟨-,BRg1_0,BRg1_1,BRg1_2,-⟩:=BRg1.out.three
 go_wp2_with fail
 refine (Bn _ (1) g0.out M_g0.out (by have:=M_g0.out;try unfold vQ at this;omega)).mono ?_
 rintro e w26 ⟨rfl,hb⟩
 clear BX0_0 BX1_0 BX1_1 BX1_2 BX2_0 BX2_1 BX2_2 BX3_0 BX3_1 BX3_2 BRs0_0 BRs1_0 BRs1_1 BRs1_2 BXx0_0 BXx2_0 BXx2_1 BXx2_2 BXx3_0 BXx3_1 BXx3_2 BRg0_0 BRg1_0 BRg1_1 BRg1_2
 replace BX0:=I (BX0.out.below hb)
 replace BX1:=I (BX1.out.below hb)
 replace BX2:=I (BX2.out.below hb)
 replace BX3:=I (BX3.out.below hb)
 replace BRs0:=I (BRs0.out.below hb)
 replace BRs1:=I (BRs1.out.below hb)
 replace BXx0:=I (BXx0.out.below hb)
 replace BXx2:=I (BXx2.out.below hb)
 replace BXx3:=I (BXx3.out.below hb)
 replace BRg0:=I (BRg0.out.below hb)
 replace BRg1:=I (BRg1.out.below hb)
 replace s0:=I (s0.out.below hb)
 replace g0:=I (g0.out.below hb)
 replace A0:=I (A0.out.below hb)
 replace A2:=I (A2.out.below hb)
 replace A3:=I (A3.out.below hb)
 have z26:w25.heap.size≤w26.heap.size:=hb.size
 have b26:=I (aA b25.out hb);clear b25
 clear hb
 clear BXx0
 clear BXx2
 clear BXx3
 obtain ⟨-,BX0_0,-⟩:=BX0.out.one1
 obtain ⟨-,BX1_0,BX1_1,BX1_2,-⟩:=BX1.out.three
 obtain ⟨-,BX2_0,BX2_1,BX2_2,-⟩:=BX2.out.three
 obtain ⟨-,BX3_0,BX3_1,BX3_2,-⟩:=BX3.out.three
 obtain ⟨-,BRs0_0,-⟩:=BRs0.out.one1
 obtain ⟨-,BRs1_0,BRs1_1,BRs1_2,-⟩:=BRs1.out.three
 obtain ⟨-,BRg0_0,-⟩:=BRg0.out.one1
 obtain ⟨-,BRg1_0,BRg1_1,BRg1_2,-⟩:=BRg1.out.three
 go_wp2_with fail
 go_cut [28,29,30,31] (fun p1 p2 v1 v2 wx => ∃(ba bb lo hi:Nat) (ad:Option Addr) (n cap s':Nat) (g' q':Int) (f:Int) (b:Bool) (us:List LayD),(p1=.pointer (some ⟨ba,0,none⟩)∧p2=.pointer (some ⟨bb,0,none⟩)∧v1=.int .i64 f∧v2=.bool b)∧Hid (CutN w26 wx (vR (l0.map LayD.toLayP) r2_ k2_ l2 r3_ k3_ l3 s1_ g1_ q1_ a4 a5) ba bb lo hi ad n cap s' g' q' f b us))
 case first =>
  refine lY (N:=10) (S:=fun i=>([162,163,164,165,166,167,168,169,170,171,172,161,173,174,175,176,28,29,10000,10001,30,31]:List Nat).getD i 0) (D:=[162,163,164,165,166,167,168,169,170,171,172,161,173,174,175,176,28,29,30,31]) (Φ:=fun i=>([IsV (.agg #[.slice a0 l0.length c0]),IsM l0,IsV (.agg #[.float .f32 s1_,.int .i64 g1_,.int .i64 q1_]),IsV (.agg #[.float .f32 s1_,.int .i64 g1_,.int .i64 q1_]),IsV (.agg #[.int .i64 r2_,.int .i64 k2_,.slice a2 l2.length c2]),IsT r2_ k2_ l2,IsV (.agg #[.int .i64 r3_,.int .i64 k3_,.slice a3 l3.length c3]),IsT r3_ k3_ l3,IsV (.float .f32 a4),IsV (.int .i64 a5)]:List (Value→World→Prop)).getD i fun _ _=>False) (F:=DQ (vR (l0.map LayD.toLayP) r2_ k2_ l2 r3_ k3_ l3 s1_ g1_ q1_ a4 a5)) (y0:=35) (y1:=50) (by kernel_rfl) (by kernel_rfl) rfl (AZ (n:=177) (by kernel_rfl) (Nat.le_of_ble_eq_true rfl)) (yW ⟨IsV.stab (.agg #[.slice a0 l0.length c0]),IsM.stab l0,IsV.stab (.agg #[.float .f32 s1_,.int .i64 g1_,.int .i64 q1_]),IsV.stab (.agg #[.float .f32 s1_,.int .i64 g1_,.int .i64 q1_]),IsV.stab (.agg #[.int .i64 r2_,.int .i64 k2_,.slice a2 l2.length c2]),IsT.stab r2_ k2_ l2,IsV.stab (.agg #[.int .i64 r3_,.int .i64 k3_,.slice a3 l3.length c3]),IsT.stab r3_ k3_ l3,IsV.stab (.float .f32 a4),IsV.stab (.int .i64 a5),trivial⟩) ⟨_,_,_,rfl⟩ ⟨_,_,_,rfl⟩ ?oE ⟨_,_,_,rfl⟩ ⟨_,_,_,rfl⟩ ⟨_,_,_,rfl⟩ ⟨_,_,_,rfl⟩ ?oF ?pre ?call (fun o a W K=>qX) (fun o a W K=>qY) (fun o a W K p v b x ad n cap=>qZ) (fun o a W K p v b x y z s g q=>rA) ?fin
  case oE=>exact fun k hk=>by match k,hk with | 0,_=>exact ⟨_,_,_,rfl⟩ | 1,_=>exact ⟨_,_,_,rfl⟩ | 2,_=>exact ⟨_,_,_,rfl⟩ | 3,_=>exact ⟨_,_,_,rfl⟩
  case oF=>exact fun k hk=>by match k,hk with | 0,_=>exact ⟨_,_,_,rfl⟩ | 1,_=>exact ⟨_,_,_,rfl⟩
  case pre =>
   intro i o hi ho
   match i,hi,ho with
   | 0,_,ho =>
    have ho2:=Option.some.inj ho
    subst ho2
    refine ⟨⟨rfl,rfl⟩,fun a W K hag hbel hdep hK=>?_⟩
    exact wX rfl ((hag.at' _ (by decide)).trans rfl) (BX0.out.below hbel) (hK _ _ rfl (O _ _))
   | 1,_,ho =>
    have ho2:=Option.some.inj ho
    subst ho2
    refine ⟨⟨rfl,rfl⟩,fun a W K hag hbel hdep hK=>?_⟩
    have hd:a.eval (.tmp 162)=.agg #[.slice a0 l0.length c0]:=hdep 0 (by decide) (by kernel_rfl)
    exact fX rfl Tryz.func9 (by kernel_rfl) rfl #[.agg #[.slice a0 l0.length c0]] (by simp [hd]) (DC W a0 c0 l0 (A0.out.below hbel) hn0 HI0.out) (fun e W' ⟨p,q,o,h1,h2,h3,h4⟩=>⟨_,h1,hK _ _ ⟨p,q,o,_,_,rfl,h2,h3.out⟩ h4⟩)
   | 2,_,ho =>
    have ho2:=Option.some.inj ho
    subst ho2
    refine ⟨⟨rfl,rfl⟩,fun a W K hag hbel hdep hK=>?_⟩
    exact rC rfl ((hag.at' _ (by decide)).trans rfl) (BX1.out.below hbel) (hK _ _ rfl (O _ _))
   | 3,_,ho =>
    have ho2:=Option.some.inj ho
    subst ho2
    refine ⟨⟨rfl,rfl⟩,fun a W K hag hbel hdep hK=>?_⟩
    have hd:a.eval (.tmp 164)=.agg #[.float .f32 s1_,.int .i64 g1_,.int .i64 q1_]:=hdep 2 (by decide) (by kernel_rfl)
    exact fX rfl Tryz.func21 (by kernel_rfl) rfl #[.agg #[.float .f32 s1_,.int .i64 g1_,.int .i64 q1_]] (by simp [hd]) (gV s1_ g1_ q1_ W) (fun e W' ⟨h1,h2⟩=>⟨_,h1,hK _ _ rfl h2⟩)
   | 4,_,ho =>
    have ho2:=Option.some.inj ho
    subst ho2
    refine ⟨⟨rfl,rfl⟩,fun a W K hag hbel hdep hK=>?_⟩
    exact nN rfl ((hag.at' _ (by decide)).trans rfl) (BX2.out.below hbel) (hK _ _ rfl (O _ _))
   | 5,_,ho =>
    have ho2:=Option.some.inj ho
    subst ho2
    refine ⟨⟨rfl,rfl⟩,fun a W K hag hbel hdep hK=>?_⟩
    have hd:a.eval (.tmp 166)=.agg #[.int .i64 r2_,.int .i64 k2_,.slice a2 l2.length c2]:=hdep 4 (by decide) (by kernel_rfl)
    exact fX rfl Tryz.func10 (by kernel_rfl) rfl #[.agg #[.int .i64 r2_,.int .i64 k2_,.slice a2 l2.length c2]] (by simp [hd]) (Ay W r2_ k2_ a2 c2 l2 (A2.out.below hbel) hn2) (fun e W' ⟨p,q,h1,h2,h3⟩=>⟨_,h1,hK _ _ ⟨p,q,_,_,rfl,h2.out⟩ h3⟩)
   | 6,_,ho =>
    have ho2:=Option.some.inj ho
    subst ho2
    refine ⟨⟨rfl,rfl⟩,fun a W K hag hbel hdep hK=>?_⟩
    exact nN rfl ((hag.at' _ (by decide)).trans rfl) (BX3.out.below hbel) (hK _ _ rfl (O _ _))
   | 7,_,ho =>
    have ho2:=Option.some.inj ho
    subst ho2
    refine ⟨⟨rfl,rfl⟩,fun a W K hag hbel hdep hK=>?_⟩
    have hd:a.eval (.tmp 168)=.agg #[.int .i64 r3_,.int .i64 k3_,.slice a3 l3.length c3]:=hdep 6 (by decide) (by kernel_rfl)
    exact fX rfl Tryz.func10 (by kernel_rfl) rfl #[.agg #[.int .i64 r3_,.int .i64 k3_,.slice a3 l3.length c3]] (by simp [hd]) (Ay W r3_ k3_ a3 c3 l3 (A3.out.below hbel) hn3) (fun e W' ⟨p,q,h1,h2,h3⟩=>⟨_,h1,hK _ _ ⟨p,q,_,_,rfl,h2.out⟩ h3⟩)
   | 8,_,ho =>
    have ho2:=Option.some.inj ho
    subst ho2
    refine ⟨⟨rfl,rfl⟩,fun a W K hag hbel hdep hK=>?_⟩
    exact nO rfl (hK _ _ ((hag.at' _ (by decide)).trans rfl) (O _ _))
   | 9,_,ho =>
    have ho2:=Option.some.inj ho
    subst ho2
    refine ⟨⟨rfl,rfl⟩,fun a W K hag hbel hdep hK=>?_⟩
    exact nO rfl (hK _ _ ((hag.at' _ (by decide)).trans rfl) (O _ _))
  case call =>
   intro o ho a W K hag hbel hdep hK
   have ho2:=Option.some.inj ho
   subst ho2
   obtain ⟨p0,q0,o0,lo0,hi0,e0,m0,r0⟩:IsM l0 (a.eval (.tmp 163)) W:=hdep 1 (by decide) (by kernel_rfl)
   have n0:o0.length=l0.length:=by have:=congrArg List.length m0;simpa using this
   have e1:a.eval (.tmp 165)=.agg #[.float .f32 s1_,.int .i64 g1_,.int .i64 q1_]:=hdep 3 (by decide) (by kernel_rfl)
   obtain ⟨p2,q2,lo2,hi2,e2,t2⟩:IsT r2_ k2_ l2 (a.eval (.tmp 167)) W:=hdep 5 (by decide) (by kernel_rfl)
   obtain ⟨p3,q3,lo3,hi3,e3,t3⟩:IsT r3_ k3_ l3 (a.eval (.tmp 169)) W:=hdep 7 (by decide) (by kernel_rfl)
   have e4:a.eval (.tmp 170)=.float .f32 a4:=hdep 8 (by decide) (by kernel_rfl)
   have e5:a.eval (.tmp 171)=.int .i64 a5:=hdep 9 (by decide) (by kernel_rfl)
   have hk:=kY W p0 q0 o0 r0 (mP m0 HI0.out) s1_ g1_ q1_ A1 G1 Q1 r2_ k2_ p2 q2 l2 t2 hn2 R2 C2 r3_ k3_ p3 q3 l3 t3 hn3 R3 C3 a4 A4 a5 A5
   rw [n0,m0] at hk
   exact fX rfl Tryz.func26 (by kernel_rfl) rfl #[.agg #[.slice p0 l0.length q0],.agg #[.float .f32 s1_,.int .i64 g1_,.int .i64 q1_],.agg #[.int .i64 r2_,.int .i64 k2_,.slice p2 l2.length q2],.agg #[.int .i64 r3_,.int .i64 k3_,.slice p3 l3.length q3],.float .f32 a4,.int .i64 a5] (by simp [e0,e1,e2,e3,e4,e5]) hk (fun e W' ⟨ad,n,cap,s',g',q',f,b,us,h1,h2,h3⟩=>⟨_,h1,hK _ _ ⟨ad,n,cap,s',g',q',_,_,us,rfl,⟨f,b,rfl,rfl,h2.out.1⟩,h2.out.2⟩ h3⟩)
  case fin =>
   intro a W h
   obtain ⟨hag,ba,bb,lo,hi,ad,n,cap,s',g',q',f,b,us,⟨h1,h2,h3,h4⟩,hC⟩:=h.cutN
   replace h1:a.eval (.tmp 28) = _:=h1
   replace h2:a.eval (.tmp 29) = _:=h2
   replace h3:a.eval (.tmp 30) = _:=h3
   replace h4:a.eval (.tmp 31) = _:=h4
   go_step
   go_step
   rw [hag.fold]
   simp only [List.foldl,h1,h2,h3,h4,Act.put,List.setIfInBounds_toArray,List.set]
   refine Met.intro ?_
   go_step
   (repeat apply Exists.intro)
   refine ⟨?_,rfl⟩
   exact ⟨ba,bb,lo,hi,ad,n,cap,s',g',q',f,b,us,⟨rfl,rfl,rfl,rfl⟩,hC⟩
 obtain ⟨ba_h,bb_h,lo_h,hi_h,ad_h0,n_h0,cp_h0,vs_h1,vg_h1,vq_h1,v_h2,v_h3,y_h0,⟨rfl,rfl,rfl,rfl⟩,HC_h⟩:=hcut
 have hb:=HC_h.out.below
 have hc1_h:=HC_h.out.loL;have hc2_h:=HC_h.out.hiL;have hc3_h:=HC_h.out.apA;have hc4_h:=HC_h.out.apB;have hc5_h:=HC_h.out.geA;have hc6_h:=HC_h.out.geB
 have BRh0:Hid (BoxN wc ba_h [.slice ad_h0 n_h0 cp_h0]):=I HC_h.out.boxA
 have BRh1:Hid (BoxN wc bb_h [.float .f32 vs_h1,.int .i64 vg_h1,.int .i64 vq_h1]):=I HC_h.out.boxB
 have HO_h:=I HC_h.out.res;clear HC_h
 have Q_h0:=I HO_h.out.1.2
 have Q_h1:=I HO_h.out.1.1.2
 have U_h:=I HO_h.out.1.1.1.2
 have V_h:=I HO_h.out.1.1.1.1
 have M_h0:=I (show vQ n_h0 y_h0 from by have h1:=HO_h.out.2.len;have h2:=oX A1 HO_h.out.1.2;rw [h1] at h2;exact h2)
 have h0:=I HO_h.out.2;clear HO_h
 generalize wc=w27 at hb BRh0 BRh1 h0 hc2_h hc5_h hc6_h ⊢
 clear BX0_0 BX1_0 BX1_1 BX1_2 BX2_0 BX2_1 BX2_2 BX3_0 BX3_1 BX3_2 BRs0_0 BRs1_0 BRs1_1 BRs1_2 BRg0_0 BRg1_0 BRg1_1 BRg1_2
 replace BX0:=I (BX0.out.below hb)
 replace BX1:=I (BX1.out.below hb)
 replace BX2:=I (BX2.out.below hb)
 replace BX3:=I (BX3.out.below hb)
 replace BRs0:=I (BRs0.out.below hb)
 replace BRs1:=I (BRs1.out.below hb)
 replace BRg0:=I (BRg0.out.below hb)
 replace BRg1:=I (BRg1.out.below hb)
 replace s0:=I (s0.out.below hb)
 replace g0:=I (g0.out.below hb)
 replace A0:=I (A0.out.below hb)
 replace A2:=I (A2.out.below hb)
 replace A3:=I (A3.out.below hb)
 have z27:w26.heap.size≤w27.heap.size:=hb.size
 have b27:=I (aA b26.out hb);clear b26
 clear hb
 have hS:=Q_s1.out.trans Q_h1.out.symm
 rw [Prod.mk.injEq,Prod.mk.injEq] at hS
 obtain ⟨rfl,rfl,rfl⟩:=hS
 obtain rfl:v_s2=v_h2:=U_s.out.trans U_h.out.symm
 obtain rfl:v_s3=v_h3:=V_s.out.trans V_h.out.symm
 obtain ⟨-,BX0_0,-⟩:=BX0.out.one1
 obtain ⟨-,BX1_0,BX1_1,BX1_2,-⟩:=BX1.out.three
 obtain ⟨-,BX2_0,BX2_1,BX2_2,-⟩:=BX2.out.three
 obtain ⟨-,BX3_0,BX3_1,BX3_2,-⟩:=BX3.out.three
 obtain ⟨-,BRs0_0,-⟩:=BRs0.out.one1
 obtain ⟨-,BRs1_0,BRs1_1,BRs1_2,-⟩:=BRs1.out.three
 obtain ⟨-,BRg0_0,-⟩:=BRg0.out.one1
 obtain ⟨-,BRg1_0,BRg1_1,BRg1_2,-⟩:=BRg1.out.three
 obtain ⟨-,BRh0_0,-⟩:=BRh0.out.one1
 obtain ⟨-,BRh1_0,BRh1_1,BRh1_2,-⟩:=BRh1.out.three
 go_wp2_with fail
 refine (Dk _ h0.out s0.out (by rw [Q_h0.out,Q_s0.out]) M_h0.out).mono ?_
 rintro e w28 ⟨rfl,hb⟩
 clear BX0_0 BX1_0 BX1_1 BX1_2 BX2_0 BX2_1 BX2_2 BX3_0 BX3_1 BX3_2 BRs0_0 BRs1_0 BRs1_1 BRs1_2 BRg0_0 BRg1_0 BRg1_1 BRg1_2 BRh0_0 BRh1_0 BRh1_1 BRh1_2
 replace BX0:=I (BX0.out.below hb)
 replace BX1:=I (BX1.out.below hb)
 replace BX2:=I (BX2.out.below hb)
 replace BX3:=I (BX3.out.below hb)
 replace BRs0:=I (BRs0.out.below hb)
 replace BRs1:=I (BRs1.out.below hb)
 replace BRg0:=I (BRg0.out.below hb)
 replace BRg1:=I (BRg1.out.below hb)
 replace BRh0:=I (BRh0.out.below hb)
 replace BRh1:=I (BRh1.out.below hb)
 replace s0:=I (s0.out.below hb)
 replace g0:=I (g0.out.below hb)
 replace h0:=I (h0.out.below hb)
 replace A0:=I (A0.out.below hb)
 replace A2:=I (A2.out.below hb)
 replace A3:=I (A3.out.below hb)
 have z28:w27.heap.size≤w28.heap.size:=hb.size
 have b28:=I (aA b27.out hb);clear b27
 clear hb
 obtain ⟨-,BX0_0,-⟩:=BX0.out.one1
 obtain ⟨-,BX1_0,BX1_1,BX1_2,-⟩:=BX1.out.three
 obtain ⟨-,BX2_0,BX2_1,BX2_2,-⟩:=BX2.out.three
 obtain ⟨-,BX3_0,BX3_1,BX3_2,-⟩:=BX3.out.three
 obtain ⟨-,BRs0_0,-⟩:=BRs0.out.one1
 obtain ⟨-,BRs1_0,BRs1_1,BRs1_2,-⟩:=BRs1.out.three
 obtain ⟨-,BRg0_0,-⟩:=BRg0.out.one1
 obtain ⟨-,BRg1_0,BRg1_1,BRg1_2,-⟩:=BRg1.out.three
 obtain ⟨-,BRh0_0,-⟩:=BRh0.out.one1
 obtain ⟨-,BRh1_0,BRh1_1,BRh1_2,-⟩:=BRh1.out.three
 go_wp2_with fail
 refine (gX _ _ _ _).mono ?_
 rintro e w29 ⟨rfl,hb⟩
 clear BX0_0 BX1_0 BX1_1 BX1_2 BX2_0 BX2_1 BX2_2 BX3_0 BX3_1 BX3_2 BRs0_0 BRs1_0 BRs1_1 BRs1_2 BRg0_0 BRg1_0 BRg1_1 BRg1_2 BRh0_0 BRh1_0 BRh1_1 BRh1_2
 replace BX0:=I (BX0.out.below hb)
 replace BX1:=I (BX1.out.below hb)
 replace BX2:=I (BX2.out.below hb)
 replace BX3:=I (BX3.out.below hb)
 replace BRs0:=I (BRs0.out.below hb)
 replace BRs1:=I (BRs1.out.below hb)
 replace BRg0:=I (BRg0.out.below hb)
 replace BRg1:=I (BRg1.out.below hb)
 replace BRh0:=I (BRh0.out.below hb)
 replace BRh1:=I (BRh1.out.below hb)
 replace s0:=I (s0.out.below hb)
 replace g0:=I (g0.out.below hb)
 replace h0:=I (h0.out.below hb)
 replace A0:=I (A0.out.below hb)
 replace A2:=I (A2.out.below hb)
 replace A3:=I (A3.out.below hb)
 have z29:w28.heap.size≤w29.heap.size:=hb.size
 have b29:=I (aA b28.out hb);clear b28
 clear hb
 obtain ⟨-,BX0_0,-⟩:=BX0.out.one1
 obtain ⟨-,BX1_0,BX1_1,BX1_2,-⟩:=BX1.out.three
 obtain ⟨-,BX2_0,BX2_1,BX2_2,-⟩:=BX2.out.three
 obtain ⟨-,BX3_0,BX3_1,BX3_2,-⟩:=BX3.out.three
 obtain ⟨-,BRs0_0,-⟩:=BRs0.out.one1
 obtain ⟨-,BRs1_0,BRs1_1,BRs1_2,-⟩:=BRs1.out.three
 obtain ⟨-,BRg0_0,-⟩:=BRg0.out.one1
 obtain ⟨-,BRg1_0,BRg1_1,BRg1_2,-⟩:=BRg1.out.three
 obtain ⟨-,BRh0_0,-⟩:=BRh0.out.one1
 obtain ⟨-,BRh1_0,BRh1_1,BRh1_2,-⟩:=BRh1.out.three
 go_wp2_with fail
 refine (Bn _ (1) g0.out M_g0.out (by have:=M_g0.out;try unfold vQ at this;omega)).mono ?_
 rintro e w30 ⟨rfl,hb⟩
 clear BX0_0 BX1_0 BX1_1 BX1_2 BX2_0 BX2_1 BX2_2 BX3_0 BX3_1 BX3_2 BRs0_0 BRs1_0 BRs1_1 BRs1_2 BRg0_0 BRg1_0 BRg1_1 BRg1_2 BRh0_0 BRh1_0 BRh1_1 BRh1_2
 replace BX0:=I (BX0.out.below hb)
 replace BX1:=I (BX1.out.below hb)
 replace BX2:=I (BX2.out.below hb)
 replace BX3:=I (BX3.out.below hb)
 replace BRs0:=I (BRs0.out.below hb)
 replace BRs1:=I (BRs1.out.below hb)
 replace BRg0:=I (BRg0.out.below hb)
 replace BRg1:=I (BRg1.out.below hb)
 replace BRh0:=I (BRh0.out.below hb)
 replace BRh1:=I (BRh1.out.below hb)
 replace s0:=I (s0.out.below hb)
 replace g0:=I (g0.out.below hb)
 replace h0:=I (h0.out.below hb)
 replace A0:=I (A0.out.below hb)
 replace A2:=I (A2.out.below hb)
 replace A3:=I (A3.out.below hb)
 have z30:w29.heap.size≤w30.heap.size:=hb.size
 have b30:=I (aA b29.out hb);clear b29
 clear hb
 go_wp2
 go_ret
 exact ⟨rfl,b30.out⟩
end Go.Proofs.YtpadlmidojpbeaaGreat
