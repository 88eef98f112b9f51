/-
Printed by dec2.py: of each function its plain demand, and that the demand gives the contract.
-/
import Derived.Test.YtljlpmfmfcljaaaGenUa
set_option linter.unusedSimpArgs false
set_option linter.unusedVariables false
set_option maxRecDepth 100000
namespace Dec
open Go Go.RowKit Go.Proofs
abbrev e44a0 (c1:Int) (c2:Int) (c3:Int) (c4:LR) (c5:LI):Nat×Path×Con:=hB 70000 [.pI c1,.pI c2,.pI c3,.p (.sl tR) c4,.pS c5,.own 70001]
abbrev e44a1 (q0:Int) (q1:(Int×Int)):Nat×Path×Con:=hB 41211 [.cl 85 [.ad ⟨tI,q0⟩,.pt 41200 0,.ad ⟨(.pr tI tI),q1⟩,.pt 41211 0]]
abbrev e44a2 (q0:Int) (q1:(Int×Int)):Nat×Path×AV:=s1 42 (.cl 85 [.ad ⟨tI,q0⟩,.pt 41200 0,.ad ⟨(.pr tI tI),q1⟩,.pt 41211 0])
abbrev e44a3 (c12:Int) (c13:LI):Nat×Path×Con:=hB 30005 [.pI c12,.pS c13]
abbrev e44a4 (c7:Int) (c8:Int):Nat×Path×Con:=hB 30001 [.pI c7,.pI c8]
abbrev e44a5:Nat×Path×Con:=hB 30000 [.ptr 70000 0]
abbrev e44a6 (q1:(Int×Int)):Nat×Path×AV:=s1 3 (.ad (.pr tI tI) q1)
abbrev e44a7:Nat×Path×Con:=hB 30003 [.own 30006]
abbrev e44a8 (l70001:LK):Nat×Path×Con:=(70001,[],.dict (.pr tI t3) tI l70001)
abbrev e44a9:Nat×Path×Con:=hB 41200 [.yv 37100]
abbrev e44a10 (c11:Int):Nat×Path×Con:=hB 30004 [.pI c11]
abbrev e44a11 (ret48v:Bool×Int×LK×Int×LI):Nat×Path×Con:=(70001,[],.dict (.pr tI t3) tI ret48v.2.2.1)
abbrev e44a12:Nat×Path×AV:=s1 51 (.yv 37100)
abbrev e44a13 (l30006:LI):Nat×Path×Con:=hA 30006 3 tI l30006
abbrev e44a14 (c6:LK):Nat×Path×Con:=(70001,[],.dict (.pr tI t3) tI c6)
abbrev e44a15 (ret48v:Bool×Int×LK×Int×LI):Nat×Path×Con:=hA 30006 3 tI ret48v.2.2.2.2
abbrev e44a16 (havev:LI):Nat×Path×AV:=s1 0 (.pS havev)
abbrev e44a17:Nat×Path×AV:=sp 50 41200
abbrev e44a18:Nat×Path×AV:=sp 52 30000
abbrev e44a19:Nat×Path×AV:=sp 53 70000
abbrev e44a20:Nat×Path×AV:=sp 54 30001
abbrev e44a21:Nat×Path×AV:=sp 55 30002
abbrev e44a22:Nat×Path×AV:=sp 56 30003
abbrev e44a23:Nat×Path×AV:=sp 57 30004
abbrev e44a24:Nat×Path×AV:=sp 58 30005
abbrev e44a25:Nat×Path×AV:=sp 59 41211
abbrev e44a26 (l30002:Int):Nat×Path×Con:=hB 30002 [.pI l30002]
abbrev e44a27 (ret48v:Bool×Int×LK×Int×LI):Nat×Path×Con:=hB 30002 [.pI ret48v.2.2.2.1]
abbrev e44a28:Nat×Path×AV:=sp 4 41211
abbrev e44a29 (c10:LI):Nat×Path×Con:=hA 30006 3 tI c10
abbrev e44a30 (ret44v:LI) (endv:Int):Nat×Path×AV:=s1 47 (.pS (ret44v++[endv]))
abbrev e44a31 (c9:Int):Nat×Path×Con:=hB 30002 [.pI c9]
abbrev e44a32 (ret44v:LI) (endv:Int):Nat×Path×Con:=hA 47 3 tI (ret44v++[endv])
abbrev e44a33 (ret44v:LI):Nat×Path×Con:=hA 44 3 tI ret44v
abbrev e44a34 (endv:Int):Nat×Path×Con:=hA 46 3 tI [endv]
abbrev e44a35 (yf22:Int×Int×LI×LK):Nat×Path×Con:=(70001,[],.dict (.pr tI t3) tI yf22.2.2.2)
abbrev e44a36 (yt22v:Int×LI×LK):Nat×Path×Con:=(70001,[],.dict (.pr tI t3) tI yt22v.2.2)
abbrev e44a37:Nat×Path×AV:=s1 15 (.yv 37100)
abbrev e44a38 (l700012:LK):Nat×Path×Con:=(70001,[],.dict (.pr tI t3) tI l700012)
abbrev e44a39:Nat×Path×AV:=s1 44 (.own 44)
abbrev e44a40:Nat×Path×AV:=s1 46 (.own 46)
abbrev e44a41 (yv2:LK):Nat×Path×Con:=(70001,[],.dict (.pr tI t3) tI yv2)
abbrev e44a42:Nat×Path×AV:=s1 47 (.own 47)
abbrev e44an0:List Nat:=[41200,37100,30000,70000,70001,30001,30002,30003,30006,30004,30005,41211]
abbrev e44an1:List Nat:=[41200,37100,30000,70000,30001,30002,30003,30004,30005,41211]
abbrev e44an2:List Nat:=[37100,30000,30001,30002,30003,30004,30005,30006,70000,70001]
abbrev e44an3:List Nat:=[44,46,30000,30001,30002,30003,30004,30005,30006,37100,41200,41211,70000,70001]
abbrev e44an4:List Nat:=[44,30000,30001,30002,30003,30004,30005,30006,37100,41200,41211,70000,70001]
abbrev e44an5:List Nat:=[37100,30000,30001,30002,30003,30004,30005,70000]
abbrev e44an6:List Nat:=[0,3,4,9,42,44,46,50,51,52,53,54,55,56,57,58,59]
abbrev VCc58_s1 (t0:Nat) (t1:Nat) (t2:Nat) (t3:Nat) (t4:Nat) (t5:Nat) (c:Int):List (Nat×AV):=[(4,.v (.c (.ptr t0 0))),(6,.v (.c (.ptr t1 0))),(7,.v (.c (.ptr t2 0))),(8,.v (.c (.ptr t3 0))),(9,.v (.c (.ptr t4 0))),(10,.v (.c (.ptr t5 0)))]
-- coppicer/pick.cuts$1$1
def VCc85y6_k1 (K:Bool×Int×LK×Int×LI→Prop) (v6:Bool) (l30002:Int) (l30006:LI) (l37100:Int) (l70001:LK):Prop :=
  K (v6,l37100,l70001,l30002,l30006)
def VCc85y6_k3 (K:Bool×Int×LK×Int×LI→Prop) (l30002:Int) (l30006:LI) (l37100:Int) (l70001:LK):Prop :=
  K (true,l37100,l70001,l30002,l30006)
def VCc85y6_k4 (K:Bool×Int×LK×Int×LI→Prop) (endv:Int) (X1:Int×Int×LI×Int×LK→Prop) (v49:Bool) (l300022:Int) (l300062:LI) (l371002:Int) (l700012:LK):Prop :=
  ((v49=true→K (false,l371002,l700012,l300022,l300062))∧(v49=false→(InR (endv+(1:Int))∧X1 ((endv+(1:Int)),l300022,l300062,l371002,l700012))))
def VCc85y6_l1 (q1:(Int×Int)) (R:LI→Int→LK→Int→LI→(Bool×Int×LK×Int×LI→Prop)→Prop) (havev:LI) (K:Bool×Int×LK×Int×LI→Prop) (endv:Int) (l30002:Int) (l30006:LI) (l37100:Int) (l70001:LK) (X1:Int×Int×LI×Int×LK→Prop):Prop :=
  (((decide (endv<q1.2))=true→VC54 havev (fun (ret44v:LI)=>(roomW 8 (ret44v.length+[endv].length)∧R (ret44v++[endv]) l37100 l70001 l30002 l30006 (fun (ret48v:Bool×Int×LK×Int×LI)=>VCc85y6_k4 K endv X1 (!ret48v.1) ret48v.2.2.2.1 ret48v.2.2.2.2 ret48v.2.1 ret48v.2.2.1))))∧((decide (endv<q1.2))=false→VCc85y6_k3 K l30002 l30006 l37100 l70001))
def VCc85y6_k2 (q1:(Int×Int)) (R:LI→Int→LK→Int→LI→(Bool×Int×LK×Int×LI→Prop)→Prop) (havev:LI) (c0:Int) (c6:LK) (c9:Int) (c10:LI) (K:Bool×Int×LK×Int×LI→Prop) (fromv:Int):Prop :=
  (InR (fromv+(1:Int))∧Loop (σ:=Int×Int×LI×Int×LK) (fun s X=>VCc85y6_l1 q1 R havev K s.1 s.2.1 s.2.2.1 s.2.2.2.1 s.2.2.2.2 X) ((fromv+(1:Int)),c9,c10,c0,c6))
def VCc85y6 (q0:Int) (q1:(Int×Int)) (c1:Int) (c2:Int) (c3:Int) (c4:LR) (c5:LI) (c7:Int) (c8:Int) (c11:Int) (c12:Int) (c13:LI) (Y:LI→Int→LI→LK→(Int×LI×LK→Prop)→(Int×Int×LI×LK→Prop)→Prop) (R:LI→Int→LK→Int→LI→(Bool×Int×LK×Int×LI→Prop)→Prop) (havev:LI) (c0:Int) (c6:LK) (c9:Int) (c10:LI) (K:Bool×Int×LK×Int×LI→Prop):Prop :=
  (InR (q0-(1:Int))∧(((decide ((havev.length:Int)=(q0-(1:Int))))=true→VC54 havev (fun (ret17v:LI)=>(roomW 8 (ret17v.length+[q1.2].length)∧(c0=(0:Int)∧Y (ret17v++[q1.2]) c9 c10 c6 (fun (yt22v:Int×LI×LK)=>VCc85y6_k1 K true yt22v.1 yt22v.2.1 (0:Int) yt22v.2.2) (fun (yf22:Int×Int×LI×LK)=>VCc85y6_k1 K false yf22.2.1 yf22.2.2.1 yf22.1 yf22.2.2.2)))))∧((decide ((havev.length:Int)=(q0-(1:Int))))=false→(((decide ((0:Int)<(havev.length:Int)))=true→(InR ((havev.length:Int)-(1:Int))∧inIdx ((havev.length:Int)-(1:Int)) havev.length∧VCc85y6_k2 q1 R havev c0 c6 c9 c10 K (havev.getD (((havev.length:Int)-(1:Int))).toNat (0:Int))))∧((decide ((0:Int)<(havev.length:Int)))=false→VCc85y6_k2 q1 R havev c0 c6 c9 c10 K q1.1)))))
set_option maxHeartbeats 4000000 in
theorem linkc85y6 (lr1:Go.Loop) (c:Int) (q0:Int) (q1:(Int×Int)) (c1:Int) (c2:Int) (c3:Int) (c4:LR) (c5:LI) (c7:Int) (c8:Int) (c11:Int) (c12:Int) (c13:LI) (Y:LI→Int→LI→LK→(Int×LI×LK→Prop)→(Int×Int×LI×LK→Prop)→Prop) (hY:∀ (ya0:LI) (yv0:Int) (yv1:LI) (yv2:LK) (Kt:Int×LI×LK→Prop) (Kf:Int×Int×LI×LK→Prop) (h:Y ya0 yv0 yv1 yv2 Kt Kf),LYCalls Try.prog 37100 e44an2 e44an5 [(37100,[],.lp lr1 (0:Int) (VCc58_s1 30000 30001 30002 30003 30004 30005 c)),e44a5,e44a4 c7 c8,hB 30002 [.pI yv0],e44a7,e44a10 c11,e44a3 c12 c13,hA 30006 3 tI yv1,e44a0 c1 c2 c3 c4 c5,e44a41 yv2] [.c (.pS ya0)] (fun av hp'=>(∃ y:Int×LI×LK,av=.v (.c (.p .bool true))∧hp'=[(37100,[],.lp lr1 (0:Int) (VCc58_s1 30000 30001 30002 30003 30004 30005 c)),e44a5,e44a4 c7 c8,hB 30002 [.pI y.1],e44a7,e44a10 c11,e44a3 c12 c13,hA 30006 3 tI y.2.1,e44a0 c1 c2 c3 c4 c5,(70001,[],.dict (.pr tI t3) tI y.2.2)]∧Kt y)∨(∃ y:Int×Int×LI×LK,av=.v (.c (.p .bool false))∧hp'=[(37100,[],.lp lr1 y.1 (VCc58_s1 30000 30001 30002 30003 30004 30005 c)),e44a5,e44a4 c7 c8,hB 30002 [.pI y.2.1],e44a7,e44a10 c11,e44a3 c12 c13,hA 30006 3 tI y.2.2.1,e44a0 c1 c2 c3 c4 c5,(70001,[],.dict (.pr tI t3) tI y.2.2.2)]∧Kf y))) (R:LI→Int→LK→Int→LI→(Bool×Int×LK×Int×LI→Prop)→Prop) (hR:∀ (havev:LI) (c0:Int) (c6:LK) (c9:Int) (c10:LI) (K:Bool×Int×LK×Int×LI→Prop),R havev c0 c6 c9 c10 K→LCalls Try.prog 85 e44an0 e44an1 [e44a9,(37100,[],.lp lr1 c0 (VCc58_s1 30000 30001 30002 30003 30004 30005 c)),e44a5,e44a0 c1 c2 c3 c4 c5,e44a14 c6,e44a4 c7 c8,e44a31 c9,e44a7,e44a29 c10,e44a10 c11,e44a3 c12 c13,e44a1 q0 q1] [.c (.pS havev),.c (.ad tI q0),.c (.ptr 41200 0),.c (.ad (.pr tI tI) q1),.c (.ptr 41211 0)] (fun av hp'=>∃ y:Bool×Int×LK×Int×LI,av=.v (.c (.pB y.1))∧hp'=[e44a9,(37100,[],.lp lr1 y.2.1 (VCc58_s1 30000 30001 30002 30003 30004 30005 c)),e44a5,e44a0 c1 c2 c3 c4 c5,(70001,[],.dict (.pr tI t3) tI y.2.2.1),e44a4 c7 c8,hB 30002 [.pI y.2.2.2.1],e44a7,hA 30006 3 tI y.2.2.2.2,e44a10 c11,e44a3 c12 c13,e44a1 q0 q1]∧K y)) (havev:LI) (c0:Int) (c6:LK) (c9:Int) (c10:LI) (K:Bool×Int×LK×Int×LI→Prop) (h:VCc85y6 q0 q1 c1 c2 c3 c4 c5 c7 c8 c11 c12 c13 Y R havev c0 c6 c9 c10 K):LCalls Try.prog 85 e44an0 e44an1 [e44a9,(37100,[],.lp lr1 c0 (VCc58_s1 30000 30001 30002 30003 30004 30005 c)),e44a5,e44a0 c1 c2 c3 c4 c5,e44a14 c6,e44a4 c7 c8,e44a31 c9,e44a7,e44a29 c10,e44a10 c11,e44a3 c12 c13,e44a1 q0 q1] [.c (.pS havev),.c (.ad tI q0),.c (.ptr 41200 0),.c (.ad (.pr tI tI) q1),.c (.ptr 41211 0)] (fun av hp'=>∃ y:Bool×Int×LK×Int×LI,av=.v (.c (.pB y.1))∧hp'=[e44a9,(37100,[],.lp lr1 y.2.1 (VCc58_s1 30000 30001 30002 30003 30004 30005 c)),e44a5,e44a0 c1 c2 c3 c4 c5,(70001,[],.dict (.pr tI t3) tI y.2.2.1),e44a4 c7 c8,hB 30002 [.pI y.2.2.2.1],e44a7,hA 30006 3 tI y.2.2.2.2,e44a10 c11,e44a3 c12 c13,e44a1 q0 q1]∧K y):=by
 refine lcalls_of_aw e44an0 e44an1 [.t 6] Try.func85 rfl rfl (by kernel_rfl) (by kernel_rfl) (by kernel_rfl) ?_
 refine aw_conv [] (st':=(⟨50,[e44a16 havev,s1 1 (.ad tI q0),sp 2 41200,e44a6 q1,e44a28,e44a17,e44a12,e44a18,e44a19,e44a20,e44a21,e44a22,e44a23,e44a24,e44a25],[e44a9,(37100,[],.lp lr1 c0 (VCc58_s1 30000 30001 30002 30003 30004 30005 c)),e44a5,e44a0 c1 c2 c3 c4 c5,e44a14 c6,e44a4 c7 c8,e44a31 c9,e44a7,e44a29 c10,e44a10 c11,e44a3 c12 c13,e44a1 q0 q1]⟩:St)) (by kernel_rfl) ?_
 unfold VCc85y6 at h
 refine srn 1 ⟨50,[e44a16 havev,s1 1 (.ad tI q0),sp 2 41200,e44a6 q1,e44a28,e44a17,e44a12,e44a18,e44a19,e44a20,e44a21,e44a22,e44a23,e44a24,e44a25],[e44a5,e44a4 c7 c8,e44a31 c9,e44a7,e44a10 c11,e44a3 c12 c13,e44a29 c10,(37100,[],.lp lr1 c0 (VCc58_s1 30000 30001 30002 30003 30004 30005 c)),e44a9,e44a1 q0 q1,e44a0 c1 c2 c3 c4 c5,e44a14 c6]⟩ (by kernel_rfl) rfl ?_
 refine aw_seq ?_
 refine sr ?_
 obtain ⟨o1,h⟩:=h
 refine rq 5 (ob:=(Ts 3 (InR (q0-(1:Int))∧Ts 1 True))) (st':=(⟨50,[e44a16 havev,sp 2 41200,e44a6 q1,e44a28,sB 14 (decide ((havev.length:Int)=(q0-(1:Int)))),e44a17,e44a12,e44a18,e44a19,e44a20,e44a21,e44a22,e44a23,e44a24,e44a25],[e44a5,e44a4 c7 c8,e44a31 c9,e44a7,e44a10 c11,e44a3 c12 c13,e44a29 c10,(37100,[],.lp lr1 c0 (VCc58_s1 30000 30001 30002 30003 30004 30005 c)),e44a9,e44a1 q0 q1,e44a0 c1 c2 c3 c4 c5,e44a14 c6]⟩:St)) (by kernel_rfl) (tsI 3 ⟨o1,tsI 1 trivial⟩) ?_
 refine nn ?_
 refine aw_cond (b:=(decide ((havev.length:Int)=(q0-(1:Int))))) (by kernel_rfl) (fun hb=>?_) (fun hb=>?_)
 ·have h:=h.1 hb
  refine aw_seq ?_
  refine withJoin (σ:=Bool×Int×LI×Int×LK) (fun s=>(⟨50,[sB 6 s.1,e44a17,e44a12,e44a18,e44a19,e44a20,e44a21,e44a22,e44a23,e44a24,e44a25],[e44a5,e44a4 c7 c8,hB 30002 [.pI s.2.1],e44a7,e44a10 c11,e44a3 c12 c13,hA 30006 3 tI s.2.2.1,(37100,[],.lp lr1 s.2.2.2.1 (VCc58_s1 30000 30001 30002 30003 30004 30005 c)),e44a9,e44a1 q0 q1,e44a0 c1 c2 c3 c4 c5,(70001,[],.dict (.pr tI t3) tI s.2.2.2.2)]⟩:St)) (fun s=>VCc85y6_k1 K s.1 s.2.1 s.2.2.1 s.2.2.2.1 s.2.2.2.2) (fun s h=>?_) (fun rest1=>?_)
  ·obtain ⟨v6,l30002,l30006,l37100,l70001⟩:=s
   have h:VCc85y6_k1 K v6 l30002 l30006 l37100 l70001:=h
   unfold VCc85y6_k1 at h
   refine thenQ_n ?_
   refine cpr (st':=(⟨50,[sB 6 v6,e44a17,e44a12,e44a18,e44a19,e44a20,e44a21,e44a22,e44a23,e44a24,e44a25],[e44a9,(37100,[],.lp lr1 l37100 (VCc58_s1 30000 30001 30002 30003 30004 30005 c)),e44a5,e44a0 c1 c2 c3 c4 c5,e44a8 l70001,e44a4 c7 c8,e44a26 l30002,e44a7,e44a13 l30006,e44a10 c11,e44a3 c12 c13,e44a1 q0 q1]⟩:St)) (by kernel_rfl) ?_
   refine aw_ret ?_
   refine thenQ_r ?_
   exact lret_r (σ:=Bool×Int×LK×Int×LI) (A:=fun y=>.v (.c (.pB y.1))) (H:=fun y=>[e44a9,(37100,[],.lp lr1 y.2.1 (VCc58_s1 30000 30001 30002 30003 30004 30005 c)),e44a5,e44a0 c1 c2 c3 c4 c5,(70001,[],.dict (.pr tI t3) tI y.2.2.1),e44a4 c7 c8,hB 30002 [.pI y.2.2.2.1],e44a7,hA 30006 3 tI y.2.2.2.2,e44a10 c11,e44a3 c12 c13,e44a1 q0 q1]) (ob:=True) (v6,l37100,l70001,l30002,l30006) (by kernel_rfl) trivial rfl (by kernel_rfl) (by kernel_rfl) (by kernel_rfl) h
  ·refine awd_begin [17,30000,30001,30002,30003,30004,30005,30006,37100,70000,70001] (by kernel_rfl) ?_
   refine drq (by kernel_rfl) [0,1,3,4] (ob:=(Ts 4 True)) (done':=[4,3,1,0]) (st':=(⟨50,[e44a37,s1 16 (.pS havev),sI 19 q1.2,e44a17,e44a12,e44a18,e44a19,e44a20,e44a21,e44a22,e44a23,e44a24,e44a25],[e44a5,e44a4 c7 c8,e44a31 c9,e44a7,e44a10 c11,e44a3 c12 c13,e44a29 c10,(37100,[],.lp lr1 c0 (VCc58_s1 30000 30001 30002 30003 30004 30005 c)),e44a9,e44a1 q0 q1,e44a0 c1 c2 c3 c4 c5,e44a14 c6]⟩:St)) (by kernel_rfl) (tsI 4 trivial) ?_
   refine awd_two (i:=2) (j:=5) (by kernel_rfl) ?_ ?_
   ·have h:=h
    refine adop_callOk (e:=3) (t:=tI) (l:=[toV1 (.sl tI) havev]) (cl:=[]) false [.d (.sl tI)] [15,17,19,50,51,52,53,54,55,56,57,58,59] [17,30000,30001,30002,30003,30004,30005,30006,37100,41200,41211,70000,70001] (fun (ret17v:LI)=>(roomW 8 (ret17v.length+[q1.2].length)∧(c0=(0:Int)∧Y (ret17v++[q1.2]) c9 c10 c6 (fun (yt22v:Int×LI×LK)=>VCc85y6_k1 K true yt22v.1 yt22v.2.1 (0:Int) yt22v.2.2) (fun (yf22:Int×Int×LI×LK)=>VCc85y6_k1 K false yf22.2.1 yf22.2.2.1 yf22.1 yf22.2.2.2)))) (fun ret17v=>(⟨50,[e44a37,s1 17 (.own 17),sI 19 q1.2,e44a17,e44a12,e44a18,e44a19,e44a20,e44a21,e44a22,e44a23,e44a24,e44a25],[hA 17 3 tI ret17v,e44a5,e44a4 c7 c8,e44a31 c9,e44a7,e44a10 c11,e44a3 c12 c13,e44a29 c10,(37100,[],.lp lr1 c0 (VCc58_s1 30000 30001 30002 30003 30004 30005 c)),e44a9,e44a1 q0 q1,e44a0 c1 c2 c3 c4 c5,e44a14 c6]⟩:St)) rfl rfl rfl (by kernel_rfl) rfl (by kernel_rfl) Try.call54 (by kernel_rfl) (fun e=>by cases e) (fun ret17v=>by kernel_rfl) (link54 havev _ h) (fun ret17v h=>?_)
    refine awd_one (i:=5) (by kernel_rfl) ?_
    refine dsq (ob:=True) (st':=(⟨50,[e44a37,s1 17 (.own 17),s1 20 (.own 20),e44a17,e44a12,e44a18,e44a19,e44a20,e44a21,e44a22,e44a23,e44a24,e44a25],[hA 17 3 tI ret17v,hA 20 3 tI [q1.2],e44a5,e44a4 c7 c8,e44a31 c9,e44a7,e44a10 c11,e44a3 c12 c13,e44a29 c10,(37100,[],.lp lr1 c0 (VCc58_s1 30000 30001 30002 30003 30004 30005 c)),e44a9,e44a1 q0 q1,e44a0 c1 c2 c3 c4 c5,e44a14 c6]⟩:St)) rfl (by kernel_rfl) trivial ?_
    refine awd_one (i:=6) (by kernel_rfl) ?_
    obtain ⟨o1,h⟩:=h
    refine dsq (ob:=roomW 8 (ret17v.length+[q1.2].length)) (st':=(⟨50,[e44a37,s1 21 (.own 21),e44a17,e44a12,e44a18,e44a19,e44a20,e44a21,e44a22,e44a23,e44a24,e44a25],[hA 21 3 tI (ret17v++[q1.2]),e44a5,e44a4 c7 c8,e44a31 c9,e44a7,e44a10 c11,e44a3 c12 c13,e44a29 c10,(37100,[],.lp lr1 c0 (VCc58_s1 30000 30001 30002 30003 30004 30005 c)),e44a9,e44a1 q0 q1,e44a0 c1 c2 c3 c4 c5,e44a14 c6]⟩:St)) rfl (by kernel_rfl) o1 ?_
    refine awd_conv [.freeze 21] (st':=(⟨50,[e44a37,s1 21 (.pS (ret17v++[q1.2])),e44a17,e44a12,e44a18,e44a19,e44a20,e44a21,e44a22,e44a23,e44a24,e44a25],[e44a5,e44a4 c7 c8,e44a31 c9,e44a7,e44a10 c11,e44a3 c12 c13,e44a29 c10,(37100,[],.lp lr1 c0 (VCc58_s1 30000 30001 30002 30003 30004 30005 c)),e44a9,e44a1 q0 q1,e44a0 c1 c2 c3 c4 c5,e44a14 c6]⟩:St)) (by kernel_rfl) rfl ?_
    obtain ⟨hk,h⟩:=h
    refine awd_lpz (r:=37100) (x0:=lr1) (k:=c0) (sl:=VCc58_s1 30000 30001 30002 30003 30004 30005 c) hk (by kernel_rfl) (st':=(⟨50,[e44a37,s1 21 (.pS (ret17v++[q1.2])),e44a17,e44a12,e44a18,e44a19,e44a20,e44a21,e44a22,e44a23,e44a24,e44a25],[e44a5,e44a4 c7 c8,e44a31 c9,e44a7,e44a10 c11,e44a3 c12 c13,e44a29 c10,(37100,[],.lp lr1 (0:Int) (VCc58_s1 30000 30001 30002 30003 30004 30005 c)),e44a9,e44a1 q0 q1,e44a0 c1 c2 c3 c4 c5,e44a14 c6]⟩:St)) (by kernel_rfl) ?_
    refine awd_one (i:=7) (by kernel_rfl) ?_
    refine dycq (d:=22) e44an2 (fun yt22v=>(⟨50,[sB 22 true,e44a17,e44a12,e44a18,e44a19,e44a20,e44a21,e44a22,e44a23,e44a24,e44a25],[e44a5,e44a4 c7 c8,hB 30002 [.pI yt22v.1],e44a7,e44a10 c11,e44a3 c12 c13,hA 30006 3 tI yt22v.2.1,(37100,[],.lp lr1 (0:Int) (VCc58_s1 30000 30001 30002 30003 30004 30005 c)),e44a9,e44a1 q0 q1,e44a0 c1 c2 c3 c4 c5,e44a36 yt22v]⟩:St)) (fun yf22=>(⟨50,[sB 22 false,e44a17,e44a12,e44a18,e44a19,e44a20,e44a21,e44a22,e44a23,e44a24,e44a25],[e44a5,e44a4 c7 c8,hB 30002 [.pI yf22.2.1],e44a7,e44a10 c11,e44a3 c12 c13,hA 30006 3 tI yf22.2.2.1,(37100,[],.lp lr1 yf22.1 (VCc58_s1 30000 30001 30002 30003 30004 30005 c)),e44a9,e44a1 q0 q1,e44a0 c1 c2 c3 c4 c5,e44a35 yf22]⟩:St)) rfl (by kernel_rfl) (by kernel_rfl) (fun _=>by kernel_rfl) (fun _=>by kernel_rfl) (hY (ret17v++[q1.2]) c9 c10 c6 _ _ h) (fun yt22v h=>?_) (fun yf22 h=>?_)
    ·refine drq (by kernel_rfl) [8] (ob:=(Ts 1 True)) (done':=[8,7,6,5,2,4,3,1,0]) (st':=(⟨50,[sB 6 true,e44a17,e44a12,e44a18,e44a19,e44a20,e44a21,e44a22,e44a23,e44a24,e44a25],[e44a5,e44a4 c7 c8,hB 30002 [.pI yt22v.1],e44a7,e44a10 c11,e44a3 c12 c13,hA 30006 3 tI yt22v.2.1,(37100,[],.lp lr1 (0:Int) (VCc58_s1 30000 30001 30002 30003 30004 30005 c)),e44a9,e44a1 q0 q1,e44a0 c1 c2 c3 c4 c5,e44a36 yt22v]⟩:St)) (by kernel_rfl) (tsI 1 trivial) ?_
     refine awd_done (by kernel_rfl) ?_
     exact rest1 (true,yt22v.1,yt22v.2.1,(0:Int),yt22v.2.2) h
    ·refine drq (by kernel_rfl) [8] (ob:=(Ts 1 True)) (done':=[8,7,6,5,2,4,3,1,0]) (st':=(⟨50,[sB 6 false,e44a17,e44a12,e44a18,e44a19,e44a20,e44a21,e44a22,e44a23,e44a24,e44a25],[e44a5,e44a4 c7 c8,hB 30002 [.pI yf22.2.1],e44a7,e44a10 c11,e44a3 c12 c13,hA 30006 3 tI yf22.2.2.1,(37100,[],.lp lr1 yf22.1 (VCc58_s1 30000 30001 30002 30003 30004 30005 c)),e44a9,e44a1 q0 q1,e44a0 c1 c2 c3 c4 c5,e44a35 yf22]⟩:St)) (by kernel_rfl) (tsI 1 trivial) ?_
     refine awd_done (by kernel_rfl) ?_
     exact rest1 (false,yf22.2.1,yf22.2.2.1,yf22.1,yf22.2.2.2) h
   ·have h:=h
    refine dsq (ob:=True) (st':=(⟨50,[e44a37,s1 16 (.pS havev),s1 20 (.own 20),e44a17,e44a12,e44a18,e44a19,e44a20,e44a21,e44a22,e44a23,e44a24,e44a25],[hA 20 3 tI [q1.2],e44a5,e44a4 c7 c8,e44a31 c9,e44a7,e44a10 c11,e44a3 c12 c13,e44a29 c10,(37100,[],.lp lr1 c0 (VCc58_s1 30000 30001 30002 30003 30004 30005 c)),e44a9,e44a1 q0 q1,e44a0 c1 c2 c3 c4 c5,e44a14 c6]⟩:St)) rfl (by kernel_rfl) trivial ?_
    refine awd_one (i:=2) (by kernel_rfl) ?_
    refine adop_callOk (e:=3) (t:=tI) (l:=[toV1 (.sl tI) havev]) (cl:=[]) false [.d (.sl tI)] [15,17,20,50,51,52,53,54,55,56,57,58,59] [17,20,30000,30001,30002,30003,30004,30005,30006,37100,41200,41211,70000,70001] (fun (ret17v:LI)=>(roomW 8 (ret17v.length+[q1.2].length)∧(c0=(0:Int)∧Y (ret17v++[q1.2]) c9 c10 c6 (fun (yt22v:Int×LI×LK)=>VCc85y6_k1 K true yt22v.1 yt22v.2.1 (0:Int) yt22v.2.2) (fun (yf22:Int×Int×LI×LK)=>VCc85y6_k1 K false yf22.2.1 yf22.2.2.1 yf22.1 yf22.2.2.2)))) (fun ret17v=>(⟨50,[e44a37,s1 17 (.own 17),s1 20 (.own 20),e44a17,e44a12,e44a18,e44a19,e44a20,e44a21,e44a22,e44a23,e44a24,e44a25],[hA 17 3 tI ret17v,hA 20 3 tI [q1.2],e44a5,e44a4 c7 c8,e44a31 c9,e44a7,e44a10 c11,e44a3 c12 c13,e44a29 c10,(37100,[],.lp lr1 c0 (VCc58_s1 30000 30001 30002 30003 30004 30005 c)),e44a9,e44a1 q0 q1,e44a0 c1 c2 c3 c4 c5,e44a14 c6]⟩:St)) rfl rfl rfl (by kernel_rfl) rfl (by kernel_rfl) Try.call54 (by kernel_rfl) (fun e=>by cases e) (fun ret17v=>by kernel_rfl) (link54 havev _ h) (fun ret17v h=>?_)
    refine awd_one (i:=6) (by kernel_rfl) ?_
    obtain ⟨o1,h⟩:=h
    refine dsq (ob:=roomW 8 (ret17v.length+[q1.2].length)) (st':=(⟨50,[e44a37,s1 21 (.own 21),e44a17,e44a12,e44a18,e44a19,e44a20,e44a21,e44a22,e44a23,e44a24,e44a25],[hA 21 3 tI (ret17v++[q1.2]),e44a5,e44a4 c7 c8,e44a31 c9,e44a7,e44a10 c11,e44a3 c12 c13,e44a29 c10,(37100,[],.lp lr1 c0 (VCc58_s1 30000 30001 30002 30003 30004 30005 c)),e44a9,e44a1 q0 q1,e44a0 c1 c2 c3 c4 c5,e44a14 c6]⟩:St)) rfl (by kernel_rfl) o1 ?_
    refine awd_conv [.freeze 21] (st':=(⟨50,[e44a37,s1 21 (.pS (ret17v++[q1.2])),e44a17,e44a12,e44a18,e44a19,e44a20,e44a21,e44a22,e44a23,e44a24,e44a25],[e44a5,e44a4 c7 c8,e44a31 c9,e44a7,e44a10 c11,e44a3 c12 c13,e44a29 c10,(37100,[],.lp lr1 c0 (VCc58_s1 30000 30001 30002 30003 30004 30005 c)),e44a9,e44a1 q0 q1,e44a0 c1 c2 c3 c4 c5,e44a14 c6]⟩:St)) (by kernel_rfl) rfl ?_
    obtain ⟨hk,h⟩:=h
    refine awd_lpz (r:=37100) (x0:=lr1) (k:=c0) (sl:=VCc58_s1 30000 30001 30002 30003 30004 30005 c) hk (by kernel_rfl) (st':=(⟨50,[e44a37,s1 21 (.pS (ret17v++[q1.2])),e44a17,e44a12,e44a18,e44a19,e44a20,e44a21,e44a22,e44a23,e44a24,e44a25],[e44a5,e44a4 c7 c8,e44a31 c9,e44a7,e44a10 c11,e44a3 c12 c13,e44a29 c10,(37100,[],.lp lr1 (0:Int) (VCc58_s1 30000 30001 30002 30003 30004 30005 c)),e44a9,e44a1 q0 q1,e44a0 c1 c2 c3 c4 c5,e44a14 c6]⟩:St)) (by kernel_rfl) ?_
    refine awd_one (i:=7) (by kernel_rfl) ?_
    refine dycq (d:=22) e44an2 (fun yt22v=>(⟨50,[sB 22 true,e44a17,e44a12,e44a18,e44a19,e44a20,e44a21,e44a22,e44a23,e44a24,e44a25],[e44a5,e44a4 c7 c8,hB 30002 [.pI yt22v.1],e44a7,e44a10 c11,e44a3 c12 c13,hA 30006 3 tI yt22v.2.1,(37100,[],.lp lr1 (0:Int) (VCc58_s1 30000 30001 30002 30003 30004 30005 c)),e44a9,e44a1 q0 q1,e44a0 c1 c2 c3 c4 c5,e44a36 yt22v]⟩:St)) (fun yf22=>(⟨50,[sB 22 false,e44a17,e44a12,e44a18,e44a19,e44a20,e44a21,e44a22,e44a23,e44a24,e44a25],[e44a5,e44a4 c7 c8,hB 30002 [.pI yf22.2.1],e44a7,e44a10 c11,e44a3 c12 c13,hA 30006 3 tI yf22.2.2.1,(37100,[],.lp lr1 yf22.1 (VCc58_s1 30000 30001 30002 30003 30004 30005 c)),e44a9,e44a1 q0 q1,e44a0 c1 c2 c3 c4 c5,e44a35 yf22]⟩:St)) rfl (by kernel_rfl) (by kernel_rfl) (fun _=>by kernel_rfl) (fun _=>by kernel_rfl) (hY (ret17v++[q1.2]) c9 c10 c6 _ _ h) (fun yt22v h=>?_) (fun yf22 h=>?_)
    ·refine drq (by kernel_rfl) [8] (ob:=(Ts 1 True)) (done':=[8,7,6,2,5,4,3,1,0]) (st':=(⟨50,[sB 6 true,e44a17,e44a12,e44a18,e44a19,e44a20,e44a21,e44a22,e44a23,e44a24,e44a25],[e44a5,e44a4 c7 c8,hB 30002 [.pI yt22v.1],e44a7,e44a10 c11,e44a3 c12 c13,hA 30006 3 tI yt22v.2.1,(37100,[],.lp lr1 (0:Int) (VCc58_s1 30000 30001 30002 30003 30004 30005 c)),e44a9,e44a1 q0 q1,e44a0 c1 c2 c3 c4 c5,e44a36 yt22v]⟩:St)) (by kernel_rfl) (tsI 1 trivial) ?_
     refine awd_done (by kernel_rfl) ?_
     exact rest1 (true,yt22v.1,yt22v.2.1,(0:Int),yt22v.2.2) h
    ·refine drq (by kernel_rfl) [8] (ob:=(Ts 1 True)) (done':=[8,7,6,2,5,4,3,1,0]) (st':=(⟨50,[sB 6 false,e44a17,e44a12,e44a18,e44a19,e44a20,e44a21,e44a22,e44a23,e44a24,e44a25],[e44a5,e44a4 c7 c8,hB 30002 [.pI yf22.2.1],e44a7,e44a10 c11,e44a3 c12 c13,hA 30006 3 tI yf22.2.2.1,(37100,[],.lp lr1 yf22.1 (VCc58_s1 30000 30001 30002 30003 30004 30005 c)),e44a9,e44a1 q0 q1,e44a0 c1 c2 c3 c4 c5,e44a35 yf22]⟩:St)) (by kernel_rfl) (tsI 1 trivial) ?_
     refine awd_done (by kernel_rfl) ?_
     exact rest1 (false,yf22.2.1,yf22.2.2.1,yf22.1,yf22.2.2.2) h
 ·have h:=h.2 hb
  refine aw_skip ?_
  refine thenQ_n ?_
  refine srn 3 ⟨50,[e44a16 havev,e44a6 q1,e44a28,sI 7 q1.1,e44a17,e44a12,e44a18,e44a19,e44a20,e44a21,e44a22,e44a23,e44a24,e44a25],[e44a5,e44a4 c7 c8,e44a31 c9,e44a7,e44a10 c11,e44a3 c12 c13,e44a29 c10,(37100,[],.lp lr1 c0 (VCc58_s1 30000 30001 30002 30003 30004 30005 c)),e44a9,e44a1 q0 q1,e44a0 c1 c2 c3 c4 c5,e44a14 c6]⟩ (by kernel_rfl) rfl ?_
  refine aw_seq ?_
  refine sr ?_
  refine rqT 3 ⟨50,[e44a16 havev,e44a6 q1,e44a28,sI 7 q1.1,sI 8 (havev.length:Int),e44a17,e44a12,e44a18,e44a19,e44a20,e44a21,e44a22,e44a23,e44a24,e44a25],[e44a5,e44a4 c7 c8,e44a31 c9,e44a7,e44a10 c11,e44a3 c12 c13,e44a29 c10,(37100,[],.lp lr1 c0 (VCc58_s1 30000 30001 30002 30003 30004 30005 c)),e44a9,e44a1 q0 q1,e44a0 c1 c2 c3 c4 c5,e44a14 c6]⟩ (by kernel_rfl) ?_
  refine nsr ?_
  refine rqT 2 ⟨50,[e44a16 havev,e44a6 q1,e44a28,sI 7 q1.1,sI 8 (havev.length:Int),sB 28 (decide ((0:Int)<(havev.length:Int))),e44a17,e44a12,e44a18,e44a19,e44a20,e44a21,e44a22,e44a23,e44a24,e44a25],[e44a5,e44a4 c7 c8,e44a31 c9,e44a7,e44a10 c11,e44a3 c12 c13,e44a29 c10,(37100,[],.lp lr1 c0 (VCc58_s1 30000 30001 30002 30003 30004 30005 c)),e44a9,e44a1 q0 q1,e44a0 c1 c2 c3 c4 c5,e44a14 c6]⟩ (by kernel_rfl) ?_
  refine nn ?_
  refine withJoin (σ:=Int) (fun s=>(⟨50,[e44a16 havev,e44a6 q1,e44a28,sI 7 s,e44a17,e44a12,e44a18,e44a19,e44a20,e44a21,e44a22,e44a23,e44a24,e44a25],[e44a5,e44a4 c7 c8,e44a31 c9,e44a7,e44a10 c11,e44a3 c12 c13,e44a29 c10,(37100,[],.lp lr1 c0 (VCc58_s1 30000 30001 30002 30003 30004 30005 c)),e44a9,e44a1 q0 q1,e44a0 c1 c2 c3 c4 c5,e44a14 c6]⟩:St)) (fun s=>VCc85y6_k2 q1 R havev c0 c6 c9 c10 K s) (fun fromv h=>?_) (fun rest4=>?_)
  ·have h:VCc85y6_k2 q1 R havev c0 c6 c9 c10 K fromv:=h
   unfold VCc85y6_k2 at h
   refine thenQ_n ?_
   refine aw_seq ?_
   refine sr ?_
   obtain ⟨o1,h⟩:=h
   refine rq 3 (ob:=(Ts 1 (InR (fromv+(1:Int))∧Ts 1 True))) (st':=(⟨50,[e44a16 havev,e44a6 q1,e44a28,sI 9 (fromv+(1:Int)),e44a17,e44a12,e44a18,e44a19,e44a20,e44a21,e44a22,e44a23,e44a24,e44a25],[e44a5,e44a4 c7 c8,e44a31 c9,e44a7,e44a10 c11,e44a3 c12 c13,e44a29 c10,(37100,[],.lp lr1 c0 (VCc58_s1 30000 30001 30002 30003 30004 30005 c)),e44a9,e44a1 q0 q1,e44a0 c1 c2 c3 c4 c5,e44a14 c6]⟩:St)) (by kernel_rfl) (tsI 1 ⟨o1,tsI 1 trivial⟩) ?_
   refine nn ?_
   refine withJoin (σ:=Int×LI×Int×LK) (fun s=>(⟨50,[e44a17,e44a12,e44a18,e44a19,e44a20,e44a21,e44a22,e44a23,e44a24,e44a25],[e44a5,e44a4 c7 c8,hB 30002 [.pI s.1],e44a7,e44a10 c11,e44a3 c12 c13,hA 30006 3 tI s.2.1,(37100,[],.lp lr1 s.2.2.1 (VCc58_s1 30000 30001 30002 30003 30004 30005 c)),e44a9,e44a1 q0 q1,e44a0 c1 c2 c3 c4 c5,(70001,[],.dict (.pr tI t3) tI s.2.2.2)]⟩:St)) (fun s=>VCc85y6_k3 K s.1 s.2.1 s.2.2.1 s.2.2.2) (fun s h=>?_) (fun rest2=>?_)
   ·obtain ⟨l30002,l30006,l37100,l70001⟩:=s
    have h:VCc85y6_k3 K l30002 l30006 l37100 l70001:=h
    unfold VCc85y6_k3 at h
    refine thenQ_n ?_
    refine srn 1 ⟨50,[sB 6 true,e44a17,e44a12,e44a18,e44a19,e44a20,e44a21,e44a22,e44a23,e44a24,e44a25],[e44a5,e44a4 c7 c8,e44a26 l30002,e44a7,e44a10 c11,e44a3 c12 c13,e44a13 l30006,(37100,[],.lp lr1 l37100 (VCc58_s1 30000 30001 30002 30003 30004 30005 c)),e44a9,e44a1 q0 q1,e44a0 c1 c2 c3 c4 c5,e44a8 l70001]⟩ (by kernel_rfl) rfl ?_
    refine cpr (st':=(⟨50,[sB 6 true,e44a17,e44a12,e44a18,e44a19,e44a20,e44a21,e44a22,e44a23,e44a24,e44a25],[e44a9,(37100,[],.lp lr1 l37100 (VCc58_s1 30000 30001 30002 30003 30004 30005 c)),e44a5,e44a0 c1 c2 c3 c4 c5,e44a8 l70001,e44a4 c7 c8,e44a26 l30002,e44a7,e44a13 l30006,e44a10 c11,e44a3 c12 c13,e44a1 q0 q1]⟩:St)) (by kernel_rfl) ?_
    refine aw_ret ?_
    exact lret_r (σ:=Bool×Int×LK×Int×LI) (A:=fun y=>.v (.c (.pB y.1))) (H:=fun y=>[e44a9,(37100,[],.lp lr1 y.2.1 (VCc58_s1 30000 30001 30002 30003 30004 30005 c)),e44a5,e44a0 c1 c2 c3 c4 c5,(70001,[],.dict (.pr tI t3) tI y.2.2.1),e44a4 c7 c8,hB 30002 [.pI y.2.2.2.1],e44a7,hA 30006 3 tI y.2.2.2.2,e44a10 c11,e44a3 c12 c13,e44a1 q0 q1]) (ob:=True) (true,l37100,l70001,l30002,l30006) (by kernel_rfl) trivial rfl (by kernel_rfl) (by kernel_rfl) (by kernel_rfl) h
   ·refine aw_block ?_
    refine aw_loop (σ:=Int×Int×LI×Int×LK) (fun s=>(⟨50,[e44a16 havev,e44a6 q1,e44a28,sI 9 s.1,e44a17,e44a12,e44a18,e44a19,e44a20,e44a21,e44a22,e44a23,e44a24,e44a25],[e44a5,e44a4 c7 c8,hB 30002 [.pI s.2.1],e44a7,e44a10 c11,e44a3 c12 c13,hA 30006 3 tI s.2.2.1,(37100,[],.lp lr1 s.2.2.2.1 (VCc58_s1 30000 30001 30002 30003 30004 30005 c)),e44a9,e44a1 q0 q1,e44a0 c1 c2 c3 c4 c5,(70001,[],.dict (.pr tI t3) tI s.2.2.2.2)]⟩:St)) (fun s X=>VCc85y6_l1 q1 R havev K s.1 s.2.1 s.2.2.1 s.2.2.2.1 s.2.2.2.2 X) (s0:=((fromv+(1:Int)),c9,c10,c0,c6)) (fun s X1 h=>?_) h
    obtain ⟨endv,l30002,l30006,l37100,l70001⟩:=s
    have h:VCc85y6_l1 q1 R havev K endv l30002 l30006 l37100 l70001 X1:=h
    unfold VCc85y6_l1 at h
    refine aw_seq ?_
    refine srn 4 ⟨50,[e44a16 havev,e44a6 q1,e44a28,sI 9 endv,sB 39 (decide (endv<q1.2)),e44a17,e44a12,e44a18,e44a19,e44a20,e44a21,e44a22,e44a23,e44a24,e44a25],[e44a5,e44a4 c7 c8,e44a26 l30002,e44a7,e44a10 c11,e44a3 c12 c13,e44a13 l30006,(37100,[],.lp lr1 l37100 (VCc58_s1 30000 30001 30002 30003 30004 30005 c)),e44a9,e44a1 q0 q1,e44a0 c1 c2 c3 c4 c5,e44a8 l70001]⟩ (by kernel_rfl) rfl ?_
    refine aw_cond (b:=(decide (endv<q1.2))) (by kernel_rfl) (fun hb=>?_) (fun hb=>?_)
    ·have h:=h.1 hb
     refine aw_skip ?_
     refine thenQ_n ?_
     refine aw_seq ?_
     refine aw_block ?_
     refine aw_seq ?_
     refine withJoin (σ:=Bool×Int×LI×Int×LK) (fun s=>(⟨50,[e44a16 havev,e44a6 q1,e44a28,sI 9 endv,sB 49 s.1,e44a17,e44a12,e44a18,e44a19,e44a20,e44a21,e44a22,e44a23,e44a24,e44a25],[e44a5,e44a4 c7 c8,hB 30002 [.pI s.2.1],e44a7,e44a10 c11,e44a3 c12 c13,hA 30006 3 tI s.2.2.1,(37100,[],.lp lr1 s.2.2.2.1 (VCc58_s1 30000 30001 30002 30003 30004 30005 c)),e44a9,e44a1 q0 q1,e44a0 c1 c2 c3 c4 c5,(70001,[],.dict (.pr tI t3) tI s.2.2.2.2)]⟩:St)) (fun s=>VCc85y6_k4 K endv X1 s.1 s.2.1 s.2.2.1 s.2.2.2.1 s.2.2.2.2) (fun s h=>?_) (fun rest3=>?_)
     ·obtain ⟨v49,l300022,l300062,l371002,l700012⟩:=s
      have h:VCc85y6_k4 K endv X1 v49 l300022 l300062 l371002 l700012:=h
      unfold VCc85y6_k4 at h
      refine thenQ_n ?_
      refine aw_cond (b:=v49) (by kernel_rfl) (fun hb=>?_) (fun hb=>?_)
      ·have h:=h.1 hb
       refine srn 1 ⟨50,[sB 6 false,e44a17,e44a12,e44a18,e44a19,e44a20,e44a21,e44a22,e44a23,e44a24,e44a25],[e44a5,e44a4 c7 c8,hB 30002 [.pI l300022],e44a7,e44a10 c11,e44a3 c12 c13,hA 30006 3 tI l300062,(37100,[],.lp lr1 l371002 (VCc58_s1 30000 30001 30002 30003 30004 30005 c)),e44a9,e44a1 q0 q1,e44a0 c1 c2 c3 c4 c5,e44a38 l700012]⟩ (by kernel_rfl) rfl ?_
       refine cpr (st':=(⟨50,[sB 6 false,e44a17,e44a12,e44a18,e44a19,e44a20,e44a21,e44a22,e44a23,e44a24,e44a25],[e44a9,(37100,[],.lp lr1 l371002 (VCc58_s1 30000 30001 30002 30003 30004 30005 c)),e44a5,e44a0 c1 c2 c3 c4 c5,e44a38 l700012,e44a4 c7 c8,hB 30002 [.pI l300022],e44a7,hA 30006 3 tI l300062,e44a10 c11,e44a3 c12 c13,e44a1 q0 q1]⟩:St)) (by kernel_rfl) ?_
       refine aw_ret ?_
       refine blockQ_r ?_
       refine thenQ_r ?_
       refine thenQ_r ?_
       refine blockQ_r ?_
       refine thenQ_r ?_
       exact lret_r (σ:=Bool×Int×LK×Int×LI) (A:=fun y=>.v (.c (.pB y.1))) (H:=fun y=>[e44a9,(37100,[],.lp lr1 y.2.1 (VCc58_s1 30000 30001 30002 30003 30004 30005 c)),e44a5,e44a0 c1 c2 c3 c4 c5,(70001,[],.dict (.pr tI t3) tI y.2.2.1),e44a4 c7 c8,hB 30002 [.pI y.2.2.2.1],e44a7,hA 30006 3 tI y.2.2.2.2,e44a10 c11,e44a3 c12 c13,e44a1 q0 q1]) (ob:=True) (false,l371002,l700012,l300022,l300062) (by kernel_rfl) trivial rfl (by kernel_rfl) (by kernel_rfl) (by kernel_rfl) h
      ·have h:=h.2 hb
       refine aw_skip ?_
       refine blockQ_n ?_
       refine thenQ_n ?_
       refine aw_region ?_
       obtain ⟨o1,h⟩:=h
       refine rq 3 (ob:=(Ts 1 (InR (endv+(1:Int))∧Ts 1 True))) (st':=(⟨50,[e44a16 havev,e44a6 q1,e44a28,sI 9 (endv+(1:Int)),e44a17,e44a12,e44a18,e44a19,e44a20,e44a21,e44a22,e44a23,e44a24,e44a25],[e44a5,e44a4 c7 c8,hB 30002 [.pI l300022],e44a7,e44a10 c11,e44a3 c12 c13,hA 30006 3 tI l300062,(37100,[],.lp lr1 l371002 (VCc58_s1 30000 30001 30002 30003 30004 30005 c)),e44a9,e44a1 q0 q1,e44a0 c1 c2 c3 c4 c5,e44a38 l700012]⟩:St)) (by kernel_rfl) (tsI 1 ⟨o1,tsI 1 trivial⟩) ?_
       refine awl_nil ?_
       exact thenQ_n ⟨((endv+(1:Int)),l300022,l300062,l371002,l700012),rfl,h⟩
     ·refine awd_begin e44an4 (by kernel_rfl) ?_
      refine drq (by kernel_rfl) [1,3] (ob:=(Ts 2 True)) (done':=[3,1]) (st':=(⟨50,[e44a16 havev,e44a6 q1,e44a28,sI 9 endv,s1 43 (.pS havev),sI 45 endv,e44a17,e44a12,e44a18,e44a19,e44a20,e44a21,e44a22,e44a23,e44a24,e44a25],[e44a5,e44a4 c7 c8,e44a26 l30002,e44a7,e44a10 c11,e44a3 c12 c13,e44a13 l30006,(37100,[],.lp lr1 l37100 (VCc58_s1 30000 30001 30002 30003 30004 30005 c)),e44a9,e44a1 q0 q1,e44a0 c1 c2 c3 c4 c5,e44a8 l70001]⟩:St)) (by kernel_rfl) (tsI 2 trivial) ?_
      refine awd_three (i:=0) (j:=2) (k:=4) (by kernel_rfl) ?_ ?_ ?_
      ·have h:=h
       refine dsq (ob:=True) (st':=(⟨50,[e44a16 havev,e44a6 q1,e44a28,sI 9 endv,e44a2 q0 q1,s1 43 (.pS havev),sI 45 endv,e44a17,e44a12,e44a18,e44a19,e44a20,e44a21,e44a22,e44a23,e44a24,e44a25],[e44a5,e44a4 c7 c8,e44a26 l30002,e44a7,e44a10 c11,e44a3 c12 c13,e44a13 l30006,(37100,[],.lp lr1 l37100 (VCc58_s1 30000 30001 30002 30003 30004 30005 c)),e44a9,e44a1 q0 q1,e44a0 c1 c2 c3 c4 c5,e44a8 l70001]⟩:St)) rfl (by kernel_rfl) trivial ?_
       refine awd_two (i:=2) (j:=4) (by kernel_rfl) ?_ ?_
       ·have h:=h
        refine adop_callOk (e:=3) (t:=tI) (l:=[toV1 (.sl tI) havev]) (cl:=[]) false [.d (.sl tI)] [0,3,4,9,42,44,45,50,51,52,53,54,55,56,57,58,59] e44an4 (fun (ret44v:LI)=>(roomW 8 (ret44v.length+[endv].length)∧R (ret44v++[endv]) l37100 l70001 l30002 l30006 (fun (ret48v:Bool×Int×LK×Int×LI)=>VCc85y6_k4 K endv X1 (!ret48v.1) ret48v.2.2.2.1 ret48v.2.2.2.2 ret48v.2.1 ret48v.2.2.1))) (fun ret44v=>(⟨50,[e44a16 havev,e44a6 q1,e44a28,sI 9 endv,e44a2 q0 q1,e44a39,sI 45 endv,e44a17,e44a12,e44a18,e44a19,e44a20,e44a21,e44a22,e44a23,e44a24,e44a25],[e44a33 ret44v,e44a5,e44a4 c7 c8,e44a26 l30002,e44a7,e44a10 c11,e44a3 c12 c13,e44a13 l30006,(37100,[],.lp lr1 l37100 (VCc58_s1 30000 30001 30002 30003 30004 30005 c)),e44a9,e44a1 q0 q1,e44a0 c1 c2 c3 c4 c5,e44a8 l70001]⟩:St)) rfl rfl rfl (by kernel_rfl) rfl (by kernel_rfl) Try.call54 (by kernel_rfl) (fun e=>by cases e) (fun ret44v=>by kernel_rfl) (link54 havev _ h) (fun ret44v h=>?_)
        refine awd_one (i:=4) (by kernel_rfl) ?_
        refine dsq (ob:=True) (st':=(⟨50,[e44a16 havev,e44a6 q1,e44a28,sI 9 endv,e44a2 q0 q1,e44a39,e44a40,e44a17,e44a12,e44a18,e44a19,e44a20,e44a21,e44a22,e44a23,e44a24,e44a25],[e44a33 ret44v,e44a34 endv,e44a5,e44a4 c7 c8,e44a26 l30002,e44a7,e44a10 c11,e44a3 c12 c13,e44a13 l30006,(37100,[],.lp lr1 l37100 (VCc58_s1 30000 30001 30002 30003 30004 30005 c)),e44a9,e44a1 q0 q1,e44a0 c1 c2 c3 c4 c5,e44a8 l70001]⟩:St)) rfl (by kernel_rfl) trivial ?_
        refine awd_one (i:=5) (by kernel_rfl) ?_
        obtain ⟨o1,h⟩:=h
        refine dsq (ob:=roomW 8 (ret44v.length+[endv].length)) (st':=(⟨50,[e44a16 havev,e44a6 q1,e44a28,sI 9 endv,e44a2 q0 q1,e44a42,e44a17,e44a12,e44a18,e44a19,e44a20,e44a21,e44a22,e44a23,e44a24,e44a25],[e44a32 ret44v endv,e44a5,e44a4 c7 c8,e44a26 l30002,e44a7,e44a10 c11,e44a3 c12 c13,e44a13 l30006,(37100,[],.lp lr1 l37100 (VCc58_s1 30000 30001 30002 30003 30004 30005 c)),e44a9,e44a1 q0 q1,e44a0 c1 c2 c3 c4 c5,e44a8 l70001]⟩:St)) rfl (by kernel_rfl) o1 ?_
        refine awd_conv [.freeze 47] (st':=(⟨50,[e44a16 havev,e44a6 q1,e44a28,sI 9 endv,e44a2 q0 q1,e44a30 ret44v endv,e44a17,e44a12,e44a18,e44a19,e44a20,e44a21,e44a22,e44a23,e44a24,e44a25],[e44a5,e44a4 c7 c8,e44a26 l30002,e44a7,e44a10 c11,e44a3 c12 c13,e44a13 l30006,(37100,[],.lp lr1 l37100 (VCc58_s1 30000 30001 30002 30003 30004 30005 c)),e44a9,e44a1 q0 q1,e44a0 c1 c2 c3 c4 c5,e44a8 l70001]⟩:St)) (by kernel_rfl) rfl ?_
        refine awd_one (i:=6) (by kernel_rfl) ?_
        refine adop_lcall (σ:=Bool×Int×LK×Int×LI) e44an0 e44an1 [.c (.pS (ret44v++[endv]))] [.c (.ad tI q0),.c (.ptr 41200 0),.c (.ad (.pr tI tI) q1),.c (.ptr 41211 0)] (fun ret48v=>.v (.c (.pB ret48v.1))) (fun ret48v=>[e44a9,(37100,[],.lp lr1 ret48v.2.1 (VCc58_s1 30000 30001 30002 30003 30004 30005 c)),e44a5,e44a0 c1 c2 c3 c4 c5,e44a11 ret48v,e44a4 c7 c8,e44a27 ret48v,e44a7,e44a15 ret48v,e44a10 c11,e44a3 c12 c13,e44a1 q0 q1]) (_) [e44a9,(37100,[],.lp lr1 l37100 (VCc58_s1 30000 30001 30002 30003 30004 30005 c)),e44a5,e44a0 c1 c2 c3 c4 c5,e44a8 l70001,e44a4 c7 c8,e44a26 l30002,e44a7,e44a13 l30006,e44a10 c11,e44a3 c12 c13,e44a1 q0 q1] (fun ret48v=>(⟨50,[sB 48 ret48v.1,e44a16 havev,e44a6 q1,e44a28,sI 9 endv,e44a2 q0 q1,e44a30 ret44v endv,e44a17,e44a12,e44a18,e44a19,e44a20,e44a21,e44a22,e44a23,e44a24,e44a25],[e44a9,(37100,[],.lp lr1 ret48v.2.1 (VCc58_s1 30000 30001 30002 30003 30004 30005 c)),e44a5,e44a0 c1 c2 c3 c4 c5,e44a11 ret48v,e44a4 c7 c8,e44a27 ret48v,e44a7,e44a15 ret48v,e44a10 c11,e44a3 c12 c13,e44a1 q0 q1]⟩:St)) rfl (by kernel_rfl) rfl rfl (by kernel_rfl) rfl (by kernel_rfl) Try.call85 (by kernel_rfl) (by kernel_rfl) (by kernel_rfl) (fun _ _=>rfl) (fun _=>by kernel_rfl) (hR (ret44v++[endv]) l37100 l70001 l30002 l30006 _ h) (fun ret48v h=>?_)
        refine dpr (st':=(⟨50,[e44a16 havev,e44a6 q1,e44a28,sI 9 endv,sB 48 ret48v.1,e44a17,e44a12,e44a18,e44a19,e44a20,e44a21,e44a22,e44a23,e44a24,e44a25],[e44a5,e44a4 c7 c8,e44a27 ret48v,e44a7,e44a10 c11,e44a3 c12 c13,e44a15 ret48v,(37100,[],.lp lr1 ret48v.2.1 (VCc58_s1 30000 30001 30002 30003 30004 30005 c)),e44a9,e44a1 q0 q1,e44a0 c1 c2 c3 c4 c5,e44a11 ret48v]⟩:St)) (by kernel_rfl) ?_
        refine drq (by kernel_rfl) [7] (ob:=(Ts 1 True)) (done':=[7,6,5,4,2,0,3,1]) (st':=(⟨50,[e44a16 havev,e44a6 q1,e44a28,sI 9 endv,sB 49 (!ret48v.1),e44a17,e44a12,e44a18,e44a19,e44a20,e44a21,e44a22,e44a23,e44a24,e44a25],[e44a5,e44a4 c7 c8,e44a27 ret48v,e44a7,e44a10 c11,e44a3 c12 c13,e44a15 ret48v,(37100,[],.lp lr1 ret48v.2.1 (VCc58_s1 30000 30001 30002 30003 30004 30005 c)),e44a9,e44a1 q0 q1,e44a0 c1 c2 c3 c4 c5,e44a11 ret48v]⟩:St)) (by kernel_rfl) (tsI 1 trivial) ?_
        refine awd_done (by kernel_rfl) ?_
        exact rest3 ((!ret48v.1),ret48v.2.2.2.1,ret48v.2.2.2.2,ret48v.2.1,ret48v.2.2.1) h
       ·have h:=h
        refine dsq (ob:=True) (st':=(⟨50,[e44a16 havev,e44a6 q1,e44a28,sI 9 endv,e44a2 q0 q1,s1 43 (.pS havev),e44a40,e44a17,e44a12,e44a18,e44a19,e44a20,e44a21,e44a22,e44a23,e44a24,e44a25],[e44a34 endv,e44a5,e44a4 c7 c8,e44a26 l30002,e44a7,e44a10 c11,e44a3 c12 c13,e44a13 l30006,(37100,[],.lp lr1 l37100 (VCc58_s1 30000 30001 30002 30003 30004 30005 c)),e44a9,e44a1 q0 q1,e44a0 c1 c2 c3 c4 c5,e44a8 l70001]⟩:St)) rfl (by kernel_rfl) trivial ?_
        refine awd_one (i:=2) (by kernel_rfl) ?_
        refine adop_callOk (e:=3) (t:=tI) (l:=[toV1 (.sl tI) havev]) (cl:=[]) false [.d (.sl tI)] e44an6 e44an3 (fun (ret44v:LI)=>(roomW 8 (ret44v.length+[endv].length)∧R (ret44v++[endv]) l37100 l70001 l30002 l30006 (fun (ret48v:Bool×Int×LK×Int×LI)=>VCc85y6_k4 K endv X1 (!ret48v.1) ret48v.2.2.2.1 ret48v.2.2.2.2 ret48v.2.1 ret48v.2.2.1))) (fun ret44v=>(⟨50,[e44a16 havev,e44a6 q1,e44a28,sI 9 endv,e44a2 q0 q1,e44a39,e44a40,e44a17,e44a12,e44a18,e44a19,e44a20,e44a21,e44a22,e44a23,e44a24,e44a25],[e44a33 ret44v,e44a34 endv,e44a5,e44a4 c7 c8,e44a26 l30002,e44a7,e44a10 c11,e44a3 c12 c13,e44a13 l30006,(37100,[],.lp lr1 l37100 (VCc58_s1 30000 30001 30002 30003 30004 30005 c)),e44a9,e44a1 q0 q1,e44a0 c1 c2 c3 c4 c5,e44a8 l70001]⟩:St)) rfl rfl rfl (by kernel_rfl) rfl (by kernel_rfl) Try.call54 (by kernel_rfl) (fun e=>by cases e) (fun ret44v=>by kernel_rfl) (link54 havev _ h) (fun ret44v h=>?_)
        refine awd_one (i:=5) (by kernel_rfl) ?_
        obtain ⟨o1,h⟩:=h
        refine dsq (ob:=roomW 8 (ret44v.length+[endv].length)) (st':=(⟨50,[e44a16 havev,e44a6 q1,e44a28,sI 9 endv,e44a2 q0 q1,e44a42,e44a17,e44a12,e44a18,e44a19,e44a20,e44a21,e44a22,e44a23,e44a24,e44a25],[e44a32 ret44v endv,e44a5,e44a4 c7 c8,e44a26 l30002,e44a7,e44a10 c11,e44a3 c12 c13,e44a13 l30006,(37100,[],.lp lr1 l37100 (VCc58_s1 30000 30001 30002 30003 30004 30005 c)),e44a9,e44a1 q0 q1,e44a0 c1 c2 c3 c4 c5,e44a8 l70001]⟩:St)) rfl (by kernel_rfl) o1 ?_
        refine awd_conv [.freeze 47] (st':=(⟨50,[e44a16 havev,e44a6 q1,e44a28,sI 9 endv,e44a2 q0 q1,e44a30 ret44v endv,e44a17,e44a12,e44a18,e44a19,e44a20,e44a21,e44a22,e44a23,e44a24,e44a25],[e44a5,e44a4 c7 c8,e44a26 l30002,e44a7,e44a10 c11,e44a3 c12 c13,e44a13 l30006,(37100,[],.lp lr1 l37100 (VCc58_s1 30000 30001 30002 30003 30004 30005 c)),e44a9,e44a1 q0 q1,e44a0 c1 c2 c3 c4 c5,e44a8 l70001]⟩:St)) (by kernel_rfl) rfl ?_
        refine awd_one (i:=6) (by kernel_rfl) ?_
        refine adop_lcall (σ:=Bool×Int×LK×Int×LI) e44an0 e44an1 [.c (.pS (ret44v++[endv]))] [.c (.ad tI q0),.c (.ptr 41200 0),.c (.ad (.pr tI tI) q1),.c (.ptr 41211 0)] (fun ret48v=>.v (.c (.pB ret48v.1))) (fun ret48v=>[e44a9,(37100,[],.lp lr1 ret48v.2.1 (VCc58_s1 30000 30001 30002 30003 30004 30005 c)),e44a5,e44a0 c1 c2 c3 c4 c5,e44a11 ret48v,e44a4 c7 c8,e44a27 ret48v,e44a7,e44a15 ret48v,e44a10 c11,e44a3 c12 c13,e44a1 q0 q1]) (_) [e44a9,(37100,[],.lp lr1 l37100 (VCc58_s1 30000 30001 30002 30003 30004 30005 c)),e44a5,e44a0 c1 c2 c3 c4 c5,e44a8 l70001,e44a4 c7 c8,e44a26 l30002,e44a7,e44a13 l30006,e44a10 c11,e44a3 c12 c13,e44a1 q0 q1] (fun ret48v=>(⟨50,[sB 48 ret48v.1,e44a16 havev,e44a6 q1,e44a28,sI 9 endv,e44a2 q0 q1,e44a30 ret44v endv,e44a17,e44a12,e44a18,e44a19,e44a20,e44a21,e44a22,e44a23,e44a24,e44a25],[e44a9,(37100,[],.lp lr1 ret48v.2.1 (VCc58_s1 30000 30001 30002 30003 30004 30005 c)),e44a5,e44a0 c1 c2 c3 c4 c5,e44a11 ret48v,e44a4 c7 c8,e44a27 ret48v,e44a7,e44a15 ret48v,e44a10 c11,e44a3 c12 c13,e44a1 q0 q1]⟩:St)) rfl (by kernel_rfl) rfl rfl (by kernel_rfl) rfl (by kernel_rfl) Try.call85 (by kernel_rfl) (by kernel_rfl) (by kernel_rfl) (fun _ _=>rfl) (fun _=>by kernel_rfl) (hR (ret44v++[endv]) l37100 l70001 l30002 l30006 _ h) (fun ret48v h=>?_)
        refine dpr (st':=(⟨50,[e44a16 havev,e44a6 q1,e44a28,sI 9 endv,sB 48 ret48v.1,e44a17,e44a12,e44a18,e44a19,e44a20,e44a21,e44a22,e44a23,e44a24,e44a25],[e44a5,e44a4 c7 c8,e44a27 ret48v,e44a7,e44a10 c11,e44a3 c12 c13,e44a15 ret48v,(37100,[],.lp lr1 ret48v.2.1 (VCc58_s1 30000 30001 30002 30003 30004 30005 c)),e44a9,e44a1 q0 q1,e44a0 c1 c2 c3 c4 c5,e44a11 ret48v]⟩:St)) (by kernel_rfl) ?_
        refine drq (by kernel_rfl) [7] (ob:=(Ts 1 True)) (done':=[7,6,5,2,4,0,3,1]) (st':=(⟨50,[e44a16 havev,e44a6 q1,e44a28,sI 9 endv,sB 49 (!ret48v.1),e44a17,e44a12,e44a18,e44a19,e44a20,e44a21,e44a22,e44a23,e44a24,e44a25],[e44a5,e44a4 c7 c8,e44a27 ret48v,e44a7,e44a10 c11,e44a3 c12 c13,e44a15 ret48v,(37100,[],.lp lr1 ret48v.2.1 (VCc58_s1 30000 30001 30002 30003 30004 30005 c)),e44a9,e44a1 q0 q1,e44a0 c1 c2 c3 c4 c5,e44a11 ret48v]⟩:St)) (by kernel_rfl) (tsI 1 trivial) ?_
        refine awd_done (by kernel_rfl) ?_
        exact rest3 ((!ret48v.1),ret48v.2.2.2.1,ret48v.2.2.2.2,ret48v.2.1,ret48v.2.2.1) h
      ·have h:=h
       refine adop_callOk (e:=3) (t:=tI) (l:=[toV1 (.sl tI) havev]) (cl:=[]) false [.d (.sl tI)] [0,3,4,9,44,45,50,51,52,53,54,55,56,57,58,59] e44an4 (fun (ret44v:LI)=>(roomW 8 (ret44v.length+[endv].length)∧R (ret44v++[endv]) l37100 l70001 l30002 l30006 (fun (ret48v:Bool×Int×LK×Int×LI)=>VCc85y6_k4 K endv X1 (!ret48v.1) ret48v.2.2.2.1 ret48v.2.2.2.2 ret48v.2.1 ret48v.2.2.1))) (fun ret44v=>(⟨50,[e44a16 havev,e44a6 q1,e44a28,sI 9 endv,e44a39,sI 45 endv,e44a17,e44a12,e44a18,e44a19,e44a20,e44a21,e44a22,e44a23,e44a24,e44a25],[e44a33 ret44v,e44a5,e44a4 c7 c8,e44a26 l30002,e44a7,e44a10 c11,e44a3 c12 c13,e44a13 l30006,(37100,[],.lp lr1 l37100 (VCc58_s1 30000 30001 30002 30003 30004 30005 c)),e44a9,e44a1 q0 q1,e44a0 c1 c2 c3 c4 c5,e44a8 l70001]⟩:St)) rfl rfl rfl (by kernel_rfl) rfl (by kernel_rfl) Try.call54 (by kernel_rfl) (fun e=>by cases e) (fun ret44v=>by kernel_rfl) (link54 havev _ h) (fun ret44v h=>?_)
       refine awd_two (i:=0) (j:=4) (by kernel_rfl) ?_ ?_
       ·have h:=h
        refine dsq (ob:=True) (st':=(⟨50,[e44a16 havev,e44a6 q1,e44a28,sI 9 endv,e44a2 q0 q1,e44a39,sI 45 endv,e44a17,e44a12,e44a18,e44a19,e44a20,e44a21,e44a22,e44a23,e44a24,e44a25],[e44a33 ret44v,e44a5,e44a4 c7 c8,e44a26 l30002,e44a7,e44a10 c11,e44a3 c12 c13,e44a13 l30006,(37100,[],.lp lr1 l37100 (VCc58_s1 30000 30001 30002 30003 30004 30005 c)),e44a9,e44a1 q0 q1,e44a0 c1 c2 c3 c4 c5,e44a8 l70001]⟩:St)) rfl (by kernel_rfl) trivial ?_
        refine awd_one (i:=4) (by kernel_rfl) ?_
        refine dsq (ob:=True) (st':=(⟨50,[e44a16 havev,e44a6 q1,e44a28,sI 9 endv,e44a2 q0 q1,e44a39,e44a40,e44a17,e44a12,e44a18,e44a19,e44a20,e44a21,e44a22,e44a23,e44a24,e44a25],[e44a33 ret44v,e44a34 endv,e44a5,e44a4 c7 c8,e44a26 l30002,e44a7,e44a10 c11,e44a3 c12 c13,e44a13 l30006,(37100,[],.lp lr1 l37100 (VCc58_s1 30000 30001 30002 30003 30004 30005 c)),e44a9,e44a1 q0 q1,e44a0 c1 c2 c3 c4 c5,e44a8 l70001]⟩:St)) rfl (by kernel_rfl) trivial ?_
        refine awd_one (i:=5) (by kernel_rfl) ?_
        obtain ⟨o1,h⟩:=h
        refine dsq (ob:=roomW 8 (ret44v.length+[endv].length)) (st':=(⟨50,[e44a16 havev,e44a6 q1,e44a28,sI 9 endv,e44a2 q0 q1,e44a42,e44a17,e44a12,e44a18,e44a19,e44a20,e44a21,e44a22,e44a23,e44a24,e44a25],[e44a32 ret44v endv,e44a5,e44a4 c7 c8,e44a26 l30002,e44a7,e44a10 c11,e44a3 c12 c13,e44a13 l30006,(37100,[],.lp lr1 l37100 (VCc58_s1 30000 30001 30002 30003 30004 30005 c)),e44a9,e44a1 q0 q1,e44a0 c1 c2 c3 c4 c5,e44a8 l70001]⟩:St)) rfl (by kernel_rfl) o1 ?_
        refine awd_conv [.freeze 47] (st':=(⟨50,[e44a16 havev,e44a6 q1,e44a28,sI 9 endv,e44a2 q0 q1,e44a30 ret44v endv,e44a17,e44a12,e44a18,e44a19,e44a20,e44a21,e44a22,e44a23,e44a24,e44a25],[e44a5,e44a4 c7 c8,e44a26 l30002,e44a7,e44a10 c11,e44a3 c12 c13,e44a13 l30006,(37100,[],.lp lr1 l37100 (VCc58_s1 30000 30001 30002 30003 30004 30005 c)),e44a9,e44a1 q0 q1,e44a0 c1 c2 c3 c4 c5,e44a8 l70001]⟩:St)) (by kernel_rfl) rfl ?_
        refine awd_one (i:=6) (by kernel_rfl) ?_
        refine adop_lcall (σ:=Bool×Int×LK×Int×LI) e44an0 e44an1 [.c (.pS (ret44v++[endv]))] [.c (.ad tI q0),.c (.ptr 41200 0),.c (.ad (.pr tI tI) q1),.c (.ptr 41211 0)] (fun ret48v=>.v (.c (.pB ret48v.1))) (fun ret48v=>[e44a9,(37100,[],.lp lr1 ret48v.2.1 (VCc58_s1 30000 30001 30002 30003 30004 30005 c)),e44a5,e44a0 c1 c2 c3 c4 c5,e44a11 ret48v,e44a4 c7 c8,e44a27 ret48v,e44a7,e44a15 ret48v,e44a10 c11,e44a3 c12 c13,e44a1 q0 q1]) (_) [e44a9,(37100,[],.lp lr1 l37100 (VCc58_s1 30000 30001 30002 30003 30004 30005 c)),e44a5,e44a0 c1 c2 c3 c4 c5,e44a8 l70001,e44a4 c7 c8,e44a26 l30002,e44a7,e44a13 l30006,e44a10 c11,e44a3 c12 c13,e44a1 q0 q1] (fun ret48v=>(⟨50,[sB 48 ret48v.1,e44a16 havev,e44a6 q1,e44a28,sI 9 endv,e44a2 q0 q1,e44a30 ret44v endv,e44a17,e44a12,e44a18,e44a19,e44a20,e44a21,e44a22,e44a23,e44a24,e44a25],[e44a9,(37100,[],.lp lr1 ret48v.2.1 (VCc58_s1 30000 30001 30002 30003 30004 30005 c)),e44a5,e44a0 c1 c2 c3 c4 c5,e44a11 ret48v,e44a4 c7 c8,e44a27 ret48v,e44a7,e44a15 ret48v,e44a10 c11,e44a3 c12 c13,e44a1 q0 q1]⟩:St)) rfl (by kernel_rfl) rfl rfl (by kernel_rfl) rfl (by kernel_rfl) Try.call85 (by kernel_rfl) (by kernel_rfl) (by kernel_rfl) (fun _ _=>rfl) (fun _=>by kernel_rfl) (hR (ret44v++[endv]) l37100 l70001 l30002 l30006 _ h) (fun ret48v h=>?_)
        refine dpr (st':=(⟨50,[e44a16 havev,e44a6 q1,e44a28,sI 9 endv,sB 48 ret48v.1,e44a17,e44a12,e44a18,e44a19,e44a20,e44a21,e44a22,e44a23,e44a24,e44a25],[e44a5,e44a4 c7 c8,e44a27 ret48v,e44a7,e44a10 c11,e44a3 c12 c13,e44a15 ret48v,(37100,[],.lp lr1 ret48v.2.1 (VCc58_s1 30000 30001 30002 30003 30004 30005 c)),e44a9,e44a1 q0 q1,e44a0 c1 c2 c3 c4 c5,e44a11 ret48v]⟩:St)) (by kernel_rfl) ?_
        refine drq (by kernel_rfl) [7] (ob:=(Ts 1 True)) (done':=[7,6,5,4,0,2,3,1]) (st':=(⟨50,[e44a16 havev,e44a6 q1,e44a28,sI 9 endv,sB 49 (!ret48v.1),e44a17,e44a12,e44a18,e44a19,e44a20,e44a21,e44a22,e44a23,e44a24,e44a25],[e44a5,e44a4 c7 c8,e44a27 ret48v,e44a7,e44a10 c11,e44a3 c12 c13,e44a15 ret48v,(37100,[],.lp lr1 ret48v.2.1 (VCc58_s1 30000 30001 30002 30003 30004 30005 c)),e44a9,e44a1 q0 q1,e44a0 c1 c2 c3 c4 c5,e44a11 ret48v]⟩:St)) (by kernel_rfl) (tsI 1 trivial) ?_
        refine awd_done (by kernel_rfl) ?_
        exact rest3 ((!ret48v.1),ret48v.2.2.2.1,ret48v.2.2.2.2,ret48v.2.1,ret48v.2.2.1) h
       ·have h:=h
        refine dsq (ob:=True) (st':=(⟨50,[e44a16 havev,e44a6 q1,e44a28,sI 9 endv,e44a39,e44a40,e44a17,e44a12,e44a18,e44a19,e44a20,e44a21,e44a22,e44a23,e44a24,e44a25],[e44a33 ret44v,e44a34 endv,e44a5,e44a4 c7 c8,e44a26 l30002,e44a7,e44a10 c11,e44a3 c12 c13,e44a13 l30006,(37100,[],.lp lr1 l37100 (VCc58_s1 30000 30001 30002 30003 30004 30005 c)),e44a9,e44a1 q0 q1,e44a0 c1 c2 c3 c4 c5,e44a8 l70001]⟩:St)) rfl (by kernel_rfl) trivial ?_
        refine awd_two (i:=0) (j:=5) (by kernel_rfl) ?_ ?_
        ·have h:=h
         refine dsq (ob:=True) (st':=(⟨50,[e44a16 havev,e44a6 q1,e44a28,sI 9 endv,e44a2 q0 q1,e44a39,e44a40,e44a17,e44a12,e44a18,e44a19,e44a20,e44a21,e44a22,e44a23,e44a24,e44a25],[e44a33 ret44v,e44a34 endv,e44a5,e44a4 c7 c8,e44a26 l30002,e44a7,e44a10 c11,e44a3 c12 c13,e44a13 l30006,(37100,[],.lp lr1 l37100 (VCc58_s1 30000 30001 30002 30003 30004 30005 c)),e44a9,e44a1 q0 q1,e44a0 c1 c2 c3 c4 c5,e44a8 l70001]⟩:St)) rfl (by kernel_rfl) trivial ?_
         refine awd_one (i:=5) (by kernel_rfl) ?_
         obtain ⟨o1,h⟩:=h
         refine dsq (ob:=roomW 8 (ret44v.length+[endv].length)) (st':=(⟨50,[e44a16 havev,e44a6 q1,e44a28,sI 9 endv,e44a2 q0 q1,e44a42,e44a17,e44a12,e44a18,e44a19,e44a20,e44a21,e44a22,e44a23,e44a24,e44a25],[e44a32 ret44v endv,e44a5,e44a4 c7 c8,e44a26 l30002,e44a7,e44a10 c11,e44a3 c12 c13,e44a13 l30006,(37100,[],.lp lr1 l37100 (VCc58_s1 30000 30001 30002 30003 30004 30005 c)),e44a9,e44a1 q0 q1,e44a0 c1 c2 c3 c4 c5,e44a8 l70001]⟩:St)) rfl (by kernel_rfl) o1 ?_
         refine awd_conv [.freeze 47] (st':=(⟨50,[e44a16 havev,e44a6 q1,e44a28,sI 9 endv,e44a2 q0 q1,e44a30 ret44v endv,e44a17,e44a12,e44a18,e44a19,e44a20,e44a21,e44a22,e44a23,e44a24,e44a25],[e44a5,e44a4 c7 c8,e44a26 l30002,e44a7,e44a10 c11,e44a3 c12 c13,e44a13 l30006,(37100,[],.lp lr1 l37100 (VCc58_s1 30000 30001 30002 30003 30004 30005 c)),e44a9,e44a1 q0 q1,e44a0 c1 c2 c3 c4 c5,e44a8 l70001]⟩:St)) (by kernel_rfl) rfl ?_
         refine awd_one (i:=6) (by kernel_rfl) ?_
         refine adop_lcall (σ:=Bool×Int×LK×Int×LI) e44an0 e44an1 [.c (.pS (ret44v++[endv]))] [.c (.ad tI q0),.c (.ptr 41200 0),.c (.ad (.pr tI tI) q1),.c (.ptr 41211 0)] (fun ret48v=>.v (.c (.pB ret48v.1))) (fun ret48v=>[e44a9,(37100,[],.lp lr1 ret48v.2.1 (VCc58_s1 30000 30001 30002 30003 30004 30005 c)),e44a5,e44a0 c1 c2 c3 c4 c5,e44a11 ret48v,e44a4 c7 c8,e44a27 ret48v,e44a7,e44a15 ret48v,e44a10 c11,e44a3 c12 c13,e44a1 q0 q1]) (_) [e44a9,(37100,[],.lp lr1 l37100 (VCc58_s1 30000 30001 30002 30003 30004 30005 c)),e44a5,e44a0 c1 c2 c3 c4 c5,e44a8 l70001,e44a4 c7 c8,e44a26 l30002,e44a7,e44a13 l30006,e44a10 c11,e44a3 c12 c13,e44a1 q0 q1] (fun ret48v=>(⟨50,[sB 48 ret48v.1,e44a16 havev,e44a6 q1,e44a28,sI 9 endv,e44a2 q0 q1,e44a30 ret44v endv,e44a17,e44a12,e44a18,e44a19,e44a20,e44a21,e44a22,e44a23,e44a24,e44a25],[e44a9,(37100,[],.lp lr1 ret48v.2.1 (VCc58_s1 30000 30001 30002 30003 30004 30005 c)),e44a5,e44a0 c1 c2 c3 c4 c5,e44a11 ret48v,e44a4 c7 c8,e44a27 ret48v,e44a7,e44a15 ret48v,e44a10 c11,e44a3 c12 c13,e44a1 q0 q1]⟩:St)) rfl (by kernel_rfl) rfl rfl (by kernel_rfl) rfl (by kernel_rfl) Try.call85 (by kernel_rfl) (by kernel_rfl) (by kernel_rfl) (fun _ _=>rfl) (fun _=>by kernel_rfl) (hR (ret44v++[endv]) l37100 l70001 l30002 l30006 _ h) (fun ret48v h=>?_)
         refine dpr (st':=(⟨50,[e44a16 havev,e44a6 q1,e44a28,sI 9 endv,sB 48 ret48v.1,e44a17,e44a12,e44a18,e44a19,e44a20,e44a21,e44a22,e44a23,e44a24,e44a25],[e44a5,e44a4 c7 c8,e44a27 ret48v,e44a7,e44a10 c11,e44a3 c12 c13,e44a15 ret48v,(37100,[],.lp lr1 ret48v.2.1 (VCc58_s1 30000 30001 30002 30003 30004 30005 c)),e44a9,e44a1 q0 q1,e44a0 c1 c2 c3 c4 c5,e44a11 ret48v]⟩:St)) (by kernel_rfl) ?_
         refine drq (by kernel_rfl) [7] (ob:=(Ts 1 True)) (done':=[7,6,5,0,4,2,3,1]) (st':=(⟨50,[e44a16 havev,e44a6 q1,e44a28,sI 9 endv,sB 49 (!ret48v.1),e44a17,e44a12,e44a18,e44a19,e44a20,e44a21,e44a22,e44a23,e44a24,e44a25],[e44a5,e44a4 c7 c8,e44a27 ret48v,e44a7,e44a10 c11,e44a3 c12 c13,e44a15 ret48v,(37100,[],.lp lr1 ret48v.2.1 (VCc58_s1 30000 30001 30002 30003 30004 30005 c)),e44a9,e44a1 q0 q1,e44a0 c1 c2 c3 c4 c5,e44a11 ret48v]⟩:St)) (by kernel_rfl) (tsI 1 trivial) ?_
         refine awd_done (by kernel_rfl) ?_
         exact rest3 ((!ret48v.1),ret48v.2.2.2.1,ret48v.2.2.2.2,ret48v.2.1,ret48v.2.2.1) h
        ·have h:=h
         obtain ⟨o1,h⟩:=h
         refine dsq (ob:=roomW 8 (ret44v.length+[endv].length)) (st':=(⟨50,[e44a16 havev,e44a6 q1,e44a28,sI 9 endv,e44a42,e44a17,e44a12,e44a18,e44a19,e44a20,e44a21,e44a22,e44a23,e44a24,e44a25],[e44a32 ret44v endv,e44a5,e44a4 c7 c8,e44a26 l30002,e44a7,e44a10 c11,e44a3 c12 c13,e44a13 l30006,(37100,[],.lp lr1 l37100 (VCc58_s1 30000 30001 30002 30003 30004 30005 c)),e44a9,e44a1 q0 q1,e44a0 c1 c2 c3 c4 c5,e44a8 l70001]⟩:St)) rfl (by kernel_rfl) o1 ?_
         refine awd_one (i:=0) (by kernel_rfl) ?_
         refine dsq (ob:=True) (st':=(⟨50,[e44a16 havev,e44a6 q1,e44a28,sI 9 endv,e44a2 q0 q1,e44a42,e44a17,e44a12,e44a18,e44a19,e44a20,e44a21,e44a22,e44a23,e44a24,e44a25],[e44a32 ret44v endv,e44a5,e44a4 c7 c8,e44a26 l30002,e44a7,e44a10 c11,e44a3 c12 c13,e44a13 l30006,(37100,[],.lp lr1 l37100 (VCc58_s1 30000 30001 30002 30003 30004 30005 c)),e44a9,e44a1 q0 q1,e44a0 c1 c2 c3 c4 c5,e44a8 l70001]⟩:St)) rfl (by kernel_rfl) trivial ?_
         refine awd_conv [.freeze 47] (st':=(⟨50,[e44a16 havev,e44a6 q1,e44a28,sI 9 endv,e44a2 q0 q1,e44a30 ret44v endv,e44a17,e44a12,e44a18,e44a19,e44a20,e44a21,e44a22,e44a23,e44a24,e44a25],[e44a5,e44a4 c7 c8,e44a26 l30002,e44a7,e44a10 c11,e44a3 c12 c13,e44a13 l30006,(37100,[],.lp lr1 l37100 (VCc58_s1 30000 30001 30002 30003 30004 30005 c)),e44a9,e44a1 q0 q1,e44a0 c1 c2 c3 c4 c5,e44a8 l70001]⟩:St)) (by kernel_rfl) rfl ?_
         refine awd_one (i:=6) (by kernel_rfl) ?_
         refine adop_lcall (σ:=Bool×Int×LK×Int×LI) e44an0 e44an1 [.c (.pS (ret44v++[endv]))] [.c (.ad tI q0),.c (.ptr 41200 0),.c (.ad (.pr tI tI) q1),.c (.ptr 41211 0)] (fun ret48v=>.v (.c (.pB ret48v.1))) (fun ret48v=>[e44a9,(37100,[],.lp lr1 ret48v.2.1 (VCc58_s1 30000 30001 30002 30003 30004 30005 c)),e44a5,e44a0 c1 c2 c3 c4 c5,e44a11 ret48v,e44a4 c7 c8,e44a27 ret48v,e44a7,e44a15 ret48v,e44a10 c11,e44a3 c12 c13,e44a1 q0 q1]) (_) [e44a9,(37100,[],.lp lr1 l37100 (VCc58_s1 30000 30001 30002 30003 30004 30005 c)),e44a5,e44a0 c1 c2 c3 c4 c5,e44a8 l70001,e44a4 c7 c8,e44a26 l30002,e44a7,e44a13 l30006,e44a10 c11,e44a3 c12 c13,e44a1 q0 q1] (fun ret48v=>(⟨50,[sB 48 ret48v.1,e44a16 havev,e44a6 q1,e44a28,sI 9 endv,e44a2 q0 q1,e44a30 ret44v endv,e44a17,e44a12,e44a18,e44a19,e44a20,e44a21,e44a22,e44a23,e44a24,e44a25],[e44a9,(37100,[],.lp lr1 ret48v.2.1 (VCc58_s1 30000 30001 30002 30003 30004 30005 c)),e44a5,e44a0 c1 c2 c3 c4 c5,e44a11 ret48v,e44a4 c7 c8,e44a27 ret48v,e44a7,e44a15 ret48v,e44a10 c11,e44a3 c12 c13,e44a1 q0 q1]⟩:St)) rfl (by kernel_rfl) rfl rfl (by kernel_rfl) rfl (by kernel_rfl) Try.call85 (by kernel_rfl) (by kernel_rfl) (by kernel_rfl) (fun _ _=>rfl) (fun _=>by kernel_rfl) (hR (ret44v++[endv]) l37100 l70001 l30002 l30006 _ h) (fun ret48v h=>?_)
         refine dpr (st':=(⟨50,[e44a16 havev,e44a6 q1,e44a28,sI 9 endv,sB 48 ret48v.1,e44a17,e44a12,e44a18,e44a19,e44a20,e44a21,e44a22,e44a23,e44a24,e44a25],[e44a5,e44a4 c7 c8,e44a27 ret48v,e44a7,e44a10 c11,e44a3 c12 c13,e44a15 ret48v,(37100,[],.lp lr1 ret48v.2.1 (VCc58_s1 30000 30001 30002 30003 30004 30005 c)),e44a9,e44a1 q0 q1,e44a0 c1 c2 c3 c4 c5,e44a11 ret48v]⟩:St)) (by kernel_rfl) ?_
         refine drq (by kernel_rfl) [7] (ob:=(Ts 1 True)) (done':=[7,6,0,5,4,2,3,1]) (st':=(⟨50,[e44a16 havev,e44a6 q1,e44a28,sI 9 endv,sB 49 (!ret48v.1),e44a17,e44a12,e44a18,e44a19,e44a20,e44a21,e44a22,e44a23,e44a24,e44a25],[e44a5,e44a4 c7 c8,e44a27 ret48v,e44a7,e44a10 c11,e44a3 c12 c13,e44a15 ret48v,(37100,[],.lp lr1 ret48v.2.1 (VCc58_s1 30000 30001 30002 30003 30004 30005 c)),e44a9,e44a1 q0 q1,e44a0 c1 c2 c3 c4 c5,e44a11 ret48v]⟩:St)) (by kernel_rfl) (tsI 1 trivial) ?_
         refine awd_done (by kernel_rfl) ?_
         exact rest3 ((!ret48v.1),ret48v.2.2.2.1,ret48v.2.2.2.2,ret48v.2.1,ret48v.2.2.1) h
      ·have h:=h
       refine dsq (ob:=True) (st':=(⟨50,[e44a16 havev,e44a6 q1,e44a28,sI 9 endv,s1 43 (.pS havev),e44a40,e44a17,e44a12,e44a18,e44a19,e44a20,e44a21,e44a22,e44a23,e44a24,e44a25],[e44a34 endv,e44a5,e44a4 c7 c8,e44a26 l30002,e44a7,e44a10 c11,e44a3 c12 c13,e44a13 l30006,(37100,[],.lp lr1 l37100 (VCc58_s1 30000 30001 30002 30003 30004 30005 c)),e44a9,e44a1 q0 q1,e44a0 c1 c2 c3 c4 c5,e44a8 l70001]⟩:St)) rfl (by kernel_rfl) trivial ?_
       refine awd_two (i:=0) (j:=2) (by kernel_rfl) ?_ ?_
       ·have h:=h
        refine dsq (ob:=True) (st':=(⟨50,[e44a16 havev,e44a6 q1,e44a28,sI 9 endv,e44a2 q0 q1,s1 43 (.pS havev),e44a40,e44a17,e44a12,e44a18,e44a19,e44a20,e44a21,e44a22,e44a23,e44a24,e44a25],[e44a34 endv,e44a5,e44a4 c7 c8,e44a26 l30002,e44a7,e44a10 c11,e44a3 c12 c13,e44a13 l30006,(37100,[],.lp lr1 l37100 (VCc58_s1 30000 30001 30002 30003 30004 30005 c)),e44a9,e44a1 q0 q1,e44a0 c1 c2 c3 c4 c5,e44a8 l70001]⟩:St)) rfl (by kernel_rfl) trivial ?_
        refine awd_one (i:=2) (by kernel_rfl) ?_
        refine adop_callOk (e:=3) (t:=tI) (l:=[toV1 (.sl tI) havev]) (cl:=[]) false [.d (.sl tI)] e44an6 e44an3 (fun (ret44v:LI)=>(roomW 8 (ret44v.length+[endv].length)∧R (ret44v++[endv]) l37100 l70001 l30002 l30006 (fun (ret48v:Bool×Int×LK×Int×LI)=>VCc85y6_k4 K endv X1 (!ret48v.1) ret48v.2.2.2.1 ret48v.2.2.2.2 ret48v.2.1 ret48v.2.2.1))) (fun ret44v=>(⟨50,[e44a16 havev,e44a6 q1,e44a28,sI 9 endv,e44a2 q0 q1,e44a39,e44a40,e44a17,e44a12,e44a18,e44a19,e44a20,e44a21,e44a22,e44a23,e44a24,e44a25],[e44a33 ret44v,e44a34 endv,e44a5,e44a4 c7 c8,e44a26 l30002,e44a7,e44a10 c11,e44a3 c12 c13,e44a13 l30006,(37100,[],.lp lr1 l37100 (VCc58_s1 30000 30001 30002 30003 30004 30005 c)),e44a9,e44a1 q0 q1,e44a0 c1 c2 c3 c4 c5,e44a8 l70001]⟩:St)) rfl rfl rfl (by kernel_rfl) rfl (by kernel_rfl) Try.call54 (by kernel_rfl) (fun e=>by cases e) (fun ret44v=>by kernel_rfl) (link54 havev _ h) (fun ret44v h=>?_)
        refine awd_one (i:=5) (by kernel_rfl) ?_
        obtain ⟨o1,h⟩:=h
        refine dsq (ob:=roomW 8 (ret44v.length+[endv].length)) (st':=(⟨50,[e44a16 havev,e44a6 q1,e44a28,sI 9 endv,e44a2 q0 q1,e44a42,e44a17,e44a12,e44a18,e44a19,e44a20,e44a21,e44a22,e44a23,e44a24,e44a25],[e44a32 ret44v endv,e44a5,e44a4 c7 c8,e44a26 l30002,e44a7,e44a10 c11,e44a3 c12 c13,e44a13 l30006,(37100,[],.lp lr1 l37100 (VCc58_s1 30000 30001 30002 30003 30004 30005 c)),e44a9,e44a1 q0 q1,e44a0 c1 c2 c3 c4 c5,e44a8 l70001]⟩:St)) rfl (by kernel_rfl) o1 ?_
        refine awd_conv [.freeze 47] (st':=(⟨50,[e44a16 havev,e44a6 q1,e44a28,sI 9 endv,e44a2 q0 q1,e44a30 ret44v endv,e44a17,e44a12,e44a18,e44a19,e44a20,e44a21,e44a22,e44a23,e44a24,e44a25],[e44a5,e44a4 c7 c8,e44a26 l30002,e44a7,e44a10 c11,e44a3 c12 c13,e44a13 l30006,(37100,[],.lp lr1 l37100 (VCc58_s1 30000 30001 30002 30003 30004 30005 c)),e44a9,e44a1 q0 q1,e44a0 c1 c2 c3 c4 c5,e44a8 l70001]⟩:St)) (by kernel_rfl) rfl ?_
        refine awd_one (i:=6) (by kernel_rfl) ?_
        refine adop_lcall (σ:=Bool×Int×LK×Int×LI) e44an0 e44an1 [.c (.pS (ret44v++[endv]))] [.c (.ad tI q0),.c (.ptr 41200 0),.c (.ad (.pr tI tI) q1),.c (.ptr 41211 0)] (fun ret48v=>.v (.c (.pB ret48v.1))) (fun ret48v=>[e44a9,(37100,[],.lp lr1 ret48v.2.1 (VCc58_s1 30000 30001 30002 30003 30004 30005 c)),e44a5,e44a0 c1 c2 c3 c4 c5,e44a11 ret48v,e44a4 c7 c8,e44a27 ret48v,e44a7,e44a15 ret48v,e44a10 c11,e44a3 c12 c13,e44a1 q0 q1]) (_) [e44a9,(37100,[],.lp lr1 l37100 (VCc58_s1 30000 30001 30002 30003 30004 30005 c)),e44a5,e44a0 c1 c2 c3 c4 c5,e44a8 l70001,e44a4 c7 c8,e44a26 l30002,e44a7,e44a13 l30006,e44a10 c11,e44a3 c12 c13,e44a1 q0 q1] (fun ret48v=>(⟨50,[sB 48 ret48v.1,e44a16 havev,e44a6 q1,e44a28,sI 9 endv,e44a2 q0 q1,e44a30 ret44v endv,e44a17,e44a12,e44a18,e44a19,e44a20,e44a21,e44a22,e44a23,e44a24,e44a25],[e44a9,(37100,[],.lp lr1 ret48v.2.1 (VCc58_s1 30000 30001 30002 30003 30004 30005 c)),e44a5,e44a0 c1 c2 c3 c4 c5,e44a11 ret48v,e44a4 c7 c8,e44a27 ret48v,e44a7,e44a15 ret48v,e44a10 c11,e44a3 c12 c13,e44a1 q0 q1]⟩:St)) rfl (by kernel_rfl) rfl rfl (by kernel_rfl) rfl (by kernel_rfl) Try.call85 (by kernel_rfl) (by kernel_rfl) (by kernel_rfl) (fun _ _=>rfl) (fun _=>by kernel_rfl) (hR (ret44v++[endv]) l37100 l70001 l30002 l30006 _ h) (fun ret48v h=>?_)
        refine dpr (st':=(⟨50,[e44a16 havev,e44a6 q1,e44a28,sI 9 endv,sB 48 ret48v.1,e44a17,e44a12,e44a18,e44a19,e44a20,e44a21,e44a22,e44a23,e44a24,e44a25],[e44a5,e44a4 c7 c8,e44a27 ret48v,e44a7,e44a10 c11,e44a3 c12 c13,e44a15 ret48v,(37100,[],.lp lr1 ret48v.2.1 (VCc58_s1 30000 30001 30002 30003 30004 30005 c)),e44a9,e44a1 q0 q1,e44a0 c1 c2 c3 c4 c5,e44a11 ret48v]⟩:St)) (by kernel_rfl) ?_
        refine drq (by kernel_rfl) [7] (ob:=(Ts 1 True)) (done':=[7,6,5,2,0,4,3,1]) (st':=(⟨50,[e44a16 havev,e44a6 q1,e44a28,sI 9 endv,sB 49 (!ret48v.1),e44a17,e44a12,e44a18,e44a19,e44a20,e44a21,e44a22,e44a23,e44a24,e44a25],[e44a5,e44a4 c7 c8,e44a27 ret48v,e44a7,e44a10 c11,e44a3 c12 c13,e44a15 ret48v,(37100,[],.lp lr1 ret48v.2.1 (VCc58_s1 30000 30001 30002 30003 30004 30005 c)),e44a9,e44a1 q0 q1,e44a0 c1 c2 c3 c4 c5,e44a11 ret48v]⟩:St)) (by kernel_rfl) (tsI 1 trivial) ?_
        refine awd_done (by kernel_rfl) ?_
        exact rest3 ((!ret48v.1),ret48v.2.2.2.1,ret48v.2.2.2.2,ret48v.2.1,ret48v.2.2.1) h
       ·have h:=h
        refine adop_callOk (e:=3) (t:=tI) (l:=[toV1 (.sl tI) havev]) (cl:=[]) false [.d (.sl tI)] [0,3,4,9,44,46,50,51,52,53,54,55,56,57,58,59] e44an3 (fun (ret44v:LI)=>(roomW 8 (ret44v.length+[endv].length)∧R (ret44v++[endv]) l37100 l70001 l30002 l30006 (fun (ret48v:Bool×Int×LK×Int×LI)=>VCc85y6_k4 K endv X1 (!ret48v.1) ret48v.2.2.2.1 ret48v.2.2.2.2 ret48v.2.1 ret48v.2.2.1))) (fun ret44v=>(⟨50,[e44a16 havev,e44a6 q1,e44a28,sI 9 endv,e44a39,e44a40,e44a17,e44a12,e44a18,e44a19,e44a20,e44a21,e44a22,e44a23,e44a24,e44a25],[e44a33 ret44v,e44a34 endv,e44a5,e44a4 c7 c8,e44a26 l30002,e44a7,e44a10 c11,e44a3 c12 c13,e44a13 l30006,(37100,[],.lp lr1 l37100 (VCc58_s1 30000 30001 30002 30003 30004 30005 c)),e44a9,e44a1 q0 q1,e44a0 c1 c2 c3 c4 c5,e44a8 l70001]⟩:St)) rfl rfl rfl (by kernel_rfl) rfl (by kernel_rfl) Try.call54 (by kernel_rfl) (fun e=>by cases e) (fun ret44v=>by kernel_rfl) (link54 havev _ h) (fun ret44v h=>?_)
        refine awd_two (i:=0) (j:=5) (by kernel_rfl) ?_ ?_
        ·have h:=h
         refine dsq (ob:=True) (st':=(⟨50,[e44a16 havev,e44a6 q1,e44a28,sI 9 endv,e44a2 q0 q1,e44a39,e44a40,e44a17,e44a12,e44a18,e44a19,e44a20,e44a21,e44a22,e44a23,e44a24,e44a25],[e44a33 ret44v,e44a34 endv,e44a5,e44a4 c7 c8,e44a26 l30002,e44a7,e44a10 c11,e44a3 c12 c13,e44a13 l30006,(37100,[],.lp lr1 l37100 (VCc58_s1 30000 30001 30002 30003 30004 30005 c)),e44a9,e44a1 q0 q1,e44a0 c1 c2 c3 c4 c5,e44a8 l70001]⟩:St)) rfl (by kernel_rfl) trivial ?_
         refine awd_one (i:=5) (by kernel_rfl) ?_
         obtain ⟨o1,h⟩:=h
         refine dsq (ob:=roomW 8 (ret44v.length+[endv].length)) (st':=(⟨50,[e44a16 havev,e44a6 q1,e44a28,sI 9 endv,e44a2 q0 q1,e44a42,e44a17,e44a12,e44a18,e44a19,e44a20,e44a21,e44a22,e44a23,e44a24,e44a25],[e44a32 ret44v endv,e44a5,e44a4 c7 c8,e44a26 l30002,e44a7,e44a10 c11,e44a3 c12 c13,e44a13 l30006,(37100,[],.lp lr1 l37100 (VCc58_s1 30000 30001 30002 30003 30004 30005 c)),e44a9,e44a1 q0 q1,e44a0 c1 c2 c3 c4 c5,e44a8 l70001]⟩:St)) rfl (by kernel_rfl) o1 ?_
         refine awd_conv [.freeze 47] (st':=(⟨50,[e44a16 havev,e44a6 q1,e44a28,sI 9 endv,e44a2 q0 q1,e44a30 ret44v endv,e44a17,e44a12,e44a18,e44a19,e44a20,e44a21,e44a22,e44a23,e44a24,e44a25],[e44a5,e44a4 c7 c8,e44a26 l30002,e44a7,e44a10 c11,e44a3 c12 c13,e44a13 l30006,(37100,[],.lp lr1 l37100 (VCc58_s1 30000 30001 30002 30003 30004 30005 c)),e44a9,e44a1 q0 q1,e44a0 c1 c2 c3 c4 c5,e44a8 l70001]⟩:St)) (by kernel_rfl) rfl ?_
         refine awd_one (i:=6) (by kernel_rfl) ?_
         refine adop_lcall (σ:=Bool×Int×LK×Int×LI) e44an0 e44an1 [.c (.pS (ret44v++[endv]))] [.c (.ad tI q0),.c (.ptr 41200 0),.c (.ad (.pr tI tI) q1),.c (.ptr 41211 0)] (fun ret48v=>.v (.c (.pB ret48v.1))) (fun ret48v=>[e44a9,(37100,[],.lp lr1 ret48v.2.1 (VCc58_s1 30000 30001 30002 30003 30004 30005 c)),e44a5,e44a0 c1 c2 c3 c4 c5,e44a11 ret48v,e44a4 c7 c8,e44a27 ret48v,e44a7,e44a15 ret48v,e44a10 c11,e44a3 c12 c13,e44a1 q0 q1]) (_) [e44a9,(37100,[],.lp lr1 l37100 (VCc58_s1 30000 30001 30002 30003 30004 30005 c)),e44a5,e44a0 c1 c2 c3 c4 c5,e44a8 l70001,e44a4 c7 c8,e44a26 l30002,e44a7,e44a13 l30006,e44a10 c11,e44a3 c12 c13,e44a1 q0 q1] (fun ret48v=>(⟨50,[sB 48 ret48v.1,e44a16 havev,e44a6 q1,e44a28,sI 9 endv,e44a2 q0 q1,e44a30 ret44v endv,e44a17,e44a12,e44a18,e44a19,e44a20,e44a21,e44a22,e44a23,e44a24,e44a25],[e44a9,(37100,[],.lp lr1 ret48v.2.1 (VCc58_s1 30000 30001 30002 30003 30004 30005 c)),e44a5,e44a0 c1 c2 c3 c4 c5,e44a11 ret48v,e44a4 c7 c8,e44a27 ret48v,e44a7,e44a15 ret48v,e44a10 c11,e44a3 c12 c13,e44a1 q0 q1]⟩:St)) rfl (by kernel_rfl) rfl rfl (by kernel_rfl) rfl (by kernel_rfl) Try.call85 (by kernel_rfl) (by kernel_rfl) (by kernel_rfl) (fun _ _=>rfl) (fun _=>by kernel_rfl) (hR (ret44v++[endv]) l37100 l70001 l30002 l30006 _ h) (fun ret48v h=>?_)
         refine dpr (st':=(⟨50,[e44a16 havev,e44a6 q1,e44a28,sI 9 endv,sB 48 ret48v.1,e44a17,e44a12,e44a18,e44a19,e44a20,e44a21,e44a22,e44a23,e44a24,e44a25],[e44a5,e44a4 c7 c8,e44a27 ret48v,e44a7,e44a10 c11,e44a3 c12 c13,e44a15 ret48v,(37100,[],.lp lr1 ret48v.2.1 (VCc58_s1 30000 30001 30002 30003 30004 30005 c)),e44a9,e44a1 q0 q1,e44a0 c1 c2 c3 c4 c5,e44a11 ret48v]⟩:St)) (by kernel_rfl) ?_
         refine drq (by kernel_rfl) [7] (ob:=(Ts 1 True)) (done':=[7,6,5,0,2,4,3,1]) (st':=(⟨50,[e44a16 havev,e44a6 q1,e44a28,sI 9 endv,sB 49 (!ret48v.1),e44a17,e44a12,e44a18,e44a19,e44a20,e44a21,e44a22,e44a23,e44a24,e44a25],[e44a5,e44a4 c7 c8,e44a27 ret48v,e44a7,e44a10 c11,e44a3 c12 c13,e44a15 ret48v,(37100,[],.lp lr1 ret48v.2.1 (VCc58_s1 30000 30001 30002 30003 30004 30005 c)),e44a9,e44a1 q0 q1,e44a0 c1 c2 c3 c4 c5,e44a11 ret48v]⟩:St)) (by kernel_rfl) (tsI 1 trivial) ?_
         refine awd_done (by kernel_rfl) ?_
         exact rest3 ((!ret48v.1),ret48v.2.2.2.1,ret48v.2.2.2.2,ret48v.2.1,ret48v.2.2.1) h
        ·have h:=h
         obtain ⟨o1,h⟩:=h
         refine dsq (ob:=roomW 8 (ret44v.length+[endv].length)) (st':=(⟨50,[e44a16 havev,e44a6 q1,e44a28,sI 9 endv,e44a42,e44a17,e44a12,e44a18,e44a19,e44a20,e44a21,e44a22,e44a23,e44a24,e44a25],[e44a32 ret44v endv,e44a5,e44a4 c7 c8,e44a26 l30002,e44a7,e44a10 c11,e44a3 c12 c13,e44a13 l30006,(37100,[],.lp lr1 l37100 (VCc58_s1 30000 30001 30002 30003 30004 30005 c)),e44a9,e44a1 q0 q1,e44a0 c1 c2 c3 c4 c5,e44a8 l70001]⟩:St)) rfl (by kernel_rfl) o1 ?_
         refine awd_one (i:=0) (by kernel_rfl) ?_
         refine dsq (ob:=True) (st':=(⟨50,[e44a16 havev,e44a6 q1,e44a28,sI 9 endv,e44a2 q0 q1,e44a42,e44a17,e44a12,e44a18,e44a19,e44a20,e44a21,e44a22,e44a23,e44a24,e44a25],[e44a32 ret44v endv,e44a5,e44a4 c7 c8,e44a26 l30002,e44a7,e44a10 c11,e44a3 c12 c13,e44a13 l30006,(37100,[],.lp lr1 l37100 (VCc58_s1 30000 30001 30002 30003 30004 30005 c)),e44a9,e44a1 q0 q1,e44a0 c1 c2 c3 c4 c5,e44a8 l70001]⟩:St)) rfl (by kernel_rfl) trivial ?_
         refine awd_conv [.freeze 47] (st':=(⟨50,[e44a16 havev,e44a6 q1,e44a28,sI 9 endv,e44a2 q0 q1,e44a30 ret44v endv,e44a17,e44a12,e44a18,e44a19,e44a20,e44a21,e44a22,e44a23,e44a24,e44a25],[e44a5,e44a4 c7 c8,e44a26 l30002,e44a7,e44a10 c11,e44a3 c12 c13,e44a13 l30006,(37100,[],.lp lr1 l37100 (VCc58_s1 30000 30001 30002 30003 30004 30005 c)),e44a9,e44a1 q0 q1,e44a0 c1 c2 c3 c4 c5,e44a8 l70001]⟩:St)) (by kernel_rfl) rfl ?_
         refine awd_one (i:=6) (by kernel_rfl) ?_
         refine adop_lcall (σ:=Bool×Int×LK×Int×LI) e44an0 e44an1 [.c (.pS (ret44v++[endv]))] [.c (.ad tI q0),.c (.ptr 41200 0),.c (.ad (.pr tI tI) q1),.c (.ptr 41211 0)] (fun ret48v=>.v (.c (.pB ret48v.1))) (fun ret48v=>[e44a9,(37100,[],.lp lr1 ret48v.2.1 (VCc58_s1 30000 30001 30002 30003 30004 30005 c)),e44a5,e44a0 c1 c2 c3 c4 c5,e44a11 ret48v,e44a4 c7 c8,e44a27 ret48v,e44a7,e44a15 ret48v,e44a10 c11,e44a3 c12 c13,e44a1 q0 q1]) (_) [e44a9,(37100,[],.lp lr1 l37100 (VCc58_s1 30000 30001 30002 30003 30004 30005 c)),e44a5,e44a0 c1 c2 c3 c4 c5,e44a8 l70001,e44a4 c7 c8,e44a26 l30002,e44a7,e44a13 l30006,e44a10 c11,e44a3 c12 c13,e44a1 q0 q1] (fun ret48v=>(⟨50,[sB 48 ret48v.1,e44a16 havev,e44a6 q1,e44a28,sI 9 endv,e44a2 q0 q1,e44a30 ret44v endv,e44a17,e44a12,e44a18,e44a19,e44a20,e44a21,e44a22,e44a23,e44a24,e44a25],[e44a9,(37100,[],.lp lr1 ret48v.2.1 (VCc58_s1 30000 30001 30002 30003 30004 30005 c)),e44a5,e44a0 c1 c2 c3 c4 c5,e44a11 ret48v,e44a4 c7 c8,e44a27 ret48v,e44a7,e44a15 ret48v,e44a10 c11,e44a3 c12 c13,e44a1 q0 q1]⟩:St)) rfl (by kernel_rfl) rfl rfl (by kernel_rfl) rfl (by kernel_rfl) Try.call85 (by kernel_rfl) (by kernel_rfl) (by kernel_rfl) (fun _ _=>rfl) (fun _=>by kernel_rfl) (hR (ret44v++[endv]) l37100 l70001 l30002 l30006 _ h) (fun ret48v h=>?_)
         refine dpr (st':=(⟨50,[e44a16 havev,e44a6 q1,e44a28,sI 9 endv,sB 48 ret48v.1,e44a17,e44a12,e44a18,e44a19,e44a20,e44a21,e44a22,e44a23,e44a24,e44a25],[e44a5,e44a4 c7 c8,e44a27 ret48v,e44a7,e44a10 c11,e44a3 c12 c13,e44a15 ret48v,(37100,[],.lp lr1 ret48v.2.1 (VCc58_s1 30000 30001 30002 30003 30004 30005 c)),e44a9,e44a1 q0 q1,e44a0 c1 c2 c3 c4 c5,e44a11 ret48v]⟩:St)) (by kernel_rfl) ?_
         refine drq (by kernel_rfl) [7] (ob:=(Ts 1 True)) (done':=[7,6,0,5,2,4,3,1]) (st':=(⟨50,[e44a16 havev,e44a6 q1,e44a28,sI 9 endv,sB 49 (!ret48v.1),e44a17,e44a12,e44a18,e44a19,e44a20,e44a21,e44a22,e44a23,e44a24,e44a25],[e44a5,e44a4 c7 c8,e44a27 ret48v,e44a7,e44a10 c11,e44a3 c12 c13,e44a15 ret48v,(37100,[],.lp lr1 ret48v.2.1 (VCc58_s1 30000 30001 30002 30003 30004 30005 c)),e44a9,e44a1 q0 q1,e44a0 c1 c2 c3 c4 c5,e44a11 ret48v]⟩:St)) (by kernel_rfl) (tsI 1 trivial) ?_
         refine awd_done (by kernel_rfl) ?_
         exact rest3 ((!ret48v.1),ret48v.2.2.2.1,ret48v.2.2.2.2,ret48v.2.1,ret48v.2.2.1) h
    ·have h:=h.2 hb
     refine cpr (st':=(⟨50,[e44a17,e44a12,e44a18,e44a19,e44a20,e44a21,e44a22,e44a23,e44a24,e44a25],[e44a5,e44a4 c7 c8,e44a26 l30002,e44a7,e44a10 c11,e44a3 c12 c13,e44a13 l30006,(37100,[],.lp lr1 l37100 (VCc58_s1 30000 30001 30002 30003 30004 30005 c)),e44a9,e44a1 q0 q1,e44a0 c1 c2 c3 c4 c5,e44a8 l70001]⟩:St)) (by kernel_rfl) ?_
     refine aw_exit ?_
     refine thenQ_x ?_
     refine thenQ_x ?_
     refine blockQ_hit ?_
     exact rest2 (l30002,l30006,l37100,l70001) h
  ·refine aw_cond (b:=(decide ((0:Int)<(havev.length:Int)))) (by kernel_rfl) (fun hb=>?_) (fun hb=>?_)
   ·have h:=h.1 hb
    refine aw_region ?_
    obtain ⟨o1,o2,h⟩:=h
    refine rq 6 (ob:=(Ts 2 (InR ((havev.length:Int)-(1:Int))∧inIdx ((havev.length:Int)-(1:Int)) havev.length∧Ts 2 True))) (st':=(⟨50,[e44a16 havev,e44a6 q1,e44a28,sI 7 (havev.getD (((havev.length:Int)-(1:Int))).toNat (0:Int)),e44a17,e44a12,e44a18,e44a19,e44a20,e44a21,e44a22,e44a23,e44a24,e44a25],[e44a5,e44a4 c7 c8,e44a31 c9,e44a7,e44a10 c11,e44a3 c12 c13,e44a29 c10,(37100,[],.lp lr1 c0 (VCc58_s1 30000 30001 30002 30003 30004 30005 c)),e44a9,e44a1 q0 q1,e44a0 c1 c2 c3 c4 c5,e44a14 c6]⟩:St)) (by kernel_rfl) (tsI 2 (⟨o1,⟨o2,tsI 2 trivial⟩⟩)) ?_
    refine awl_nil ?_
    exact rest4 (havev.getD (((havev.length:Int)-(1:Int))).toNat (0:Int)) h
   ·have h:=h.2 hb
    refine cpr (st':=(⟨50,[e44a16 havev,e44a6 q1,e44a28,sI 7 q1.1,e44a17,e44a12,e44a18,e44a19,e44a20,e44a21,e44a22,e44a23,e44a24,e44a25],[e44a5,e44a4 c7 c8,e44a31 c9,e44a7,e44a10 c11,e44a3 c12 c13,e44a29 c10,(37100,[],.lp lr1 c0 (VCc58_s1 30000 30001 30002 30003 30004 30005 c)),e44a9,e44a1 q0 q1,e44a0 c1 c2 c3 c4 c5,e44a14 c6]⟩:St)) (by kernel_rfl) ?_
    refine aw_skip ?_
    exact rest4 q1.1 h
def VCc85y6_it (q0:Int) (q1:(Int×Int)) (c1:Int) (c2:Int) (c3:Int) (c4:LR) (c5:LI) (c7:Int) (c8:Int) (c11:Int) (c12:Int) (c13:LI) (Y:LI→Int→LI→LK→(Int×LI×LK→Prop)→(Int×Int×LI×LK→Prop)→Prop):Nat→LI→Int→LK→Int→LI→(Bool×Int×LK×Int×LI→Prop)→Prop
  | 0=>fun _ _ _ _ _ _=>False
  | n+1=>fun havev c0 c6 c9 c10 K=>VCc85y6 q0 q1 c1 c2 c3 c4 c5 c7 c8 c11 c12 c13 Y (VCc85y6_it q0 q1 c1 c2 c3 c4 c5 c7 c8 c11 c12 c13 Y n) havev c0 c6 c9 c10 K
def VCcr85y6 (q0:Int) (q1:(Int×Int)) (c1:Int) (c2:Int) (c3:Int) (c4:LR) (c5:LI) (c7:Int) (c8:Int) (c11:Int) (c12:Int) (c13:LI) (Y:LI→Int→LI→LK→(Int×LI×LK→Prop)→(Int×Int×LI×LK→Prop)→Prop) (havev:LI) (c0:Int) (c6:LK) (c9:Int) (c10:LI) (K:Bool×Int×LK×Int×LI→Prop):Prop:=∃ n,VCc85y6_it q0 q1 c1 c2 c3 c4 c5 c7 c8 c11 c12 c13 Y n havev c0 c6 c9 c10 K
theorem linkci85y6 (lr1:Go.Loop) (c:Int) (q0:Int) (q1:(Int×Int)) (c1:Int) (c2:Int) (c3:Int) (c4:LR) (c5:LI) (c7:Int) (c8:Int) (c11:Int) (c12:Int) (c13:LI) (Y:LI→Int→LI→LK→(Int×LI×LK→Prop)→(Int×Int×LI×LK→Prop)→Prop) (hY:∀ (ya0:LI) (yv0:Int) (yv1:LI) (yv2:LK) (Kt:Int×LI×LK→Prop) (Kf:Int×Int×LI×LK→Prop) (h:Y ya0 yv0 yv1 yv2 Kt Kf),LYCalls Try.prog 37100 e44an2 e44an5 [(37100,[],.lp lr1 (0:Int) (VCc58_s1 30000 30001 30002 30003 30004 30005 c)),e44a5,e44a4 c7 c8,hB 30002 [.pI yv0],e44a7,e44a10 c11,e44a3 c12 c13,hA 30006 3 tI yv1,e44a0 c1 c2 c3 c4 c5,e44a41 yv2] [.c (.pS ya0)] (fun av hp'=>(∃ y:Int×LI×LK,av=.v (.c (.p .bool true))∧hp'=[(37100,[],.lp lr1 (0:Int) (VCc58_s1 30000 30001 30002 30003 30004 30005 c)),e44a5,e44a4 c7 c8,hB 30002 [.pI y.1],e44a7,e44a10 c11,e44a3 c12 c13,hA 30006 3 tI y.2.1,e44a0 c1 c2 c3 c4 c5,(70001,[],.dict (.pr tI t3) tI y.2.2)]∧Kt y)∨(∃ y:Int×Int×LI×LK,av=.v (.c (.p .bool false))∧hp'=[(37100,[],.lp lr1 y.1 (VCc58_s1 30000 30001 30002 30003 30004 30005 c)),e44a5,e44a4 c7 c8,hB 30002 [.pI y.2.1],e44a7,e44a10 c11,e44a3 c12 c13,hA 30006 3 tI y.2.2.1,e44a0 c1 c2 c3 c4 c5,(70001,[],.dict (.pr tI t3) tI y.2.2.2)]∧Kf y))):∀ (n:Nat) (havev:LI) (c0:Int) (c6:LK) (c9:Int) (c10:LI) (K:Bool×Int×LK×Int×LI→Prop),VCc85y6_it q0 q1 c1 c2 c3 c4 c5 c7 c8 c11 c12 c13 Y n havev c0 c6 c9 c10 K→LCalls Try.prog 85 e44an0 e44an1 [e44a9,(37100,[],.lp lr1 c0 (VCc58_s1 30000 30001 30002 30003 30004 30005 c)),e44a5,e44a0 c1 c2 c3 c4 c5,e44a14 c6,e44a4 c7 c8,e44a31 c9,e44a7,e44a29 c10,e44a10 c11,e44a3 c12 c13,e44a1 q0 q1] [.c (.pS havev),.c (.ad tI q0),.c (.ptr 41200 0),.c (.ad (.pr tI tI) q1),.c (.ptr 41211 0)] (fun av hp'=>∃ y:Bool×Int×LK×Int×LI,av=.v (.c (.pB y.1))∧hp'=[e44a9,(37100,[],.lp lr1 y.2.1 (VCc58_s1 30000 30001 30002 30003 30004 30005 c)),e44a5,e44a0 c1 c2 c3 c4 c5,(70001,[],.dict (.pr tI t3) tI y.2.2.1),e44a4 c7 c8,hB 30002 [.pI y.2.2.2.1],e44a7,hA 30006 3 tI y.2.2.2.2,e44a10 c11,e44a3 c12 c13,e44a1 q0 q1]∧K y)
  | 0,_,_,_,_,_,_,h=>False.elim h
  | n+1,havev,c0,c6,c9,c10,K,h=>linkc85y6 lr1 c q0 q1 c1 c2 c3 c4 c5 c7 c8 c11 c12 c13 Y hY (VCc85y6_it q0 q1 c1 c2 c3 c4 c5 c7 c8 c11 c12 c13 Y n) (linkci85y6 lr1 c q0 q1 c1 c2 c3 c4 c5 c7 c8 c11 c12 c13 Y hY n) havev c0 c6 c9 c10 K h
theorem linkcr85y6 (lr1:Go.Loop) (c:Int) (q0:Int) (q1:(Int×Int)) (c1:Int) (c2:Int) (c3:Int) (c4:LR) (c5:LI) (c7:Int) (c8:Int) (c11:Int) (c12:Int) (c13:LI) (Y:LI→Int→LI→LK→(Int×LI×LK→Prop)→(Int×Int×LI×LK→Prop)→Prop) (hY:∀ (ya0:LI) (yv0:Int) (yv1:LI) (yv2:LK) (Kt:Int×LI×LK→Prop) (Kf:Int×Int×LI×LK→Prop) (h:Y ya0 yv0 yv1 yv2 Kt Kf),LYCalls Try.prog 37100 e44an2 e44an5 [(37100,[],.lp lr1 (0:Int) (VCc58_s1 30000 30001 30002 30003 30004 30005 c)),e44a5,e44a4 c7 c8,hB 30002 [.pI yv0],e44a7,e44a10 c11,e44a3 c12 c13,hA 30006 3 tI yv1,e44a0 c1 c2 c3 c4 c5,e44a41 yv2] [.c (.pS ya0)] (fun av hp'=>(∃ y:Int×LI×LK,av=.v (.c (.p .bool true))∧hp'=[(37100,[],.lp lr1 (0:Int) (VCc58_s1 30000 30001 30002 30003 30004 30005 c)),e44a5,e44a4 c7 c8,hB 30002 [.pI y.1],e44a7,e44a10 c11,e44a3 c12 c13,hA 30006 3 tI y.2.1,e44a0 c1 c2 c3 c4 c5,(70001,[],.dict (.pr tI t3) tI y.2.2)]∧Kt y)∨(∃ y:Int×Int×LI×LK,av=.v (.c (.p .bool false))∧hp'=[(37100,[],.lp lr1 y.1 (VCc58_s1 30000 30001 30002 30003 30004 30005 c)),e44a5,e44a4 c7 c8,hB 30002 [.pI y.2.1],e44a7,e44a10 c11,e44a3 c12 c13,hA 30006 3 tI y.2.2.1,e44a0 c1 c2 c3 c4 c5,(70001,[],.dict (.pr tI t3) tI y.2.2.2)]∧Kf y))) (havev:LI) (c0:Int) (c6:LK) (c9:Int) (c10:LI) (K:Bool×Int×LK×Int×LI→Prop) (h:VCcr85y6 q0 q1 c1 c2 c3 c4 c5 c7 c8 c11 c12 c13 Y havev c0 c6 c9 c10 K):LCalls Try.prog 85 e44an0 e44an1 [e44a9,(37100,[],.lp lr1 c0 (VCc58_s1 30000 30001 30002 30003 30004 30005 c)),e44a5,e44a0 c1 c2 c3 c4 c5,e44a14 c6,e44a4 c7 c8,e44a31 c9,e44a7,e44a29 c10,e44a10 c11,e44a3 c12 c13,e44a1 q0 q1] [.c (.pS havev),.c (.ad tI q0),.c (.ptr 41200 0),.c (.ad (.pr tI tI) q1),.c (.ptr 41211 0)] (fun av hp'=>∃ y:Bool×Int×LK×Int×LI,av=.v (.c (.pB y.1))∧hp'=[e44a9,(37100,[],.lp lr1 y.2.1 (VCc58_s1 30000 30001 30002 30003 30004 30005 c)),e44a5,e44a0 c1 c2 c3 c4 c5,(70001,[],.dict (.pr tI t3) tI y.2.2.1),e44a4 c7 c8,hB 30002 [.pI y.2.2.2.1],e44a7,hA 30006 3 tI y.2.2.2.2,e44a10 c11,e44a3 c12 c13,e44a1 q0 q1]∧K y):=by
  obtain ⟨n,h⟩:=h
  exact linkci85y6 lr1 c q0 q1 c1 c2 c3 c4 c5 c7 c8 c11 c12 c13 Y hY n havev c0 c6 c9 c10 K h
abbrev e44b0 (c0:Int) (c1:Int) (c2:Int) (c3:LR) (c4:LI):Nat×Path×Con:=hB 70000 [.pI c0,.pI c1,.pI c2,.p (.sl tR) c3,.pS c4,.own 70001]
abbrev e44b1 (c3:LR) (v31:Int):Nat×Path×Con:=hB 30005 [.pI ((c3.getD (v31).toNat ((0:Int),([]:LI))).1),.pS ((c3.getD (v31).toNat ((0:Int),([]:LI))).2)]
abbrev e44b2 (sign:Int) (over:Int):Nat×Path×Con:=hB 30001 [.pI sign,.pI over]
abbrev e44b3 (ret55v:(List (Int×Int))):Nat×Path×AV:=s1 12 (.p (.sl (.pr tI tI)) ret55v)
abbrev e44b4:Nat×Path×Con:=hB 30000 [.ptr 70000 0]
abbrev e44b5 (l70001:LK):Nat×Path×Con:=(70001,[],.dict (.pr tI t3) tI l70001)
abbrev e44b6 (c3:LR) (v31:Int):Nat×Path×AV:=sI 71 (((c3.getD (v31).toNat ((0:Int),([]:LI))).2).length:Int)
abbrev e44b7:Nat×Path×Con:=hB 30003 [.own 30006]
abbrev e44b8 (c3:LR) (v31:Int):Nat×Path×AV:=s1 70 (.pS ((c3.getD (v31).toNat ((0:Int),([]:LI))).2))
abbrev e44b9 (v31:Int):Nat×Path×Con:=hB 30004 [.pI v31]
abbrev e44b10 (c6:LI):Nat×Path×Con:=hA 30006 3 tI c6
abbrev e44b11 (c3:LR) (v31:Int) (sign:Int) (over:Int):Nat×Path×Con:=hB 41211 [.cl 85 [.ad ⟨tI,(((c3.getD (v31).toNat ((0:Int),([]:LI))).2).length:Int)⟩,.pt 41200 0,.ad ⟨(.pr tI tI),(sign,over)⟩,.pt 41211 0]]
abbrev e44b12 (c3:LR):Nat×Path×AV:=s1 29 (.p (.sl tR) c3)
abbrev e44b13 (c5:LK):Nat×Path×Con:=(70001,[],.dict (.pr tI t3) tI c5)
abbrev e44b14 (l700012:LK):Nat×Path×Con:=(70001,[],.dict (.pr tI t3) tI l700012)
abbrev e44b15 (c122:LK):Nat×Path×Con:=(70001,[],.dict (.pr tI t3) tI c122)
abbrev e44b16 (c3:LR) (v31:Int) (v72:Int):Nat×Path×AV:=sI 16 (((c3.getD (v31).toNat ((0:Int),([]:LI))).2).getD (v72).toNat (0:Int))
abbrev e44b17 (ret60v:Int×LK):Nat×Path×Con:=(70001,[],.dict (.pr tI t3) tI ret60v.2)
abbrev e44b18 (ret98v:LI×LK):Nat×Path×Con:=(70001,[],.dict (.pr tI t3) tI ret98v.2)
abbrev e44b19:Nat×Path×AV:=sp 112 70000
abbrev e44b20 (c3:LR):Nat×Path×AV:=s1 37 (.p (.sl tR) c3)
abbrev e44b21:Nat×Path×AV:=sp 106 30000
abbrev e44b22:Nat×Path×AV:=sp 107 30001
abbrev e44b23:Nat×Path×AV:=sp 108 30002
abbrev e44b24:Nat×Path×AV:=sp 109 30003
abbrev e44b25:Nat×Path×AV:=sp 110 30004
abbrev e44b26:Nat×Path×AV:=sp 111 30005
abbrev e44b27 (l6160:LI):Nat×Path×Con:=hA 30006 3 tI l6160
abbrev e44b28 (ret87v:Int×LK):Nat×Path×Con:=(70001,[],.dict (.pr tI t3) tI ret87v.2)
abbrev e44b29 (c3:LR) (v31:Int) (sign:Int) (over:Int):Nat×Path×AV:=s1 6 (.cl 85 [.ad ⟨tI,(((c3.getD (v31).toNat ((0:Int),([]:LI))).2).length:Int)⟩,.pt 41200 0,.ad ⟨(.pr tI tI),(sign,over)⟩,.pt 41211 0])
abbrev e44b30 (c3:LR) (v31:Int):Nat×Path×Con:=hB 10 [.pI ((c3.getD (v31).toNat ((0:Int),([]:LI))).1),.pS ((c3.getD (v31).toNat ((0:Int),([]:LI))).2)]
abbrev e44b31 (c3:LR) (v31:Int) (sign:Int) (over:Int):Nat×Path×Con:=hB 4 [.cl 85 [.ad ⟨tI,(((c3.getD (v31).toNat ((0:Int),([]:LI))).2).length:Int)⟩,.pt 3 0,.ad ⟨(.pr tI tI),(sign,over)⟩,.pt 4 0]]
abbrev e44b32:Nat×Path×AV:=sp 8 30003
abbrev e44b33:Nat×Path×AV:=sp 10 30005
abbrev e44b34 (sign:Int) (over:Int):Nat×Path×Con:=hB 6 [.pI sign,.pI over]
abbrev e44b35 (ret7v:Bool×Int×LK×Int×LI):Nat×Path×Con:=(70001,[],.dict (.pr tI t3) tI ret7v.2.2.1)
abbrev e44b36:Nat×Path×AV:=sp 4 30000
abbrev e44b37:Nat×Path×AV:=sp 7 30002
abbrev e44b38 (c3:LR):Nat×Path×AV:=sI 30 (c3.length:Int)
abbrev e44b39:Nat×Path×AV:=sp 106 70000
abbrev e44b40 (c3:LR) (v31:Int):Nat×Path×AV:=s1 1 (.ad tI (((c3.getD (v31).toNat ((0:Int),([]:LI))).2).length:Int))
abbrev e44b41 (c22:Int):Nat×Path×Con:=hB 30002 [.pI c22]
abbrev e44b42:Nat×Path×Con:=hB 4 [.ptr 70000 0]
abbrev e44b43 (ret55v:(List (Int×Int))) (v72:Int):Nat×Path×AV:=sA 94 [.pI ((ret55v.getD (v72).toNat ((0:Int),(0:Int))).1),.pI ((ret55v.getD (v72).toNat ((0:Int),(0:Int))).2)]
abbrev e44b44 (i2:Int):Nat×Path×Con:=hB 30002 [.pI i2]
abbrev e44b45 (i3:Int):Nat×Path×Con:=hB 30002 [.pI i3]
abbrev e44b46 (c3:LR):Nat×Path×AV:=s1 35 (.p (.sl tR) c3)
abbrev e44b47 (out:LI):Nat×Path×Con:=hA 30300 3 tI out
abbrev e44b48:Nat×Path×Con:=hB 8 [.own 6160]
abbrev e44b49 (c3:LR):Nat×Path×AV:=sI 38 (c3.length:Int)
abbrev e44b50 (l6160:LI):Nat×Path×Con:=hA 6160 3 tI l6160
abbrev e44b51:Nat×Path×AV:=s1 90108 (.yv 37100)
abbrev e44b52:Nat×Path×AV:=s1 14 (.own 30300)
abbrev e44b53:Nat×Path×AV:=sp 9 30004
abbrev e44b54:Nat×Path×AV:=s1 14 (.own 68)
abbrev e44bn0:List Nat:=[37100,30000,30001,30002,30003,30004,30005,30006,70000,70001]
abbrev e44bn1:List Nat:=[30000,30001,30002,30003,30004,30005,30006,70000,70001]
abbrev e44bn2:List Nat:=[37100,30000,30001,30002,30003,30004,30005,70000]
abbrev e44bn3:List Nat:=[0,1,2,3,4,5,6,7,8,9]
abbrev e44bn4:List Nat:=[9,8,7,6,5,4,3,2,1,0]
-- coppicer/pick.nth
def VCc58_k1 (K:LI×LK→Prop) (l6160:LI) (l70001:LK):Prop :=
  K (([]:List Int),l70001)
def VCc58_k2 (v31:Int) (X1:Int×Int×LI×LK→Prop) (i3:Int) (l61602:LI) (l700012:LK):Prop :=
  (InR (v31+(1:Int))∧X1 ((v31+(1:Int)),i3,l61602,l700012))
def VCc58_k3 (Kf:(Int×Int×LI×LK)→Prop) (out:LI) (l30002:Int) (l700012:LK):Prop :=
  Kf ((1:Int),l30002,out,l700012)
def VCc58_l2 (c0:Int) (c1:Int) (c2:Int) (c3:LR) (c4:LI) (R:Int→Int→Int→Int→LK→(LI×LK→Prop)→Prop) (v31:Int) (Kf:(Int×Int×LI×LK)→Prop) (ret55v:(List (Int×Int))) (v72:Int) (out:LI) (i3:Int) (l700012:LK) (X2:Int×LI×Int×LK→Prop):Prop :=
  (((decide (v72<(((c3.getD (v31).toNat ((0:Int),([]:LI))).2).length:Int)))=true→(inIdx v72 ((c3.getD (v31).toNat ((0:Int),([]:LI))).2).length∧(InR (v72+(1:Int))∧(0≤(v72+(1:Int))∧(v72+(1:Int))≤(((c3.getD (v31).toNat ((0:Int),([]:LI))).2).length:Int))∧InR (v72+(1:Int))∧(0≤(v72+(1:Int))∧(v72+(1:Int))≤(ret55v.length:Int))∧VCcr71 c0 c1 c2 c3 c4 (((c3.getD (v31).toNat ((0:Int),([]:LI))).2).drop ((v72+(1:Int))).toNat) (ret55v.drop ((v72+(1:Int))).toNat) l700012 (fun (ret87v:Int×LK)=>(inIdx v72 ret55v.length∧(0≤i3∧0<ret87v.1)∧R (((c3.getD (v31).toNat ((0:Int),([]:LI))).2).getD (v72).toNat (0:Int)) ((ret55v.getD (v72).toNat ((0:Int),(0:Int))).1) ((ret55v.getD (v72).toNat ((0:Int),(0:Int))).2) (i3 / ret87v.1) ret87v.2 (fun (ret98v:LI×LK)=>(roomW 8 (out.length+ret98v.1.length)∧((0≤i3∧0<ret87v.1)∧(InR (v72+(1:Int))∧X2 ((v72+(1:Int)),(out++ret98v.1),(i3 % ret87v.1),ret98v.2))))))))))∧((decide (v72<(((c3.getD (v31).toNat ((0:Int),([]:LI))).2).length:Int)))=false→VCc58_k3 Kf out i3 l700012))
def VCc58_y1 (c0:Int) (c1:Int) (c2:Int) (c3:LR) (c4:LI) (R:Int→Int→Int→Int→LK→(LI×LK→Prop)→Prop) (sign:Int) (v31:Int) (a51:LI) (c22:Int) (c6:LI) (c122:LK) (Kt:Int×LI×LK→Prop) (Kf:(Int×Int×LI×LK)→Prop):Prop :=
  VC70 sign a51 (fun (ret55v:(List (Int×Int)))=>VCcr71 c0 c1 c2 c3 c4 ((c3.getD (v31).toNat ((0:Int),([]:LI))).2) ret55v c122 (fun (ret60v:Int×LK)=>(((decide (ret60v.1≤c22))=true→(InR (c22-ret60v.1)∧Kt ((c22-ret60v.1),c6,ret60v.2)))∧((decide (ret60v.1≤c22))=false→Loop (σ:=Int×LI×Int×LK) (fun s X=>VCc58_l2 c0 c1 c2 c3 c4 R v31 Kf ret55v s.1 s.2.1 s.2.2.1 s.2.2.2 X) ((0:Int),[v31],c22,ret60v.2)))))
def VCc58_l1 (c0:Int) (c1:Int) (c2:Int) (c3:LR) (c4:LI) (R:Int→Int→Int→Int→LK→(LI×LK→Prop)→Prop) (c:Int) (sign:Int) (over:Int) (K:LI×LK→Prop) (v31:Int) (i2:Int) (l6160:LI) (l70001:LK) (X1:Int×Int×LI×LK→Prop):Prop :=
  (((decide (v31<(c3.length:Int)))=true→(inIdx v31 c3.length∧(InR (c-c0)∧(((!decide ((c3.getD (v31).toNat ((0:Int),([]:LI))).1=(c-c0)))=true→VCc58_k2 v31 X1 i2 l6160 l70001)∧((!decide ((c3.getD (v31).toNat ((0:Int),([]:LI))).1=(c-c0)))=false→VCcr85y6 (((c3.getD (v31).toNat ((0:Int),([]:LI))).2).length:Int) (sign,over) c0 c1 c2 c3 c4 sign over v31 ((c3.getD (v31).toNat ((0:Int),([]:LI))).1) ((c3.getD (v31).toNat ((0:Int),([]:LI))).2) (VCc58_y1 c0 c1 c2 c3 c4 R sign v31) ([]:List Int) (0:Int) l70001 i2 l6160 (fun (ret7v:Bool×Int×LK×Int×LI)=>((decide (ret7v.2.1=(0:Int))=true→VCc58_k2 v31 X1 ret7v.2.2.2.1 ret7v.2.2.2.2 ret7v.2.2.1)∧(decide (ret7v.2.1=(0:Int))=false→(ret7v.2.1=(1:Int)∧K (ret7v.2.2.2.2,ret7v.2.2.1))))))))))∧((decide (v31<(c3.length:Int)))=false→VCc58_k1 K l6160 l70001))
def VCc58 (c0:Int) (c1:Int) (c2:Int) (c3:LR) (c4:LI) (R:Int→Int→Int→Int→LK→(LI×LK→Prop)→Prop) (c:Int) (sign:Int) (over:Int) (i:Int) (c5:LK) (K:LI×LK→Prop):Prop :=
  (((decide (c<c0))=true→K (([]:List Int),c5))∧((decide (c<c0))=false→Loop (σ:=Int×Int×LI×LK) (fun s X=>VCc58_l1 c0 c1 c2 c3 c4 R c sign over K s.1 s.2.1 s.2.2.1 s.2.2.2 X) ((0:Int),i,([]:List Int),c5)))
set_option maxHeartbeats 4000000 in
theorem linkc58 (c0:Int) (c1:Int) (c2:Int) (c3:LR) (c4:LI) (R:Int→Int→Int→Int→LK→(LI×LK→Prop)→Prop) (hR:∀ (c:Int) (sign:Int) (over:Int) (i:Int) (c5:LK) (K:LI×LK→Prop),R c sign over i c5 K→LCalls Try.prog 58 [70000,70001] [70000] [e44b0 c0 c1 c2 c3 c4,e44b13 c5] [.c (.ptr 70000 0),.c (.pI c),.agg [.pI sign,.pI over],.c (.pI i)] (fun av hp'=>∃ y:LI×LK,av=.v (.c (.pS y.1))∧hp'=[e44b0 c0 c1 c2 c3 c4,(70001,[],.dict (.pr tI t3) tI y.2)]∧K y)) (c:Int) (sign:Int) (over:Int) (i:Int) (c5:LK) (K:LI×LK→Prop) (h:VCc58 c0 c1 c2 c3 c4 R c sign over i c5 K):LCalls Try.prog 58 [70000,70001] [70000] [e44b0 c0 c1 c2 c3 c4,e44b13 c5] [.c (.ptr 70000 0),.c (.pI c),.agg [.pI sign,.pI over],.c (.pI i)] (fun av hp'=>∃ y:LI×LK,av=.v (.c (.pS y.1))∧hp'=[e44b0 c0 c1 c2 c3 c4,(70001,[],.dict (.pr tI t3) tI y.2)]∧K y):=by
 refine lcalls_of_aw [70000,70001] [70000] [.c 8 31] Try.func58 rfl rfl (by kernel_rfl) (by kernel_rfl) (by kernel_rfl) ?_
 refine aw_conv [] (st':=(⟨106,[sp 0 70000,sI 1 c,sA 2 [.pI sign,.pI over],sI 3 i,e44b39],[e44b0 c0 c1 c2 c3 c4,e44b13 c5]⟩:St)) (by kernel_rfl) ?_
 unfold VCc58 at h
 refine srn 4 ⟨106,[sI 1 c,sp 4 4,sp 6 6,sp 7 7,sp 8 8,e44b39],[e44b42,e44b34 sign over,hB 7 [.pI i],hB 8 [.nils],e44b0 c0 c1 c2 c3 c4,e44b13 c5]⟩ (by kernel_rfl) rfl ?_
 refine aw_seq ?_
 refine srn 7 ⟨106,[sI 1 c,sp 4 4,sp 6 6,sp 7 7,sp 8 8,sB 24 (decide (c<c0)),e44b39],[e44b42,e44b34 sign over,hB 7 [.pI i],hB 8 [.nils],e44b0 c0 c1 c2 c3 c4,e44b13 c5]⟩ (by kernel_rfl) rfl ?_
 refine aw_cond (b:=(decide (c<c0))) (by kernel_rfl) (fun hb=>?_) (fun hb=>?_)
 ·have h:=h.1 hb
  refine srn 1 ⟨106,[sp 8 8,e44b39],[hB 8 [.nils],e44b0 c0 c1 c2 c3 c4,e44b13 c5]⟩ (by kernel_rfl) rfl ?_
  refine aw_conv [.nilPB 8 0 tI,.prune [8,106] [70000,70001,8]] (st':=(⟨106,[sp 8 8,e44b39],[e44b0 c0 c1 c2 c3 c4,e44b13 c5,hB 8 [.pS ([]:List Int)]]⟩:St)) (by kernel_rfl) ?_
  refine aw_ret ?_
  refine thenQ_r ?_
  exact lret_r (σ:=LI×LK) (A:=fun y=>.v (.c (.pS y.1))) (H:=fun y=>[e44b0 c0 c1 c2 c3 c4,(70001,[],.dict (.pr tI t3) tI y.2)]) (ob:=True) (([]:List Int),c5) (by kernel_rfl) trivial rfl (by kernel_rfl) (by kernel_rfl) (by kernel_rfl) h
 ·have h:=h.2 hb
  refine aw_skip ?_
  refine thenQ_n ?_
  refine aw_seq ?_
  refine srn 7 ⟨106,[sI 1 c,sp 4 4,sp 6 6,sp 7 7,sp 8 8,e44b12 c3,e44b38 c3,sI 31 (0:Int),e44b39],[e44b42,e44b34 sign over,hB 7 [.pI i],hB 8 [.nils],e44b0 c0 c1 c2 c3 c4,e44b13 c5]⟩ (by kernel_rfl) rfl ?_
  refine withJoin (σ:=LI×LK) (fun s=>(⟨106,[sp 8 8,e44b39],[e44b48,hA 6160 3 tI s.1,e44b0 c0 c1 c2 c3 c4,(70001,[],.dict (.pr tI t3) tI s.2)]⟩:St)) (fun s=>VCc58_k1 K s.1 s.2) (fun s h=>?_) (fun rest1=>?_)
  ·obtain ⟨l6160,l70001⟩:=s
   have h:VCc58_k1 K l6160 l70001:=h
   unfold VCc58_k1 at h
   refine thenQ_n ?_
   refine srn 1 ⟨106,[sp 8 8,e44b39],[hB 8 [.nils],e44b0 c0 c1 c2 c3 c4,e44b5 l70001]⟩ (by kernel_rfl) rfl ?_
   refine aw_conv [.nilPB 8 0 tI,.prune [8,106] [70000,70001,8]] (st':=(⟨106,[sp 8 8,e44b39],[e44b0 c0 c1 c2 c3 c4,e44b5 l70001,hB 8 [.pS ([]:List Int)]]⟩:St)) (by kernel_rfl) ?_
   refine aw_ret ?_
   exact lret_r (σ:=LI×LK) (A:=fun y=>.v (.c (.pS y.1))) (H:=fun y=>[e44b0 c0 c1 c2 c3 c4,(70001,[],.dict (.pr tI t3) tI y.2)]) (ob:=True) (([]:List Int),l70001) (by kernel_rfl) trivial rfl (by kernel_rfl) (by kernel_rfl) (by kernel_rfl) h
  ·refine aw_block ?_
   refine aw_conv [.nilOwnB 8 0 6160 3 tI,.prune [1,4,6,7,8,29,30,31,106] [4,6,7,8,6160,70000,70001]] (st':=(⟨106,[sI 1 c,sp 4 4,sp 6 6,sp 7 7,sp 8 8,e44b12 c3,e44b38 c3,sI 31 (0:Int),e44b39],[e44b42,e44b34 sign over,hB 7 [.pI i],e44b48,hA 6160 3 tI ([]:List Int),e44b0 c0 c1 c2 c3 c4,e44b13 c5]⟩:St)) (by kernel_rfl) ?_
   refine aw_loop (σ:=Int×Int×LI×LK) (fun s=>(⟨106,[sI 1 c,sp 4 4,sp 6 6,sp 7 7,sp 8 8,e44b12 c3,e44b38 c3,sI 31 s.1,e44b39],[e44b42,e44b34 sign over,hB 7 [.pI s.2.1],e44b48,hA 6160 3 tI s.2.2.1,e44b0 c0 c1 c2 c3 c4,(70001,[],.dict (.pr tI t3) tI s.2.2.2)]⟩:St)) (fun s X=>VCc58_l1 c0 c1 c2 c3 c4 R c sign over K s.1 s.2.1 s.2.2.1 s.2.2.2 X) (s0:=((0:Int),i,([]:List Int),c5)) (fun s X1 h=>?_) h
   obtain ⟨v31,i2,l6160,l70001⟩:=s
   have h:VCc58_l1 c0 c1 c2 c3 c4 R c sign over K v31 i2 l6160 l70001 X1:=h
   unfold VCc58_l1 at h
   refine srn 1 ⟨106,[sI 1 c,sp 4 4,sp 6 6,sp 7 7,sp 8 8,e44b12 c3,e44b38 c3,sI 31 v31,sB 32 (decide (v31<(c3.length:Int))),e44b39],[e44b42,e44b34 sign over,hB 7 [.pI i2],e44b48,e44b50 l6160,e44b0 c0 c1 c2 c3 c4,e44b5 l70001]⟩ (by kernel_rfl) rfl ?_
   refine aw_seq ?_
   refine aw_cond (b:=(decide (v31<(c3.length:Int)))) (by kernel_rfl) (fun hb=>?_) (fun hb=>?_)
   ·have h:=h.1 hb
    refine aw_skip ?_
    refine thenQ_n ?_
    refine aw_seq ?_
    refine withJoin (σ:=Int×LI×LK) (fun s=>(⟨106,[sI 1 c,sp 4 4,sp 6 6,sp 7 7,sp 8 8,e44b12 c3,e44b38 c3,sI 31 v31,e44b39],[e44b42,e44b34 sign over,hB 7 [.pI s.1],e44b48,hA 6160 3 tI s.2.1,e44b0 c0 c1 c2 c3 c4,(70001,[],.dict (.pr tI t3) tI s.2.2)]⟩:St)) (fun s=>VCc58_k2 v31 X1 s.1 s.2.1 s.2.2) (fun s h=>?_) (fun rest2=>?_)
    ·obtain ⟨i3,l61602,l700012⟩:=s
     have h:VCc58_k2 v31 X1 i3 l61602 l700012:=h
     unfold VCc58_k2 at h
     refine thenQ_n ?_
     refine aw_region ?_
     obtain ⟨o1,h⟩:=h
     refine rq 2 (ob:=(InR (v31+(1:Int))∧Ts 1 True)) (st':=(⟨106,[sI 1 c,sp 4 4,sp 6 6,sp 7 7,sp 8 8,e44b12 c3,e44b38 c3,sI 31 (v31+(1:Int)),e44b39],[e44b42,e44b34 sign over,hB 7 [.pI i3],e44b48,hA 6160 3 tI l61602,e44b0 c0 c1 c2 c3 c4,e44b14 l700012]⟩:St)) (by kernel_rfl) (⟨o1,tsI 1 trivial⟩) ?_
     refine awl_nil ?_
     exact thenQ_n ⟨((v31+(1:Int)),i3,l61602,l700012),rfl,h⟩
    ·refine aw_block ?_
     refine sr ?_
     obtain ⟨o1,h⟩:=h
     refine rq 7 (ob:=(Ts 1 (inIdx v31 c3.length∧Ts 5 True))) (st':=(⟨106,[sI 1 c,sp 4 4,sp 6 6,sp 7 7,sp 8 8,sp 9 9,sp 10 10,e44b12 c3,e44b38 c3,sI 31 v31,e44b39],[e44b42,e44b34 sign over,hB 7 [.pI i2],e44b48,hB 9 [.pI v31],e44b30 c3 v31,e44b50 l6160,e44b0 c0 c1 c2 c3 c4,e44b5 l70001]⟩:St)) (by kernel_rfl) (tsI 1 ⟨o1,tsI 5 trivial⟩) ?_
     refine nn ?_
     refine aw_seq ?_
     refine aw_seq ?_
     refine awd_begin [] (by kernel_rfl) ?_
     obtain ⟨o1,h⟩:=h
     refine drq (by kernel_rfl) e44bn3 (ob:=(Ts 8 (InR (c-c0)∧Ts 1 True))) (done':=e44bn4) (st':=(⟨106,[sI 1 c,sp 4 4,sp 6 6,sp 7 7,sp 8 8,sp 9 9,sp 10 10,e44b12 c3,e44b38 c3,sI 31 v31,sB 45 (!decide ((c3.getD (v31).toNat ((0:Int),([]:LI))).1=(c-c0))),e44b39],[e44b42,e44b34 sign over,hB 7 [.pI i2],e44b48,hB 9 [.pI v31],e44b30 c3 v31,e44b50 l6160,e44b0 c0 c1 c2 c3 c4,e44b5 l70001]⟩:St)) (by kernel_rfl) (tsI 8 ⟨o1,tsI 1 trivial⟩) ?_
     refine awd_done (by kernel_rfl) ?_
     refine thenQ_n ?_
     refine aw_cond (b:=(!decide ((c3.getD (v31).toNat ((0:Int),([]:LI))).1=(c-c0)))) (by kernel_rfl) (fun hb=>?_) (fun hb=>?_)
     ·have h:=h.1 hb
      refine cpr (st':=(⟨106,[sI 1 c,sp 4 4,sp 6 6,sp 7 7,sp 8 8,e44b12 c3,e44b38 c3,sI 31 v31,e44b39],[e44b42,e44b34 sign over,hB 7 [.pI i2],e44b48,e44b50 l6160,e44b0 c0 c1 c2 c3 c4,e44b5 l70001]⟩:St)) (by kernel_rfl) ?_
      refine aw_exit ?_
      refine thenQ_x ?_
      refine blockQ_hit ?_
      exact rest2 (i2,l6160,l70001) h
     ·have h:=h.2 hb
      refine aw_skip ?_
      refine thenQ_n ?_
      refine sr ?_
      refine rqT 4 ⟨106,[sI 1 c,sp 4 4,sp 6 6,sp 7 7,sp 8 8,sp 9 9,sp 10 10,e44b12 c3,e44b38 c3,sI 31 v31,sI 48 (((c3.getD (v31).toNat ((0:Int),([]:LI))).2).length:Int),sA 49 [.pI sign,.pI over],e44b39],[e44b42,e44b34 sign over,hB 7 [.pI i2],e44b48,hB 9 [.pI v31],e44b30 c3 v31,e44b50 l6160,e44b0 c0 c1 c2 c3 c4,e44b5 l70001]⟩ (by kernel_rfl) ?_
      refine awl_conv [.ren 4 30000,.ren 6 30001,.ren 7 30002,.ren 8 30003,.ren 9 30004,.ren 10 30005,.ren 6160 30006] (st':=(⟨106,[sI 1 c,e44b36,sp 6 30001,e44b37,e44b32,e44b53,e44b33,e44b12 c3,e44b38 c3,sI 31 v31,sI 48 (((c3.getD (v31).toNat ((0:Int),([]:LI))).2).length:Int),sA 49 [.pI sign,.pI over],e44b39],[e44b4,e44b2 sign over,e44b44 i2,e44b7,e44b9 v31,e44b1 c3 v31,e44b27 l6160,e44b0 c0 c1 c2 c3 c4,e44b5 l70001]⟩:St)) (by kernel_rfl) ?_
      refine awl_inlr [.t 4] e44bn1 [.c (.pI (((c3.getD (v31).toNat ((0:Int),([]:LI))).2).length:Int)),.agg [.pI sign,.pI over]] [] rfl rfl (by kernel_rfl) rfl (by kernel_rfl) Try.call69 (by kernel_rfl) (by kernel_rfl) Try.func69 rfl rfl (by kernel_rfl) ?_
      refine aw_conv [] (st':=(⟨6,[sI 0 (((c3.getD (v31).toNat ((0:Int),([]:LI))).2).length:Int),sA 1 [.pI sign,.pI over],sI 7 c,sp 10 30000,sp 12 30001,sp 13 30002,sp 14 30003,sp 15 30004,sp 16 30005,e44b46 c3,sI 36 (c3.length:Int),sI 37 v31,sI 54 (((c3.getD (v31).toNat ((0:Int),([]:LI))).2).length:Int),sA 55 [.pI sign,.pI over],e44b19],[e44b4,e44b2 sign over,e44b44 i2,e44b7,e44b9 v31,e44b1 c3 v31,e44b27 l6160,e44b0 c0 c1 c2 c3 c4,e44b5 l70001]⟩:St)) (by kernel_rfl) ?_
      refine sr ?_
      refine rqT 3 ⟨6,[sp 2 2,sp 3 3,sI 7 c,sp 10 30000,sp 12 30001,sp 13 30002,sp 14 30003,sp 15 30004,sp 16 30005,e44b46 c3,sI 36 (c3.length:Int),sI 37 v31,e44b19],[hB 2 [.pI (((c3.getD (v31).toNat ((0:Int),([]:LI))).2).length:Int)],hB 3 [.pI sign,.pI over],e44b4,e44b2 sign over,e44b44 i2,e44b7,e44b9 v31,e44b1 c3 v31,e44b27 l6160,e44b0 c0 c1 c2 c3 c4,e44b5 l70001]⟩ (by kernel_rfl) ?_
      refine nsr ?_
      refine awl_conv [.freezeB 2 tI,.freezeB 3 (.pr tI tI)] (st':=(⟨6,[s1 2 (.ad tI (((c3.getD (v31).toNat ((0:Int),([]:LI))).2).length:Int)),s1 3 (.ad (.pr tI tI) (sign,over)),sI 7 c,sp 10 30000,sp 12 30001,sp 13 30002,sp 14 30003,sp 15 30004,sp 16 30005,e44b46 c3,sI 36 (c3.length:Int),sI 37 v31,e44b19],[e44b4,e44b2 sign over,e44b44 i2,e44b7,e44b9 v31,e44b1 c3 v31,e44b27 l6160,e44b0 c0 c1 c2 c3 c4,e44b5 l70001]⟩:St)) (by kernel_rfl) ?_
      refine rqT 2 ⟨6,[s1 4 (.fn 84 [(⟨tI,(((c3.getD (v31).toNat ((0:Int),([]:LI))).2).length:Int)⟩:Dat),(⟨(.pr tI tI),(sign,over)⟩:Dat)]),sI 7 c,sp 10 30000,sp 12 30001,sp 13 30002,sp 14 30003,sp 15 30004,sp 16 30005,e44b46 c3,sI 36 (c3.length:Int),sI 37 v31,e44b19],[e44b4,e44b2 sign over,e44b44 i2,e44b7,e44b9 v31,e44b1 c3 v31,e44b27 l6160,e44b0 c0 c1 c2 c3 c4,e44b5 l70001]⟩ (by kernel_rfl) ?_
      refine nn ?_
      refine aw_ret ?_
      refine inlR_r (ob:=True) (.v (.c (.fn 84 [(⟨tI,(((c3.getD (v31).toNat ((0:Int),([]:LI))).2).length:Int)⟩:Dat),(⟨(.pr tI tI),(sign,over)⟩:Dat)]))) (by kernel_rfl) trivial rfl ?_
      refine lpr (st':=(⟨106,[sI 1 c,e44b36,sp 6 30001,e44b37,e44b32,e44b53,e44b33,e44b12 c3,e44b38 c3,sI 31 v31,s1 50 (.fn 84 [(⟨tI,(((c3.getD (v31).toNat ((0:Int),([]:LI))).2).length:Int)⟩:Dat),(⟨(.pr tI tI),(sign,over)⟩:Dat)]),e44b39],[e44b4,e44b2 sign over,e44b44 i2,e44b7,e44b9 v31,e44b1 c3 v31,e44b27 l6160,e44b0 c0 c1 c2 c3 c4,e44b5 l70001]⟩:St)) (by kernel_rfl) ?_
      refine nn ?_
      refine aw_block ?_
      refine aw_cq ?_
      refine aw_rangeFunc 37100 90100 [4,6,7,8,9,10] e44bn0 [.c (.ad tI (((c3.getD (v31).toNat ((0:Int),([]:LI))).2).length:Int)),.c (.ad (.pr tI tI) (sign,over))] (by kernel_rfl) Try.call84 Try.func84 rfl rfl (by kernel_rfl) (fun _=>by kernel_rfl) (fun lr1 hps has hbd hnn=>?_)
      have hY1:∀ (a51:LI) (c22:Int) (c6:LI) (c122:LK) (Kt:Int×LI×LK→Prop) (Kf:(Int×Int×LI×LK)→Prop) (h:VCc58_y1 c0 c1 c2 c3 c4 R sign v31 a51 c22 c6 c122 Kt Kf),LYCalls Try.prog 37100 e44bn0 e44bn2 [(37100,[],.lp lr1 (0:Int) (VCc58_s1 30000 30001 30002 30003 30004 30005 c)),e44b4,e44b2 sign over,e44b41 c22,e44b7,e44b9 v31,e44b1 c3 v31,e44b10 c6,e44b0 c0 c1 c2 c3 c4,e44b15 c122] [.c (.pS a51)] (fun av hp'=>(∃ y:Int×LI×LK,av=.v (.c (.p .bool true))∧hp'=[(37100,[],.lp lr1 (0:Int) (VCc58_s1 30000 30001 30002 30003 30004 30005 c)),e44b4,e44b2 sign over,hB 30002 [.pI y.1],e44b7,e44b9 v31,e44b1 c3 v31,hA 30006 3 tI y.2.1,e44b0 c0 c1 c2 c3 c4,(70001,[],.dict (.pr tI t3) tI y.2.2)]∧Kt y)∨(∃ y:Int×Int×LI×LK,av=.v (.c (.p .bool false))∧hp'=[(37100,[],.lp lr1 y.1 (VCc58_s1 30000 30001 30002 30003 30004 30005 c)),e44b4,e44b2 sign over,hB 30002 [.pI y.2.1],e44b7,e44b9 v31,e44b1 c3 v31,hA 30006 3 tI y.2.2.1,e44b0 c0 c1 c2 c3 c4,(70001,[],.dict (.pr tI t3) tI y.2.2.2)]∧Kf y)):=by
       intro a51 c22 c6 c122 Kt Kf h
       refine lyield_of_aw (sl:=VCc58_s1 30000 30001 30002 30003 30004 30005 c) (hp1:=[e44b4,e44b2 sign over,e44b41 c22,e44b7,e44b9 v31,e44b1 c3 v31,e44b10 c6,e44b0 c0 c1 c2 c3 c4,e44b15 c122]) e44bn0 e44bn2 e44bn1 [30000,30001,30002,30003,30004,30005,70000] hps has hbd hnn (by kernel_rfl) (by kernel_rfl) (by decide) (by kernel_rfl) (by kernel_rfl) (by kernel_rfl) (by kernel_rfl) ?_
       refine aw_conv [] (st':=(⟨106,[s1 51 (.pS a51),e44b36,sp 6 30001,e44b37,e44b32,e44b53,e44b33,e44b21,e44b22,e44b23,e44b24,e44b25,e44b26,e44b19],[e44b4,e44b2 sign over,e44b41 c22,e44b7,e44b9 v31,e44b1 c3 v31,e44b10 c6,e44b0 c0 c1 c2 c3 c4,e44b15 c122]⟩:St)) (by kernel_rfl) ?_
       unfold VCc58_y1 at h
       refine aw_region ?_
       refine rqT 1 ⟨106,[e44b36,sp 6 30001,e44b37,e44b32,e44b53,e44b33,s1 11 (.pS a51),e44b21,e44b22,e44b23,e44b24,e44b25,e44b26,e44b19],[e44b4,e44b2 sign over,e44b41 c22,e44b7,e44b9 v31,e44b1 c3 v31,e44b10 c6,e44b0 c0 c1 c2 c3 c4,e44b15 c122]⟩ (by kernel_rfl) ?_
       refine awl_nil ?_
       refine asgQ_n ?_
       refine aw_block ?_
       refine sr ?_
       refine rqT 3 ⟨106,[e44b36,e44b37,e44b32,e44b53,e44b33,sI 53 sign,s1 54 (.pS a51),e44b21,e44b22,e44b23,e44b24,e44b25,e44b26,e44b19],[e44b4,e44b2 sign over,e44b41 c22,e44b7,e44b9 v31,e44b1 c3 v31,e44b10 c6,e44b0 c0 c1 c2 c3 c4,e44b15 c122]⟩ (by kernel_rfl) ?_
       refine lcq (d:=55) [.d tI,.d (.sl tI)] (fun ret55v=>(⟨106,[e44b36,e44b37,e44b32,e44b53,e44b33,s1 55 (.p (.sl (.pr tI tI)) ret55v),e44b21,e44b22,e44b23,e44b24,e44b25,e44b26,e44b19],[e44b4,e44b2 sign over,e44b41 c22,e44b7,e44b9 v31,e44b1 c3 v31,e44b10 c6,e44b0 c0 c1 c2 c3 c4,e44b15 c122]⟩:St)) (by kernel_rfl) Try.call70 (fun _=>by kernel_rfl) (link70 sign a51 _ h) (fun ret55v h=>?_)
       refine rqT 1 ⟨106,[e44b36,e44b37,e44b32,e44b53,e44b33,e44b3 ret55v,e44b21,e44b22,e44b23,e44b24,e44b25,e44b26,e44b19],[e44b4,e44b2 sign over,e44b41 c22,e44b7,e44b9 v31,e44b1 c3 v31,e44b10 c6,e44b0 c0 c1 c2 c3 c4,e44b15 c122]⟩ (by kernel_rfl) ?_
       refine nsr ?_
       refine rqT 4 ⟨106,[e44b36,e44b37,e44b32,e44b53,e44b33,e44b3 ret55v,sp 56 70000,s1 58 (.pS ((c3.getD (v31).toNat ((0:Int),([]:LI))).2)),s1 59 (.p (.sl (.pr tI tI)) ret55v),e44b21,e44b22,e44b23,e44b24,e44b25,e44b26,e44b19],[e44b4,e44b2 sign over,e44b41 c22,e44b7,e44b9 v31,e44b1 c3 v31,e44b10 c6,e44b0 c0 c1 c2 c3 c4,e44b15 c122]⟩ (by kernel_rfl) ?_
       refine awl_lcall (σ:=Int×LK) [70000,70001] [70000] [.c (.ptr 70000 0),.c (.pS ((c3.getD (v31).toNat ((0:Int),([]:LI))).2)),.c (.p (.sl (.pr tI tI)) ret55v)] [] (fun ret60v=>.v (.c (.pI ret60v.1))) (fun ret60v=>[e44b0 c0 c1 c2 c3 c4,e44b17 ret60v]) (_) [e44b0 c0 c1 c2 c3 c4,e44b15 c122] (fun ret60v=>(⟨106,[sI 60 ret60v.1,e44b36,e44b37,e44b32,e44b53,e44b33,e44b3 ret55v,sp 56 70000,s1 58 (.pS ((c3.getD (v31).toNat ((0:Int),([]:LI))).2)),s1 59 (.p (.sl (.pr tI tI)) ret55v),e44b21,e44b22,e44b23,e44b24,e44b25,e44b26,e44b19],[e44b0 c0 c1 c2 c3 c4,e44b17 ret60v,e44b4,e44b2 sign over,e44b41 c22,e44b7,e44b9 v31,e44b1 c3 v31,e44b10 c6]⟩:St)) rfl rfl (by kernel_rfl) rfl (by kernel_rfl) Try.call71 (by kernel_rfl) (by kernel_rfl) (by kernel_rfl) (fun _ _=>rfl) (fun _=>by kernel_rfl) (linkcr71 c0 c1 c2 c3 c4 ((c3.getD (v31).toNat ((0:Int),([]:LI))).2) ret55v c122 _ h) (fun ret60v h=>?_)
       refine lpr (st':=(⟨106,[e44b36,e44b37,e44b32,e44b53,e44b33,e44b3 ret55v,sI 60 ret60v.1,e44b21,e44b22,e44b23,e44b24,e44b25,e44b26,e44b19],[e44b4,e44b2 sign over,e44b41 c22,e44b7,e44b9 v31,e44b1 c3 v31,e44b10 c6,e44b0 c0 c1 c2 c3 c4,e44b17 ret60v]⟩:St)) (by kernel_rfl) ?_
       refine rqT 1 ⟨106,[e44b36,e44b37,e44b32,e44b53,e44b33,e44b3 ret55v,sI 13 ret60v.1,e44b21,e44b22,e44b23,e44b24,e44b25,e44b26,e44b19],[e44b4,e44b2 sign over,e44b41 c22,e44b7,e44b9 v31,e44b1 c3 v31,e44b10 c6,e44b0 c0 c1 c2 c3 c4,e44b17 ret60v]⟩ (by kernel_rfl) ?_
       refine nn ?_
       refine aw_seq ?_
       refine srn 3 ⟨106,[e44b36,e44b37,e44b32,e44b53,e44b33,e44b3 ret55v,sI 13 ret60v.1,sB 63 (decide (ret60v.1≤c22)),e44b21,e44b22,e44b23,e44b24,e44b25,e44b26,e44b19],[e44b4,e44b2 sign over,e44b41 c22,e44b7,e44b9 v31,e44b1 c3 v31,e44b10 c6,e44b0 c0 c1 c2 c3 c4,e44b17 ret60v]⟩ (by kernel_rfl) rfl ?_
       refine aw_cond (b:=(decide (ret60v.1≤c22))) (by kernel_rfl) (fun hb=>?_) (fun hb=>?_)
       ·have h:=h.1 hb
        refine sr ?_
        obtain ⟨o1,h⟩:=h
        refine rq 4 (ob:=(Ts 2 (InR (c22-ret60v.1)∧Ts 1 True))) (st':=(⟨106,[e44b21,e44b22,e44b23,e44b24,e44b25,e44b26,e44b19],[e44b4,e44b2 sign over,hB 30002 [.pI (c22-ret60v.1)],e44b7,e44b9 v31,e44b1 c3 v31,e44b10 c6,e44b0 c0 c1 c2 c3 c4,e44b17 ret60v]⟩:St)) (by kernel_rfl) (tsI 2 ⟨o1,tsI 1 trivial⟩) ?_
        refine nn ?_
        refine aw_exit ?_
        refine thenQ_x ?_
        refine blockQ_hit ?_
        exact yret_n ((c22-ret60v.1),c6,ret60v.2) (by kernel_rfl) (by kernel_rfl) h
       ·have h:=h.2 hb
        refine aw_skip ?_
        refine thenQ_n ?_
        refine srn 3 ⟨106,[e44b36,e44b37,e44b32,e44b33,e44b3 ret55v,e44b54,e44b21,e44b22,e44b23,e44b24,e44b25,e44b26,e44b19],[hA 68 3 tI [v31],e44b4,e44b2 sign over,e44b41 c22,e44b7,e44b9 v31,e44b1 c3 v31,e44b10 c6,e44b0 c0 c1 c2 c3 c4,e44b17 ret60v]⟩ (by kernel_rfl) rfl ?_
        refine aw_seq ?_
        refine srn 4 ⟨106,[e44b36,e44b37,e44b32,e44b33,e44b3 ret55v,e44b54,e44b8 c3 v31,e44b6 c3 v31,sI 72 (0:Int),e44b21,e44b22,e44b23,e44b24,e44b25,e44b26,e44b19],[hA 68 3 tI [v31],e44b4,e44b2 sign over,e44b41 c22,e44b7,e44b9 v31,e44b1 c3 v31,e44b10 c6,e44b0 c0 c1 c2 c3 c4,e44b17 ret60v]⟩ (by kernel_rfl) rfl ?_
        refine withJoin (σ:=LI×Int×LK) (fun s=>(⟨106,[e44b32,e44b54,e44b21,e44b22,e44b23,e44b24,e44b25,e44b26,e44b19],[hA 68 3 tI s.1,e44b4,e44b2 sign over,hB 30002 [.pI s.2.1],e44b7,e44b9 v31,e44b1 c3 v31,e44b10 c6,e44b0 c0 c1 c2 c3 c4,(70001,[],.dict (.pr tI t3) tI s.2.2)]⟩:St)) (fun s=>VCc58_k3 Kf s.1 s.2.1 s.2.2) (fun s h=>?_) (fun rest3=>?_)
        ·obtain ⟨out,l30002,l700012⟩:=s
         have h:VCc58_k3 Kf out l30002 l700012:=h
         unfold VCc58_k3 at h
         refine thenQ_n ?_
         refine srn 2 ⟨106,[e44b21,e44b22,e44b23,e44b24,e44b25,e44b26,e44b19],[hA 68 3 tI out,e44b4,e44b2 sign over,hB 30002 [.pI l30002],hB 30003 [.own 68],e44b9 v31,e44b1 c3 v31,e44b0 c0 c1 c2 c3 c4,e44b14 l700012]⟩ (by kernel_rfl) rfl ?_
         refine aw_conv [.ren 68 30006,.prune [106,107,108,109,110,111,112] e44bn1] (st':=(⟨106,[e44b21,e44b22,e44b23,e44b24,e44b25,e44b26,e44b19],[e44b4,e44b2 sign over,hB 30002 [.pI l30002],e44b7,e44b9 v31,e44b1 c3 v31,hA 30006 3 tI out,e44b0 c0 c1 c2 c3 c4,e44b14 l700012]⟩:St)) (by kernel_rfl) ?_
         refine aw_ret ?_
         refine blockQ_r ?_
         exact yret_r ((1:Int),l30002,out,l700012) (by kernel_rfl) (by kernel_rfl) h
        ·refine aw_block ?_
         refine aw_loop (σ:=Int×LI×Int×LK) (fun s=>(⟨106,[e44b36,e44b37,e44b32,e44b33,e44b3 ret55v,e44b54,e44b8 c3 v31,e44b6 c3 v31,sI 72 s.1,e44b21,e44b22,e44b23,e44b24,e44b25,e44b26,e44b19],[hA 68 3 tI s.2.1,e44b4,e44b2 sign over,hB 30002 [.pI s.2.2.1],e44b7,e44b9 v31,e44b1 c3 v31,e44b10 c6,e44b0 c0 c1 c2 c3 c4,(70001,[],.dict (.pr tI t3) tI s.2.2.2)]⟩:St)) (fun s X=>VCc58_l2 c0 c1 c2 c3 c4 R v31 Kf ret55v s.1 s.2.1 s.2.2.1 s.2.2.2 X) (s0:=((0:Int),[v31],c22,ret60v.2)) (fun s X2 h=>?_) h
         obtain ⟨v72,out,i3,l700012⟩:=s
         have h:VCc58_l2 c0 c1 c2 c3 c4 R v31 Kf ret55v v72 out i3 l700012 X2:=h
         unfold VCc58_l2 at h
         refine srn 1 ⟨106,[e44b36,e44b37,e44b32,e44b33,e44b3 ret55v,e44b54,e44b8 c3 v31,e44b6 c3 v31,sI 72 v72,sB 73 (decide (v72<(((c3.getD (v31).toNat ((0:Int),([]:LI))).2).length:Int))),e44b21,e44b22,e44b23,e44b24,e44b25,e44b26,e44b19],[hA 68 3 tI out,e44b4,e44b2 sign over,e44b45 i3,e44b7,e44b9 v31,e44b1 c3 v31,e44b10 c6,e44b0 c0 c1 c2 c3 c4,e44b14 l700012]⟩ (by kernel_rfl) rfl ?_
         refine aw_seq ?_
         refine aw_cond (b:=(decide (v72<(((c3.getD (v31).toNat ((0:Int),([]:LI))).2).length:Int)))) (by kernel_rfl) (fun hb=>?_) (fun hb=>?_)
         ·have h:=h.1 hb
          refine aw_skip ?_
          refine thenQ_n ?_
          refine aw_seq ?_
          refine aw_block ?_
          refine sr ?_
          obtain ⟨o1,h⟩:=h
          refine rq 5 (ob:=(Ts 1 (inIdx v72 ((c3.getD (v31).toNat ((0:Int),([]:LI))).2).length∧Ts 3 True))) (st':=(⟨106,[e44b36,e44b37,e44b32,e44b33,e44b3 ret55v,e44b54,sI 15 v72,e44b16 c3 v31 v72,e44b8 c3 v31,e44b6 c3 v31,sI 72 v72,e44b21,e44b22,e44b23,e44b24,e44b25,e44b26,e44b19],[hA 68 3 tI out,e44b4,e44b2 sign over,e44b45 i3,e44b7,e44b9 v31,e44b1 c3 v31,e44b10 c6,e44b0 c0 c1 c2 c3 c4,e44b14 l700012]⟩:St)) (by kernel_rfl) (tsI 1 ⟨o1,tsI 3 trivial⟩) ?_
          refine nn ?_
          refine aw_seq ?_
          refine aw_conv [.ren 68 30300] (st':=(⟨106,[e44b36,e44b37,e44b32,e44b33,e44b3 ret55v,e44b52,sI 15 v72,e44b16 c3 v31 v72,e44b8 c3 v31,e44b6 c3 v31,sI 72 v72,e44b21,e44b22,e44b23,e44b24,e44b25,e44b26,e44b19],[e44b47 out,e44b4,e44b2 sign over,e44b45 i3,e44b7,e44b9 v31,e44b1 c3 v31,e44b10 c6,e44b0 c0 c1 c2 c3 c4,e44b14 l700012]⟩:St)) (by kernel_rfl) ?_
          refine awd_begin [70000,70001] (by kernel_rfl) ?_
          obtain ⟨o1,o2,o3,o4,h⟩:=h
          refine drq (by kernel_rfl) e44bn3 (ob:=(Ts 4 (InR (v72+(1:Int))∧(0≤(v72+(1:Int))∧(v72+(1:Int))≤(((c3.getD (v31).toNat ((0:Int),([]:LI))).2).length:Int))∧Ts 2 (InR (v72+(1:Int))∧(0≤(v72+(1:Int))∧(v72+(1:Int))≤(ret55v.length:Int))∧True)))) (done':=e44bn4) (st':=(⟨106,[e44b36,e44b37,e44b32,e44b33,e44b3 ret55v,e44b52,sI 15 v72,e44b16 c3 v31 v72,e44b8 c3 v31,e44b6 c3 v31,sI 72 v72,sp 77 70000,s1 82 (.pS (((c3.getD (v31).toNat ((0:Int),([]:LI))).2).drop ((v72+(1:Int))).toNat)),s1 86 (.p (.sl (.pr tI tI)) (ret55v.drop ((v72+(1:Int))).toNat)),e44b21,e44b22,e44b23,e44b24,e44b25,e44b26,e44b19],[e44b4,e44b2 sign over,e44b45 i3,e44b7,e44b9 v31,e44b1 c3 v31,e44b10 c6,e44b47 out,e44b0 c0 c1 c2 c3 c4,e44b14 l700012]⟩:St)) (by kernel_rfl) (tsI 4 (⟨o1,⟨o2,tsI 2 (⟨o3,⟨o4,trivial⟩⟩)⟩⟩)) ?_
          refine awd_one (i:=10) (by kernel_rfl) ?_
          refine adop_lcall (σ:=Int×LK) [70000,70001] [70000] [.c (.ptr 70000 0),.c (.pS (((c3.getD (v31).toNat ((0:Int),([]:LI))).2).drop ((v72+(1:Int))).toNat)),.c (.p (.sl (.pr tI tI)) (ret55v.drop ((v72+(1:Int))).toNat))] [] (fun ret87v=>.v (.c (.pI ret87v.1))) (fun ret87v=>[e44b0 c0 c1 c2 c3 c4,e44b28 ret87v]) (_) [e44b0 c0 c1 c2 c3 c4,e44b14 l700012] (fun ret87v=>(⟨106,[sI 87 ret87v.1,e44b36,e44b37,e44b32,e44b33,e44b3 ret55v,e44b52,sI 15 v72,e44b16 c3 v31 v72,e44b8 c3 v31,e44b6 c3 v31,sI 72 v72,sp 77 70000,s1 82 (.pS (((c3.getD (v31).toNat ((0:Int),([]:LI))).2).drop ((v72+(1:Int))).toNat)),s1 86 (.p (.sl (.pr tI tI)) (ret55v.drop ((v72+(1:Int))).toNat)),e44b21,e44b22,e44b23,e44b24,e44b25,e44b26,e44b19],[e44b0 c0 c1 c2 c3 c4,e44b28 ret87v,e44b4,e44b2 sign over,e44b45 i3,e44b7,e44b9 v31,e44b1 c3 v31,e44b10 c6,e44b47 out]⟩:St)) rfl (by kernel_rfl) rfl rfl (by kernel_rfl) rfl (by kernel_rfl) Try.call71 (by kernel_rfl) (by kernel_rfl) (by kernel_rfl) (fun _ _=>rfl) (fun _=>by kernel_rfl) (linkcr71 c0 c1 c2 c3 c4 (((c3.getD (v31).toNat ((0:Int),([]:LI))).2).drop ((v72+(1:Int))).toNat) (ret55v.drop ((v72+(1:Int))).toNat) l700012 _ h) (fun ret87v h=>?_)
          refine dpr (st':=(⟨106,[e44b36,e44b37,e44b32,e44b33,e44b3 ret55v,e44b52,sI 15 v72,e44b16 c3 v31 v72,e44b8 c3 v31,e44b6 c3 v31,sI 72 v72,sI 87 ret87v.1,e44b21,e44b22,e44b23,e44b24,e44b25,e44b26,e44b19],[e44b4,e44b2 sign over,e44b45 i3,e44b7,e44b9 v31,e44b1 c3 v31,e44b10 c6,e44b47 out,e44b0 c0 c1 c2 c3 c4,e44b28 ret87v]⟩:St)) (by kernel_rfl) ?_
          refine drq (by kernel_rfl) [11] (ob:=(Ts 1 True)) (done':=[11,10,9,8,7,6,5,4,3,2,1,0]) (st':=(⟨106,[e44b36,e44b37,e44b32,e44b33,e44b3 ret55v,e44b52,sI 15 v72,e44b16 c3 v31 v72,sI 17 ret87v.1,e44b8 c3 v31,e44b6 c3 v31,sI 72 v72,e44b21,e44b22,e44b23,e44b24,e44b25,e44b26,e44b19],[e44b4,e44b2 sign over,e44b45 i3,e44b7,e44b9 v31,e44b1 c3 v31,e44b10 c6,e44b47 out,e44b0 c0 c1 c2 c3 c4,e44b28 ret87v]⟩:St)) (by kernel_rfl) (tsI 1 trivial) ?_
          refine awd_done (by kernel_rfl) ?_
          refine thenQ_n ?_
          refine aw_seq ?_
          refine awd_begin [30300,70000,70001] (by kernel_rfl) ?_
          obtain ⟨o1,o2,h⟩:=h
          refine drq (by kernel_rfl) e44bn3 (ob:=(Ts 5 (inIdx v72 ret55v.length∧Ts 3 ((0≤i3∧0<ret87v.1)∧True)))) (done':=e44bn4) (st':=(⟨106,[e44b36,e44b37,e44b32,e44b33,e44b3 ret55v,e44b52,sI 17 ret87v.1,e44b8 c3 v31,e44b6 c3 v31,sI 72 v72,s1 88 (.own 30300),sp 89 70000,sI 90 (((c3.getD (v31).toNat ((0:Int),([]:LI))).2).getD (v72).toNat (0:Int)),e44b43 ret55v v72,sI 97 (i3 / ret87v.1),e44b21,e44b22,e44b23,e44b24,e44b25,e44b26,e44b19],[e44b4,e44b2 sign over,e44b45 i3,e44b7,e44b9 v31,e44b1 c3 v31,e44b10 c6,e44b47 out,e44b0 c0 c1 c2 c3 c4,e44b28 ret87v]⟩:St)) (by kernel_rfl) (tsI 5 (⟨o1,tsI 3 ⟨o2,trivial⟩⟩)) ?_
          refine awd_one (i:=10) (by kernel_rfl) ?_
          refine adop_lcall (σ:=LI×LK) [70000,70001] [70000] [.c (.ptr 70000 0),.c (.pI (((c3.getD (v31).toNat ((0:Int),([]:LI))).2).getD (v72).toNat (0:Int))),.agg [.pI ((ret55v.getD (v72).toNat ((0:Int),(0:Int))).1),.pI ((ret55v.getD (v72).toNat ((0:Int),(0:Int))).2)],.c (.pI (i3 / ret87v.1))] [] (fun ret98v=>.v (.c (.pS ret98v.1))) (fun ret98v=>[e44b0 c0 c1 c2 c3 c4,e44b18 ret98v]) (_) [e44b0 c0 c1 c2 c3 c4,e44b28 ret87v] (fun ret98v=>(⟨106,[s1 98 (.pS ret98v.1),e44b36,e44b37,e44b32,e44b33,e44b3 ret55v,e44b52,sI 17 ret87v.1,e44b8 c3 v31,e44b6 c3 v31,sI 72 v72,s1 88 (.own 30300),sp 89 70000,sI 90 (((c3.getD (v31).toNat ((0:Int),([]:LI))).2).getD (v72).toNat (0:Int)),e44b43 ret55v v72,sI 97 (i3 / ret87v.1),e44b21,e44b22,e44b23,e44b24,e44b25,e44b26,e44b19],[e44b0 c0 c1 c2 c3 c4,e44b18 ret98v,e44b4,e44b2 sign over,e44b45 i3,e44b7,e44b9 v31,e44b1 c3 v31,e44b10 c6,e44b47 out]⟩:St)) rfl (by kernel_rfl) rfl rfl (by kernel_rfl) rfl (by kernel_rfl) Try.call58 (by kernel_rfl) (by kernel_rfl) (by kernel_rfl) (fun _ _=>rfl) (fun _=>by kernel_rfl) (hR (((c3.getD (v31).toNat ((0:Int),([]:LI))).2).getD (v72).toNat (0:Int)) ((ret55v.getD (v72).toNat ((0:Int),(0:Int))).1) ((ret55v.getD (v72).toNat ((0:Int),(0:Int))).2) (i3 / ret87v.1) ret87v.2 _ h) (fun ret98v h=>?_)
          refine dpr (st':=(⟨106,[e44b36,e44b37,e44b32,e44b33,e44b3 ret55v,e44b52,sI 17 ret87v.1,e44b8 c3 v31,e44b6 c3 v31,sI 72 v72,s1 88 (.own 30300),s1 98 (.pS ret98v.1),e44b21,e44b22,e44b23,e44b24,e44b25,e44b26,e44b19],[e44b4,e44b2 sign over,e44b45 i3,e44b7,e44b9 v31,e44b1 c3 v31,e44b10 c6,e44b47 out,e44b0 c0 c1 c2 c3 c4,e44b18 ret98v]⟩:St)) (by kernel_rfl) ?_
          refine awd_one (i:=11) (by kernel_rfl) ?_
          obtain ⟨o1,h⟩:=h
          refine dsq (ob:=roomW 8 (out.length+ret98v.1.length)) (st':=(⟨106,[e44b36,e44b37,e44b32,e44b33,e44b3 ret55v,sI 17 ret87v.1,e44b8 c3 v31,e44b6 c3 v31,sI 72 v72,s1 99 (.own 99),e44b21,e44b22,e44b23,e44b24,e44b25,e44b26,e44b19],[hA 99 3 tI (out++ret98v.1),e44b4,e44b2 sign over,e44b45 i3,e44b7,e44b9 v31,e44b1 c3 v31,e44b10 c6,e44b0 c0 c1 c2 c3 c4,e44b18 ret98v]⟩:St)) rfl (by kernel_rfl) o1 ?_
          refine drq (by kernel_rfl) [12] (ob:=(Ts 1 True)) (done':=[12,11,10,9,8,7,6,5,4,3,2,1,0]) (st':=(⟨106,[e44b36,e44b37,e44b32,e44b33,e44b3 ret55v,s1 14 (.own 99),sI 17 ret87v.1,e44b8 c3 v31,e44b6 c3 v31,sI 72 v72,e44b21,e44b22,e44b23,e44b24,e44b25,e44b26,e44b19],[hA 99 3 tI (out++ret98v.1),e44b4,e44b2 sign over,e44b45 i3,e44b7,e44b9 v31,e44b1 c3 v31,e44b10 c6,e44b0 c0 c1 c2 c3 c4,e44b18 ret98v]⟩:St)) (by kernel_rfl) (tsI 1 trivial) ?_
          refine awd_done (by kernel_rfl) ?_
          refine thenQ_n ?_
          refine aw_region ?_
          obtain ⟨o1,h⟩:=h
          refine rq 4 (ob:=(Ts 2 ((0≤i3∧0<ret87v.1)∧Ts 1 True))) (st':=(⟨106,[e44b36,e44b37,e44b32,e44b33,e44b3 ret55v,s1 14 (.own 99),e44b8 c3 v31,e44b6 c3 v31,sI 72 v72,e44b21,e44b22,e44b23,e44b24,e44b25,e44b26,e44b19],[hA 99 3 tI (out++ret98v.1),e44b4,e44b2 sign over,hB 30002 [.pI (i3 % ret87v.1)],e44b7,e44b9 v31,e44b1 c3 v31,e44b10 c6,e44b0 c0 c1 c2 c3 c4,e44b18 ret98v]⟩:St)) (by kernel_rfl) (tsI 2 ⟨o1,tsI 1 trivial⟩) ?_
          refine awl_nil ?_
          refine blockQ_n ?_
          refine thenQ_n ?_
          refine aw_region ?_
          obtain ⟨o1,h⟩:=h
          refine rq 2 (ob:=(InR (v72+(1:Int))∧Ts 1 True)) (st':=(⟨106,[e44b36,e44b37,e44b32,e44b33,e44b3 ret55v,s1 14 (.own 99),e44b8 c3 v31,e44b6 c3 v31,sI 72 (v72+(1:Int)),e44b21,e44b22,e44b23,e44b24,e44b25,e44b26,e44b19],[hA 99 3 tI (out++ret98v.1),e44b4,e44b2 sign over,hB 30002 [.pI (i3 % ret87v.1)],e44b7,e44b9 v31,e44b1 c3 v31,e44b10 c6,e44b0 c0 c1 c2 c3 c4,e44b18 ret98v]⟩:St)) (by kernel_rfl) (⟨o1,tsI 1 trivial⟩) ?_
          refine awl_conv [.ren 99 20099,.ren 20099 68] (st':=(⟨106,[e44b36,e44b37,e44b32,e44b33,e44b3 ret55v,e44b54,e44b8 c3 v31,e44b6 c3 v31,sI 72 (v72+(1:Int)),e44b21,e44b22,e44b23,e44b24,e44b25,e44b26,e44b19],[hA 68 3 tI (out++ret98v.1),e44b4,e44b2 sign over,hB 30002 [.pI (i3 % ret87v.1)],e44b7,e44b9 v31,e44b1 c3 v31,e44b10 c6,e44b0 c0 c1 c2 c3 c4,e44b18 ret98v]⟩:St)) (by kernel_rfl) ?_
          refine awl_nil ?_
          exact thenQ_n ⟨((v72+(1:Int)),(out++ret98v.1),(i3 % ret87v.1),ret98v.2),rfl,h⟩
         ·have h:=h.2 hb
          refine cpr (st':=(⟨106,[e44b32,e44b54,e44b21,e44b22,e44b23,e44b24,e44b25,e44b26,e44b19],[hA 68 3 tI out,e44b4,e44b2 sign over,e44b45 i3,e44b7,e44b9 v31,e44b1 c3 v31,e44b10 c6,e44b0 c0 c1 c2 c3 c4,e44b14 l700012]⟩:St)) (by kernel_rfl) ?_
          refine aw_exit ?_
          refine thenQ_x ?_
          refine thenQ_x ?_
          refine blockQ_hit ?_
          exact rest3 (out,i3,l700012) h
      refine aw_conv [] (st':=(⟨8,[s1 0 (.yv 37100),e44b40 c3 v31,s1 2 (.ad (.pr tI tI) (sign,over)),e44b51,sI 9 c,sp 12 30000,sp 14 30001,sp 15 30002,sp 16 30003,sp 17 30004,sp 18 30005,e44b20 c3,e44b49 c3,sI 39 v31,s1 58 (.fn 84 [(⟨tI,(((c3.getD (v31).toNat ((0:Int),([]:LI))).2).length:Int)⟩:Dat),(⟨(.pr tI tI),(sign,over)⟩:Dat)]),sp 114 70000],[(37100,[],.lp lr1 (0:Int) (VCc58_s1 30000 30001 30002 30003 30004 30005 c)),e44b4,e44b2 sign over,e44b44 i2,e44b7,e44b9 v31,e44b1 c3 v31,e44b27 l6160,e44b0 c0 c1 c2 c3 c4,e44b5 l70001]⟩:St)) (by kernel_rfl) ?_
      refine sr ?_
      refine rqT 1 ⟨8,[e44b40 c3 v31,s1 2 (.ad (.pr tI tI) (sign,over)),sp 3 3,sI 9 c,sp 12 30000,sp 14 30001,sp 15 30002,sp 16 30003,e44b20 c3,e44b49 c3,sI 39 v31,sp 114 70000,e44b51],[hB 3 [.yv 37100],e44b4,e44b2 sign over,e44b44 i2,e44b7,e44b9 v31,e44b1 c3 v31,e44b27 l6160,(37100,[],.lp lr1 (0:Int) (VCc58_s1 30000 30001 30002 30003 30004 30005 c)),e44b0 c0 c1 c2 c3 c4,e44b5 l70001]⟩ (by kernel_rfl) ?_
      refine nsr ?_
      refine rqT 1 ⟨8,[e44b40 c3 v31,s1 2 (.ad (.pr tI tI) (sign,over)),sp 3 3,sp 4 4,sI 9 c,sp 12 30000,sp 14 30001,sp 15 30002,sp 16 30003,e44b20 c3,e44b49 c3,sI 39 v31,sp 114 70000,e44b51],[hB 3 [.yv 37100],hB 4 [.any],e44b4,e44b2 sign over,e44b44 i2,e44b7,e44b9 v31,e44b1 c3 v31,e44b27 l6160,(37100,[],.lp lr1 (0:Int) (VCc58_s1 30000 30001 30002 30003 30004 30005 c)),e44b0 c0 c1 c2 c3 c4,e44b5 l70001]⟩ (by kernel_rfl) ?_
      refine nsr ?_
      refine rqT 2 ⟨8,[sp 4 4,sI 9 c,sp 12 30000,sp 14 30001,sp 15 30002,sp 16 30003,e44b20 c3,e44b49 c3,sI 39 v31,sp 114 70000,e44b51],[hB 3 [.yv 37100],e44b31 c3 v31 sign over,e44b4,e44b2 sign over,e44b44 i2,e44b7,e44b9 v31,e44b1 c3 v31,e44b27 l6160,(37100,[],.lp lr1 (0:Int) (VCc58_s1 30000 30001 30002 30003 30004 30005 c)),e44b0 c0 c1 c2 c3 c4,e44b5 l70001]⟩ (by kernel_rfl) ?_
      refine nn ?_
      refine aw_region ?_
      refine rqT 1 ⟨8,[s1 6 (.cl 85 [.ad ⟨tI,(((c3.getD (v31).toNat ((0:Int),([]:LI))).2).length:Int)⟩,.pt 3 0,.ad ⟨(.pr tI tI),(sign,over)⟩,.pt 4 0]),sI 9 c,sp 12 30000,sp 14 30001,sp 15 30002,sp 16 30003,e44b20 c3,e44b49 c3,sI 39 v31,sp 114 70000,e44b51],[hB 3 [.yv 37100],e44b31 c3 v31 sign over,e44b4,e44b2 sign over,e44b44 i2,e44b7,e44b9 v31,e44b1 c3 v31,e44b27 l6160,(37100,[],.lp lr1 (0:Int) (VCc58_s1 30000 30001 30002 30003 30004 30005 c)),e44b0 c0 c1 c2 c3 c4,e44b5 l70001]⟩ (by kernel_rfl) ?_
      refine awl_conv [.ren 3 41200,.ren 4 41211] (st':=(⟨8,[e44b29 c3 v31 sign over,sI 9 c,sp 12 30000,sp 14 30001,sp 15 30002,sp 16 30003,e44b20 c3,e44b49 c3,sI 39 v31,sp 114 70000,e44b51],[hB 41200 [.yv 37100],e44b11 c3 v31 sign over,e44b4,e44b2 sign over,e44b44 i2,e44b7,e44b9 v31,e44b1 c3 v31,e44b27 l6160,(37100,[],.lp lr1 (0:Int) (VCc58_s1 30000 30001 30002 30003 30004 30005 c)),e44b0 c0 c1 c2 c3 c4,e44b5 l70001]⟩:St)) (by kernel_rfl) ?_
      refine awl_lcall (σ:=Bool×Int×LK×Int×LI) [41200,37100,30000,70000,70001,30001,30002,30003,30006,30004,30005,41211] [41200,37100,30000,70000,30001,30002,30003,30004,30005,41211] [.c (.nils)] [.c (.ad tI (((c3.getD (v31).toNat ((0:Int),([]:LI))).2).length:Int)),.c (.ptr 41200 0),.c (.ad (.pr tI tI) (sign,over)),.c (.ptr 41211 0)] (fun ret7v=>.v (.c (.pB ret7v.1))) (fun ret7v=>[hB 41200 [.yv 37100],(37100,[],.lp lr1 ret7v.2.1 (VCc58_s1 30000 30001 30002 30003 30004 30005 c)),e44b4,e44b0 c0 c1 c2 c3 c4,e44b35 ret7v,e44b2 sign over,hB 30002 [.pI ret7v.2.2.2.1],e44b7,hA 30006 3 tI ret7v.2.2.2.2,e44b9 v31,e44b1 c3 v31,e44b11 c3 v31 sign over]) (_) [hB 41200 [.yv 37100],(37100,[],.lp lr1 (0:Int) (VCc58_s1 30000 30001 30002 30003 30004 30005 c)),e44b4,e44b0 c0 c1 c2 c3 c4,e44b5 l70001,e44b2 sign over,e44b44 i2,e44b7,e44b27 l6160,e44b9 v31,e44b1 c3 v31,e44b11 c3 v31 sign over] (fun ret7v=>(⟨8,[sB 7 ret7v.1,e44b29 c3 v31 sign over,sI 9 c,sp 12 30000,sp 14 30001,sp 15 30002,sp 16 30003,e44b20 c3,e44b49 c3,sI 39 v31,sp 114 70000,e44b51],[hB 41200 [.yv 37100],(37100,[],.lp lr1 ret7v.2.1 (VCc58_s1 30000 30001 30002 30003 30004 30005 c)),e44b4,e44b0 c0 c1 c2 c3 c4,e44b35 ret7v,e44b2 sign over,hB 30002 [.pI ret7v.2.2.2.1],e44b7,hA 30006 3 tI ret7v.2.2.2.2,e44b9 v31,e44b1 c3 v31,e44b11 c3 v31 sign over]⟩:St)) rfl rfl (by kernel_rfl) rfl (by kernel_rfl) Try.call85 (by kernel_rfl) (by kernel_rfl) (by kernel_rfl) (fun _ _=>rfl) (fun _=>by kernel_rfl) (lcalls_nil [some tI] (linkcr85y6 lr1 c (((c3.getD (v31).toNat ((0:Int),([]:LI))).2).length:Int) (sign,over) c0 c1 c2 c3 c4 sign over v31 ((c3.getD (v31).toNat ((0:Int),([]:LI))).1) ((c3.getD (v31).toNat ((0:Int),([]:LI))).2) (VCc58_y1 c0 c1 c2 c3 c4 R sign v31) hY1 ([]:List Int) (0:Int) l70001 i2 l6160 _ h)) (fun ret7v h=>?_)
      refine lpr (st':=(⟨8,[sI 9 c,sp 12 30000,sp 14 30001,sp 15 30002,sp 16 30003,e44b20 c3,e44b49 c3,sI 39 v31,sp 114 70000,e44b51],[e44b4,e44b2 sign over,hB 30002 [.pI ret7v.2.2.2.1],e44b7,e44b9 v31,e44b1 c3 v31,hA 30006 3 tI ret7v.2.2.2.2,(37100,[],.lp lr1 ret7v.2.1 (VCc58_s1 30000 30001 30002 30003 30004 30005 c)),e44b0 c0 c1 c2 c3 c4,e44b35 ret7v]⟩:St)) (by kernel_rfl) ?_
      refine awl_nil ?_
      refine rfQ_n ret7v.2.1 (VCc58_s1 30000 30001 30002 30003 30004 30005 c) rfl (by kernel_rfl) (by kernel_rfl) ⟨fun hk=>?_,fun hk0 hk=>?_,fun hk0 hk1=>?_⟩
      ·have h:=h.1 (decide_eq_true hk)
       refine cq [.prune [1,4,6,7,8,29,30,31,106] [30000,30001,30002,30003,30006,70000,70001],.ren 30000 50000,.ren 30001 50001,.ren 30002 50002,.ren 30003 50003,.ren 30006 50006,.ren 50000 4,.ren 50001 6,.ren 50002 7,.ren 50003 8,.ren 50006 6160] (s':=(⟨106,[sI 1 c,sp 4 4,sp 6 6,sp 7 7,sp 8 8,e44b12 c3,e44b38 c3,sI 31 v31,e44b39],[e44b42,e44b34 sign over,hB 7 [.pI ret7v.2.2.2.1],e44b48,hA 6160 3 tI ret7v.2.2.2.2,e44b0 c0 c1 c2 c3 c4,e44b35 ret7v]⟩:St)) (by kernel_rfl) ?_
       refine blockQ_n ?_
       refine blockQ_n ?_
       exact rest2 (ret7v.2.2.2.1,ret7v.2.2.2.2,ret7v.2.2.1) h
      ·have h:=h.2 (decide_eq_false hk0)
       obtain ⟨hk2,h⟩:=h
       refine cq [.freeze 30006,.prune [8,106] [70000,70001,30003]] (s':=(⟨106,[e44b32,e44b39],[e44b0 c0 c1 c2 c3 c4,e44b35 ret7v,hB 30003 [.pS ret7v.2.2.2.2]]⟩:St)) (by kernel_rfl) ?_
       refine blockQ_r ?_
       refine blockQ_r ?_
       refine thenQ_r ?_
       refine thenQ_r ?_
       refine blockQ_r ?_
       refine thenQ_r ?_
       exact lret_r (σ:=LI×LK) (A:=fun y=>.v (.c (.pS y.1))) (H:=fun y=>[e44b0 c0 c1 c2 c3 c4,(70001,[],.dict (.pr tI t3) tI y.2)]) (ob:=True) (ret7v.2.2.2.2,ret7v.2.2.1) (by kernel_rfl) trivial rfl (by kernel_rfl) (by kernel_rfl) (by kernel_rfl) h
      ·have h:=h.2 (decide_eq_false hk0)
       obtain ⟨hk2,h⟩:=h
       exact absurd hk2 hk1
   ·have h:=h.2 hb
    refine cpr (st':=(⟨106,[sp 8 8,e44b39],[e44b48,e44b50 l6160,e44b0 c0 c1 c2 c3 c4,e44b5 l70001]⟩:St)) (by kernel_rfl) ?_
    refine aw_exit ?_
    refine thenQ_x ?_
    refine thenQ_x ?_
    refine blockQ_hit ?_
    exact rest1 (l6160,l70001) h
def VCc58_it (c0:Int) (c1:Int) (c2:Int) (c3:LR) (c4:LI):Nat→Int→Int→Int→Int→LK→(LI×LK→Prop)→Prop
  | 0=>fun _ _ _ _ _ _=>False
  | n+1=>fun c sign over i c5 K=>VCc58 c0 c1 c2 c3 c4 (VCc58_it c0 c1 c2 c3 c4 n) c sign over i c5 K
def VCcr58 (c0:Int) (c1:Int) (c2:Int) (c3:LR) (c4:LI) (c:Int) (sign:Int) (over:Int) (i:Int) (c5:LK) (K:LI×LK→Prop):Prop:=∃ n,VCc58_it c0 c1 c2 c3 c4 n c sign over i c5 K
theorem linkci58 (c0:Int) (c1:Int) (c2:Int) (c3:LR) (c4:LI):∀ (n:Nat) (c:Int) (sign:Int) (over:Int) (i:Int) (c5:LK) (K:LI×LK→Prop),VCc58_it c0 c1 c2 c3 c4 n c sign over i c5 K→LCalls Try.prog 58 [70000,70001] [70000] [e44b0 c0 c1 c2 c3 c4,e44b13 c5] [.c (.ptr 70000 0),.c (.pI c),.agg [.pI sign,.pI over],.c (.pI i)] (fun av hp'=>∃ y:LI×LK,av=.v (.c (.pS y.1))∧hp'=[e44b0 c0 c1 c2 c3 c4,(70001,[],.dict (.pr tI t3) tI y.2)]∧K y)
  | 0,_,_,_,_,_,_,h=>False.elim h
  | n+1,c,sign,over,i,c5,K,h=>linkc58 c0 c1 c2 c3 c4 (VCc58_it c0 c1 c2 c3 c4 n) (linkci58 c0 c1 c2 c3 c4 n) c sign over i c5 K h
theorem linkcr58 (c0:Int) (c1:Int) (c2:Int) (c3:LR) (c4:LI) (c:Int) (sign:Int) (over:Int) (i:Int) (c5:LK) (K:LI×LK→Prop) (h:VCcr58 c0 c1 c2 c3 c4 c sign over i c5 K):LCalls Try.prog 58 [70000,70001] [70000] [e44b0 c0 c1 c2 c3 c4,e44b13 c5] [.c (.ptr 70000 0),.c (.pI c),.agg [.pI sign,.pI over],.c (.pI i)] (fun av hp'=>∃ y:LI×LK,av=.v (.c (.pS y.1))∧hp'=[e44b0 c0 c1 c2 c3 c4,(70001,[],.dict (.pr tI t3) tI y.2)]∧K y):=by
  obtain ⟨n,h⟩:=h
  exact linkci58 c0 c1 c2 c3 c4 n c sign over i c5 K h
abbrev e44c0 (g:TG):Nat×Path×Con:=hB 30000 [.pI g.1,.pI g.2.1,.pI g.2.2.1,.p (.sl tR) g.2.2.2]
abbrev e44c1 (g:TG) (w:LI):Nat×Path×Con:=hB 70000 [.pI g.1,.pI g.2.1,.pI g.2.2.1,.p (.sl tR) g.2.2.2,.pS w,.own 70001]
abbrev e44c2 (g:TG):Nat×Path×Con:=hB 2 [.pI g.1,.pI g.2.1,.pI g.2.2.1,.p (.sl tR) g.2.2.2]
abbrev e44c3 (ret31v:Int×LK):Nat×Path×Con:=(70001,[],.dict (.pr tI t3) tI ret31v.2)
abbrev e44c4 (g:TG):Nat×Path×Con:=hB 30200 [.pI g.1,.pI g.2.1,.pI g.2.2.1,.p (.sl tR) g.2.2.2]
abbrev e44c5 (g:TG) (w:LI):Nat×Path×Con:=hB 9 [.pI g.1,.pI g.2.1,.pI g.2.2.1,.p (.sl tR) g.2.2.2,.pS w,.own 7]
abbrev e44c6:Nat×Path×Con:=(7,[],.dict (.pr tI t3) tI ([]:List ((Int×(Int×(Int×Int)))×Int)))
abbrev e44c7 (w:LI):Nat×Path×AV:=s1 1 (.pS w)
abbrev e44c8 (w:LI):Nat×Path×AV:=s1 37 (.pS w)
abbrev e44c9:Nat×Path×AV:=sp 39 30000
abbrev e44c10:Nat×Path×Con:=(70001,[],.dict (.pr tI t3) tI ([]:List ((Int×(Int×(Int×Int)))×Int)))
abbrev e44c11 (g:TG):Nat×Path×AV:=sA 12 [.pI g.1,.pI g.2.1,.pI g.2.2.1,.p (.sl tR) g.2.2.2]
abbrev e44c12 (g:TG):Nat×Path×AV:=sA 19 [.pI g.1,.pI g.2.1,.pI g.2.2.1,.p (.sl tR) g.2.2.2]
abbrev e44c13 (g:TG):Nat×Path×Con:=hB 3 [.pI g.1,.pI g.2.1,.pI g.2.2.1,.p (.sl tR) g.2.2.2]
abbrev e44c14 (g:TG):Nat×Path×AV:=sA 0 [.pI g.1,.pI g.2.1,.pI g.2.2.1,.p (.sl tR) g.2.2.2]
abbrev e44c15 (w:LI):Nat×Path×AV:=sA 36 [.pI (0:Int),.pI (w.length:Int)]
abbrev e44c16 (w:LI):Nat×Path×AV:=sA 30 [.pI (0:Int),.pI (w.length:Int)]
-- coppicer/pick.Pick
def VC44_k1 (g:TG) (i:Int) (K:LI×Int→Prop) (v6:Int):Prop :=
  (((!decide (v6=(0:Int)))=true→K (([]:LI),v6))∧((!decide (v6=(0:Int)))=false→((((decide (i<(0:Int)))||(decide ((0:Int)≤i)))=true→K (([]:LI),(5:Int)))∧(((decide (i<(0:Int)))||(decide ((0:Int)≤i)))=false→(InR (g.1+g.2.2.1)∧False)))))
def VC44 (g:TG) (w:LI) (i:Int) (K:LI×Int→Prop):Prop :=
  VC66 g w (fun (ret12v:Int)=>(((!decide (ret12v=(0:Int)))=true→VC44_k1 g i K ret12v)∧((!decide (ret12v=(0:Int)))=false→VC55 g (fun (ret17v:Bool)=>(((!ret17v)=true→VC44_k1 g i K (3:Int))∧((!ret17v)=false→(InR (g.1+g.2.2.1)∧VCcr68 g.1 g.2.1 g.2.2.1 g.2.2.2 w (g.1+g.2.2.1) (0:Int) (w.length:Int) ([]:List ((Int×(Int×(Int×Int)))×Int)) (fun (ret31v:Int×LK)=>(((decide ((1099511627776:Int)<ret31v.1))=true→VC44_k1 g i K (1:Int))∧((decide ((1099511627776:Int)<ret31v.1))=false→(((!decide ((0:Int)=(0:Int)))=true→K (([]:LI),(0:Int)))∧((!decide ((0:Int)=(0:Int)))=false→((((decide (i<(0:Int)))||(decide (ret31v.1≤i)))=true→K (([]:LI),(5:Int)))∧(((decide (i<(0:Int)))||(decide (ret31v.1≤i)))=false→(InR (g.1+g.2.2.1)∧VCcr58 g.1 g.2.1 g.2.2.1 g.2.2.2 w (g.1+g.2.2.1) (0:Int) (w.length:Int) i ret31v.2 (fun (ret38v:LI×LK)=>K (ret38v.1,(0:Int))))))))))))))))))
set_option maxHeartbeats 4000000 in
theorem link44 (g:TG) (w:LI) (i:Int) (K:LI×Int→Prop) (h:VC44 g w i K):ACalls Try.prog 44 [toV1 tG g,toV1 (.sl tI) w,toV1 tI i] (fun res=>∃ y,res=(fun y=>[toV1 (.sl tI) y.1,toV1 tI y.2]) y∧K y):=by
 refine acalls_of_aw [(.sl tI),tI] [.t 6,.t 7] Try.func44 rfl rfl rfl ?_
 unfold VC44 at h
 refine sr ?_
 refine rqT 3 ⟨39,[e44c7 w,sI 2 i,sp 3 3],[e44c13 g]⟩ (by kernel_rfl) ?_
 refine nsr ?_
 refine rqT 2 ⟨39,[e44c7 w,sI 2 i,sp 3 3,e44c11 g,s1 13 (.pS w)],[e44c13 g]⟩ (by kernel_rfl) ?_
 refine awl_conv [.ren 3 30000] (st':=(⟨39,[e44c7 w,sI 2 i,sp 3 30000,e44c11 g,s1 13 (.pS w)],[e44c0 g]⟩:St)) (by kernel_rfl) ?_
 refine awl_inlr [.t 4,.t 5,.t 6] [30000] [.agg [.pI g.1,.pI g.2.1,.pI g.2.2.1,.p (.sl tR) g.2.2.2],.c (.pS w)] [] rfl rfl (by kernel_rfl) rfl (by kernel_rfl) Try.call57 (by kernel_rfl) (by kernel_rfl) Try.func57 rfl rfl (by kernel_rfl) ?_
 refine aw_conv [] (st':=(⟨36,[e44c14 g,e44c7 w,e44c8 w,sI 38 i,e44c9,sA 48 [.pI g.1,.pI g.2.1,.pI g.2.2.1,.p (.sl tR) g.2.2.2],s1 49 (.pS w)],[e44c0 g]⟩:St)) (by kernel_rfl) ?_
 refine withJoinR (σ:=Int) (fun s=>(⟨36,[s1 4 (.any),sI 5 (0:Int),sI 6 s,e44c8 w,sI 38 i,e44c9],[e44c0 g]⟩:St)) (fun s=>VC44_k1 g i K s) (fun v6 h=>?_) (fun rest1=>?_)
 ·have h:VC44_k1 g i K v6:=h
  unfold VC44_k1 at h
  refine inlR_n (ob:=(True∧True∧True∧True)) (.tup [.c (.any),.c (.pI (0:Int)),.c (.pI v6)]) (by kernel_rfl) ⟨trivial,trivial,trivial,trivial⟩ rfl ?_
  refine lpr (st':=(⟨39,[e44c7 w,sI 2 i,sp 3 30000,(14,[],.tup [.c (.any),.c (.pI (0:Int)),.c (.pI v6)])],[e44c0 g]⟩:St)) (by kernel_rfl) ?_
  refine rqT 7 ⟨39,[e44c7 w,sI 2 i,sp 3 30000,s1 8 (.any),sI 9 (0:Int),sI 10 v6],[e44c0 g]⟩ (by kernel_rfl) ?_
  refine nn ?_
  refine aw_seq ?_
  refine srn 2 ⟨39,[e44c7 w,sI 2 i,sp 3 30000,s1 8 (.any),sI 9 (0:Int),sI 10 v6,sB 19 (!decide (v6=(0:Int)))],[e44c0 g]⟩ (by kernel_rfl) rfl ?_
  refine aw_cond (b:=(!decide (v6=(0:Int)))) (by kernel_rfl) (fun hb=>?_) (fun hb=>?_)
  ·have h:=h.1 hb
   refine srn 3 ⟨39,[s1 6 (.nils),sI 7 v6],[]⟩ (by kernel_rfl) rfl ?_
   refine aw_ret ?_
   refine thenQ_r ?_
   exact retQ_r (ob:=Ts 2 True) _ (by kernel_rfl) (tsI 2 trivial) h
  ·have h:=h.2 hb
   refine aw_skip ?_
   refine thenQ_n ?_
   refine aw_seq ?_
   refine sr ?_
   refine rq 7 (ob:=(Ts 3 (Ti 3 ((decide (i<(0:Int)))=false→True) (Ts 1 True)))) (st':=(⟨39,[e44c7 w,sI 2 i,sp 3 30000,s1 8 (.any),sB 27 ((decide (i<(0:Int)))||(decide ((0:Int)≤i)))],[e44c0 g]⟩:St)) (by kernel_rfl) (tsI 3 (tiI 3 (fun _=>trivial) (tsI 1 trivial))) ?_
   refine nn ?_
   refine aw_cond (b:=((decide (i<(0:Int)))||(decide ((0:Int)≤i)))) (by kernel_rfl) (fun hb=>?_) (fun hb=>?_)
   ·have h:=h.1 hb
    refine srn 2 ⟨39,[s1 6 (.nils),sI 7 (5:Int)],[]⟩ (by kernel_rfl) rfl ?_
    refine aw_ret ?_
    refine thenQ_r ?_
    exact retQ_r (ob:=Ts 2 True) _ (by kernel_rfl) (tsI 2 trivial) h
   ·have h:=h.2 hb
    refine aw_skip ?_
    refine thenQ_n ?_
    refine sr ?_
    obtain ⟨o1,h⟩:=h
    refine rq 10 (ob:=(Ts 5 (InR (g.1+g.2.2.1)∧Ts 4 True))) (st':=(⟨39,[s1 28 (.any),sI 33 (g.1+g.2.2.1),e44c15 w,sI 37 i],[]⟩:St)) (by kernel_rfl) (tsI 5 ⟨o1,tsI 4 trivial⟩) ?_
    exact h.elim
 ·refine srn 4 ⟨36,[e44c7 w,sp 2 2,e44c8 w,sI 38 i,e44c9],[e44c2 g,e44c0 g]⟩ (by kernel_rfl) rfl ?_
  refine aw_seq ?_
  refine sr ?_
  refine rqT 2 ⟨36,[e44c7 w,sp 2 2,sA 10 [.pI g.1,.pI g.2.1,.pI g.2.2.1,.p (.sl tR) g.2.2.2],s1 11 (.pS w),e44c8 w,sI 38 i,e44c9],[e44c2 g,e44c0 g]⟩ (by kernel_rfl) ?_
  refine lcq (d:=12) [.d tG,.d (.sl tI)] (fun ret12v=>(⟨36,[e44c7 w,sp 2 2,sI 12 ret12v,e44c8 w,sI 38 i,e44c9],[e44c2 g,e44c0 g]⟩:St)) (by kernel_rfl) Try.call66 (fun _=>by kernel_rfl) (link66 g w _ h) (fun ret12v h=>?_)
  refine rqT 1 ⟨36,[e44c7 w,sp 2 2,sI 7 ret12v,e44c8 w,sI 38 i,e44c9],[e44c2 g,e44c0 g]⟩ (by kernel_rfl) ?_
  refine nsr ?_
  refine rqT 2 ⟨36,[e44c7 w,sp 2 2,sI 7 ret12v,sB 14 (!decide (ret12v=(0:Int))),e44c8 w,sI 38 i,e44c9],[e44c2 g,e44c0 g]⟩ (by kernel_rfl) ?_
  refine nn ?_
  refine aw_cond (b:=(!decide (ret12v=(0:Int)))) (by kernel_rfl) (fun hb=>?_) (fun hb=>?_)
  ·have h:=h.1 hb
   refine srn 4 ⟨36,[s1 4 (.any),sI 5 (0:Int),sI 6 ret12v,e44c8 w,sI 38 i,e44c9],[e44c0 g]⟩ (by kernel_rfl) rfl ?_
   refine aw_ret ?_
   refine thenQ_r ?_
   exact rest1 ret12v h
  ·have h:=h.2 hb
   refine aw_skip ?_
   refine thenQ_n ?_
   refine aw_seq ?_
   refine sr ?_
   refine rqT 1 ⟨36,[e44c7 w,sp 2 2,sA 16 [.pI g.1,.pI g.2.1,.pI g.2.2.1,.p (.sl tR) g.2.2.2],e44c8 w,sI 38 i,e44c9],[e44c2 g,e44c0 g]⟩ (by kernel_rfl) ?_
   refine lcq (d:=17) [.d tG] (fun ret17v=>(⟨36,[e44c7 w,sp 2 2,sB 17 ret17v,e44c8 w,sI 38 i,e44c9],[e44c2 g,e44c0 g]⟩:St)) (by kernel_rfl) Try.call55 (fun _=>by kernel_rfl) (link55 g _ h) (fun ret17v h=>?_)
   refine rqT 1 ⟨36,[e44c7 w,sp 2 2,sB 18 (!ret17v),e44c8 w,sI 38 i,e44c9],[e44c2 g,e44c0 g]⟩ (by kernel_rfl) ?_
   refine nn ?_
   refine aw_cond (b:=(!ret17v)) (by kernel_rfl) (fun hb=>?_) (fun hb=>?_)
   ·have h:=h.1 hb
    refine srn 3 ⟨36,[s1 4 (.any),sI 5 (0:Int),sI 6 (3:Int),e44c8 w,sI 38 i,e44c9],[e44c0 g]⟩ (by kernel_rfl) rfl ?_
    refine aw_ret ?_
    refine thenQ_r ?_
    exact rest1 (3:Int) h
   ·have h:=h.2 hb
    refine aw_skip ?_
    refine thenQ_n ?_
    refine sr ?_
    refine rqT 2 ⟨36,[e44c7 w,sp 2 2,e44c12 g,s1 20 (.pS w),e44c8 w,sI 38 i,e44c9],[e44c2 g,e44c0 g]⟩ (by kernel_rfl) ?_
    refine awl_conv [.ren 2 30200] (st':=(⟨36,[e44c7 w,sp 2 30200,e44c12 g,s1 20 (.pS w),e44c8 w,sI 38 i,e44c9],[e44c4 g,e44c0 g]⟩:St)) (by kernel_rfl) ?_
    refine awl_inlr [.t 4] [30200,30000] [.agg [.pI g.1,.pI g.2.1,.pI g.2.2.1,.p (.sl tR) g.2.2.2],.c (.pS w)] [] rfl rfl (by kernel_rfl) rfl (by kernel_rfl) Try.call67 (by kernel_rfl) (by kernel_rfl) Try.func67 rfl rfl (by kernel_rfl) ?_
    refine aw_conv [] (st':=(⟨10,[e44c14 g,e44c7 w,s1 11 (.pS w),sp 12 30200,sA 29 [.pI g.1,.pI g.2.1,.pI g.2.2.1,.p (.sl tR) g.2.2.2],s1 30 (.pS w),s1 47 (.pS w),sI 48 i,sp 49 30000],[e44c4 g,e44c0 g]⟩:St)) (by kernel_rfl) ?_
    refine sr ?_
    refine rqT 2 ⟨10,[e44c7 w,sp 2 2,s1 11 (.pS w),sp 12 30200,s1 47 (.pS w),sI 48 i,sp 49 30000],[e44c2 g,e44c0 g,e44c4 g]⟩ (by kernel_rfl) ?_
    refine nsr ?_
    refine rqT 6 ⟨10,[sp 4 9,s1 11 (.pS w),sp 12 30200,s1 47 (.pS w),sI 48 i,sp 49 30000],[e44c6,e44c5 g w,e44c0 g,e44c4 g]⟩ (by kernel_rfl) ?_
    refine nn ?_
    refine aw_ret ?_
    refine inlR_r (ob:=True) (.v (.c (.ptr 9 0))) (by kernel_rfl) trivial rfl ?_
    refine lpr (st':=(⟨36,[e44c7 w,sp 2 30200,sp 21 9,e44c8 w,sI 38 i,e44c9],[e44c6,e44c5 g w,e44c0 g,e44c4 g]⟩:St)) (by kernel_rfl) ?_
    refine rqT 1 ⟨36,[e44c7 w,sp 2 30200,sp 8 9,e44c8 w,sI 38 i,e44c9],[e44c6,e44c5 g w,e44c0 g,e44c4 g]⟩ (by kernel_rfl) ?_
    refine nsr ?_
    obtain ⟨o1,h⟩:=h
    refine rq 9 (ob:=(Ts 5 (InR (g.1+g.2.2.1)∧Ts 3 True))) (st':=(⟨36,[sp 8 9,sp 22 9,sI 27 (g.1+g.2.2.1),e44c16 w,e44c8 w,sI 38 i,e44c9],[e44c6,e44c5 g w,e44c0 g]⟩:St)) (by kernel_rfl) (tsI 5 ⟨o1,tsI 3 trivial⟩) ?_
    refine awl_conv [.ren 9 70000,.ren 7 70001] (st':=(⟨36,[sp 8 70000,sp 22 70000,sI 27 (g.1+g.2.2.1),e44c16 w,e44c8 w,sI 38 i,e44c9],[e44c10,e44c1 g w,e44c0 g]⟩:St)) (by kernel_rfl) ?_
    refine awl_lcall (σ:=Int×LK) [70000,70001] [70000] [.c (.ptr 70000 0),.c (.pI (g.1+g.2.2.1)),.agg [.pI (0:Int),.pI (w.length:Int)]] [] (fun ret31v=>.v (.c (.pI ret31v.1))) (fun ret31v=>[e44c1 g w,e44c3 ret31v]) (_) [e44c1 g w,e44c10] (fun ret31v=>(⟨36,[sI 31 ret31v.1,sp 8 70000,sp 22 70000,sI 27 (g.1+g.2.2.1),e44c16 w,e44c8 w,sI 38 i,e44c9],[e44c1 g w,e44c3 ret31v,e44c0 g]⟩:St)) rfl rfl (by kernel_rfl) rfl (by kernel_rfl) Try.call68 (by kernel_rfl) (by kernel_rfl) (by kernel_rfl) (fun _ _=>rfl) (fun _=>by kernel_rfl) (linkcr68 g.1 g.2.1 g.2.2.1 g.2.2.2 w (g.1+g.2.2.1) (0:Int) (w.length:Int) ([]:List ((Int×(Int×(Int×Int)))×Int)) _ h) (fun ret31v h=>?_)
    refine lpr (st':=(⟨36,[sp 8 70000,sI 31 ret31v.1,e44c8 w,sI 38 i,e44c9],[e44c0 g,e44c1 g w,e44c3 ret31v]⟩:St)) (by kernel_rfl) ?_
    refine rqT 1 ⟨36,[sp 8 70000,sI 9 ret31v.1,e44c8 w,sI 38 i,e44c9],[e44c0 g,e44c1 g w,e44c3 ret31v]⟩ (by kernel_rfl) ?_
    refine nn ?_
    refine aw_seq ?_
    refine srn 2 ⟨36,[sp 8 70000,sI 9 ret31v.1,sB 33 (decide ((1099511627776:Int)<ret31v.1)),e44c8 w,sI 38 i,e44c9],[e44c0 g,e44c1 g w,e44c3 ret31v]⟩ (by kernel_rfl) rfl ?_
    refine aw_cond (b:=(decide ((1099511627776:Int)<ret31v.1))) (by kernel_rfl) (fun hb=>?_) (fun hb=>?_)
    ·have h:=h.1 hb
     refine srn 3 ⟨36,[s1 4 (.any),sI 5 (0:Int),sI 6 (1:Int),e44c8 w,sI 38 i,e44c9],[e44c0 g]⟩ (by kernel_rfl) rfl ?_
     refine aw_ret ?_
     refine thenQ_r ?_
     exact rest1 (1:Int) h
    ·have h:=h.2 hb
     refine aw_skip ?_
     refine thenQ_n ?_
     refine srn 5 ⟨36,[sp 4 70000,sI 5 ret31v.1,sI 6 (0:Int),e44c8 w,sI 38 i,e44c9],[e44c0 g,e44c1 g w,e44c3 ret31v]⟩ (by kernel_rfl) rfl ?_
     refine aw_ret ?_
     refine inlR_r (ob:=(True∧True∧True∧True)) (.tup [.c (.ptr 70000 0),.c (.pI ret31v.1),.c (.pI (0:Int))]) (by kernel_rfl) ⟨trivial,trivial,trivial,trivial⟩ rfl ?_
     refine lpr (st':=(⟨39,[e44c7 w,sI 2 i,sp 3 30000,(14,[],.tup [.c (.ptr 70000 0),.c (.pI ret31v.1),.c (.pI (0:Int))])],[e44c0 g,e44c1 g w,e44c3 ret31v]⟩:St)) (by kernel_rfl) ?_
     refine rqT 7 ⟨39,[e44c7 w,sI 2 i,sp 3 30000,sp 8 70000,sI 9 ret31v.1,sI 10 (0:Int)],[e44c0 g,e44c1 g w,e44c3 ret31v]⟩ (by kernel_rfl) ?_
     refine nn ?_
     refine aw_seq ?_
     refine srn 2 ⟨39,[e44c7 w,sI 2 i,sp 3 30000,sp 8 70000,sI 9 ret31v.1,sI 10 (0:Int),sB 19 (!decide ((0:Int)=(0:Int)))],[e44c0 g,e44c1 g w,e44c3 ret31v]⟩ (by kernel_rfl) rfl ?_
     refine aw_cond (b:=(!decide ((0:Int)=(0:Int)))) (by kernel_rfl) (fun hb=>?_) (fun hb=>?_)
     ·have h:=h.1 hb
      refine srn 3 ⟨39,[s1 6 (.nils),sI 7 (0:Int)],[]⟩ (by kernel_rfl) rfl ?_
      refine aw_ret ?_
      refine thenQ_r ?_
      exact retQ_r (ob:=Ts 2 True) _ (by kernel_rfl) (tsI 2 trivial) h
     ·have h:=h.2 hb
      refine aw_skip ?_
      refine thenQ_n ?_
      refine aw_seq ?_
      refine sr ?_
      refine rq 7 (ob:=(Ts 3 (Ti 3 ((decide (i<(0:Int)))=false→True) (Ts 1 True)))) (st':=(⟨39,[e44c7 w,sI 2 i,sp 3 30000,sp 8 70000,sB 27 ((decide (i<(0:Int)))||(decide (ret31v.1≤i)))],[e44c0 g,e44c1 g w,e44c3 ret31v]⟩:St)) (by kernel_rfl) (tsI 3 (tiI 3 (fun _=>trivial) (tsI 1 trivial))) ?_
      refine nn ?_
      refine aw_cond (b:=((decide (i<(0:Int)))||(decide (ret31v.1≤i)))) (by kernel_rfl) (fun hb=>?_) (fun hb=>?_)
      ·have h:=h.1 hb
       refine srn 2 ⟨39,[s1 6 (.nils),sI 7 (5:Int)],[]⟩ (by kernel_rfl) rfl ?_
       refine aw_ret ?_
       refine thenQ_r ?_
       exact retQ_r (ob:=Ts 2 True) _ (by kernel_rfl) (tsI 2 trivial) h
      ·have h:=h.2 hb
       refine aw_skip ?_
       refine thenQ_n ?_
       refine sr ?_
       obtain ⟨o1,h⟩:=h
       refine rq 10 (ob:=(Ts 5 (InR (g.1+g.2.2.1)∧Ts 4 True))) (st':=(⟨39,[sp 28 70000,sI 33 (g.1+g.2.2.1),e44c15 w,sI 37 i],[e44c1 g w,e44c3 ret31v]⟩:St)) (by kernel_rfl) (tsI 5 ⟨o1,tsI 4 trivial⟩) ?_
       refine awl_lcall (σ:=LI×LK) [70000,70001] [70000] [.c (.ptr 70000 0),.c (.pI (g.1+g.2.2.1)),.agg [.pI (0:Int),.pI (w.length:Int)],.c (.pI i)] [] (fun ret38v=>.v (.c (.pS ret38v.1))) (fun ret38v=>[e44c1 g w,(70001,[],.dict (.pr tI t3) tI ret38v.2)]) (_) [e44c1 g w,e44c3 ret31v] (fun ret38v=>(⟨39,[s1 38 (.pS ret38v.1),sp 28 70000,sI 33 (g.1+g.2.2.1),e44c15 w,sI 37 i],[e44c1 g w,(70001,[],.dict (.pr tI t3) tI ret38v.2)]⟩:St)) rfl rfl (by kernel_rfl) rfl (by kernel_rfl) Try.call58 (by kernel_rfl) (by kernel_rfl) (by kernel_rfl) (fun _ _=>rfl) (fun _=>by kernel_rfl) (linkcr58 g.1 g.2.1 g.2.2.1 g.2.2.2 w (g.1+g.2.2.1) (0:Int) (w.length:Int) i ret31v.2 _ h) (fun ret38v h=>?_)
       refine lpr (st':=(⟨39,[s1 38 (.pS ret38v.1)],[]⟩:St)) (by kernel_rfl) ?_
       refine rqT 2 ⟨39,[s1 6 (.pS ret38v.1),sI 7 (0:Int)],[]⟩ (by kernel_rfl) ?_
       refine nn ?_
       refine aw_ret ?_
       exact retQ_r (ob:=Ts 2 True) _ (by kernel_rfl) (tsI 2 trivial) h
abbrev e59_0 (g:TG):Nat×Path×Con:=hB 3 [.pI g.1,.pI g.2.1,.pI g.2.2.1,.p (.sl tR) g.2.2.2]
abbrev e59_1 (g:TG) (steps:LI):Nat×Path×AV:=sI 70 (((g.2.2.2.getD ((steps.getD ((0:Int)).toNat (0:Int))).toNat ((0:Int),([]:LI))).2).length:Int)
abbrev e59_2 (g:TG) (steps:LI):Nat×Path×AV:=s1 69 (.pS ((g.2.2.2.getD ((steps.getD ((0:Int)).toNat (0:Int))).toNat ((0:Int),([]:LI))).2))
abbrev e59_3 (steps:LI):Nat×Path×Con:=hB 9 [.pI (steps.getD ((0:Int)).toNat (0:Int)),.own 6181,.own 6182]
abbrev e59_4:Nat×Path×Con:=hB 6 [.pI (0:Int),.nils,.nils]
abbrev e59_5 (l6181:(List Tree)) (ret79v:Tree×LI×Bool):Nat×Path×Con:=hA 90 113 .tr (l6181++[(Tree.node ret79v.1.rule ret79v.1.kids ret79v.1.word)])
abbrev e59_6 (l6182:LI):Nat×Path×Con:=hA 6182 3 tI l6182
abbrev e59_7 (ret79v:Tree×LI×Bool):Nat×Path×Con:=hB 12 [.pI ret79v.1.rule,.p (.sl .tr) ret79v.1.kids,.pS ret79v.1.word]
abbrev e59_8 (steps:LI):Nat×Path×Con:=hB 9 [.pI (steps.getD ((0:Int)).toNat (0:Int)),.own 90,.own 96]
abbrev e59_9 (steps:LI):Nat×Path×Con:=hB 9 [.pI (steps.getD ((0:Int)).toNat (0:Int)),.nils,.nils]
-- coppicer/pick.grow
def VC59_k1 (steps:LI) (K:Tree×LI×Bool→Prop) (steps2:LI) (l6181:(List Tree)) (l6182:LI):Prop :=
  K ((Tree.node (steps.getD ((0:Int)).toNat (0:Int)) l6181 l6182),steps2,true)
def VC59_l1 (R:TG→Int→LI→(Tree×LI×Bool→Prop)→Prop) (g:TG) (steps:LI) (K:Tree×LI×Bool→Prop) (steps2:LI) (v71:Int) (l6181:(List Tree)) (l6182:LI) (X1:LI×Int×(List Tree)×LI→Prop):Prop :=
  (((decide (v71<(((g.2.2.2.getD ((steps.getD ((0:Int)).toNat (0:Int))).toNat ((0:Int),([]:LI))).2).length:Int)))=true→(inIdx v71 ((g.2.2.2.getD ((steps.getD ((0:Int)).toNat (0:Int))).toNat ((0:Int),([]:LI))).2).length∧R g (((g.2.2.2.getD ((steps.getD ((0:Int)).toNat (0:Int))).toNat ((0:Int),([]:LI))).2).getD (v71).toNat (0:Int)) steps2 (fun (ret79v:Tree×LI×Bool)=>(((!ret79v.2.2)=true→K ((Tree.node (0:Int) ([]:(List Tree)) ([]:LI)),([]:LI),false))∧((!ret79v.2.2)=false→(roomW 56 (l6181.length+[(Tree.node ret79v.1.rule ret79v.1.kids ret79v.1.word)].length)∧(roomW 8 (l6182.length+ret79v.1.word.length)∧(InR (v71+(1:Int))∧X1 (ret79v.2.1,(v71+(1:Int)),(l6181++[(Tree.node ret79v.1.rule ret79v.1.kids ret79v.1.word)]),(l6182++ret79v.1.word))))))))))∧((decide (v71<(((g.2.2.2.getD ((steps.getD ((0:Int)).toNat (0:Int))).toNat ((0:Int),([]:LI))).2).length:Int)))=false→VC59_k1 steps K steps2 l6181 l6182))
def VC59 (R:TG→Int→LI→(Tree×LI×Bool→Prop)→Prop) (g:TG) (sign:Int) (steps:LI) (K:Tree×LI×Bool→Prop):Prop :=
  (((decide (sign<g.1))=true→K ((Tree.node (-1:Int) ([]:(List Tree)) [sign]),steps,true))∧((decide (sign<g.1))=false→(((decide ((steps.length:Int)=(0:Int)))=false→inIdx (0:Int) steps.length)∧(((decide ((steps.length:Int)=(0:Int)))||(decide ((steps.getD ((0:Int)).toNat (0:Int))<(0:Int))))=false→inIdx (0:Int) steps.length)∧((((decide ((steps.length:Int)=(0:Int)))||(decide ((steps.getD ((0:Int)).toNat (0:Int))<(0:Int))))||(decide ((g.2.2.2.length:Int)≤(steps.getD ((0:Int)).toNat (0:Int)))))=false→inIdx (0:Int) steps.length)∧((((decide ((steps.length:Int)=(0:Int)))||(decide ((steps.getD ((0:Int)).toNat (0:Int))<(0:Int))))||(decide ((g.2.2.2.length:Int)≤(steps.getD ((0:Int)).toNat (0:Int)))))=false→inIdx (steps.getD ((0:Int)).toNat (0:Int)) g.2.2.2.length)∧((((decide ((steps.length:Int)=(0:Int)))||(decide ((steps.getD ((0:Int)).toNat (0:Int))<(0:Int))))||(decide ((g.2.2.2.length:Int)≤(steps.getD ((0:Int)).toNat (0:Int)))))=false→InR (sign-g.1))∧((((((decide ((steps.length:Int)=(0:Int)))||(decide ((steps.getD ((0:Int)).toNat (0:Int))<(0:Int))))||(decide ((g.2.2.2.length:Int)≤(steps.getD ((0:Int)).toNat (0:Int)))))||(!decide ((g.2.2.2.getD ((steps.getD ((0:Int)).toNat (0:Int))).toNat ((0:Int),([]:LI))).1=(sign-g.1))))=true→K ((Tree.node (0:Int) ([]:(List Tree)) ([]:LI)),([]:LI),false))∧(((((decide ((steps.length:Int)=(0:Int)))||(decide ((steps.getD ((0:Int)).toNat (0:Int))<(0:Int))))||(decide ((g.2.2.2.length:Int)≤(steps.getD ((0:Int)).toNat (0:Int)))))||(!decide ((g.2.2.2.getD ((steps.getD ((0:Int)).toNat (0:Int))).toNat ((0:Int),([]:LI))).1=(sign-g.1))))=false→(inIdx (0:Int) steps.length∧((0≤(1:Int)∧(1:Int)≤(steps.length:Int))∧(inIdx (steps.getD ((0:Int)).toNat (0:Int)) g.2.2.2.length∧Loop (σ:=LI×Int×(List Tree)×LI) (fun s X=>VC59_l1 R g steps K s.1 s.2.1 s.2.2.1 s.2.2.2 X) ((steps.drop ((1:Int)).toNat),(0:Int),([]:List Tree),([]:List Int))))))))))
set_option maxHeartbeats 4000000 in
theorem link59 (R:TG→Int→LI→(Tree×LI×Bool→Prop)→Prop) (hR:∀ (x0:TG) (x1:Int) (x2:LI) (K:Tree×LI×Bool→Prop),R x0 x1 x2 K→ACalls Try.prog 59 [toV1 tG x0,toV1 tI x1,toV1 (.sl tI) x2] (fun res=>∃ y,res=(fun y=>[toV1 .tr y.1,toV1 (.sl tI) y.2.1,toV1 .bool y.2.2]) y∧K y)) (g:TG) (sign:Int) (steps:LI) (K:Tree×LI×Bool→Prop) (h:VC59 R g sign steps K):ACalls Try.prog 59 [toV1 tG g,toV1 tI sign,toV1 (.sl tI) steps] (fun res=>∃ y,res=(fun y=>[toV1 .tr y.1,toV1 (.sl tI) y.2.1,toV1 .bool y.2.2]) y∧K y):=by
 refine acalls_of_aw [.tr,(.sl tI),.bool] [.c 6 113,.t 7,.t 8] Try.func59 rfl rfl rfl ?_
 unfold VC59 at h
 refine srn 4 ⟨102,[sI 1 sign,s1 2 (.pS steps),sp 3 3,sp 6 6],[e59_0 g,e59_4]⟩ (by kernel_rfl) rfl ?_
 refine aw_seq ?_
 refine srn 4 ⟨102,[sI 1 sign,s1 2 (.pS steps),sp 3 3,sp 6 6,sB 18 (decide (sign<g.1))],[e59_0 g,e59_4]⟩ (by kernel_rfl) rfl ?_
 refine aw_cond (b:=(decide (sign<g.1))) (by kernel_rfl) (fun hb=>?_) (fun hb=>?_)
 ·have h:=h.1 hb
  refine srn 7 ⟨102,[sp 6 6,s1 7 (.pS steps),sB 8 true],[hB 6 [.pI (-1:Int),.nils,.own 20],hA 20 3 tI [sign]]⟩ (by kernel_rfl) rfl ?_
  refine aw_conv [.freeze 20] (st':=(⟨102,[sp 6 6,s1 7 (.pS steps),sB 8 true],[hB 6 [.pI (-1:Int),.nils,.pS [sign]]]⟩:St)) (by kernel_rfl) ?_
  refine aw_ret ?_
  refine thenQ_r ?_
  exact retQ_r (ob:=Ts 3 True) _ (by kernel_rfl) (tsI 3 trivial) h
 ·have h:=h.2 hb
  refine aw_skip ?_
  refine thenQ_n ?_
  refine aw_seq ?_
  refine aw_seq ?_
  refine awd_begin [] (by kernel_rfl) ?_
  obtain ⟨o1,o2,o3,o4,o5,h⟩:=h
  refine drq (by kernel_rfl) [0,1,2,3,4,5,6,7,8,9,10,11,12,13,14,15,16,17,18,19,20,21,22,23,24,25,26,27,28,29,30,31,32] (ob:=(Ts 4 (((decide ((steps.length:Int)=(0:Int)))=false→True)∧((decide ((steps.length:Int)=(0:Int)))=false→inIdx (0:Int) steps.length)∧Ti 2 ((decide ((steps.length:Int)=(0:Int)))=false→True) (Ts 2 ((((decide ((steps.length:Int)=(0:Int)))||(decide ((steps.getD ((0:Int)).toNat (0:Int))<(0:Int))))=false→True)∧(((decide ((steps.length:Int)=(0:Int)))||(decide ((steps.getD ((0:Int)).toNat (0:Int))<(0:Int))))=false→inIdx (0:Int) steps.length)∧Ti 5 (((decide ((steps.length:Int)=(0:Int)))||(decide ((steps.getD ((0:Int)).toNat (0:Int))<(0:Int))))=false→True) (Ts 2 (Ti 3 ((((decide ((steps.length:Int)=(0:Int)))||(decide ((steps.getD ((0:Int)).toNat (0:Int))<(0:Int))))||(decide ((g.2.2.2.length:Int)≤(steps.getD ((0:Int)).toNat (0:Int)))))=false→True) (((((decide ((steps.length:Int)=(0:Int)))||(decide ((steps.getD ((0:Int)).toNat (0:Int))<(0:Int))))||(decide ((g.2.2.2.length:Int)≤(steps.getD ((0:Int)).toNat (0:Int)))))=false→inIdx (0:Int) steps.length)∧((((decide ((steps.length:Int)=(0:Int)))||(decide ((steps.getD ((0:Int)).toNat (0:Int))<(0:Int))))||(decide ((g.2.2.2.length:Int)≤(steps.getD ((0:Int)).toNat (0:Int)))))=false→True)∧((((decide ((steps.length:Int)=(0:Int)))||(decide ((steps.getD ((0:Int)).toNat (0:Int))<(0:Int))))||(decide ((g.2.2.2.length:Int)≤(steps.getD ((0:Int)).toNat (0:Int)))))=false→inIdx (steps.getD ((0:Int)).toNat (0:Int)) g.2.2.2.length)∧Ti 5 ((((decide ((steps.length:Int)=(0:Int)))||(decide ((steps.getD ((0:Int)).toNat (0:Int))<(0:Int))))||(decide ((g.2.2.2.length:Int)≤(steps.getD ((0:Int)).toNat (0:Int)))))=false→True) (((((decide ((steps.length:Int)=(0:Int)))||(decide ((steps.getD ((0:Int)).toNat (0:Int))<(0:Int))))||(decide ((g.2.2.2.length:Int)≤(steps.getD ((0:Int)).toNat (0:Int)))))=false→InR (sign-g.1))∧((((decide ((steps.length:Int)=(0:Int)))||(decide ((steps.getD ((0:Int)).toNat (0:Int))<(0:Int))))||(decide ((g.2.2.2.length:Int)≤(steps.getD ((0:Int)).toNat (0:Int)))))=false→True)∧Ts 1 True))))))))) (done':=[32,31,30,29,28,27,26,25,24,23,22,21,20,19,18,17,16,15,14,13,12,11,10,9,8,7,6,5,4,3,2,1,0]) (st':=(⟨102,[s1 2 (.pS steps),sp 3 3,sp 6 6,sB 55 ((((decide ((steps.length:Int)=(0:Int)))||(decide ((steps.getD ((0:Int)).toNat (0:Int))<(0:Int))))||(decide ((g.2.2.2.length:Int)≤(steps.getD ((0:Int)).toNat (0:Int)))))||(!decide ((g.2.2.2.getD ((steps.getD ((0:Int)).toNat (0:Int))).toNat ((0:Int),([]:LI))).1=(sign-g.1))))],[e59_0 g,e59_4]⟩:St)) (by kernel_rfl) (tsI 4 (⟨(fun _=>trivial),⟨o1,tiI 2 (fun _=>trivial) (tsI 2 (⟨(fun _=>trivial),⟨o2,tiI 5 (fun _=>trivial) (tsI 2 (tiI 3 (fun _=>trivial) (⟨o3,⟨(fun _=>trivial),⟨o4,tiI 5 (fun _=>trivial) (⟨o5,⟨(fun _=>trivial),tsI 1 trivial⟩⟩)⟩⟩⟩)))⟩⟩))⟩⟩)) ?_
  refine awd_done (by kernel_rfl) ?_
  refine thenQ_n ?_
  refine aw_cond (b:=((((decide ((steps.length:Int)=(0:Int)))||(decide ((steps.getD ((0:Int)).toNat (0:Int))<(0:Int))))||(decide ((g.2.2.2.length:Int)≤(steps.getD ((0:Int)).toNat (0:Int)))))||(!decide ((g.2.2.2.getD ((steps.getD ((0:Int)).toNat (0:Int))).toNat ((0:Int),([]:LI))).1=(sign-g.1))))) (by kernel_rfl) (fun hb=>?_) (fun hb=>?_)
  ·have h:=h.1 hb
   refine srn 4 ⟨102,[sp 6 6,s1 7 (.nils),sB 8 false],[e59_4]⟩ (by kernel_rfl) rfl ?_
   refine aw_ret ?_
   refine thenQ_r ?_
   exact retQ_r (ob:=Ts 3 True) _ (by kernel_rfl) (tsI 3 trivial) h
  ·have h:=h.2 hb
   refine aw_skip ?_
   refine thenQ_n ?_
   refine sr ?_
   obtain ⟨o1,h⟩:=h
   refine rq 6 (ob:=(Ts 1 (inIdx (0:Int) steps.length∧Ts 4 True))) (st':=(⟨102,[s1 2 (.pS steps),sp 3 3,sp 6 6,sp 9 9],[e59_0 g,e59_4,e59_9 steps]⟩:St)) (by kernel_rfl) (tsI 1 ⟨o1,tsI 4 trivial⟩) ?_
   refine nsr ?_
   obtain ⟨o1,h⟩:=h
   refine rq 3 (ob:=(Ts 1 ((0≤(1:Int)∧(1:Int)≤(steps.length:Int))∧Ts 1 True))) (st':=(⟨102,[s1 2 (.pS (steps.drop ((1:Int)).toNat)),sp 3 3,sp 6 6,sp 9 9],[e59_0 g,e59_4,e59_9 steps]⟩:St)) (by kernel_rfl) (tsI 1 ⟨o1,tsI 1 trivial⟩) ?_
   refine nn ?_
   refine aw_seq ?_
   refine sr ?_
   obtain ⟨o1,h⟩:=h
   refine rq 9 (ob:=(Ts 4 (inIdx (steps.getD ((0:Int)).toNat (0:Int)) g.2.2.2.length∧Ts 4 True))) (st':=(⟨102,[s1 2 (.pS (steps.drop ((1:Int)).toNat)),sp 3 3,sp 6 6,sp 9 9,e59_2 g steps,e59_1 g steps,sI 71 (0:Int)],[e59_0 g,e59_4,e59_9 steps]⟩:St)) (by kernel_rfl) (tsI 4 ⟨o1,tsI 4 trivial⟩) ?_
   refine nn ?_
   refine withJoin (σ:=LI×(List Tree)×LI) (fun s=>(⟨102,[s1 2 (.pS s.1),sp 6 6,sp 9 9],[e59_4,e59_3 steps,hA 6181 113 .tr s.2.1,hA 6182 3 tI s.2.2]⟩:St)) (fun s=>VC59_k1 steps K s.1 s.2.1 s.2.2) (fun s h=>?_) (fun rest1=>?_)
   ·obtain ⟨steps2,l6181,l6182⟩:=s
    have h:VC59_k1 steps K steps2 l6181 l6182:=h
    unfold VC59_k1 at h
    refine thenQ_n ?_
    refine srn 5 ⟨102,[sp 6 6,s1 7 (.pS steps2),sB 8 true],[hB 6 [.pI (steps.getD ((0:Int)).toNat (0:Int)),.own 6181,.own 6182],hA 6181 113 .tr l6181,e59_6 l6182]⟩ (by kernel_rfl) rfl ?_
    refine aw_conv [.freeze 6181,.freeze 6182] (st':=(⟨102,[sp 6 6,s1 7 (.pS steps2),sB 8 true],[hB 6 [.pI (steps.getD ((0:Int)).toNat (0:Int)),.p (.sl .tr) l6181,.pS l6182]]⟩:St)) (by kernel_rfl) ?_
    refine aw_ret ?_
    exact retQ_r (ob:=Ts 3 True) _ (by kernel_rfl) (tsI 3 trivial) h
   ·refine aw_block ?_
    refine aw_conv [.nilOwnB 9 1 6181 113 .tr,.nilOwnB 9 2 6182 3 tI,.prune [2,3,6,9,69,70,71] [3,6,9,6181,6182]] (st':=(⟨102,[s1 2 (.pS (steps.drop ((1:Int)).toNat)),sp 3 3,sp 6 6,sp 9 9,e59_2 g steps,e59_1 g steps,sI 71 (0:Int)],[e59_0 g,e59_4,e59_3 steps,hA 6181 113 .tr ([]:List Tree),hA 6182 3 tI ([]:List Int)]⟩:St)) (by kernel_rfl) ?_
    refine aw_loop (σ:=LI×Int×(List Tree)×LI) (fun s=>(⟨102,[s1 2 (.pS s.1),sp 3 3,sp 6 6,sp 9 9,e59_2 g steps,e59_1 g steps,sI 71 s.2.1],[e59_0 g,e59_4,e59_3 steps,hA 6181 113 .tr s.2.2.1,hA 6182 3 tI s.2.2.2]⟩:St)) (fun s X=>VC59_l1 R g steps K s.1 s.2.1 s.2.2.1 s.2.2.2 X) (s0:=((steps.drop ((1:Int)).toNat),(0:Int),([]:List Tree),([]:List Int))) (fun s X1 h=>?_) h
    obtain ⟨steps2,v71,l6181,l6182⟩:=s
    have h:VC59_l1 R g steps K steps2 v71 l6181 l6182 X1:=h
    unfold VC59_l1 at h
    refine srn 1 ⟨102,[s1 2 (.pS steps2),sp 3 3,sp 6 6,sp 9 9,e59_2 g steps,e59_1 g steps,sI 71 v71,sB 72 (decide (v71<(((g.2.2.2.getD ((steps.getD ((0:Int)).toNat (0:Int))).toNat ((0:Int),([]:LI))).2).length:Int)))],[e59_0 g,e59_4,e59_3 steps,hA 6181 113 .tr l6181,e59_6 l6182]⟩ (by kernel_rfl) rfl ?_
    refine aw_seq ?_
    refine aw_cond (b:=(decide (v71<(((g.2.2.2.getD ((steps.getD ((0:Int)).toNat (0:Int))).toNat ((0:Int),([]:LI))).2).length:Int)))) (by kernel_rfl) (fun hb=>?_) (fun hb=>?_)
    ·have h:=h.1 hb
     refine aw_skip ?_
     refine thenQ_n ?_
     refine aw_seq ?_
     refine aw_block ?_
     refine sr ?_
     obtain ⟨o1,h⟩:=h
     refine rq 3 (ob:=(inIdx v71 ((g.2.2.2.getD ((steps.getD ((0:Int)).toNat (0:Int))).toNat ((0:Int),([]:LI))).2).length∧Ts 2 True)) (st':=(⟨102,[s1 2 (.pS steps2),sp 3 3,sp 6 6,sp 9 9,sI 11 (((g.2.2.2.getD ((steps.getD ((0:Int)).toNat (0:Int))).toNat ((0:Int),([]:LI))).2).getD (v71).toNat (0:Int)),e59_2 g steps,e59_1 g steps,sI 71 v71],[e59_0 g,e59_4,e59_3 steps,hA 6181 113 .tr l6181,e59_6 l6182]⟩:St)) (by kernel_rfl) (⟨o1,tsI 2 trivial⟩) ?_
     refine nsr ?_
     refine rqT 3 ⟨102,[sp 3 3,sp 6 6,sp 9 9,e59_2 g steps,e59_1 g steps,sI 71 v71,sA 76 [.pI g.1,.pI g.2.1,.pI g.2.2.1,.p (.sl tR) g.2.2.2],sI 77 (((g.2.2.2.getD ((steps.getD ((0:Int)).toNat (0:Int))).toNat ((0:Int),([]:LI))).2).getD (v71).toNat (0:Int)),s1 78 (.pS steps2)],[e59_0 g,e59_4,e59_3 steps,hA 6181 113 .tr l6181,e59_6 l6182]⟩ (by kernel_rfl) ?_
     refine lcq (d:=79) [.d tG,.d tI,.d (.sl tI)] (fun ret79v=>(⟨102,[sp 3 3,sp 6 6,sp 9 9,e59_2 g steps,e59_1 g steps,sI 71 v71,(79,[],.tup [.agg [.pI ret79v.1.rule,.p (.sl .tr) ret79v.1.kids,.pS ret79v.1.word],.c (.pS ret79v.2.1),.c (.pB ret79v.2.2)])],[e59_0 g,e59_4,e59_3 steps,hA 6181 113 .tr l6181,e59_6 l6182]⟩:St)) (by kernel_rfl) Try.call59 (fun _=>by kernel_rfl) (hR g (((g.2.2.2.getD ((steps.getD ((0:Int)).toNat (0:Int))).toNat ((0:Int),([]:LI))).2).getD (v71).toNat (0:Int)) steps2 _ h) (fun ret79v h=>?_)
     refine rqT 8 ⟨102,[sp 3 3,sp 6 6,sp 9 9,sp 12 12,s1 13 (.pS ret79v.2.1),sB 14 ret79v.2.2,e59_2 g steps,e59_1 g steps,sI 71 v71],[e59_0 g,e59_4,e59_3 steps,e59_7 ret79v,hA 6181 113 .tr l6181,e59_6 l6182]⟩ (by kernel_rfl) ?_
     refine nn ?_
     refine aw_seq ?_
     refine srn 2 ⟨102,[sp 3 3,sp 6 6,sp 9 9,sp 12 12,s1 13 (.pS ret79v.2.1),e59_2 g steps,e59_1 g steps,sI 71 v71,sB 84 (!ret79v.2.2)],[e59_0 g,e59_4,e59_3 steps,e59_7 ret79v,hA 6181 113 .tr l6181,e59_6 l6182]⟩ (by kernel_rfl) rfl ?_
     refine aw_cond (b:=(!ret79v.2.2)) (by kernel_rfl) (fun hb=>?_) (fun hb=>?_)
     ·have h:=h.1 hb
      refine srn 4 ⟨102,[sp 6 6,s1 7 (.nils),sB 8 false],[e59_4]⟩ (by kernel_rfl) rfl ?_
      refine aw_ret ?_
      refine thenQ_r ?_
      refine blockQ_r ?_
      refine thenQ_r ?_
      refine thenQ_r ?_
      refine blockQ_r ?_
      refine thenQ_r ?_
      exact retQ_r (ob:=Ts 3 True) _ (by kernel_rfl) (tsI 3 trivial) h
     ·have h:=h.2 hb
      refine aw_skip ?_
      refine thenQ_n ?_
      refine sr ?_
      obtain ⟨o1,h⟩:=h
      refine rq 7 (ob:=(Ts 4 (roomW 56 (l6181.length+[(Tree.node ret79v.1.rule ret79v.1.kids ret79v.1.word)].length)∧Ts 2 True))) (st':=(⟨102,[sp 3 3,sp 6 6,sp 9 9,sp 12 12,s1 13 (.pS ret79v.2.1),e59_2 g steps,e59_1 g steps,sI 71 v71],[e59_0 g,e59_4,hB 9 [.pI (steps.getD ((0:Int)).toNat (0:Int)),.own 90,.own 6182],e59_7 ret79v,e59_5 l6181 ret79v,e59_6 l6182]⟩:St)) (by kernel_rfl) (tsI 4 ⟨o1,tsI 2 trivial⟩) ?_
      refine nsr ?_
      obtain ⟨o1,h⟩:=h
      refine rq 7 (ob:=(Ts 4 (roomW 8 (l6182.length+ret79v.1.word.length)∧Ts 2 True))) (st':=(⟨102,[sp 3 3,sp 6 6,sp 9 9,s1 13 (.pS ret79v.2.1),e59_2 g steps,e59_1 g steps,sI 71 v71],[e59_0 g,e59_4,e59_8 steps,e59_5 l6181 ret79v,hA 96 3 tI (l6182++ret79v.1.word)]⟩:St)) (by kernel_rfl) (tsI 4 ⟨o1,tsI 2 trivial⟩) ?_
      refine nn ?_
      refine aw_region ?_
      refine rqT 2 ⟨102,[s1 2 (.pS ret79v.2.1),sp 3 3,sp 6 6,sp 9 9,e59_2 g steps,e59_1 g steps,sI 71 v71],[e59_0 g,e59_4,e59_8 steps,e59_5 l6181 ret79v,hA 96 3 tI (l6182++ret79v.1.word)]⟩ (by kernel_rfl) ?_
      refine awl_nil ?_
      refine blockQ_n ?_
      refine thenQ_n ?_
      refine aw_region ?_
      obtain ⟨o1,h⟩:=h
      refine rq 2 (ob:=(InR (v71+(1:Int))∧Ts 1 True)) (st':=(⟨102,[s1 2 (.pS ret79v.2.1),sp 3 3,sp 6 6,sp 9 9,e59_2 g steps,e59_1 g steps,sI 71 (v71+(1:Int))],[e59_0 g,e59_4,e59_8 steps,e59_5 l6181 ret79v,hA 96 3 tI (l6182++ret79v.1.word)]⟩:St)) (by kernel_rfl) (⟨o1,tsI 1 trivial⟩) ?_
      refine awl_conv [.ren 90 20090,.ren 96 20096,.ren 20090 6181,.ren 20096 6182] (st':=(⟨102,[s1 2 (.pS ret79v.2.1),sp 3 3,sp 6 6,sp 9 9,e59_2 g steps,e59_1 g steps,sI 71 (v71+(1:Int))],[e59_0 g,e59_4,e59_3 steps,hA 6181 113 .tr (l6181++[(Tree.node ret79v.1.rule ret79v.1.kids ret79v.1.word)]),hA 6182 3 tI (l6182++ret79v.1.word)]⟩:St)) (by kernel_rfl) ?_
      refine awl_nil ?_
      exact thenQ_n ⟨(ret79v.2.1,(v71+(1:Int)),(l6181++[(Tree.node ret79v.1.rule ret79v.1.kids ret79v.1.word)]),(l6182++ret79v.1.word)),rfl,h⟩
    ·have h:=h.2 hb
     refine cpr (st':=(⟨102,[s1 2 (.pS steps2),sp 6 6,sp 9 9],[e59_4,e59_3 steps,hA 6181 113 .tr l6181,e59_6 l6182]⟩:St)) (by kernel_rfl) ?_
     refine aw_exit ?_
     refine thenQ_x ?_
     refine thenQ_x ?_
     refine blockQ_hit ?_
     exact rest1 (steps2,l6181,l6182) h
def VC59_it:Nat→TG→Int→LI→(Tree×LI×Bool→Prop)→Prop
  | 0=>fun _ _ _ _=>False
  | n+1=>fun x0 x1 x2 K=>VC59 (VC59_it n) x0 x1 x2 K
def VCr59 (x0:TG) (x1:Int) (x2:LI) (K:Tree×LI×Bool→Prop):Prop:=∃ n,VC59_it n x0 x1 x2 K
theorem linki59:∀ (n:Nat) (x0:TG) (x1:Int) (x2:LI) (K:Tree×LI×Bool→Prop),VC59_it n x0 x1 x2 K→ACalls Try.prog 59 [toV1 tG x0,toV1 tI x1,toV1 (.sl tI) x2] (fun res=>∃ y,res=(fun y=>[toV1 .tr y.1,toV1 (.sl tI) y.2.1,toV1 .bool y.2.2]) y∧K y)
  | 0,_,_,_,_,h=>False.elim h
  | n+1,x0,x1,x2,K,h=>link59 (VC59_it n) (linki59 n) x0 x1 x2 K h
theorem linkr59 (x0:TG) (x1:Int) (x2:LI) (K:Tree×LI×Bool→Prop) (h:VCr59 x0 x1 x2 K):ACalls Try.prog 59 [toV1 tG x0,toV1 tI x1,toV1 (.sl tI) x2] (fun res=>∃ y,res=(fun y=>[toV1 .tr y.1,toV1 (.sl tI) y.2.1,toV1 .bool y.2.2]) y∧K y):=by
  obtain ⟨n,h⟩:=h
  exact linki59 n x0 x1 x2 K h
abbrev e60_0 (s1v:LI):Nat×Path×AV:=sI 12 (s1v.length:Int)
-- slices.Equal[[]int,int]
def VC60_k1 (K:Bool→Prop):Prop :=
  K true
def VC60_l1 (s1v:LI) (s2v:LI) (K:Bool→Prop) (v13:Int) (X1:Int→Prop):Prop :=
  (((decide (v13<(s1v.length:Int)))=true→(inIdx v13 s1v.length∧inIdx v13 s2v.length∧(((!decide ((s1v.getD (v13).toNat (0:Int))=(s2v.getD (v13).toNat (0:Int))))=true→K false)∧((!decide ((s1v.getD (v13).toNat (0:Int))=(s2v.getD (v13).toNat (0:Int))))=false→(InR (v13+(1:Int))∧X1 (v13+(1:Int)))))))∧((decide (v13<(s1v.length:Int)))=false→VC60_k1 K))
def VC60 (s1v:LI) (s2v:LI) (K:Bool→Prop):Prop :=
  (((!decide ((s1v.length:Int)=(s2v.length:Int)))=true→K false)∧((!decide ((s1v.length:Int)=(s2v.length:Int)))=false→Loop (σ:=Int) (fun s X=>VC60_l1 s1v s2v K s X) (0:Int)))
set_option maxHeartbeats 4000000 in
theorem link60 (s1v:LI) (s2v:LI) (K:Bool→Prop) (h:VC60 s1v s2v K):ACalls Try.prog 60 [toV1 (.sl tI) s1v,toV1 (.sl tI) s2v] (fun res=>∃ y,res=(fun y=>[toV1 .bool y]) y∧K y):=by
 refine acalls_of_aw [.bool] [.t 4] Try.func60 rfl rfl rfl ?_
 unfold VC60 at h
 refine srn 1 ⟨26,[s1 0 (.pS s1v),s1 1 (.pS s2v)],[]⟩ (by kernel_rfl) rfl ?_
 refine aw_seq ?_
 refine srn 5 ⟨26,[s1 0 (.pS s1v),s1 1 (.pS s2v),sB 10 (!decide ((s1v.length:Int)=(s2v.length:Int)))],[]⟩ (by kernel_rfl) rfl ?_
 refine aw_cond (b:=(!decide ((s1v.length:Int)=(s2v.length:Int)))) (by kernel_rfl) (fun hb=>?_) (fun hb=>?_)
 ·have h:=h.1 hb
  refine srn 1 ⟨26,[sB 4 false],[]⟩ (by kernel_rfl) rfl ?_
  refine aw_ret ?_
  refine thenQ_r ?_
  exact retQ_r (ob:=Ts 1 True) _ (by kernel_rfl) (tsI 1 trivial) h
 ·have h:=h.2 hb
  refine aw_skip ?_
  refine thenQ_n ?_
  refine aw_seq ?_
  refine srn 3 ⟨26,[s1 0 (.pS s1v),s1 1 (.pS s2v),e60_0 s1v,sI 13 (0:Int)],[]⟩ (by kernel_rfl) rfl ?_
  refine withJoin (σ:=Unit) (fun s=>(⟨26,[],[]⟩:St)) (fun s=>VC60_k1 K) (fun s h=>?_) (fun rest1=>?_)
  ·have h:VC60_k1 K:=h
   unfold VC60_k1 at h
   refine thenQ_n ?_
   refine srn 1 ⟨26,[sB 4 true],[]⟩ (by kernel_rfl) rfl ?_
   refine aw_ret ?_
   exact retQ_r (ob:=Ts 1 True) _ (by kernel_rfl) (tsI 1 trivial) h
  ·refine aw_block ?_
   refine aw_loop (σ:=Int) (fun s=>(⟨26,[s1 0 (.pS s1v),s1 1 (.pS s2v),e60_0 s1v,sI 13 s],[]⟩:St)) (fun s X=>VC60_l1 s1v s2v K s X) (s0:=(0:Int)) (fun v13 X1 h=>?_) h
   have h:VC60_l1 s1v s2v K v13 X1:=h
   unfold VC60_l1 at h
   refine srn 1 ⟨26,[s1 0 (.pS s1v),s1 1 (.pS s2v),e60_0 s1v,sI 13 v13,sB 14 (decide (v13<(s1v.length:Int)))],[]⟩ (by kernel_rfl) rfl ?_
   refine aw_seq ?_
   refine aw_cond (b:=(decide (v13<(s1v.length:Int)))) (by kernel_rfl) (fun hb=>?_) (fun hb=>?_)
   ·have h:=h.1 hb
    refine aw_skip ?_
    refine thenQ_n ?_
    refine aw_seq ?_
    refine aw_block ?_
    refine srn 2 ⟨26,[s1 0 (.pS s1v),s1 1 (.pS s2v),sI 5 v13,e60_0 s1v,sI 13 v13],[]⟩ (by kernel_rfl) rfl ?_
    refine aw_seq ?_
    refine awd_begin [] (by kernel_rfl) ?_
    obtain ⟨o1,o2,h⟩:=h
    refine drq (by kernel_rfl) [0,1,2,3,4,5,6,7,8] (ob:=(Ts 2 (inIdx v13 s1v.length∧Ts 3 (inIdx v13 s2v.length∧Ts 2 True)))) (done':=[8,7,6,5,4,3,2,1,0]) (st':=(⟨26,[s1 0 (.pS s1v),s1 1 (.pS s2v),e60_0 s1v,sI 13 v13,sB 24 (!decide ((s1v.getD (v13).toNat (0:Int))=(s2v.getD (v13).toNat (0:Int))))],[]⟩:St)) (by kernel_rfl) (tsI 2 (⟨o1,tsI 3 ⟨o2,tsI 2 trivial⟩⟩)) ?_
    refine awd_done (by kernel_rfl) ?_
    refine thenQ_n ?_
    refine aw_cond (b:=(!decide ((s1v.getD (v13).toNat (0:Int))=(s2v.getD (v13).toNat (0:Int))))) (by kernel_rfl) (fun hb=>?_) (fun hb=>?_)
    ·have h:=h.1 hb
     refine srn 1 ⟨26,[sB 4 false],[]⟩ (by kernel_rfl) rfl ?_
     refine aw_ret ?_
     refine blockQ_r ?_
     refine thenQ_r ?_
     refine thenQ_r ?_
     refine blockQ_r ?_
     refine thenQ_r ?_
     exact retQ_r (ob:=Ts 1 True) _ (by kernel_rfl) (tsI 1 trivial) h
    ·have h:=h.2 hb
     refine aw_skip ?_
     refine blockQ_n ?_
     refine thenQ_n ?_
     refine aw_region ?_
     obtain ⟨o1,h⟩:=h
     refine rq 2 (ob:=(InR (v13+(1:Int))∧Ts 1 True)) (st':=(⟨26,[s1 0 (.pS s1v),s1 1 (.pS s2v),e60_0 s1v,sI 13 (v13+(1:Int))],[]⟩:St)) (by kernel_rfl) (⟨o1,tsI 1 trivial⟩) ?_
     refine awl_nil ?_
     exact thenQ_n ⟨(v13+(1:Int)),rfl,h⟩
   ·have h:=h.2 hb
    refine cpr (st':=(⟨26,[],[]⟩:St)) (by kernel_rfl) ?_
    refine aw_exit ?_
    refine thenQ_x ?_
    refine thenQ_x ?_
    refine blockQ_hit ?_
    exact rest1 () h
end Dec
