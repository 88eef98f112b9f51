/-
Printed by dec2.py: of each function its plain demand, and that the demand gives the contract.
-/
import Derived.Test.YtljlpmfmfcljaaaGenUb
set_option linter.unusedSimpArgs false
set_option linter.unusedVariables false
set_option maxRecDepth 100000
namespace Dec
open Go Go.RowKit Go.Proofs
abbrev e45_0 (c1:Int) (c2:Int) (c3:Int) (c4:LR) (c5:LI):Nat×Path×Con:=hB 70000 [.pI c1,.pI c2,.pI c3,.p (.sl tR) c4,.pS c5,.own 70001]
abbrev e45_1 (q0:Int) (q1:(Int×Int)):Nat×Path×Con:=hB 41811 [.cl 85 [.ad ⟨tI,q0⟩,.pt 41800 0,.ad ⟨(.pr tI tI),q1⟩,.pt 41811 0]]
abbrev e45_2 (c7:Int) (c8:(List Tree)) (c9:LI):Nat×Path×Con:=hB 30001 [.pI c7,.p (.sl .tr) c8,.pS c9]
abbrev e45_3 (q0:Int) (q1:(Int×Int)):Nat×Path×AV:=s1 42 (.cl 85 [.ad ⟨tI,q0⟩,.pt 41800 0,.ad ⟨(.pr tI tI),q1⟩,.pt 41811 0])
abbrev e45_4 (c10:Int) (c11:Int):Nat×Path×Con:=hB 30002 [.pI c10,.pI c11]
abbrev e45_5 (c12:Int) (c13:LI):Nat×Path×Con:=hB 30003 [.pI c12,.pS c13]
abbrev e45_6 (c14:LI):Nat×Path×Con:=hA 30006 3 tI c14
abbrev e45_7:Nat×Path×Con:=hB 30000 [.ptr 70000 0]
abbrev e45_8 (q1:(Int×Int)):Nat×Path×AV:=s1 3 (.ad (.pr tI tI) q1)
abbrev e45_9:Nat×Path×Con:=hB 30004 [.own 30006]
abbrev e45_10 (l70001:LK):Nat×Path×Con:=(70001,[],.dict (.pr tI t3) tI l70001)
abbrev e45_11:Nat×Path×Con:=hB 41800 [.yv 37100]
abbrev e45_12 (ret48v:Bool×Int×LK×Int):Nat×Path×Con:=(70001,[],.dict (.pr tI t3) tI ret48v.2.2.1)
abbrev e45_13:Nat×Path×AV:=s1 51 (.yv 37100)
abbrev e45_14 (c6:LK):Nat×Path×Con:=(70001,[],.dict (.pr tI t3) tI c6)
abbrev e45_15 (havev:LI):Nat×Path×AV:=s1 0 (.pS havev)
abbrev e45_16:Nat×Path×AV:=sp 50 41800
abbrev e45_17:Nat×Path×AV:=sp 52 30000
abbrev e45_18:Nat×Path×AV:=sp 53 70000
abbrev e45_19:Nat×Path×AV:=sp 54 30001
abbrev e45_20:Nat×Path×AV:=sp 55 30002
abbrev e45_21:Nat×Path×AV:=sp 56 30003
abbrev e45_22:Nat×Path×AV:=sp 57 30004
abbrev e45_23:Nat×Path×AV:=sp 58 30005
abbrev e45_24:Nat×Path×AV:=sp 59 41811
abbrev e45_25 (l30005:Int):Nat×Path×Con:=hB 30005 [.pI l30005]
abbrev e45_26 (ret48v:Bool×Int×LK×Int):Nat×Path×Con:=hB 30005 [.pI ret48v.2.2.2]
abbrev e45_27:Nat×Path×AV:=sp 4 41811
abbrev e45_28 (ret44v:LI) (endv:Int):Nat×Path×AV:=s1 47 (.pS (ret44v++[endv]))
abbrev e45_29 (c15:Int):Nat×Path×Con:=hB 30005 [.pI c15]
abbrev e45_30 (ret44v:LI) (endv:Int):Nat×Path×Con:=hA 47 3 tI (ret44v++[endv])
abbrev e45_31 (ret44v:LI):Nat×Path×Con:=hA 44 3 tI ret44v
abbrev e45_32 (endv:Int):Nat×Path×Con:=hA 46 3 tI [endv]
abbrev e45_33 (yf22:Int×Int×LK):Nat×Path×Con:=(70001,[],.dict (.pr tI t3) tI yf22.2.2)
abbrev e45_34 (yt22v:Int×LK):Nat×Path×Con:=(70001,[],.dict (.pr tI t3) tI yt22v.2)
abbrev e45_35:Nat×Path×AV:=s1 15 (.yv 37100)
abbrev e45_36 (l700012:LK):Nat×Path×Con:=(70001,[],.dict (.pr tI t3) tI l700012)
abbrev e45_37:Nat×Path×AV:=s1 44 (.own 44)
abbrev e45_38:Nat×Path×AV:=s1 46 (.own 46)
abbrev e45_39 (yv1:LK):Nat×Path×Con:=(70001,[],.dict (.pr tI t3) tI yv1)
abbrev e45_40:Nat×Path×AV:=s1 47 (.own 47)
abbrev e45_n0:List Nat:=[41800,37100,30000,70000,70001,30001,30002,30003,30004,30006,30005,41811]
abbrev e45_n1:List Nat:=[41800,37100,30000,70000,30001,30002,30003,30004,30005,41811]
abbrev e45_n2:List Nat:=[37100,30000,30001,30002,30003,30004,30005,30006,70000,70001]
abbrev e45_n3:List Nat:=[44,46,30000,30001,30002,30003,30004,30005,30006,37100,41800,41811,70000,70001]
abbrev e45_n4:List Nat:=[44,30000,30001,30002,30003,30004,30005,30006,37100,41800,41811,70000,70001]
abbrev e45_n5:List Nat:=[37100,30000,30001,30002,30003,30004,30005,70000]
abbrev e45_n6:List Nat:=[0,3,4,9,42,44,46,50,51,52,53,54,55,56,57,58,59]
abbrev VCc61_s1 (t0:Nat) (t1:Nat) (t2:Nat) (t3:Nat) (t4:Nat) (t5:Nat) (c:Int):List (Nat×AV):=[(3,.v (.c (.ptr t0 0))),(4,.v (.c (.ptr t1 0))),(5,.v (.c (.ptr t2 0))),(7,.v (.c (.ptr t3 0))),(8,.v (.c (.ptr t4 0))),(12,.v (.c (.ptr t5 0)))]
-- coppicer/pick.cuts$1$1
def VCc85y9_k1 (K:Bool×Int×LK×Int→Prop) (v6:Bool) (l30005:Int) (l37100:Int) (l70001:LK):Prop :=
  K (v6,l37100,l70001,l30005)
def VCc85y9_k3 (K:Bool×Int×LK×Int→Prop) (l30005:Int) (l37100:Int) (l70001:LK):Prop :=
  K (true,l37100,l70001,l30005)
def VCc85y9_k4 (K:Bool×Int×LK×Int→Prop) (endv:Int) (X1:Int×Int×Int×LK→Prop) (v49:Bool) (l300052:Int) (l371002:Int) (l700012:LK):Prop :=
  ((v49=true→K (false,l371002,l700012,l300052))∧(v49=false→(InR (endv+(1:Int))∧X1 ((endv+(1:Int)),l300052,l371002,l700012))))
def VCc85y9_l1 (q1:(Int×Int)) (R:LI→Int→LK→Int→(Bool×Int×LK×Int→Prop)→Prop) (havev:LI) (K:Bool×Int×LK×Int→Prop) (endv:Int) (l30005:Int) (l37100:Int) (l70001:LK) (X1:Int×Int×Int×LK→Prop):Prop :=
  (((decide (endv<q1.2))=true→VC54 havev (fun (ret44v:LI)=>(roomW 8 (ret44v.length+[endv].length)∧R (ret44v++[endv]) l37100 l70001 l30005 (fun (ret48v:Bool×Int×LK×Int)=>VCc85y9_k4 K endv X1 (!ret48v.1) ret48v.2.2.2 ret48v.2.1 ret48v.2.2.1))))∧((decide (endv<q1.2))=false→VCc85y9_k3 K l30005 l37100 l70001))
def VCc85y9_k2 (q1:(Int×Int)) (R:LI→Int→LK→Int→(Bool×Int×LK×Int→Prop)→Prop) (havev:LI) (c0:Int) (c6:LK) (c15:Int) (K:Bool×Int×LK×Int→Prop) (fromv:Int):Prop :=
  (InR (fromv+(1:Int))∧Loop (σ:=Int×Int×Int×LK) (fun s X=>VCc85y9_l1 q1 R havev K s.1 s.2.1 s.2.2.1 s.2.2.2 X) ((fromv+(1:Int)),c15,c0,c6))
def VCc85y9 (q0:Int) (q1:(Int×Int)) (c1:Int) (c2:Int) (c3:Int) (c4:LR) (c5:LI) (c7:Int) (c8:(List Tree)) (c9:LI) (c10:Int) (c11:Int) (c12:Int) (c13:LI) (c14:LI) (Y:LI→Int→LK→(Int×LK→Prop)→(Int×Int×LK→Prop)→Prop) (R:LI→Int→LK→Int→(Bool×Int×LK×Int→Prop)→Prop) (havev:LI) (c0:Int) (c6:LK) (c15:Int) (K:Bool×Int×LK×Int→Prop):Prop :=
  (InR (q0-(1:Int))∧(((decide ((havev.length:Int)=(q0-(1:Int))))=true→VC54 havev (fun (ret17v:LI)=>(roomW 8 (ret17v.length+[q1.2].length)∧(c0=(0:Int)∧Y (ret17v++[q1.2]) c15 c6 (fun (yt22v:Int×LK)=>VCc85y9_k1 K true yt22v.1 (0:Int) yt22v.2) (fun (yf22:Int×Int×LK)=>VCc85y9_k1 K false yf22.2.1 yf22.1 yf22.2.2)))))∧((decide ((havev.length:Int)=(q0-(1:Int))))=false→(((decide ((0:Int)<(havev.length:Int)))=true→(InR ((havev.length:Int)-(1:Int))∧inIdx ((havev.length:Int)-(1:Int)) havev.length∧VCc85y9_k2 q1 R havev c0 c6 c15 K (havev.getD (((havev.length:Int)-(1:Int))).toNat (0:Int))))∧((decide ((0:Int)<(havev.length:Int)))=false→VCc85y9_k2 q1 R havev c0 c6 c15 K q1.1)))))
set_option maxHeartbeats 4000000 in
theorem linkc85y9 (lr1:Go.Loop) (c:Int) (q0:Int) (q1:(Int×Int)) (c1:Int) (c2:Int) (c3:Int) (c4:LR) (c5:LI) (c7:Int) (c8:(List Tree)) (c9:LI) (c10:Int) (c11:Int) (c12:Int) (c13:LI) (c14:LI) (Y:LI→Int→LK→(Int×LK→Prop)→(Int×Int×LK→Prop)→Prop) (hY:∀ (ya0:LI) (yv0:Int) (yv1:LK) (Kt:Int×LK→Prop) (Kf:Int×Int×LK→Prop) (h:Y ya0 yv0 yv1 Kt Kf),LYCalls Try.prog 37100 e45_n2 e45_n5 [(37100,[],.lp lr1 (0:Int) (VCc61_s1 30000 30001 30002 30003 30004 30005 c)),e45_7,e45_2 c7 c8 c9,e45_4 c10 c11,e45_5 c12 c13,e45_9,hB 30005 [.pI yv0],e45_6 c14,e45_0 c1 c2 c3 c4 c5,e45_39 yv1] [.c (.pS ya0)] (fun av hp'=>(∃ y:Int×LK,av=.v (.c (.p .bool true))∧hp'=[(37100,[],.lp lr1 (0:Int) (VCc61_s1 30000 30001 30002 30003 30004 30005 c)),e45_7,e45_2 c7 c8 c9,e45_4 c10 c11,e45_5 c12 c13,e45_9,hB 30005 [.pI y.1],e45_6 c14,e45_0 c1 c2 c3 c4 c5,(70001,[],.dict (.pr tI t3) tI y.2)]∧Kt y)∨(∃ y:Int×Int×LK,av=.v (.c (.p .bool false))∧hp'=[(37100,[],.lp lr1 y.1 (VCc61_s1 30000 30001 30002 30003 30004 30005 c)),e45_7,e45_2 c7 c8 c9,e45_4 c10 c11,e45_5 c12 c13,e45_9,hB 30005 [.pI y.2.1],e45_6 c14,e45_0 c1 c2 c3 c4 c5,(70001,[],.dict (.pr tI t3) tI y.2.2)]∧Kf y))) (R:LI→Int→LK→Int→(Bool×Int×LK×Int→Prop)→Prop) (hR:∀ (havev:LI) (c0:Int) (c6:LK) (c15:Int) (K:Bool×Int×LK×Int→Prop),R havev c0 c6 c15 K→LCalls Try.prog 85 e45_n0 e45_n1 [e45_11,(37100,[],.lp lr1 c0 (VCc61_s1 30000 30001 30002 30003 30004 30005 c)),e45_7,e45_0 c1 c2 c3 c4 c5,e45_14 c6,e45_2 c7 c8 c9,e45_4 c10 c11,e45_5 c12 c13,e45_9,e45_6 c14,e45_29 c15,e45_1 q0 q1] [.c (.pS havev),.c (.ad tI q0),.c (.ptr 41800 0),.c (.ad (.pr tI tI) q1),.c (.ptr 41811 0)] (fun av hp'=>∃ y:Bool×Int×LK×Int,av=.v (.c (.pB y.1))∧hp'=[e45_11,(37100,[],.lp lr1 y.2.1 (VCc61_s1 30000 30001 30002 30003 30004 30005 c)),e45_7,e45_0 c1 c2 c3 c4 c5,(70001,[],.dict (.pr tI t3) tI y.2.2.1),e45_2 c7 c8 c9,e45_4 c10 c11,e45_5 c12 c13,e45_9,e45_6 c14,hB 30005 [.pI y.2.2.2],e45_1 q0 q1]∧K y)) (havev:LI) (c0:Int) (c6:LK) (c15:Int) (K:Bool×Int×LK×Int→Prop) (h:VCc85y9 q0 q1 c1 c2 c3 c4 c5 c7 c8 c9 c10 c11 c12 c13 c14 Y R havev c0 c6 c15 K):LCalls Try.prog 85 e45_n0 e45_n1 [e45_11,(37100,[],.lp lr1 c0 (VCc61_s1 30000 30001 30002 30003 30004 30005 c)),e45_7,e45_0 c1 c2 c3 c4 c5,e45_14 c6,e45_2 c7 c8 c9,e45_4 c10 c11,e45_5 c12 c13,e45_9,e45_6 c14,e45_29 c15,e45_1 q0 q1] [.c (.pS havev),.c (.ad tI q0),.c (.ptr 41800 0),.c (.ad (.pr tI tI) q1),.c (.ptr 41811 0)] (fun av hp'=>∃ y:Bool×Int×LK×Int,av=.v (.c (.pB y.1))∧hp'=[e45_11,(37100,[],.lp lr1 y.2.1 (VCc61_s1 30000 30001 30002 30003 30004 30005 c)),e45_7,e45_0 c1 c2 c3 c4 c5,(70001,[],.dict (.pr tI t3) tI y.2.2.1),e45_2 c7 c8 c9,e45_4 c10 c11,e45_5 c12 c13,e45_9,e45_6 c14,hB 30005 [.pI y.2.2.2],e45_1 q0 q1]∧K y):=by
 refine lcalls_of_aw e45_n0 e45_n1 [.t 6] Try.func85 rfl rfl (by kernel_rfl) (by kernel_rfl) (by kernel_rfl) ?_
 refine aw_conv [] (st':=(⟨50,[e45_15 havev,s1 1 (.ad tI q0),sp 2 41800,e45_8 q1,e45_27,e45_16,e45_13,e45_17,e45_18,e45_19,e45_20,e45_21,e45_22,e45_23,e45_24],[e45_11,(37100,[],.lp lr1 c0 (VCc61_s1 30000 30001 30002 30003 30004 30005 c)),e45_7,e45_0 c1 c2 c3 c4 c5,e45_14 c6,e45_2 c7 c8 c9,e45_4 c10 c11,e45_5 c12 c13,e45_9,e45_6 c14,e45_29 c15,e45_1 q0 q1]⟩:St)) (by kernel_rfl) ?_
 unfold VCc85y9 at h
 refine srn 1 ⟨50,[e45_15 havev,s1 1 (.ad tI q0),sp 2 41800,e45_8 q1,e45_27,e45_16,e45_13,e45_17,e45_18,e45_19,e45_20,e45_21,e45_22,e45_23,e45_24],[e45_7,e45_2 c7 c8 c9,e45_4 c10 c11,e45_5 c12 c13,e45_9,e45_29 c15,e45_6 c14,(37100,[],.lp lr1 c0 (VCc61_s1 30000 30001 30002 30003 30004 30005 c)),e45_11,e45_1 q0 q1,e45_0 c1 c2 c3 c4 c5,e45_14 c6]⟩ (by kernel_rfl) rfl ?_
 refine aw_seq ?_
 refine sr ?_
 obtain ⟨o1,h⟩:=h
 refine rq 5 (ob:=(Ts 3 (InR (q0-(1:Int))∧Ts 1 True))) (st':=(⟨50,[e45_15 havev,sp 2 41800,e45_8 q1,e45_27,sB 14 (decide ((havev.length:Int)=(q0-(1:Int)))),e45_16,e45_13,e45_17,e45_18,e45_19,e45_20,e45_21,e45_22,e45_23,e45_24],[e45_7,e45_2 c7 c8 c9,e45_4 c10 c11,e45_5 c12 c13,e45_9,e45_29 c15,e45_6 c14,(37100,[],.lp lr1 c0 (VCc61_s1 30000 30001 30002 30003 30004 30005 c)),e45_11,e45_1 q0 q1,e45_0 c1 c2 c3 c4 c5,e45_14 c6]⟩:St)) (by kernel_rfl) (tsI 3 ⟨o1,tsI 1 trivial⟩) ?_
 refine nn ?_
 refine aw_cond (b:=(decide ((havev.length:Int)=(q0-(1:Int))))) (by kernel_rfl) (fun hb=>?_) (fun hb=>?_)
 ·have h:=h.1 hb
  refine aw_seq ?_
  refine withJoin (σ:=Bool×Int×Int×LK) (fun s=>(⟨50,[sB 6 s.1,e45_16,e45_13,e45_17,e45_18,e45_19,e45_20,e45_21,e45_22,e45_23,e45_24],[e45_7,e45_2 c7 c8 c9,e45_4 c10 c11,e45_5 c12 c13,e45_9,hB 30005 [.pI s.2.1],e45_6 c14,(37100,[],.lp lr1 s.2.2.1 (VCc61_s1 30000 30001 30002 30003 30004 30005 c)),e45_11,e45_1 q0 q1,e45_0 c1 c2 c3 c4 c5,(70001,[],.dict (.pr tI t3) tI s.2.2.2)]⟩:St)) (fun s=>VCc85y9_k1 K s.1 s.2.1 s.2.2.1 s.2.2.2) (fun s h=>?_) (fun rest1=>?_)
  ·obtain ⟨v6,l30005,l37100,l70001⟩:=s
   have h:VCc85y9_k1 K v6 l30005 l37100 l70001:=h
   unfold VCc85y9_k1 at h
   refine thenQ_n ?_
   refine cpr (st':=(⟨50,[sB 6 v6,e45_16,e45_13,e45_17,e45_18,e45_19,e45_20,e45_21,e45_22,e45_23,e45_24],[e45_11,(37100,[],.lp lr1 l37100 (VCc61_s1 30000 30001 30002 30003 30004 30005 c)),e45_7,e45_0 c1 c2 c3 c4 c5,e45_10 l70001,e45_2 c7 c8 c9,e45_4 c10 c11,e45_5 c12 c13,e45_9,e45_6 c14,e45_25 l30005,e45_1 q0 q1]⟩:St)) (by kernel_rfl) ?_
   refine aw_ret ?_
   refine thenQ_r ?_
   exact lret_r (σ:=Bool×Int×LK×Int) (A:=fun y=>.v (.c (.pB y.1))) (H:=fun y=>[e45_11,(37100,[],.lp lr1 y.2.1 (VCc61_s1 30000 30001 30002 30003 30004 30005 c)),e45_7,e45_0 c1 c2 c3 c4 c5,(70001,[],.dict (.pr tI t3) tI y.2.2.1),e45_2 c7 c8 c9,e45_4 c10 c11,e45_5 c12 c13,e45_9,e45_6 c14,hB 30005 [.pI y.2.2.2],e45_1 q0 q1]) (ob:=True) (v6,l37100,l70001,l30005) (by kernel_rfl) trivial rfl (by kernel_rfl) (by kernel_rfl) (by kernel_rfl) h
  ·refine awd_begin [17,30000,30001,30002,30003,30004,30005,30006,37100,70000,70001] (by kernel_rfl) ?_
   refine drq (by kernel_rfl) [0,1,3,4] (ob:=(Ts 4 True)) (done':=[4,3,1,0]) (st':=(⟨50,[e45_35,s1 16 (.pS havev),sI 19 q1.2,e45_16,e45_13,e45_17,e45_18,e45_19,e45_20,e45_21,e45_22,e45_23,e45_24],[e45_7,e45_2 c7 c8 c9,e45_4 c10 c11,e45_5 c12 c13,e45_9,e45_29 c15,e45_6 c14,(37100,[],.lp lr1 c0 (VCc61_s1 30000 30001 30002 30003 30004 30005 c)),e45_11,e45_1 q0 q1,e45_0 c1 c2 c3 c4 c5,e45_14 c6]⟩:St)) (by kernel_rfl) (tsI 4 trivial) ?_
   refine awd_two (i:=2) (j:=5) (by kernel_rfl) ?_ ?_
   ·have h:=h
    refine adop_callOk (e:=3) (t:=tI) (l:=[toV1 (.sl tI) havev]) (cl:=[]) false [.d (.sl tI)] [15,17,19,50,51,52,53,54,55,56,57,58,59] [17,30000,30001,30002,30003,30004,30005,30006,37100,41800,41811,70000,70001] (fun (ret17v:LI)=>(roomW 8 (ret17v.length+[q1.2].length)∧(c0=(0:Int)∧Y (ret17v++[q1.2]) c15 c6 (fun (yt22v:Int×LK)=>VCc85y9_k1 K true yt22v.1 (0:Int) yt22v.2) (fun (yf22:Int×Int×LK)=>VCc85y9_k1 K false yf22.2.1 yf22.1 yf22.2.2)))) (fun ret17v=>(⟨50,[e45_35,s1 17 (.own 17),sI 19 q1.2,e45_16,e45_13,e45_17,e45_18,e45_19,e45_20,e45_21,e45_22,e45_23,e45_24],[hA 17 3 tI ret17v,e45_7,e45_2 c7 c8 c9,e45_4 c10 c11,e45_5 c12 c13,e45_9,e45_29 c15,e45_6 c14,(37100,[],.lp lr1 c0 (VCc61_s1 30000 30001 30002 30003 30004 30005 c)),e45_11,e45_1 q0 q1,e45_0 c1 c2 c3 c4 c5,e45_14 c6]⟩:St)) rfl rfl rfl (by kernel_rfl) rfl (by kernel_rfl) Try.call54 (by kernel_rfl) (fun e=>by cases e) (fun ret17v=>by kernel_rfl) (link54 havev _ h) (fun ret17v h=>?_)
    refine awd_one (i:=5) (by kernel_rfl) ?_
    refine dsq (ob:=True) (st':=(⟨50,[e45_35,s1 17 (.own 17),s1 20 (.own 20),e45_16,e45_13,e45_17,e45_18,e45_19,e45_20,e45_21,e45_22,e45_23,e45_24],[hA 17 3 tI ret17v,hA 20 3 tI [q1.2],e45_7,e45_2 c7 c8 c9,e45_4 c10 c11,e45_5 c12 c13,e45_9,e45_29 c15,e45_6 c14,(37100,[],.lp lr1 c0 (VCc61_s1 30000 30001 30002 30003 30004 30005 c)),e45_11,e45_1 q0 q1,e45_0 c1 c2 c3 c4 c5,e45_14 c6]⟩:St)) rfl (by kernel_rfl) trivial ?_
    refine awd_one (i:=6) (by kernel_rfl) ?_
    obtain ⟨o1,h⟩:=h
    refine dsq (ob:=roomW 8 (ret17v.length+[q1.2].length)) (st':=(⟨50,[e45_35,s1 21 (.own 21),e45_16,e45_13,e45_17,e45_18,e45_19,e45_20,e45_21,e45_22,e45_23,e45_24],[hA 21 3 tI (ret17v++[q1.2]),e45_7,e45_2 c7 c8 c9,e45_4 c10 c11,e45_5 c12 c13,e45_9,e45_29 c15,e45_6 c14,(37100,[],.lp lr1 c0 (VCc61_s1 30000 30001 30002 30003 30004 30005 c)),e45_11,e45_1 q0 q1,e45_0 c1 c2 c3 c4 c5,e45_14 c6]⟩:St)) rfl (by kernel_rfl) o1 ?_
    refine awd_conv [.freeze 21] (st':=(⟨50,[e45_35,s1 21 (.pS (ret17v++[q1.2])),e45_16,e45_13,e45_17,e45_18,e45_19,e45_20,e45_21,e45_22,e45_23,e45_24],[e45_7,e45_2 c7 c8 c9,e45_4 c10 c11,e45_5 c12 c13,e45_9,e45_29 c15,e45_6 c14,(37100,[],.lp lr1 c0 (VCc61_s1 30000 30001 30002 30003 30004 30005 c)),e45_11,e45_1 q0 q1,e45_0 c1 c2 c3 c4 c5,e45_14 c6]⟩:St)) (by kernel_rfl) rfl ?_
    obtain ⟨hk,h⟩:=h
    refine awd_lpz (r:=37100) (x0:=lr1) (k:=c0) (sl:=VCc61_s1 30000 30001 30002 30003 30004 30005 c) hk (by kernel_rfl) (st':=(⟨50,[e45_35,s1 21 (.pS (ret17v++[q1.2])),e45_16,e45_13,e45_17,e45_18,e45_19,e45_20,e45_21,e45_22,e45_23,e45_24],[e45_7,e45_2 c7 c8 c9,e45_4 c10 c11,e45_5 c12 c13,e45_9,e45_29 c15,e45_6 c14,(37100,[],.lp lr1 (0:Int) (VCc61_s1 30000 30001 30002 30003 30004 30005 c)),e45_11,e45_1 q0 q1,e45_0 c1 c2 c3 c4 c5,e45_14 c6]⟩:St)) (by kernel_rfl) ?_
    refine awd_one (i:=7) (by kernel_rfl) ?_
    refine dycq (d:=22) e45_n2 (fun yt22v=>(⟨50,[sB 22 true,e45_16,e45_13,e45_17,e45_18,e45_19,e45_20,e45_21,e45_22,e45_23,e45_24],[e45_7,e45_2 c7 c8 c9,e45_4 c10 c11,e45_5 c12 c13,e45_9,hB 30005 [.pI yt22v.1],e45_6 c14,(37100,[],.lp lr1 (0:Int) (VCc61_s1 30000 30001 30002 30003 30004 30005 c)),e45_11,e45_1 q0 q1,e45_0 c1 c2 c3 c4 c5,e45_34 yt22v]⟩:St)) (fun yf22=>(⟨50,[sB 22 false,e45_16,e45_13,e45_17,e45_18,e45_19,e45_20,e45_21,e45_22,e45_23,e45_24],[e45_7,e45_2 c7 c8 c9,e45_4 c10 c11,e45_5 c12 c13,e45_9,hB 30005 [.pI yf22.2.1],e45_6 c14,(37100,[],.lp lr1 yf22.1 (VCc61_s1 30000 30001 30002 30003 30004 30005 c)),e45_11,e45_1 q0 q1,e45_0 c1 c2 c3 c4 c5,e45_33 yf22]⟩:St)) rfl (by kernel_rfl) (by kernel_rfl) (fun _=>by kernel_rfl) (fun _=>by kernel_rfl) (hY (ret17v++[q1.2]) c15 c6 _ _ h) (fun yt22v h=>?_) (fun yf22 h=>?_)
    ·refine drq (by kernel_rfl) [8] (ob:=(Ts 1 True)) (done':=[8,7,6,5,2,4,3,1,0]) (st':=(⟨50,[sB 6 true,e45_16,e45_13,e45_17,e45_18,e45_19,e45_20,e45_21,e45_22,e45_23,e45_24],[e45_7,e45_2 c7 c8 c9,e45_4 c10 c11,e45_5 c12 c13,e45_9,hB 30005 [.pI yt22v.1],e45_6 c14,(37100,[],.lp lr1 (0:Int) (VCc61_s1 30000 30001 30002 30003 30004 30005 c)),e45_11,e45_1 q0 q1,e45_0 c1 c2 c3 c4 c5,e45_34 yt22v]⟩:St)) (by kernel_rfl) (tsI 1 trivial) ?_
     refine awd_done (by kernel_rfl) ?_
     exact rest1 (true,yt22v.1,(0:Int),yt22v.2) h
    ·refine drq (by kernel_rfl) [8] (ob:=(Ts 1 True)) (done':=[8,7,6,5,2,4,3,1,0]) (st':=(⟨50,[sB 6 false,e45_16,e45_13,e45_17,e45_18,e45_19,e45_20,e45_21,e45_22,e45_23,e45_24],[e45_7,e45_2 c7 c8 c9,e45_4 c10 c11,e45_5 c12 c13,e45_9,hB 30005 [.pI yf22.2.1],e45_6 c14,(37100,[],.lp lr1 yf22.1 (VCc61_s1 30000 30001 30002 30003 30004 30005 c)),e45_11,e45_1 q0 q1,e45_0 c1 c2 c3 c4 c5,e45_33 yf22]⟩:St)) (by kernel_rfl) (tsI 1 trivial) ?_
     refine awd_done (by kernel_rfl) ?_
     exact rest1 (false,yf22.2.1,yf22.1,yf22.2.2) h
   ·have h:=h
    refine dsq (ob:=True) (st':=(⟨50,[e45_35,s1 16 (.pS havev),s1 20 (.own 20),e45_16,e45_13,e45_17,e45_18,e45_19,e45_20,e45_21,e45_22,e45_23,e45_24],[hA 20 3 tI [q1.2],e45_7,e45_2 c7 c8 c9,e45_4 c10 c11,e45_5 c12 c13,e45_9,e45_29 c15,e45_6 c14,(37100,[],.lp lr1 c0 (VCc61_s1 30000 30001 30002 30003 30004 30005 c)),e45_11,e45_1 q0 q1,e45_0 c1 c2 c3 c4 c5,e45_14 c6]⟩:St)) rfl (by kernel_rfl) trivial ?_
    refine awd_one (i:=2) (by kernel_rfl) ?_
    refine adop_callOk (e:=3) (t:=tI) (l:=[toV1 (.sl tI) havev]) (cl:=[]) false [.d (.sl tI)] [15,17,20,50,51,52,53,54,55,56,57,58,59] [17,20,30000,30001,30002,30003,30004,30005,30006,37100,41800,41811,70000,70001] (fun (ret17v:LI)=>(roomW 8 (ret17v.length+[q1.2].length)∧(c0=(0:Int)∧Y (ret17v++[q1.2]) c15 c6 (fun (yt22v:Int×LK)=>VCc85y9_k1 K true yt22v.1 (0:Int) yt22v.2) (fun (yf22:Int×Int×LK)=>VCc85y9_k1 K false yf22.2.1 yf22.1 yf22.2.2)))) (fun ret17v=>(⟨50,[e45_35,s1 17 (.own 17),s1 20 (.own 20),e45_16,e45_13,e45_17,e45_18,e45_19,e45_20,e45_21,e45_22,e45_23,e45_24],[hA 17 3 tI ret17v,hA 20 3 tI [q1.2],e45_7,e45_2 c7 c8 c9,e45_4 c10 c11,e45_5 c12 c13,e45_9,e45_29 c15,e45_6 c14,(37100,[],.lp lr1 c0 (VCc61_s1 30000 30001 30002 30003 30004 30005 c)),e45_11,e45_1 q0 q1,e45_0 c1 c2 c3 c4 c5,e45_14 c6]⟩:St)) rfl rfl rfl (by kernel_rfl) rfl (by kernel_rfl) Try.call54 (by kernel_rfl) (fun e=>by cases e) (fun ret17v=>by kernel_rfl) (link54 havev _ h) (fun ret17v h=>?_)
    refine awd_one (i:=6) (by kernel_rfl) ?_
    obtain ⟨o1,h⟩:=h
    refine dsq (ob:=roomW 8 (ret17v.length+[q1.2].length)) (st':=(⟨50,[e45_35,s1 21 (.own 21),e45_16,e45_13,e45_17,e45_18,e45_19,e45_20,e45_21,e45_22,e45_23,e45_24],[hA 21 3 tI (ret17v++[q1.2]),e45_7,e45_2 c7 c8 c9,e45_4 c10 c11,e45_5 c12 c13,e45_9,e45_29 c15,e45_6 c14,(37100,[],.lp lr1 c0 (VCc61_s1 30000 30001 30002 30003 30004 30005 c)),e45_11,e45_1 q0 q1,e45_0 c1 c2 c3 c4 c5,e45_14 c6]⟩:St)) rfl (by kernel_rfl) o1 ?_
    refine awd_conv [.freeze 21] (st':=(⟨50,[e45_35,s1 21 (.pS (ret17v++[q1.2])),e45_16,e45_13,e45_17,e45_18,e45_19,e45_20,e45_21,e45_22,e45_23,e45_24],[e45_7,e45_2 c7 c8 c9,e45_4 c10 c11,e45_5 c12 c13,e45_9,e45_29 c15,e45_6 c14,(37100,[],.lp lr1 c0 (VCc61_s1 30000 30001 30002 30003 30004 30005 c)),e45_11,e45_1 q0 q1,e45_0 c1 c2 c3 c4 c5,e45_14 c6]⟩:St)) (by kernel_rfl) rfl ?_
    obtain ⟨hk,h⟩:=h
    refine awd_lpz (r:=37100) (x0:=lr1) (k:=c0) (sl:=VCc61_s1 30000 30001 30002 30003 30004 30005 c) hk (by kernel_rfl) (st':=(⟨50,[e45_35,s1 21 (.pS (ret17v++[q1.2])),e45_16,e45_13,e45_17,e45_18,e45_19,e45_20,e45_21,e45_22,e45_23,e45_24],[e45_7,e45_2 c7 c8 c9,e45_4 c10 c11,e45_5 c12 c13,e45_9,e45_29 c15,e45_6 c14,(37100,[],.lp lr1 (0:Int) (VCc61_s1 30000 30001 30002 30003 30004 30005 c)),e45_11,e45_1 q0 q1,e45_0 c1 c2 c3 c4 c5,e45_14 c6]⟩:St)) (by kernel_rfl) ?_
    refine awd_one (i:=7) (by kernel_rfl) ?_
    refine dycq (d:=22) e45_n2 (fun yt22v=>(⟨50,[sB 22 true,e45_16,e45_13,e45_17,e45_18,e45_19,e45_20,e45_21,e45_22,e45_23,e45_24],[e45_7,e45_2 c7 c8 c9,e45_4 c10 c11,e45_5 c12 c13,e45_9,hB 30005 [.pI yt22v.1],e45_6 c14,(37100,[],.lp lr1 (0:Int) (VCc61_s1 30000 30001 30002 30003 30004 30005 c)),e45_11,e45_1 q0 q1,e45_0 c1 c2 c3 c4 c5,e45_34 yt22v]⟩:St)) (fun yf22=>(⟨50,[sB 22 false,e45_16,e45_13,e45_17,e45_18,e45_19,e45_20,e45_21,e45_22,e45_23,e45_24],[e45_7,e45_2 c7 c8 c9,e45_4 c10 c11,e45_5 c12 c13,e45_9,hB 30005 [.pI yf22.2.1],e45_6 c14,(37100,[],.lp lr1 yf22.1 (VCc61_s1 30000 30001 30002 30003 30004 30005 c)),e45_11,e45_1 q0 q1,e45_0 c1 c2 c3 c4 c5,e45_33 yf22]⟩:St)) rfl (by kernel_rfl) (by kernel_rfl) (fun _=>by kernel_rfl) (fun _=>by kernel_rfl) (hY (ret17v++[q1.2]) c15 c6 _ _ h) (fun yt22v h=>?_) (fun yf22 h=>?_)
    ·refine drq (by kernel_rfl) [8] (ob:=(Ts 1 True)) (done':=[8,7,6,2,5,4,3,1,0]) (st':=(⟨50,[sB 6 true,e45_16,e45_13,e45_17,e45_18,e45_19,e45_20,e45_21,e45_22,e45_23,e45_24],[e45_7,e45_2 c7 c8 c9,e45_4 c10 c11,e45_5 c12 c13,e45_9,hB 30005 [.pI yt22v.1],e45_6 c14,(37100,[],.lp lr1 (0:Int) (VCc61_s1 30000 30001 30002 30003 30004 30005 c)),e45_11,e45_1 q0 q1,e45_0 c1 c2 c3 c4 c5,e45_34 yt22v]⟩:St)) (by kernel_rfl) (tsI 1 trivial) ?_
     refine awd_done (by kernel_rfl) ?_
     exact rest1 (true,yt22v.1,(0:Int),yt22v.2) h
    ·refine drq (by kernel_rfl) [8] (ob:=(Ts 1 True)) (done':=[8,7,6,2,5,4,3,1,0]) (st':=(⟨50,[sB 6 false,e45_16,e45_13,e45_17,e45_18,e45_19,e45_20,e45_21,e45_22,e45_23,e45_24],[e45_7,e45_2 c7 c8 c9,e45_4 c10 c11,e45_5 c12 c13,e45_9,hB 30005 [.pI yf22.2.1],e45_6 c14,(37100,[],.lp lr1 yf22.1 (VCc61_s1 30000 30001 30002 30003 30004 30005 c)),e45_11,e45_1 q0 q1,e45_0 c1 c2 c3 c4 c5,e45_33 yf22]⟩:St)) (by kernel_rfl) (tsI 1 trivial) ?_
     refine awd_done (by kernel_rfl) ?_
     exact rest1 (false,yf22.2.1,yf22.1,yf22.2.2) h
 ·have h:=h.2 hb
  refine aw_skip ?_
  refine thenQ_n ?_
  refine srn 3 ⟨50,[e45_15 havev,e45_8 q1,e45_27,sI 7 q1.1,e45_16,e45_13,e45_17,e45_18,e45_19,e45_20,e45_21,e45_22,e45_23,e45_24],[e45_7,e45_2 c7 c8 c9,e45_4 c10 c11,e45_5 c12 c13,e45_9,e45_29 c15,e45_6 c14,(37100,[],.lp lr1 c0 (VCc61_s1 30000 30001 30002 30003 30004 30005 c)),e45_11,e45_1 q0 q1,e45_0 c1 c2 c3 c4 c5,e45_14 c6]⟩ (by kernel_rfl) rfl ?_
  refine aw_seq ?_
  refine sr ?_
  refine rqT 3 ⟨50,[e45_15 havev,e45_8 q1,e45_27,sI 7 q1.1,sI 8 (havev.length:Int),e45_16,e45_13,e45_17,e45_18,e45_19,e45_20,e45_21,e45_22,e45_23,e45_24],[e45_7,e45_2 c7 c8 c9,e45_4 c10 c11,e45_5 c12 c13,e45_9,e45_29 c15,e45_6 c14,(37100,[],.lp lr1 c0 (VCc61_s1 30000 30001 30002 30003 30004 30005 c)),e45_11,e45_1 q0 q1,e45_0 c1 c2 c3 c4 c5,e45_14 c6]⟩ (by kernel_rfl) ?_
  refine nsr ?_
  refine rqT 2 ⟨50,[e45_15 havev,e45_8 q1,e45_27,sI 7 q1.1,sI 8 (havev.length:Int),sB 28 (decide ((0:Int)<(havev.length:Int))),e45_16,e45_13,e45_17,e45_18,e45_19,e45_20,e45_21,e45_22,e45_23,e45_24],[e45_7,e45_2 c7 c8 c9,e45_4 c10 c11,e45_5 c12 c13,e45_9,e45_29 c15,e45_6 c14,(37100,[],.lp lr1 c0 (VCc61_s1 30000 30001 30002 30003 30004 30005 c)),e45_11,e45_1 q0 q1,e45_0 c1 c2 c3 c4 c5,e45_14 c6]⟩ (by kernel_rfl) ?_
  refine nn ?_
  refine withJoin (σ:=Int) (fun s=>(⟨50,[e45_15 havev,e45_8 q1,e45_27,sI 7 s,e45_16,e45_13,e45_17,e45_18,e45_19,e45_20,e45_21,e45_22,e45_23,e45_24],[e45_7,e45_2 c7 c8 c9,e45_4 c10 c11,e45_5 c12 c13,e45_9,e45_29 c15,e45_6 c14,(37100,[],.lp lr1 c0 (VCc61_s1 30000 30001 30002 30003 30004 30005 c)),e45_11,e45_1 q0 q1,e45_0 c1 c2 c3 c4 c5,e45_14 c6]⟩:St)) (fun s=>VCc85y9_k2 q1 R havev c0 c6 c15 K s) (fun fromv h=>?_) (fun rest4=>?_)
  ·have h:VCc85y9_k2 q1 R havev c0 c6 c15 K fromv:=h
   unfold VCc85y9_k2 at h
   refine thenQ_n ?_
   refine aw_seq ?_
   refine sr ?_
   obtain ⟨o1,h⟩:=h
   refine rq 3 (ob:=(Ts 1 (InR (fromv+(1:Int))∧Ts 1 True))) (st':=(⟨50,[e45_15 havev,e45_8 q1,e45_27,sI 9 (fromv+(1:Int)),e45_16,e45_13,e45_17,e45_18,e45_19,e45_20,e45_21,e45_22,e45_23,e45_24],[e45_7,e45_2 c7 c8 c9,e45_4 c10 c11,e45_5 c12 c13,e45_9,e45_29 c15,e45_6 c14,(37100,[],.lp lr1 c0 (VCc61_s1 30000 30001 30002 30003 30004 30005 c)),e45_11,e45_1 q0 q1,e45_0 c1 c2 c3 c4 c5,e45_14 c6]⟩:St)) (by kernel_rfl) (tsI 1 ⟨o1,tsI 1 trivial⟩) ?_
   refine nn ?_
   refine withJoin (σ:=Int×Int×LK) (fun s=>(⟨50,[e45_16,e45_13,e45_17,e45_18,e45_19,e45_20,e45_21,e45_22,e45_23,e45_24],[e45_7,e45_2 c7 c8 c9,e45_4 c10 c11,e45_5 c12 c13,e45_9,hB 30005 [.pI s.1],e45_6 c14,(37100,[],.lp lr1 s.2.1 (VCc61_s1 30000 30001 30002 30003 30004 30005 c)),e45_11,e45_1 q0 q1,e45_0 c1 c2 c3 c4 c5,(70001,[],.dict (.pr tI t3) tI s.2.2)]⟩:St)) (fun s=>VCc85y9_k3 K s.1 s.2.1 s.2.2) (fun s h=>?_) (fun rest2=>?_)
   ·obtain ⟨l30005,l37100,l70001⟩:=s
    have h:VCc85y9_k3 K l30005 l37100 l70001:=h
    unfold VCc85y9_k3 at h
    refine thenQ_n ?_
    refine srn 1 ⟨50,[sB 6 true,e45_16,e45_13,e45_17,e45_18,e45_19,e45_20,e45_21,e45_22,e45_23,e45_24],[e45_7,e45_2 c7 c8 c9,e45_4 c10 c11,e45_5 c12 c13,e45_9,e45_25 l30005,e45_6 c14,(37100,[],.lp lr1 l37100 (VCc61_s1 30000 30001 30002 30003 30004 30005 c)),e45_11,e45_1 q0 q1,e45_0 c1 c2 c3 c4 c5,e45_10 l70001]⟩ (by kernel_rfl) rfl ?_
    refine cpr (st':=(⟨50,[sB 6 true,e45_16,e45_13,e45_17,e45_18,e45_19,e45_20,e45_21,e45_22,e45_23,e45_24],[e45_11,(37100,[],.lp lr1 l37100 (VCc61_s1 30000 30001 30002 30003 30004 30005 c)),e45_7,e45_0 c1 c2 c3 c4 c5,e45_10 l70001,e45_2 c7 c8 c9,e45_4 c10 c11,e45_5 c12 c13,e45_9,e45_6 c14,e45_25 l30005,e45_1 q0 q1]⟩:St)) (by kernel_rfl) ?_
    refine aw_ret ?_
    exact lret_r (σ:=Bool×Int×LK×Int) (A:=fun y=>.v (.c (.pB y.1))) (H:=fun y=>[e45_11,(37100,[],.lp lr1 y.2.1 (VCc61_s1 30000 30001 30002 30003 30004 30005 c)),e45_7,e45_0 c1 c2 c3 c4 c5,(70001,[],.dict (.pr tI t3) tI y.2.2.1),e45_2 c7 c8 c9,e45_4 c10 c11,e45_5 c12 c13,e45_9,e45_6 c14,hB 30005 [.pI y.2.2.2],e45_1 q0 q1]) (ob:=True) (true,l37100,l70001,l30005) (by kernel_rfl) trivial rfl (by kernel_rfl) (by kernel_rfl) (by kernel_rfl) h
   ·refine aw_block ?_
    refine aw_loop (σ:=Int×Int×Int×LK) (fun s=>(⟨50,[e45_15 havev,e45_8 q1,e45_27,sI 9 s.1,e45_16,e45_13,e45_17,e45_18,e45_19,e45_20,e45_21,e45_22,e45_23,e45_24],[e45_7,e45_2 c7 c8 c9,e45_4 c10 c11,e45_5 c12 c13,e45_9,hB 30005 [.pI s.2.1],e45_6 c14,(37100,[],.lp lr1 s.2.2.1 (VCc61_s1 30000 30001 30002 30003 30004 30005 c)),e45_11,e45_1 q0 q1,e45_0 c1 c2 c3 c4 c5,(70001,[],.dict (.pr tI t3) tI s.2.2.2)]⟩:St)) (fun s X=>VCc85y9_l1 q1 R havev K s.1 s.2.1 s.2.2.1 s.2.2.2 X) (s0:=((fromv+(1:Int)),c15,c0,c6)) (fun s X1 h=>?_) h
    obtain ⟨endv,l30005,l37100,l70001⟩:=s
    have h:VCc85y9_l1 q1 R havev K endv l30005 l37100 l70001 X1:=h
    unfold VCc85y9_l1 at h
    refine aw_seq ?_
    refine srn 4 ⟨50,[e45_15 havev,e45_8 q1,e45_27,sI 9 endv,sB 39 (decide (endv<q1.2)),e45_16,e45_13,e45_17,e45_18,e45_19,e45_20,e45_21,e45_22,e45_23,e45_24],[e45_7,e45_2 c7 c8 c9,e45_4 c10 c11,e45_5 c12 c13,e45_9,e45_25 l30005,e45_6 c14,(37100,[],.lp lr1 l37100 (VCc61_s1 30000 30001 30002 30003 30004 30005 c)),e45_11,e45_1 q0 q1,e45_0 c1 c2 c3 c4 c5,e45_10 l70001]⟩ (by kernel_rfl) rfl ?_
    refine aw_cond (b:=(decide (endv<q1.2))) (by kernel_rfl) (fun hb=>?_) (fun hb=>?_)
    ·have h:=h.1 hb
     refine aw_skip ?_
     refine thenQ_n ?_
     refine aw_seq ?_
     refine aw_block ?_
     refine aw_seq ?_
     refine withJoin (σ:=Bool×Int×Int×LK) (fun s=>(⟨50,[e45_15 havev,e45_8 q1,e45_27,sI 9 endv,sB 49 s.1,e45_16,e45_13,e45_17,e45_18,e45_19,e45_20,e45_21,e45_22,e45_23,e45_24],[e45_7,e45_2 c7 c8 c9,e45_4 c10 c11,e45_5 c12 c13,e45_9,hB 30005 [.pI s.2.1],e45_6 c14,(37100,[],.lp lr1 s.2.2.1 (VCc61_s1 30000 30001 30002 30003 30004 30005 c)),e45_11,e45_1 q0 q1,e45_0 c1 c2 c3 c4 c5,(70001,[],.dict (.pr tI t3) tI s.2.2.2)]⟩:St)) (fun s=>VCc85y9_k4 K endv X1 s.1 s.2.1 s.2.2.1 s.2.2.2) (fun s h=>?_) (fun rest3=>?_)
     ·obtain ⟨v49,l300052,l371002,l700012⟩:=s
      have h:VCc85y9_k4 K endv X1 v49 l300052 l371002 l700012:=h
      unfold VCc85y9_k4 at h
      refine thenQ_n ?_
      refine aw_cond (b:=v49) (by kernel_rfl) (fun hb=>?_) (fun hb=>?_)
      ·have h:=h.1 hb
       refine srn 1 ⟨50,[sB 6 false,e45_16,e45_13,e45_17,e45_18,e45_19,e45_20,e45_21,e45_22,e45_23,e45_24],[e45_7,e45_2 c7 c8 c9,e45_4 c10 c11,e45_5 c12 c13,e45_9,hB 30005 [.pI l300052],e45_6 c14,(37100,[],.lp lr1 l371002 (VCc61_s1 30000 30001 30002 30003 30004 30005 c)),e45_11,e45_1 q0 q1,e45_0 c1 c2 c3 c4 c5,e45_36 l700012]⟩ (by kernel_rfl) rfl ?_
       refine cpr (st':=(⟨50,[sB 6 false,e45_16,e45_13,e45_17,e45_18,e45_19,e45_20,e45_21,e45_22,e45_23,e45_24],[e45_11,(37100,[],.lp lr1 l371002 (VCc61_s1 30000 30001 30002 30003 30004 30005 c)),e45_7,e45_0 c1 c2 c3 c4 c5,e45_36 l700012,e45_2 c7 c8 c9,e45_4 c10 c11,e45_5 c12 c13,e45_9,e45_6 c14,hB 30005 [.pI l300052],e45_1 q0 q1]⟩:St)) (by kernel_rfl) ?_
       refine aw_ret ?_
       refine blockQ_r ?_
       refine thenQ_r ?_
       refine thenQ_r ?_
       refine blockQ_r ?_
       refine thenQ_r ?_
       exact lret_r (σ:=Bool×Int×LK×Int) (A:=fun y=>.v (.c (.pB y.1))) (H:=fun y=>[e45_11,(37100,[],.lp lr1 y.2.1 (VCc61_s1 30000 30001 30002 30003 30004 30005 c)),e45_7,e45_0 c1 c2 c3 c4 c5,(70001,[],.dict (.pr tI t3) tI y.2.2.1),e45_2 c7 c8 c9,e45_4 c10 c11,e45_5 c12 c13,e45_9,e45_6 c14,hB 30005 [.pI y.2.2.2],e45_1 q0 q1]) (ob:=True) (false,l371002,l700012,l300052) (by kernel_rfl) trivial rfl (by kernel_rfl) (by kernel_rfl) (by kernel_rfl) h
      ·have h:=h.2 hb
       refine aw_skip ?_
       refine blockQ_n ?_
       refine thenQ_n ?_
       refine aw_region ?_
       obtain ⟨o1,h⟩:=h
       refine rq 3 (ob:=(Ts 1 (InR (endv+(1:Int))∧Ts 1 True))) (st':=(⟨50,[e45_15 havev,e45_8 q1,e45_27,sI 9 (endv+(1:Int)),e45_16,e45_13,e45_17,e45_18,e45_19,e45_20,e45_21,e45_22,e45_23,e45_24],[e45_7,e45_2 c7 c8 c9,e45_4 c10 c11,e45_5 c12 c13,e45_9,hB 30005 [.pI l300052],e45_6 c14,(37100,[],.lp lr1 l371002 (VCc61_s1 30000 30001 30002 30003 30004 30005 c)),e45_11,e45_1 q0 q1,e45_0 c1 c2 c3 c4 c5,e45_36 l700012]⟩:St)) (by kernel_rfl) (tsI 1 ⟨o1,tsI 1 trivial⟩) ?_
       refine awl_nil ?_
       exact thenQ_n ⟨((endv+(1:Int)),l300052,l371002,l700012),rfl,h⟩
     ·refine awd_begin e45_n4 (by kernel_rfl) ?_
      refine drq (by kernel_rfl) [1,3] (ob:=(Ts 2 True)) (done':=[3,1]) (st':=(⟨50,[e45_15 havev,e45_8 q1,e45_27,sI 9 endv,s1 43 (.pS havev),sI 45 endv,e45_16,e45_13,e45_17,e45_18,e45_19,e45_20,e45_21,e45_22,e45_23,e45_24],[e45_7,e45_2 c7 c8 c9,e45_4 c10 c11,e45_5 c12 c13,e45_9,e45_25 l30005,e45_6 c14,(37100,[],.lp lr1 l37100 (VCc61_s1 30000 30001 30002 30003 30004 30005 c)),e45_11,e45_1 q0 q1,e45_0 c1 c2 c3 c4 c5,e45_10 l70001]⟩:St)) (by kernel_rfl) (tsI 2 trivial) ?_
      refine awd_three (i:=0) (j:=2) (k:=4) (by kernel_rfl) ?_ ?_ ?_
      ·have h:=h
       refine dsq (ob:=True) (st':=(⟨50,[e45_15 havev,e45_8 q1,e45_27,sI 9 endv,e45_3 q0 q1,s1 43 (.pS havev),sI 45 endv,e45_16,e45_13,e45_17,e45_18,e45_19,e45_20,e45_21,e45_22,e45_23,e45_24],[e45_7,e45_2 c7 c8 c9,e45_4 c10 c11,e45_5 c12 c13,e45_9,e45_25 l30005,e45_6 c14,(37100,[],.lp lr1 l37100 (VCc61_s1 30000 30001 30002 30003 30004 30005 c)),e45_11,e45_1 q0 q1,e45_0 c1 c2 c3 c4 c5,e45_10 l70001]⟩:St)) rfl (by kernel_rfl) trivial ?_
       refine awd_two (i:=2) (j:=4) (by kernel_rfl) ?_ ?_
       ·have h:=h
        refine adop_callOk (e:=3) (t:=tI) (l:=[toV1 (.sl tI) havev]) (cl:=[]) false [.d (.sl tI)] [0,3,4,9,42,44,45,50,51,52,53,54,55,56,57,58,59] e45_n4 (fun (ret44v:LI)=>(roomW 8 (ret44v.length+[endv].length)∧R (ret44v++[endv]) l37100 l70001 l30005 (fun (ret48v:Bool×Int×LK×Int)=>VCc85y9_k4 K endv X1 (!ret48v.1) ret48v.2.2.2 ret48v.2.1 ret48v.2.2.1))) (fun ret44v=>(⟨50,[e45_15 havev,e45_8 q1,e45_27,sI 9 endv,e45_3 q0 q1,e45_37,sI 45 endv,e45_16,e45_13,e45_17,e45_18,e45_19,e45_20,e45_21,e45_22,e45_23,e45_24],[e45_31 ret44v,e45_7,e45_2 c7 c8 c9,e45_4 c10 c11,e45_5 c12 c13,e45_9,e45_25 l30005,e45_6 c14,(37100,[],.lp lr1 l37100 (VCc61_s1 30000 30001 30002 30003 30004 30005 c)),e45_11,e45_1 q0 q1,e45_0 c1 c2 c3 c4 c5,e45_10 l70001]⟩:St)) rfl rfl rfl (by kernel_rfl) rfl (by kernel_rfl) Try.call54 (by kernel_rfl) (fun e=>by cases e) (fun ret44v=>by kernel_rfl) (link54 havev _ h) (fun ret44v h=>?_)
        refine awd_one (i:=4) (by kernel_rfl) ?_
        refine dsq (ob:=True) (st':=(⟨50,[e45_15 havev,e45_8 q1,e45_27,sI 9 endv,e45_3 q0 q1,e45_37,e45_38,e45_16,e45_13,e45_17,e45_18,e45_19,e45_20,e45_21,e45_22,e45_23,e45_24],[e45_31 ret44v,e45_32 endv,e45_7,e45_2 c7 c8 c9,e45_4 c10 c11,e45_5 c12 c13,e45_9,e45_25 l30005,e45_6 c14,(37100,[],.lp lr1 l37100 (VCc61_s1 30000 30001 30002 30003 30004 30005 c)),e45_11,e45_1 q0 q1,e45_0 c1 c2 c3 c4 c5,e45_10 l70001]⟩:St)) rfl (by kernel_rfl) trivial ?_
        refine awd_one (i:=5) (by kernel_rfl) ?_
        obtain ⟨o1,h⟩:=h
        refine dsq (ob:=roomW 8 (ret44v.length+[endv].length)) (st':=(⟨50,[e45_15 havev,e45_8 q1,e45_27,sI 9 endv,e45_3 q0 q1,e45_40,e45_16,e45_13,e45_17,e45_18,e45_19,e45_20,e45_21,e45_22,e45_23,e45_24],[e45_30 ret44v endv,e45_7,e45_2 c7 c8 c9,e45_4 c10 c11,e45_5 c12 c13,e45_9,e45_25 l30005,e45_6 c14,(37100,[],.lp lr1 l37100 (VCc61_s1 30000 30001 30002 30003 30004 30005 c)),e45_11,e45_1 q0 q1,e45_0 c1 c2 c3 c4 c5,e45_10 l70001]⟩:St)) rfl (by kernel_rfl) o1 ?_
        refine awd_conv [.freeze 47] (st':=(⟨50,[e45_15 havev,e45_8 q1,e45_27,sI 9 endv,e45_3 q0 q1,e45_28 ret44v endv,e45_16,e45_13,e45_17,e45_18,e45_19,e45_20,e45_21,e45_22,e45_23,e45_24],[e45_7,e45_2 c7 c8 c9,e45_4 c10 c11,e45_5 c12 c13,e45_9,e45_25 l30005,e45_6 c14,(37100,[],.lp lr1 l37100 (VCc61_s1 30000 30001 30002 30003 30004 30005 c)),e45_11,e45_1 q0 q1,e45_0 c1 c2 c3 c4 c5,e45_10 l70001]⟩:St)) (by kernel_rfl) rfl ?_
        refine awd_one (i:=6) (by kernel_rfl) ?_
        refine adop_lcall (σ:=Bool×Int×LK×Int) e45_n0 e45_n1 [.c (.pS (ret44v++[endv]))] [.c (.ad tI q0),.c (.ptr 41800 0),.c (.ad (.pr tI tI) q1),.c (.ptr 41811 0)] (fun ret48v=>.v (.c (.pB ret48v.1))) (fun ret48v=>[e45_11,(37100,[],.lp lr1 ret48v.2.1 (VCc61_s1 30000 30001 30002 30003 30004 30005 c)),e45_7,e45_0 c1 c2 c3 c4 c5,e45_12 ret48v,e45_2 c7 c8 c9,e45_4 c10 c11,e45_5 c12 c13,e45_9,e45_6 c14,e45_26 ret48v,e45_1 q0 q1]) (_) [e45_11,(37100,[],.lp lr1 l37100 (VCc61_s1 30000 30001 30002 30003 30004 30005 c)),e45_7,e45_0 c1 c2 c3 c4 c5,e45_10 l70001,e45_2 c7 c8 c9,e45_4 c10 c11,e45_5 c12 c13,e45_9,e45_6 c14,e45_25 l30005,e45_1 q0 q1] (fun ret48v=>(⟨50,[sB 48 ret48v.1,e45_15 havev,e45_8 q1,e45_27,sI 9 endv,e45_3 q0 q1,e45_28 ret44v endv,e45_16,e45_13,e45_17,e45_18,e45_19,e45_20,e45_21,e45_22,e45_23,e45_24],[e45_11,(37100,[],.lp lr1 ret48v.2.1 (VCc61_s1 30000 30001 30002 30003 30004 30005 c)),e45_7,e45_0 c1 c2 c3 c4 c5,e45_12 ret48v,e45_2 c7 c8 c9,e45_4 c10 c11,e45_5 c12 c13,e45_9,e45_6 c14,e45_26 ret48v,e45_1 q0 q1]⟩:St)) rfl (by kernel_rfl) rfl rfl (by kernel_rfl) rfl (by kernel_rfl) Try.call85 (by kernel_rfl) (by kernel_rfl) (by kernel_rfl) (fun _ _=>rfl) (fun _=>by kernel_rfl) (hR (ret44v++[endv]) l37100 l70001 l30005 _ h) (fun ret48v h=>?_)
        refine dpr (st':=(⟨50,[e45_15 havev,e45_8 q1,e45_27,sI 9 endv,sB 48 ret48v.1,e45_16,e45_13,e45_17,e45_18,e45_19,e45_20,e45_21,e45_22,e45_23,e45_24],[e45_7,e45_2 c7 c8 c9,e45_4 c10 c11,e45_5 c12 c13,e45_9,e45_26 ret48v,e45_6 c14,(37100,[],.lp lr1 ret48v.2.1 (VCc61_s1 30000 30001 30002 30003 30004 30005 c)),e45_11,e45_1 q0 q1,e45_0 c1 c2 c3 c4 c5,e45_12 ret48v]⟩:St)) (by kernel_rfl) ?_
        refine drq (by kernel_rfl) [7] (ob:=(Ts 1 True)) (done':=[7,6,5,4,2,0,3,1]) (st':=(⟨50,[e45_15 havev,e45_8 q1,e45_27,sI 9 endv,sB 49 (!ret48v.1),e45_16,e45_13,e45_17,e45_18,e45_19,e45_20,e45_21,e45_22,e45_23,e45_24],[e45_7,e45_2 c7 c8 c9,e45_4 c10 c11,e45_5 c12 c13,e45_9,e45_26 ret48v,e45_6 c14,(37100,[],.lp lr1 ret48v.2.1 (VCc61_s1 30000 30001 30002 30003 30004 30005 c)),e45_11,e45_1 q0 q1,e45_0 c1 c2 c3 c4 c5,e45_12 ret48v]⟩:St)) (by kernel_rfl) (tsI 1 trivial) ?_
        refine awd_done (by kernel_rfl) ?_
        exact rest3 ((!ret48v.1),ret48v.2.2.2,ret48v.2.1,ret48v.2.2.1) h
       ·have h:=h
        refine dsq (ob:=True) (st':=(⟨50,[e45_15 havev,e45_8 q1,e45_27,sI 9 endv,e45_3 q0 q1,s1 43 (.pS havev),e45_38,e45_16,e45_13,e45_17,e45_18,e45_19,e45_20,e45_21,e45_22,e45_23,e45_24],[e45_32 endv,e45_7,e45_2 c7 c8 c9,e45_4 c10 c11,e45_5 c12 c13,e45_9,e45_25 l30005,e45_6 c14,(37100,[],.lp lr1 l37100 (VCc61_s1 30000 30001 30002 30003 30004 30005 c)),e45_11,e45_1 q0 q1,e45_0 c1 c2 c3 c4 c5,e45_10 l70001]⟩:St)) rfl (by kernel_rfl) trivial ?_
        refine awd_one (i:=2) (by kernel_rfl) ?_
        refine adop_callOk (e:=3) (t:=tI) (l:=[toV1 (.sl tI) havev]) (cl:=[]) false [.d (.sl tI)] e45_n6 e45_n3 (fun (ret44v:LI)=>(roomW 8 (ret44v.length+[endv].length)∧R (ret44v++[endv]) l37100 l70001 l30005 (fun (ret48v:Bool×Int×LK×Int)=>VCc85y9_k4 K endv X1 (!ret48v.1) ret48v.2.2.2 ret48v.2.1 ret48v.2.2.1))) (fun ret44v=>(⟨50,[e45_15 havev,e45_8 q1,e45_27,sI 9 endv,e45_3 q0 q1,e45_37,e45_38,e45_16,e45_13,e45_17,e45_18,e45_19,e45_20,e45_21,e45_22,e45_23,e45_24],[e45_31 ret44v,e45_32 endv,e45_7,e45_2 c7 c8 c9,e45_4 c10 c11,e45_5 c12 c13,e45_9,e45_25 l30005,e45_6 c14,(37100,[],.lp lr1 l37100 (VCc61_s1 30000 30001 30002 30003 30004 30005 c)),e45_11,e45_1 q0 q1,e45_0 c1 c2 c3 c4 c5,e45_10 l70001]⟩:St)) rfl rfl rfl (by kernel_rfl) rfl (by kernel_rfl) Try.call54 (by kernel_rfl) (fun e=>by cases e) (fun ret44v=>by kernel_rfl) (link54 havev _ h) (fun ret44v h=>?_)
        refine awd_one (i:=5) (by kernel_rfl) ?_
        obtain ⟨o1,h⟩:=h
        refine dsq (ob:=roomW 8 (ret44v.length+[endv].length)) (st':=(⟨50,[e45_15 havev,e45_8 q1,e45_27,sI 9 endv,e45_3 q0 q1,e45_40,e45_16,e45_13,e45_17,e45_18,e45_19,e45_20,e45_21,e45_22,e45_23,e45_24],[e45_30 ret44v endv,e45_7,e45_2 c7 c8 c9,e45_4 c10 c11,e45_5 c12 c13,e45_9,e45_25 l30005,e45_6 c14,(37100,[],.lp lr1 l37100 (VCc61_s1 30000 30001 30002 30003 30004 30005 c)),e45_11,e45_1 q0 q1,e45_0 c1 c2 c3 c4 c5,e45_10 l70001]⟩:St)) rfl (by kernel_rfl) o1 ?_
        refine awd_conv [.freeze 47] (st':=(⟨50,[e45_15 havev,e45_8 q1,e45_27,sI 9 endv,e45_3 q0 q1,e45_28 ret44v endv,e45_16,e45_13,e45_17,e45_18,e45_19,e45_20,e45_21,e45_22,e45_23,e45_24],[e45_7,e45_2 c7 c8 c9,e45_4 c10 c11,e45_5 c12 c13,e45_9,e45_25 l30005,e45_6 c14,(37100,[],.lp lr1 l37100 (VCc61_s1 30000 30001 30002 30003 30004 30005 c)),e45_11,e45_1 q0 q1,e45_0 c1 c2 c3 c4 c5,e45_10 l70001]⟩:St)) (by kernel_rfl) rfl ?_
        refine awd_one (i:=6) (by kernel_rfl) ?_
        refine adop_lcall (σ:=Bool×Int×LK×Int) e45_n0 e45_n1 [.c (.pS (ret44v++[endv]))] [.c (.ad tI q0),.c (.ptr 41800 0),.c (.ad (.pr tI tI) q1),.c (.ptr 41811 0)] (fun ret48v=>.v (.c (.pB ret48v.1))) (fun ret48v=>[e45_11,(37100,[],.lp lr1 ret48v.2.1 (VCc61_s1 30000 30001 30002 30003 30004 30005 c)),e45_7,e45_0 c1 c2 c3 c4 c5,e45_12 ret48v,e45_2 c7 c8 c9,e45_4 c10 c11,e45_5 c12 c13,e45_9,e45_6 c14,e45_26 ret48v,e45_1 q0 q1]) (_) [e45_11,(37100,[],.lp lr1 l37100 (VCc61_s1 30000 30001 30002 30003 30004 30005 c)),e45_7,e45_0 c1 c2 c3 c4 c5,e45_10 l70001,e45_2 c7 c8 c9,e45_4 c10 c11,e45_5 c12 c13,e45_9,e45_6 c14,e45_25 l30005,e45_1 q0 q1] (fun ret48v=>(⟨50,[sB 48 ret48v.1,e45_15 havev,e45_8 q1,e45_27,sI 9 endv,e45_3 q0 q1,e45_28 ret44v endv,e45_16,e45_13,e45_17,e45_18,e45_19,e45_20,e45_21,e45_22,e45_23,e45_24],[e45_11,(37100,[],.lp lr1 ret48v.2.1 (VCc61_s1 30000 30001 30002 30003 30004 30005 c)),e45_7,e45_0 c1 c2 c3 c4 c5,e45_12 ret48v,e45_2 c7 c8 c9,e45_4 c10 c11,e45_5 c12 c13,e45_9,e45_6 c14,e45_26 ret48v,e45_1 q0 q1]⟩:St)) rfl (by kernel_rfl) rfl rfl (by kernel_rfl) rfl (by kernel_rfl) Try.call85 (by kernel_rfl) (by kernel_rfl) (by kernel_rfl) (fun _ _=>rfl) (fun _=>by kernel_rfl) (hR (ret44v++[endv]) l37100 l70001 l30005 _ h) (fun ret48v h=>?_)
        refine dpr (st':=(⟨50,[e45_15 havev,e45_8 q1,e45_27,sI 9 endv,sB 48 ret48v.1,e45_16,e45_13,e45_17,e45_18,e45_19,e45_20,e45_21,e45_22,e45_23,e45_24],[e45_7,e45_2 c7 c8 c9,e45_4 c10 c11,e45_5 c12 c13,e45_9,e45_26 ret48v,e45_6 c14,(37100,[],.lp lr1 ret48v.2.1 (VCc61_s1 30000 30001 30002 30003 30004 30005 c)),e45_11,e45_1 q0 q1,e45_0 c1 c2 c3 c4 c5,e45_12 ret48v]⟩:St)) (by kernel_rfl) ?_
        refine drq (by kernel_rfl) [7] (ob:=(Ts 1 True)) (done':=[7,6,5,2,4,0,3,1]) (st':=(⟨50,[e45_15 havev,e45_8 q1,e45_27,sI 9 endv,sB 49 (!ret48v.1),e45_16,e45_13,e45_17,e45_18,e45_19,e45_20,e45_21,e45_22,e45_23,e45_24],[e45_7,e45_2 c7 c8 c9,e45_4 c10 c11,e45_5 c12 c13,e45_9,e45_26 ret48v,e45_6 c14,(37100,[],.lp lr1 ret48v.2.1 (VCc61_s1 30000 30001 30002 30003 30004 30005 c)),e45_11,e45_1 q0 q1,e45_0 c1 c2 c3 c4 c5,e45_12 ret48v]⟩:St)) (by kernel_rfl) (tsI 1 trivial) ?_
        refine awd_done (by kernel_rfl) ?_
        exact rest3 ((!ret48v.1),ret48v.2.2.2,ret48v.2.1,ret48v.2.2.1) h
      ·have h:=h
       refine adop_callOk (e:=3) (t:=tI) (l:=[toV1 (.sl tI) havev]) (cl:=[]) false [.d (.sl tI)] [0,3,4,9,44,45,50,51,52,53,54,55,56,57,58,59] e45_n4 (fun (ret44v:LI)=>(roomW 8 (ret44v.length+[endv].length)∧R (ret44v++[endv]) l37100 l70001 l30005 (fun (ret48v:Bool×Int×LK×Int)=>VCc85y9_k4 K endv X1 (!ret48v.1) ret48v.2.2.2 ret48v.2.1 ret48v.2.2.1))) (fun ret44v=>(⟨50,[e45_15 havev,e45_8 q1,e45_27,sI 9 endv,e45_37,sI 45 endv,e45_16,e45_13,e45_17,e45_18,e45_19,e45_20,e45_21,e45_22,e45_23,e45_24],[e45_31 ret44v,e45_7,e45_2 c7 c8 c9,e45_4 c10 c11,e45_5 c12 c13,e45_9,e45_25 l30005,e45_6 c14,(37100,[],.lp lr1 l37100 (VCc61_s1 30000 30001 30002 30003 30004 30005 c)),e45_11,e45_1 q0 q1,e45_0 c1 c2 c3 c4 c5,e45_10 l70001]⟩:St)) rfl rfl rfl (by kernel_rfl) rfl (by kernel_rfl) Try.call54 (by kernel_rfl) (fun e=>by cases e) (fun ret44v=>by kernel_rfl) (link54 havev _ h) (fun ret44v h=>?_)
       refine awd_two (i:=0) (j:=4) (by kernel_rfl) ?_ ?_
       ·have h:=h
        refine dsq (ob:=True) (st':=(⟨50,[e45_15 havev,e45_8 q1,e45_27,sI 9 endv,e45_3 q0 q1,e45_37,sI 45 endv,e45_16,e45_13,e45_17,e45_18,e45_19,e45_20,e45_21,e45_22,e45_23,e45_24],[e45_31 ret44v,e45_7,e45_2 c7 c8 c9,e45_4 c10 c11,e45_5 c12 c13,e45_9,e45_25 l30005,e45_6 c14,(37100,[],.lp lr1 l37100 (VCc61_s1 30000 30001 30002 30003 30004 30005 c)),e45_11,e45_1 q0 q1,e45_0 c1 c2 c3 c4 c5,e45_10 l70001]⟩:St)) rfl (by kernel_rfl) trivial ?_
        refine awd_one (i:=4) (by kernel_rfl) ?_
        refine dsq (ob:=True) (st':=(⟨50,[e45_15 havev,e45_8 q1,e45_27,sI 9 endv,e45_3 q0 q1,e45_37,e45_38,e45_16,e45_13,e45_17,e45_18,e45_19,e45_20,e45_21,e45_22,e45_23,e45_24],[e45_31 ret44v,e45_32 endv,e45_7,e45_2 c7 c8 c9,e45_4 c10 c11,e45_5 c12 c13,e45_9,e45_25 l30005,e45_6 c14,(37100,[],.lp lr1 l37100 (VCc61_s1 30000 30001 30002 30003 30004 30005 c)),e45_11,e45_1 q0 q1,e45_0 c1 c2 c3 c4 c5,e45_10 l70001]⟩:St)) rfl (by kernel_rfl) trivial ?_
        refine awd_one (i:=5) (by kernel_rfl) ?_
        obtain ⟨o1,h⟩:=h
        refine dsq (ob:=roomW 8 (ret44v.length+[endv].length)) (st':=(⟨50,[e45_15 havev,e45_8 q1,e45_27,sI 9 endv,e45_3 q0 q1,e45_40,e45_16,e45_13,e45_17,e45_18,e45_19,e45_20,e45_21,e45_22,e45_23,e45_24],[e45_30 ret44v endv,e45_7,e45_2 c7 c8 c9,e45_4 c10 c11,e45_5 c12 c13,e45_9,e45_25 l30005,e45_6 c14,(37100,[],.lp lr1 l37100 (VCc61_s1 30000 30001 30002 30003 30004 30005 c)),e45_11,e45_1 q0 q1,e45_0 c1 c2 c3 c4 c5,e45_10 l70001]⟩:St)) rfl (by kernel_rfl) o1 ?_
        refine awd_conv [.freeze 47] (st':=(⟨50,[e45_15 havev,e45_8 q1,e45_27,sI 9 endv,e45_3 q0 q1,e45_28 ret44v endv,e45_16,e45_13,e45_17,e45_18,e45_19,e45_20,e45_21,e45_22,e45_23,e45_24],[e45_7,e45_2 c7 c8 c9,e45_4 c10 c11,e45_5 c12 c13,e45_9,e45_25 l30005,e45_6 c14,(37100,[],.lp lr1 l37100 (VCc61_s1 30000 30001 30002 30003 30004 30005 c)),e45_11,e45_1 q0 q1,e45_0 c1 c2 c3 c4 c5,e45_10 l70001]⟩:St)) (by kernel_rfl) rfl ?_
        refine awd_one (i:=6) (by kernel_rfl) ?_
        refine adop_lcall (σ:=Bool×Int×LK×Int) e45_n0 e45_n1 [.c (.pS (ret44v++[endv]))] [.c (.ad tI q0),.c (.ptr 41800 0),.c (.ad (.pr tI tI) q1),.c (.ptr 41811 0)] (fun ret48v=>.v (.c (.pB ret48v.1))) (fun ret48v=>[e45_11,(37100,[],.lp lr1 ret48v.2.1 (VCc61_s1 30000 30001 30002 30003 30004 30005 c)),e45_7,e45_0 c1 c2 c3 c4 c5,e45_12 ret48v,e45_2 c7 c8 c9,e45_4 c10 c11,e45_5 c12 c13,e45_9,e45_6 c14,e45_26 ret48v,e45_1 q0 q1]) (_) [e45_11,(37100,[],.lp lr1 l37100 (VCc61_s1 30000 30001 30002 30003 30004 30005 c)),e45_7,e45_0 c1 c2 c3 c4 c5,e45_10 l70001,e45_2 c7 c8 c9,e45_4 c10 c11,e45_5 c12 c13,e45_9,e45_6 c14,e45_25 l30005,e45_1 q0 q1] (fun ret48v=>(⟨50,[sB 48 ret48v.1,e45_15 havev,e45_8 q1,e45_27,sI 9 endv,e45_3 q0 q1,e45_28 ret44v endv,e45_16,e45_13,e45_17,e45_18,e45_19,e45_20,e45_21,e45_22,e45_23,e45_24],[e45_11,(37100,[],.lp lr1 ret48v.2.1 (VCc61_s1 30000 30001 30002 30003 30004 30005 c)),e45_7,e45_0 c1 c2 c3 c4 c5,e45_12 ret48v,e45_2 c7 c8 c9,e45_4 c10 c11,e45_5 c12 c13,e45_9,e45_6 c14,e45_26 ret48v,e45_1 q0 q1]⟩:St)) rfl (by kernel_rfl) rfl rfl (by kernel_rfl) rfl (by kernel_rfl) Try.call85 (by kernel_rfl) (by kernel_rfl) (by kernel_rfl) (fun _ _=>rfl) (fun _=>by kernel_rfl) (hR (ret44v++[endv]) l37100 l70001 l30005 _ h) (fun ret48v h=>?_)
        refine dpr (st':=(⟨50,[e45_15 havev,e45_8 q1,e45_27,sI 9 endv,sB 48 ret48v.1,e45_16,e45_13,e45_17,e45_18,e45_19,e45_20,e45_21,e45_22,e45_23,e45_24],[e45_7,e45_2 c7 c8 c9,e45_4 c10 c11,e45_5 c12 c13,e45_9,e45_26 ret48v,e45_6 c14,(37100,[],.lp lr1 ret48v.2.1 (VCc61_s1 30000 30001 30002 30003 30004 30005 c)),e45_11,e45_1 q0 q1,e45_0 c1 c2 c3 c4 c5,e45_12 ret48v]⟩:St)) (by kernel_rfl) ?_
        refine drq (by kernel_rfl) [7] (ob:=(Ts 1 True)) (done':=[7,6,5,4,0,2,3,1]) (st':=(⟨50,[e45_15 havev,e45_8 q1,e45_27,sI 9 endv,sB 49 (!ret48v.1),e45_16,e45_13,e45_17,e45_18,e45_19,e45_20,e45_21,e45_22,e45_23,e45_24],[e45_7,e45_2 c7 c8 c9,e45_4 c10 c11,e45_5 c12 c13,e45_9,e45_26 ret48v,e45_6 c14,(37100,[],.lp lr1 ret48v.2.1 (VCc61_s1 30000 30001 30002 30003 30004 30005 c)),e45_11,e45_1 q0 q1,e45_0 c1 c2 c3 c4 c5,e45_12 ret48v]⟩:St)) (by kernel_rfl) (tsI 1 trivial) ?_
        refine awd_done (by kernel_rfl) ?_
        exact rest3 ((!ret48v.1),ret48v.2.2.2,ret48v.2.1,ret48v.2.2.1) h
       ·have h:=h
        refine dsq (ob:=True) (st':=(⟨50,[e45_15 havev,e45_8 q1,e45_27,sI 9 endv,e45_37,e45_38,e45_16,e45_13,e45_17,e45_18,e45_19,e45_20,e45_21,e45_22,e45_23,e45_24],[e45_31 ret44v,e45_32 endv,e45_7,e45_2 c7 c8 c9,e45_4 c10 c11,e45_5 c12 c13,e45_9,e45_25 l30005,e45_6 c14,(37100,[],.lp lr1 l37100 (VCc61_s1 30000 30001 30002 30003 30004 30005 c)),e45_11,e45_1 q0 q1,e45_0 c1 c2 c3 c4 c5,e45_10 l70001]⟩:St)) rfl (by kernel_rfl) trivial ?_
        refine awd_two (i:=0) (j:=5) (by kernel_rfl) ?_ ?_
        ·have h:=h
         refine dsq (ob:=True) (st':=(⟨50,[e45_15 havev,e45_8 q1,e45_27,sI 9 endv,e45_3 q0 q1,e45_37,e45_38,e45_16,e45_13,e45_17,e45_18,e45_19,e45_20,e45_21,e45_22,e45_23,e45_24],[e45_31 ret44v,e45_32 endv,e45_7,e45_2 c7 c8 c9,e45_4 c10 c11,e45_5 c12 c13,e45_9,e45_25 l30005,e45_6 c14,(37100,[],.lp lr1 l37100 (VCc61_s1 30000 30001 30002 30003 30004 30005 c)),e45_11,e45_1 q0 q1,e45_0 c1 c2 c3 c4 c5,e45_10 l70001]⟩:St)) rfl (by kernel_rfl) trivial ?_
         refine awd_one (i:=5) (by kernel_rfl) ?_
         obtain ⟨o1,h⟩:=h
         refine dsq (ob:=roomW 8 (ret44v.length+[endv].length)) (st':=(⟨50,[e45_15 havev,e45_8 q1,e45_27,sI 9 endv,e45_3 q0 q1,e45_40,e45_16,e45_13,e45_17,e45_18,e45_19,e45_20,e45_21,e45_22,e45_23,e45_24],[e45_30 ret44v endv,e45_7,e45_2 c7 c8 c9,e45_4 c10 c11,e45_5 c12 c13,e45_9,e45_25 l30005,e45_6 c14,(37100,[],.lp lr1 l37100 (VCc61_s1 30000 30001 30002 30003 30004 30005 c)),e45_11,e45_1 q0 q1,e45_0 c1 c2 c3 c4 c5,e45_10 l70001]⟩:St)) rfl (by kernel_rfl) o1 ?_
         refine awd_conv [.freeze 47] (st':=(⟨50,[e45_15 havev,e45_8 q1,e45_27,sI 9 endv,e45_3 q0 q1,e45_28 ret44v endv,e45_16,e45_13,e45_17,e45_18,e45_19,e45_20,e45_21,e45_22,e45_23,e45_24],[e45_7,e45_2 c7 c8 c9,e45_4 c10 c11,e45_5 c12 c13,e45_9,e45_25 l30005,e45_6 c14,(37100,[],.lp lr1 l37100 (VCc61_s1 30000 30001 30002 30003 30004 30005 c)),e45_11,e45_1 q0 q1,e45_0 c1 c2 c3 c4 c5,e45_10 l70001]⟩:St)) (by kernel_rfl) rfl ?_
         refine awd_one (i:=6) (by kernel_rfl) ?_
         refine adop_lcall (σ:=Bool×Int×LK×Int) e45_n0 e45_n1 [.c (.pS (ret44v++[endv]))] [.c (.ad tI q0),.c (.ptr 41800 0),.c (.ad (.pr tI tI) q1),.c (.ptr 41811 0)] (fun ret48v=>.v (.c (.pB ret48v.1))) (fun ret48v=>[e45_11,(37100,[],.lp lr1 ret48v.2.1 (VCc61_s1 30000 30001 30002 30003 30004 30005 c)),e45_7,e45_0 c1 c2 c3 c4 c5,e45_12 ret48v,e45_2 c7 c8 c9,e45_4 c10 c11,e45_5 c12 c13,e45_9,e45_6 c14,e45_26 ret48v,e45_1 q0 q1]) (_) [e45_11,(37100,[],.lp lr1 l37100 (VCc61_s1 30000 30001 30002 30003 30004 30005 c)),e45_7,e45_0 c1 c2 c3 c4 c5,e45_10 l70001,e45_2 c7 c8 c9,e45_4 c10 c11,e45_5 c12 c13,e45_9,e45_6 c14,e45_25 l30005,e45_1 q0 q1] (fun ret48v=>(⟨50,[sB 48 ret48v.1,e45_15 havev,e45_8 q1,e45_27,sI 9 endv,e45_3 q0 q1,e45_28 ret44v endv,e45_16,e45_13,e45_17,e45_18,e45_19,e45_20,e45_21,e45_22,e45_23,e45_24],[e45_11,(37100,[],.lp lr1 ret48v.2.1 (VCc61_s1 30000 30001 30002 30003 30004 30005 c)),e45_7,e45_0 c1 c2 c3 c4 c5,e45_12 ret48v,e45_2 c7 c8 c9,e45_4 c10 c11,e45_5 c12 c13,e45_9,e45_6 c14,e45_26 ret48v,e45_1 q0 q1]⟩:St)) rfl (by kernel_rfl) rfl rfl (by kernel_rfl) rfl (by kernel_rfl) Try.call85 (by kernel_rfl) (by kernel_rfl) (by kernel_rfl) (fun _ _=>rfl) (fun _=>by kernel_rfl) (hR (ret44v++[endv]) l37100 l70001 l30005 _ h) (fun ret48v h=>?_)
         refine dpr (st':=(⟨50,[e45_15 havev,e45_8 q1,e45_27,sI 9 endv,sB 48 ret48v.1,e45_16,e45_13,e45_17,e45_18,e45_19,e45_20,e45_21,e45_22,e45_23,e45_24],[e45_7,e45_2 c7 c8 c9,e45_4 c10 c11,e45_5 c12 c13,e45_9,e45_26 ret48v,e45_6 c14,(37100,[],.lp lr1 ret48v.2.1 (VCc61_s1 30000 30001 30002 30003 30004 30005 c)),e45_11,e45_1 q0 q1,e45_0 c1 c2 c3 c4 c5,e45_12 ret48v]⟩:St)) (by kernel_rfl) ?_
         refine drq (by kernel_rfl) [7] (ob:=(Ts 1 True)) (done':=[7,6,5,0,4,2,3,1]) (st':=(⟨50,[e45_15 havev,e45_8 q1,e45_27,sI 9 endv,sB 49 (!ret48v.1),e45_16,e45_13,e45_17,e45_18,e45_19,e45_20,e45_21,e45_22,e45_23,e45_24],[e45_7,e45_2 c7 c8 c9,e45_4 c10 c11,e45_5 c12 c13,e45_9,e45_26 ret48v,e45_6 c14,(37100,[],.lp lr1 ret48v.2.1 (VCc61_s1 30000 30001 30002 30003 30004 30005 c)),e45_11,e45_1 q0 q1,e45_0 c1 c2 c3 c4 c5,e45_12 ret48v]⟩:St)) (by kernel_rfl) (tsI 1 trivial) ?_
         refine awd_done (by kernel_rfl) ?_
         exact rest3 ((!ret48v.1),ret48v.2.2.2,ret48v.2.1,ret48v.2.2.1) h
        ·have h:=h
         obtain ⟨o1,h⟩:=h
         refine dsq (ob:=roomW 8 (ret44v.length+[endv].length)) (st':=(⟨50,[e45_15 havev,e45_8 q1,e45_27,sI 9 endv,e45_40,e45_16,e45_13,e45_17,e45_18,e45_19,e45_20,e45_21,e45_22,e45_23,e45_24],[e45_30 ret44v endv,e45_7,e45_2 c7 c8 c9,e45_4 c10 c11,e45_5 c12 c13,e45_9,e45_25 l30005,e45_6 c14,(37100,[],.lp lr1 l37100 (VCc61_s1 30000 30001 30002 30003 30004 30005 c)),e45_11,e45_1 q0 q1,e45_0 c1 c2 c3 c4 c5,e45_10 l70001]⟩:St)) rfl (by kernel_rfl) o1 ?_
         refine awd_one (i:=0) (by kernel_rfl) ?_
         refine dsq (ob:=True) (st':=(⟨50,[e45_15 havev,e45_8 q1,e45_27,sI 9 endv,e45_3 q0 q1,e45_40,e45_16,e45_13,e45_17,e45_18,e45_19,e45_20,e45_21,e45_22,e45_23,e45_24],[e45_30 ret44v endv,e45_7,e45_2 c7 c8 c9,e45_4 c10 c11,e45_5 c12 c13,e45_9,e45_25 l30005,e45_6 c14,(37100,[],.lp lr1 l37100 (VCc61_s1 30000 30001 30002 30003 30004 30005 c)),e45_11,e45_1 q0 q1,e45_0 c1 c2 c3 c4 c5,e45_10 l70001]⟩:St)) rfl (by kernel_rfl) trivial ?_
         refine awd_conv [.freeze 47] (st':=(⟨50,[e45_15 havev,e45_8 q1,e45_27,sI 9 endv,e45_3 q0 q1,e45_28 ret44v endv,e45_16,e45_13,e45_17,e45_18,e45_19,e45_20,e45_21,e45_22,e45_23,e45_24],[e45_7,e45_2 c7 c8 c9,e45_4 c10 c11,e45_5 c12 c13,e45_9,e45_25 l30005,e45_6 c14,(37100,[],.lp lr1 l37100 (VCc61_s1 30000 30001 30002 30003 30004 30005 c)),e45_11,e45_1 q0 q1,e45_0 c1 c2 c3 c4 c5,e45_10 l70001]⟩:St)) (by kernel_rfl) rfl ?_
         refine awd_one (i:=6) (by kernel_rfl) ?_
         refine adop_lcall (σ:=Bool×Int×LK×Int) e45_n0 e45_n1 [.c (.pS (ret44v++[endv]))] [.c (.ad tI q0),.c (.ptr 41800 0),.c (.ad (.pr tI tI) q1),.c (.ptr 41811 0)] (fun ret48v=>.v (.c (.pB ret48v.1))) (fun ret48v=>[e45_11,(37100,[],.lp lr1 ret48v.2.1 (VCc61_s1 30000 30001 30002 30003 30004 30005 c)),e45_7,e45_0 c1 c2 c3 c4 c5,e45_12 ret48v,e45_2 c7 c8 c9,e45_4 c10 c11,e45_5 c12 c13,e45_9,e45_6 c14,e45_26 ret48v,e45_1 q0 q1]) (_) [e45_11,(37100,[],.lp lr1 l37100 (VCc61_s1 30000 30001 30002 30003 30004 30005 c)),e45_7,e45_0 c1 c2 c3 c4 c5,e45_10 l70001,e45_2 c7 c8 c9,e45_4 c10 c11,e45_5 c12 c13,e45_9,e45_6 c14,e45_25 l30005,e45_1 q0 q1] (fun ret48v=>(⟨50,[sB 48 ret48v.1,e45_15 havev,e45_8 q1,e45_27,sI 9 endv,e45_3 q0 q1,e45_28 ret44v endv,e45_16,e45_13,e45_17,e45_18,e45_19,e45_20,e45_21,e45_22,e45_23,e45_24],[e45_11,(37100,[],.lp lr1 ret48v.2.1 (VCc61_s1 30000 30001 30002 30003 30004 30005 c)),e45_7,e45_0 c1 c2 c3 c4 c5,e45_12 ret48v,e45_2 c7 c8 c9,e45_4 c10 c11,e45_5 c12 c13,e45_9,e45_6 c14,e45_26 ret48v,e45_1 q0 q1]⟩:St)) rfl (by kernel_rfl) rfl rfl (by kernel_rfl) rfl (by kernel_rfl) Try.call85 (by kernel_rfl) (by kernel_rfl) (by kernel_rfl) (fun _ _=>rfl) (fun _=>by kernel_rfl) (hR (ret44v++[endv]) l37100 l70001 l30005 _ h) (fun ret48v h=>?_)
         refine dpr (st':=(⟨50,[e45_15 havev,e45_8 q1,e45_27,sI 9 endv,sB 48 ret48v.1,e45_16,e45_13,e45_17,e45_18,e45_19,e45_20,e45_21,e45_22,e45_23,e45_24],[e45_7,e45_2 c7 c8 c9,e45_4 c10 c11,e45_5 c12 c13,e45_9,e45_26 ret48v,e45_6 c14,(37100,[],.lp lr1 ret48v.2.1 (VCc61_s1 30000 30001 30002 30003 30004 30005 c)),e45_11,e45_1 q0 q1,e45_0 c1 c2 c3 c4 c5,e45_12 ret48v]⟩:St)) (by kernel_rfl) ?_
         refine drq (by kernel_rfl) [7] (ob:=(Ts 1 True)) (done':=[7,6,0,5,4,2,3,1]) (st':=(⟨50,[e45_15 havev,e45_8 q1,e45_27,sI 9 endv,sB 49 (!ret48v.1),e45_16,e45_13,e45_17,e45_18,e45_19,e45_20,e45_21,e45_22,e45_23,e45_24],[e45_7,e45_2 c7 c8 c9,e45_4 c10 c11,e45_5 c12 c13,e45_9,e45_26 ret48v,e45_6 c14,(37100,[],.lp lr1 ret48v.2.1 (VCc61_s1 30000 30001 30002 30003 30004 30005 c)),e45_11,e45_1 q0 q1,e45_0 c1 c2 c3 c4 c5,e45_12 ret48v]⟩:St)) (by kernel_rfl) (tsI 1 trivial) ?_
         refine awd_done (by kernel_rfl) ?_
         exact rest3 ((!ret48v.1),ret48v.2.2.2,ret48v.2.1,ret48v.2.2.1) h
      ·have h:=h
       refine dsq (ob:=True) (st':=(⟨50,[e45_15 havev,e45_8 q1,e45_27,sI 9 endv,s1 43 (.pS havev),e45_38,e45_16,e45_13,e45_17,e45_18,e45_19,e45_20,e45_21,e45_22,e45_23,e45_24],[e45_32 endv,e45_7,e45_2 c7 c8 c9,e45_4 c10 c11,e45_5 c12 c13,e45_9,e45_25 l30005,e45_6 c14,(37100,[],.lp lr1 l37100 (VCc61_s1 30000 30001 30002 30003 30004 30005 c)),e45_11,e45_1 q0 q1,e45_0 c1 c2 c3 c4 c5,e45_10 l70001]⟩:St)) rfl (by kernel_rfl) trivial ?_
       refine awd_two (i:=0) (j:=2) (by kernel_rfl) ?_ ?_
       ·have h:=h
        refine dsq (ob:=True) (st':=(⟨50,[e45_15 havev,e45_8 q1,e45_27,sI 9 endv,e45_3 q0 q1,s1 43 (.pS havev),e45_38,e45_16,e45_13,e45_17,e45_18,e45_19,e45_20,e45_21,e45_22,e45_23,e45_24],[e45_32 endv,e45_7,e45_2 c7 c8 c9,e45_4 c10 c11,e45_5 c12 c13,e45_9,e45_25 l30005,e45_6 c14,(37100,[],.lp lr1 l37100 (VCc61_s1 30000 30001 30002 30003 30004 30005 c)),e45_11,e45_1 q0 q1,e45_0 c1 c2 c3 c4 c5,e45_10 l70001]⟩:St)) rfl (by kernel_rfl) trivial ?_
        refine awd_one (i:=2) (by kernel_rfl) ?_
        refine adop_callOk (e:=3) (t:=tI) (l:=[toV1 (.sl tI) havev]) (cl:=[]) false [.d (.sl tI)] e45_n6 e45_n3 (fun (ret44v:LI)=>(roomW 8 (ret44v.length+[endv].length)∧R (ret44v++[endv]) l37100 l70001 l30005 (fun (ret48v:Bool×Int×LK×Int)=>VCc85y9_k4 K endv X1 (!ret48v.1) ret48v.2.2.2 ret48v.2.1 ret48v.2.2.1))) (fun ret44v=>(⟨50,[e45_15 havev,e45_8 q1,e45_27,sI 9 endv,e45_3 q0 q1,e45_37,e45_38,e45_16,e45_13,e45_17,e45_18,e45_19,e45_20,e45_21,e45_22,e45_23,e45_24],[e45_31 ret44v,e45_32 endv,e45_7,e45_2 c7 c8 c9,e45_4 c10 c11,e45_5 c12 c13,e45_9,e45_25 l30005,e45_6 c14,(37100,[],.lp lr1 l37100 (VCc61_s1 30000 30001 30002 30003 30004 30005 c)),e45_11,e45_1 q0 q1,e45_0 c1 c2 c3 c4 c5,e45_10 l70001]⟩:St)) rfl rfl rfl (by kernel_rfl) rfl (by kernel_rfl) Try.call54 (by kernel_rfl) (fun e=>by cases e) (fun ret44v=>by kernel_rfl) (link54 havev _ h) (fun ret44v h=>?_)
        refine awd_one (i:=5) (by kernel_rfl) ?_
        obtain ⟨o1,h⟩:=h
        refine dsq (ob:=roomW 8 (ret44v.length+[endv].length)) (st':=(⟨50,[e45_15 havev,e45_8 q1,e45_27,sI 9 endv,e45_3 q0 q1,e45_40,e45_16,e45_13,e45_17,e45_18,e45_19,e45_20,e45_21,e45_22,e45_23,e45_24],[e45_30 ret44v endv,e45_7,e45_2 c7 c8 c9,e45_4 c10 c11,e45_5 c12 c13,e45_9,e45_25 l30005,e45_6 c14,(37100,[],.lp lr1 l37100 (VCc61_s1 30000 30001 30002 30003 30004 30005 c)),e45_11,e45_1 q0 q1,e45_0 c1 c2 c3 c4 c5,e45_10 l70001]⟩:St)) rfl (by kernel_rfl) o1 ?_
        refine awd_conv [.freeze 47] (st':=(⟨50,[e45_15 havev,e45_8 q1,e45_27,sI 9 endv,e45_3 q0 q1,e45_28 ret44v endv,e45_16,e45_13,e45_17,e45_18,e45_19,e45_20,e45_21,e45_22,e45_23,e45_24],[e45_7,e45_2 c7 c8 c9,e45_4 c10 c11,e45_5 c12 c13,e45_9,e45_25 l30005,e45_6 c14,(37100,[],.lp lr1 l37100 (VCc61_s1 30000 30001 30002 30003 30004 30005 c)),e45_11,e45_1 q0 q1,e45_0 c1 c2 c3 c4 c5,e45_10 l70001]⟩:St)) (by kernel_rfl) rfl ?_
        refine awd_one (i:=6) (by kernel_rfl) ?_
        refine adop_lcall (σ:=Bool×Int×LK×Int) e45_n0 e45_n1 [.c (.pS (ret44v++[endv]))] [.c (.ad tI q0),.c (.ptr 41800 0),.c (.ad (.pr tI tI) q1),.c (.ptr 41811 0)] (fun ret48v=>.v (.c (.pB ret48v.1))) (fun ret48v=>[e45_11,(37100,[],.lp lr1 ret48v.2.1 (VCc61_s1 30000 30001 30002 30003 30004 30005 c)),e45_7,e45_0 c1 c2 c3 c4 c5,e45_12 ret48v,e45_2 c7 c8 c9,e45_4 c10 c11,e45_5 c12 c13,e45_9,e45_6 c14,e45_26 ret48v,e45_1 q0 q1]) (_) [e45_11,(37100,[],.lp lr1 l37100 (VCc61_s1 30000 30001 30002 30003 30004 30005 c)),e45_7,e45_0 c1 c2 c3 c4 c5,e45_10 l70001,e45_2 c7 c8 c9,e45_4 c10 c11,e45_5 c12 c13,e45_9,e45_6 c14,e45_25 l30005,e45_1 q0 q1] (fun ret48v=>(⟨50,[sB 48 ret48v.1,e45_15 havev,e45_8 q1,e45_27,sI 9 endv,e45_3 q0 q1,e45_28 ret44v endv,e45_16,e45_13,e45_17,e45_18,e45_19,e45_20,e45_21,e45_22,e45_23,e45_24],[e45_11,(37100,[],.lp lr1 ret48v.2.1 (VCc61_s1 30000 30001 30002 30003 30004 30005 c)),e45_7,e45_0 c1 c2 c3 c4 c5,e45_12 ret48v,e45_2 c7 c8 c9,e45_4 c10 c11,e45_5 c12 c13,e45_9,e45_6 c14,e45_26 ret48v,e45_1 q0 q1]⟩:St)) rfl (by kernel_rfl) rfl rfl (by kernel_rfl) rfl (by kernel_rfl) Try.call85 (by kernel_rfl) (by kernel_rfl) (by kernel_rfl) (fun _ _=>rfl) (fun _=>by kernel_rfl) (hR (ret44v++[endv]) l37100 l70001 l30005 _ h) (fun ret48v h=>?_)
        refine dpr (st':=(⟨50,[e45_15 havev,e45_8 q1,e45_27,sI 9 endv,sB 48 ret48v.1,e45_16,e45_13,e45_17,e45_18,e45_19,e45_20,e45_21,e45_22,e45_23,e45_24],[e45_7,e45_2 c7 c8 c9,e45_4 c10 c11,e45_5 c12 c13,e45_9,e45_26 ret48v,e45_6 c14,(37100,[],.lp lr1 ret48v.2.1 (VCc61_s1 30000 30001 30002 30003 30004 30005 c)),e45_11,e45_1 q0 q1,e45_0 c1 c2 c3 c4 c5,e45_12 ret48v]⟩:St)) (by kernel_rfl) ?_
        refine drq (by kernel_rfl) [7] (ob:=(Ts 1 True)) (done':=[7,6,5,2,0,4,3,1]) (st':=(⟨50,[e45_15 havev,e45_8 q1,e45_27,sI 9 endv,sB 49 (!ret48v.1),e45_16,e45_13,e45_17,e45_18,e45_19,e45_20,e45_21,e45_22,e45_23,e45_24],[e45_7,e45_2 c7 c8 c9,e45_4 c10 c11,e45_5 c12 c13,e45_9,e45_26 ret48v,e45_6 c14,(37100,[],.lp lr1 ret48v.2.1 (VCc61_s1 30000 30001 30002 30003 30004 30005 c)),e45_11,e45_1 q0 q1,e45_0 c1 c2 c3 c4 c5,e45_12 ret48v]⟩:St)) (by kernel_rfl) (tsI 1 trivial) ?_
        refine awd_done (by kernel_rfl) ?_
        exact rest3 ((!ret48v.1),ret48v.2.2.2,ret48v.2.1,ret48v.2.2.1) h
       ·have h:=h
        refine adop_callOk (e:=3) (t:=tI) (l:=[toV1 (.sl tI) havev]) (cl:=[]) false [.d (.sl tI)] [0,3,4,9,44,46,50,51,52,53,54,55,56,57,58,59] e45_n3 (fun (ret44v:LI)=>(roomW 8 (ret44v.length+[endv].length)∧R (ret44v++[endv]) l37100 l70001 l30005 (fun (ret48v:Bool×Int×LK×Int)=>VCc85y9_k4 K endv X1 (!ret48v.1) ret48v.2.2.2 ret48v.2.1 ret48v.2.2.1))) (fun ret44v=>(⟨50,[e45_15 havev,e45_8 q1,e45_27,sI 9 endv,e45_37,e45_38,e45_16,e45_13,e45_17,e45_18,e45_19,e45_20,e45_21,e45_22,e45_23,e45_24],[e45_31 ret44v,e45_32 endv,e45_7,e45_2 c7 c8 c9,e45_4 c10 c11,e45_5 c12 c13,e45_9,e45_25 l30005,e45_6 c14,(37100,[],.lp lr1 l37100 (VCc61_s1 30000 30001 30002 30003 30004 30005 c)),e45_11,e45_1 q0 q1,e45_0 c1 c2 c3 c4 c5,e45_10 l70001]⟩:St)) rfl rfl rfl (by kernel_rfl) rfl (by kernel_rfl) Try.call54 (by kernel_rfl) (fun e=>by cases e) (fun ret44v=>by kernel_rfl) (link54 havev _ h) (fun ret44v h=>?_)
        refine awd_two (i:=0) (j:=5) (by kernel_rfl) ?_ ?_
        ·have h:=h
         refine dsq (ob:=True) (st':=(⟨50,[e45_15 havev,e45_8 q1,e45_27,sI 9 endv,e45_3 q0 q1,e45_37,e45_38,e45_16,e45_13,e45_17,e45_18,e45_19,e45_20,e45_21,e45_22,e45_23,e45_24],[e45_31 ret44v,e45_32 endv,e45_7,e45_2 c7 c8 c9,e45_4 c10 c11,e45_5 c12 c13,e45_9,e45_25 l30005,e45_6 c14,(37100,[],.lp lr1 l37100 (VCc61_s1 30000 30001 30002 30003 30004 30005 c)),e45_11,e45_1 q0 q1,e45_0 c1 c2 c3 c4 c5,e45_10 l70001]⟩:St)) rfl (by kernel_rfl) trivial ?_
         refine awd_one (i:=5) (by kernel_rfl) ?_
         obtain ⟨o1,h⟩:=h
         refine dsq (ob:=roomW 8 (ret44v.length+[endv].length)) (st':=(⟨50,[e45_15 havev,e45_8 q1,e45_27,sI 9 endv,e45_3 q0 q1,e45_40,e45_16,e45_13,e45_17,e45_18,e45_19,e45_20,e45_21,e45_22,e45_23,e45_24],[e45_30 ret44v endv,e45_7,e45_2 c7 c8 c9,e45_4 c10 c11,e45_5 c12 c13,e45_9,e45_25 l30005,e45_6 c14,(37100,[],.lp lr1 l37100 (VCc61_s1 30000 30001 30002 30003 30004 30005 c)),e45_11,e45_1 q0 q1,e45_0 c1 c2 c3 c4 c5,e45_10 l70001]⟩:St)) rfl (by kernel_rfl) o1 ?_
         refine awd_conv [.freeze 47] (st':=(⟨50,[e45_15 havev,e45_8 q1,e45_27,sI 9 endv,e45_3 q0 q1,e45_28 ret44v endv,e45_16,e45_13,e45_17,e45_18,e45_19,e45_20,e45_21,e45_22,e45_23,e45_24],[e45_7,e45_2 c7 c8 c9,e45_4 c10 c11,e45_5 c12 c13,e45_9,e45_25 l30005,e45_6 c14,(37100,[],.lp lr1 l37100 (VCc61_s1 30000 30001 30002 30003 30004 30005 c)),e45_11,e45_1 q0 q1,e45_0 c1 c2 c3 c4 c5,e45_10 l70001]⟩:St)) (by kernel_rfl) rfl ?_
         refine awd_one (i:=6) (by kernel_rfl) ?_
         refine adop_lcall (σ:=Bool×Int×LK×Int) e45_n0 e45_n1 [.c (.pS (ret44v++[endv]))] [.c (.ad tI q0),.c (.ptr 41800 0),.c (.ad (.pr tI tI) q1),.c (.ptr 41811 0)] (fun ret48v=>.v (.c (.pB ret48v.1))) (fun ret48v=>[e45_11,(37100,[],.lp lr1 ret48v.2.1 (VCc61_s1 30000 30001 30002 30003 30004 30005 c)),e45_7,e45_0 c1 c2 c3 c4 c5,e45_12 ret48v,e45_2 c7 c8 c9,e45_4 c10 c11,e45_5 c12 c13,e45_9,e45_6 c14,e45_26 ret48v,e45_1 q0 q1]) (_) [e45_11,(37100,[],.lp lr1 l37100 (VCc61_s1 30000 30001 30002 30003 30004 30005 c)),e45_7,e45_0 c1 c2 c3 c4 c5,e45_10 l70001,e45_2 c7 c8 c9,e45_4 c10 c11,e45_5 c12 c13,e45_9,e45_6 c14,e45_25 l30005,e45_1 q0 q1] (fun ret48v=>(⟨50,[sB 48 ret48v.1,e45_15 havev,e45_8 q1,e45_27,sI 9 endv,e45_3 q0 q1,e45_28 ret44v endv,e45_16,e45_13,e45_17,e45_18,e45_19,e45_20,e45_21,e45_22,e45_23,e45_24],[e45_11,(37100,[],.lp lr1 ret48v.2.1 (VCc61_s1 30000 30001 30002 30003 30004 30005 c)),e45_7,e45_0 c1 c2 c3 c4 c5,e45_12 ret48v,e45_2 c7 c8 c9,e45_4 c10 c11,e45_5 c12 c13,e45_9,e45_6 c14,e45_26 ret48v,e45_1 q0 q1]⟩:St)) rfl (by kernel_rfl) rfl rfl (by kernel_rfl) rfl (by kernel_rfl) Try.call85 (by kernel_rfl) (by kernel_rfl) (by kernel_rfl) (fun _ _=>rfl) (fun _=>by kernel_rfl) (hR (ret44v++[endv]) l37100 l70001 l30005 _ h) (fun ret48v h=>?_)
         refine dpr (st':=(⟨50,[e45_15 havev,e45_8 q1,e45_27,sI 9 endv,sB 48 ret48v.1,e45_16,e45_13,e45_17,e45_18,e45_19,e45_20,e45_21,e45_22,e45_23,e45_24],[e45_7,e45_2 c7 c8 c9,e45_4 c10 c11,e45_5 c12 c13,e45_9,e45_26 ret48v,e45_6 c14,(37100,[],.lp lr1 ret48v.2.1 (VCc61_s1 30000 30001 30002 30003 30004 30005 c)),e45_11,e45_1 q0 q1,e45_0 c1 c2 c3 c4 c5,e45_12 ret48v]⟩:St)) (by kernel_rfl) ?_
         refine drq (by kernel_rfl) [7] (ob:=(Ts 1 True)) (done':=[7,6,5,0,2,4,3,1]) (st':=(⟨50,[e45_15 havev,e45_8 q1,e45_27,sI 9 endv,sB 49 (!ret48v.1),e45_16,e45_13,e45_17,e45_18,e45_19,e45_20,e45_21,e45_22,e45_23,e45_24],[e45_7,e45_2 c7 c8 c9,e45_4 c10 c11,e45_5 c12 c13,e45_9,e45_26 ret48v,e45_6 c14,(37100,[],.lp lr1 ret48v.2.1 (VCc61_s1 30000 30001 30002 30003 30004 30005 c)),e45_11,e45_1 q0 q1,e45_0 c1 c2 c3 c4 c5,e45_12 ret48v]⟩:St)) (by kernel_rfl) (tsI 1 trivial) ?_
         refine awd_done (by kernel_rfl) ?_
         exact rest3 ((!ret48v.1),ret48v.2.2.2,ret48v.2.1,ret48v.2.2.1) h
        ·have h:=h
         obtain ⟨o1,h⟩:=h
         refine dsq (ob:=roomW 8 (ret44v.length+[endv].length)) (st':=(⟨50,[e45_15 havev,e45_8 q1,e45_27,sI 9 endv,e45_40,e45_16,e45_13,e45_17,e45_18,e45_19,e45_20,e45_21,e45_22,e45_23,e45_24],[e45_30 ret44v endv,e45_7,e45_2 c7 c8 c9,e45_4 c10 c11,e45_5 c12 c13,e45_9,e45_25 l30005,e45_6 c14,(37100,[],.lp lr1 l37100 (VCc61_s1 30000 30001 30002 30003 30004 30005 c)),e45_11,e45_1 q0 q1,e45_0 c1 c2 c3 c4 c5,e45_10 l70001]⟩:St)) rfl (by kernel_rfl) o1 ?_
         refine awd_one (i:=0) (by kernel_rfl) ?_
         refine dsq (ob:=True) (st':=(⟨50,[e45_15 havev,e45_8 q1,e45_27,sI 9 endv,e45_3 q0 q1,e45_40,e45_16,e45_13,e45_17,e45_18,e45_19,e45_20,e45_21,e45_22,e45_23,e45_24],[e45_30 ret44v endv,e45_7,e45_2 c7 c8 c9,e45_4 c10 c11,e45_5 c12 c13,e45_9,e45_25 l30005,e45_6 c14,(37100,[],.lp lr1 l37100 (VCc61_s1 30000 30001 30002 30003 30004 30005 c)),e45_11,e45_1 q0 q1,e45_0 c1 c2 c3 c4 c5,e45_10 l70001]⟩:St)) rfl (by kernel_rfl) trivial ?_
         refine awd_conv [.freeze 47] (st':=(⟨50,[e45_15 havev,e45_8 q1,e45_27,sI 9 endv,e45_3 q0 q1,e45_28 ret44v endv,e45_16,e45_13,e45_17,e45_18,e45_19,e45_20,e45_21,e45_22,e45_23,e45_24],[e45_7,e45_2 c7 c8 c9,e45_4 c10 c11,e45_5 c12 c13,e45_9,e45_25 l30005,e45_6 c14,(37100,[],.lp lr1 l37100 (VCc61_s1 30000 30001 30002 30003 30004 30005 c)),e45_11,e45_1 q0 q1,e45_0 c1 c2 c3 c4 c5,e45_10 l70001]⟩:St)) (by kernel_rfl) rfl ?_
         refine awd_one (i:=6) (by kernel_rfl) ?_
         refine adop_lcall (σ:=Bool×Int×LK×Int) e45_n0 e45_n1 [.c (.pS (ret44v++[endv]))] [.c (.ad tI q0),.c (.ptr 41800 0),.c (.ad (.pr tI tI) q1),.c (.ptr 41811 0)] (fun ret48v=>.v (.c (.pB ret48v.1))) (fun ret48v=>[e45_11,(37100,[],.lp lr1 ret48v.2.1 (VCc61_s1 30000 30001 30002 30003 30004 30005 c)),e45_7,e45_0 c1 c2 c3 c4 c5,e45_12 ret48v,e45_2 c7 c8 c9,e45_4 c10 c11,e45_5 c12 c13,e45_9,e45_6 c14,e45_26 ret48v,e45_1 q0 q1]) (_) [e45_11,(37100,[],.lp lr1 l37100 (VCc61_s1 30000 30001 30002 30003 30004 30005 c)),e45_7,e45_0 c1 c2 c3 c4 c5,e45_10 l70001,e45_2 c7 c8 c9,e45_4 c10 c11,e45_5 c12 c13,e45_9,e45_6 c14,e45_25 l30005,e45_1 q0 q1] (fun ret48v=>(⟨50,[sB 48 ret48v.1,e45_15 havev,e45_8 q1,e45_27,sI 9 endv,e45_3 q0 q1,e45_28 ret44v endv,e45_16,e45_13,e45_17,e45_18,e45_19,e45_20,e45_21,e45_22,e45_23,e45_24],[e45_11,(37100,[],.lp lr1 ret48v.2.1 (VCc61_s1 30000 30001 30002 30003 30004 30005 c)),e45_7,e45_0 c1 c2 c3 c4 c5,e45_12 ret48v,e45_2 c7 c8 c9,e45_4 c10 c11,e45_5 c12 c13,e45_9,e45_6 c14,e45_26 ret48v,e45_1 q0 q1]⟩:St)) rfl (by kernel_rfl) rfl rfl (by kernel_rfl) rfl (by kernel_rfl) Try.call85 (by kernel_rfl) (by kernel_rfl) (by kernel_rfl) (fun _ _=>rfl) (fun _=>by kernel_rfl) (hR (ret44v++[endv]) l37100 l70001 l30005 _ h) (fun ret48v h=>?_)
         refine dpr (st':=(⟨50,[e45_15 havev,e45_8 q1,e45_27,sI 9 endv,sB 48 ret48v.1,e45_16,e45_13,e45_17,e45_18,e45_19,e45_20,e45_21,e45_22,e45_23,e45_24],[e45_7,e45_2 c7 c8 c9,e45_4 c10 c11,e45_5 c12 c13,e45_9,e45_26 ret48v,e45_6 c14,(37100,[],.lp lr1 ret48v.2.1 (VCc61_s1 30000 30001 30002 30003 30004 30005 c)),e45_11,e45_1 q0 q1,e45_0 c1 c2 c3 c4 c5,e45_12 ret48v]⟩:St)) (by kernel_rfl) ?_
         refine drq (by kernel_rfl) [7] (ob:=(Ts 1 True)) (done':=[7,6,0,5,2,4,3,1]) (st':=(⟨50,[e45_15 havev,e45_8 q1,e45_27,sI 9 endv,sB 49 (!ret48v.1),e45_16,e45_13,e45_17,e45_18,e45_19,e45_20,e45_21,e45_22,e45_23,e45_24],[e45_7,e45_2 c7 c8 c9,e45_4 c10 c11,e45_5 c12 c13,e45_9,e45_26 ret48v,e45_6 c14,(37100,[],.lp lr1 ret48v.2.1 (VCc61_s1 30000 30001 30002 30003 30004 30005 c)),e45_11,e45_1 q0 q1,e45_0 c1 c2 c3 c4 c5,e45_12 ret48v]⟩:St)) (by kernel_rfl) (tsI 1 trivial) ?_
         refine awd_done (by kernel_rfl) ?_
         exact rest3 ((!ret48v.1),ret48v.2.2.2,ret48v.2.1,ret48v.2.2.1) h
    ·have h:=h.2 hb
     refine cpr (st':=(⟨50,[e45_16,e45_13,e45_17,e45_18,e45_19,e45_20,e45_21,e45_22,e45_23,e45_24],[e45_7,e45_2 c7 c8 c9,e45_4 c10 c11,e45_5 c12 c13,e45_9,e45_25 l30005,e45_6 c14,(37100,[],.lp lr1 l37100 (VCc61_s1 30000 30001 30002 30003 30004 30005 c)),e45_11,e45_1 q0 q1,e45_0 c1 c2 c3 c4 c5,e45_10 l70001]⟩:St)) (by kernel_rfl) ?_
     refine aw_exit ?_
     refine thenQ_x ?_
     refine thenQ_x ?_
     refine blockQ_hit ?_
     exact rest2 (l30005,l37100,l70001) h
  ·refine aw_cond (b:=(decide ((0:Int)<(havev.length:Int)))) (by kernel_rfl) (fun hb=>?_) (fun hb=>?_)
   ·have h:=h.1 hb
    refine aw_region ?_
    obtain ⟨o1,o2,h⟩:=h
    refine rq 6 (ob:=(Ts 2 (InR ((havev.length:Int)-(1:Int))∧inIdx ((havev.length:Int)-(1:Int)) havev.length∧Ts 2 True))) (st':=(⟨50,[e45_15 havev,e45_8 q1,e45_27,sI 7 (havev.getD (((havev.length:Int)-(1:Int))).toNat (0:Int)),e45_16,e45_13,e45_17,e45_18,e45_19,e45_20,e45_21,e45_22,e45_23,e45_24],[e45_7,e45_2 c7 c8 c9,e45_4 c10 c11,e45_5 c12 c13,e45_9,e45_29 c15,e45_6 c14,(37100,[],.lp lr1 c0 (VCc61_s1 30000 30001 30002 30003 30004 30005 c)),e45_11,e45_1 q0 q1,e45_0 c1 c2 c3 c4 c5,e45_14 c6]⟩:St)) (by kernel_rfl) (tsI 2 (⟨o1,⟨o2,tsI 2 trivial⟩⟩)) ?_
    refine awl_nil ?_
    exact rest4 (havev.getD (((havev.length:Int)-(1:Int))).toNat (0:Int)) h
   ·have h:=h.2 hb
    refine cpr (st':=(⟨50,[e45_15 havev,e45_8 q1,e45_27,sI 7 q1.1,e45_16,e45_13,e45_17,e45_18,e45_19,e45_20,e45_21,e45_22,e45_23,e45_24],[e45_7,e45_2 c7 c8 c9,e45_4 c10 c11,e45_5 c12 c13,e45_9,e45_29 c15,e45_6 c14,(37100,[],.lp lr1 c0 (VCc61_s1 30000 30001 30002 30003 30004 30005 c)),e45_11,e45_1 q0 q1,e45_0 c1 c2 c3 c4 c5,e45_14 c6]⟩:St)) (by kernel_rfl) ?_
    refine aw_skip ?_
    exact rest4 q1.1 h
def VCc85y9_it (q0:Int) (q1:(Int×Int)) (c1:Int) (c2:Int) (c3:Int) (c4:LR) (c5:LI) (c7:Int) (c8:(List Tree)) (c9:LI) (c10:Int) (c11:Int) (c12:Int) (c13:LI) (c14:LI) (Y:LI→Int→LK→(Int×LK→Prop)→(Int×Int×LK→Prop)→Prop):Nat→LI→Int→LK→Int→(Bool×Int×LK×Int→Prop)→Prop
  | 0=>fun _ _ _ _ _=>False
  | n+1=>fun havev c0 c6 c15 K=>VCc85y9 q0 q1 c1 c2 c3 c4 c5 c7 c8 c9 c10 c11 c12 c13 c14 Y (VCc85y9_it q0 q1 c1 c2 c3 c4 c5 c7 c8 c9 c10 c11 c12 c13 c14 Y n) havev c0 c6 c15 K
def VCcr85y9 (q0:Int) (q1:(Int×Int)) (c1:Int) (c2:Int) (c3:Int) (c4:LR) (c5:LI) (c7:Int) (c8:(List Tree)) (c9:LI) (c10:Int) (c11:Int) (c12:Int) (c13:LI) (c14:LI) (Y:LI→Int→LK→(Int×LK→Prop)→(Int×Int×LK→Prop)→Prop) (havev:LI) (c0:Int) (c6:LK) (c15:Int) (K:Bool×Int×LK×Int→Prop):Prop:=∃ n,VCc85y9_it q0 q1 c1 c2 c3 c4 c5 c7 c8 c9 c10 c11 c12 c13 c14 Y n havev c0 c6 c15 K
theorem linkci85y9 (lr1:Go.Loop) (c:Int) (q0:Int) (q1:(Int×Int)) (c1:Int) (c2:Int) (c3:Int) (c4:LR) (c5:LI) (c7:Int) (c8:(List Tree)) (c9:LI) (c10:Int) (c11:Int) (c12:Int) (c13:LI) (c14:LI) (Y:LI→Int→LK→(Int×LK→Prop)→(Int×Int×LK→Prop)→Prop) (hY:∀ (ya0:LI) (yv0:Int) (yv1:LK) (Kt:Int×LK→Prop) (Kf:Int×Int×LK→Prop) (h:Y ya0 yv0 yv1 Kt Kf),LYCalls Try.prog 37100 e45_n2 e45_n5 [(37100,[],.lp lr1 (0:Int) (VCc61_s1 30000 30001 30002 30003 30004 30005 c)),e45_7,e45_2 c7 c8 c9,e45_4 c10 c11,e45_5 c12 c13,e45_9,hB 30005 [.pI yv0],e45_6 c14,e45_0 c1 c2 c3 c4 c5,e45_39 yv1] [.c (.pS ya0)] (fun av hp'=>(∃ y:Int×LK,av=.v (.c (.p .bool true))∧hp'=[(37100,[],.lp lr1 (0:Int) (VCc61_s1 30000 30001 30002 30003 30004 30005 c)),e45_7,e45_2 c7 c8 c9,e45_4 c10 c11,e45_5 c12 c13,e45_9,hB 30005 [.pI y.1],e45_6 c14,e45_0 c1 c2 c3 c4 c5,(70001,[],.dict (.pr tI t3) tI y.2)]∧Kt y)∨(∃ y:Int×Int×LK,av=.v (.c (.p .bool false))∧hp'=[(37100,[],.lp lr1 y.1 (VCc61_s1 30000 30001 30002 30003 30004 30005 c)),e45_7,e45_2 c7 c8 c9,e45_4 c10 c11,e45_5 c12 c13,e45_9,hB 30005 [.pI y.2.1],e45_6 c14,e45_0 c1 c2 c3 c4 c5,(70001,[],.dict (.pr tI t3) tI y.2.2)]∧Kf y))):∀ (n:Nat) (havev:LI) (c0:Int) (c6:LK) (c15:Int) (K:Bool×Int×LK×Int→Prop),VCc85y9_it q0 q1 c1 c2 c3 c4 c5 c7 c8 c9 c10 c11 c12 c13 c14 Y n havev c0 c6 c15 K→LCalls Try.prog 85 e45_n0 e45_n1 [e45_11,(37100,[],.lp lr1 c0 (VCc61_s1 30000 30001 30002 30003 30004 30005 c)),e45_7,e45_0 c1 c2 c3 c4 c5,e45_14 c6,e45_2 c7 c8 c9,e45_4 c10 c11,e45_5 c12 c13,e45_9,e45_6 c14,e45_29 c15,e45_1 q0 q1] [.c (.pS havev),.c (.ad tI q0),.c (.ptr 41800 0),.c (.ad (.pr tI tI) q1),.c (.ptr 41811 0)] (fun av hp'=>∃ y:Bool×Int×LK×Int,av=.v (.c (.pB y.1))∧hp'=[e45_11,(37100,[],.lp lr1 y.2.1 (VCc61_s1 30000 30001 30002 30003 30004 30005 c)),e45_7,e45_0 c1 c2 c3 c4 c5,(70001,[],.dict (.pr tI t3) tI y.2.2.1),e45_2 c7 c8 c9,e45_4 c10 c11,e45_5 c12 c13,e45_9,e45_6 c14,hB 30005 [.pI y.2.2.2],e45_1 q0 q1]∧K y)
  | 0,_,_,_,_,_,h=>False.elim h
  | n+1,havev,c0,c6,c15,K,h=>linkc85y9 lr1 c q0 q1 c1 c2 c3 c4 c5 c7 c8 c9 c10 c11 c12 c13 c14 Y hY (VCc85y9_it q0 q1 c1 c2 c3 c4 c5 c7 c8 c9 c10 c11 c12 c13 c14 Y n) (linkci85y9 lr1 c q0 q1 c1 c2 c3 c4 c5 c7 c8 c9 c10 c11 c12 c13 c14 Y hY n) havev c0 c6 c15 K h
theorem linkcr85y9 (lr1:Go.Loop) (c:Int) (q0:Int) (q1:(Int×Int)) (c1:Int) (c2:Int) (c3:Int) (c4:LR) (c5:LI) (c7:Int) (c8:(List Tree)) (c9:LI) (c10:Int) (c11:Int) (c12:Int) (c13:LI) (c14:LI) (Y:LI→Int→LK→(Int×LK→Prop)→(Int×Int×LK→Prop)→Prop) (hY:∀ (ya0:LI) (yv0:Int) (yv1:LK) (Kt:Int×LK→Prop) (Kf:Int×Int×LK→Prop) (h:Y ya0 yv0 yv1 Kt Kf),LYCalls Try.prog 37100 e45_n2 e45_n5 [(37100,[],.lp lr1 (0:Int) (VCc61_s1 30000 30001 30002 30003 30004 30005 c)),e45_7,e45_2 c7 c8 c9,e45_4 c10 c11,e45_5 c12 c13,e45_9,hB 30005 [.pI yv0],e45_6 c14,e45_0 c1 c2 c3 c4 c5,e45_39 yv1] [.c (.pS ya0)] (fun av hp'=>(∃ y:Int×LK,av=.v (.c (.p .bool true))∧hp'=[(37100,[],.lp lr1 (0:Int) (VCc61_s1 30000 30001 30002 30003 30004 30005 c)),e45_7,e45_2 c7 c8 c9,e45_4 c10 c11,e45_5 c12 c13,e45_9,hB 30005 [.pI y.1],e45_6 c14,e45_0 c1 c2 c3 c4 c5,(70001,[],.dict (.pr tI t3) tI y.2)]∧Kt y)∨(∃ y:Int×Int×LK,av=.v (.c (.p .bool false))∧hp'=[(37100,[],.lp lr1 y.1 (VCc61_s1 30000 30001 30002 30003 30004 30005 c)),e45_7,e45_2 c7 c8 c9,e45_4 c10 c11,e45_5 c12 c13,e45_9,hB 30005 [.pI y.2.1],e45_6 c14,e45_0 c1 c2 c3 c4 c5,(70001,[],.dict (.pr tI t3) tI y.2.2)]∧Kf y))) (havev:LI) (c0:Int) (c6:LK) (c15:Int) (K:Bool×Int×LK×Int→Prop) (h:VCcr85y9 q0 q1 c1 c2 c3 c4 c5 c7 c8 c9 c10 c11 c12 c13 c14 Y havev c0 c6 c15 K):LCalls Try.prog 85 e45_n0 e45_n1 [e45_11,(37100,[],.lp lr1 c0 (VCc61_s1 30000 30001 30002 30003 30004 30005 c)),e45_7,e45_0 c1 c2 c3 c4 c5,e45_14 c6,e45_2 c7 c8 c9,e45_4 c10 c11,e45_5 c12 c13,e45_9,e45_6 c14,e45_29 c15,e45_1 q0 q1] [.c (.pS havev),.c (.ad tI q0),.c (.ptr 41800 0),.c (.ad (.pr tI tI) q1),.c (.ptr 41811 0)] (fun av hp'=>∃ y:Bool×Int×LK×Int,av=.v (.c (.pB y.1))∧hp'=[e45_11,(37100,[],.lp lr1 y.2.1 (VCc61_s1 30000 30001 30002 30003 30004 30005 c)),e45_7,e45_0 c1 c2 c3 c4 c5,(70001,[],.dict (.pr tI t3) tI y.2.2.1),e45_2 c7 c8 c9,e45_4 c10 c11,e45_5 c12 c13,e45_9,e45_6 c14,hB 30005 [.pI y.2.2.2],e45_1 q0 q1]∧K y):=by
  obtain ⟨n,h⟩:=h
  exact linkci85y9 lr1 c q0 q1 c1 c2 c3 c4 c5 c7 c8 c9 c10 c11 c12 c13 c14 Y hY n havev c0 c6 c15 K h
abbrev e45a0 (c0:Int) (c1:Int) (c22:Int) (c3:LR) (c4:LI):Nat×Path×Con:=hB 70000 [.pI c0,.pI c1,.pI c22,.p (.sl tR) c3,.pS c4,.own 70001]
abbrev e45a1 (c3:LR) (c:Int):Nat×Path×Con:=hB 30003 [.pI ((c3.getD (c).toNat ((0:Int),([]:LI))).1),.pS ((c3.getD (c).toNat ((0:Int),([]:LI))).2)]
abbrev e45a2 (c3:LR) (c:Int):Nat×Path×Con:=hB 7 [.pI ((c3.getD (c).toNat ((0:Int),([]:LI))).1),.pS ((c3.getD (c).toNat ((0:Int),([]:LI))).2)]
abbrev e45a3 (c:Int) (tv:(List Tree)) (over:LI):Nat×Path×Con:=hB 30001 [.pI c,.p (.sl .tr) tv,.pS over]
abbrev e45a4:Nat×Path×Con:=hB 30000 [.ptr 70000 0]
abbrev e45a5 (c3:LR) (c:Int):Nat×Path×Con:=hB 30503 [.pI ((c3.getD (c).toNat ((0:Int),([]:LI))).1),.pS ((c3.getD (c).toNat ((0:Int),([]:LI))).2)]
abbrev e45a6 (ret95v:(List (Int×Int))):Nat×Path×AV:=s1 15 (.p (.sl (.pr tI tI)) ret95v)
abbrev e45a7 (c5:LK):Nat×Path×Con:=(70001,[],.dict (.pr tI t3) tI c5)
abbrev e45a8 (l70001:LK):Nat×Path×Con:=(70001,[],.dict (.pr tI t3) tI l70001)
abbrev e45a9 (l6160:LI):Nat×Path×Con:=hA 30006 3 tI l6160
abbrev e45a10 (c2:Int) (tv2:Int):Nat×Path×Con:=hB 30002 [.pI c2,.pI tv2]
abbrev e45a11 (c:Int) (tv:(List Tree)) (over:LI):Nat×Path×Con:=hB 4 [.pI c,.p (.sl .tr) tv,.pS over]
abbrev e45a12 (ret122v:Int×LK):Nat×Path×Con:=(70001,[],.dict (.pr tI t3) tI ret122v.2)
abbrev e45a13:Nat×Path×AV:=sp 127 70000
abbrev e45a14:Nat×Path×Con:=hB 30004 [.own 30006]
abbrev e45a15 (ret90v:Int×LK):Nat×Path×Con:=(70001,[],.dict (.pr tI t3) tI ret90v.2)
abbrev e45a16 (c3:LR) (c:Int) (v99:Int):Nat×Path×AV:=s1 117 (.pS (((c3.getD (c).toNat ((0:Int),([]:LI))).2).drop ((v99+(1:Int))).toNat))
abbrev e45a17 (ret95v:(List (Int×Int))) (v99:Int):Nat×Path×AV:=s1 121 (.p (.sl (.pr tI tI)) (ret95v.drop ((v99+(1:Int))).toNat))
abbrev e45a18 (c14:LK):Nat×Path×Con:=(70001,[],.dict (.pr tI t3) tI c14)
abbrev e45a19 (tv:(List Tree)) (v99:Int):Nat×Path×AV:=sA 106 [.pI ((tv.getD (v99).toNat (Tree.node 0 [] [])).rule),.p (.sl .tr) ((tv.getD (v99).toNat (Tree.node 0 [] [])).kids),.pS ((tv.getD (v99).toNat (Tree.node 0 [] [])).word)]
abbrev e45a20 (c3:LR) (c:Int) (c2:Int) (tv2:Int):Nat×Path×Con:=hB 41811 [.cl 85 [.ad ⟨tI,(((c3.getD (c).toNat ((0:Int),([]:LI))).2).length:Int)⟩,.pt 41800 0,.ad ⟨(.pr tI tI),(c2,tv2)⟩,.pt 41811 0]]
abbrev e45a21 (c:Int) (tv:(List Tree)) (over:LI):Nat×Path×Con:=hB 30501 [.pI c,.p (.sl .tr) tv,.pS over]
abbrev e45a22 (ret70v:Int×LK):Nat×Path×Con:=(70001,[],.dict (.pr tI t3) tI ret70v.2)
abbrev e45a23 (tv:(List Tree)):Nat×Path×AV:=s1 97 (.p (.sl .tr) tv)
abbrev e45a24 (tv:(List Tree)):Nat×Path×AV:=sI 98 (tv.length:Int)
abbrev e45a25:Nat×Path×AV:=sp 12 30005
abbrev e45a26 (c2:Int) (tv2:Int):Nat×Path×Con:=hB 5 [.pI c2,.pI tv2]
abbrev e45a27 (ret111v:Int×LK):Nat×Path×Con:=(70001,[],.dict (.pr tI t3) tI ret111v.2)
abbrev e45a28:Nat×Path×Con:=hB 3 [.ptr 70000 0]
abbrev e45a29 (l700013:LK):Nat×Path×Con:=(70001,[],.dict (.pr tI t3) tI l700013)
abbrev e45a30 (ret95v:(List (Int×Int))) (v99:Int):Nat×Path×AV:=sA 110 [.pI ((ret95v.getD (v99).toNat ((0:Int),(0:Int))).1),.pI ((ret95v.getD (v99).toNat ((0:Int),(0:Int))).2)]
abbrev e45a31 (c3:LR) (c:Int):Nat×Path×AV:=s1 85 (.pS ((c3.getD (c).toNat ((0:Int),([]:LI))).2))
abbrev e45a32 (l6160:LI):Nat×Path×Con:=hA 30506 3 tI l6160
abbrev e45a33 (c2:Int) (tv2:Int):Nat×Path×Con:=hB 30502 [.pI c2,.pI tv2]
abbrev e45a34 (l700012:LK):Nat×Path×Con:=(70001,[],.dict (.pr tI t3) tI l700012)
abbrev e45a35:Nat×Path×AV:=sp 3 30000
abbrev e45a36:Nat×Path×AV:=sp 7 30003
abbrev e45a37 (l6160:LI):Nat×Path×Con:=hA 6160 3 tI l6160
abbrev e45a38 (n3:Int):Nat×Path×Con:=hB 30005 [.pI n3]
abbrev e45a39 (c7:Int):Nat×Path×Con:=hB 30005 [.pI c7]
abbrev e45a40:Nat×Path×Con:=hB 30500 [.ptr 70000 0]
abbrev e45a41 (c3:LR) (c:Int) (c2:Int) (tv2:Int):Nat×Path×AV:=s1 6 (.cl 85 [.ad ⟨tI,(((c3.getD (c).toNat ((0:Int),([]:LI))).2).length:Int)⟩,.pt 41800 0,.ad ⟨(.pr tI tI),(c2,tv2)⟩,.pt 41811 0])
abbrev e45a42:Nat×Path×AV:=sp 133 70000
abbrev e45a43:Nat×Path×Con:=hB 30504 [.own 30506]
abbrev e45a44 (c3:LR) (c:Int) (c2:Int) (tv2:Int):Nat×Path×Con:=hB 4 [.cl 85 [.ad ⟨tI,(((c3.getD (c).toNat ((0:Int),([]:LI))).2).length:Int)⟩,.pt 3 0,.ad ⟨(.pr tI tI),(c2,tv2)⟩,.pt 4 0]]
abbrev e45a45 (ret89v:(List (Int×Int))):Nat×Path×AV:=s1 89 (.p (.sl (.pr tI tI)) ret89v)
abbrev e45a46 (ret7v:Bool×Int×LK×Int):Nat×Path×Con:=(70001,[],.dict (.pr tI t3) tI ret7v.2.2.1)
abbrev e45a47 (atv:Int) (tv:(List Tree)) (v35:Int):Nat×Path×AV:=sI 9 (atv+(((tv.getD (v35).toNat (Tree.node 0 [] [])).word).length:Int))
abbrev e45a48:Nat×Path×Con:=hB 8 [.own 6160]
abbrev e45a49:Nat×Path×AV:=sp 127 30000
abbrev e45a50:Nat×Path×AV:=sp 128 30001
abbrev e45a51:Nat×Path×AV:=sp 129 30002
abbrev e45a52:Nat×Path×AV:=sp 130 30003
abbrev e45a53:Nat×Path×AV:=sp 131 30004
abbrev e45a54:Nat×Path×AV:=sp 132 30005
abbrev e45a55 (c3:LR) (c:Int):Nat×Path×AV:=s1 1 (.ad tI (((c3.getD (c).toNat ((0:Int),([]:LI))).2).length:Int))
abbrev e45a56 (c3:LR) (c:Int):Nat×Path×AV:=sA 29 [.pI ((c3.getD (c).toNat ((0:Int),([]:LI))).1),.pS ((c3.getD (c).toNat ((0:Int),([]:LI))).2)]
abbrev e45a57 (c3:LR) (v51:Int) (c:Int):Nat×Path×AV:=sB 65 (decide ((c3.getD (v51).toNat ((0:Int),([]:LI))).1=(c3.getD (c).toNat ((0:Int),([]:LI))).1))
abbrev e45a58 (tv:(List Tree)):Nat×Path×AV:=s1 33 (.p (.sl .tr) tv)
abbrev e45a59 (tv:(List Tree)):Nat×Path×AV:=sI 34 (tv.length:Int)
abbrev e45a60:Nat×Path×AV:=sp 12 30505
abbrev e45a61:Nat×Path×AV:=s1 90108 (.yv 37100)
abbrev e45a62:Nat×Path×AV:=sp 3 30500
abbrev e45a63:Nat×Path×AV:=sp 4 30501
abbrev e45a64:Nat×Path×AV:=sp 5 30502
abbrev e45a65:Nat×Path×AV:=sp 7 30503
abbrev e45a66:Nat×Path×AV:=sp 8 30504
abbrev e45a67 (c2:Int) (tv2:Int):Nat×Path×AV:=s1 2 (.ad (.pr tI tI) (c2,tv2))
abbrev e45a68:Nat×Path×AV:=sp 112 70000
abbrev e45an0:List Nat:=[37100,30000,30001,30002,30003,30004,30005,30006,70000,70001]
abbrev e45an1:List Nat:=[30000,30001,30002,30003,30004,30005,30006,70000,70001]
abbrev e45an2:List Nat:=[37100,30000,30001,30002,30003,30004,30005,70000]
-- coppicer/pick.place
def VCc61_k4 (K:Int×LK→Prop) (n3:Int) (l700013:LK):Prop :=
  K (n3,l700013)
def VCc61_k5 (v99:Int) (X1:Int×Int×LK→Prop) (n4:Int) (l700014:LK):Prop :=
  (InR (v99+(1:Int))∧X1 ((v99+(1:Int)),n4,l700014))
def VCc61_l1 (c0:Int) (c1:Int) (c22:Int) (c3:LR) (c4:LI) (R:Int→(List Tree)→LI→Int→Int→LK→(Int×LK→Prop)→Prop) (c:Int) (tv:(List Tree)) (K:Int×LK→Prop) (ret95v:(List (Int×Int))) (v99:Int) (n3:Int) (l700013:LK) (X1:Int×Int×LK→Prop):Prop :=
  (((decide (v99<(tv.length:Int)))=true→(inIdx v99 tv.length∧(inIdx v99 ret95v.length∧InR (v99+(1:Int))∧(0≤(v99+(1:Int))∧(v99+(1:Int))≤(((c3.getD (c).toNat ((0:Int),([]:LI))).2).length:Int))∧InR (v99+(1:Int))∧(0≤(v99+(1:Int))∧(v99+(1:Int))≤(ret95v.length:Int))∧(R ((tv.getD (v99).toNat (Tree.node 0 [] [])).rule) ((tv.getD (v99).toNat (Tree.node 0 [] [])).kids) ((tv.getD (v99).toNat (Tree.node 0 [] [])).word) ((ret95v.getD (v99).toNat ((0:Int),(0:Int))).1) ((ret95v.getD (v99).toNat ((0:Int),(0:Int))).2) l700013 (fun (ret111v:Int×LK)=>VCcr71 c0 c1 c22 c3 c4 (((c3.getD (c).toNat ((0:Int),([]:LI))).2).drop ((v99+(1:Int))).toNat) (ret95v.drop ((v99+(1:Int))).toNat) ret111v.2 (fun (ret122v:Int×LK)=>(InR (ret111v.1*ret122v.1)∧InR (n3+(ret111v.1*ret122v.1))∧VCc61_k5 v99 X1 (n3+(ret111v.1*ret122v.1)) ret122v.2)))∧R ((tv.getD (v99).toNat (Tree.node 0 [] [])).rule) ((tv.getD (v99).toNat (Tree.node 0 [] [])).kids) ((tv.getD (v99).toNat (Tree.node 0 [] [])).word) ((ret95v.getD (v99).toNat ((0:Int),(0:Int))).1) ((ret95v.getD (v99).toNat ((0:Int),(0:Int))).2) l700013 (fun (ret111v:Int×LK)=>(VCcr71 c0 c1 c22 c3 c4 (((c3.getD (c).toNat ((0:Int),([]:LI))).2).drop ((v99+(1:Int))).toNat) (ret95v.drop ((v99+(1:Int))).toNat) ret111v.2 (fun (ret122v:Int×LK)=>(InR (ret111v.1*ret122v.1)∧InR (n3+(ret111v.1*ret122v.1))∧VCc61_k5 v99 X1 (n3+(ret111v.1*ret122v.1)) ret122v.2))∧VCcr71 c0 c1 c22 c3 c4 (((c3.getD (c).toNat ((0:Int),([]:LI))).2).drop ((v99+(1:Int))).toNat) (ret95v.drop ((v99+(1:Int))).toNat) ret111v.2 (fun (ret122v:Int×LK)=>(InR (ret111v.1*ret122v.1)∧(InR (n3+(ret111v.1*ret122v.1))∧VCc61_k5 v99 X1 (n3+(ret111v.1*ret122v.1)) ret122v.2)))))))))∧((decide (v99<(tv.length:Int)))=false→VCc61_k4 K n3 l700013))
def VCc61_k3 (c0:Int) (c1:Int) (c22:Int) (c3:LR) (c4:LI) (R:Int→(List Tree)→LI→Int→Int→LK→(Int×LK→Prop)→Prop) (c:Int) (tv:(List Tree)) (c2:Int) (K:Int×LK→Prop) (l6160:LI) (n2:Int) (l700012:LK):Prop :=
  VC70 c2 l6160 (fun (ret95v:(List (Int×Int)))=>Loop (σ:=Int×Int×LK) (fun s X=>VCc61_l1 c0 c1 c22 c3 c4 R c tv K ret95v s.1 s.2.1 s.2.2 X) ((0:Int),n2,l700012))
def VCc61_k6 (Kt:Int×LK→Prop) (l30005:Int) (l700012:LK):Prop :=
  Kt (l30005,l700012)
def VCc61_y1 (c0:Int) (c1:Int) (c22:Int) (c3:LR) (c4:LI) (c:Int) (c2:Int) (l6160:LI) (a78:LI) (c7:Int) (c14:LK) (Kt:Int×LK→Prop) (Kf:(Int×Int×LK)→Prop):Prop :=
  VC60 a78 l6160 (fun (ret81v:Bool)=>((ret81v=true→Kf ((6:Int),c7,c14))∧(ret81v=false→VC70 c2 a78 (fun (ret89v:(List (Int×Int)))=>VCcr71 c0 c1 c22 c3 c4 ((c3.getD (c).toNat ((0:Int),([]:LI))).2) ret89v c14 (fun (ret90v:Int×LK)=>(InR (c7+ret90v.1)∧VCc61_k6 Kt (c7+ret90v.1) ret90v.2))))))
def VCc61_k2 (c0:Int) (c1:Int) (c22:Int) (c3:LR) (c4:LI) (R:Int→(List Tree)→LI→Int→Int→LK→(Int×LK→Prop)→Prop) (c:Int) (tv:(List Tree)) (over:LI) (c2:Int) (tv2:Int) (K:Int×LK→Prop) (l6160:LI) (n:Int) (l70001:LK):Prop :=
  VCcr85y9 (((c3.getD (c).toNat ((0:Int),([]:LI))).2).length:Int) (c2,tv2) c0 c1 c22 c3 c4 c tv over c2 tv2 ((c3.getD (c).toNat ((0:Int),([]:LI))).1) ((c3.getD (c).toNat ((0:Int),([]:LI))).2) l6160 (VCc61_y1 c0 c1 c22 c3 c4 c c2 l6160) ([]:List Int) (0:Int) l70001 n (fun (ret7v:Bool×Int×LK×Int)=>((decide (ret7v.2.1=(0:Int))=true→VCc61_k3 c0 c1 c22 c3 c4 R c tv c2 K l6160 ret7v.2.2.2 ret7v.2.2.1)∧(decide (ret7v.2.1=(0:Int))=false→(ret7v.2.1=(6:Int)∧VCc61_k3 c0 c1 c22 c3 c4 R c tv c2 K l6160 ret7v.2.2.2 ret7v.2.2.1))))
def VCc61_k7 (v51:Int) (X2:Int×Int×LK→Prop) (n2:Int) (l700012:LK):Prop :=
  (InR (v51+(1:Int))∧X2 ((v51+(1:Int)),n2,l700012))
def VCc61_k8 (v51:Int) (X2:Int×Int×LK→Prop) (n2:Int) (l700012:LK):Prop :=
  VCc61_k7 v51 X2 n2 l700012
def VCc61_l2 (c0:Int) (c1:Int) (c22:Int) (c3:LR) (c4:LI) (R:Int→(List Tree)→LI→Int→Int→LK→(Int×LK→Prop)→Prop) (c:Int) (tv:(List Tree)) (over:LI) (c2:Int) (tv2:Int) (K:Int×LK→Prop) (l6160:LI) (v51:Int) (n:Int) (l70001:LK) (X2:Int×Int×LK→Prop):Prop :=
  (((decide (v51<c))=true→(inIdx v51 c3.length∧(((decide ((c3.getD (v51).toNat ((0:Int),([]:LI))).1=(c3.getD (c).toNat ((0:Int),([]:LI))).1))=true→VCcr72 c0 c1 c22 c3 c4 v51 (0:Int) c2 tv2 l70001 (fun (ret70v:Int×LK)=>(InR (n+ret70v.1)∧VCc61_k8 v51 X2 (n+ret70v.1) ret70v.2)))∧((decide ((c3.getD (v51).toNat ((0:Int),([]:LI))).1=(c3.getD (c).toNat ((0:Int),([]:LI))).1))=false→VCc61_k7 v51 X2 n l70001))))∧((decide (v51<c))=false→VCc61_k2 c0 c1 c22 c3 c4 R c tv over c2 tv2 K l6160 n l70001))
def VCc61_k1 (c0:Int) (c1:Int) (c22:Int) (c3:LR) (c4:LI) (R:Int→(List Tree)→LI→Int→Int→LK→(Int×LK→Prop)→Prop) (c:Int) (tv:(List Tree)) (over:LI) (c2:Int) (tv2:Int) (c5:LK) (K:Int×LK→Prop) (l6160:LI):Prop :=
  Loop (σ:=Int×Int×LK) (fun s X=>VCc61_l2 c0 c1 c22 c3 c4 R c tv over c2 tv2 K l6160 s.1 s.2.1 s.2.2 X) ((0:Int),(0:Int),c5)
def VCc61_l3 (c0:Int) (c1:Int) (c22:Int) (c3:LR) (c4:LI) (R:Int→(List Tree)→LI→Int→Int→LK→(Int×LK→Prop)→Prop) (c:Int) (tv:(List Tree)) (over:LI) (c2:Int) (tv2:Int) (c5:LK) (K:Int×LK→Prop) (atv:Int) (v35:Int) (l6160:LI) (X3:Int×Int×LI→Prop):Prop :=
  (((decide (v35<(tv.length:Int)))=true→(inIdx v35 tv.length∧(InR (atv+(((tv.getD (v35).toNat (Tree.node 0 [] [])).word).length:Int))∧(roomW 8 (l6160.length+[(atv+(((tv.getD (v35).toNat (Tree.node 0 [] [])).word).length:Int))].length)∧(InR (v35+(1:Int))∧X3 ((atv+(((tv.getD (v35).toNat (Tree.node 0 [] [])).word).length:Int)),(v35+(1:Int)),(l6160++[(atv+(((tv.getD (v35).toNat (Tree.node 0 [] [])).word).length:Int))])))))))∧((decide (v35<(tv.length:Int)))=false→VCc61_k1 c0 c1 c22 c3 c4 R c tv over c2 tv2 c5 K l6160))
def VCc61 (c0:Int) (c1:Int) (c22:Int) (c3:LR) (c4:LI) (R:Int→(List Tree)→LI→Int→Int→LK→(Int×LK→Prop)→Prop) (c:Int) (tv:(List Tree)) (over:LI) (c2:Int) (tv2:Int) (c5:LK) (K:Int×LK→Prop):Prop :=
  (((decide (c<(0:Int)))=true→K ((0:Int),c5))∧((decide (c<(0:Int)))=false→(inIdx c c3.length∧Loop (σ:=Int×Int×LI) (fun s X=>VCc61_l3 c0 c1 c22 c3 c4 R c tv over c2 tv2 c5 K s.1 s.2.1 s.2.2 X) (c2,(0:Int),([]:List Int)))))
set_option maxHeartbeats 4000000 in
theorem linkc61 (c0:Int) (c1:Int) (c22:Int) (c3:LR) (c4:LI) (R:Int→(List Tree)→LI→Int→Int→LK→(Int×LK→Prop)→Prop) (hR:∀ (c:Int) (tv:(List Tree)) (over:LI) (c2:Int) (tv2:Int) (c5:LK) (K:Int×LK→Prop),R c tv over c2 tv2 c5 K→LCalls Try.prog 61 [70000,70001] [70000] [e45a0 c0 c1 c22 c3 c4,e45a7 c5] [.c (.ptr 70000 0),.agg [.pI c,.p (.sl .tr) tv,.pS over],.agg [.pI c2,.pI tv2]] (fun av hp'=>∃ y:Int×LK,av=.v (.c (.pI y.1))∧hp'=[e45a0 c0 c1 c22 c3 c4,(70001,[],.dict (.pr tI t3) tI y.2)]∧K y)) (c:Int) (tv:(List Tree)) (over:LI) (c2:Int) (tv2:Int) (c5:LK) (K:Int×LK→Prop) (h:VCc61 c0 c1 c22 c3 c4 R c tv over c2 tv2 c5 K):LCalls Try.prog 61 [70000,70001] [70000] [e45a0 c0 c1 c22 c3 c4,e45a7 c5] [.c (.ptr 70000 0),.agg [.pI c,.p (.sl .tr) tv,.pS over],.agg [.pI c2,.pI tv2]] (fun av hp'=>∃ y:Int×LK,av=.v (.c (.pI y.1))∧hp'=[e45a0 c0 c1 c22 c3 c4,(70001,[],.dict (.pr tI t3) tI y.2)]∧K y):=by
 refine lcalls_of_aw [70000,70001] [70000] [.t 6] Try.func61 rfl rfl (by kernel_rfl) (by kernel_rfl) (by kernel_rfl) ?_
 refine aw_conv [] (st':=(⟨127,[sp 0 70000,sA 1 [.pI c,.p (.sl .tr) tv,.pS over],sA 2 [.pI c2,.pI tv2],e45a13],[e45a0 c0 c1 c22 c3 c4,e45a7 c5]⟩:St)) (by kernel_rfl) ?_
 unfold VCc61 at h
 refine srn 4 ⟨127,[sp 3 3,sp 4 4,sp 5 5,e45a13],[e45a28,e45a11 c tv over,e45a26 c2 tv2,e45a0 c0 c1 c22 c3 c4,e45a7 c5]⟩ (by kernel_rfl) rfl ?_
 refine aw_seq ?_
 refine srn 3 ⟨127,[sp 3 3,sp 4 4,sp 5 5,sB 20 (decide (c<(0:Int))),e45a13],[e45a28,e45a11 c tv over,e45a26 c2 tv2,e45a0 c0 c1 c22 c3 c4,e45a7 c5]⟩ (by kernel_rfl) rfl ?_
 refine aw_cond (b:=(decide (c<(0:Int)))) (by kernel_rfl) (fun hb=>?_) (fun hb=>?_)
 ·have h:=h.1 hb
  refine srn 1 ⟨127,[sI 6 (0:Int),e45a13],[e45a0 c0 c1 c22 c3 c4,e45a7 c5]⟩ (by kernel_rfl) rfl ?_
  refine aw_ret ?_
  refine thenQ_r ?_
  exact lret_r (σ:=Int×LK) (A:=fun y=>.v (.c (.pI y.1))) (H:=fun y=>[e45a0 c0 c1 c22 c3 c4,(70001,[],.dict (.pr tI t3) tI y.2)]) (ob:=True) ((0:Int),c5) (by kernel_rfl) trivial rfl (by kernel_rfl) (by kernel_rfl) (by kernel_rfl) h
 ·have h:=h.2 hb
  refine aw_skip ?_
  refine thenQ_n ?_
  refine aw_seq ?_
  refine awd_begin [7] (by kernel_rfl) ?_
  obtain ⟨o1,h⟩:=h
  refine drq (by kernel_rfl) [0,1,2,3,4,5,6,7,8] (ob:=(Ts 7 (inIdx c c3.length∧Ts 1 True))) (done':=[8,7,6,5,4,3,2,1,0]) (st':=(⟨127,[sp 3 3,sp 4 4,sp 5 5,e45a56 c3 c,e45a13],[e45a28,e45a11 c tv over,e45a26 c2 tv2,e45a0 c0 c1 c22 c3 c4,e45a7 c5]⟩:St)) (by kernel_rfl) (tsI 7 ⟨o1,tsI 1 trivial⟩) ?_
  refine awd_one (i:=9) (by kernel_rfl) ?_
  refine dsq (ob:=True) (st':=(⟨127,[sp 3 3,sp 4 4,sp 5 5,sp 7 7,e45a56 c3 c,e45a13],[e45a28,e45a11 c tv over,e45a26 c2 tv2,hB 7 [.pI (0:Int),.nils],e45a0 c0 c1 c22 c3 c4,e45a7 c5]⟩:St)) rfl (by kernel_rfl) trivial ?_
  refine awd_one (i:=10) (by kernel_rfl) ?_
  refine dsq (ob:=True) (st':=(⟨127,[sp 3 3,sp 4 4,sp 5 5,sp 7 7,e45a13],[e45a28,e45a11 c tv over,e45a26 c2 tv2,e45a2 c3 c,e45a0 c0 c1 c22 c3 c4,e45a7 c5]⟩:St)) rfl (by kernel_rfl) trivial ?_
  refine awd_done (by kernel_rfl) ?_
  refine thenQ_n ?_
  refine sr ?_
  refine rqT 1 ⟨127,[sp 3 3,sp 4 4,sp 5 5,sp 7 7,sp 8 8,e45a13],[e45a28,e45a11 c tv over,e45a26 c2 tv2,e45a2 c3 c,hB 8 [.nils],e45a0 c0 c1 c22 c3 c4,e45a7 c5]⟩ (by kernel_rfl) ?_
  refine nsr ?_
  refine rqT 3 ⟨127,[sp 3 3,sp 4 4,sp 5 5,sp 7 7,sp 8 8,sI 9 c2,e45a13],[e45a28,e45a11 c tv over,e45a26 c2 tv2,e45a2 c3 c,hB 8 [.nils],e45a0 c0 c1 c22 c3 c4,e45a7 c5]⟩ (by kernel_rfl) ?_
  refine nn ?_
  refine aw_seq ?_
  refine srn 4 ⟨127,[sp 3 3,sp 4 4,sp 5 5,sp 7 7,sp 8 8,sI 9 c2,e45a58 tv,e45a59 tv,sI 35 (0:Int),e45a13],[e45a28,e45a11 c tv over,e45a26 c2 tv2,e45a2 c3 c,hB 8 [.nils],e45a0 c0 c1 c22 c3 c4,e45a7 c5]⟩ (by kernel_rfl) rfl ?_
  refine withJoin (σ:=LI) (fun s=>(⟨127,[sp 3 3,sp 4 4,sp 5 5,sp 7 7,sp 8 8,e45a13],[e45a28,e45a11 c tv over,e45a26 c2 tv2,e45a2 c3 c,e45a48,hA 6160 3 tI s,e45a0 c0 c1 c22 c3 c4,e45a7 c5]⟩:St)) (fun s=>VCc61_k1 c0 c1 c22 c3 c4 R c tv over c2 tv2 c5 K s) (fun l6160 h=>?_) (fun rest8=>?_)
  ·have h:VCc61_k1 c0 c1 c22 c3 c4 R c tv over c2 tv2 c5 K l6160:=h
   unfold VCc61_k1 at h
   refine thenQ_n ?_
   refine srn 1 ⟨127,[sp 3 3,sp 4 4,sp 5 5,sp 7 7,sp 8 8,sp 12 12,e45a13],[e45a28,e45a11 c tv over,e45a26 c2 tv2,e45a2 c3 c,e45a48,hB 12 [.pI (0:Int)],e45a37 l6160,e45a0 c0 c1 c22 c3 c4,e45a7 c5]⟩ (by kernel_rfl) rfl ?_
   refine aw_seq ?_
   refine srn 3 ⟨127,[sp 3 3,sp 4 4,sp 5 5,sp 7 7,sp 8 8,sp 12 12,sI 50 c,sI 51 (0:Int),e45a13],[e45a28,e45a11 c tv over,e45a26 c2 tv2,e45a2 c3 c,e45a48,hB 12 [.pI (0:Int)],e45a37 l6160,e45a0 c0 c1 c22 c3 c4,e45a7 c5]⟩ (by kernel_rfl) rfl ?_
   refine withJoin (σ:=Int×LK) (fun s=>(⟨127,[sp 3 3,sp 4 4,sp 5 5,sp 7 7,sp 8 8,sp 12 12,e45a13],[e45a28,e45a11 c tv over,e45a26 c2 tv2,e45a2 c3 c,e45a48,hB 12 [.pI s.1],e45a37 l6160,e45a0 c0 c1 c22 c3 c4,(70001,[],.dict (.pr tI t3) tI s.2)]⟩:St)) (fun s=>VCc61_k2 c0 c1 c22 c3 c4 R c tv over c2 tv2 K l6160 s.1 s.2) (fun s h=>?_) (fun rest5=>?_)
   ·obtain ⟨n,l70001⟩:=s
    have h:VCc61_k2 c0 c1 c22 c3 c4 R c tv over c2 tv2 K l6160 n l70001:=h
    unfold VCc61_k2 at h
    refine thenQ_n ?_
    refine aw_seq ?_
    refine sr ?_
    refine rqT 4 ⟨127,[sp 3 3,sp 4 4,sp 5 5,sp 7 7,sp 8 8,sp 12 12,sI 75 (((c3.getD (c).toNat ((0:Int),([]:LI))).2).length:Int),sA 76 [.pI c2,.pI tv2],e45a13],[e45a28,e45a11 c tv over,e45a26 c2 tv2,e45a2 c3 c,e45a48,hB 12 [.pI n],e45a37 l6160,e45a0 c0 c1 c22 c3 c4,e45a8 l70001]⟩ (by kernel_rfl) ?_
    refine awl_conv [.ren 3 30000,.ren 4 30001,.ren 5 30002,.ren 7 30003,.ren 8 30004,.ren 12 30005,.ren 6160 30006] (st':=(⟨127,[e45a35,sp 4 30001,sp 5 30002,e45a36,sp 8 30004,e45a25,sI 75 (((c3.getD (c).toNat ((0:Int),([]:LI))).2).length:Int),sA 76 [.pI c2,.pI tv2],e45a13],[e45a4,e45a3 c tv over,e45a10 c2 tv2,e45a1 c3 c,e45a14,hB 30005 [.pI n],e45a9 l6160,e45a0 c0 c1 c22 c3 c4,e45a8 l70001]⟩:St)) (by kernel_rfl) ?_
    refine awl_inlr [.t 4] e45an1 [.c (.pI (((c3.getD (c).toNat ((0:Int),([]:LI))).2).length:Int)),.agg [.pI c2,.pI tv2]] [] rfl rfl (by kernel_rfl) rfl (by kernel_rfl) Try.call69 (by kernel_rfl) (by kernel_rfl) Try.func69 rfl rfl (by kernel_rfl) ?_
    refine aw_conv [] (st':=(⟨6,[sI 0 (((c3.getD (c).toNat ((0:Int),([]:LI))).2).length:Int),sA 1 [.pI c2,.pI tv2],sp 9 30000,sp 10 30001,sp 11 30002,sp 13 30003,sp 14 30004,sp 18 30005,sI 81 (((c3.getD (c).toNat ((0:Int),([]:LI))).2).length:Int),sA 82 [.pI c2,.pI tv2],e45a42],[e45a4,e45a3 c tv over,e45a10 c2 tv2,e45a1 c3 c,e45a14,hB 30005 [.pI n],e45a9 l6160,e45a0 c0 c1 c22 c3 c4,e45a8 l70001]⟩:St)) (by kernel_rfl) ?_
    refine sr ?_
    refine rqT 3 ⟨6,[sp 2 2,sp 3 3,sp 9 30000,sp 10 30001,sp 11 30002,sp 13 30003,sp 14 30004,sp 18 30005,e45a42],[hB 2 [.pI (((c3.getD (c).toNat ((0:Int),([]:LI))).2).length:Int)],hB 3 [.pI c2,.pI tv2],e45a4,e45a3 c tv over,e45a10 c2 tv2,e45a1 c3 c,e45a14,hB 30005 [.pI n],e45a9 l6160,e45a0 c0 c1 c22 c3 c4,e45a8 l70001]⟩ (by kernel_rfl) ?_
    refine nsr ?_
    refine awl_conv [.freezeB 2 tI,.freezeB 3 (.pr tI tI)] (st':=(⟨6,[s1 2 (.ad tI (((c3.getD (c).toNat ((0:Int),([]:LI))).2).length:Int)),s1 3 (.ad (.pr tI tI) (c2,tv2)),sp 9 30000,sp 10 30001,sp 11 30002,sp 13 30003,sp 14 30004,sp 18 30005,e45a42],[e45a4,e45a3 c tv over,e45a10 c2 tv2,e45a1 c3 c,e45a14,hB 30005 [.pI n],e45a9 l6160,e45a0 c0 c1 c22 c3 c4,e45a8 l70001]⟩:St)) (by kernel_rfl) ?_
    refine rqT 2 ⟨6,[s1 4 (.fn 84 [(⟨tI,(((c3.getD (c).toNat ((0:Int),([]:LI))).2).length:Int)⟩:Dat),(⟨(.pr tI tI),(c2,tv2)⟩:Dat)]),sp 9 30000,sp 10 30001,sp 11 30002,sp 13 30003,sp 14 30004,sp 18 30005,e45a42],[e45a4,e45a3 c tv over,e45a10 c2 tv2,e45a1 c3 c,e45a14,hB 30005 [.pI n],e45a9 l6160,e45a0 c0 c1 c22 c3 c4,e45a8 l70001]⟩ (by kernel_rfl) ?_
    refine nn ?_
    refine aw_ret ?_
    refine inlR_r (ob:=True) (.v (.c (.fn 84 [(⟨tI,(((c3.getD (c).toNat ((0:Int),([]:LI))).2).length:Int)⟩:Dat),(⟨(.pr tI tI),(c2,tv2)⟩:Dat)]))) (by kernel_rfl) trivial rfl ?_
    refine lpr (st':=(⟨127,[e45a35,sp 4 30001,sp 5 30002,e45a36,sp 8 30004,e45a25,s1 77 (.fn 84 [(⟨tI,(((c3.getD (c).toNat ((0:Int),([]:LI))).2).length:Int)⟩:Dat),(⟨(.pr tI tI),(c2,tv2)⟩:Dat)]),e45a13],[e45a4,e45a3 c tv over,e45a10 c2 tv2,e45a1 c3 c,e45a14,hB 30005 [.pI n],e45a9 l6160,e45a0 c0 c1 c22 c3 c4,e45a8 l70001]⟩:St)) (by kernel_rfl) ?_
    refine nn ?_
    refine withJoin (σ:=Int×LK) (fun s=>(⟨127,[e45a35,sp 4 30001,sp 5 30002,e45a36,sp 8 30004,e45a25,e45a13],[e45a4,e45a3 c tv over,e45a10 c2 tv2,e45a1 c3 c,e45a14,hB 30005 [.pI s.1],e45a9 l6160,e45a0 c0 c1 c22 c3 c4,(70001,[],.dict (.pr tI t3) tI s.2)]⟩:St)) (fun s=>VCc61_k3 c0 c1 c22 c3 c4 R c tv c2 K l6160 s.1 s.2) (fun s h=>?_) (fun rest3=>?_)
    ·obtain ⟨n2,l700012⟩:=s
     have h:VCc61_k3 c0 c1 c22 c3 c4 R c tv c2 K l6160 n2 l700012:=h
     unfold VCc61_k3 at h
     refine thenQ_n ?_
     refine sr ?_
     refine rqT 3 ⟨127,[e45a35,sp 4 30001,e45a36,e45a25,sI 93 c2,s1 94 (.own 30006),e45a13],[e45a4,e45a3 c tv over,e45a1 c3 c,hB 30005 [.pI n2],e45a9 l6160,e45a0 c0 c1 c22 c3 c4,e45a34 l700012]⟩ (by kernel_rfl) ?_
     refine awl_conv [.freeze 30006] (st':=(⟨127,[e45a35,sp 4 30001,e45a36,e45a25,sI 93 c2,s1 94 (.pS l6160),e45a13],[e45a4,e45a3 c tv over,e45a1 c3 c,hB 30005 [.pI n2],e45a0 c0 c1 c22 c3 c4,e45a34 l700012]⟩:St)) (by kernel_rfl) ?_
     refine lcq (d:=95) [.d tI,.d (.sl tI)] (fun ret95v=>(⟨127,[e45a35,sp 4 30001,e45a36,e45a25,s1 95 (.p (.sl (.pr tI tI)) ret95v),e45a13],[e45a4,e45a3 c tv over,e45a1 c3 c,hB 30005 [.pI n2],e45a0 c0 c1 c22 c3 c4,e45a34 l700012]⟩:St)) (by kernel_rfl) Try.call70 (fun _=>by kernel_rfl) (link70 c2 l6160 _ h) (fun ret95v h=>?_)
     refine rqT 1 ⟨127,[e45a35,sp 4 30001,e45a36,e45a25,e45a6 ret95v,e45a13],[e45a4,e45a3 c tv over,e45a1 c3 c,hB 30005 [.pI n2],e45a0 c0 c1 c22 c3 c4,e45a34 l700012]⟩ (by kernel_rfl) ?_
     refine nn ?_
     refine aw_seq ?_
     refine srn 4 ⟨127,[e45a35,e45a36,e45a25,e45a6 ret95v,e45a23 tv,e45a24 tv,sI 99 (0:Int),e45a13],[e45a4,e45a1 c3 c,hB 30005 [.pI n2],e45a0 c0 c1 c22 c3 c4,e45a34 l700012]⟩ (by kernel_rfl) rfl ?_
     refine withJoin (σ:=Int×LK) (fun s=>(⟨127,[e45a25,e45a13],[hB 30005 [.pI s.1],e45a0 c0 c1 c22 c3 c4,(70001,[],.dict (.pr tI t3) tI s.2)]⟩:St)) (fun s=>VCc61_k4 K s.1 s.2) (fun s h=>?_) (fun rest1=>?_)
     ·obtain ⟨n3,l700013⟩:=s
      have h:VCc61_k4 K n3 l700013:=h
      unfold VCc61_k4 at h
      refine thenQ_n ?_
      refine srn 2 ⟨127,[sI 6 n3,e45a13],[e45a0 c0 c1 c22 c3 c4,e45a29 l700013]⟩ (by kernel_rfl) rfl ?_
      refine aw_ret ?_
      exact lret_r (σ:=Int×LK) (A:=fun y=>.v (.c (.pI y.1))) (H:=fun y=>[e45a0 c0 c1 c22 c3 c4,(70001,[],.dict (.pr tI t3) tI y.2)]) (ob:=True) (n3,l700013) (by kernel_rfl) trivial rfl (by kernel_rfl) (by kernel_rfl) (by kernel_rfl) h
     ·refine aw_block ?_
      refine aw_loop (σ:=Int×Int×LK) (fun s=>(⟨127,[e45a35,e45a36,e45a25,e45a6 ret95v,e45a23 tv,e45a24 tv,sI 99 s.1,e45a13],[e45a4,e45a1 c3 c,hB 30005 [.pI s.2.1],e45a0 c0 c1 c22 c3 c4,(70001,[],.dict (.pr tI t3) tI s.2.2)]⟩:St)) (fun s X=>VCc61_l1 c0 c1 c22 c3 c4 R c tv K ret95v s.1 s.2.1 s.2.2 X) (s0:=((0:Int),n2,l700012)) (fun s X1 h=>?_) h
      obtain ⟨v99,n3,l700013⟩:=s
      have h:VCc61_l1 c0 c1 c22 c3 c4 R c tv K ret95v v99 n3 l700013 X1:=h
      unfold VCc61_l1 at h
      refine srn 1 ⟨127,[e45a35,e45a36,e45a25,e45a6 ret95v,e45a23 tv,e45a24 tv,sI 99 v99,sB 100 (decide (v99<(tv.length:Int))),e45a13],[e45a4,e45a1 c3 c,e45a38 n3,e45a0 c0 c1 c22 c3 c4,e45a29 l700013]⟩ (by kernel_rfl) rfl ?_
      refine aw_seq ?_
      refine aw_cond (b:=(decide (v99<(tv.length:Int)))) (by kernel_rfl) (fun hb=>?_) (fun hb=>?_)
      ·have h:=h.1 hb
       refine aw_skip ?_
       refine thenQ_n ?_
       refine aw_seq ?_
       refine aw_block ?_
       refine sr ?_
       obtain ⟨o1,h⟩:=h
       refine rq 6 (ob:=(Ts 1 (inIdx v99 tv.length∧Ts 4 True))) (st':=(⟨127,[e45a35,e45a36,e45a25,e45a6 ret95v,sI 16 v99,sp 17 17,e45a23 tv,e45a24 tv,sI 99 v99,e45a13],[hB 17 [.pI ((tv.getD (v99).toNat (Tree.node 0 [] [])).rule),.p (.sl .tr) ((tv.getD (v99).toNat (Tree.node 0 [] [])).kids),.pS ((tv.getD (v99).toNat (Tree.node 0 [] [])).word)],e45a4,e45a1 c3 c,e45a38 n3,e45a0 c0 c1 c22 c3 c4,e45a29 l700013]⟩:St)) (by kernel_rfl) (tsI 1 ⟨o1,tsI 4 trivial⟩) ?_
       refine nn ?_
       refine withJoin (σ:=Int×LK) (fun s=>(⟨127,[e45a35,e45a36,e45a25,e45a6 ret95v,e45a23 tv,e45a24 tv,sI 99 v99,e45a13],[e45a4,e45a1 c3 c,hB 30005 [.pI s.1],e45a0 c0 c1 c22 c3 c4,(70001,[],.dict (.pr tI t3) tI s.2)]⟩:St)) (fun s=>VCc61_k5 v99 X1 s.1 s.2) (fun s h=>?_) (fun rest2=>?_)
       ·obtain ⟨n4,l700014⟩:=s
        have h:VCc61_k5 v99 X1 n4 l700014:=h
        unfold VCc61_k5 at h
        refine blockQ_n ?_
        refine thenQ_n ?_
        refine aw_region ?_
        obtain ⟨o1,h⟩:=h
        refine rq 2 (ob:=(InR (v99+(1:Int))∧Ts 1 True)) (st':=(⟨127,[e45a35,e45a36,e45a25,e45a6 ret95v,e45a23 tv,e45a24 tv,sI 99 (v99+(1:Int)),e45a13],[e45a4,e45a1 c3 c,hB 30005 [.pI n4],e45a0 c0 c1 c22 c3 c4,(70001,[],.dict (.pr tI t3) tI l700014)]⟩:St)) (by kernel_rfl) (⟨o1,tsI 1 trivial⟩) ?_
        refine awl_nil ?_
        exact thenQ_n ⟨((v99+(1:Int)),n4,l700014),rfl,h⟩
       ·refine aw_conv [.ren 17 30200] (st':=(⟨127,[e45a35,e45a36,e45a25,e45a6 ret95v,sI 16 v99,sp 17 30200,e45a23 tv,e45a24 tv,sI 99 v99,e45a13],[hB 30200 [.pI ((tv.getD (v99).toNat (Tree.node 0 [] [])).rule),.p (.sl .tr) ((tv.getD (v99).toNat (Tree.node 0 [] [])).kids),.pS ((tv.getD (v99).toNat (Tree.node 0 [] [])).word)],e45a4,e45a1 c3 c,e45a38 n3,e45a0 c0 c1 c22 c3 c4,e45a29 l700013]⟩:St)) (by kernel_rfl) ?_
        refine awd_begin [30005,70000,70001] (by kernel_rfl) ?_
        obtain ⟨o1,o2,o3,o4,o5,h⟩:=h
        refine drq (by kernel_rfl) [1,2,3,4,5,6,8,9,10,11,12,13,14,15,16,17] (ob:=(Ts 4 (inIdx v99 ret95v.length∧Ts 5 (InR (v99+(1:Int))∧(0≤(v99+(1:Int))∧(v99+(1:Int))≤(((c3.getD (c).toNat ((0:Int),([]:LI))).2).length:Int))∧Ts 2 (InR (v99+(1:Int))∧(0≤(v99+(1:Int))∧(v99+(1:Int))≤(ret95v.length:Int))∧True))))) (done':=[17,16,15,14,13,12,11,10,9,8,6,5,4,3,2,1]) (st':=(⟨127,[e45a35,e45a36,e45a25,e45a6 ret95v,e45a23 tv,e45a24 tv,sI 99 v99,sp 105 70000,e45a19 tv v99,e45a30 ret95v v99,e45a68,e45a16 c3 c v99,e45a17 ret95v v99,e45a13],[e45a4,e45a1 c3 c,e45a38 n3,e45a0 c0 c1 c22 c3 c4,e45a29 l700013]⟩:St)) (by kernel_rfl) (tsI 4 (⟨o1,tsI 5 (⟨o2,⟨o3,tsI 2 (⟨o4,⟨o5,trivial⟩⟩)⟩⟩)⟩)) ?_
        refine awd_two (i:=0) (j:=7) (by kernel_rfl) ?_ ?_
        ·have h:=h.1
         refine dsq (ob:=True) (st':=(⟨127,[e45a35,e45a36,e45a25,e45a6 ret95v,e45a23 tv,e45a24 tv,sI 99 v99,sI 104 n3,sp 105 70000,e45a19 tv v99,e45a30 ret95v v99,e45a68,e45a16 c3 c v99,e45a17 ret95v v99,e45a13],[e45a4,e45a1 c3 c,e45a38 n3,e45a0 c0 c1 c22 c3 c4,e45a29 l700013]⟩:St)) rfl (by kernel_rfl) trivial ?_
         refine awd_one (i:=7) (by kernel_rfl) ?_
         refine adop_lcall (σ:=Int×LK) [70000,70001] [70000] [.c (.ptr 70000 0),.agg [.pI ((tv.getD (v99).toNat (Tree.node 0 [] [])).rule),.p (.sl .tr) ((tv.getD (v99).toNat (Tree.node 0 [] [])).kids),.pS ((tv.getD (v99).toNat (Tree.node 0 [] [])).word)],.agg [.pI ((ret95v.getD (v99).toNat ((0:Int),(0:Int))).1),.pI ((ret95v.getD (v99).toNat ((0:Int),(0:Int))).2)]] [] (fun ret111v=>.v (.c (.pI ret111v.1))) (fun ret111v=>[e45a0 c0 c1 c22 c3 c4,e45a27 ret111v]) (_) [e45a0 c0 c1 c22 c3 c4,e45a29 l700013] (fun ret111v=>(⟨127,[sI 111 ret111v.1,e45a35,e45a36,e45a25,e45a6 ret95v,e45a23 tv,e45a24 tv,sI 99 v99,sI 104 n3,sp 105 70000,e45a19 tv v99,e45a30 ret95v v99,e45a68,e45a16 c3 c v99,e45a17 ret95v v99,e45a13],[e45a0 c0 c1 c22 c3 c4,e45a27 ret111v,e45a4,e45a1 c3 c,e45a38 n3]⟩:St)) rfl (by kernel_rfl) rfl rfl (by kernel_rfl) rfl (by kernel_rfl) Try.call61 (by kernel_rfl) (by kernel_rfl) (by kernel_rfl) (fun _ _=>rfl) (fun _=>by kernel_rfl) (hR ((tv.getD (v99).toNat (Tree.node 0 [] [])).rule) ((tv.getD (v99).toNat (Tree.node 0 [] [])).kids) ((tv.getD (v99).toNat (Tree.node 0 [] [])).word) ((ret95v.getD (v99).toNat ((0:Int),(0:Int))).1) ((ret95v.getD (v99).toNat ((0:Int),(0:Int))).2) l700013 _ h) (fun ret111v h=>?_)
         refine dpr (st':=(⟨127,[e45a35,e45a36,e45a25,e45a6 ret95v,e45a23 tv,e45a24 tv,sI 99 v99,sI 104 n3,sI 111 ret111v.1,e45a68,e45a16 c3 c v99,e45a17 ret95v v99,e45a13],[e45a4,e45a1 c3 c,e45a38 n3,e45a0 c0 c1 c22 c3 c4,e45a27 ret111v]⟩:St)) (by kernel_rfl) ?_
         refine awd_one (i:=18) (by kernel_rfl) ?_
         refine adop_lcall (σ:=Int×LK) [70000,70001] [70000] [.c (.ptr 70000 0),.c (.pS (((c3.getD (c).toNat ((0:Int),([]:LI))).2).drop ((v99+(1:Int))).toNat)),.c (.p (.sl (.pr tI tI)) (ret95v.drop ((v99+(1:Int))).toNat))] [] (fun ret122v=>.v (.c (.pI ret122v.1))) (fun ret122v=>[e45a0 c0 c1 c22 c3 c4,e45a12 ret122v]) (_) [e45a0 c0 c1 c22 c3 c4,e45a27 ret111v] (fun ret122v=>(⟨127,[sI 122 ret122v.1,e45a35,e45a36,e45a25,e45a6 ret95v,e45a23 tv,e45a24 tv,sI 99 v99,sI 104 n3,sI 111 ret111v.1,e45a68,e45a16 c3 c v99,e45a17 ret95v v99,e45a13],[e45a0 c0 c1 c22 c3 c4,e45a12 ret122v,e45a4,e45a1 c3 c,e45a38 n3]⟩:St)) rfl (by kernel_rfl) rfl rfl (by kernel_rfl) rfl (by kernel_rfl) Try.call71 (by kernel_rfl) (by kernel_rfl) (by kernel_rfl) (fun _ _=>rfl) (fun _=>by kernel_rfl) (linkcr71 c0 c1 c22 c3 c4 (((c3.getD (c).toNat ((0:Int),([]:LI))).2).drop ((v99+(1:Int))).toNat) (ret95v.drop ((v99+(1:Int))).toNat) ret111v.2 _ h) (fun ret122v h=>?_)
         refine dpr (st':=(⟨127,[e45a35,e45a36,e45a25,e45a6 ret95v,e45a23 tv,e45a24 tv,sI 99 v99,sI 104 n3,sI 111 ret111v.1,sI 122 ret122v.1,e45a13],[e45a4,e45a1 c3 c,e45a38 n3,e45a0 c0 c1 c22 c3 c4,e45a12 ret122v]⟩:St)) (by kernel_rfl) ?_
         obtain ⟨o1,o2,h⟩:=h
         refine drq (by kernel_rfl) [19,20] (ob:=(InR (ret111v.1*ret122v.1)∧InR (n3+(ret111v.1*ret122v.1))∧True)) (done':=[20,19,18,7,0,17,16,15,14,13,12,11,10,9,8,6,5,4,3,2,1]) (st':=(⟨127,[e45a35,e45a36,e45a25,e45a6 ret95v,e45a23 tv,e45a24 tv,sI 99 v99,sI 124 (n3+(ret111v.1*ret122v.1)),e45a13],[e45a4,e45a1 c3 c,e45a38 n3,e45a0 c0 c1 c22 c3 c4,e45a12 ret122v]⟩:St)) (by kernel_rfl) (⟨o1,⟨o2,trivial⟩⟩) ?_
         refine awd_one (i:=21) (by kernel_rfl) ?_
         refine dsq (ob:=True) (st':=(⟨127,[e45a35,e45a36,e45a25,e45a6 ret95v,e45a23 tv,e45a24 tv,sI 99 v99,e45a13],[e45a4,e45a1 c3 c,hB 30005 [.pI (n3+(ret111v.1*ret122v.1))],e45a0 c0 c1 c22 c3 c4,e45a12 ret122v]⟩:St)) rfl (by kernel_rfl) trivial ?_
         refine awd_done (by kernel_rfl) ?_
         exact rest2 ((n3+(ret111v.1*ret122v.1)),ret122v.2) h
        ·have h:=h.2
         refine adop_lcall (σ:=Int×LK) [70000,70001] [70000] [.c (.ptr 70000 0),.agg [.pI ((tv.getD (v99).toNat (Tree.node 0 [] [])).rule),.p (.sl .tr) ((tv.getD (v99).toNat (Tree.node 0 [] [])).kids),.pS ((tv.getD (v99).toNat (Tree.node 0 [] [])).word)],.agg [.pI ((ret95v.getD (v99).toNat ((0:Int),(0:Int))).1),.pI ((ret95v.getD (v99).toNat ((0:Int),(0:Int))).2)]] [] (fun ret111v=>.v (.c (.pI ret111v.1))) (fun ret111v=>[e45a0 c0 c1 c22 c3 c4,e45a27 ret111v]) (_) [e45a0 c0 c1 c22 c3 c4,e45a29 l700013] (fun ret111v=>(⟨127,[sI 111 ret111v.1,e45a35,e45a36,e45a25,e45a6 ret95v,e45a23 tv,e45a24 tv,sI 99 v99,sp 105 70000,e45a19 tv v99,e45a30 ret95v v99,e45a68,e45a16 c3 c v99,e45a17 ret95v v99,e45a13],[e45a0 c0 c1 c22 c3 c4,e45a27 ret111v,e45a4,e45a1 c3 c,e45a38 n3]⟩:St)) rfl (by kernel_rfl) rfl rfl (by kernel_rfl) rfl (by kernel_rfl) Try.call61 (by kernel_rfl) (by kernel_rfl) (by kernel_rfl) (fun _ _=>rfl) (fun _=>by kernel_rfl) (hR ((tv.getD (v99).toNat (Tree.node 0 [] [])).rule) ((tv.getD (v99).toNat (Tree.node 0 [] [])).kids) ((tv.getD (v99).toNat (Tree.node 0 [] [])).word) ((ret95v.getD (v99).toNat ((0:Int),(0:Int))).1) ((ret95v.getD (v99).toNat ((0:Int),(0:Int))).2) l700013 _ h) (fun ret111v h=>?_)
         refine dpr (st':=(⟨127,[e45a35,e45a36,e45a25,e45a6 ret95v,e45a23 tv,e45a24 tv,sI 99 v99,sI 111 ret111v.1,e45a68,e45a16 c3 c v99,e45a17 ret95v v99,e45a13],[e45a4,e45a1 c3 c,e45a38 n3,e45a0 c0 c1 c22 c3 c4,e45a27 ret111v]⟩:St)) (by kernel_rfl) ?_
         refine awd_two (i:=0) (j:=18) (by kernel_rfl) ?_ ?_
         ·have h:=h.1
          refine dsq (ob:=True) (st':=(⟨127,[e45a35,e45a36,e45a25,e45a6 ret95v,e45a23 tv,e45a24 tv,sI 99 v99,sI 104 n3,sI 111 ret111v.1,e45a68,e45a16 c3 c v99,e45a17 ret95v v99,e45a13],[e45a4,e45a1 c3 c,e45a38 n3,e45a0 c0 c1 c22 c3 c4,e45a27 ret111v]⟩:St)) rfl (by kernel_rfl) trivial ?_
          refine awd_one (i:=18) (by kernel_rfl) ?_
          refine adop_lcall (σ:=Int×LK) [70000,70001] [70000] [.c (.ptr 70000 0),.c (.pS (((c3.getD (c).toNat ((0:Int),([]:LI))).2).drop ((v99+(1:Int))).toNat)),.c (.p (.sl (.pr tI tI)) (ret95v.drop ((v99+(1:Int))).toNat))] [] (fun ret122v=>.v (.c (.pI ret122v.1))) (fun ret122v=>[e45a0 c0 c1 c22 c3 c4,e45a12 ret122v]) (_) [e45a0 c0 c1 c22 c3 c4,e45a27 ret111v] (fun ret122v=>(⟨127,[sI 122 ret122v.1,e45a35,e45a36,e45a25,e45a6 ret95v,e45a23 tv,e45a24 tv,sI 99 v99,sI 104 n3,sI 111 ret111v.1,e45a68,e45a16 c3 c v99,e45a17 ret95v v99,e45a13],[e45a0 c0 c1 c22 c3 c4,e45a12 ret122v,e45a4,e45a1 c3 c,e45a38 n3]⟩:St)) rfl (by kernel_rfl) rfl rfl (by kernel_rfl) rfl (by kernel_rfl) Try.call71 (by kernel_rfl) (by kernel_rfl) (by kernel_rfl) (fun _ _=>rfl) (fun _=>by kernel_rfl) (linkcr71 c0 c1 c22 c3 c4 (((c3.getD (c).toNat ((0:Int),([]:LI))).2).drop ((v99+(1:Int))).toNat) (ret95v.drop ((v99+(1:Int))).toNat) ret111v.2 _ h) (fun ret122v h=>?_)
          refine dpr (st':=(⟨127,[e45a35,e45a36,e45a25,e45a6 ret95v,e45a23 tv,e45a24 tv,sI 99 v99,sI 104 n3,sI 111 ret111v.1,sI 122 ret122v.1,e45a13],[e45a4,e45a1 c3 c,e45a38 n3,e45a0 c0 c1 c22 c3 c4,e45a12 ret122v]⟩:St)) (by kernel_rfl) ?_
          obtain ⟨o1,o2,h⟩:=h
          refine drq (by kernel_rfl) [19,20] (ob:=(InR (ret111v.1*ret122v.1)∧InR (n3+(ret111v.1*ret122v.1))∧True)) (done':=[20,19,18,0,7,17,16,15,14,13,12,11,10,9,8,6,5,4,3,2,1]) (st':=(⟨127,[e45a35,e45a36,e45a25,e45a6 ret95v,e45a23 tv,e45a24 tv,sI 99 v99,sI 124 (n3+(ret111v.1*ret122v.1)),e45a13],[e45a4,e45a1 c3 c,e45a38 n3,e45a0 c0 c1 c22 c3 c4,e45a12 ret122v]⟩:St)) (by kernel_rfl) (⟨o1,⟨o2,trivial⟩⟩) ?_
          refine awd_one (i:=21) (by kernel_rfl) ?_
          refine dsq (ob:=True) (st':=(⟨127,[e45a35,e45a36,e45a25,e45a6 ret95v,e45a23 tv,e45a24 tv,sI 99 v99,e45a13],[e45a4,e45a1 c3 c,hB 30005 [.pI (n3+(ret111v.1*ret122v.1))],e45a0 c0 c1 c22 c3 c4,e45a12 ret122v]⟩:St)) rfl (by kernel_rfl) trivial ?_
          refine awd_done (by kernel_rfl) ?_
          exact rest2 ((n3+(ret111v.1*ret122v.1)),ret122v.2) h
         ·have h:=h.2
          refine adop_lcall (σ:=Int×LK) [70000,70001] [70000] [.c (.ptr 70000 0),.c (.pS (((c3.getD (c).toNat ((0:Int),([]:LI))).2).drop ((v99+(1:Int))).toNat)),.c (.p (.sl (.pr tI tI)) (ret95v.drop ((v99+(1:Int))).toNat))] [] (fun ret122v=>.v (.c (.pI ret122v.1))) (fun ret122v=>[e45a0 c0 c1 c22 c3 c4,e45a12 ret122v]) (_) [e45a0 c0 c1 c22 c3 c4,e45a27 ret111v] (fun ret122v=>(⟨127,[sI 122 ret122v.1,e45a35,e45a36,e45a25,e45a6 ret95v,e45a23 tv,e45a24 tv,sI 99 v99,sI 111 ret111v.1,e45a68,e45a16 c3 c v99,e45a17 ret95v v99,e45a13],[e45a0 c0 c1 c22 c3 c4,e45a12 ret122v,e45a4,e45a1 c3 c,e45a38 n3]⟩:St)) rfl (by kernel_rfl) rfl rfl (by kernel_rfl) rfl (by kernel_rfl) Try.call71 (by kernel_rfl) (by kernel_rfl) (by kernel_rfl) (fun _ _=>rfl) (fun _=>by kernel_rfl) (linkcr71 c0 c1 c22 c3 c4 (((c3.getD (c).toNat ((0:Int),([]:LI))).2).drop ((v99+(1:Int))).toNat) (ret95v.drop ((v99+(1:Int))).toNat) ret111v.2 _ h) (fun ret122v h=>?_)
          refine dpr (st':=(⟨127,[e45a35,e45a36,e45a25,e45a6 ret95v,e45a23 tv,e45a24 tv,sI 99 v99,sI 111 ret111v.1,sI 122 ret122v.1,e45a13],[e45a4,e45a1 c3 c,e45a38 n3,e45a0 c0 c1 c22 c3 c4,e45a12 ret122v]⟩:St)) (by kernel_rfl) ?_
          obtain ⟨o1,h⟩:=h
          refine drq (by kernel_rfl) [19] (ob:=(InR (ret111v.1*ret122v.1)∧True)) (done':=[19,18,7,17,16,15,14,13,12,11,10,9,8,6,5,4,3,2,1]) (st':=(⟨127,[e45a35,e45a36,e45a25,e45a6 ret95v,e45a23 tv,e45a24 tv,sI 99 v99,sI 123 (ret111v.1*ret122v.1),e45a13],[e45a4,e45a1 c3 c,e45a38 n3,e45a0 c0 c1 c22 c3 c4,e45a12 ret122v]⟩:St)) (by kernel_rfl) (⟨o1,trivial⟩) ?_
          refine awd_one (i:=0) (by kernel_rfl) ?_
          refine dsq (ob:=True) (st':=(⟨127,[e45a35,e45a36,e45a25,e45a6 ret95v,e45a23 tv,e45a24 tv,sI 99 v99,sI 104 n3,sI 123 (ret111v.1*ret122v.1),e45a13],[e45a4,e45a1 c3 c,e45a38 n3,e45a0 c0 c1 c22 c3 c4,e45a12 ret122v]⟩:St)) rfl (by kernel_rfl) trivial ?_
          obtain ⟨o1,h⟩:=h
          refine drq (by kernel_rfl) [20] (ob:=(InR (n3+(ret111v.1*ret122v.1))∧True)) (done':=[20,0,19,18,7,17,16,15,14,13,12,11,10,9,8,6,5,4,3,2,1]) (st':=(⟨127,[e45a35,e45a36,e45a25,e45a6 ret95v,e45a23 tv,e45a24 tv,sI 99 v99,sI 124 (n3+(ret111v.1*ret122v.1)),e45a13],[e45a4,e45a1 c3 c,e45a38 n3,e45a0 c0 c1 c22 c3 c4,e45a12 ret122v]⟩:St)) (by kernel_rfl) (⟨o1,trivial⟩) ?_
          refine awd_one (i:=21) (by kernel_rfl) ?_
          refine dsq (ob:=True) (st':=(⟨127,[e45a35,e45a36,e45a25,e45a6 ret95v,e45a23 tv,e45a24 tv,sI 99 v99,e45a13],[e45a4,e45a1 c3 c,hB 30005 [.pI (n3+(ret111v.1*ret122v.1))],e45a0 c0 c1 c22 c3 c4,e45a12 ret122v]⟩:St)) rfl (by kernel_rfl) trivial ?_
          refine awd_done (by kernel_rfl) ?_
          exact rest2 ((n3+(ret111v.1*ret122v.1)),ret122v.2) h
      ·have h:=h.2 hb
       refine cpr (st':=(⟨127,[e45a25,e45a13],[e45a38 n3,e45a0 c0 c1 c22 c3 c4,e45a29 l700013]⟩:St)) (by kernel_rfl) ?_
       refine aw_exit ?_
       refine thenQ_x ?_
       refine thenQ_x ?_
       refine blockQ_hit ?_
       exact rest1 (n3,l700013) h
    ·refine aw_block ?_
     refine aw_cq ?_
     refine aw_rangeFunc 37100 90100 [3,4,5,7,8,12] e45an0 [.c (.ad tI (((c3.getD (c).toNat ((0:Int),([]:LI))).2).length:Int)),.c (.ad (.pr tI tI) (c2,tv2))] (by kernel_rfl) Try.call84 Try.func84 rfl rfl (by kernel_rfl) (fun _=>by kernel_rfl) (fun lr1 hps has hbd hnn=>?_)
     have hY1:∀ (a78:LI) (c7:Int) (c14:LK) (Kt:Int×LK→Prop) (Kf:(Int×Int×LK)→Prop) (h:VCc61_y1 c0 c1 c22 c3 c4 c c2 l6160 a78 c7 c14 Kt Kf),LYCalls Try.prog 37100 e45an0 e45an2 [(37100,[],.lp lr1 (0:Int) (VCc61_s1 30000 30001 30002 30003 30004 30005 c)),e45a4,e45a3 c tv over,e45a10 c2 tv2,e45a1 c3 c,e45a14,e45a39 c7,e45a9 l6160,e45a0 c0 c1 c22 c3 c4,e45a18 c14] [.c (.pS a78)] (fun av hp'=>(∃ y:Int×LK,av=.v (.c (.p .bool true))∧hp'=[(37100,[],.lp lr1 (0:Int) (VCc61_s1 30000 30001 30002 30003 30004 30005 c)),e45a4,e45a3 c tv over,e45a10 c2 tv2,e45a1 c3 c,e45a14,hB 30005 [.pI y.1],e45a9 l6160,e45a0 c0 c1 c22 c3 c4,(70001,[],.dict (.pr tI t3) tI y.2)]∧Kt y)∨(∃ y:Int×Int×LK,av=.v (.c (.p .bool false))∧hp'=[(37100,[],.lp lr1 y.1 (VCc61_s1 30000 30001 30002 30003 30004 30005 c)),e45a4,e45a3 c tv over,e45a10 c2 tv2,e45a1 c3 c,e45a14,hB 30005 [.pI y.2.1],e45a9 l6160,e45a0 c0 c1 c22 c3 c4,(70001,[],.dict (.pr tI t3) tI y.2.2)]∧Kf y)):=by
      intro a78 c7 c14 Kt Kf h
      refine lyield_of_aw (sl:=VCc61_s1 30000 30001 30002 30003 30004 30005 c) (hp1:=[e45a4,e45a3 c tv over,e45a10 c2 tv2,e45a1 c3 c,e45a14,e45a39 c7,e45a9 l6160,e45a0 c0 c1 c22 c3 c4,e45a18 c14]) e45an0 e45an2 e45an1 [30000,30001,30002,30003,30004,30005,70000] hps has hbd hnn (by kernel_rfl) (by kernel_rfl) (by decide) (by kernel_rfl) (by kernel_rfl) (by kernel_rfl) (by kernel_rfl) ?_
      refine aw_conv [] (st':=(⟨127,[s1 78 (.pS a78),e45a35,sp 4 30001,sp 5 30002,e45a36,sp 8 30004,e45a25,e45a49,e45a50,e45a51,e45a52,e45a53,e45a54,e45a42],[e45a4,e45a3 c tv over,e45a10 c2 tv2,e45a1 c3 c,e45a14,e45a39 c7,e45a9 l6160,e45a0 c0 c1 c22 c3 c4,e45a18 c14]⟩:St)) (by kernel_rfl) ?_
      unfold VCc61_y1 at h
      refine aw_region ?_
      refine rqT 1 ⟨127,[e45a35,sp 5 30002,e45a36,sp 8 30004,e45a25,s1 14 (.pS a78),e45a49,e45a50,e45a51,e45a52,e45a53,e45a54,e45a42],[e45a4,e45a3 c tv over,e45a10 c2 tv2,e45a1 c3 c,e45a14,e45a39 c7,e45a9 l6160,e45a0 c0 c1 c22 c3 c4,e45a18 c14]⟩ (by kernel_rfl) ?_
      refine awl_nil ?_
      refine asgQ_n ?_
      refine aw_block ?_
      refine aw_seq ?_
      refine sr ?_
      refine rqT 2 ⟨127,[e45a35,sp 5 30002,e45a36,e45a25,s1 14 (.pS a78),s1 79 (.pS a78),s1 80 (.own 30006),e45a49,e45a50,e45a51,e45a52,e45a53,e45a54,e45a42],[e45a4,e45a3 c tv over,e45a10 c2 tv2,e45a1 c3 c,e45a14,e45a39 c7,e45a9 l6160,e45a0 c0 c1 c22 c3 c4,e45a18 c14]⟩ (by kernel_rfl) ?_
      refine awl_callk (p:=[]) (l:=[toV1 (.sl tI) a78,toV1 (.sl tI) l6160]) (cl:=[]) true [.d (.sl tI),.d (.sl tI)] [3,5,7,12,14,81,127,128,129,130,131,132,133] e45an1 (fun (ret81v:Bool)=>((ret81v=true→Kf ((6:Int),c7,c14))∧(ret81v=false→VC70 c2 a78 (fun (ret89v:(List (Int×Int)))=>VCcr71 c0 c1 c22 c3 c4 ((c3.getD (c).toNat ((0:Int),([]:LI))).2) ret89v c14 (fun (ret90v:Int×LK)=>(InR (c7+ret90v.1)∧VCc61_k6 Kt (c7+ret90v.1) ret90v.2)))))) (fun ret81v=>[toV1 .bool ret81v]) (fun ret81v=>(⟨127,[e45a35,sp 5 30002,e45a36,e45a25,s1 14 (.pS a78),sB 81 ret81v,e45a49,e45a50,e45a51,e45a52,e45a53,e45a54,e45a42],[e45a4,e45a3 c tv over,e45a10 c2 tv2,e45a1 c3 c,e45a14,e45a39 c7,e45a9 l6160,e45a0 c0 c1 c22 c3 c4,e45a18 c14]⟩:St)) (by kernel_rfl) rfl (by kernel_rfl) rfl (by kernel_rfl) Try.call60 (by kernel_rfl) (fun ret81v=>by kernel_rfl) (fun _ _=>rfl) (fun hg=>link60 a78 l6160 _ h) (fun hg=>noF hg) (fun ret81v h=>?_)
      refine nn ?_
      refine aw_cond (b:=ret81v) (by kernel_rfl) (fun hb=>?_) (fun hb=>?_)
      ·have h:=h.1 hb
       refine cpr (st':=(⟨127,[e45a49,e45a50,e45a51,e45a52,e45a53,e45a54,e45a42],[e45a4,e45a3 c tv over,e45a10 c2 tv2,e45a1 c3 c,e45a14,e45a39 c7,e45a9 l6160,e45a0 c0 c1 c22 c3 c4,e45a18 c14]⟩:St)) (by kernel_rfl) ?_
       refine aw_exit ?_
       refine thenQ_x ?_
       refine blockQ_miss rfl ?_
       exact yret_x ((6:Int),c7,c14) (by kernel_rfl) (by kernel_rfl) h
      ·have h:=h.2 hb
       refine aw_skip ?_
       refine thenQ_n ?_
       refine withJoin (σ:=Int×LK) (fun s=>(⟨127,[e45a49,e45a50,e45a51,e45a52,e45a53,e45a54,e45a42],[e45a4,e45a3 c tv over,e45a10 c2 tv2,e45a1 c3 c,e45a14,hB 30005 [.pI s.1],e45a9 l6160,e45a0 c0 c1 c22 c3 c4,(70001,[],.dict (.pr tI t3) tI s.2)]⟩:St)) (fun s=>VCc61_k6 Kt s.1 s.2) (fun s h=>?_) (fun rest4=>?_)
       ·obtain ⟨l30005,l700012⟩:=s
        have h:VCc61_k6 Kt l30005 l700012:=h
        unfold VCc61_k6 at h
        refine blockQ_n ?_
        exact yret_n (l30005,l700012) (by kernel_rfl) (by kernel_rfl) h
       ·refine awd_begin [30005,70000,70001] (by kernel_rfl) ?_
        refine drq (by kernel_rfl) [1,2,3,4,5,6] (ob:=(Ts 6 True)) (done':=[6,5,4,3,2,1]) (st':=(⟨127,[e45a25,sp 83 70000,e45a31 c3 c,sI 87 c2,s1 88 (.pS a78),e45a49,e45a50,e45a51,e45a52,e45a53,e45a54,e45a42],[e45a4,e45a3 c tv over,e45a10 c2 tv2,e45a1 c3 c,e45a14,e45a39 c7,e45a9 l6160,e45a0 c0 c1 c22 c3 c4,e45a18 c14]⟩:St)) (by kernel_rfl) (tsI 6 trivial) ?_
        refine awd_two (i:=0) (j:=7) (by kernel_rfl) ?_ ?_
        ·have h:=h
         refine dsq (ob:=True) (st':=(⟨127,[e45a25,sI 82 c7,sp 83 70000,e45a31 c3 c,sI 87 c2,s1 88 (.pS a78),e45a49,e45a50,e45a51,e45a52,e45a53,e45a54,e45a42],[e45a4,e45a3 c tv over,e45a10 c2 tv2,e45a1 c3 c,e45a14,e45a39 c7,e45a9 l6160,e45a0 c0 c1 c22 c3 c4,e45a18 c14]⟩:St)) rfl (by kernel_rfl) trivial ?_
         refine awd_one (i:=7) (by kernel_rfl) ?_
         refine dcq (d:=89) [.d tI,.d (.sl tI)] (fun ret89v=>(⟨127,[e45a25,sI 82 c7,sp 83 70000,e45a31 c3 c,e45a45 ret89v,e45a49,e45a50,e45a51,e45a52,e45a53,e45a54,e45a42],[e45a4,e45a3 c tv over,e45a10 c2 tv2,e45a1 c3 c,e45a14,e45a39 c7,e45a9 l6160,e45a0 c0 c1 c22 c3 c4,e45a18 c14]⟩:St)) rfl (by kernel_rfl) Try.call70 (fun _=>by kernel_rfl) (link70 c2 a78 _ h) (fun ret89v h=>?_)
         refine awd_one (i:=8) (by kernel_rfl) ?_
         refine adop_lcall (σ:=Int×LK) [70000,70001] [70000] [.c (.ptr 70000 0),.c (.pS ((c3.getD (c).toNat ((0:Int),([]:LI))).2)),.c (.p (.sl (.pr tI tI)) ret89v)] [] (fun ret90v=>.v (.c (.pI ret90v.1))) (fun ret90v=>[e45a0 c0 c1 c22 c3 c4,e45a15 ret90v]) (_) [e45a0 c0 c1 c22 c3 c4,e45a18 c14] (fun ret90v=>(⟨127,[sI 90 ret90v.1,e45a25,sI 82 c7,sp 83 70000,e45a31 c3 c,e45a45 ret89v,e45a49,e45a50,e45a51,e45a52,e45a53,e45a54,e45a42],[e45a0 c0 c1 c22 c3 c4,e45a15 ret90v,e45a4,e45a3 c tv over,e45a10 c2 tv2,e45a1 c3 c,e45a14,e45a39 c7,e45a9 l6160]⟩:St)) rfl (by kernel_rfl) rfl rfl (by kernel_rfl) rfl (by kernel_rfl) Try.call71 (by kernel_rfl) (by kernel_rfl) (by kernel_rfl) (fun _ _=>rfl) (fun _=>by kernel_rfl) (linkcr71 c0 c1 c22 c3 c4 ((c3.getD (c).toNat ((0:Int),([]:LI))).2) ret89v c14 _ h) (fun ret90v h=>?_)
         refine dpr (st':=(⟨127,[e45a25,sI 82 c7,sI 90 ret90v.1,e45a49,e45a50,e45a51,e45a52,e45a53,e45a54,e45a42],[e45a4,e45a3 c tv over,e45a10 c2 tv2,e45a1 c3 c,e45a14,e45a39 c7,e45a9 l6160,e45a0 c0 c1 c22 c3 c4,e45a15 ret90v]⟩:St)) (by kernel_rfl) ?_
         obtain ⟨o1,h⟩:=h
         refine drq (by kernel_rfl) [9] (ob:=(InR (c7+ret90v.1)∧True)) (done':=[9,8,7,0,6,5,4,3,2,1]) (st':=(⟨127,[e45a25,sI 91 (c7+ret90v.1),e45a49,e45a50,e45a51,e45a52,e45a53,e45a54,e45a42],[e45a4,e45a3 c tv over,e45a10 c2 tv2,e45a1 c3 c,e45a14,e45a39 c7,e45a9 l6160,e45a0 c0 c1 c22 c3 c4,e45a15 ret90v]⟩:St)) (by kernel_rfl) (⟨o1,trivial⟩) ?_
         refine awd_one (i:=10) (by kernel_rfl) ?_
         refine dsq (ob:=True) (st':=(⟨127,[e45a49,e45a50,e45a51,e45a52,e45a53,e45a54,e45a42],[e45a4,e45a3 c tv over,e45a10 c2 tv2,e45a1 c3 c,e45a14,hB 30005 [.pI (c7+ret90v.1)],e45a9 l6160,e45a0 c0 c1 c22 c3 c4,e45a15 ret90v]⟩:St)) rfl (by kernel_rfl) trivial ?_
         refine awd_done (by kernel_rfl) ?_
         exact rest4 ((c7+ret90v.1),ret90v.2) h
        ·have h:=h
         refine dcq (d:=89) [.d tI,.d (.sl tI)] (fun ret89v=>(⟨127,[e45a25,sp 83 70000,e45a31 c3 c,e45a45 ret89v,e45a49,e45a50,e45a51,e45a52,e45a53,e45a54,e45a42],[e45a4,e45a3 c tv over,e45a10 c2 tv2,e45a1 c3 c,e45a14,e45a39 c7,e45a9 l6160,e45a0 c0 c1 c22 c3 c4,e45a18 c14]⟩:St)) rfl (by kernel_rfl) Try.call70 (fun _=>by kernel_rfl) (link70 c2 a78 _ h) (fun ret89v h=>?_)
         refine awd_two (i:=0) (j:=8) (by kernel_rfl) ?_ ?_
         ·have h:=h
          refine dsq (ob:=True) (st':=(⟨127,[e45a25,sI 82 c7,sp 83 70000,e45a31 c3 c,e45a45 ret89v,e45a49,e45a50,e45a51,e45a52,e45a53,e45a54,e45a42],[e45a4,e45a3 c tv over,e45a10 c2 tv2,e45a1 c3 c,e45a14,e45a39 c7,e45a9 l6160,e45a0 c0 c1 c22 c3 c4,e45a18 c14]⟩:St)) rfl (by kernel_rfl) trivial ?_
          refine awd_one (i:=8) (by kernel_rfl) ?_
          refine adop_lcall (σ:=Int×LK) [70000,70001] [70000] [.c (.ptr 70000 0),.c (.pS ((c3.getD (c).toNat ((0:Int),([]:LI))).2)),.c (.p (.sl (.pr tI tI)) ret89v)] [] (fun ret90v=>.v (.c (.pI ret90v.1))) (fun ret90v=>[e45a0 c0 c1 c22 c3 c4,e45a15 ret90v]) (_) [e45a0 c0 c1 c22 c3 c4,e45a18 c14] (fun ret90v=>(⟨127,[sI 90 ret90v.1,e45a25,sI 82 c7,sp 83 70000,e45a31 c3 c,e45a45 ret89v,e45a49,e45a50,e45a51,e45a52,e45a53,e45a54,e45a42],[e45a0 c0 c1 c22 c3 c4,e45a15 ret90v,e45a4,e45a3 c tv over,e45a10 c2 tv2,e45a1 c3 c,e45a14,e45a39 c7,e45a9 l6160]⟩:St)) rfl (by kernel_rfl) rfl rfl (by kernel_rfl) rfl (by kernel_rfl) Try.call71 (by kernel_rfl) (by kernel_rfl) (by kernel_rfl) (fun _ _=>rfl) (fun _=>by kernel_rfl) (linkcr71 c0 c1 c22 c3 c4 ((c3.getD (c).toNat ((0:Int),([]:LI))).2) ret89v c14 _ h) (fun ret90v h=>?_)
          refine dpr (st':=(⟨127,[e45a25,sI 82 c7,sI 90 ret90v.1,e45a49,e45a50,e45a51,e45a52,e45a53,e45a54,e45a42],[e45a4,e45a3 c tv over,e45a10 c2 tv2,e45a1 c3 c,e45a14,e45a39 c7,e45a9 l6160,e45a0 c0 c1 c22 c3 c4,e45a15 ret90v]⟩:St)) (by kernel_rfl) ?_
          obtain ⟨o1,h⟩:=h
          refine drq (by kernel_rfl) [9] (ob:=(InR (c7+ret90v.1)∧True)) (done':=[9,8,0,7,6,5,4,3,2,1]) (st':=(⟨127,[e45a25,sI 91 (c7+ret90v.1),e45a49,e45a50,e45a51,e45a52,e45a53,e45a54,e45a42],[e45a4,e45a3 c tv over,e45a10 c2 tv2,e45a1 c3 c,e45a14,e45a39 c7,e45a9 l6160,e45a0 c0 c1 c22 c3 c4,e45a15 ret90v]⟩:St)) (by kernel_rfl) (⟨o1,trivial⟩) ?_
          refine awd_one (i:=10) (by kernel_rfl) ?_
          refine dsq (ob:=True) (st':=(⟨127,[e45a49,e45a50,e45a51,e45a52,e45a53,e45a54,e45a42],[e45a4,e45a3 c tv over,e45a10 c2 tv2,e45a1 c3 c,e45a14,hB 30005 [.pI (c7+ret90v.1)],e45a9 l6160,e45a0 c0 c1 c22 c3 c4,e45a15 ret90v]⟩:St)) rfl (by kernel_rfl) trivial ?_
          refine awd_done (by kernel_rfl) ?_
          exact rest4 ((c7+ret90v.1),ret90v.2) h
         ·have h:=h
          refine adop_lcall (σ:=Int×LK) [70000,70001] [70000] [.c (.ptr 70000 0),.c (.pS ((c3.getD (c).toNat ((0:Int),([]:LI))).2)),.c (.p (.sl (.pr tI tI)) ret89v)] [] (fun ret90v=>.v (.c (.pI ret90v.1))) (fun ret90v=>[e45a0 c0 c1 c22 c3 c4,e45a15 ret90v]) (_) [e45a0 c0 c1 c22 c3 c4,e45a18 c14] (fun ret90v=>(⟨127,[sI 90 ret90v.1,e45a25,sp 83 70000,e45a31 c3 c,e45a45 ret89v,e45a49,e45a50,e45a51,e45a52,e45a53,e45a54,e45a42],[e45a0 c0 c1 c22 c3 c4,e45a15 ret90v,e45a4,e45a3 c tv over,e45a10 c2 tv2,e45a1 c3 c,e45a14,e45a39 c7,e45a9 l6160]⟩:St)) rfl (by kernel_rfl) rfl rfl (by kernel_rfl) rfl (by kernel_rfl) Try.call71 (by kernel_rfl) (by kernel_rfl) (by kernel_rfl) (fun _ _=>rfl) (fun _=>by kernel_rfl) (linkcr71 c0 c1 c22 c3 c4 ((c3.getD (c).toNat ((0:Int),([]:LI))).2) ret89v c14 _ h) (fun ret90v h=>?_)
          refine dpr (st':=(⟨127,[e45a25,sI 90 ret90v.1,e45a49,e45a50,e45a51,e45a52,e45a53,e45a54,e45a42],[e45a4,e45a3 c tv over,e45a10 c2 tv2,e45a1 c3 c,e45a14,e45a39 c7,e45a9 l6160,e45a0 c0 c1 c22 c3 c4,e45a15 ret90v]⟩:St)) (by kernel_rfl) ?_
          refine awd_one (i:=0) (by kernel_rfl) ?_
          refine dsq (ob:=True) (st':=(⟨127,[e45a25,sI 82 c7,sI 90 ret90v.1,e45a49,e45a50,e45a51,e45a52,e45a53,e45a54,e45a42],[e45a4,e45a3 c tv over,e45a10 c2 tv2,e45a1 c3 c,e45a14,e45a39 c7,e45a9 l6160,e45a0 c0 c1 c22 c3 c4,e45a15 ret90v]⟩:St)) rfl (by kernel_rfl) trivial ?_
          obtain ⟨o1,h⟩:=h
          refine drq (by kernel_rfl) [9] (ob:=(InR (c7+ret90v.1)∧True)) (done':=[9,0,8,7,6,5,4,3,2,1]) (st':=(⟨127,[e45a25,sI 91 (c7+ret90v.1),e45a49,e45a50,e45a51,e45a52,e45a53,e45a54,e45a42],[e45a4,e45a3 c tv over,e45a10 c2 tv2,e45a1 c3 c,e45a14,e45a39 c7,e45a9 l6160,e45a0 c0 c1 c22 c3 c4,e45a15 ret90v]⟩:St)) (by kernel_rfl) (⟨o1,trivial⟩) ?_
          refine awd_one (i:=10) (by kernel_rfl) ?_
          refine dsq (ob:=True) (st':=(⟨127,[e45a49,e45a50,e45a51,e45a52,e45a53,e45a54,e45a42],[e45a4,e45a3 c tv over,e45a10 c2 tv2,e45a1 c3 c,e45a14,hB 30005 [.pI (c7+ret90v.1)],e45a9 l6160,e45a0 c0 c1 c22 c3 c4,e45a15 ret90v]⟩:St)) rfl (by kernel_rfl) trivial ?_
          refine awd_done (by kernel_rfl) ?_
          exact rest4 ((c7+ret90v.1),ret90v.2) h
     refine aw_conv [] (st':=(⟨8,[s1 0 (.yv 37100),e45a55 c3 c,e45a67 c2 tv2,e45a61,sp 11 30000,sp 12 30001,sp 13 30002,sp 15 30003,sp 16 30004,sp 20 30005,s1 85 (.fn 84 [(⟨tI,(((c3.getD (c).toNat ((0:Int),([]:LI))).2).length:Int)⟩:Dat),(⟨(.pr tI tI),(c2,tv2)⟩:Dat)]),sp 135 70000],[(37100,[],.lp lr1 (0:Int) (VCc61_s1 30000 30001 30002 30003 30004 30005 c)),e45a4,e45a3 c tv over,e45a10 c2 tv2,e45a1 c3 c,e45a14,hB 30005 [.pI n],e45a9 l6160,e45a0 c0 c1 c22 c3 c4,e45a8 l70001]⟩:St)) (by kernel_rfl) ?_
     refine sr ?_
     refine rqT 1 ⟨8,[e45a55 c3 c,e45a67 c2 tv2,sp 3 3,sp 11 30000,sp 12 30001,sp 13 30002,sp 15 30003,sp 16 30004,sp 20 30005,sp 135 70000,e45a61],[hB 3 [.yv 37100],e45a4,e45a3 c tv over,e45a10 c2 tv2,e45a1 c3 c,e45a14,hB 30005 [.pI n],e45a9 l6160,(37100,[],.lp lr1 (0:Int) (VCc61_s1 30000 30001 30002 30003 30004 30005 c)),e45a0 c0 c1 c22 c3 c4,e45a8 l70001]⟩ (by kernel_rfl) ?_
     refine nsr ?_
     refine rqT 1 ⟨8,[e45a55 c3 c,e45a67 c2 tv2,sp 3 3,sp 4 4,sp 11 30000,sp 12 30001,sp 13 30002,sp 15 30003,sp 16 30004,sp 20 30005,sp 135 70000,e45a61],[hB 3 [.yv 37100],hB 4 [.any],e45a4,e45a3 c tv over,e45a10 c2 tv2,e45a1 c3 c,e45a14,hB 30005 [.pI n],e45a9 l6160,(37100,[],.lp lr1 (0:Int) (VCc61_s1 30000 30001 30002 30003 30004 30005 c)),e45a0 c0 c1 c22 c3 c4,e45a8 l70001]⟩ (by kernel_rfl) ?_
     refine nsr ?_
     refine rqT 2 ⟨8,[sp 4 4,sp 11 30000,sp 12 30001,sp 13 30002,sp 15 30003,sp 16 30004,sp 20 30005,sp 135 70000,e45a61],[hB 3 [.yv 37100],e45a44 c3 c c2 tv2,e45a4,e45a3 c tv over,e45a10 c2 tv2,e45a1 c3 c,e45a14,hB 30005 [.pI n],e45a9 l6160,(37100,[],.lp lr1 (0:Int) (VCc61_s1 30000 30001 30002 30003 30004 30005 c)),e45a0 c0 c1 c22 c3 c4,e45a8 l70001]⟩ (by kernel_rfl) ?_
     refine nn ?_
     refine aw_region ?_
     refine rqT 1 ⟨8,[s1 6 (.cl 85 [.ad ⟨tI,(((c3.getD (c).toNat ((0:Int),([]:LI))).2).length:Int)⟩,.pt 3 0,.ad ⟨(.pr tI tI),(c2,tv2)⟩,.pt 4 0]),sp 11 30000,sp 12 30001,sp 13 30002,sp 15 30003,sp 16 30004,sp 20 30005,sp 135 70000,e45a61],[hB 3 [.yv 37100],e45a44 c3 c c2 tv2,e45a4,e45a3 c tv over,e45a10 c2 tv2,e45a1 c3 c,e45a14,hB 30005 [.pI n],e45a9 l6160,(37100,[],.lp lr1 (0:Int) (VCc61_s1 30000 30001 30002 30003 30004 30005 c)),e45a0 c0 c1 c22 c3 c4,e45a8 l70001]⟩ (by kernel_rfl) ?_
     refine awl_conv [.ren 3 41800,.ren 4 41811] (st':=(⟨8,[e45a41 c3 c c2 tv2,sp 11 30000,sp 12 30001,sp 13 30002,sp 15 30003,sp 16 30004,sp 20 30005,sp 135 70000,e45a61],[hB 41800 [.yv 37100],e45a20 c3 c c2 tv2,e45a4,e45a3 c tv over,e45a10 c2 tv2,e45a1 c3 c,e45a14,hB 30005 [.pI n],e45a9 l6160,(37100,[],.lp lr1 (0:Int) (VCc61_s1 30000 30001 30002 30003 30004 30005 c)),e45a0 c0 c1 c22 c3 c4,e45a8 l70001]⟩:St)) (by kernel_rfl) ?_
     refine awl_lcall (σ:=Bool×Int×LK×Int) [41800,37100,30000,70000,70001,30001,30002,30003,30004,30006,30005,41811] [41800,37100,30000,70000,30001,30002,30003,30004,30005,41811] [.c (.nils)] [.c (.ad tI (((c3.getD (c).toNat ((0:Int),([]:LI))).2).length:Int)),.c (.ptr 41800 0),.c (.ad (.pr tI tI) (c2,tv2)),.c (.ptr 41811 0)] (fun ret7v=>.v (.c (.pB ret7v.1))) (fun ret7v=>[hB 41800 [.yv 37100],(37100,[],.lp lr1 ret7v.2.1 (VCc61_s1 30000 30001 30002 30003 30004 30005 c)),e45a4,e45a0 c0 c1 c22 c3 c4,e45a46 ret7v,e45a3 c tv over,e45a10 c2 tv2,e45a1 c3 c,e45a14,e45a9 l6160,hB 30005 [.pI ret7v.2.2.2],e45a20 c3 c c2 tv2]) (_) [hB 41800 [.yv 37100],(37100,[],.lp lr1 (0:Int) (VCc61_s1 30000 30001 30002 30003 30004 30005 c)),e45a4,e45a0 c0 c1 c22 c3 c4,e45a8 l70001,e45a3 c tv over,e45a10 c2 tv2,e45a1 c3 c,e45a14,e45a9 l6160,hB 30005 [.pI n],e45a20 c3 c c2 tv2] (fun ret7v=>(⟨8,[sB 7 ret7v.1,e45a41 c3 c c2 tv2,sp 11 30000,sp 12 30001,sp 13 30002,sp 15 30003,sp 16 30004,sp 20 30005,sp 135 70000,e45a61],[hB 41800 [.yv 37100],(37100,[],.lp lr1 ret7v.2.1 (VCc61_s1 30000 30001 30002 30003 30004 30005 c)),e45a4,e45a0 c0 c1 c22 c3 c4,e45a46 ret7v,e45a3 c tv over,e45a10 c2 tv2,e45a1 c3 c,e45a14,e45a9 l6160,hB 30005 [.pI ret7v.2.2.2],e45a20 c3 c c2 tv2]⟩:St)) rfl rfl (by kernel_rfl) rfl (by kernel_rfl) Try.call85 (by kernel_rfl) (by kernel_rfl) (by kernel_rfl) (fun _ _=>rfl) (fun _=>by kernel_rfl) (lcalls_nil [some tI] (linkcr85y9 lr1 c (((c3.getD (c).toNat ((0:Int),([]:LI))).2).length:Int) (c2,tv2) c0 c1 c22 c3 c4 c tv over c2 tv2 ((c3.getD (c).toNat ((0:Int),([]:LI))).1) ((c3.getD (c).toNat ((0:Int),([]:LI))).2) l6160 (VCc61_y1 c0 c1 c22 c3 c4 c c2 l6160) hY1 ([]:List Int) (0:Int) l70001 n _ h)) (fun ret7v h=>?_)
     refine lpr (st':=(⟨8,[sp 11 30000,sp 12 30001,sp 13 30002,sp 15 30003,sp 16 30004,sp 20 30005,sp 135 70000,e45a61],[e45a4,e45a3 c tv over,e45a10 c2 tv2,e45a1 c3 c,e45a14,hB 30005 [.pI ret7v.2.2.2],e45a9 l6160,(37100,[],.lp lr1 ret7v.2.1 (VCc61_s1 30000 30001 30002 30003 30004 30005 c)),e45a0 c0 c1 c22 c3 c4,e45a46 ret7v]⟩:St)) (by kernel_rfl) ?_
     refine awl_nil ?_
     refine rfQ_n ret7v.2.1 (VCc61_s1 30000 30001 30002 30003 30004 30005 c) rfl (by kernel_rfl) (by kernel_rfl) ⟨fun hk=>?_,fun hk0 hk=>?_,fun hk0 hk1=>?_⟩
     ·have h:=h.1 (decide_eq_true hk)
      refine cq [] (s':=(⟨127,[e45a35,sp 4 30001,sp 5 30002,e45a36,sp 8 30004,e45a25,e45a13],[e45a4,e45a3 c tv over,e45a10 c2 tv2,e45a1 c3 c,e45a14,hB 30005 [.pI ret7v.2.2.2],e45a9 l6160,e45a0 c0 c1 c22 c3 c4,e45a46 ret7v]⟩:St)) (by kernel_rfl) ?_
      refine blockQ_n ?_
      exact rest3 (ret7v.2.2.2,ret7v.2.2.1) h
     ·have h:=h.2 (decide_eq_false hk0)
      obtain ⟨hk2,h⟩:=h
      exact absurd (hk2.symm.trans hk) (by decide)
     ·have h:=h.2 (decide_eq_false hk0)
      obtain ⟨hk2,h⟩:=h
      refine ⟨4,by rw [hk2];rfl,?_⟩
      refine cq [] (s':=(⟨127,[e45a35,sp 4 30001,sp 5 30002,e45a36,sp 8 30004,e45a25,e45a13],[e45a4,e45a3 c tv over,e45a10 c2 tv2,e45a1 c3 c,e45a14,hB 30005 [.pI ret7v.2.2.2],e45a9 l6160,e45a0 c0 c1 c22 c3 c4,e45a46 ret7v]⟩:St)) (by kernel_rfl) ?_
      refine blockQ_hit ?_
      exact rest3 (ret7v.2.2.2,ret7v.2.2.1) h
   ·refine aw_block ?_
    refine aw_loop (σ:=Int×Int×LK) (fun s=>(⟨127,[sp 3 3,sp 4 4,sp 5 5,sp 7 7,sp 8 8,sp 12 12,sI 50 c,sI 51 s.1,e45a13],[e45a28,e45a11 c tv over,e45a26 c2 tv2,e45a2 c3 c,e45a48,hB 12 [.pI s.2.1],e45a37 l6160,e45a0 c0 c1 c22 c3 c4,(70001,[],.dict (.pr tI t3) tI s.2.2)]⟩:St)) (fun s X=>VCc61_l2 c0 c1 c22 c3 c4 R c tv over c2 tv2 K l6160 s.1 s.2.1 s.2.2 X) (s0:=((0:Int),(0:Int),c5)) (fun s X2 h=>?_) h
    obtain ⟨v51,n,l70001⟩:=s
    have h:VCc61_l2 c0 c1 c22 c3 c4 R c tv over c2 tv2 K l6160 v51 n l70001 X2:=h
    unfold VCc61_l2 at h
    refine srn 1 ⟨127,[sp 3 3,sp 4 4,sp 5 5,sp 7 7,sp 8 8,sp 12 12,sI 50 c,sI 51 v51,sB 52 (decide (v51<c)),e45a13],[e45a28,e45a11 c tv over,e45a26 c2 tv2,e45a2 c3 c,e45a48,hB 12 [.pI n],e45a37 l6160,e45a0 c0 c1 c22 c3 c4,e45a8 l70001]⟩ (by kernel_rfl) rfl ?_
    refine aw_seq ?_
    refine aw_cond (b:=(decide (v51<c))) (by kernel_rfl) (fun hb=>?_) (fun hb=>?_)
    ·have h:=h.1 hb
     refine aw_skip ?_
     refine thenQ_n ?_
     refine aw_seq ?_
     refine aw_block ?_
     refine srn 2 ⟨127,[sp 3 3,sp 4 4,sp 5 5,sp 7 7,sp 8 8,sp 12 12,sI 13 v51,sI 50 c,sI 51 v51,e45a13],[e45a28,e45a11 c tv over,e45a26 c2 tv2,e45a2 c3 c,e45a48,hB 12 [.pI n],e45a37 l6160,e45a0 c0 c1 c22 c3 c4,e45a8 l70001]⟩ (by kernel_rfl) rfl ?_
     refine aw_seq ?_
     refine awd_begin [] (by kernel_rfl) ?_
     obtain ⟨o1,h⟩:=h
     refine drq (by kernel_rfl) [0,1,2,3,4,5,6,7,8,9,10,11] (ob:=(Ts 6 (inIdx v51 c3.length∧Ts 5 True))) (done':=[11,10,9,8,7,6,5,4,3,2,1,0]) (st':=(⟨127,[sp 3 3,sp 4 4,sp 5 5,sp 7 7,sp 8 8,sp 12 12,sI 13 v51,sI 50 c,sI 51 v51,e45a57 c3 v51 c,e45a13],[e45a28,e45a11 c tv over,e45a26 c2 tv2,e45a2 c3 c,e45a48,hB 12 [.pI n],e45a37 l6160,e45a0 c0 c1 c22 c3 c4,e45a8 l70001]⟩:St)) (by kernel_rfl) (tsI 6 ⟨o1,tsI 5 trivial⟩) ?_
     refine awd_done (by kernel_rfl) ?_
     refine thenQ_n ?_
     refine withJoin (σ:=Int×LK) (fun s=>(⟨127,[e45a62,e45a63,e45a64,e45a65,e45a66,e45a60,sI 50 c,sI 51 v51,e45a13],[e45a40,e45a21 c tv over,e45a33 c2 tv2,e45a5 c3 c,e45a43,hB 30505 [.pI s.1],e45a32 l6160,e45a0 c0 c1 c22 c3 c4,(70001,[],.dict (.pr tI t3) tI s.2)]⟩:St)) (fun s=>VCc61_k7 v51 X2 s.1 s.2) (fun s h=>?_) (fun rest6=>?_)
     ·obtain ⟨n2,l700012⟩:=s
      have h:VCc61_k7 v51 X2 n2 l700012:=h
      unfold VCc61_k7 at h
      refine blockQ_n ?_
      refine thenQ_n ?_
      refine aw_region ?_
      obtain ⟨o1,h⟩:=h
      refine rq 2 (ob:=(InR (v51+(1:Int))∧Ts 1 True)) (st':=(⟨127,[e45a62,e45a63,e45a64,e45a65,e45a66,e45a60,sI 50 c,sI 51 (v51+(1:Int)),e45a13],[e45a40,e45a21 c tv over,e45a33 c2 tv2,e45a5 c3 c,e45a43,hB 30505 [.pI n2],e45a32 l6160,e45a0 c0 c1 c22 c3 c4,e45a34 l700012]⟩:St)) (by kernel_rfl) (⟨o1,tsI 1 trivial⟩) ?_
      refine awl_conv [.ren 30500 50500,.ren 30501 50501,.ren 30502 50502,.ren 30503 50503,.ren 30504 50504,.ren 30506 50506,.ren 30505 50505,.ren 50500 3,.ren 50501 4,.ren 50502 5,.ren 50503 7,.ren 50504 8,.ren 50506 6160,.ren 50505 12] (st':=(⟨127,[sp 3 3,sp 4 4,sp 5 5,sp 7 7,sp 8 8,sp 12 12,sI 50 c,sI 51 (v51+(1:Int)),e45a13],[e45a28,e45a11 c tv over,e45a26 c2 tv2,e45a2 c3 c,e45a48,hB 12 [.pI n2],e45a37 l6160,e45a0 c0 c1 c22 c3 c4,e45a34 l700012]⟩:St)) (by kernel_rfl) ?_
      refine awl_nil ?_
      exact thenQ_n ⟨((v51+(1:Int)),n2,l700012),rfl,h⟩
     ·refine aw_cond (b:=(decide ((c3.getD (v51).toNat ((0:Int),([]:LI))).1=(c3.getD (c).toNat ((0:Int),([]:LI))).1))) (by kernel_rfl) (fun hb=>?_) (fun hb=>?_)
      ·have h:=h.1 hb
       refine withJoin (σ:=Int×LK) (fun s=>(⟨127,[e45a62,e45a63,e45a64,e45a65,e45a66,e45a60,sI 50 c,sI 51 v51,e45a13],[e45a40,e45a21 c tv over,e45a33 c2 tv2,e45a5 c3 c,e45a43,hB 30505 [.pI s.1],e45a32 l6160,e45a0 c0 c1 c22 c3 c4,(70001,[],.dict (.pr tI t3) tI s.2)]⟩:St)) (fun s=>VCc61_k8 v51 X2 s.1 s.2) (fun s h=>?_) (fun rest7=>?_)
       ·obtain ⟨n2,l700012⟩:=s
        have h:VCc61_k8 v51 X2 n2 l700012:=h
        unfold VCc61_k8 at h
        exact rest6 (n2,l700012) h
       ·refine aw_conv [.ren 3 30500,.ren 4 30501,.ren 5 30502,.ren 7 30503,.ren 8 30504,.ren 12 30505,.ren 6160 30506] (st':=(⟨127,[e45a62,e45a63,e45a64,e45a65,e45a66,e45a60,sI 13 v51,sI 50 c,sI 51 v51,e45a57 c3 v51 c,e45a13],[e45a40,e45a21 c tv over,e45a33 c2 tv2,e45a5 c3 c,e45a43,hB 30505 [.pI n],e45a32 l6160,e45a0 c0 c1 c22 c3 c4,e45a8 l70001]⟩:St)) (by kernel_rfl) ?_
        refine awd_begin [30505,70000,70001] (by kernel_rfl) ?_
        refine drq (by kernel_rfl) [1,2,3] (ob:=(Ts 3 True)) (done':=[3,2,1]) (st':=(⟨127,[e45a62,e45a63,e45a64,e45a65,e45a66,e45a60,sI 50 c,sI 51 v51,sp 67 70000,sI 68 v51,sA 69 [.pI c2,.pI tv2],e45a13],[e45a40,e45a21 c tv over,e45a33 c2 tv2,e45a5 c3 c,e45a43,hB 30505 [.pI n],e45a32 l6160,e45a0 c0 c1 c22 c3 c4,e45a8 l70001]⟩:St)) (by kernel_rfl) (tsI 3 trivial) ?_
        refine awd_two (i:=0) (j:=4) (by kernel_rfl) ?_ ?_
        ·have h:=h
         refine dsq (ob:=True) (st':=(⟨127,[e45a62,e45a63,e45a64,e45a65,e45a66,e45a60,sI 50 c,sI 51 v51,sI 66 n,sp 67 70000,sI 68 v51,sA 69 [.pI c2,.pI tv2],e45a13],[e45a40,e45a21 c tv over,e45a33 c2 tv2,e45a5 c3 c,e45a43,hB 30505 [.pI n],e45a32 l6160,e45a0 c0 c1 c22 c3 c4,e45a8 l70001]⟩:St)) rfl (by kernel_rfl) trivial ?_
         refine awd_one (i:=4) (by kernel_rfl) ?_
         refine adop_lcall (σ:=Int×LK) [70000,70001] [70000] [.c (.ptr 70000 0),.c (.pI v51),.c (.pI (0:Int)),.agg [.pI c2,.pI tv2]] [] (fun ret70v=>.v (.c (.pI ret70v.1))) (fun ret70v=>[e45a0 c0 c1 c22 c3 c4,e45a22 ret70v]) (_) [e45a0 c0 c1 c22 c3 c4,e45a8 l70001] (fun ret70v=>(⟨127,[sI 70 ret70v.1,e45a62,e45a63,e45a64,e45a65,e45a66,e45a60,sI 50 c,sI 51 v51,sI 66 n,sp 67 70000,sI 68 v51,sA 69 [.pI c2,.pI tv2],e45a13],[e45a0 c0 c1 c22 c3 c4,e45a22 ret70v,e45a40,e45a21 c tv over,e45a33 c2 tv2,e45a5 c3 c,e45a43,hB 30505 [.pI n],e45a32 l6160]⟩:St)) rfl (by kernel_rfl) rfl rfl (by kernel_rfl) rfl (by kernel_rfl) Try.call72 (by kernel_rfl) (by kernel_rfl) (by kernel_rfl) (fun _ _=>rfl) (fun _=>by kernel_rfl) (linkcr72 c0 c1 c22 c3 c4 v51 (0:Int) c2 tv2 l70001 _ h) (fun ret70v h=>?_)
         refine dpr (st':=(⟨127,[e45a62,e45a63,e45a64,e45a65,e45a66,e45a60,sI 50 c,sI 51 v51,sI 66 n,sI 70 ret70v.1,e45a13],[e45a40,e45a21 c tv over,e45a33 c2 tv2,e45a5 c3 c,e45a43,hB 30505 [.pI n],e45a32 l6160,e45a0 c0 c1 c22 c3 c4,e45a22 ret70v]⟩:St)) (by kernel_rfl) ?_
         obtain ⟨o1,h⟩:=h
         refine drq (by kernel_rfl) [5] (ob:=(InR (n+ret70v.1)∧True)) (done':=[5,4,0,3,2,1]) (st':=(⟨127,[e45a62,e45a63,e45a64,e45a65,e45a66,e45a60,sI 50 c,sI 51 v51,sI 71 (n+ret70v.1),e45a13],[e45a40,e45a21 c tv over,e45a33 c2 tv2,e45a5 c3 c,e45a43,hB 30505 [.pI n],e45a32 l6160,e45a0 c0 c1 c22 c3 c4,e45a22 ret70v]⟩:St)) (by kernel_rfl) (⟨o1,trivial⟩) ?_
         refine awd_one (i:=6) (by kernel_rfl) ?_
         refine dsq (ob:=True) (st':=(⟨127,[e45a62,e45a63,e45a64,e45a65,e45a66,e45a60,sI 50 c,sI 51 v51,e45a13],[e45a40,e45a21 c tv over,e45a33 c2 tv2,e45a5 c3 c,e45a43,hB 30505 [.pI (n+ret70v.1)],e45a32 l6160,e45a0 c0 c1 c22 c3 c4,e45a22 ret70v]⟩:St)) rfl (by kernel_rfl) trivial ?_
         refine awd_done (by kernel_rfl) ?_
         exact rest7 ((n+ret70v.1),ret70v.2) h
        ·have h:=h
         refine adop_lcall (σ:=Int×LK) [70000,70001] [70000] [.c (.ptr 70000 0),.c (.pI v51),.c (.pI (0:Int)),.agg [.pI c2,.pI tv2]] [] (fun ret70v=>.v (.c (.pI ret70v.1))) (fun ret70v=>[e45a0 c0 c1 c22 c3 c4,e45a22 ret70v]) (_) [e45a0 c0 c1 c22 c3 c4,e45a8 l70001] (fun ret70v=>(⟨127,[sI 70 ret70v.1,e45a62,e45a63,e45a64,e45a65,e45a66,e45a60,sI 50 c,sI 51 v51,sp 67 70000,sI 68 v51,sA 69 [.pI c2,.pI tv2],e45a13],[e45a0 c0 c1 c22 c3 c4,e45a22 ret70v,e45a40,e45a21 c tv over,e45a33 c2 tv2,e45a5 c3 c,e45a43,hB 30505 [.pI n],e45a32 l6160]⟩:St)) rfl (by kernel_rfl) rfl rfl (by kernel_rfl) rfl (by kernel_rfl) Try.call72 (by kernel_rfl) (by kernel_rfl) (by kernel_rfl) (fun _ _=>rfl) (fun _=>by kernel_rfl) (linkcr72 c0 c1 c22 c3 c4 v51 (0:Int) c2 tv2 l70001 _ h) (fun ret70v h=>?_)
         refine dpr (st':=(⟨127,[e45a62,e45a63,e45a64,e45a65,e45a66,e45a60,sI 50 c,sI 51 v51,sI 70 ret70v.1,e45a13],[e45a40,e45a21 c tv over,e45a33 c2 tv2,e45a5 c3 c,e45a43,hB 30505 [.pI n],e45a32 l6160,e45a0 c0 c1 c22 c3 c4,e45a22 ret70v]⟩:St)) (by kernel_rfl) ?_
         refine awd_one (i:=0) (by kernel_rfl) ?_
         refine dsq (ob:=True) (st':=(⟨127,[e45a62,e45a63,e45a64,e45a65,e45a66,e45a60,sI 50 c,sI 51 v51,sI 66 n,sI 70 ret70v.1,e45a13],[e45a40,e45a21 c tv over,e45a33 c2 tv2,e45a5 c3 c,e45a43,hB 30505 [.pI n],e45a32 l6160,e45a0 c0 c1 c22 c3 c4,e45a22 ret70v]⟩:St)) rfl (by kernel_rfl) trivial ?_
         obtain ⟨o1,h⟩:=h
         refine drq (by kernel_rfl) [5] (ob:=(InR (n+ret70v.1)∧True)) (done':=[5,0,4,3,2,1]) (st':=(⟨127,[e45a62,e45a63,e45a64,e45a65,e45a66,e45a60,sI 50 c,sI 51 v51,sI 71 (n+ret70v.1),e45a13],[e45a40,e45a21 c tv over,e45a33 c2 tv2,e45a5 c3 c,e45a43,hB 30505 [.pI n],e45a32 l6160,e45a0 c0 c1 c22 c3 c4,e45a22 ret70v]⟩:St)) (by kernel_rfl) (⟨o1,trivial⟩) ?_
         refine awd_one (i:=6) (by kernel_rfl) ?_
         refine dsq (ob:=True) (st':=(⟨127,[e45a62,e45a63,e45a64,e45a65,e45a66,e45a60,sI 50 c,sI 51 v51,e45a13],[e45a40,e45a21 c tv over,e45a33 c2 tv2,e45a5 c3 c,e45a43,hB 30505 [.pI (n+ret70v.1)],e45a32 l6160,e45a0 c0 c1 c22 c3 c4,e45a22 ret70v]⟩:St)) rfl (by kernel_rfl) trivial ?_
         refine awd_done (by kernel_rfl) ?_
         exact rest7 ((n+ret70v.1),ret70v.2) h
      ·have h:=h.2 hb
       refine aw_conv [.prune [3,4,5,7,8,12,50,51,127] [3,4,5,7,8,12,6160,70000,70001],.ren 3 20003,.ren 4 20004,.ren 5 20005,.ren 7 20007,.ren 8 20008,.ren 6160 26160,.ren 12 20012,.ren 20003 30500,.ren 20004 30501,.ren 20005 30502,.ren 20007 30503,.ren 20008 30504,.ren 26160 30506,.ren 20012 30505] (st':=(⟨127,[e45a62,e45a63,e45a64,e45a65,e45a66,e45a60,sI 50 c,sI 51 v51,e45a13],[e45a40,e45a21 c tv over,e45a33 c2 tv2,e45a5 c3 c,e45a43,hB 30505 [.pI n],e45a32 l6160,e45a0 c0 c1 c22 c3 c4,e45a8 l70001]⟩:St)) (by kernel_rfl) ?_
       refine aw_skip ?_
       exact rest6 (n,l70001) h
    ·have h:=h.2 hb
     refine cpr (st':=(⟨127,[sp 3 3,sp 4 4,sp 5 5,sp 7 7,sp 8 8,sp 12 12,e45a13],[e45a28,e45a11 c tv over,e45a26 c2 tv2,e45a2 c3 c,e45a48,hB 12 [.pI n],e45a37 l6160,e45a0 c0 c1 c22 c3 c4,e45a8 l70001]⟩:St)) (by kernel_rfl) ?_
     refine aw_exit ?_
     refine thenQ_x ?_
     refine thenQ_x ?_
     refine blockQ_hit ?_
     exact rest5 (n,l70001) h
  ·refine aw_block ?_
   refine aw_conv [.nilOwnB 8 0 6160 3 tI,.prune [3,4,5,7,8,9,33,34,35,127] [3,4,5,7,8,6160,70000,70001]] (st':=(⟨127,[sp 3 3,sp 4 4,sp 5 5,sp 7 7,sp 8 8,sI 9 c2,e45a58 tv,e45a59 tv,sI 35 (0:Int),e45a13],[e45a28,e45a11 c tv over,e45a26 c2 tv2,e45a2 c3 c,e45a48,hA 6160 3 tI ([]:List Int),e45a0 c0 c1 c22 c3 c4,e45a7 c5]⟩:St)) (by kernel_rfl) ?_
   refine aw_loop (σ:=Int×Int×LI) (fun s=>(⟨127,[sp 3 3,sp 4 4,sp 5 5,sp 7 7,sp 8 8,sI 9 s.1,e45a58 tv,e45a59 tv,sI 35 s.2.1,e45a13],[e45a28,e45a11 c tv over,e45a26 c2 tv2,e45a2 c3 c,e45a48,hA 6160 3 tI s.2.2,e45a0 c0 c1 c22 c3 c4,e45a7 c5]⟩:St)) (fun s X=>VCc61_l3 c0 c1 c22 c3 c4 R c tv over c2 tv2 c5 K s.1 s.2.1 s.2.2 X) (s0:=(c2,(0:Int),([]:List Int))) (fun s X3 h=>?_) h
   obtain ⟨atv,v35,l6160⟩:=s
   have h:VCc61_l3 c0 c1 c22 c3 c4 R c tv over c2 tv2 c5 K atv v35 l6160 X3:=h
   unfold VCc61_l3 at h
   refine srn 1 ⟨127,[sp 3 3,sp 4 4,sp 5 5,sp 7 7,sp 8 8,sI 9 atv,e45a58 tv,e45a59 tv,sI 35 v35,sB 36 (decide (v35<(tv.length:Int))),e45a13],[e45a28,e45a11 c tv over,e45a26 c2 tv2,e45a2 c3 c,e45a48,e45a37 l6160,e45a0 c0 c1 c22 c3 c4,e45a7 c5]⟩ (by kernel_rfl) rfl ?_
   refine aw_seq ?_
   refine aw_cond (b:=(decide (v35<(tv.length:Int)))) (by kernel_rfl) (fun hb=>?_) (fun hb=>?_)
   ·have h:=h.1 hb
    refine aw_skip ?_
    refine thenQ_n ?_
    refine aw_seq ?_
    refine aw_block ?_
    refine sr ?_
    obtain ⟨o1,h⟩:=h
    refine rq 4 (ob:=(inIdx v35 tv.length∧Ts 3 True)) (st':=(⟨127,[sp 3 3,sp 4 4,sp 5 5,sp 7 7,sp 8 8,sI 9 atv,sp 11 11,e45a58 tv,e45a59 tv,sI 35 v35,e45a13],[e45a28,e45a11 c tv over,e45a26 c2 tv2,e45a2 c3 c,e45a48,hB 11 [.pI ((tv.getD (v35).toNat (Tree.node 0 [] [])).rule),.p (.sl .tr) ((tv.getD (v35).toNat (Tree.node 0 [] [])).kids),.pS ((tv.getD (v35).toNat (Tree.node 0 [] [])).word)],e45a37 l6160,e45a0 c0 c1 c22 c3 c4,e45a7 c5]⟩:St)) (by kernel_rfl) (⟨o1,tsI 3 trivial⟩) ?_
    refine nsr ?_
    obtain ⟨o1,h⟩:=h
    refine rq 6 (ob:=(Ts 4 (InR (atv+(((tv.getD (v35).toNat (Tree.node 0 [] [])).word).length:Int))∧Ts 1 True))) (st':=(⟨127,[sp 3 3,sp 4 4,sp 5 5,sp 7 7,sp 8 8,e45a47 atv tv v35,e45a58 tv,e45a59 tv,sI 35 v35,e45a13],[e45a28,e45a11 c tv over,e45a26 c2 tv2,e45a2 c3 c,e45a48,e45a37 l6160,e45a0 c0 c1 c22 c3 c4,e45a7 c5]⟩:St)) (by kernel_rfl) (tsI 4 ⟨o1,tsI 1 trivial⟩) ?_
    refine nn ?_
    refine aw_region ?_
    obtain ⟨o1,h⟩:=h
    refine rq 5 (ob:=(Ts 3 (roomW 8 (l6160.length+[(atv+(((tv.getD (v35).toNat (Tree.node 0 [] [])).word).length:Int))].length)∧Ts 1 True))) (st':=(⟨127,[sp 3 3,sp 4 4,sp 5 5,sp 7 7,sp 8 8,e45a47 atv tv v35,e45a58 tv,e45a59 tv,sI 35 v35,e45a13],[e45a28,e45a11 c tv over,e45a26 c2 tv2,e45a2 c3 c,hB 8 [.own 47],hA 47 3 tI (l6160++[(atv+(((tv.getD (v35).toNat (Tree.node 0 [] [])).word).length:Int))]),e45a0 c0 c1 c22 c3 c4,e45a7 c5]⟩:St)) (by kernel_rfl) (tsI 3 ⟨o1,tsI 1 trivial⟩) ?_
    refine awl_nil ?_
    refine blockQ_n ?_
    refine thenQ_n ?_
    refine aw_region ?_
    obtain ⟨o1,h⟩:=h
    refine rq 2 (ob:=(InR (v35+(1:Int))∧Ts 1 True)) (st':=(⟨127,[sp 3 3,sp 4 4,sp 5 5,sp 7 7,sp 8 8,e45a47 atv tv v35,e45a58 tv,e45a59 tv,sI 35 (v35+(1:Int)),e45a13],[e45a28,e45a11 c tv over,e45a26 c2 tv2,e45a2 c3 c,hB 8 [.own 47],hA 47 3 tI (l6160++[(atv+(((tv.getD (v35).toNat (Tree.node 0 [] [])).word).length:Int))]),e45a0 c0 c1 c22 c3 c4,e45a7 c5]⟩:St)) (by kernel_rfl) (⟨o1,tsI 1 trivial⟩) ?_
    refine awl_conv [.ren 47 20047,.ren 20047 6160] (st':=(⟨127,[sp 3 3,sp 4 4,sp 5 5,sp 7 7,sp 8 8,e45a47 atv tv v35,e45a58 tv,e45a59 tv,sI 35 (v35+(1:Int)),e45a13],[e45a28,e45a11 c tv over,e45a26 c2 tv2,e45a2 c3 c,e45a48,hA 6160 3 tI (l6160++[(atv+(((tv.getD (v35).toNat (Tree.node 0 [] [])).word).length:Int))]),e45a0 c0 c1 c22 c3 c4,e45a7 c5]⟩:St)) (by kernel_rfl) ?_
    refine awl_nil ?_
    exact thenQ_n ⟨((atv+(((tv.getD (v35).toNat (Tree.node 0 [] [])).word).length:Int)),(v35+(1:Int)),(l6160++[(atv+(((tv.getD (v35).toNat (Tree.node 0 [] [])).word).length:Int))])),rfl,h⟩
   ·have h:=h.2 hb
    refine cpr (st':=(⟨127,[sp 3 3,sp 4 4,sp 5 5,sp 7 7,sp 8 8,e45a13],[e45a28,e45a11 c tv over,e45a26 c2 tv2,e45a2 c3 c,e45a48,e45a37 l6160,e45a0 c0 c1 c22 c3 c4,e45a7 c5]⟩:St)) (by kernel_rfl) ?_
    refine aw_exit ?_
    refine thenQ_x ?_
    refine thenQ_x ?_
    refine blockQ_hit ?_
    exact rest8 l6160 h
def VCc61_it (c0:Int) (c1:Int) (c22:Int) (c3:LR) (c4:LI):Nat→Int→(List Tree)→LI→Int→Int→LK→(Int×LK→Prop)→Prop
  | 0=>fun _ _ _ _ _ _ _=>False
  | n+1=>fun c tv over c2 tv2 c5 K=>VCc61 c0 c1 c22 c3 c4 (VCc61_it c0 c1 c22 c3 c4 n) c tv over c2 tv2 c5 K
def VCcr61 (c0:Int) (c1:Int) (c22:Int) (c3:LR) (c4:LI) (c:Int) (tv:(List Tree)) (over:LI) (c2:Int) (tv2:Int) (c5:LK) (K:Int×LK→Prop):Prop:=∃ n,VCc61_it c0 c1 c22 c3 c4 n c tv over c2 tv2 c5 K
theorem linkci61 (c0:Int) (c1:Int) (c22:Int) (c3:LR) (c4:LI):∀ (n:Nat) (c:Int) (tv:(List Tree)) (over:LI) (c2:Int) (tv2:Int) (c5:LK) (K:Int×LK→Prop),VCc61_it c0 c1 c22 c3 c4 n c tv over c2 tv2 c5 K→LCalls Try.prog 61 [70000,70001] [70000] [e45a0 c0 c1 c22 c3 c4,e45a7 c5] [.c (.ptr 70000 0),.agg [.pI c,.p (.sl .tr) tv,.pS over],.agg [.pI c2,.pI tv2]] (fun av hp'=>∃ y:Int×LK,av=.v (.c (.pI y.1))∧hp'=[e45a0 c0 c1 c22 c3 c4,(70001,[],.dict (.pr tI t3) tI y.2)]∧K y)
  | 0,_,_,_,_,_,_,_,h=>False.elim h
  | n+1,c,tv,over,c2,tv2,c5,K,h=>linkc61 c0 c1 c22 c3 c4 (VCc61_it c0 c1 c22 c3 c4 n) (linkci61 c0 c1 c22 c3 c4 n) c tv over c2 tv2 c5 K h
theorem linkcr61 (c0:Int) (c1:Int) (c22:Int) (c3:LR) (c4:LI) (c:Int) (tv:(List Tree)) (over:LI) (c2:Int) (tv2:Int) (c5:LK) (K:Int×LK→Prop) (h:VCcr61 c0 c1 c22 c3 c4 c tv over c2 tv2 c5 K):LCalls Try.prog 61 [70000,70001] [70000] [e45a0 c0 c1 c22 c3 c4,e45a7 c5] [.c (.ptr 70000 0),.agg [.pI c,.p (.sl .tr) tv,.pS over],.agg [.pI c2,.pI tv2]] (fun av hp'=>∃ y:Int×LK,av=.v (.c (.pI y.1))∧hp'=[e45a0 c0 c1 c22 c3 c4,(70001,[],.dict (.pr tI t3) tI y.2)]∧K y):=by
  obtain ⟨n,h⟩:=h
  exact linkci61 c0 c1 c22 c3 c4 n c tv over c2 tv2 c5 K h
abbrev e45b0 (g:TG):Nat×Path×Con:=hB 30000 [.pI g.1,.pI g.2.1,.pI g.2.2.1,.p (.sl tR) g.2.2.2]
abbrev e45b1 (g:TG) (w:LI):Nat×Path×Con:=hB 70000 [.pI g.1,.pI g.2.1,.pI g.2.2.1,.p (.sl tR) g.2.2.2,.pS w,.own 70001]
abbrev e45b2 (ret31v:Int×LK):Nat×Path×Con:=(70001,[],.dict (.pr tI t3) tI ret31v.2)
abbrev e45b3 (g:TG):Nat×Path×Con:=hB 2 [.pI g.1,.pI g.2.1,.pI g.2.2.1,.p (.sl tR) g.2.2.2]
abbrev e45b4 (ret35v:Tree×LI×Bool):Nat×Path×Con:=hB 11 [.pI ret35v.1.rule,.p (.sl .tr) ret35v.1.kids,.pS ret35v.1.word]
abbrev e45b5 (g:TG):Nat×Path×Con:=hB 30200 [.pI g.1,.pI g.2.1,.pI g.2.2.1,.p (.sl tR) g.2.2.2]
abbrev e45b6 (w:LI):Nat×Path×AV:=s1 1 (.pS w)
abbrev e45b7 (g:TG) (w:LI):Nat×Path×Con:=hB 9 [.pI g.1,.pI g.2.1,.pI g.2.2.1,.p (.sl tR) g.2.2.2,.pS w,.own 7]
abbrev e45b8 (steps:LI):Nat×Path×AV:=s1 38 (.pS steps)
abbrev e45b9:Nat×Path×Con:=(7,[],.dict (.pr tI t3) tI ([]:List ((Int×(Int×(Int×Int)))×Int)))
abbrev e45b10 (w:LI):Nat×Path×AV:=s1 37 (.pS w)
abbrev e45b11 (ret35v:Tree×LI×Bool):Nat×Path×AV:=sB 46 ((!ret35v.2.2)||(decide ((0:Int)<(ret35v.2.1.length:Int))))
abbrev e45b12:Nat×Path×AV:=sp 39 30000
abbrev e45b13 (ret35v:Tree×LI×Bool):Nat×Path×AV:=(35,[],.tup [.agg [.pI ret35v.1.rule,.p (.sl .tr) ret35v.1.kids,.pS ret35v.1.word],.c (.pS ret35v.2.1),.c (.pB ret35v.2.2)])
abbrev e45b14 (ret35v:Tree×LI×Bool):Nat×Path×AV:=sA 54 [.pI ret35v.1.rule,.p (.sl .tr) ret35v.1.kids,.pS ret35v.1.word]
abbrev e45b15:Nat×Path×Con:=(70001,[],.dict (.pr tI t3) tI ([]:List ((Int×(Int×(Int×Int)))×Int)))
abbrev e45b16 (g:TG):Nat×Path×AV:=sA 15 [.pI g.1,.pI g.2.1,.pI g.2.2.1,.p (.sl tR) g.2.2.2]
abbrev e45b17 (g:TG):Nat×Path×AV:=sA 28 [.pI g.1,.pI g.2.1,.pI g.2.2.1,.p (.sl tR) g.2.2.2]
abbrev e45b18 (g:TG):Nat×Path×AV:=sA 19 [.pI g.1,.pI g.2.1,.pI g.2.2.1,.p (.sl tR) g.2.2.2]
abbrev e45b19 (g:TG):Nat×Path×Con:=hB 3 [.pI g.1,.pI g.2.1,.pI g.2.2.1,.p (.sl tR) g.2.2.2]
abbrev e45b20 (g:TG):Nat×Path×AV:=sA 0 [.pI g.1,.pI g.2.1,.pI g.2.2.1,.p (.sl tR) g.2.2.2]
abbrev e45b21:Nat×Path×AV:=sp 8 70000
abbrev e45b22 (w:LI):Nat×Path×AV:=sA 57 [.pI (0:Int),.pI (w.length:Int)]
abbrev e45b23 (w:LI):Nat×Path×AV:=sA 30 [.pI (0:Int),.pI (w.length:Int)]
abbrev e45b24:Nat×Path×AV:=sI 6 (0:Int)
-- coppicer/pick.Place
def VC45_k1 (g:TG) (w:LI) (steps:LI) (K:Int×Int→Prop) (v6:Int):Prop :=
  (((!decide (v6=(0:Int)))=true→K ((0:Int),v6))∧((!decide (v6=(0:Int)))=false→(((decide ((60:Int)<(steps.length:Int)))=true→K ((0:Int),(1:Int)))∧((decide ((60:Int)<(steps.length:Int)))=false→(InR (g.1+g.2.2.1)∧VCr59 g (g.1+g.2.2.1) steps (fun (ret35v:Tree×LI×Bool)=>gcall (α:=Bool) (!((!ret35v.2.2)||(decide ((0:Int)<(ret35v.2.1.length:Int))))) (VC60 ret35v.1.word w) false (fun (ret50v:Bool)=>(((((!ret35v.2.2)||(decide ((0:Int)<(ret35v.2.1.length:Int))))||(!ret50v))=true→K ((0:Int),(5:Int)))∧((((!ret35v.2.2)||(decide ((0:Int)<(ret35v.2.1.length:Int))))||(!ret50v))=false→False)))))))))
def VC45 (g:TG) (w:LI) (steps:LI) (K:Int×Int→Prop):Prop :=
  VC66 g w (fun (ret12v:Int)=>(((!decide (ret12v=(0:Int)))=true→VC45_k1 g w steps K ret12v)∧((!decide (ret12v=(0:Int)))=false→VC55 g (fun (ret17v:Bool)=>(((!ret17v)=true→VC45_k1 g w steps K (3:Int))∧((!ret17v)=false→(InR (g.1+g.2.2.1)∧VCcr68 g.1 g.2.1 g.2.2.1 g.2.2.2 w (g.1+g.2.2.1) (0:Int) (w.length:Int) ([]:List ((Int×(Int×(Int×Int)))×Int)) (fun (ret31v:Int×LK)=>(((decide ((1099511627776:Int)<ret31v.1))=true→VC45_k1 g w steps K (1:Int))∧((decide ((1099511627776:Int)<ret31v.1))=false→(((!decide ((0:Int)=(0:Int)))=true→K ((0:Int),(0:Int)))∧((!decide ((0:Int)=(0:Int)))=false→(((decide ((60:Int)<(steps.length:Int)))=true→K ((0:Int),(1:Int)))∧((decide ((60:Int)<(steps.length:Int)))=false→(InR (g.1+g.2.2.1)∧VCr59 g (g.1+g.2.2.1) steps (fun (ret35v:Tree×LI×Bool)=>gcall (α:=Bool) (!((!ret35v.2.2)||(decide ((0:Int)<(ret35v.2.1.length:Int))))) (VC60 ret35v.1.word w) false (fun (ret50v:Bool)=>(((((!ret35v.2.2)||(decide ((0:Int)<(ret35v.2.1.length:Int))))||(!ret50v))=true→K ((0:Int),(5:Int)))∧((((!ret35v.2.2)||(decide ((0:Int)<(ret35v.2.1.length:Int))))||(!ret50v))=false→VCcr61 g.1 g.2.1 g.2.2.1 g.2.2.2 w ret35v.1.rule ret35v.1.kids ret35v.1.word (0:Int) (w.length:Int) ret31v.2 (fun (ret58v:Int×LK)=>K (ret58v.1,(0:Int))))))))))))))))))))))
set_option maxHeartbeats 4000000 in
theorem link45 (g:TG) (w:LI) (steps:LI) (K:Int×Int→Prop) (h:VC45 g w steps K):ACalls Try.prog 45 [toV1 tG g,toV1 (.sl tI) w,toV1 (.sl tI) steps] (fun res=>∃ y,res=(fun y=>[toV1 tI y.1,toV1 tI y.2]) y∧K y):=by
 refine acalls_of_aw [tI,tI] [.t 6,.t 7] Try.func45 rfl rfl rfl ?_
 unfold VC45 at h
 refine sr ?_
 refine rqT 3 ⟨59,[e45b6 w,s1 2 (.pS steps),sp 3 3],[e45b19 g]⟩ (by kernel_rfl) ?_
 refine nsr ?_
 refine rqT 2 ⟨59,[e45b6 w,s1 2 (.pS steps),sp 3 3,e45b16 g,s1 16 (.pS w)],[e45b19 g]⟩ (by kernel_rfl) ?_
 refine awl_conv [.ren 3 30000] (st':=(⟨59,[e45b6 w,s1 2 (.pS steps),sp 3 30000,e45b16 g,s1 16 (.pS w)],[e45b0 g]⟩:St)) (by kernel_rfl) ?_
 refine awl_inlr [.t 4,.t 5,.t 6] [30000] [.agg [.pI g.1,.pI g.2.1,.pI g.2.2.1,.p (.sl tR) g.2.2.2],.c (.pS w)] [] rfl rfl (by kernel_rfl) rfl (by kernel_rfl) Try.call57 (by kernel_rfl) (by kernel_rfl) Try.func57 rfl rfl (by kernel_rfl) ?_
 refine aw_conv [] (st':=(⟨36,[e45b20 g,e45b6 w,e45b10 w,e45b8 steps,e45b12,sA 51 [.pI g.1,.pI g.2.1,.pI g.2.2.1,.p (.sl tR) g.2.2.2],s1 52 (.pS w)],[e45b0 g]⟩:St)) (by kernel_rfl) ?_
 refine withJoinR (σ:=Int) (fun s=>(⟨36,[s1 4 (.any),sI 5 (0:Int),sI 6 s,e45b10 w,e45b8 steps,e45b12],[e45b0 g]⟩:St)) (fun s=>VC45_k1 g w steps K s) (fun v6 h=>?_) (fun rest1=>?_)
 ·have h:VC45_k1 g w steps K v6:=h
  unfold VC45_k1 at h
  refine inlR_n (ob:=(True∧True∧True∧True)) (.tup [.c (.any),.c (.pI (0:Int)),.c (.pI v6)]) (by kernel_rfl) ⟨trivial,trivial,trivial,trivial⟩ rfl ?_
  refine lpr (st':=(⟨59,[e45b6 w,s1 2 (.pS steps),sp 3 30000,(17,[],.tup [.c (.any),.c (.pI (0:Int)),.c (.pI v6)])],[e45b0 g]⟩:St)) (by kernel_rfl) ?_
  refine rqT 7 ⟨59,[e45b6 w,s1 2 (.pS steps),sp 3 30000,s1 8 (.any),sI 10 v6],[e45b0 g]⟩ (by kernel_rfl) ?_
  refine nn ?_
  refine aw_seq ?_
  refine srn 2 ⟨59,[e45b6 w,s1 2 (.pS steps),sp 3 30000,s1 8 (.any),sI 10 v6,sB 22 (!decide (v6=(0:Int)))],[e45b0 g]⟩ (by kernel_rfl) rfl ?_
  refine aw_cond (b:=(!decide (v6=(0:Int)))) (by kernel_rfl) (fun hb=>?_) (fun hb=>?_)
  ·have h:=h.1 hb
   refine srn 3 ⟨59,[e45b24,sI 7 v6],[]⟩ (by kernel_rfl) rfl ?_
   refine aw_ret ?_
   refine thenQ_r ?_
   exact retQ_r (ob:=Ts 2 True) _ (by kernel_rfl) (tsI 2 trivial) h
  ·have h:=h.2 hb
   refine aw_skip ?_
   refine thenQ_n ?_
   refine aw_seq ?_
   refine srn 3 ⟨59,[e45b6 w,s1 2 (.pS steps),sp 3 30000,s1 8 (.any),sB 26 (decide ((60:Int)<(steps.length:Int)))],[e45b0 g]⟩ (by kernel_rfl) rfl ?_
   refine aw_cond (b:=(decide ((60:Int)<(steps.length:Int)))) (by kernel_rfl) (fun hb=>?_) (fun hb=>?_)
   ·have h:=h.1 hb
    refine srn 2 ⟨59,[e45b24,sI 7 (1:Int)],[]⟩ (by kernel_rfl) rfl ?_
    refine aw_ret ?_
    refine thenQ_r ?_
    exact retQ_r (ob:=Ts 2 True) _ (by kernel_rfl) (tsI 2 trivial) h
   ·have h:=h.2 hb
    refine aw_skip ?_
    refine thenQ_n ?_
    refine sr ?_
    obtain ⟨o1,h⟩:=h
    refine rq 7 (ob:=(Ts 5 (InR (g.1+g.2.2.1)∧Ts 1 True))) (st':=(⟨59,[e45b6 w,s1 8 (.any),e45b17 g,sI 33 (g.1+g.2.2.1),s1 34 (.pS steps)],[]⟩:St)) (by kernel_rfl) (tsI 5 ⟨o1,tsI 1 trivial⟩) ?_
    refine lcq (d:=35) [.d tG,.d tI,.d (.sl tI)] (fun ret35v=>(⟨59,[e45b6 w,s1 8 (.any),e45b13 ret35v],[]⟩:St)) (by kernel_rfl) Try.call59 (fun _=>by kernel_rfl) (linkr59 g (g.1+g.2.2.1) steps _ h) (fun ret35v h=>?_)
    refine rqT 8 ⟨59,[e45b6 w,s1 8 (.any),sp 11 11,s1 12 (.pS ret35v.2.1),sB 13 ret35v.2.2],[e45b4 ret35v]⟩ (by kernel_rfl) ?_
    refine nn ?_
    refine aw_seq ?_
    refine sr ?_
    refine rq 11 (ob:=(Ts 3 (Ti 3 ((!ret35v.2.2)=false→True) (Ts 2 (Ti 3 (((!ret35v.2.2)||(decide ((0:Int)<(ret35v.2.1.length:Int))))=false→True) True))))) (st':=(⟨59,[e45b6 w,s1 8 (.any),sp 11 11,e45b11 ret35v,(48,[(46,false)],.v (.c (.pS ret35v.1.word))),(49,[(46,false)],.v (.c (.pS w)))],[e45b4 ret35v]⟩:St)) (by kernel_rfl) (tsI 3 (tiI 3 (fun _=>trivial) (tsI 2 (tiI 3 (fun _=>trivial) trivial)))) ?_
    refine awl_callk (p:=[(46,false)]) (l:=[toV1 (.sl tI) ret35v.1.word,toV1 (.sl tI) w]) (cl:=[]) false [.d (.sl tI),.d (.sl tI)] [1,8,11,46,50] [11] (fun (ret50v:Bool)=>(((((!ret35v.2.2)||(decide ((0:Int)<(ret35v.2.1.length:Int))))||(!ret50v))=true→K ((0:Int),(5:Int)))∧((((!ret35v.2.2)||(decide ((0:Int)<(ret35v.2.1.length:Int))))||(!ret50v))=false→False))) (fun ret50v=>[toV1 .bool ret50v]) (fun ret50v=>(⟨59,[e45b6 w,s1 8 (.any),sp 11 11,e45b11 ret35v,(50,[(46,false)],.v (.c (.pB ret50v)))],[e45b4 ret35v]⟩:St)) (by kernel_rfl) rfl (by kernel_rfl) rfl (by kernel_rfl) Try.call60 (by kernel_rfl) (fun ret50v=>by kernel_rfl) (fun e=>by cases e) (fun hg=>link60 ret35v.1.word w _ (by have:=gcall_T h (show (!((!ret35v.2.2)||(decide ((0:Int)<(ret35v.2.1.length:Int)))))=true from hg);exact this)) (fun hg=>⟨false,by have:=gcall_F h (show (!((!ret35v.2.2)||(decide ((0:Int)<(ret35v.2.1.length:Int)))))=false from hg);exact this⟩) (fun ret50v h=>?_)
    refine rq 2 (ob:=((((!ret35v.2.2)||(decide ((0:Int)<(ret35v.2.1.length:Int))))=false→True)∧Ts 1 True)) (st':=(⟨59,[e45b6 w,s1 8 (.any),sp 11 11,sB 52 (((!ret35v.2.2)||(decide ((0:Int)<(ret35v.2.1.length:Int))))||(!ret50v))],[e45b4 ret35v]⟩:St)) (by kernel_rfl) (⟨(fun _=>trivial),tsI 1 trivial⟩) ?_
    refine nn ?_
    refine aw_cond (b:=(((!ret35v.2.2)||(decide ((0:Int)<(ret35v.2.1.length:Int))))||(!ret50v))) (by kernel_rfl) (fun hb=>?_) (fun hb=>?_)
    ·have h:=h.1 hb
     refine srn 2 ⟨59,[e45b24,sI 7 (5:Int)],[]⟩ (by kernel_rfl) rfl ?_
     refine aw_ret ?_
     refine thenQ_r ?_
     exact retQ_r (ob:=Ts 2 True) _ (by kernel_rfl) (tsI 2 trivial) h
    ·have h:=h.2 hb
     refine aw_skip ?_
     refine thenQ_n ?_
     refine sr ?_
     refine rqT 5 ⟨59,[s1 53 (.any),e45b14 ret35v,e45b22 w],[]⟩ (by kernel_rfl) ?_
     exact h.elim
 ·refine srn 4 ⟨36,[e45b6 w,sp 2 2,e45b10 w,e45b8 steps,e45b12],[e45b3 g,e45b0 g]⟩ (by kernel_rfl) rfl ?_
  refine aw_seq ?_
  refine sr ?_
  refine rqT 2 ⟨36,[e45b6 w,sp 2 2,sA 10 [.pI g.1,.pI g.2.1,.pI g.2.2.1,.p (.sl tR) g.2.2.2],s1 11 (.pS w),e45b10 w,e45b8 steps,e45b12],[e45b3 g,e45b0 g]⟩ (by kernel_rfl) ?_
  refine lcq (d:=12) [.d tG,.d (.sl tI)] (fun ret12v=>(⟨36,[e45b6 w,sp 2 2,sI 12 ret12v,e45b10 w,e45b8 steps,e45b12],[e45b3 g,e45b0 g]⟩:St)) (by kernel_rfl) Try.call66 (fun _=>by kernel_rfl) (link66 g w _ h) (fun ret12v h=>?_)
  refine rqT 1 ⟨36,[e45b6 w,sp 2 2,sI 7 ret12v,e45b10 w,e45b8 steps,e45b12],[e45b3 g,e45b0 g]⟩ (by kernel_rfl) ?_
  refine nsr ?_
  refine rqT 2 ⟨36,[e45b6 w,sp 2 2,sI 7 ret12v,sB 14 (!decide (ret12v=(0:Int))),e45b10 w,e45b8 steps,e45b12],[e45b3 g,e45b0 g]⟩ (by kernel_rfl) ?_
  refine nn ?_
  refine aw_cond (b:=(!decide (ret12v=(0:Int)))) (by kernel_rfl) (fun hb=>?_) (fun hb=>?_)
  ·have h:=h.1 hb
   refine srn 4 ⟨36,[s1 4 (.any),sI 5 (0:Int),sI 6 ret12v,e45b10 w,e45b8 steps,e45b12],[e45b0 g]⟩ (by kernel_rfl) rfl ?_
   refine aw_ret ?_
   refine thenQ_r ?_
   exact rest1 ret12v h
  ·have h:=h.2 hb
   refine aw_skip ?_
   refine thenQ_n ?_
   refine aw_seq ?_
   refine sr ?_
   refine rqT 1 ⟨36,[e45b6 w,sp 2 2,sA 16 [.pI g.1,.pI g.2.1,.pI g.2.2.1,.p (.sl tR) g.2.2.2],e45b10 w,e45b8 steps,e45b12],[e45b3 g,e45b0 g]⟩ (by kernel_rfl) ?_
   refine lcq (d:=17) [.d tG] (fun ret17v=>(⟨36,[e45b6 w,sp 2 2,sB 17 ret17v,e45b10 w,e45b8 steps,e45b12],[e45b3 g,e45b0 g]⟩:St)) (by kernel_rfl) Try.call55 (fun _=>by kernel_rfl) (link55 g _ h) (fun ret17v h=>?_)
   refine rqT 1 ⟨36,[e45b6 w,sp 2 2,sB 18 (!ret17v),e45b10 w,e45b8 steps,e45b12],[e45b3 g,e45b0 g]⟩ (by kernel_rfl) ?_
   refine nn ?_
   refine aw_cond (b:=(!ret17v)) (by kernel_rfl) (fun hb=>?_) (fun hb=>?_)
   ·have h:=h.1 hb
    refine srn 3 ⟨36,[s1 4 (.any),sI 5 (0:Int),sI 6 (3:Int),e45b10 w,e45b8 steps,e45b12],[e45b0 g]⟩ (by kernel_rfl) rfl ?_
    refine aw_ret ?_
    refine thenQ_r ?_
    exact rest1 (3:Int) h
   ·have h:=h.2 hb
    refine aw_skip ?_
    refine thenQ_n ?_
    refine sr ?_
    refine rqT 2 ⟨36,[e45b6 w,sp 2 2,e45b18 g,s1 20 (.pS w),e45b10 w,e45b8 steps,e45b12],[e45b3 g,e45b0 g]⟩ (by kernel_rfl) ?_
    refine awl_conv [.ren 2 30200] (st':=(⟨36,[e45b6 w,sp 2 30200,e45b18 g,s1 20 (.pS w),e45b10 w,e45b8 steps,e45b12],[e45b5 g,e45b0 g]⟩:St)) (by kernel_rfl) ?_
    refine awl_inlr [.t 4] [30200,30000] [.agg [.pI g.1,.pI g.2.1,.pI g.2.2.1,.p (.sl tR) g.2.2.2],.c (.pS w)] [] rfl rfl (by kernel_rfl) rfl (by kernel_rfl) Try.call67 (by kernel_rfl) (by kernel_rfl) Try.func67 rfl rfl (by kernel_rfl) ?_
    refine aw_conv [] (st':=(⟨10,[e45b20 g,e45b6 w,s1 11 (.pS w),sp 12 30200,sA 29 [.pI g.1,.pI g.2.1,.pI g.2.2.1,.p (.sl tR) g.2.2.2],s1 30 (.pS w),s1 47 (.pS w),s1 48 (.pS steps),sp 49 30000],[e45b5 g,e45b0 g]⟩:St)) (by kernel_rfl) ?_
    refine sr ?_
    refine rqT 2 ⟨10,[e45b6 w,sp 2 2,s1 11 (.pS w),sp 12 30200,s1 47 (.pS w),s1 48 (.pS steps),sp 49 30000],[e45b3 g,e45b0 g,e45b5 g]⟩ (by kernel_rfl) ?_
    refine nsr ?_
    refine rqT 6 ⟨10,[sp 4 9,s1 11 (.pS w),sp 12 30200,s1 47 (.pS w),s1 48 (.pS steps),sp 49 30000],[e45b9,e45b7 g w,e45b0 g,e45b5 g]⟩ (by kernel_rfl) ?_
    refine nn ?_
    refine aw_ret ?_
    refine inlR_r (ob:=True) (.v (.c (.ptr 9 0))) (by kernel_rfl) trivial rfl ?_
    refine lpr (st':=(⟨36,[e45b6 w,sp 2 30200,sp 21 9,e45b10 w,e45b8 steps,e45b12],[e45b9,e45b7 g w,e45b0 g,e45b5 g]⟩:St)) (by kernel_rfl) ?_
    refine rqT 1 ⟨36,[e45b6 w,sp 2 30200,sp 8 9,e45b10 w,e45b8 steps,e45b12],[e45b9,e45b7 g w,e45b0 g,e45b5 g]⟩ (by kernel_rfl) ?_
    refine nsr ?_
    obtain ⟨o1,h⟩:=h
    refine rq 9 (ob:=(Ts 5 (InR (g.1+g.2.2.1)∧Ts 3 True))) (st':=(⟨36,[sp 8 9,sp 22 9,sI 27 (g.1+g.2.2.1),e45b23 w,e45b10 w,e45b8 steps,e45b12],[e45b9,e45b7 g w,e45b0 g]⟩:St)) (by kernel_rfl) (tsI 5 ⟨o1,tsI 3 trivial⟩) ?_
    refine awl_conv [.ren 9 70000,.ren 7 70001] (st':=(⟨36,[e45b21,sp 22 70000,sI 27 (g.1+g.2.2.1),e45b23 w,e45b10 w,e45b8 steps,e45b12],[e45b15,e45b1 g w,e45b0 g]⟩:St)) (by kernel_rfl) ?_
    refine awl_lcall (σ:=Int×LK) [70000,70001] [70000] [.c (.ptr 70000 0),.c (.pI (g.1+g.2.2.1)),.agg [.pI (0:Int),.pI (w.length:Int)]] [] (fun ret31v=>.v (.c (.pI ret31v.1))) (fun ret31v=>[e45b1 g w,e45b2 ret31v]) (_) [e45b1 g w,e45b15] (fun ret31v=>(⟨36,[sI 31 ret31v.1,e45b21,sp 22 70000,sI 27 (g.1+g.2.2.1),e45b23 w,e45b10 w,e45b8 steps,e45b12],[e45b1 g w,e45b2 ret31v,e45b0 g]⟩:St)) rfl rfl (by kernel_rfl) rfl (by kernel_rfl) Try.call68 (by kernel_rfl) (by kernel_rfl) (by kernel_rfl) (fun _ _=>rfl) (fun _=>by kernel_rfl) (linkcr68 g.1 g.2.1 g.2.2.1 g.2.2.2 w (g.1+g.2.2.1) (0:Int) (w.length:Int) ([]:List ((Int×(Int×(Int×Int)))×Int)) _ h) (fun ret31v h=>?_)
    refine lpr (st':=(⟨36,[e45b21,sI 31 ret31v.1,e45b10 w,e45b8 steps,e45b12],[e45b0 g,e45b1 g w,e45b2 ret31v]⟩:St)) (by kernel_rfl) ?_
    refine rqT 1 ⟨36,[e45b21,sI 9 ret31v.1,e45b10 w,e45b8 steps,e45b12],[e45b0 g,e45b1 g w,e45b2 ret31v]⟩ (by kernel_rfl) ?_
    refine nn ?_
    refine aw_seq ?_
    refine srn 2 ⟨36,[e45b21,sI 9 ret31v.1,sB 33 (decide ((1099511627776:Int)<ret31v.1)),e45b10 w,e45b8 steps,e45b12],[e45b0 g,e45b1 g w,e45b2 ret31v]⟩ (by kernel_rfl) rfl ?_
    refine aw_cond (b:=(decide ((1099511627776:Int)<ret31v.1))) (by kernel_rfl) (fun hb=>?_) (fun hb=>?_)
    ·have h:=h.1 hb
     refine srn 3 ⟨36,[s1 4 (.any),sI 5 (0:Int),sI 6 (1:Int),e45b10 w,e45b8 steps,e45b12],[e45b0 g]⟩ (by kernel_rfl) rfl ?_
     refine aw_ret ?_
     refine thenQ_r ?_
     exact rest1 (1:Int) h
    ·have h:=h.2 hb
     refine aw_skip ?_
     refine thenQ_n ?_
     refine srn 5 ⟨36,[sp 4 70000,sI 5 ret31v.1,e45b24,e45b10 w,e45b8 steps,e45b12],[e45b0 g,e45b1 g w,e45b2 ret31v]⟩ (by kernel_rfl) rfl ?_
     refine aw_ret ?_
     refine inlR_r (ob:=(True∧True∧True∧True)) (.tup [.c (.ptr 70000 0),.c (.pI ret31v.1),.c (.pI (0:Int))]) (by kernel_rfl) ⟨trivial,trivial,trivial,trivial⟩ rfl ?_
     refine lpr (st':=(⟨59,[e45b6 w,s1 2 (.pS steps),sp 3 30000,(17,[],.tup [.c (.ptr 70000 0),.c (.pI ret31v.1),.c (.pI (0:Int))])],[e45b0 g,e45b1 g w,e45b2 ret31v]⟩:St)) (by kernel_rfl) ?_
     refine rqT 7 ⟨59,[e45b6 w,s1 2 (.pS steps),sp 3 30000,e45b21,sI 10 (0:Int)],[e45b0 g,e45b1 g w,e45b2 ret31v]⟩ (by kernel_rfl) ?_
     refine nn ?_
     refine aw_seq ?_
     refine srn 2 ⟨59,[e45b6 w,s1 2 (.pS steps),sp 3 30000,e45b21,sI 10 (0:Int),sB 22 (!decide ((0:Int)=(0:Int)))],[e45b0 g,e45b1 g w,e45b2 ret31v]⟩ (by kernel_rfl) rfl ?_
     refine aw_cond (b:=(!decide ((0:Int)=(0:Int)))) (by kernel_rfl) (fun hb=>?_) (fun hb=>?_)
     ·have h:=h.1 hb
      refine srn 3 ⟨59,[e45b24,sI 7 (0:Int)],[]⟩ (by kernel_rfl) rfl ?_
      refine aw_ret ?_
      refine thenQ_r ?_
      exact retQ_r (ob:=Ts 2 True) _ (by kernel_rfl) (tsI 2 trivial) h
     ·have h:=h.2 hb
      refine aw_skip ?_
      refine thenQ_n ?_
      refine aw_seq ?_
      refine srn 3 ⟨59,[e45b6 w,s1 2 (.pS steps),sp 3 30000,e45b21,sB 26 (decide ((60:Int)<(steps.length:Int)))],[e45b0 g,e45b1 g w,e45b2 ret31v]⟩ (by kernel_rfl) rfl ?_
      refine aw_cond (b:=(decide ((60:Int)<(steps.length:Int)))) (by kernel_rfl) (fun hb=>?_) (fun hb=>?_)
      ·have h:=h.1 hb
       refine srn 2 ⟨59,[e45b24,sI 7 (1:Int)],[]⟩ (by kernel_rfl) rfl ?_
       refine aw_ret ?_
       refine thenQ_r ?_
       exact retQ_r (ob:=Ts 2 True) _ (by kernel_rfl) (tsI 2 trivial) h
      ·have h:=h.2 hb
       refine aw_skip ?_
       refine thenQ_n ?_
       refine sr ?_
       obtain ⟨o1,h⟩:=h
       refine rq 7 (ob:=(Ts 5 (InR (g.1+g.2.2.1)∧Ts 1 True))) (st':=(⟨59,[e45b6 w,e45b21,e45b17 g,sI 33 (g.1+g.2.2.1),s1 34 (.pS steps)],[e45b1 g w,e45b2 ret31v]⟩:St)) (by kernel_rfl) (tsI 5 ⟨o1,tsI 1 trivial⟩) ?_
       refine lcq (d:=35) [.d tG,.d tI,.d (.sl tI)] (fun ret35v=>(⟨59,[e45b6 w,e45b21,e45b13 ret35v],[e45b1 g w,e45b2 ret31v]⟩:St)) (by kernel_rfl) Try.call59 (fun _=>by kernel_rfl) (linkr59 g (g.1+g.2.2.1) steps _ h) (fun ret35v h=>?_)
       refine rqT 8 ⟨59,[e45b6 w,e45b21,sp 11 11,s1 12 (.pS ret35v.2.1),sB 13 ret35v.2.2],[e45b4 ret35v,e45b1 g w,e45b2 ret31v]⟩ (by kernel_rfl) ?_
       refine nn ?_
       refine aw_seq ?_
       refine sr ?_
       refine rq 11 (ob:=(Ts 3 (Ti 3 ((!ret35v.2.2)=false→True) (Ts 2 (Ti 3 (((!ret35v.2.2)||(decide ((0:Int)<(ret35v.2.1.length:Int))))=false→True) True))))) (st':=(⟨59,[e45b6 w,e45b21,sp 11 11,e45b11 ret35v,(48,[(46,false)],.v (.c (.pS ret35v.1.word))),(49,[(46,false)],.v (.c (.pS w)))],[e45b4 ret35v,e45b1 g w,e45b2 ret31v]⟩:St)) (by kernel_rfl) (tsI 3 (tiI 3 (fun _=>trivial) (tsI 2 (tiI 3 (fun _=>trivial) trivial)))) ?_
       refine awl_callk (p:=[(46,false)]) (l:=[toV1 (.sl tI) ret35v.1.word,toV1 (.sl tI) w]) (cl:=[]) false [.d (.sl tI),.d (.sl tI)] [1,8,11,46,50] [11,70000,70001] (fun (ret50v:Bool)=>(((((!ret35v.2.2)||(decide ((0:Int)<(ret35v.2.1.length:Int))))||(!ret50v))=true→K ((0:Int),(5:Int)))∧((((!ret35v.2.2)||(decide ((0:Int)<(ret35v.2.1.length:Int))))||(!ret50v))=false→VCcr61 g.1 g.2.1 g.2.2.1 g.2.2.2 w ret35v.1.rule ret35v.1.kids ret35v.1.word (0:Int) (w.length:Int) ret31v.2 (fun (ret58v:Int×LK)=>K (ret58v.1,(0:Int)))))) (fun ret50v=>[toV1 .bool ret50v]) (fun ret50v=>(⟨59,[e45b6 w,e45b21,sp 11 11,e45b11 ret35v,(50,[(46,false)],.v (.c (.pB ret50v)))],[e45b4 ret35v,e45b1 g w,e45b2 ret31v]⟩:St)) (by kernel_rfl) rfl (by kernel_rfl) rfl (by kernel_rfl) Try.call60 (by kernel_rfl) (fun ret50v=>by kernel_rfl) (fun e=>by cases e) (fun hg=>link60 ret35v.1.word w _ (by have:=gcall_T h (show (!((!ret35v.2.2)||(decide ((0:Int)<(ret35v.2.1.length:Int)))))=true from hg);exact this)) (fun hg=>⟨false,by have:=gcall_F h (show (!((!ret35v.2.2)||(decide ((0:Int)<(ret35v.2.1.length:Int)))))=false from hg);exact this⟩) (fun ret50v h=>?_)
       refine rq 2 (ob:=((((!ret35v.2.2)||(decide ((0:Int)<(ret35v.2.1.length:Int))))=false→True)∧Ts 1 True)) (st':=(⟨59,[e45b6 w,e45b21,sp 11 11,sB 52 (((!ret35v.2.2)||(decide ((0:Int)<(ret35v.2.1.length:Int))))||(!ret50v))],[e45b4 ret35v,e45b1 g w,e45b2 ret31v]⟩:St)) (by kernel_rfl) (⟨(fun _=>trivial),tsI 1 trivial⟩) ?_
       refine nn ?_
       refine aw_cond (b:=(((!ret35v.2.2)||(decide ((0:Int)<(ret35v.2.1.length:Int))))||(!ret50v))) (by kernel_rfl) (fun hb=>?_) (fun hb=>?_)
       ·have h:=h.1 hb
        refine srn 2 ⟨59,[e45b24,sI 7 (5:Int)],[]⟩ (by kernel_rfl) rfl ?_
        refine aw_ret ?_
        refine thenQ_r ?_
        exact retQ_r (ob:=Ts 2 True) _ (by kernel_rfl) (tsI 2 trivial) h
       ·have h:=h.2 hb
        refine aw_skip ?_
        refine thenQ_n ?_
        refine sr ?_
        refine rqT 5 ⟨59,[sp 53 70000,e45b14 ret35v,e45b22 w],[e45b1 g w,e45b2 ret31v]⟩ (by kernel_rfl) ?_
        refine awl_lcall (σ:=Int×LK) [70000,70001] [70000] [.c (.ptr 70000 0),.agg [.pI ret35v.1.rule,.p (.sl .tr) ret35v.1.kids,.pS ret35v.1.word],.agg [.pI (0:Int),.pI (w.length:Int)]] [] (fun ret58v=>.v (.c (.pI ret58v.1))) (fun ret58v=>[e45b1 g w,(70001,[],.dict (.pr tI t3) tI ret58v.2)]) (_) [e45b1 g w,e45b2 ret31v] (fun ret58v=>(⟨59,[sI 58 ret58v.1,sp 53 70000,e45b14 ret35v,e45b22 w],[e45b1 g w,(70001,[],.dict (.pr tI t3) tI ret58v.2)]⟩:St)) rfl rfl (by kernel_rfl) rfl (by kernel_rfl) Try.call61 (by kernel_rfl) (by kernel_rfl) (by kernel_rfl) (fun _ _=>rfl) (fun _=>by kernel_rfl) (linkcr61 g.1 g.2.1 g.2.2.1 g.2.2.2 w ret35v.1.rule ret35v.1.kids ret35v.1.word (0:Int) (w.length:Int) ret31v.2 _ h) (fun ret58v h=>?_)
        refine lpr (st':=(⟨59,[sI 58 ret58v.1],[]⟩:St)) (by kernel_rfl) ?_
        refine rqT 2 ⟨59,[sI 6 ret58v.1,sI 7 (0:Int)],[]⟩ (by kernel_rfl) ?_
        refine nn ?_
        refine aw_ret ?_
        exact retQ_r (ob:=Ts 2 True) _ (by kernel_rfl) (tsI 2 trivial) h
-- coppicer/coppicertop.may
def VC14 (k:Int) (n:Int) (script:LD) (K:Bool→Prop):Prop :=
  K (((((decide ((1:Int)≤k))&&(decide (k≤(3:Int))))&&(decide ((1:Int)≤n)))&&(decide (n≤(5:Int))))&&(decide ((script.length:Int)≤(40:Int))))
set_option maxHeartbeats 4000000 in
theorem link14 (k:Int) (n:Int) (script:LD) (K:Bool→Prop) (h:VC14 k n script K):ACalls Try.prog 14 [toV1 tI k,toV1 tI n,toV1 (.sl (.pr tI (.pr tR (.pr (.sl tI) tR)))) script] (fun res=>∃ y,res=(fun y=>[toV1 .bool y]) y∧K y):=by
 refine acalls_of_aw [.bool] [.t 6] Try.func14 rfl rfl rfl ?_
 unfold VC14 at h
 refine sr ?_
 refine rqT 1 ⟨26,[sI 0 k,sI 1 n,s1 2 (.p (.sl (.pr tI (.pr tR (.pr (.sl tI) tR)))) script)],[]⟩ (by kernel_rfl) ?_
 refine nsr ?_
 refine rq 20 (ob:=(Ts 3 (Ti 2 ((decide ((1:Int)≤k))=true→True) (Ts 2 (Ti 2 (((decide ((1:Int)≤k))&&(decide (k≤(3:Int))))=true→True) (Ts 2 (Ti 2 ((((decide ((1:Int)≤k))&&(decide (k≤(3:Int))))&&(decide ((1:Int)≤n)))=true→True) (Ts 2 (Ti 3 (((((decide ((1:Int)≤k))&&(decide (k≤(3:Int))))&&(decide ((1:Int)≤n)))&&(decide (n≤(5:Int))))=true→True) (Ts 2 True)))))))))) (st':=(⟨26,[sB 6 (((((decide ((1:Int)≤k))&&(decide (k≤(3:Int))))&&(decide ((1:Int)≤n)))&&(decide (n≤(5:Int))))&&(decide ((script.length:Int)≤(40:Int))))],[]⟩:St)) (by kernel_rfl) (tsI 3 (tiI 2 (fun _=>trivial) (tsI 2 (tiI 2 (fun _=>trivial) (tsI 2 (tiI 2 (fun _=>trivial) (tsI 2 (tiI 3 (fun _=>trivial) (tsI 2 trivial))))))))) ?_
 refine nn ?_
 refine aw_ret ?_
 exact retQ_r (ob:=Ts 1 True) _ (by kernel_rfl) (tsI 1 trivial) h
-- coppicer/coppicerref.Ints
def VC15_k1 (K:Bool→Prop):Prop :=
  K true
def VC15_l1 (a:LI) (b:LI) (K:Bool→Prop) (i:Int) (X1:Int→Prop):Prop :=
  (((decide (i<(a.length:Int)))=true→(inIdx i a.length∧inIdx i b.length∧(((!decide ((a.getD (i).toNat (0:Int))=(b.getD (i).toNat (0:Int))))=true→K false)∧((!decide ((a.getD (i).toNat (0:Int))=(b.getD (i).toNat (0:Int))))=false→(InR (i+(1:Int))∧X1 (i+(1:Int)))))))∧((decide (i<(a.length:Int)))=false→VC15_k1 K))
def VC15 (a:LI) (b:LI) (K:Bool→Prop):Prop :=
  (((!decide ((a.length:Int)=(b.length:Int)))=true→K false)∧((!decide ((a.length:Int)=(b.length:Int)))=false→Loop (σ:=Int) (fun s X=>VC15_l1 a b K s X) (0:Int)))
set_option maxHeartbeats 4000000 in
theorem link15 (a:LI) (b:LI) (K:Bool→Prop) (h:VC15 a b K):ACalls Try.prog 15 [toV1 (.sl tI) a,toV1 (.sl tI) b] (fun res=>∃ y,res=(fun y=>[toV1 .bool y]) y∧K y):=by
 refine acalls_of_aw [.bool] [.t 4] Try.func15 rfl rfl rfl ?_
 unfold VC15 at h
 refine srn 1 ⟨26,[s1 0 (.pS a),s1 1 (.pS b)],[]⟩ (by kernel_rfl) rfl ?_
 refine aw_seq ?_
 refine srn 5 ⟨26,[s1 0 (.pS a),s1 1 (.pS b),sB 10 (!decide ((a.length:Int)=(b.length:Int)))],[]⟩ (by kernel_rfl) rfl ?_
 refine aw_cond (b:=(!decide ((a.length:Int)=(b.length:Int)))) (by kernel_rfl) (fun hb=>?_) (fun hb=>?_)
 ·have h:=h.1 hb
  refine srn 1 ⟨26,[sB 4 false],[]⟩ (by kernel_rfl) rfl ?_
  refine aw_ret ?_
  refine thenQ_r ?_
  exact retQ_r (ob:=Ts 1 True) _ (by kernel_rfl) (tsI 1 trivial) h
 ·have h:=h.2 hb
  refine aw_skip ?_
  refine thenQ_n ?_
  refine aw_seq ?_
  refine srn 1 ⟨26,[s1 0 (.pS a),s1 1 (.pS b),sI 5 (0:Int)],[]⟩ (by kernel_rfl) rfl ?_
  refine withJoin (σ:=Unit) (fun s=>(⟨26,[],[]⟩:St)) (fun s=>VC15_k1 K) (fun s h=>?_) (fun rest1=>?_)
  ·have h:VC15_k1 K:=h
   unfold VC15_k1 at h
   refine thenQ_n ?_
   refine srn 1 ⟨26,[sB 4 true],[]⟩ (by kernel_rfl) rfl ?_
   refine aw_ret ?_
   exact retQ_r (ob:=Ts 1 True) _ (by kernel_rfl) (tsI 1 trivial) h
  ·refine aw_block ?_
   refine aw_loop (σ:=Int) (fun s=>(⟨26,[s1 0 (.pS a),s1 1 (.pS b),sI 5 s],[]⟩:St)) (fun s X=>VC15_l1 a b K s X) (s0:=(0:Int)) (fun i X1 h=>?_) h
   have h:VC15_l1 a b K i X1:=h
   unfold VC15_l1 at h
   refine aw_seq ?_
   refine srn 4 ⟨26,[s1 0 (.pS a),s1 1 (.pS b),sI 5 i,sB 14 (decide (i<(a.length:Int)))],[]⟩ (by kernel_rfl) rfl ?_
   refine aw_cond (b:=(decide (i<(a.length:Int)))) (by kernel_rfl) (fun hb=>?_) (fun hb=>?_)
   ·have h:=h.1 hb
    refine aw_skip ?_
    refine thenQ_n ?_
    refine aw_seq ?_
    refine aw_block ?_
    refine aw_seq ?_
    refine awd_begin [] (by kernel_rfl) ?_
    obtain ⟨o1,o2,h⟩:=h
    refine drq (by kernel_rfl) [0,1,2,3,4,5,6,7,8] (ob:=(Ts 2 (inIdx i a.length∧Ts 3 (inIdx i b.length∧Ts 2 True)))) (done':=[8,7,6,5,4,3,2,1,0]) (st':=(⟨26,[s1 0 (.pS a),s1 1 (.pS b),sI 5 i,sB 25 (!decide ((a.getD (i).toNat (0:Int))=(b.getD (i).toNat (0:Int))))],[]⟩:St)) (by kernel_rfl) (tsI 2 (⟨o1,tsI 3 ⟨o2,tsI 2 trivial⟩⟩)) ?_
    refine awd_done (by kernel_rfl) ?_
    refine thenQ_n ?_
    refine aw_cond (b:=(!decide ((a.getD (i).toNat (0:Int))=(b.getD (i).toNat (0:Int))))) (by kernel_rfl) (fun hb=>?_) (fun hb=>?_)
    ·have h:=h.1 hb
     refine srn 1 ⟨26,[sB 4 false],[]⟩ (by kernel_rfl) rfl ?_
     refine aw_ret ?_
     refine blockQ_r ?_
     refine thenQ_r ?_
     refine thenQ_r ?_
     refine blockQ_r ?_
     refine thenQ_r ?_
     exact retQ_r (ob:=Ts 1 True) _ (by kernel_rfl) (tsI 1 trivial) h
    ·have h:=h.2 hb
     refine aw_skip ?_
     refine blockQ_n ?_
     refine thenQ_n ?_
     refine aw_region ?_
     obtain ⟨o1,h⟩:=h
     refine rq 3 (ob:=(Ts 1 (InR (i+(1:Int))∧Ts 1 True))) (st':=(⟨26,[s1 0 (.pS a),s1 1 (.pS b),sI 5 (i+(1:Int))],[]⟩:St)) (by kernel_rfl) (tsI 1 ⟨o1,tsI 1 trivial⟩) ?_
     refine awl_nil ?_
     exact thenQ_n ⟨(i+(1:Int)),rfl,h⟩
   ·have h:=h.2 hb
    refine cpr (st':=(⟨26,[],[]⟩:St)) (by kernel_rfl) ?_
    refine aw_exit ?_
    refine thenQ_x ?_
    refine thenQ_x ?_
    refine blockQ_hit ?_
    exact rest1 () h
end Dec
