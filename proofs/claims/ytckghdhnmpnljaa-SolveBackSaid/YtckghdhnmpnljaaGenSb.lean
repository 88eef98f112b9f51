/-
Printed by dec2.py: of each function its plain demand, and that the demand gives the contract.
-/
import Derived.Test.YtckghdhnmpnljaaGenSa
set_option linter.unusedSimpArgs false
set_option linter.unusedVariables false
set_option maxRecDepth 100000
set_option maxHeartbeats 4000000
namespace Dec
open Go Go.RowKit Go.Proofs
abbrev e53_0 (m:(LL×LI)):=hB 2 [.p (.sl (.sl tI)) m.1,.pS m.2]
abbrev e53_1 (number:Lqe):Nat×Path×Con:=(19,[],.dict (.ar 3 tI) tI number)
abbrev e53_2 (classv:LI):=hA 18 3 tI classv
abbrev e53_3 (classv:LI):=sI 24 (classv.length:Int)
abbrev e53_4 (next:LI):=hA 22 3 tI next
abbrev e53_5:=s1 6 (.own 18)
abbrev e53_6:=s1 8 (.own 19)
abbrev e53_7:=s1 9 (.own 22)
abbrev e53_8 (key:LI) (v33:Int) (classv:LI) (m:(LL×LI)) (v25:Int):Nat×Path×Con:=(12,[],.vec 4 tI (key.set (((v33+(1:Int))).toNat) (classv.getD ((((m.1.getD (v25).toNat ([]:LI)).getD (v33).toNat (0:Int))).toNat) (0:Int))))
abbrev e53_9:=s1 23 (.own 18)
abbrev e53_10:Nat×Path×Con:=(19,[],.dict (.ar 3 tI) tI ([]:List (LI×Int)))
abbrev e53_11 (classv:LI) (v25:Int):Nat×Path×Con:=(12,[],.vec 4 tI [(classv.getD ((v25).toNat) (0:Int)),(0:Int),(0:Int),(0:Int)])
abbrev e53_12 (key:LI):Nat×Path×Con:=(12,[],.vec 4 tI key)
-- coppicer/after.refine
def VC53_k1 (K:LI×Int→Prop) (many:Int) (X1:Int×LI→Prop) (number:Lqe) (next:LI):Prop :=
  (InR (number.length:Int)∧(((decide ((number.length:Int)=many))=true→K (next,many))∧((decide ((number.length:Int)=many))=false→(InR (number.length:Int)∧X1 ((number.length:Int),next)))))
def VC53_k3 (v25:Int) (next:LI) (X2:Int×Lqe×LI→Prop) (n:Int) (number2:Lqe):Prop :=
  (inIdx v25 next.length∧(InR (v25+(1:Int))∧X2 ((v25+(1:Int)),number2,(next.set ((v25).toNat) n))))
def VC53_k2 (v25:Int) (number:Lqe) (next:LI) (X2:Int×Lqe×LI→Prop) (key:LI):Prop :=
  (((!(mget number (a4 key)).isSome)=true→(InR (number.length:Int)∧VC53_k3 v25 next X2 (number.length:Int) (mset number (a4 key) (number.length:Int))))∧((!(mget number (a4 key)).isSome)=false→VC53_k3 v25 next X2 ((mget number (a4 key)).getD (0:Int)) number))
def VC53_l3 (m:(LL×LI)) (k:Int) (classv:LI) (v25:Int) (number:Lqe) (next:LI) (X2:Int×Lqe×LI→Prop) (v33:Int) (key:LI) (X3:Int×LI→Prop):Prop :=
  (((decide (v33<k))=true→(InR (v33+(1:Int))∧inIdx v25 m.1.length∧inIdx v33 (m.1.getD (v25).toNat ([]:LI)).length∧inIdx ((m.1.getD (v25).toNat ([]:LI)).getD (v33).toNat (0:Int)) classv.length∧inIdx (v33+(1:Int)) 4∧(InR (v33+(1:Int))∧X3 ((v33+(1:Int)),(key.set (((v33+(1:Int))).toNat) (classv.getD ((((m.1.getD (v25).toNat ([]:LI)).getD (v33).toNat (0:Int))).toNat) (0:Int)))))))∧((decide (v33<k))=false→VC53_k2 v25 number next X2 key))
def VC53_l2 (m:(LL×LI)) (k:Int) (K:LI×Int→Prop) (many:Int) (classv:LI) (X1:Int×LI→Prop) (v25:Int) (number:Lqe) (next:LI) (X2:Int×Lqe×LI→Prop):Prop :=
  (((decide (v25<(classv.length:Int)))=true→(inIdx v25 classv.length∧Loop (σ:=Int×LI) (fun s X=>VC53_l3 m k classv v25 number next X2 s.1 s.2 X) ((0:Int),[(classv.getD ((v25).toNat) (0:Int)),(0:Int),(0:Int),(0:Int)])))∧((decide (v25<(classv.length:Int)))=false→VC53_k1 K many X1 number next))
def VC53_l1 (m:(LL×LI)) (k:Int) (K:LI×Int→Prop) (many:Int) (classv:LI) (X1:Int×LI→Prop):Prop :=
  (room (classv.length:Int)∧Loop (σ:=Int×Lqe×LI) (fun s X=>VC53_l2 m k K many classv X1 s.1 s.2.1 s.2.2 X) ((0:Int),([]:List (LI×Int)),(List.replicate ((classv.length:Int)).toNat (0:Int))))
def VC53 (m:(LL×LI)) (k:Int) (K:LI×Int→Prop):Prop :=
  VC91 m.2 (fun (ret18v:LI)=>Loop (σ:=Int×LI) (fun s X=>VC53_l1 m k K s.1 s.2 X) ((0:Int),ret18v))
theorem link53 (m:(LL×LI)) (k:Int) (K:LI×Int→Prop) (h:VC53 m k K):ACalls Try.prog 53 [toV1 (.pr (.sl (.sl tI)) (.sl tI)) m,toV1 tI k] (fun res=>∃ y,res=(fun y=>[toV1 (.sl tI) y.1,toV1 tI y.2]) y∧K y):=by
 refine acalls_of_aw [(.sl tI),tI] [.t 4,.t 5] Try.func53 rfl rfl rfl ?_
 unfold VC53 at h
 refine sr (qT 3 ⟨78,[sI 1 k,sp 2 2],[e53_0 m]⟩ (nsr (qT 2 ⟨78,[sI 1 k,sp 2 2,s1 17 (.pS m.2)],[e53_0 m]⟩ (awl_callOk (e:=3) (t:=tI) (l:=[toV1 (.sl tI) m.2]) (cl:=[]) false [.d (.sl tI)] [1,2,18] [2,18] (fun (ret18v:LI)=>Loop (σ:=Int×LI) (fun s X=>VC53_l1 m k K s.1 s.2 X) ((0:Int),ret18v)) (fun ret18v=>⟨78,[sI 1 k,sp 2 2,s1 18 (.own 18)],[e53_0 m,hA 18 3 tI ret18v]⟩) rfl rfl (by kernel_rfl) rfl (by kernel_rfl) Try.call91 (by kernel_rfl) (fun e=>by cases e) (fun ret18v=>by kernel_rfl) (link91 m.2 _ h) (fun ret18v h=>?_)))))
 refine qT 2 ⟨78,[sI 1 k,sp 2 2,e53_5,sI 7 (0:Int)],[e53_0 m,hA 18 3 tI ret18v]⟩ (nn (aw_block (aw_loop (σ:=Int×LI) (fun s=>⟨78,[sI 1 k,sp 2 2,e53_5,sI 7 s.1],[e53_0 m,hA 18 3 tI s.2]⟩) (fun s X=>VC53_l1 m k K s.1 s.2 X) (s0:=((0:Int),ret18v)) (fun s X1 h=>?_) h)))
 obtain ⟨many,classv⟩:=s
 have h:VC53_l1 m k K many classv X1:=h
 unfold VC53_l1 at h
 refine aw_block (sr (qT 2 ⟨78,[sI 1 k,sp 2 2,e53_5,sI 7 many,e53_6],[e53_0 m,e53_2 classv,e53_10]⟩ (nsr (qA 4 2 1 ⟨78,[sI 1 k,sp 2 2,e53_5,sI 7 many,e53_6,e53_7],[e53_0 m,e53_2 classv,e53_10,hA 22 3 tI (List.replicate ((classv.length:Int)).toNat (0:Int))]⟩ h fun h=>nn (aw_seq (qS 3 ⟨78,[sI 1 k,sp 2 2,e53_5,sI 7 many,e53_6,e53_7,e53_9,e53_3 classv,sI 25 (0:Int)],[e53_0 m,e53_2 classv,e53_10,hA 22 3 tI (List.replicate ((classv.length:Int)).toNat (0:Int))]⟩ (withJoin (σ:=Lqe×LI) (fun s=>⟨78,[sI 1 k,sp 2 2,sI 7 many,e53_6,e53_7],[e53_0 m,(19,[],.dict (.ar 3 tI) tI s.1),hA 22 3 tI s.2]⟩) (fun s=>VC53_k1 K many X1 s.1 s.2) (fun s h=>?_) (fun rest1=>?_))))))))
 ·obtain ⟨number,next⟩:=s
  have h:VC53_k1 K many X1 number next:=h
  unfold VC53_k1 at h
  refine thenQ_n (aw_seq (sr (qA 4 1 2 ⟨78,[sI 1 k,sp 2 2,sI 7 many,e53_6,e53_7,sB 72 (decide ((number.length:Int)=many))],[e53_0 m,e53_1 number,e53_4 next]⟩ h fun h=>nn (qI h (fun h=>?_) fun h=>?_))))
  ·exact qS 4 ⟨78,[s1 4 (.own 22),sI 5 many],[e53_4 next]⟩ (qV [.freeze 22] ⟨78,[s1 4 (.pS next),sI 5 many],[]⟩ (aw_ret (thenQ_r (blockQ_r (thenQ_r (blockQ_r (qE 2 h)))))))
  ·exact aw_skip (thenQ_n (aw_region (qA 5 2 2 ⟨78,[sI 1 k,sp 2 2,s1 6 (.own 22),sI 7 (number.length:Int)],[e53_0 m,e53_4 next]⟩ h fun h=>qW [.ren 22 20022,.ren 20022 18] ⟨78,[sI 1 k,sp 2 2,e53_5,sI 7 (number.length:Int)],[e53_0 m,hA 18 3 tI next]⟩ (awl_nil (blockQ_n (thenQ_n ⟨((number.length:Int),next),rfl,h⟩))))))
 ·refine aw_block (aw_loop (σ:=Int×Lqe×LI) (fun s=>⟨78,[sI 1 k,sp 2 2,e53_5,sI 7 many,e53_6,e53_7,e53_9,e53_3 classv,sI 25 s.1],[e53_0 m,e53_2 classv,(19,[],.dict (.ar 3 tI) tI s.2.1),hA 22 3 tI s.2.2]⟩) (fun s X=>VC53_l2 m k K many classv X1 s.1 s.2.1 s.2.2 X) (s0:=((0:Int),([]:List (LI×Int)),(List.replicate ((classv.length:Int)).toNat (0:Int)))) (fun s X2 h=>?_) h)
  obtain ⟨v25,number,next⟩:=s
  have h:VC53_l2 m k K many classv X1 v25 number next X2:=h
  unfold VC53_l2 at h
  refine qS 1 ⟨78,[sI 1 k,sp 2 2,e53_5,sI 7 many,e53_6,e53_7,e53_9,e53_3 classv,sI 25 v25,sB 26 (decide (v25<(classv.length:Int)))],[e53_0 m,e53_2 classv,e53_1 number,e53_4 next]⟩ (aw_seq (qI h (fun h=>?_) fun h=>?_))
  ·refine aw_skip (thenQ_n (aw_seq (aw_block (sr (qA 5 1 3 ⟨78,[sI 1 k,sp 2 2,e53_5,sI 7 many,e53_6,e53_7,sI 10 v25,sI 11 (classv.getD ((v25).toNat) (0:Int)),e53_9,e53_3 classv,sI 25 v25],[e53_0 m,e53_2 classv,e53_1 number,e53_4 next]⟩ h fun h=>nsr (qT 4 ⟨78,[sI 1 k,sp 2 2,e53_5,sI 7 many,e53_6,e53_7,sI 10 v25,sp 12 12,e53_9,e53_3 classv,sI 25 v25],[e53_0 m,e53_11 classv v25,e53_2 classv,e53_1 number,e53_4 next]⟩ (nn (aw_seq (qS 2 ⟨78,[sI 1 k,sp 2 2,e53_5,sI 7 many,e53_6,e53_7,sI 10 v25,sp 12 12,e53_9,e53_3 classv,sI 25 v25,sI 32 k,sI 33 (0:Int)],[e53_0 m,e53_11 classv v25,e53_2 classv,e53_1 number,e53_4 next]⟩ (withJoin (σ:=LI) (fun s=>⟨78,[sI 1 k,sp 2 2,e53_5,sI 7 many,e53_6,e53_7,sI 10 v25,sp 12 12,e53_9,e53_3 classv,sI 25 v25],[e53_0 m,(12,[],.vec 4 tI s),e53_2 classv,e53_1 number,e53_4 next]⟩) (fun s=>VC53_k2 v25 number next X2 s) (fun key h=>?_) (fun rest3=>?_)))))))))))
   ·have h:VC53_k2 v25 number next X2 key:=h
    unfold VC53_k2 at h
    refine thenQ_n (qS 8 ⟨78,[sI 1 k,sp 2 2,e53_5,sI 7 many,e53_6,e53_7,sI 10 v25,sp 12 12,sI 14 ((mget number (a4 key)).getD (0:Int)),sB 15 ((mget number (a4 key)).isSome),e53_9,e53_3 classv,sI 25 v25],[e53_0 m,e53_12 key,e53_2 classv,e53_1 number,e53_4 next]⟩ (aw_seq (qS 2 ⟨78,[sI 1 k,sp 2 2,e53_5,sI 7 many,e53_6,e53_7,sI 10 v25,sp 12 12,sI 14 ((mget number (a4 key)).getD (0:Int)),e53_9,e53_3 classv,sI 25 v25,sB 58 (!(mget number (a4 key)).isSome)],[e53_0 m,e53_12 key,e53_2 classv,e53_1 number,e53_4 next]⟩ (withJoin (σ:=Int×Lqe) (fun s=>⟨78,[sI 1 k,sp 2 2,e53_5,sI 7 many,e53_6,e53_7,sI 10 v25,sI 14 s.1,e53_9,e53_3 classv,sI 25 v25],[e53_0 m,e53_2 classv,(19,[],.dict (.ar 3 tI) tI s.2),e53_4 next]⟩) (fun s=>VC53_k3 v25 next X2 s.1 s.2) (fun s h=>?_) (fun rest2=>?_)))))
    ·obtain ⟨n,number2⟩:=s
     have h:VC53_k3 v25 next X2 n number2:=h
     unfold VC53_k3 at h
     exact thenQ_n (aw_region (qA 5 3 1 ⟨78,[sI 1 k,sp 2 2,e53_5,sI 7 many,e53_6,e53_7,e53_9,e53_3 classv,sI 25 v25],[e53_0 m,e53_2 classv,(19,[],.dict (.ar 3 tI) tI number2),hA 22 3 tI (next.set ((v25).toNat) n)]⟩ h fun h=>awl_nil (blockQ_n (thenQ_n (aw_region (qA 2 0 1 ⟨78,[sI 1 k,sp 2 2,e53_5,sI 7 many,e53_6,e53_7,e53_9,e53_3 classv,sI 25 (v25+(1:Int))],[e53_0 m,e53_2 classv,(19,[],.dict (.ar 3 tI) tI number2),hA 22 3 tI (next.set ((v25).toNat) n)]⟩ h fun h=>awl_nil (thenQ_n ⟨((v25+(1:Int)),number2,(next.set ((v25).toNat) n)),rfl,h⟩)))))))
    ·refine qI h (fun h=>?_) fun h=>?_
     ·exact sr (qA 3 1 1 ⟨78,[sI 1 k,sp 2 2,e53_5,sI 7 many,e53_6,e53_7,sI 10 v25,sp 12 12,sI 14 (number.length:Int),e53_9,e53_3 classv,sI 25 v25],[e53_0 m,e53_12 key,e53_2 classv,e53_1 number,e53_4 next]⟩ h fun h=>nn (aw_region (qT 4 ⟨78,[sI 1 k,sp 2 2,e53_5,sI 7 many,e53_6,e53_7,sI 10 v25,sI 14 (number.length:Int),e53_9,e53_3 classv,sI 25 v25],[e53_0 m,e53_2 classv,(19,[],.dict (.ar 3 tI) tI (mset number (a4 key) (number.length:Int))),e53_4 next]⟩ (awl_nil (rest2 ((number.length:Int),(mset number (a4 key) (number.length:Int))) h)))))
     ·exact qC ⟨78,[sI 1 k,sp 2 2,e53_5,sI 7 many,e53_6,e53_7,sI 10 v25,sI 14 ((mget number (a4 key)).getD (0:Int)),e53_9,e53_3 classv,sI 25 v25],[e53_0 m,e53_2 classv,e53_1 number,e53_4 next]⟩ (aw_skip (rest2 (((mget number (a4 key)).getD (0:Int)),number) h))
   ·refine aw_block (aw_loop (σ:=Int×LI) (fun s=>⟨78,[sI 1 k,sp 2 2,e53_5,sI 7 many,e53_6,e53_7,sI 10 v25,sp 12 12,e53_9,e53_3 classv,sI 25 v25,sI 32 k,sI 33 s.1],[e53_0 m,(12,[],.vec 4 tI s.2),e53_2 classv,e53_1 number,e53_4 next]⟩) (fun s X=>VC53_l3 m k classv v25 number next X2 s.1 s.2 X) (s0:=((0:Int),[(classv.getD ((v25).toNat) (0:Int)),(0:Int),(0:Int),(0:Int)])) (fun s X3 h=>?_) h)
    obtain ⟨v33,key⟩:=s
    have h:VC53_l3 m k classv v25 number next X2 v33 key X3:=h
    unfold VC53_l3 at h
    refine qS 1 ⟨78,[sI 1 k,sp 2 2,e53_5,sI 7 many,e53_6,e53_7,sI 10 v25,sp 12 12,e53_9,e53_3 classv,sI 25 v25,sI 32 k,sI 33 v33,sB 34 (decide (v33<k))],[e53_0 m,e53_12 key,e53_2 classv,e53_1 number,e53_4 next]⟩ (aw_seq (qI h (fun h=>?_) fun h=>?_))
    ·refine aw_skip (thenQ_n (aw_seq (aw_block (qS 2 ⟨78,[sI 1 k,sp 2 2,e53_5,sI 7 many,e53_6,e53_7,sI 10 v25,sp 12 12,sI 13 v33,e53_9,e53_3 classv,sI 25 v25,sI 32 k,sI 33 v33],[e53_0 m,e53_12 key,e53_2 classv,e53_1 number,e53_4 next]⟩ (aw_region ?_)))))
     obtain ⟨o1,o2,o3,o4,o5,h⟩:=h
     refine qR 15 ⟨78,[sI 1 k,sp 2 2,e53_5,sI 7 many,e53_6,e53_7,sI 10 v25,sp 12 12,e53_9,e53_3 classv,sI 25 v25,sI 32 k,sI 33 v33],[e53_0 m,e53_8 key v33 classv m v25,e53_2 classv,e53_1 number,e53_4 next]⟩ (ob:=Ts 1 (InR (v33+(1:Int))∧Ts 4 (inIdx v25 m.1.length∧Ts 2 (inIdx v33 (m.1.getD (v25).toNat ([]:LI)).length∧Ts 1 (inIdx ((m.1.getD (v25).toNat ([]:LI)).getD (v33).toNat (0:Int)) classv.length∧Ts 1 (inIdx (v33+(1:Int)) 4∧Ts 1 True)))))) (tsI 1 (⟨o1,tsI 4 (⟨o2,tsI 2 (⟨o3,tsI 1 (⟨o4,tsI 1 ⟨o5,tsI 1 trivial⟩⟩)⟩)⟩)⟩)) ?_
     exact awl_nil (blockQ_n (thenQ_n (aw_region (qA 2 0 1 ⟨78,[sI 1 k,sp 2 2,e53_5,sI 7 many,e53_6,e53_7,sI 10 v25,sp 12 12,e53_9,e53_3 classv,sI 25 v25,sI 32 k,sI 33 (v33+(1:Int))],[e53_0 m,e53_8 key v33 classv m v25,e53_2 classv,e53_1 number,e53_4 next]⟩ h fun h=>awl_nil (thenQ_n ⟨((v33+(1:Int)),(key.set (((v33+(1:Int))).toNat) (classv.getD ((((m.1.getD (v25).toNat ([]:LI)).getD (v33).toNat (0:Int))).toNat) (0:Int)))),rfl,h⟩)))))
    ·exact qC ⟨78,[sI 1 k,sp 2 2,e53_5,sI 7 many,e53_6,e53_7,sI 10 v25,sp 12 12,e53_9,e53_3 classv,sI 25 v25],[e53_0 m,e53_12 key,e53_2 classv,e53_1 number,e53_4 next]⟩ (aw_exit (thenQ_x (thenQ_x (blockQ_hit (rest3 key h)))))
  ·exact qC ⟨78,[sI 1 k,sp 2 2,sI 7 many,e53_6,e53_7],[e53_0 m,e53_1 number,e53_4 next]⟩ (aw_exit (thenQ_x (thenQ_x (blockQ_hit (rest1 (number,next) h)))))
-- coppicer/after.Sure$1$1
def VC56 (x:Int) (a1:LI) (a2:Int) (K:Bool→Prop):Prop :=
  (inIdx x a1.length∧inIdx a2 a1.length∧K (decide ((a1.getD (x).toNat (0:Int))=(a1.getD (a2).toNat (0:Int)))))
theorem link56 (x:Int) (a1:LI) (a2:Int) (K:Bool→Prop) (h:VC56 x a1 a2 K):ACalls Try.prog 56 [toV1 tI x,.c (.ad (.sl tI) a1),.c (.ad tI a2)] (fun res=>∃ y,res=(fun y=>[toV1 .bool y]) y∧K y):=by
 refine acalls_of_aw [.bool] [.t 4] Try.func56 rfl rfl rfl ?_
 unfold VC56 at h
 refine qS 1 ⟨14,[sI 0 x,s1 1 (.ad (.sl tI) a1),s1 2 (.ad tI a2)],[]⟩ (aw_seq (awd_begin [] (by kernel_rfl) ?_))
 obtain ⟨o1,o2,h⟩:=h
 refine qD [0,1,2,3,4,5,6,7,8,9] [9,8,7,6,5,4,3,2,1,0] ⟨14,[sB 4 (decide ((a1.getD (x).toNat (0:Int))=(a1.getD (a2).toNat (0:Int))))],[]⟩ (ob:=Ts 2 (inIdx x a1.length∧Ts 3 (inIdx a2 a1.length∧Ts 3 True))) (tsI 2 (⟨o1,tsI 3 ⟨o2,tsI 3 trivial⟩⟩)) ?_
 refine awd_done (by kernel_rfl) ?_
 exact thenQ_n (aw_ret (qE 1 h))
abbrev e55_0 (sv:LI):=sI 7 (sv.length:Int)
-- slices.IndexFunc[[]int,int]
def VC55_k1 (K:Int→Prop):Prop :=
  K (-1:Int)
def VC55_l1 (sv:LI) (F1:Int→(Bool→Prop)→Prop) (K:Int→Prop) (v8:Int) (X1:Int→Prop):Prop :=
  (((decide (v8<(sv.length:Int)))=true→(inIdx v8 sv.length∧F1 (sv.getD (v8).toNat (0:Int)) (fun (ret16v:Bool)=>((ret16v=true→K v8)∧(ret16v=false→(InR (v8+(1:Int))∧X1 (v8+(1:Int))))))))∧((decide (v8<(sv.length:Int)))=false→VC55_k1 K))
def VC55 (sv:LI) (F1:Int→(Bool→Prop)→Prop) (K:Int→Prop):Prop :=
  Loop (σ:=Int) (fun s X=>VC55_l1 sv F1 K s X) (0:Int)
theorem link55 (sv:LI) (fv1:FuncId) (cv1:List Dat) (F1:Int→(Bool→Prop)→Prop) (hF1:FnIs Try.prog fv1 cv1 (fun (x:Int)=>[toV1 tI x]) (fun (y:Bool)=>[toV1 .bool y]) F1) (K:Int→Prop) (h:VC55 sv F1 K):ACalls Try.prog 55 [toV1 (.sl tI) sv,.c (.fn fv1 cv1)] (fun res=>∃ y,res=(fun y=>[toV1 tI y]) y∧K y):=by
 refine acalls_of_aw [tI] [.t 4] Try.func55 rfl rfl rfl ?_
 unfold VC55 at h
 refine qS 1 ⟨19,[s1 0 (.pS sv),s1 1 (.fn fv1 cv1)],[]⟩ (aw_seq (qS 3 ⟨19,[s1 0 (.pS sv),s1 1 (.fn fv1 cv1),e55_0 sv,sI 8 (0:Int)],[]⟩ (withJoin (σ:=Unit) (fun s=>⟨19,[],[]⟩) (fun s=>VC55_k1 K) (fun s h=>?_) (fun rest1=>?_))))
 ·have h:VC55_k1 K:=h
  unfold VC55_k1 at h
  exact thenQ_n (qS 1 ⟨19,[sI 4 (-1:Int)],[]⟩ (aw_ret (qE 1 h)))
 ·refine aw_block (aw_loop (σ:=Int) (fun s=>⟨19,[s1 0 (.pS sv),s1 1 (.fn fv1 cv1),e55_0 sv,sI 8 s],[]⟩) (fun s X=>VC55_l1 sv F1 K s X) (s0:=(0:Int)) (fun v8 X1 h=>?_) h)
  have h:VC55_l1 sv F1 K v8 X1:=h
  unfold VC55_l1 at h
  refine qS 1 ⟨19,[s1 0 (.pS sv),s1 1 (.fn fv1 cv1),e55_0 sv,sI 8 v8,sB 9 (decide (v8<(sv.length:Int)))],[]⟩ (aw_seq (qI h (fun h=>?_) fun h=>?_))
  ·refine aw_skip (thenQ_n (aw_seq (aw_block (sr (qT 2 ⟨19,[s1 0 (.pS sv),s1 1 (.fn fv1 cv1),sI 5 v8,e55_0 sv,sI 8 v8],[]⟩ (nsr (qA 5 3 1 ⟨19,[s1 0 (.pS sv),s1 1 (.fn fv1 cv1),sI 5 v8,e55_0 sv,sI 8 v8,s1 11 (.fn fv1 cv1),sI 15 (sv.getD (v8).toNat (0:Int))],[]⟩ h fun h=>qK 16 [.d tI] (fun ret16v=>⟨19,[s1 0 (.pS sv),s1 1 (.fn fv1 cv1),sI 5 v8,e55_0 sv,sI 8 v8,sB 16 ret16v],[]⟩) hF1.1 (hF1.2 (sv.getD (v8).toNat (0:Int)) _ h) fun ret16v h=>?_)))))))
   refine nn (qI h (fun h=>?_) fun h=>?_)
   ·exact qS 2 ⟨19,[sI 4 v8],[]⟩ (aw_ret (blockQ_r (thenQ_r (thenQ_r (blockQ_r (thenQ_r (qE 1 h)))))))
   ·exact aw_skip (blockQ_n (thenQ_n (aw_region (qA 2 0 1 ⟨19,[s1 0 (.pS sv),s1 1 (.fn fv1 cv1),e55_0 sv,sI 8 (v8+(1:Int))],[]⟩ h fun h=>awl_nil (thenQ_n ⟨(v8+(1:Int)),rfl,h⟩)))))
  ·exact qC ⟨19,[],[]⟩ (aw_exit (thenQ_x (thenQ_x (blockQ_hit (rest1 () h)))))
abbrev e28_0:=hB 4 [.pI (0:Int),.pI (0:Int),.nils,.pI (0:Int),.pW (0:Int)]
abbrev e28_1 (ret25v:(LL×LI)):=hB 7 [.p (.sl (.sl tI)) ret25v.1,.pS ret25v.2]
abbrev e28_2 (ret29v:LI×Int) (k out:Int):=hB 10 [.pI ret29v.2,.pI k,.own 6202,.pI (0:Int),.pW out]
abbrev e28_3 (l6202:LL):Nat×Path×Con:=(6202,[],.deep 26 3 (.sl tI) l6202 [])
abbrev e28_4 (ret29v:LI×Int):=s1 12 (.cl 54 [.pt 11 0,.ad ⟨(.sl tI),ret29v.1⟩])
abbrev e28_5 (ret29v:LI×Int):=s1 30 (.cl 54 [.pt 11 0,.ad ⟨(.sl tI),ret29v.1⟩])
abbrev e28_6 (k:Int):=sI 67 ((List.replicate (k).toNat (0:Int)).length:Int)
abbrev e28_7 (ret25v:(LL×LI)) (l382:LI) (i v50:Int):=s1 3 (.ad tI ((ret25v.1.getD ((l382.getD ((i).toNat) (0:Int))).toNat ([]:LI)).getD (v50).toNat (0:Int)))
abbrev e28_8 (k:Int):=sI 49 ((List.replicate (k).toNat (0:Int)).length:Int)
abbrev e28_9 (row:LI):=hA 47 3 tI row
abbrev e28_10 (l382:LI):=hA 38 3 tI l382
abbrev e28_11:=hB 11 [.own 38]
abbrev e28_12 (ret29v:LI×Int):=s1 55 (.cl 54 [.pt 11 0,.ad ⟨(.sl tI),ret29v.1⟩])
abbrev e28_13 (ret25v:(LL×LI)) (l382:LI) (i v50:Int):=hB 3 [.pI ((ret25v.1.getD ((l382.getD ((i).toNat) (0:Int))).toNat ([]:LI)).getD (v50).toNat (0:Int))]
abbrev e28_14:=s1 32 (.own 47)
abbrev e28_15:=s1 71 (.own 47)
abbrev e28_16 (l6202:LL) (row:LI):Nat×Path×Con:=(74,[],.deep 26 3 (.sl tI) (l6202++[row]) [])
abbrev e28_17:=s1 14 (.own 47)
abbrev e28_18:=sp 10 10
abbrev e28_19 (ret29v:LI×Int):=s1 2 (.ad (.sl tI) ret29v.1)
abbrev e28_20:=sp 11 11
abbrev e28_21 (l382:LI) (ret25v:(LL×LI)) (i v50:Int):=hA 16 3 tI (l382++[((ret25v.1.getD ((l382.getD ((i).toNat) (0:Int))).toNat ([]:LI)).getD (v50).toNat (0:Int))])
abbrev e28_22 (ret29v:LI×Int) (k out:Int):=hB 10 [.pI ret29v.2,.pI k,.own 74,.pI (0:Int),.pW out]
abbrev e28_23:=hB 11 [.own 16]
abbrev e28_24 (ret29v:LI×Int) (k:Int):=hB 10 [.pI ret29v.2,.pI k,.nils,.pI (0:Int),.pW (0:Int)]
abbrev e28_25:=sp 28 10
abbrev e28_26:=sp 29 11
abbrev e28_27 (ret25v:(LL×LI)) (l382:LI) (i v50:Int):=sI 66 ((ret25v.1.getD ((l382.getD ((i).toNat) (0:Int))).toNat ([]:LI)).getD (v50).toNat (0:Int))
abbrev e28_28 (ret25v:(LL×LI)) (l382:LI) (i v50:Int):=sI 84 ((ret25v.1.getD ((l382.getD ((i).toNat) (0:Int))).toNat ([]:LI)).getD (v50).toNat (0:Int))
abbrev e28_29 (ret25v:(LL×LI)) (l382:LI) (i v50:Int):=sI 0 ((ret25v.1.getD ((l382.getD ((i).toNat) (0:Int))).toNat ([]:LI)).getD (v50).toNat (0:Int))
abbrev e28_30 (ret25v:(LL×LI)):=s1 57 (.p (.sl (.sl tI)) ret25v.1)
abbrev e28_31 (l16:LI):=hA 16 3 tI l16
abbrev e28_32:=s1 53 (.own 47)
abbrev e28_33:=hA 38 3 tI [(0:Int)]
abbrev e28_34 (ret29v:LI×Int):=s1 73 (.cl 54 [.pt 11 0,.ad ⟨(.sl tI),ret29v.1⟩])
abbrev e28_35 (l382:LI) (i:Int):=sI 61 (l382.getD ((i).toNat) (0:Int))
abbrev e28_36 (l382:LI):=sI 5 (l382.length:Int)
abbrev e28_37:=s1 6 (.own 38)
abbrev e28_38:Nat×Path×Con:=(6202,[],.deep 26 3 (.sl tI) ([]:List LI) [])
abbrev e28_n0:List Nat:=[4,7,10,11,38,47,6202]
abbrev e28_n1:List Nat:=[1,3,8,18,22,25,28,29,30,31,32,67,68,71,72]
abbrev e28_n2:List Nat:=[5,18,22,25,28,29,30,31,32,67,68,71,72]
-- coppicer/after.Sure
def VC28_k1 (k:Int) (K:Lqb×Int→Prop) (ret29v:LI×Int) (out:Int) (l6202:LL):Prop :=
  K ((ret29v.2,(k,(l6202,((0:Int),out)))),(0:Int))
def VC28_k3 (i:Int) (l6202:LL) (X1:Int×Int×LI×LL→Prop) (l382 row:LI) (out2:Int):Prop :=
  (InR (i+(1:Int))∧X1 ((i+(1:Int)),out2,l382,(l6202++[row])))
def VC28_k2 (ret25v:(LL×LI)) (i out:Int) (l6202:LL) (X1:Int×Int×LI×LL→Prop) (l382 row:LI):Prop :=
  (roomN (l6202.length+[row].length)∧(inIdx i l382.length∧inIdx (l382.getD ((i).toNat) (0:Int)) ret25v.2.length∧(((decide ((ret25v.2.getD ((l382.getD ((i).toNat) (0:Int))).toNat (0:Int))=(1:Int)))=true→(0≤i∧VC28_k3 i l6202 X1 l382 row (bOr .u32 out (bShl .u32 (1:Int) i))))∧((decide ((ret25v.2.getD ((l382.getD ((i).toNat) (0:Int))).toNat (0:Int))=(1:Int)))=false→VC28_k3 i l6202 X1 l382 row out))))
def VC28_k4 (v50:Int) (X2:Int×LI×LI→Prop) (l16 row2:LI):Prop :=
  (InR (v50+(1:Int))∧X2 ((v50+(1:Int)),l16,row2))
def VC28_k5 (v50:Int) (row:LI) (X2:Int×LI×LI→Prop) (n:Int) (l16:LI):Prop :=
  (inIdx v50 row.length∧VC28_k4 v50 X2 l16 (row.set ((v50).toNat) n))
def VC28_k6 (v50:Int) (row:LI) (X2:Int×LI×LI→Prop) (n:Int) (l16:LI):Prop :=
  (inIdx v50 row.length∧VC28_k4 v50 X2 l16 (row.set ((v50).toNat) n))
def VC28_k7 (v50:Int) (row:LI) (X2:Int×LI×LI→Prop) (n:Int) (l16:LI):Prop :=
  (inIdx v50 row.length∧VC28_k4 v50 X2 l16 (row.set ((v50).toNat) n))
def VC28_l2 (k:Int) (K:Lqb×Int→Prop) (ret25v:(LL×LI)) (ret29v:LI×Int) (i out:Int) (l6202:LL) (X1:Int×Int×LI×LL→Prop) (v50:Int) (l382 row:LI) (X2:Int×LI×LI→Prop):Prop :=
  (((decide (v50<((List.replicate (k).toNat (0:Int)).length:Int)))=true→((inIdx i l382.length∧(inIdx (l382.getD ((i).toNat) (0:Int)) ret25v.1.length∧inIdx v50 (ret25v.1.getD ((l382.getD ((i).toNat) (0:Int))).toNat ([]:LI)).length∧VC55 l382 (fun (x:Int) (K:Bool→Prop)=>VC56 x ret29v.1 ((ret25v.1.getD ((l382.getD ((i).toNat) (0:Int))).toNat ([]:LI)).getD (v50).toNat (0:Int)) K) (fun (ret8v:Int)=>(((decide (ret8v<(0:Int)))=true→(roomN (l382.length+[((ret25v.1.getD ((l382.getD ((i).toNat) (0:Int))).toNat ([]:LI)).getD (v50).toNat (0:Int))].length)∧VC28_k5 v50 row X2 (l382.length:Int) (l382++[((ret25v.1.getD ((l382.getD ((i).toNat) (0:Int))).toNat ([]:LI)).getD (v50).toNat (0:Int))])))∧((decide (ret8v<(0:Int)))=false→VC28_k5 v50 row X2 ret8v l382)))))∧(inIdx i l382.length∧((inIdx (l382.getD ((i).toNat) (0:Int)) ret25v.1.length∧inIdx v50 (ret25v.1.getD ((l382.getD ((i).toNat) (0:Int))).toNat ([]:LI)).length∧VC55 l382 (fun (x:Int) (K:Bool→Prop)=>VC56 x ret29v.1 ((ret25v.1.getD ((l382.getD ((i).toNat) (0:Int))).toNat ([]:LI)).getD (v50).toNat (0:Int)) K) (fun (ret8v:Int)=>(((decide (ret8v<(0:Int)))=true→(roomN (l382.length+[((ret25v.1.getD ((l382.getD ((i).toNat) (0:Int))).toNat ([]:LI)).getD (v50).toNat (0:Int))].length)∧VC28_k6 v50 row X2 (l382.length:Int) (l382++[((ret25v.1.getD ((l382.getD ((i).toNat) (0:Int))).toNat ([]:LI)).getD (v50).toNat (0:Int))])))∧((decide (ret8v<(0:Int)))=false→VC28_k6 v50 row X2 ret8v l382))))∧(inIdx (l382.getD ((i).toNat) (0:Int)) ret25v.1.length∧inIdx v50 (ret25v.1.getD ((l382.getD ((i).toNat) (0:Int))).toNat ([]:LI)).length∧VC55 l382 (fun (x:Int) (K:Bool→Prop)=>VC56 x ret29v.1 ((ret25v.1.getD ((l382.getD ((i).toNat) (0:Int))).toNat ([]:LI)).getD (v50).toNat (0:Int)) K) (fun (ret8v:Int)=>(((decide (ret8v<(0:Int)))=true→(roomN (l382.length+[((ret25v.1.getD ((l382.getD ((i).toNat) (0:Int))).toNat ([]:LI)).getD (v50).toNat (0:Int))].length)∧VC28_k7 v50 row X2 (l382.length:Int) (l382++[((ret25v.1.getD ((l382.getD ((i).toNat) (0:Int))).toNat ([]:LI)).getD (v50).toNat (0:Int))])))∧((decide (ret8v<(0:Int)))=false→VC28_k7 v50 row X2 ret8v l382))))))))∧((decide (v50<((List.replicate (k).toNat (0:Int)).length:Int)))=false→VC28_k2 ret25v i out l6202 X1 l382 row))
def VC28_l1 (k:Int) (K:Lqb×Int→Prop) (ret25v:(LL×LI)) (ret29v:LI×Int) (i out:Int) (l38:LI) (l6202:LL) (X1:Int×Int×LI×LL→Prop):Prop :=
  (((decide (i<(l38.length:Int)))=true→(room k∧Loop (σ:=Int×LI×LI) (fun s X=>VC28_l2 k K ret25v ret29v i out l6202 X1 s.1 s.2.1 s.2.2 X) ((0:Int),l38,(List.replicate (k).toNat (0:Int)))))∧((decide (i<(l38.length:Int)))=false→VC28_k1 k K ret29v out l6202))
def VC28 (k:Int) (l:LN) (K:Lqb×Int→Prop):Prop :=
  VC45 k l (fun (ret18v:Int)=>(((!decide (ret18v=(0:Int)))=true→K (((0:Int),((0:Int),(([]:LL),((0:Int),(0:Int))))),ret18v))∧((!decide (ret18v=(0:Int)))=false→VC52 k l (fun (ret25v:(LL×LI))=>VC53 ret25v k (fun (ret29v:LI×Int)=>(((decide ((7:Int)<ret29v.2))=true→K (((0:Int),((0:Int),(([]:LL),((0:Int),(0:Int))))),(1:Int)))∧((decide ((7:Int)<ret29v.2))=false→Loop (σ:=Int×Int×LI×LL) (fun s X=>VC28_l1 k K ret25v ret29v s.1 s.2.1 s.2.2.1 s.2.2.2 X) ((0:Int),(0:Int),[(0:Int)],([]:List LI)))))))))
abbrev bdx0 (ret25v:(LL×LI)) (l382:LI) (i v50:Int):=(ret25v.1.getD ((l382.getD ((i).toNat) (0:Int))).toNat ([]:LI)).getD (v50).toNat (0:Int)
abbrev bdx1 (l382:LI) (i:Int):=l382.getD ((i).toNat) (0:Int)
abbrev bdx2 (ret8v:Int):=decide (ret8v<(0:Int))
theorem link28 (k:Int) (l:LN) (K:Lqb×Int→Prop) (h:VC28 k l K):ACalls Try.prog 28 [toV1 tI k,toV1 (.sl t3) l] (fun res=>∃ y,res=(fun y=>[toV1 (.pr tI (.pr tI (.pr (.sl (.sl tI)) (.pr tI (.int .u32))))) y.1,toV1 tI y.2]) y∧K y):=by
 refine acalls_of_aw [(.pr tI (.pr tI (.pr (.sl (.sl tI)) (.pr tI (.int .u32))))),tI] [.c 4 41,.t 5] Try.func28 rfl rfl rfl ?_
 unfold VC28 at h
 refine qS 2 ⟨92,[sI 0 k,s1 1 (.p (.sl t3) l),sp 4 4],[e28_0]⟩ (aw_seq (sr (qT 2 ⟨92,[sI 0 k,s1 1 (.p (.sl t3) l),sp 4 4,sI 16 k,s1 17 (.p (.sl t3) l)],[e28_0]⟩ (qK 18 [.d tI,.d (.sl t3)] (fun ret18v=>⟨92,[sI 0 k,s1 1 (.p (.sl t3) l),sp 4 4,sI 18 ret18v],[e28_0]⟩) Try.call45 (link45 k l _ h) fun ret18v h=>?_))))
 refine qT 1 ⟨92,[sI 0 k,s1 1 (.p (.sl t3) l),sp 4 4,sI 6 ret18v],[e28_0]⟩ (nsr (qT 2 ⟨92,[sI 0 k,s1 1 (.p (.sl t3) l),sp 4 4,sI 6 ret18v,sB 20 (!decide (ret18v=(0:Int)))],[e28_0]⟩ (nn (qI h (fun h=>?_) fun h=>?_))))
 ·exact qS 4 ⟨92,[sp 4 4,sI 5 ret18v],[e28_0]⟩ (aw_ret (thenQ_r (qE 2 h)))
 ·refine aw_skip (thenQ_n (sr (qT 2 ⟨92,[sI 0 k,sp 4 4,sI 23 k,s1 24 (.p (.sl t3) l)],[e28_0]⟩ (qK 25 [.d tI,.d (.sl t3)] (fun ret25v=>⟨92,[sI 0 k,sp 4 4,sA 25 [.p (.sl (.sl tI)) ret25v.1,.pS ret25v.2]],[e28_0]⟩) Try.call52 (link52 k l _ h) fun ret25v h=>?_))))
  refine qT 2 ⟨92,[sI 0 k,sp 4 4,sp 7 7],[e28_0,e28_1 ret25v]⟩ (nsr (qT 2 ⟨92,[sI 0 k,sp 4 4,sp 7 7,sA 27 [.p (.sl (.sl tI)) ret25v.1,.pS ret25v.2],sI 28 k],[e28_0,e28_1 ret25v]⟩ (qK 29 [.d (.pr (.sl (.sl tI)) (.sl tI)),.d tI] (fun ret29v=>⟨92,[sI 0 k,sp 4 4,sp 7 7,(29,[],.tup [.c (.pS ret29v.1),.c (.pI ret29v.2)])],[e28_0,e28_1 ret25v]⟩) Try.call53 (link53 ret25v k _ h) fun ret29v h=>?_)))
  refine qT 6 ⟨92,[sI 0 k,sp 4 4,sp 7 7,sp 8 8,sI 9 ret29v.2],[e28_0,e28_1 ret25v,hB 8 [.pS ret29v.1]]⟩ (nn (aw_seq (qS 2 ⟨92,[sI 0 k,sp 4 4,sp 7 7,sp 8 8,sI 9 ret29v.2,sB 33 (decide ((7:Int)<ret29v.2))],[e28_0,e28_1 ret25v,hB 8 [.pS ret29v.1]]⟩ (qI h (fun h=>?_) fun h=>?_))))
  ·exact qS 3 ⟨92,[sp 4 4,sI 5 (1:Int)],[e28_0]⟩ (aw_ret (thenQ_r (qE 2 h)))
  ·refine aw_skip (thenQ_n (sr (qT 5 ⟨92,[sI 0 k,sp 4 4,sp 7 7,sp 8 8,e28_18],[e28_0,e28_1 ret25v,hB 8 [.pS ret29v.1],e28_24 ret29v k]⟩ (nsr (qT 3 ⟨92,[sI 0 k,sp 4 4,sp 7 7,sp 8 8,e28_18,e28_20],[e28_0,e28_1 ret25v,hB 8 [.pS ret29v.1],e28_24 ret29v k,e28_11,e28_33]⟩ (nsr (qW [.freezeB 8 (.sl tI)] ⟨92,[sI 0 k,sp 4 4,sp 7 7,s1 8 (.ad (.sl tI) ret29v.1),e28_18,e28_20],[e28_0,e28_1 ret25v,e28_24 ret29v k,e28_11,e28_33]⟩ (qT 2 ⟨92,[sI 0 k,sp 4 4,sp 7 7,e28_18,e28_20,e28_4 ret29v],[e28_0,e28_1 ret25v,e28_24 ret29v k,e28_11,e28_33]⟩ (nn (aw_seq (qS 1 ⟨92,[sI 0 k,sp 4 4,sp 7 7,e28_18,e28_20,e28_4 ret29v,sI 13 (0:Int)],[e28_0,e28_1 ret25v,e28_24 ret29v k,e28_11,e28_33]⟩ (withJoin (σ:=Int×LL) (fun s=>⟨92,[sp 4 4,e28_18],[e28_0,hB 10 [.pI ret29v.2,.pI k,.own 6202,.pI (0:Int),.pW s.1],(6202,[],.deep 26 3 (.sl tI) s.2 [])]⟩) (fun s=>VC28_k1 k K ret29v s.1 s.2) (fun s h=>?_) (fun rest1=>?_)))))))))))))
   ·obtain ⟨out,l6202⟩:=s
    have h:VC28_k1 k K ret29v out l6202:=h
    unfold VC28_k1 at h
    refine thenQ_n (qS 3 ⟨92,[sp 4 4,sI 5 (0:Int)],[hB 4 [.pI ret29v.2,.pI k,.own 6202,.pI (0:Int),.pW out],e28_3 l6202]⟩ (cfd 6202 (ob:=True) (C:=[]) (st':=⟨92,[sp 4 4,sI 5 (0:Int)],[hB 4 [.pI ret29v.2,.pI k,.p (.sl (.sl tI)) l6202,.pI (0:Int),.pW out]]⟩) (by kernel_rfl) trivial ?_))
    exact aw_ret (qE 2 h)
   ·refine aw_block (cnb 10 2 6202 26 3 (.sl tI) (ob:=True) (C:=[]) (st':=⟨92,[sI 0 k,sp 4 4,sp 7 7,e28_18,e28_20,e28_4 ret29v,sI 13 (0:Int)],[e28_38,e28_0,e28_1 ret25v,hB 10 [.pI ret29v.2,.pI k,.own 6202,.pI (0:Int),.pW (0:Int)],e28_11,e28_33]⟩) (by kernel_rfl) trivial ?_)
    refine qC ⟨92,[sI 0 k,sp 4 4,sp 7 7,e28_18,e28_20,e28_4 ret29v,sI 13 (0:Int)],[e28_0,e28_1 ret25v,hB 10 [.pI ret29v.2,.pI k,.own 6202,.pI (0:Int),.pW (0:Int)],e28_11,e28_33,e28_38]⟩ (aw_loop (σ:=Int×Int×LI×LL) (fun s=>⟨92,[sI 0 k,sp 4 4,sp 7 7,e28_18,e28_20,e28_4 ret29v,sI 13 s.1],[e28_0,e28_1 ret25v,hB 10 [.pI ret29v.2,.pI k,.own 6202,.pI (0:Int),.pW s.2.1],e28_11,hA 38 3 tI s.2.2.1,(6202,[],.deep 26 3 (.sl tI) s.2.2.2 [])]⟩) (fun s X=>VC28_l1 k K ret25v ret29v s.1 s.2.1 s.2.2.1 s.2.2.2 X) (s0:=((0:Int),(0:Int),[(0:Int)],([]:List LI))) (fun s X1 h=>?_) h)
    obtain ⟨i,out,l38,l6202⟩:=s
    have h:VC28_l1 k K ret25v ret29v i out l38 l6202 X1:=h
    unfold VC28_l1 at h
    refine aw_seq (qS 4 ⟨92,[sI 0 k,sp 4 4,sp 7 7,e28_18,e28_20,e28_4 ret29v,sI 13 i,sB 43 (decide (i<(l38.length:Int)))],[e28_0,e28_1 ret25v,e28_2 ret29v k out,e28_11,hA 38 3 tI l38,e28_3 l6202]⟩ (qI h (fun h=>?_) fun h=>?_))
    ·refine aw_skip (thenQ_n (aw_seq (aw_block (sr (qA 3 1 1 ⟨92,[sI 0 k,sp 4 4,sp 7 7,e28_18,e28_20,e28_4 ret29v,sI 13 i,e28_17],[e28_0,e28_1 ret25v,e28_2 ret29v k out,e28_11,hA 38 3 tI l38,hA 47 3 tI (List.replicate (k).toNat (0:Int)),e28_3 l6202]⟩ h fun h=>nn (aw_seq (qS 3 ⟨92,[sI 0 k,sp 4 4,sp 7 7,e28_18,e28_20,e28_4 ret29v,sI 13 i,e28_17,e28_8 k,sI 50 (0:Int)],[e28_0,e28_1 ret25v,e28_2 ret29v k out,e28_11,hA 38 3 tI l38,hA 47 3 tI (List.replicate (k).toNat (0:Int)),e28_3 l6202]⟩ (withJoin (σ:=LI×LI) (fun s=>⟨92,[sI 0 k,sp 4 4,sp 7 7,e28_18,e28_20,e28_4 ret29v,sI 13 i,e28_17],[e28_0,e28_1 ret25v,e28_2 ret29v k out,e28_11,hA 38 3 tI s.1,hA 47 3 tI s.2,e28_3 l6202]⟩) (fun s=>VC28_k2 ret25v i out l6202 X1 s.1 s.2) (fun s h=>?_) (fun rest3=>?_)))))))))
     ·obtain ⟨l382,row⟩:=s
      have h:VC28_k2 ret25v i out l6202 X1 l382 row:=h
      refine thenQ_n (sr (qT 3 ⟨92,[sI 0 k,sp 4 4,sp 7 7,e28_18,e28_20,e28_4 ret29v,sI 13 i,s1 71 (.own 6202),s1 72 (.own 47)],[e28_0,e28_1 ret25v,e28_2 ret29v k out,e28_11,e28_10 l382,e28_9 row,e28_3 l6202]⟩ (lmk 73 [47] (.deep 26 3 (.sl tI) [row] []) (ob:=True) rfl rfl (by kernel_rfl) (by kernel_rfl) trivial ?_)))
      refine qL ⟨92,[sI 0 k,sp 4 4,sp 7 7,e28_18,e28_20,e28_4 ret29v,sI 13 i,s1 71 (.own 6202),s1 73 (.own 73)],[e28_0,e28_1 ret25v,e28_2 ret29v k out,e28_11,e28_10 l382,(73,[],.deep 26 3 (.sl tI) [row] []),e28_3 l6202]⟩ ?_
      obtain ⟨o1,h⟩:=h
      refine lmk 74 [6202,73] (.deep 26 3 (.sl tI) (l6202++[row]) []) (ob:=roomN (l6202.length+[row].length)) rfl rfl (by kernel_rfl) (by kernel_rfl) o1 ?_
      refine qL ⟨92,[sI 0 k,sp 4 4,sp 7 7,e28_18,e28_20,e28_4 ret29v,sI 13 i,s1 74 (.own 74)],[e28_0,e28_1 ret25v,hB 10 [.pI ret29v.2,.pI k,.any,.pI (0:Int),.pW out],e28_11,e28_10 l382,e28_16 l6202 row]⟩ (qT 2 ⟨92,[sI 0 k,sp 4 4,sp 7 7,e28_18,e28_20,e28_4 ret29v,sI 13 i],[e28_0,e28_1 ret25v,e28_22 ret29v k out,e28_11,e28_10 l382,e28_16 l6202 row]⟩ (nn (aw_seq (awd_begin [] (by kernel_rfl) ?_))))
      obtain ⟨o1,o2,h⟩:=h
      refine qD [0,1,2,3,4,5,6,7,8] [8,7,6,5,4,3,2,1,0] ⟨92,[sI 0 k,sp 4 4,sp 7 7,e28_18,e28_20,e28_4 ret29v,sI 13 i,sB 84 (decide ((ret25v.2.getD ((bdx1 l382 i)).toNat (0:Int))=(1:Int)))],[e28_0,e28_1 ret25v,e28_22 ret29v k out,e28_11,e28_10 l382,e28_16 l6202 row]⟩ (ob:=Ts 4 (inIdx i l382.length∧Ts 1 (inIdx (bdx1 l382 i) ret25v.2.length∧Ts 2 True))) (tsI 4 (⟨o1,tsI 1 ⟨o2,tsI 2 trivial⟩⟩)) ?_
      refine awd_done (by kernel_rfl) ?_
      refine thenQ_n (withJoin (σ:=Int) (fun s=>⟨92,[sI 0 k,sp 4 4,sp 7 7,e28_18,e28_20,e28_4 ret29v,sI 13 i],[e28_0,e28_1 ret25v,hB 10 [.pI ret29v.2,.pI k,.own 74,.pI (0:Int),.pW s],e28_11,e28_10 l382,e28_16 l6202 row]⟩) (fun s=>VC28_k3 i l6202 X1 l382 row s) (fun out2 h=>?_) (fun rest2=>?_))
      ·have h:VC28_k3 i l6202 X1 l382 row out2:=h
       unfold VC28_k3 at h
       exact blockQ_n (thenQ_n (aw_region (qA 3 1 1 ⟨92,[sI 0 k,sp 4 4,sp 7 7,e28_18,e28_20,e28_4 ret29v,sI 13 (i+(1:Int))],[e28_0,e28_1 ret25v,hB 10 [.pI ret29v.2,.pI k,.own 74,.pI (0:Int),.pW out2],e28_11,e28_10 l382,e28_16 l6202 row]⟩ h fun h=>qW [.ren 74 20074,.ren 20074 6202] ⟨92,[sI 0 k,sp 4 4,sp 7 7,e28_18,e28_20,e28_4 ret29v,sI 13 (i+(1:Int))],[e28_0,e28_1 ret25v,hB 10 [.pI ret29v.2,.pI k,.own 6202,.pI (0:Int),.pW out2],e28_11,e28_10 l382,(6202,[],.deep 26 3 (.sl tI) (l6202++[row]) [])]⟩ (awl_nil (thenQ_n ⟨((i+(1:Int)),out2,l382,(l6202++[row])),rfl,h⟩)))))
      ·refine qI h (fun h=>?_) fun h=>?_
       ·refine awd_begin [10] (by kernel_rfl) ?_
        obtain ⟨o1,h⟩:=h
        refine qDO 2 0 [0,2,3] [3,2,0] ⟨92,[sI 0 k,sp 4 4,sp 7 7,e28_18,e28_20,e28_4 ret29v,sI 13 i,s1 85 (.ptr 10 4),s1 88 (.pW (bShl .u32 (1:Int) i))],[e28_0,e28_1 ret25v,e28_22 ret29v k out,e28_11,e28_10 l382,e28_16 l6202 row]⟩ o1 (awd_one (i:=1) (by kernel_rfl) ?_)
        refine dsq (ob:=True) (st':=⟨92,[sI 0 k,sp 4 4,sp 7 7,e28_18,e28_20,e28_4 ret29v,sI 13 i,s1 86 (.pW out),s1 88 (.pW (bShl .u32 (1:Int) i))],[e28_0,e28_1 ret25v,e28_22 ret29v k out,e28_11,e28_10 l382,e28_16 l6202 row]⟩) rfl (by kernel_rfl) trivial ?_
        refine qDT 2 [4,5] [5,4,1,3,2,0] ⟨92,[sI 0 k,sp 4 4,sp 7 7,e28_18,e28_20,e28_4 ret29v,sI 13 i,s1 89 (.pW (bOr .u32 out (bShl .u32 (1:Int) i))),s1 90 (.ptr 10 4)],[e28_0,e28_1 ret25v,e28_22 ret29v k out,e28_11,e28_10 l382,e28_16 l6202 row]⟩ (awd_one (i:=6) (by kernel_rfl) ?_)
        refine dsq (ob:=True) (st':=⟨92,[sI 0 k,sp 4 4,sp 7 7,e28_18,e28_20,e28_4 ret29v,sI 13 i],[e28_0,e28_1 ret25v,hB 10 [.pI ret29v.2,.pI k,.own 74,.pI (0:Int),.pW (bOr .u32 out (bShl .u32 (1:Int) i))],e28_11,e28_10 l382,e28_16 l6202 row]⟩) rfl (by kernel_rfl) trivial ?_
        refine awd_done (by kernel_rfl) ?_
        exact rest2 (bOr .u32 out (bShl .u32 (1:Int) i)) h
       ·exact qC ⟨92,[sI 0 k,sp 4 4,sp 7 7,e28_18,e28_20,e28_4 ret29v,sI 13 i],[e28_0,e28_1 ret25v,e28_22 ret29v k out,e28_11,e28_10 l382,e28_16 l6202 row]⟩ (aw_skip (rest2 out h))
     ·refine aw_block (aw_loop (σ:=Int×LI×LI) (fun s=>⟨92,[sI 0 k,sp 4 4,sp 7 7,e28_18,e28_20,e28_4 ret29v,sI 13 i,e28_17,e28_8 k,sI 50 s.1],[e28_0,e28_1 ret25v,e28_2 ret29v k out,e28_11,hA 38 3 tI s.2.1,hA 47 3 tI s.2.2,e28_3 l6202]⟩) (fun s X=>VC28_l2 k K ret25v ret29v i out l6202 X1 s.1 s.2.1 s.2.2 X) (s0:=((0:Int),l38,(List.replicate (k).toNat (0:Int)))) (fun s X2 h=>?_) h)
      obtain ⟨v50,l382,row⟩:=s
      have h:VC28_l2 k K ret25v ret29v i out l6202 X1 v50 l382 row X2:=h
      unfold VC28_l2 at h
      refine qS 1 ⟨92,[sI 0 k,sp 4 4,sp 7 7,e28_18,e28_20,e28_4 ret29v,sI 13 i,e28_17,e28_8 k,sI 50 v50,sB 51 (decide (v50<((List.replicate (k).toNat (0:Int)).length:Int)))],[e28_0,e28_1 ret25v,e28_2 ret29v k out,e28_11,e28_10 l382,e28_9 row,e28_3 l6202]⟩ (aw_seq (qI h (fun h=>?_) fun h=>?_))
      ·refine aw_skip (thenQ_n (aw_seq (aw_block (qS 2 ⟨92,[sI 0 k,sp 4 4,sp 7 7,e28_18,e28_20,e28_4 ret29v,sI 13 i,e28_17,sI 15 v50,e28_8 k,sI 50 v50],[e28_0,e28_1 ret25v,e28_2 ret29v k out,e28_11,e28_10 l382,e28_9 row,e28_3 l6202]⟩ (withJoin (σ:=LI×LI) (fun s=>⟨92,[sI 0 k,sp 4 4,sp 7 7,e28_18,e28_20,e28_4 ret29v,sI 13 i,e28_17,e28_8 k,sI 50 v50],[e28_0,e28_1 ret25v,e28_2 ret29v k out,e28_23,hA 16 3 tI s.1,hA 47 3 tI s.2,e28_3 l6202]⟩) (fun s=>VC28_k4 v50 X2 s.1 s.2) (fun s h=>?_) (fun rest4=>?_))))))
       ·obtain ⟨l16,row2⟩:=s
        have h:VC28_k4 v50 X2 l16 row2:=h
        unfold VC28_k4 at h
        exact blockQ_n (thenQ_n (aw_region (qA 2 0 1 ⟨92,[sI 0 k,sp 4 4,sp 7 7,e28_18,e28_20,e28_4 ret29v,sI 13 i,e28_17,e28_8 k,sI 50 (v50+(1:Int))],[e28_0,e28_1 ret25v,e28_2 ret29v k out,e28_23,e28_31 l16,hA 47 3 tI row2,e28_3 l6202]⟩ h fun h=>qW [.ren 16 20016,.ren 20016 38] ⟨92,[sI 0 k,sp 4 4,sp 7 7,e28_18,e28_20,e28_4 ret29v,sI 13 i,e28_17,e28_8 k,sI 50 (v50+(1:Int))],[e28_0,e28_1 ret25v,e28_2 ret29v k out,e28_11,hA 38 3 tI l16,hA 47 3 tI row2,e28_3 l6202]⟩ (awl_nil (thenQ_n ⟨((v50+(1:Int)),l16,row2),rfl,h⟩)))))
       ·refine awd_begin e28_n0 (by kernel_rfl) ?_
        refine qDT 6 [0,1,2,3,6,11] [11,6,3,2,1,0] ⟨92,[sI 0 k,sp 4 4,sp 7 7,e28_18,e28_20,e28_4 ret29v,sI 13 i,e28_17,e28_8 k,sI 50 v50,e28_32,sI 54 v50,e28_12 ret29v,sp 56 7,sI 59 i,sI 64 v50],[e28_0,e28_1 ret25v,e28_2 ret29v k out,e28_11,e28_10 l382,e28_9 row,e28_3 l6202]⟩ (awd_two (i:=4) (j:=5) (by kernel_rfl) ?_ ?_)
        ·have h:=h.1
         refine dsq (ob:=True) (st':=⟨92,[sI 0 k,sp 4 4,sp 7 7,e28_18,e28_20,e28_4 ret29v,sI 13 i,e28_17,e28_8 k,sI 50 v50,e28_32,sI 54 v50,e28_12 ret29v,e28_30 ret25v,sI 59 i,sI 64 v50],[e28_0,e28_1 ret25v,e28_2 ret29v k out,e28_11,e28_10 l382,e28_9 row,e28_3 l6202]⟩) rfl (by kernel_rfl) trivial ?_
         refine awd_one (i:=5) (by kernel_rfl) ?_
         refine dsq (ob:=True) (st':=⟨92,[sI 0 k,sp 4 4,sp 7 7,e28_18,e28_20,e28_4 ret29v,sI 13 i,e28_17,e28_8 k,sI 50 v50,e28_32,sI 54 v50,e28_12 ret29v,e28_30 ret25v,s1 58 (.own 38),sI 59 i,sI 64 v50],[e28_0,e28_1 ret25v,e28_2 ret29v k out,e28_11,e28_10 l382,e28_9 row,e28_3 l6202]⟩) rfl (by kernel_rfl) trivial ?_
         obtain ⟨o1,h⟩:=h
         refine qD [7] [7,5,4,11,6,3,2,1,0] ⟨92,[sI 0 k,sp 4 4,sp 7 7,e28_18,e28_20,e28_4 ret29v,sI 13 i,e28_17,e28_8 k,sI 50 v50,e28_32,sI 54 v50,e28_12 ret29v,e28_30 ret25v,s1 60 (.el 38 ((i).toNat) 1),sI 64 v50],[e28_0,e28_1 ret25v,e28_2 ret29v k out,e28_11,e28_10 l382,e28_9 row,e28_3 l6202]⟩ (ob:=inIdx i l382.length∧True) (⟨o1,trivial⟩) ?_
         refine awd_one (i:=8) (by kernel_rfl) ?_
         refine dsq (ob:=True) (st':=⟨92,[sI 0 k,sp 4 4,sp 7 7,e28_18,e28_20,e28_4 ret29v,sI 13 i,e28_17,e28_8 k,sI 50 v50,e28_32,sI 54 v50,e28_12 ret29v,e28_30 ret25v,e28_35 l382 i,sI 64 v50],[e28_0,e28_1 ret25v,e28_2 ret29v k out,e28_11,e28_10 l382,e28_9 row,e28_3 l6202]⟩) rfl (by kernel_rfl) trivial ?_
         obtain ⟨o1,o2,h⟩:=h
         refine qD [9,10,12,13] [13,12,10,9,8,7,5,4,11,6,3,2,1,0] ⟨92,[sI 0 k,sp 4 4,sp 7 7,e28_18,e28_20,e28_4 ret29v,sI 13 i,e28_17,e28_8 k,sI 50 v50,e28_32,sI 54 v50,e28_12 ret29v,e28_27 ret25v l382 i v50],[e28_0,e28_1 ret25v,e28_2 ret29v k out,e28_11,e28_10 l382,e28_9 row,e28_3 l6202]⟩ (ob:=inIdx (bdx1 l382 i) ret25v.1.length∧Ts 1 (inIdx v50 (ret25v.1.getD ((bdx1 l382 i)).toNat ([]:LI)).length∧Ts 1 True)) (⟨o1,tsI 1 ⟨o2,tsI 1 trivial⟩⟩) ?_
         refine awd_one (i:=14) (by kernel_rfl) ?_
         refine adop_inlr [.t 4] [.c (.pI (bdx0 ret25v l382 i v50))] [.c (.ptr 11 0),.c (.ad (.sl tI) ret29v.1)] rfl rfl rfl (by kernel_rfl) rfl (by kernel_rfl) Try.call54 (by kernel_rfl) (by kernel_rfl) Try.func54 rfl rfl (by kernel_rfl) (qV [] ⟨18,[e28_29 ret25v l382 i v50,sp 1 11,e28_19 ret29v,sI 18 k,sp 22 4,sp 25 7,e28_25,e28_26,e28_5 ret29v,sI 31 i,e28_14,e28_6 k,sI 68 v50,e28_15,sI 72 v50,e28_34 ret29v,e28_28 ret25v l382 i v50],[e28_0,e28_1 ret25v,e28_2 ret29v k out,e28_11,e28_10 l382,e28_9 row,e28_3 l6202]⟩ (sr (qT 2 ⟨18,[sp 1 11,e28_19 ret29v,sp 3 3,sI 18 k,sp 22 4,sp 25 7,e28_25,e28_26,e28_5 ret29v,sI 31 i,e28_14,e28_6 k,sI 68 v50,e28_15,sI 72 v50],[e28_13 ret25v l382 i v50,e28_0,e28_1 ret25v,e28_2 ret29v k out,e28_11,e28_10 l382,e28_9 row,e28_3 l6202]⟩ (nsr (qT 1 ⟨18,[sp 1 11,e28_19 ret29v,sp 3 3,e28_37,sI 18 k,sp 22 4,sp 25 7,e28_25,e28_26,e28_5 ret29v,sI 31 i,e28_14,e28_6 k,sI 68 v50,e28_15,sI 72 v50],[e28_13 ret25v l382 i v50,e28_0,e28_1 ret25v,e28_2 ret29v k out,e28_11,e28_10 l382,e28_9 row,e28_3 l6202]⟩ (qW [.freezeB 3 tI] ⟨18,[sp 1 11,e28_19 ret29v,e28_7 ret25v l382 i v50,e28_37,sI 18 k,sp 22 4,sp 25 7,e28_25,e28_26,e28_5 ret29v,sI 31 i,e28_14,e28_6 k,sI 68 v50,e28_15,sI 72 v50],[e28_0,e28_1 ret25v,e28_2 ret29v k out,e28_11,e28_10 l382,e28_9 row,e28_3 l6202]⟩ (qT 1 ⟨18,[sp 1 11,e28_7 ret25v l382 i v50,e28_37,s1 7 (.fn 56 [(⟨(.sl tI),ret29v.1⟩:Dat),(⟨tI,(bdx0 ret25v l382 i v50)⟩:Dat)]),sI 18 k,sp 22 4,sp 25 7,e28_25,e28_26,e28_5 ret29v,sI 31 i,e28_14,e28_6 k,sI 68 v50,e28_15,sI 72 v50],[e28_0,e28_1 ret25v,e28_2 ret29v k out,e28_11,e28_10 l382,e28_9 row,e28_3 l6202]⟩ (awl_callk (p:=[]) (l:=[toV1 (.sl tI) l382,.c (.fn 56 [(⟨(.sl tI),ret29v.1⟩:Dat),(⟨tI,(bdx0 ret25v l382 i v50)⟩:Dat)])]) (cl:=[]) true [.d (.sl tI),.fn] e28_n1 e28_n0 (fun (ret8v:Int)=>(((bdx2 ret8v)=true→(roomN (l382.length+[(bdx0 ret25v l382 i v50)].length)∧VC28_k5 v50 row X2 (l382.length:Int) (l382++[(bdx0 ret25v l382 i v50)])))∧((bdx2 ret8v)=false→VC28_k5 v50 row X2 ret8v l382))) (fun ret8v=>[toV1 tI ret8v]) (fun ret8v=>⟨18,[sp 1 11,e28_7 ret25v l382 i v50,sI 8 ret8v,sI 18 k,sp 22 4,sp 25 7,e28_25,e28_26,e28_5 ret29v,sI 31 i,e28_14,e28_6 k,sI 68 v50,e28_15,sI 72 v50],[e28_0,e28_1 ret25v,e28_2 ret29v k out,e28_11,e28_10 l382,e28_9 row,e28_3 l6202]⟩) (by kernel_rfl) rfl (by kernel_rfl) rfl (by kernel_rfl) Try.call55 (by kernel_rfl) (fun ret8v=>by kernel_rfl) (fun _ _=>rfl) (fun hg=>link55 l382 56 [(⟨(.sl tI),ret29v.1⟩:Dat),(⟨tI,(bdx0 ret25v l382 i v50)⟩:Dat)] (fun (x:Int) (K:Bool→Prop)=>VC56 x ret29v.1 (bdx0 ret25v l382 i v50) K) ⟨Try.call56,fun x K h=>link56 x ret29v.1 (bdx0 ret25v l382 i v50) K h⟩ _ h) (fun hg=>noF hg) (fun ret8v h=>?_)))))))))
         refine qT 1 ⟨18,[sp 1 11,e28_7 ret25v l382 i v50,sI 5 ret8v,sI 18 k,sp 22 4,sp 25 7,e28_25,e28_26,e28_5 ret29v,sI 31 i,e28_14,e28_6 k,sI 68 v50,e28_15,sI 72 v50],[e28_0,e28_1 ret25v,e28_2 ret29v k out,e28_11,e28_10 l382,e28_9 row,e28_3 l6202]⟩ (nn (aw_seq (qS 2 ⟨18,[sp 1 11,e28_7 ret25v l382 i v50,sI 5 ret8v,sB 10 (bdx2 ret8v),sI 18 k,sp 22 4,sp 25 7,e28_25,e28_26,e28_5 ret29v,sI 31 i,e28_14,e28_6 k,sI 68 v50,e28_15,sI 72 v50],[e28_0,e28_1 ret25v,e28_2 ret29v k out,e28_11,e28_10 l382,e28_9 row,e28_3 l6202]⟩ (withJoin (σ:=Int×LI) (fun s=>⟨18,[sI 5 s.1,sI 18 k,sp 22 4,sp 25 7,e28_25,e28_26,e28_5 ret29v,sI 31 i,e28_14,e28_6 k,sI 68 v50,e28_15,sI 72 v50],[e28_0,e28_1 ret25v,e28_2 ret29v k out,e28_23,hA 16 3 tI s.2,e28_9 row,e28_3 l6202]⟩) (fun s=>VC28_k5 v50 row X2 s.1 s.2) (fun s h=>?_) (fun rest5=>?_)))))
         ·obtain ⟨n,l16⟩:=s
          have h:VC28_k5 v50 row X2 n l16:=h
          refine thenQ_n (qS 2 ⟨18,[sI 4 n,sI 18 k,sp 22 4,sp 25 7,e28_25,e28_26,e28_5 ret29v,sI 31 i,e28_14,e28_6 k,sI 68 v50,e28_15,sI 72 v50],[e28_0,e28_1 ret25v,e28_2 ret29v k out,e28_23,e28_31 l16,e28_9 row,e28_3 l6202]⟩ (aw_ret (inlR_r (ob:=True) (.v (.c (.pI n))) (by kernel_rfl) trivial rfl ?_)))
          refine dpr (st':=⟨92,[sI 0 k,sp 4 4,sp 7 7,e28_18,e28_20,e28_4 ret29v,sI 13 i,e28_17,e28_8 k,sI 50 v50,e28_32,sI 54 v50,sI 67 n],[e28_0,e28_1 ret25v,e28_2 ret29v k out,e28_23,e28_31 l16,e28_9 row,e28_3 l6202]⟩) (by kernel_rfl) ?_
          obtain ⟨o1,h⟩:=h
          refine qD [15] [15,14,13,12,10,9,8,7,5,4,11,6,3,2,1,0] ⟨92,[sI 0 k,sp 4 4,sp 7 7,e28_18,e28_20,e28_4 ret29v,sI 13 i,e28_17,e28_8 k,sI 50 v50,sI 67 n,s1 68 (.el 47 ((v50).toNat) 1)],[e28_0,e28_1 ret25v,e28_2 ret29v k out,e28_23,e28_31 l16,e28_9 row,e28_3 l6202]⟩ (ob:=inIdx v50 row.length∧True) (⟨o1,trivial⟩) ?_
          refine awd_one (i:=16) (by kernel_rfl) ?_
          refine dsq (ob:=True) (st':=⟨92,[sI 0 k,sp 4 4,sp 7 7,e28_18,e28_20,e28_4 ret29v,sI 13 i,e28_17,e28_8 k,sI 50 v50],[e28_0,e28_1 ret25v,e28_2 ret29v k out,e28_23,e28_31 l16,hA 47 3 tI (row.set ((v50).toNat) n),e28_3 l6202]⟩) rfl (by kernel_rfl) trivial ?_
          refine awd_done (by kernel_rfl) ?_
          exact rest4 (l16,(row.set ((v50).toNat) n)) h
         ·refine qI h (fun h=>?_) fun h=>?_
          ·exact qS 3 ⟨18,[sp 1 11,e28_7 ret25v l382 i v50,e28_36 l382,sI 18 k,sp 22 4,sp 25 7,e28_25,e28_26,e28_5 ret29v,sI 31 i,e28_14,e28_6 k,sI 68 v50,e28_15,sI 72 v50],[e28_0,e28_1 ret25v,e28_2 ret29v k out,e28_11,e28_10 l382,e28_9 row,e28_3 l6202]⟩ (aw_region (qA 5 3 1 ⟨18,[e28_36 l382,sI 18 k,sp 22 4,sp 25 7,e28_25,e28_26,e28_5 ret29v,sI 31 i,e28_14,e28_6 k,sI 68 v50,e28_15,sI 72 v50],[e28_0,e28_1 ret25v,e28_2 ret29v k out,e28_23,e28_21 l382 ret25v i v50,e28_9 row,e28_3 l6202]⟩ h fun h=>awl_nil (rest5 ((l382.length:Int),(l382++[(bdx0 ret25v l382 i v50)])) h)))
          ·exact qV [.prune e28_n2 e28_n0,.ren 38 20038,.ren 20038 16] ⟨18,[sI 5 ret8v,sI 18 k,sp 22 4,sp 25 7,e28_25,e28_26,e28_5 ret29v,sI 31 i,e28_14,e28_6 k,sI 68 v50,e28_15,sI 72 v50],[e28_0,e28_1 ret25v,e28_2 ret29v k out,e28_23,hA 16 3 tI l382,e28_9 row,e28_3 l6202]⟩ (aw_skip (rest5 (ret8v,l382) h))
        ·have h:=h.2
         refine dsq (ob:=True) (st':=⟨92,[sI 0 k,sp 4 4,sp 7 7,e28_18,e28_20,e28_4 ret29v,sI 13 i,e28_17,e28_8 k,sI 50 v50,e28_32,sI 54 v50,e28_12 ret29v,sp 56 7,s1 58 (.own 38),sI 59 i,sI 64 v50],[e28_0,e28_1 ret25v,e28_2 ret29v k out,e28_11,e28_10 l382,e28_9 row,e28_3 l6202]⟩) rfl (by kernel_rfl) trivial ?_
         obtain ⟨o1,h⟩:=h
         refine qD [7] [7,5,11,6,3,2,1,0] ⟨92,[sI 0 k,sp 4 4,sp 7 7,e28_18,e28_20,e28_4 ret29v,sI 13 i,e28_17,e28_8 k,sI 50 v50,e28_32,sI 54 v50,e28_12 ret29v,sp 56 7,s1 60 (.el 38 ((i).toNat) 1),sI 64 v50],[e28_0,e28_1 ret25v,e28_2 ret29v k out,e28_11,e28_10 l382,e28_9 row,e28_3 l6202]⟩ (ob:=inIdx i l382.length∧True) (⟨o1,trivial⟩) ?_
         refine awd_two (i:=4) (j:=8) (by kernel_rfl) ?_ ?_
         ·have h:=h.1
          refine dsq (ob:=True) (st':=⟨92,[sI 0 k,sp 4 4,sp 7 7,e28_18,e28_20,e28_4 ret29v,sI 13 i,e28_17,e28_8 k,sI 50 v50,e28_32,sI 54 v50,e28_12 ret29v,e28_30 ret25v,s1 60 (.el 38 ((i).toNat) 1),sI 64 v50],[e28_0,e28_1 ret25v,e28_2 ret29v k out,e28_11,e28_10 l382,e28_9 row,e28_3 l6202]⟩) rfl (by kernel_rfl) trivial ?_
          refine awd_one (i:=8) (by kernel_rfl) ?_
          refine dsq (ob:=True) (st':=⟨92,[sI 0 k,sp 4 4,sp 7 7,e28_18,e28_20,e28_4 ret29v,sI 13 i,e28_17,e28_8 k,sI 50 v50,e28_32,sI 54 v50,e28_12 ret29v,e28_30 ret25v,e28_35 l382 i,sI 64 v50],[e28_0,e28_1 ret25v,e28_2 ret29v k out,e28_11,e28_10 l382,e28_9 row,e28_3 l6202]⟩) rfl (by kernel_rfl) trivial ?_
          obtain ⟨o1,o2,h⟩:=h
          refine qD [9,10,12,13] [13,12,10,9,8,4,7,5,11,6,3,2,1,0] ⟨92,[sI 0 k,sp 4 4,sp 7 7,e28_18,e28_20,e28_4 ret29v,sI 13 i,e28_17,e28_8 k,sI 50 v50,e28_32,sI 54 v50,e28_12 ret29v,e28_27 ret25v l382 i v50],[e28_0,e28_1 ret25v,e28_2 ret29v k out,e28_11,e28_10 l382,e28_9 row,e28_3 l6202]⟩ (ob:=inIdx (bdx1 l382 i) ret25v.1.length∧Ts 1 (inIdx v50 (ret25v.1.getD ((bdx1 l382 i)).toNat ([]:LI)).length∧Ts 1 True)) (⟨o1,tsI 1 ⟨o2,tsI 1 trivial⟩⟩) ?_
          refine awd_one (i:=14) (by kernel_rfl) ?_
          refine adop_inlr [.t 4] [.c (.pI (bdx0 ret25v l382 i v50))] [.c (.ptr 11 0),.c (.ad (.sl tI) ret29v.1)] rfl rfl rfl (by kernel_rfl) rfl (by kernel_rfl) Try.call54 (by kernel_rfl) (by kernel_rfl) Try.func54 rfl rfl (by kernel_rfl) (qV [] ⟨18,[e28_29 ret25v l382 i v50,sp 1 11,e28_19 ret29v,sI 18 k,sp 22 4,sp 25 7,e28_25,e28_26,e28_5 ret29v,sI 31 i,e28_14,e28_6 k,sI 68 v50,e28_15,sI 72 v50,e28_34 ret29v,e28_28 ret25v l382 i v50],[e28_0,e28_1 ret25v,e28_2 ret29v k out,e28_11,e28_10 l382,e28_9 row,e28_3 l6202]⟩ (sr (qT 2 ⟨18,[sp 1 11,e28_19 ret29v,sp 3 3,sI 18 k,sp 22 4,sp 25 7,e28_25,e28_26,e28_5 ret29v,sI 31 i,e28_14,e28_6 k,sI 68 v50,e28_15,sI 72 v50],[e28_13 ret25v l382 i v50,e28_0,e28_1 ret25v,e28_2 ret29v k out,e28_11,e28_10 l382,e28_9 row,e28_3 l6202]⟩ (nsr (qT 1 ⟨18,[sp 1 11,e28_19 ret29v,sp 3 3,e28_37,sI 18 k,sp 22 4,sp 25 7,e28_25,e28_26,e28_5 ret29v,sI 31 i,e28_14,e28_6 k,sI 68 v50,e28_15,sI 72 v50],[e28_13 ret25v l382 i v50,e28_0,e28_1 ret25v,e28_2 ret29v k out,e28_11,e28_10 l382,e28_9 row,e28_3 l6202]⟩ (qW [.freezeB 3 tI] ⟨18,[sp 1 11,e28_19 ret29v,e28_7 ret25v l382 i v50,e28_37,sI 18 k,sp 22 4,sp 25 7,e28_25,e28_26,e28_5 ret29v,sI 31 i,e28_14,e28_6 k,sI 68 v50,e28_15,sI 72 v50],[e28_0,e28_1 ret25v,e28_2 ret29v k out,e28_11,e28_10 l382,e28_9 row,e28_3 l6202]⟩ (qT 1 ⟨18,[sp 1 11,e28_7 ret25v l382 i v50,e28_37,s1 7 (.fn 56 [(⟨(.sl tI),ret29v.1⟩:Dat),(⟨tI,(bdx0 ret25v l382 i v50)⟩:Dat)]),sI 18 k,sp 22 4,sp 25 7,e28_25,e28_26,e28_5 ret29v,sI 31 i,e28_14,e28_6 k,sI 68 v50,e28_15,sI 72 v50],[e28_0,e28_1 ret25v,e28_2 ret29v k out,e28_11,e28_10 l382,e28_9 row,e28_3 l6202]⟩ (awl_callk (p:=[]) (l:=[toV1 (.sl tI) l382,.c (.fn 56 [(⟨(.sl tI),ret29v.1⟩:Dat),(⟨tI,(bdx0 ret25v l382 i v50)⟩:Dat)])]) (cl:=[]) true [.d (.sl tI),.fn] e28_n1 e28_n0 (fun (ret8v:Int)=>(((bdx2 ret8v)=true→(roomN (l382.length+[(bdx0 ret25v l382 i v50)].length)∧VC28_k6 v50 row X2 (l382.length:Int) (l382++[(bdx0 ret25v l382 i v50)])))∧((bdx2 ret8v)=false→VC28_k6 v50 row X2 ret8v l382))) (fun ret8v=>[toV1 tI ret8v]) (fun ret8v=>⟨18,[sp 1 11,e28_7 ret25v l382 i v50,sI 8 ret8v,sI 18 k,sp 22 4,sp 25 7,e28_25,e28_26,e28_5 ret29v,sI 31 i,e28_14,e28_6 k,sI 68 v50,e28_15,sI 72 v50],[e28_0,e28_1 ret25v,e28_2 ret29v k out,e28_11,e28_10 l382,e28_9 row,e28_3 l6202]⟩) (by kernel_rfl) rfl (by kernel_rfl) rfl (by kernel_rfl) Try.call55 (by kernel_rfl) (fun ret8v=>by kernel_rfl) (fun _ _=>rfl) (fun hg=>link55 l382 56 [(⟨(.sl tI),ret29v.1⟩:Dat),(⟨tI,(bdx0 ret25v l382 i v50)⟩:Dat)] (fun (x:Int) (K:Bool→Prop)=>VC56 x ret29v.1 (bdx0 ret25v l382 i v50) K) ⟨Try.call56,fun x K h=>link56 x ret29v.1 (bdx0 ret25v l382 i v50) K h⟩ _ h) (fun hg=>noF hg) (fun ret8v h=>?_)))))))))
          refine qT 1 ⟨18,[sp 1 11,e28_7 ret25v l382 i v50,sI 5 ret8v,sI 18 k,sp 22 4,sp 25 7,e28_25,e28_26,e28_5 ret29v,sI 31 i,e28_14,e28_6 k,sI 68 v50,e28_15,sI 72 v50],[e28_0,e28_1 ret25v,e28_2 ret29v k out,e28_11,e28_10 l382,e28_9 row,e28_3 l6202]⟩ (nn (aw_seq (qS 2 ⟨18,[sp 1 11,e28_7 ret25v l382 i v50,sI 5 ret8v,sB 10 (bdx2 ret8v),sI 18 k,sp 22 4,sp 25 7,e28_25,e28_26,e28_5 ret29v,sI 31 i,e28_14,e28_6 k,sI 68 v50,e28_15,sI 72 v50],[e28_0,e28_1 ret25v,e28_2 ret29v k out,e28_11,e28_10 l382,e28_9 row,e28_3 l6202]⟩ (withJoin (σ:=Int×LI) (fun s=>⟨18,[sI 5 s.1,sI 18 k,sp 22 4,sp 25 7,e28_25,e28_26,e28_5 ret29v,sI 31 i,e28_14,e28_6 k,sI 68 v50,e28_15,sI 72 v50],[e28_0,e28_1 ret25v,e28_2 ret29v k out,e28_23,hA 16 3 tI s.2,e28_9 row,e28_3 l6202]⟩) (fun s=>VC28_k6 v50 row X2 s.1 s.2) (fun s h=>?_) (fun rest6=>?_)))))
          ·obtain ⟨n,l16⟩:=s
           have h:VC28_k6 v50 row X2 n l16:=h
           refine thenQ_n (qS 2 ⟨18,[sI 4 n,sI 18 k,sp 22 4,sp 25 7,e28_25,e28_26,e28_5 ret29v,sI 31 i,e28_14,e28_6 k,sI 68 v50,e28_15,sI 72 v50],[e28_0,e28_1 ret25v,e28_2 ret29v k out,e28_23,e28_31 l16,e28_9 row,e28_3 l6202]⟩ (aw_ret (inlR_r (ob:=True) (.v (.c (.pI n))) (by kernel_rfl) trivial rfl ?_)))
           refine dpr (st':=⟨92,[sI 0 k,sp 4 4,sp 7 7,e28_18,e28_20,e28_4 ret29v,sI 13 i,e28_17,e28_8 k,sI 50 v50,e28_32,sI 54 v50,sI 67 n],[e28_0,e28_1 ret25v,e28_2 ret29v k out,e28_23,e28_31 l16,e28_9 row,e28_3 l6202]⟩) (by kernel_rfl) ?_
           obtain ⟨o1,h⟩:=h
           refine qD [15] [15,14,13,12,10,9,8,4,7,5,11,6,3,2,1,0] ⟨92,[sI 0 k,sp 4 4,sp 7 7,e28_18,e28_20,e28_4 ret29v,sI 13 i,e28_17,e28_8 k,sI 50 v50,sI 67 n,s1 68 (.el 47 ((v50).toNat) 1)],[e28_0,e28_1 ret25v,e28_2 ret29v k out,e28_23,e28_31 l16,e28_9 row,e28_3 l6202]⟩ (ob:=inIdx v50 row.length∧True) (⟨o1,trivial⟩) ?_
           refine awd_one (i:=16) (by kernel_rfl) ?_
           refine dsq (ob:=True) (st':=⟨92,[sI 0 k,sp 4 4,sp 7 7,e28_18,e28_20,e28_4 ret29v,sI 13 i,e28_17,e28_8 k,sI 50 v50],[e28_0,e28_1 ret25v,e28_2 ret29v k out,e28_23,e28_31 l16,hA 47 3 tI (row.set ((v50).toNat) n),e28_3 l6202]⟩) rfl (by kernel_rfl) trivial ?_
           refine awd_done (by kernel_rfl) ?_
           exact rest4 (l16,(row.set ((v50).toNat) n)) h
          ·refine qI h (fun h=>?_) fun h=>?_
           ·exact qS 3 ⟨18,[sp 1 11,e28_7 ret25v l382 i v50,e28_36 l382,sI 18 k,sp 22 4,sp 25 7,e28_25,e28_26,e28_5 ret29v,sI 31 i,e28_14,e28_6 k,sI 68 v50,e28_15,sI 72 v50],[e28_0,e28_1 ret25v,e28_2 ret29v k out,e28_11,e28_10 l382,e28_9 row,e28_3 l6202]⟩ (aw_region (qA 5 3 1 ⟨18,[e28_36 l382,sI 18 k,sp 22 4,sp 25 7,e28_25,e28_26,e28_5 ret29v,sI 31 i,e28_14,e28_6 k,sI 68 v50,e28_15,sI 72 v50],[e28_0,e28_1 ret25v,e28_2 ret29v k out,e28_23,e28_21 l382 ret25v i v50,e28_9 row,e28_3 l6202]⟩ h fun h=>awl_nil (rest6 ((l382.length:Int),(l382++[(bdx0 ret25v l382 i v50)])) h)))
           ·exact qV [.prune e28_n2 e28_n0,.ren 38 20038,.ren 20038 16] ⟨18,[sI 5 ret8v,sI 18 k,sp 22 4,sp 25 7,e28_25,e28_26,e28_5 ret29v,sI 31 i,e28_14,e28_6 k,sI 68 v50,e28_15,sI 72 v50],[e28_0,e28_1 ret25v,e28_2 ret29v k out,e28_23,hA 16 3 tI l382,e28_9 row,e28_3 l6202]⟩ (aw_skip (rest6 (ret8v,l382) h))
         ·have h:=h.2
          refine dsq (ob:=True) (st':=⟨92,[sI 0 k,sp 4 4,sp 7 7,e28_18,e28_20,e28_4 ret29v,sI 13 i,e28_17,e28_8 k,sI 50 v50,e28_32,sI 54 v50,e28_12 ret29v,sp 56 7,e28_35 l382 i,sI 64 v50],[e28_0,e28_1 ret25v,e28_2 ret29v k out,e28_11,e28_10 l382,e28_9 row,e28_3 l6202]⟩) rfl (by kernel_rfl) trivial ?_
          refine awd_one (i:=4) (by kernel_rfl) ?_
          refine dsq (ob:=True) (st':=⟨92,[sI 0 k,sp 4 4,sp 7 7,e28_18,e28_20,e28_4 ret29v,sI 13 i,e28_17,e28_8 k,sI 50 v50,e28_32,sI 54 v50,e28_12 ret29v,e28_30 ret25v,e28_35 l382 i,sI 64 v50],[e28_0,e28_1 ret25v,e28_2 ret29v k out,e28_11,e28_10 l382,e28_9 row,e28_3 l6202]⟩) rfl (by kernel_rfl) trivial ?_
          obtain ⟨o1,o2,h⟩:=h
          refine qD [9,10,12,13] [13,12,10,9,4,8,7,5,11,6,3,2,1,0] ⟨92,[sI 0 k,sp 4 4,sp 7 7,e28_18,e28_20,e28_4 ret29v,sI 13 i,e28_17,e28_8 k,sI 50 v50,e28_32,sI 54 v50,e28_12 ret29v,e28_27 ret25v l382 i v50],[e28_0,e28_1 ret25v,e28_2 ret29v k out,e28_11,e28_10 l382,e28_9 row,e28_3 l6202]⟩ (ob:=inIdx (bdx1 l382 i) ret25v.1.length∧Ts 1 (inIdx v50 (ret25v.1.getD ((bdx1 l382 i)).toNat ([]:LI)).length∧Ts 1 True)) (⟨o1,tsI 1 ⟨o2,tsI 1 trivial⟩⟩) ?_
          refine awd_one (i:=14) (by kernel_rfl) ?_
          refine adop_inlr [.t 4] [.c (.pI (bdx0 ret25v l382 i v50))] [.c (.ptr 11 0),.c (.ad (.sl tI) ret29v.1)] rfl rfl rfl (by kernel_rfl) rfl (by kernel_rfl) Try.call54 (by kernel_rfl) (by kernel_rfl) Try.func54 rfl rfl (by kernel_rfl) (qV [] ⟨18,[e28_29 ret25v l382 i v50,sp 1 11,e28_19 ret29v,sI 18 k,sp 22 4,sp 25 7,e28_25,e28_26,e28_5 ret29v,sI 31 i,e28_14,e28_6 k,sI 68 v50,e28_15,sI 72 v50,e28_34 ret29v,e28_28 ret25v l382 i v50],[e28_0,e28_1 ret25v,e28_2 ret29v k out,e28_11,e28_10 l382,e28_9 row,e28_3 l6202]⟩ (sr (qT 2 ⟨18,[sp 1 11,e28_19 ret29v,sp 3 3,sI 18 k,sp 22 4,sp 25 7,e28_25,e28_26,e28_5 ret29v,sI 31 i,e28_14,e28_6 k,sI 68 v50,e28_15,sI 72 v50],[e28_13 ret25v l382 i v50,e28_0,e28_1 ret25v,e28_2 ret29v k out,e28_11,e28_10 l382,e28_9 row,e28_3 l6202]⟩ (nsr (qT 1 ⟨18,[sp 1 11,e28_19 ret29v,sp 3 3,e28_37,sI 18 k,sp 22 4,sp 25 7,e28_25,e28_26,e28_5 ret29v,sI 31 i,e28_14,e28_6 k,sI 68 v50,e28_15,sI 72 v50],[e28_13 ret25v l382 i v50,e28_0,e28_1 ret25v,e28_2 ret29v k out,e28_11,e28_10 l382,e28_9 row,e28_3 l6202]⟩ (qW [.freezeB 3 tI] ⟨18,[sp 1 11,e28_19 ret29v,e28_7 ret25v l382 i v50,e28_37,sI 18 k,sp 22 4,sp 25 7,e28_25,e28_26,e28_5 ret29v,sI 31 i,e28_14,e28_6 k,sI 68 v50,e28_15,sI 72 v50],[e28_0,e28_1 ret25v,e28_2 ret29v k out,e28_11,e28_10 l382,e28_9 row,e28_3 l6202]⟩ (qT 1 ⟨18,[sp 1 11,e28_7 ret25v l382 i v50,e28_37,s1 7 (.fn 56 [(⟨(.sl tI),ret29v.1⟩:Dat),(⟨tI,(bdx0 ret25v l382 i v50)⟩:Dat)]),sI 18 k,sp 22 4,sp 25 7,e28_25,e28_26,e28_5 ret29v,sI 31 i,e28_14,e28_6 k,sI 68 v50,e28_15,sI 72 v50],[e28_0,e28_1 ret25v,e28_2 ret29v k out,e28_11,e28_10 l382,e28_9 row,e28_3 l6202]⟩ (awl_callk (p:=[]) (l:=[toV1 (.sl tI) l382,.c (.fn 56 [(⟨(.sl tI),ret29v.1⟩:Dat),(⟨tI,(bdx0 ret25v l382 i v50)⟩:Dat)])]) (cl:=[]) true [.d (.sl tI),.fn] e28_n1 e28_n0 (fun (ret8v:Int)=>(((bdx2 ret8v)=true→(roomN (l382.length+[(bdx0 ret25v l382 i v50)].length)∧VC28_k7 v50 row X2 (l382.length:Int) (l382++[(bdx0 ret25v l382 i v50)])))∧((bdx2 ret8v)=false→VC28_k7 v50 row X2 ret8v l382))) (fun ret8v=>[toV1 tI ret8v]) (fun ret8v=>⟨18,[sp 1 11,e28_7 ret25v l382 i v50,sI 8 ret8v,sI 18 k,sp 22 4,sp 25 7,e28_25,e28_26,e28_5 ret29v,sI 31 i,e28_14,e28_6 k,sI 68 v50,e28_15,sI 72 v50],[e28_0,e28_1 ret25v,e28_2 ret29v k out,e28_11,e28_10 l382,e28_9 row,e28_3 l6202]⟩) (by kernel_rfl) rfl (by kernel_rfl) rfl (by kernel_rfl) Try.call55 (by kernel_rfl) (fun ret8v=>by kernel_rfl) (fun _ _=>rfl) (fun hg=>link55 l382 56 [(⟨(.sl tI),ret29v.1⟩:Dat),(⟨tI,(bdx0 ret25v l382 i v50)⟩:Dat)] (fun (x:Int) (K:Bool→Prop)=>VC56 x ret29v.1 (bdx0 ret25v l382 i v50) K) ⟨Try.call56,fun x K h=>link56 x ret29v.1 (bdx0 ret25v l382 i v50) K h⟩ _ h) (fun hg=>noF hg) (fun ret8v h=>?_)))))))))
          refine qT 1 ⟨18,[sp 1 11,e28_7 ret25v l382 i v50,sI 5 ret8v,sI 18 k,sp 22 4,sp 25 7,e28_25,e28_26,e28_5 ret29v,sI 31 i,e28_14,e28_6 k,sI 68 v50,e28_15,sI 72 v50],[e28_0,e28_1 ret25v,e28_2 ret29v k out,e28_11,e28_10 l382,e28_9 row,e28_3 l6202]⟩ (nn (aw_seq (qS 2 ⟨18,[sp 1 11,e28_7 ret25v l382 i v50,sI 5 ret8v,sB 10 (bdx2 ret8v),sI 18 k,sp 22 4,sp 25 7,e28_25,e28_26,e28_5 ret29v,sI 31 i,e28_14,e28_6 k,sI 68 v50,e28_15,sI 72 v50],[e28_0,e28_1 ret25v,e28_2 ret29v k out,e28_11,e28_10 l382,e28_9 row,e28_3 l6202]⟩ (withJoin (σ:=Int×LI) (fun s=>⟨18,[sI 5 s.1,sI 18 k,sp 22 4,sp 25 7,e28_25,e28_26,e28_5 ret29v,sI 31 i,e28_14,e28_6 k,sI 68 v50,e28_15,sI 72 v50],[e28_0,e28_1 ret25v,e28_2 ret29v k out,e28_23,hA 16 3 tI s.2,e28_9 row,e28_3 l6202]⟩) (fun s=>VC28_k7 v50 row X2 s.1 s.2) (fun s h=>?_) (fun rest7=>?_)))))
          ·obtain ⟨n,l16⟩:=s
           have h:VC28_k7 v50 row X2 n l16:=h
           refine thenQ_n (qS 2 ⟨18,[sI 4 n,sI 18 k,sp 22 4,sp 25 7,e28_25,e28_26,e28_5 ret29v,sI 31 i,e28_14,e28_6 k,sI 68 v50,e28_15,sI 72 v50],[e28_0,e28_1 ret25v,e28_2 ret29v k out,e28_23,e28_31 l16,e28_9 row,e28_3 l6202]⟩ (aw_ret (inlR_r (ob:=True) (.v (.c (.pI n))) (by kernel_rfl) trivial rfl ?_)))
           refine dpr (st':=⟨92,[sI 0 k,sp 4 4,sp 7 7,e28_18,e28_20,e28_4 ret29v,sI 13 i,e28_17,e28_8 k,sI 50 v50,e28_32,sI 54 v50,sI 67 n],[e28_0,e28_1 ret25v,e28_2 ret29v k out,e28_23,e28_31 l16,e28_9 row,e28_3 l6202]⟩) (by kernel_rfl) ?_
           obtain ⟨o1,h⟩:=h
           refine qD [15] [15,14,13,12,10,9,4,8,7,5,11,6,3,2,1,0] ⟨92,[sI 0 k,sp 4 4,sp 7 7,e28_18,e28_20,e28_4 ret29v,sI 13 i,e28_17,e28_8 k,sI 50 v50,sI 67 n,s1 68 (.el 47 ((v50).toNat) 1)],[e28_0,e28_1 ret25v,e28_2 ret29v k out,e28_23,e28_31 l16,e28_9 row,e28_3 l6202]⟩ (ob:=inIdx v50 row.length∧True) (⟨o1,trivial⟩) ?_
           refine awd_one (i:=16) (by kernel_rfl) ?_
           refine dsq (ob:=True) (st':=⟨92,[sI 0 k,sp 4 4,sp 7 7,e28_18,e28_20,e28_4 ret29v,sI 13 i,e28_17,e28_8 k,sI 50 v50],[e28_0,e28_1 ret25v,e28_2 ret29v k out,e28_23,e28_31 l16,hA 47 3 tI (row.set ((v50).toNat) n),e28_3 l6202]⟩) rfl (by kernel_rfl) trivial ?_
           refine awd_done (by kernel_rfl) ?_
           exact rest4 (l16,(row.set ((v50).toNat) n)) h
          ·refine qI h (fun h=>?_) fun h=>?_
           ·exact qS 3 ⟨18,[sp 1 11,e28_7 ret25v l382 i v50,e28_36 l382,sI 18 k,sp 22 4,sp 25 7,e28_25,e28_26,e28_5 ret29v,sI 31 i,e28_14,e28_6 k,sI 68 v50,e28_15,sI 72 v50],[e28_0,e28_1 ret25v,e28_2 ret29v k out,e28_11,e28_10 l382,e28_9 row,e28_3 l6202]⟩ (aw_region (qA 5 3 1 ⟨18,[e28_36 l382,sI 18 k,sp 22 4,sp 25 7,e28_25,e28_26,e28_5 ret29v,sI 31 i,e28_14,e28_6 k,sI 68 v50,e28_15,sI 72 v50],[e28_0,e28_1 ret25v,e28_2 ret29v k out,e28_23,e28_21 l382 ret25v i v50,e28_9 row,e28_3 l6202]⟩ h fun h=>awl_nil (rest7 ((l382.length:Int),(l382++[(bdx0 ret25v l382 i v50)])) h)))
           ·exact qV [.prune e28_n2 e28_n0,.ren 38 20038,.ren 20038 16] ⟨18,[sI 5 ret8v,sI 18 k,sp 22 4,sp 25 7,e28_25,e28_26,e28_5 ret29v,sI 31 i,e28_14,e28_6 k,sI 68 v50,e28_15,sI 72 v50],[e28_0,e28_1 ret25v,e28_2 ret29v k out,e28_23,hA 16 3 tI l382,e28_9 row,e28_3 l6202]⟩ (aw_skip (rest7 (ret8v,l382) h))
      ·exact qC ⟨92,[sI 0 k,sp 4 4,sp 7 7,e28_18,e28_20,e28_4 ret29v,sI 13 i,e28_17],[e28_0,e28_1 ret25v,e28_2 ret29v k out,e28_11,e28_10 l382,e28_9 row,e28_3 l6202]⟩ (aw_exit (thenQ_x (thenQ_x (blockQ_hit (rest3 (l382,row) h)))))
    ·exact qC ⟨92,[sp 4 4,e28_18],[e28_0,e28_2 ret29v k out,e28_3 l6202]⟩ (aw_exit (thenQ_x (thenQ_x (blockQ_hit (rest1 (out,l6202) h)))))
-- coppicer/machine.within
def VC82 (n low high:Int) (K:Bool→Prop):Prop :=
  K ((decide (low≤n))&&(decide (n≤high)))
theorem link82 (n low high:Int) (K:Bool→Prop) (h:VC82 n low high K):ACalls Try.prog 82 [toV1 tI n,toV1 tI low,toV1 tI high] (fun res=>∃ y,res=(fun y=>[toV1 .bool y]) y∧K y):=by
 refine acalls_of_aw [.bool] [.t 6] Try.func82 rfl rfl rfl ?_
 unfold VC82 at h
 refine sr (qT 1 ⟨15,[sI 0 n,sI 1 low,sI 2 high],[]⟩ (nsr (qR 9 ⟨15,[sB 6 ((decide (low≤n))&&(decide (n≤high)))],[]⟩ (ob:=Ts 4 (Ti 3 ((decide (low≤n))=true→True) (Ts 2 True))) (tsI 4 (tiI 3 (fun _=>trivial) (tsI 2 trivial))) ?_)))
 exact nn (aw_ret (qE 1 h))
-- coppicer/machine.Word$1
def VC44 (setv n:Int) (K:Bool→Prop):Prop :=
  ((0≤setv∧0≤n)∧K (decide ((bAnd .u32 (bShr .u32 setv n) (1:Int))=(1:Int))))
theorem link44 (setv n:Int) (K:Bool→Prop) (h:VC44 setv n K):ACalls Try.prog 44 [toV1 (.int .u32) setv,toV1 tI n] (fun res=>∃ y,res=(fun y=>[toV1 .bool y]) y∧K y):=by
 refine acalls_of_aw [.bool] [.t 4] Try.func44 rfl rfl rfl ?_
 unfold VC44 at h
 exact sr (qT 1 ⟨10,[s1 0 (.pW setv),sI 1 n],[]⟩ (nsr (qA 6 2 3 ⟨10,[sB 4 (decide ((bAnd .u32 (bShr .u32 setv n) (1:Int))=(1:Int)))],[]⟩ h fun h=>nn (aw_ret (qE 1 h)))))
def VC83 (l:LI) (a1:Lqb) (K:Bool→Prop):Prop :=
  K (!decide ((l.length:Int)=a1.2.1))
theorem link83 (l:LI) (a1:Lqb) (K:Bool→Prop) (h:VC83 l a1 K):ACalls Try.prog 83 [toV1 (.sl tI) l,.c (.ad (.pr tI (.pr tI (.pr (.sl (.sl tI)) (.pr tI (.int .u32))))) a1)] (fun res=>∃ y,res=(fun y=>[toV1 .bool y]) y∧K y):=by
 refine acalls_of_aw [.bool] [.t 3] Try.func83 rfl rfl rfl ?_
 unfold VC83 at h
 exact sr (qT 1 ⟨9,[s1 0 (.pS l),s1 1 (.ad (.pr tI (.pr tI (.pr (.sl (.sl tI)) (.pr tI (.int .u32))))) a1)],[]⟩ (nsr (qT 6 ⟨9,[sB 3 (!decide ((l.length:Int)=a1.2.1))],[]⟩ (nn (aw_ret (qE 1 h))))))
abbrev e100_0 (sv:LL):=s1 0 (.p (.sl (.sl tI)) sv)
abbrev e100_1 (sv:LL):=sI 7 (sv.length:Int)
-- slices.IndexFunc[[][]int,[]int]
def VC100_k1 (K:Int→Prop):Prop :=
  K (-1:Int)
def VC100_l1 (sv:LL) (F1:LI→(Bool→Prop)→Prop) (K:Int→Prop) (v8:Int) (X1:Int→Prop):Prop :=
  (((decide (v8<(sv.length:Int)))=true→(inIdx v8 sv.length∧F1 (sv.getD (v8).toNat ([]:LI)) (fun (ret16v:Bool)=>((ret16v=true→K v8)∧(ret16v=false→(InR (v8+(1:Int))∧X1 (v8+(1:Int))))))))∧((decide (v8<(sv.length:Int)))=false→VC100_k1 K))
def VC100 (sv:LL) (F1:LI→(Bool→Prop)→Prop) (K:Int→Prop):Prop :=
  Loop (σ:=Int) (fun s X=>VC100_l1 sv F1 K s X) (0:Int)
theorem link100 (sv:LL) (fv1:FuncId) (cv1:List Dat) (F1:LI→(Bool→Prop)→Prop) (hF1:FnIs Try.prog fv1 cv1 (fun (x:LI)=>[toV1 (.sl tI) x]) (fun (y:Bool)=>[toV1 .bool y]) F1) (K:Int→Prop) (h:VC100 sv F1 K):ACalls Try.prog 100 [toV1 (.sl (.sl tI)) sv,.c (.fn fv1 cv1)] (fun res=>∃ y,res=(fun y=>[toV1 tI y]) y∧K y):=by
 refine acalls_of_aw [tI] [.t 4] Try.func100 rfl rfl rfl ?_
 unfold VC100 at h
 refine qS 1 ⟨19,[e100_0 sv,s1 1 (.fn fv1 cv1)],[]⟩ (aw_seq (qS 3 ⟨19,[e100_0 sv,s1 1 (.fn fv1 cv1),e100_1 sv,sI 8 (0:Int)],[]⟩ (withJoin (σ:=Unit) (fun s=>⟨19,[],[]⟩) (fun s=>VC100_k1 K) (fun s h=>?_) (fun rest1=>?_))))
 ·have h:VC100_k1 K:=h
  unfold VC100_k1 at h
  exact thenQ_n (qS 1 ⟨19,[sI 4 (-1:Int)],[]⟩ (aw_ret (qE 1 h)))
 ·refine aw_block (aw_loop (σ:=Int) (fun s=>⟨19,[e100_0 sv,s1 1 (.fn fv1 cv1),e100_1 sv,sI 8 s],[]⟩) (fun s X=>VC100_l1 sv F1 K s X) (s0:=(0:Int)) (fun v8 X1 h=>?_) h)
  have h:VC100_l1 sv F1 K v8 X1:=h
  unfold VC100_l1 at h
  refine qS 1 ⟨19,[e100_0 sv,s1 1 (.fn fv1 cv1),e100_1 sv,sI 8 v8,sB 9 (decide (v8<(sv.length:Int)))],[]⟩ (aw_seq (qI h (fun h=>?_) fun h=>?_))
  ·refine aw_skip (thenQ_n (aw_seq (aw_block (sr (qT 2 ⟨19,[e100_0 sv,s1 1 (.fn fv1 cv1),sI 5 v8,e100_1 sv,sI 8 v8],[]⟩ (nsr (qA 5 3 1 ⟨19,[e100_0 sv,s1 1 (.fn fv1 cv1),sI 5 v8,e100_1 sv,sI 8 v8,s1 11 (.fn fv1 cv1),s1 15 (.pS (sv.getD (v8).toNat ([]:LI)))],[]⟩ h fun h=>qK 16 [.d (.sl tI)] (fun ret16v=>⟨19,[e100_0 sv,s1 1 (.fn fv1 cv1),sI 5 v8,e100_1 sv,sI 8 v8,sB 16 ret16v],[]⟩) hF1.1 (hF1.2 (sv.getD (v8).toNat ([]:LI)) _ h) fun ret16v h=>?_)))))))
   refine nn (qI h (fun h=>?_) fun h=>?_)
   ·exact qS 2 ⟨19,[sI 4 v8],[]⟩ (aw_ret (blockQ_r (thenQ_r (thenQ_r (blockQ_r (thenQ_r (qE 1 h)))))))
   ·exact aw_skip (blockQ_n (thenQ_n (aw_region (qA 2 0 1 ⟨19,[e100_0 sv,s1 1 (.fn fv1 cv1),e100_1 sv,sI 8 (v8+(1:Int))],[]⟩ h fun h=>awl_nil (thenQ_n ⟨(v8+(1:Int)),rfl,h⟩)))))
  ·exact qC ⟨19,[],[]⟩ (aw_exit (thenQ_x (thenQ_x (blockQ_hit (rest1 () h)))))
-- slices.ContainsFunc[[][]int,[]int]
def VC77 (sv:LL) (F1:LI→(Bool→Prop)→Prop) (K:Bool→Prop):Prop :=
  VC100 sv F1 (fun (ret7v:Int)=>K (decide ((0:Int)≤ret7v)))
theorem link77 (sv:LL) (fv1:FuncId) (cv1:List Dat) (F1:LI→(Bool→Prop)→Prop) (hF1:FnIs Try.prog fv1 cv1 (fun (x:LI)=>[toV1 (.sl tI) x]) (fun (y:Bool)=>[toV1 .bool y]) F1) (K:Bool→Prop) (h:VC77 sv F1 K):ACalls Try.prog 77 [toV1 (.sl (.sl tI)) sv,.c (.fn fv1 cv1)] (fun res=>∃ y,res=(fun y=>[toV1 .bool y]) y∧K y):=by
 refine acalls_of_aw [.bool] [.t 4] Try.func77 rfl rfl rfl ?_
 unfold VC77 at h
 refine sr (qT 1 ⟨9,[s1 0 (.p (.sl (.sl tI)) sv),s1 1 (.fn fv1 cv1)],[]⟩ (nsr (qT 2 ⟨9,[s1 5 (.p (.sl (.sl tI)) sv),s1 6 (.fn fv1 cv1)],[]⟩ (qK 7 [.d (.sl (.sl tI)),.fn] (fun ret7v=>⟨9,[sI 7 ret7v],[]⟩) Try.call100 (link100 sv fv1 cv1 F1 hF1 _ h) fun ret7v h=>?_))))
 exact qT 2 ⟨9,[sB 4 (decide ((0:Int)≤ret7v))],[]⟩ (nn (aw_ret (qE 1 h)))
-- coppicer/machine.Check$2
def VC84 (n:Int) (a1:Lqb) (K:Bool→Prop):Prop :=
  (InR (a1.1-(1:Int))∧VC82 n (0:Int) (a1.1-(1:Int)) (fun (ret8v:Bool)=>K ret8v))
theorem link84 (n:Int) (a1:Lqb) (K:Bool→Prop) (h:VC84 n a1 K):ACalls Try.prog 84 [toV1 tI n,.c (.ad (.pr tI (.pr tI (.pr (.sl (.sl tI)) (.pr tI (.int .u32))))) a1)] (fun res=>∃ y,res=(fun y=>[toV1 .bool y]) y∧K y):=by
 refine acalls_of_aw [.bool] [.t 3] Try.func84 rfl rfl rfl ?_
 unfold VC84 at h
 refine sr (qT 1 ⟨9,[sI 0 n,s1 1 (.ad (.pr tI (.pr tI (.pr (.sl (.sl tI)) (.pr tI (.int .u32))))) a1)],[]⟩ (nsr (qA 4 3 0 ⟨9,[sI 4 n,sI 7 (a1.1-(1:Int))],[]⟩ h fun h=>qK 8 [.d tI,.d tI,.d tI] (fun ret8v=>⟨9,[sB 8 ret8v],[]⟩) Try.call82 (link82 n (0:Int) (a1.1-(1:Int)) _ h) fun ret8v h=>?_)))
 exact qT 1 ⟨9,[sB 3 ret8v],[]⟩ (nn (aw_ret (qE 1 h)))
abbrev e43_0 (m:Lqb):=s1 1 (.ad (.pr tI (.pr tI (.pr (.sl (.sl tI)) (.pr tI (.int .u32))))) m)
abbrev e43_1 (m:Lqb):=hB 1 [.pI m.1,.pI m.2.1,.p (.sl (.sl tI)) m.2.2.1,.pI m.2.2.2.1,.pW m.2.2.2.2]
abbrev e43_2 (m:Lqb):=s1 32 (.p (.sl (.sl tI)) m.2.2.1)
abbrev e43_3 (m:Lqb) (v34:Int):=sI 39 ((m.2.2.1.getD (v34).toNat ([]:LI)).length:Int)
abbrev e43_4 (m:Lqb):=sI 33 (m.2.2.1.length:Int)
abbrev e43_5 (m:Lqb) (v34:Int):=s1 38 (.pS (m.2.2.1.getD (v34).toNat ([]:LI)))
abbrev e43_6 (m:Lqb):Nat×Path×AV:=(26,[(24,false)],.v (.c (.p (.sl (.sl tI)) m.2.2.1)))
abbrev e43_7 (m:Lqb):=sB 24 (!decide ((m.2.2.1.length:Int)=m.1))
-- coppicer/machine.Check
def VC43_k1 (m:Lqb) (K:Int→Prop):Prop :=
  VC84 m.2.2.2.1 m (fun (ret53v:Bool)=>(((!ret53v)=true→K (2:Int))∧((!ret53v)=false→((0≤m.2.2.2.2∧0≤m.1)∧(((!decide ((bShr .u32 m.2.2.2.2 m.1)=(0:Int)))=true→K (4:Int))∧((!decide ((bShr .u32 m.2.2.2.2 m.1)=(0:Int)))=false→K (0:Int)))))))
def VC43_k2 (v34:Int) (X1:Int→Prop):Prop :=
  (InR (v34+(1:Int))∧X1 (v34+(1:Int)))
def VC43_l2 (m:Lqb) (K:Int→Prop) (v34:Int) (X1:Int→Prop) (v40:Int) (X2:Int→Prop):Prop :=
  (((decide (v40<((m.2.2.1.getD (v34).toNat ([]:LI)).length:Int)))=true→(inIdx v40 (m.2.2.1.getD (v34).toNat ([]:LI)).length∧VC84 ((m.2.2.1.getD (v34).toNat ([]:LI)).getD (v40).toNat (0:Int)) m (fun (ret46v:Bool)=>(((!ret46v)=true→K (2:Int))∧((!ret46v)=false→(InR (v40+(1:Int))∧X2 (v40+(1:Int))))))))∧((decide (v40<((m.2.2.1.getD (v34).toNat ([]:LI)).length:Int)))=false→VC43_k2 v34 X1))
def VC43_l1 (m:Lqb) (K:Int→Prop) (v34:Int) (X1:Int→Prop):Prop :=
  (((decide (v34<(m.2.2.1.length:Int)))=true→(inIdx v34 m.2.2.1.length∧Loop (σ:=Int) (fun s X=>VC43_l2 m K v34 X1 s X) (0:Int)))∧((decide (v34<(m.2.2.1.length:Int)))=false→VC43_k1 m K))
def VC43 (m:Lqb) (K:Int→Prop):Prop :=
  VC82 m.1 (1:Int) (7:Int) (fun (ret10v:Bool)=>gcall (α:=Bool) (!(!ret10v)) (VC82 m.2.1 (1:Int) (3:Int)) false (fun (ret15v:Bool)=>((((!ret10v)||(!ret15v))=true→K (1:Int))∧(((!ret10v)||(!ret15v))=false→gcall (α:=Bool) (!(!decide ((m.2.2.1.length:Int)=m.1))) (VC77 m.2.2.1 (fun (x:LI) (K:Bool→Prop)=>VC83 x m K)) false (fun (ret28v:Bool)=>((((!decide ((m.2.2.1.length:Int)=m.1))||ret28v)=true→K (3:Int))∧(((!decide ((m.2.2.1.length:Int)=m.1))||ret28v)=false→Loop (σ:=Int) (fun s X=>VC43_l1 m K s X) (0:Int))))))))
abbrev bkx0 (m:Lqb):=!decide ((m.2.2.1.length:Int)=m.1)
theorem link43 (m:Lqb) (K:Int→Prop) (h:VC43 m K):ACalls Try.prog 43 [toV1 (.pr tI (.pr tI (.pr (.sl (.sl tI)) (.pr tI (.int .u32))))) m] (fun res=>∃ y,res=(fun y=>[toV1 tI y]) y∧K y):=by
 refine acalls_of_aw [tI] [.t 2] Try.func43 rfl rfl rfl ?_
 unfold VC43 at h
 refine qS 2 ⟨61,[sp 1 1],[e43_1 m]⟩ (aw_seq (sr (qT 2 ⟨61,[sp 1 1,sI 9 m.1],[e43_1 m]⟩ (qK 10 [.d tI,.d tI,.d tI] (fun ret10v=>⟨61,[sp 1 1,sB 10 ret10v],[e43_1 m]⟩) Try.call82 (link82 m.1 (1:Int) (7:Int) _ h) fun ret10v h=>?_))))
 refine qR 4 ⟨61,[sp 1 1,sB 12 (!ret10v),(14,[(12,false)],.v (.c (.pI m.2.1)))],[e43_1 m]⟩ (ob:=Ts 2 (Ti 2 ((!ret10v)=false→True) True)) (tsI 2 (tiI 2 (fun _=>trivial) trivial)) ?_
 refine awl_callk (p:=[(12,false)]) (l:=[toV1 tI m.2.1,toV1 tI (1:Int),toV1 tI (3:Int)]) (cl:=[]) false [.d tI,.d tI,.d tI] [1,12,15] [1] (fun (ret15v:Bool)=>((((!ret10v)||(!ret15v))=true→K (1:Int))∧(((!ret10v)||(!ret15v))=false→gcall (α:=Bool) (!(bkx0 m)) (VC77 m.2.2.1 (fun (x:LI) (K:Bool→Prop)=>VC83 x m K)) false (fun (ret28v:Bool)=>((((bkx0 m)||ret28v)=true→K (3:Int))∧(((bkx0 m)||ret28v)=false→Loop (σ:=Int) (fun s X=>VC43_l1 m K s X) (0:Int))))))) (fun ret15v=>[toV1 .bool ret15v]) (fun ret15v=>⟨61,[sp 1 1,sB 12 (!ret10v),(15,[(12,false)],.v (.c (.pB ret15v)))],[e43_1 m]⟩) (by kernel_rfl) rfl (by kernel_rfl) rfl (by kernel_rfl) Try.call82 (by kernel_rfl) (fun ret15v=>by kernel_rfl) (fun e=>by cases e) (fun hg=>link82 m.2.1 (1:Int) (3:Int) _ (by have:=gcall_T h (show (!(!ret10v))=true from hg);exact this)) (fun hg=>⟨false,by have:=gcall_F h (show (!(!ret10v))=false from hg);exact this⟩) (fun ret15v h=>?_)
 refine qR 2 ⟨61,[sp 1 1,sB 17 ((!ret10v)||(!ret15v))],[e43_1 m]⟩ (ob:=((!ret10v)=false→True)∧Ts 1 True) (⟨(fun _=>trivial),tsI 1 trivial⟩) ?_
 refine nn (qI h (fun h=>?_) fun h=>?_)
 ·exact qS 1 ⟨61,[sI 2 (1:Int)],[]⟩ (aw_ret (thenQ_r (qE 1 h)))
 ·refine aw_skip (thenQ_n (aw_seq (sr (qR 9 ⟨61,[sp 1 1,e43_7 m,e43_6 m],[e43_1 m]⟩ (ob:=Ts 7 (Ti 2 ((bkx0 m)=false→True) True)) (tsI 7 (tiI 2 (fun _=>trivial) trivial)) ?_))))
  refine qW [.freezeB 1 (.pr tI (.pr tI (.pr (.sl (.sl tI)) (.pr tI (.int .u32)))))] ⟨61,[e43_0 m,e43_7 m,e43_6 m],[]⟩ (qR 1 ⟨61,[e43_0 m,e43_7 m,e43_6 m,(27,[(24,false)],.v (.c (.fn 83 [(⟨(.pr tI (.pr tI (.pr (.sl (.sl tI)) (.pr tI (.int .u32))))),m⟩:Dat)])))],[]⟩ (ob:=((bkx0 m)=false→True)∧True) (⟨(fun _=>trivial),trivial⟩) ?_)
  refine awl_callk (p:=[(24,false)]) (l:=[toV1 (.sl (.sl tI)) m.2.2.1,.c (.fn 83 [(⟨(.pr tI (.pr tI (.pr (.sl (.sl tI)) (.pr tI (.int .u32))))),m⟩:Dat)])]) (cl:=[]) false [.d (.sl (.sl tI)),.fn] [1,24,28] [] (fun (ret28v:Bool)=>((((bkx0 m)||ret28v)=true→K (3:Int))∧(((bkx0 m)||ret28v)=false→Loop (σ:=Int) (fun s X=>VC43_l1 m K s X) (0:Int)))) (fun ret28v=>[toV1 .bool ret28v]) (fun ret28v=>⟨61,[e43_0 m,e43_7 m,(28,[(24,false)],.v (.c (.pB ret28v)))],[]⟩) (by kernel_rfl) rfl (by kernel_rfl) rfl (by kernel_rfl) Try.call77 (by kernel_rfl) (fun ret28v=>by kernel_rfl) (fun e=>by cases e) (fun hg=>link77 m.2.2.1 83 [(⟨(.pr tI (.pr tI (.pr (.sl (.sl tI)) (.pr tI (.int .u32))))),m⟩:Dat)] (fun (x:LI) (K:Bool→Prop)=>VC83 x m K) ⟨Try.call83,fun x K h=>link83 x m K h⟩ _ (by have:=gcall_T h (show (!(bkx0 m))=true from hg);exact this)) (fun hg=>⟨false,by have:=gcall_F h (show (!(bkx0 m))=false from hg);exact this⟩) (fun ret28v h=>?_)
  refine qT 1 ⟨61,[e43_0 m,sB 29 ((bkx0 m)||ret28v)],[]⟩ (nn (qI h (fun h=>?_) fun h=>?_))
  ·exact qS 1 ⟨61,[sI 2 (3:Int)],[]⟩ (aw_ret (thenQ_r (qE 1 h)))
  ·refine aw_skip (thenQ_n (qS 2 ⟨61,[e43_0 m,s1 3 (.fn 84 [(⟨(.pr tI (.pr tI (.pr (.sl (.sl tI)) (.pr tI (.int .u32))))),m⟩:Dat)])],[]⟩ (aw_seq (qS 4 ⟨61,[e43_0 m,s1 3 (.fn 84 [(⟨(.pr tI (.pr tI (.pr (.sl (.sl tI)) (.pr tI (.int .u32))))),m⟩:Dat)]),e43_2 m,e43_4 m,sI 34 (0:Int)],[]⟩ (withJoin (σ:=Unit) (fun s=>(⟨61,[e43_0 m,s1 3 (.fn 84 [(⟨(.pr tI (.pr tI (.pr (.sl (.sl tI)) (.pr tI (.int .u32))))),m⟩:Dat)])],[]⟩:St)) (fun s=>VC43_k1 m K) (fun s h=>?_) (fun rest1=>?_))))))
   ·have h:VC43_k1 m K:=h
    unfold VC43_k1 at h
    refine thenQ_n (aw_seq (sr (qT 3 ⟨61,[e43_0 m,s1 50 (.fn 84 [(⟨(.pr tI (.pr tI (.pr (.sl (.sl tI)) (.pr tI (.int .u32))))),m⟩:Dat)]),sI 52 m.2.2.2.1],[]⟩ (qK 53 [.d tI] (fun ret53v=>⟨61,[e43_0 m,sB 53 ret53v],[]⟩) Try.call84 (link84 m.2.2.2.1 m _ h) fun ret53v h=>?_))))
    refine qT 1 ⟨61,[e43_0 m,sB 54 (!ret53v)],[]⟩ (nn (qI h (fun h=>?_) fun h=>?_))
    ·exact qS 1 ⟨61,[sI 2 (2:Int)],[]⟩ (aw_ret (thenQ_r (qE 1 h)))
    ·refine aw_skip (thenQ_n (aw_seq (sr (qA 6 4 1 ⟨61,[sB 60 (!decide ((bShr .u32 m.2.2.2.2 m.1)=(0:Int)))],[]⟩ h fun h=>nn (qI h (fun h=>?_) fun h=>?_)))))
     ·exact qS 1 ⟨61,[sI 2 (4:Int)],[]⟩ (aw_ret (thenQ_r (qE 1 h)))
     ·exact aw_skip (thenQ_n (qS 1 ⟨61,[sI 2 (0:Int)],[]⟩ (aw_ret (qE 1 h))))
   ·refine aw_block (aw_loop (σ:=Int) (fun s=>(⟨61,[e43_0 m,s1 3 (.fn 84 [(⟨(.pr tI (.pr tI (.pr (.sl (.sl tI)) (.pr tI (.int .u32))))),m⟩:Dat)]),e43_2 m,e43_4 m,sI 34 s],[]⟩:St)) (fun s X=>VC43_l1 m K s X) (s0:=(0:Int)) (fun v34 X1 h=>?_) h)
    have h:VC43_l1 m K v34 X1:=h
    unfold VC43_l1 at h
    refine qS 1 ⟨61,[e43_0 m,s1 3 (.fn 84 [(⟨(.pr tI (.pr tI (.pr (.sl (.sl tI)) (.pr tI (.int .u32))))),m⟩:Dat)]),e43_2 m,e43_4 m,sI 34 v34,sB 35 (decide (v34<(m.2.2.1.length:Int)))],[]⟩ (aw_seq (qI h (fun h=>?_) fun h=>?_))
    ·refine aw_skip (thenQ_n (aw_seq (aw_block (sr (qA 3 0 2 ⟨61,[e43_0 m,s1 3 (.fn 84 [(⟨(.pr tI (.pr tI (.pr (.sl (.sl tI)) (.pr tI (.int .u32))))),m⟩:Dat)]),s1 5 (.pS (m.2.2.1.getD (v34).toNat ([]:LI))),e43_2 m,e43_4 m,sI 34 v34],[]⟩ h fun h=>nsr (qT 3 ⟨61,[e43_0 m,s1 3 (.fn 84 [(⟨(.pr tI (.pr tI (.pr (.sl (.sl tI)) (.pr tI (.int .u32))))),m⟩:Dat)]),e43_2 m,e43_4 m,sI 34 v34,e43_5 m v34,e43_3 m v34,sI 40 (0:Int)],[]⟩ (nn (withJoin (σ:=Unit) (fun s=>(⟨61,[e43_0 m,s1 3 (.fn 84 [(⟨(.pr tI (.pr tI (.pr (.sl (.sl tI)) (.pr tI (.int .u32))))),m⟩:Dat)]),e43_2 m,e43_4 m,sI 34 v34],[]⟩:St)) (fun s=>VC43_k2 v34 X1) (fun s h=>?_) (fun rest2=>?_)))))))))
     ·have h:VC43_k2 v34 X1:=h
      unfold VC43_k2 at h
      exact blockQ_n (thenQ_n (aw_region (qA 2 0 1 ⟨61,[e43_0 m,s1 3 (.fn 84 [(⟨(.pr tI (.pr tI (.pr (.sl (.sl tI)) (.pr tI (.int .u32))))),m⟩:Dat)]),e43_2 m,e43_4 m,sI 34 (v34+(1:Int))],[]⟩ h fun h=>awl_nil (thenQ_n ⟨(v34+(1:Int)),rfl,h⟩))))
     ·refine aw_block (aw_loop (σ:=Int) (fun s=>(⟨61,[e43_0 m,s1 3 (.fn 84 [(⟨(.pr tI (.pr tI (.pr (.sl (.sl tI)) (.pr tI (.int .u32))))),m⟩:Dat)]),e43_2 m,e43_4 m,sI 34 v34,e43_5 m v34,e43_3 m v34,sI 40 s],[]⟩:St)) (fun s X=>VC43_l2 m K v34 X1 s X) (s0:=(0:Int)) (fun v40 X2 h=>?_) h)
      have h:VC43_l2 m K v34 X1 v40 X2:=h
      unfold VC43_l2 at h
      refine qS 1 ⟨61,[e43_0 m,s1 3 (.fn 84 [(⟨(.pr tI (.pr tI (.pr (.sl (.sl tI)) (.pr tI (.int .u32))))),m⟩:Dat)]),e43_2 m,e43_4 m,sI 34 v34,e43_5 m v34,e43_3 m v34,sI 40 v40,sB 41 (decide (v40<((m.2.2.1.getD (v34).toNat ([]:LI)).length:Int)))],[]⟩ (aw_seq (qI h (fun h=>?_) fun h=>?_))
      ·refine aw_skip (thenQ_n (aw_seq (aw_block (sr (qA 3 0 2 ⟨61,[e43_0 m,s1 3 (.fn 84 [(⟨(.pr tI (.pr tI (.pr (.sl (.sl tI)) (.pr tI (.int .u32))))),m⟩:Dat)]),sI 7 ((m.2.2.1.getD (v34).toNat ([]:LI)).getD (v40).toNat (0:Int)),e43_2 m,e43_4 m,sI 34 v34,e43_5 m v34,e43_3 m v34,sI 40 v40],[]⟩ h fun h=>nsr (qT 2 ⟨61,[e43_0 m,s1 3 (.fn 84 [(⟨(.pr tI (.pr tI (.pr (.sl (.sl tI)) (.pr tI (.int .u32))))),m⟩:Dat)]),e43_2 m,e43_4 m,sI 34 v34,e43_5 m v34,e43_3 m v34,sI 40 v40,s1 44 (.fn 84 [(⟨(.pr tI (.pr tI (.pr (.sl (.sl tI)) (.pr tI (.int .u32))))),m⟩:Dat)]),sI 45 ((m.2.2.1.getD (v34).toNat ([]:LI)).getD (v40).toNat (0:Int))],[]⟩ (qK 46 [.d tI] (fun ret46v=>(⟨61,[e43_0 m,s1 3 (.fn 84 [(⟨(.pr tI (.pr tI (.pr (.sl (.sl tI)) (.pr tI (.int .u32))))),m⟩:Dat)]),e43_2 m,e43_4 m,sI 34 v34,e43_5 m v34,e43_3 m v34,sI 40 v40,sB 46 ret46v],[]⟩:St)) Try.call84 (link84 ((m.2.2.1.getD (v34).toNat ([]:LI)).getD (v40).toNat (0:Int)) m _ h) fun ret46v h=>?_)))))))
       refine qT 1 ⟨61,[e43_0 m,s1 3 (.fn 84 [(⟨(.pr tI (.pr tI (.pr (.sl (.sl tI)) (.pr tI (.int .u32))))),m⟩:Dat)]),e43_2 m,e43_4 m,sI 34 v34,e43_5 m v34,e43_3 m v34,sI 40 v40,sB 47 (!ret46v)],[]⟩ (nn (qI h (fun h=>?_) fun h=>?_))
       ·exact qS 1 ⟨61,[sI 2 (2:Int)],[]⟩ (aw_ret (blockQ_r (thenQ_r (thenQ_r (blockQ_r (blockQ_r (thenQ_r (thenQ_r (blockQ_r (thenQ_r (qE 1 h)))))))))))
       ·exact aw_skip (blockQ_n (thenQ_n (aw_region (qA 2 0 1 ⟨61,[e43_0 m,s1 3 (.fn 84 [(⟨(.pr tI (.pr tI (.pr (.sl (.sl tI)) (.pr tI (.int .u32))))),m⟩:Dat)]),e43_2 m,e43_4 m,sI 34 v34,e43_5 m v34,e43_3 m v34,sI 40 (v40+(1:Int))],[]⟩ h fun h=>awl_nil (thenQ_n ⟨(v40+(1:Int)),rfl,h⟩)))))
      ·exact qC ⟨61,[e43_0 m,s1 3 (.fn 84 [(⟨(.pr tI (.pr tI (.pr (.sl (.sl tI)) (.pr tI (.int .u32))))),m⟩:Dat)]),e43_2 m,e43_4 m,sI 34 v34],[]⟩ (aw_exit (thenQ_x (thenQ_x (blockQ_hit (rest2 () h)))))
    ·exact qC ⟨61,[e43_0 m,s1 3 (.fn 84 [(⟨(.pr tI (.pr tI (.pr (.sl (.sl tI)) (.pr tI (.int .u32))))),m⟩:Dat)])],[]⟩ (aw_exit (thenQ_x (thenQ_x (blockQ_hit (rest1 () h)))))
abbrev e92_0 (m:Lqb):=hB 1 [.pI m.1,.pI m.2.1,.p (.sl (.sl tI)) m.2.2.1,.pI m.2.2.2.1,.pW m.2.2.2.2]
abbrev e92_1 (parted3:Lqd):Nat×Path×Con:=(13,[],.dict (.pr tI tI) tI parted3)
abbrev e92_2:=s1 3 (.own 13)
abbrev e92_3 (parted:Lqd):Nat×Path×Con:=(13,[],.dict (.pr tI tI) tI parted)
abbrev e92_4 (parted2:Lqd):Nat×Path×Con:=(13,[],.dict (.pr tI tI) tI parted2)
abbrev e92_5:=sp 1 1
abbrev e92_6:Nat×Path×Con:=(13,[],.dict (.pr tI tI) tI ([]:List ((Int×Int)×Int)))
-- coppicer/least.apart
def VC92_k1 (K:Lqd→Prop) (parted:Lqd):Prop :=
  K parted
def VC92_k2 (X1:Bool×Lqd→Prop) (grown2:Bool) (parted2:Lqd):Prop :=
  X1 (grown2,parted2)
def VC92_k3 (v17:Int) (X2:Bool×Int×Lqd→Prop) (grown3:Bool) (parted3:Lqd):Prop :=
  (InR (v17+(1:Int))∧X2 (grown3,(v17+(1:Int)),parted3))
def VC92_k4 (v22:Int) (X3:Bool×Int×Lqd→Prop) (grown4:Bool) (parted4:Lqd):Prop :=
  (InR (v22+(1:Int))∧X3 (grown4,(v22+(1:Int)),parted4))
def VC92_k6 (v22:Int) (X3:Bool×Int×Lqd→Prop) (grown4:Bool) (parted4:Lqd):Prop :=
  VC92_k4 v22 X3 grown4 parted4
def VC92_k5 (v17:Int) (grown3:Bool) (v22:Int) (parted3:Lqd) (X3:Bool×Int×Lqd→Prop) (is:Bool):Prop :=
  ((is=true→VC92_k6 v22 X3 true (mset parted3 (v17,v22) (1:Int)))∧(is=false→VC92_k6 v22 X3 grown3 parted3))
def VC92_l4 (m:Lqb) (v17:Int) (grown3:Bool) (v22:Int) (parted3:Lqd) (X3:Bool×Int×Lqd→Prop) (is:Bool) (v45:Int) (X4:Bool×Int→Prop):Prop :=
  (((decide (v45<m.2.1))=true→(inIdx v17 m.2.2.1.length∧inIdx v45 (m.2.2.1.getD (v17).toNat ([]:LI)).length∧inIdx v22 m.2.2.1.length∧inIdx v45 (m.2.2.1.getD (v22).toNat ([]:LI)).length∧(InR (v45+(1:Int))∧X4 ((is||(mget parted3 (((m.2.2.1.getD (v17).toNat ([]:LI)).getD (v45).toNat (0:Int)),((m.2.2.1.getD (v22).toNat ([]:LI)).getD (v45).toNat (0:Int)))).isSome),(v45+(1:Int))))))∧((decide (v45<m.2.1))=false→VC92_k5 v17 grown3 v22 parted3 X3 is))
def VC92_l3 (m:Lqb) (v17:Int) (X2:Bool×Int×Lqd→Prop) (grown3:Bool) (v22:Int) (parted3:Lqd) (X3:Bool×Int×Lqd→Prop):Prop :=
  (((decide (v22<m.1))=true→(((mget parted3 (v17,v22)).isSome=true→VC92_k4 v22 X3 grown3 parted3)∧((mget parted3 (v17,v22)).isSome=false→VC44 m.2.2.2.2 v17 (fun (ret37v:Bool)=>VC44 m.2.2.2.2 v22 (fun (ret41v:Bool)=>Loop (σ:=Bool×Int) (fun s X=>VC92_l4 m v17 grown3 v22 parted3 X3 s.1 s.2 X) ((ret37v != ret41v),(0:Int)))))))∧((decide (v22<m.1))=false→VC92_k3 v17 X2 grown3 parted3))
def VC92_l2 (m:Lqb) (X1:Bool×Lqd→Prop) (grown2:Bool) (v17:Int) (parted2:Lqd) (X2:Bool×Int×Lqd→Prop):Prop :=
  (((decide (v17<m.1))=true→Loop (σ:=Bool×Int×Lqd) (fun s X=>VC92_l3 m v17 X2 s.1 s.2.1 s.2.2 X) (grown2,(0:Int),parted2))∧((decide (v17<m.1))=false→VC92_k2 X1 grown2 parted2))
def VC92_l1 (m:Lqb) (K:Lqd→Prop) (grown:Bool) (parted:Lqd) (X1:Bool×Lqd→Prop):Prop :=
  ((grown=true→Loop (σ:=Bool×Int×Lqd) (fun s X=>VC92_l2 m X1 s.1 s.2.1 s.2.2 X) (false,(0:Int),parted))∧(grown=false→VC92_k1 K parted))
def VC92 (m:Lqb) (K:Lqd→Prop):Prop :=
  Loop (σ:=Bool×Lqd) (fun s X=>VC92_l1 m K s.1 s.2 X) (true,([]:List ((Int×Int)×Int)))
abbrev blx0 (m:Lqb) (v17 v45 v22:Int):=(((m.2.2.1.getD (v17).toNat ([]:LI)).getD (v45).toNat (0:Int)),((m.2.2.1.getD (v22).toNat ([]:LI)).getD (v45).toNat (0:Int)))
abbrev blx1:=List ((Int×Int)×Int)
theorem link92 (m:Lqb) (K:blx1→Prop) (h:VC92 m K):ACalls Try.prog 92 [toV1 (.pr tI (.pr tI (.pr (.sl (.sl tI)) (.pr tI (.int .u32))))) m] (fun res=>∃ y,res=(fun y=>[toV1 (.mp (.pr tI tI) tI) y]) y∧K y):=by
 refine acalls_of_aw [(.mp (.pr tI tI) tI)] [.t 2] Try.func92 rfl rfl rfl ?_
 unfold VC92 at h
 refine sr (qT 2 ⟨83,[e92_5],[e92_0 m]⟩ (nsr (qT 2 ⟨83,[e92_5,e92_2],[e92_0 m,e92_6]⟩ (nn (aw_seq (qS 1 ⟨83,[e92_5,e92_2,sB 4 true],[e92_0 m,e92_6]⟩ (withJoin (σ:=blx1) (fun s=>⟨83,[e92_2],[(13,[],.dict (.pr tI tI) tI s)]⟩) (fun s=>VC92_k1 K s) (fun parted h=>?_) (fun rest1=>?_))))))))
 ·have h:VC92_k1 K parted:=h
  unfold VC92_k1 at h
  exact thenQ_n (qS 2 ⟨83,[s1 2 (.own 13)],[e92_3 parted]⟩ (qV [.freeze 13] ⟨83,[s1 2 (.p (.mp (.pr tI tI) tI) parted)],[]⟩ (aw_ret (qE 1 h))))
 ·refine aw_block (aw_loop (σ:=Bool×blx1) (fun s=>⟨83,[e92_5,e92_2,sB 4 s.1],[e92_0 m,(13,[],.dict (.pr tI tI) tI s.2)]⟩) (fun s X=>VC92_l1 m K s.1 s.2 X) (s0:=(true,([]:List ((Int×Int)×Int)))) (fun s X1 h=>?_) h)
  obtain ⟨grown,parted⟩:=s
  have h:VC92_l1 m K grown parted X1:=h
  unfold VC92_l1 at h
  refine aw_seq (qS 1 ⟨83,[e92_5,e92_2,sB 14 grown],[e92_0 m,e92_3 parted]⟩ (qI h (fun h=>?_) fun h=>?_))
  ·refine aw_skip (thenQ_n (aw_block (sr (qT 1 ⟨83,[e92_5,e92_2,sB 4 false],[e92_0 m,e92_3 parted]⟩ (nsr (qT 3 ⟨83,[e92_5,e92_2,sB 4 false,sI 16 m.1,sI 17 (0:Int)],[e92_0 m,e92_3 parted]⟩ (nn (withJoin (σ:=Bool×blx1) (fun s=>⟨83,[e92_5,e92_2,sB 4 s.1],[e92_0 m,(13,[],.dict (.pr tI tI) tI s.2)]⟩) (fun s=>VC92_k2 X1 s.1 s.2) (fun s h=>?_) (fun rest2=>?_)))))))))
   ·obtain ⟨grown2,parted2⟩:=s
    have h:VC92_k2 X1 grown2 parted2:=h
    unfold VC92_k2 at h
    exact blockQ_n (thenQ_n ⟨(grown2,parted2),rfl,h⟩)
   ·refine aw_block (aw_loop (σ:=Bool×Int×blx1) (fun s=>⟨83,[e92_5,e92_2,sB 4 s.1,sI 16 m.1,sI 17 s.2.1],[e92_0 m,(13,[],.dict (.pr tI tI) tI s.2.2)]⟩) (fun s X=>VC92_l2 m X1 s.1 s.2.1 s.2.2 X) (s0:=(false,(0:Int),parted)) (fun s X2 h=>?_) h)
    obtain ⟨grown2,v17,parted2⟩:=s
    have h:VC92_l2 m X1 grown2 v17 parted2 X2:=h
    unfold VC92_l2 at h
    refine qS 1 ⟨83,[e92_5,e92_2,sB 4 grown2,sI 16 m.1,sI 17 v17,sB 18 (decide (v17<m.1))],[e92_0 m,e92_4 parted2]⟩ (aw_seq (qI h (fun h=>?_) fun h=>?_))
    ·refine aw_skip (thenQ_n (aw_seq (aw_block (sr (qT 2 ⟨83,[e92_5,e92_2,sB 4 grown2,sI 5 v17,sI 16 m.1,sI 17 v17],[e92_0 m,e92_4 parted2]⟩ (nsr (qT 3 ⟨83,[e92_5,e92_2,sB 4 grown2,sI 5 v17,sI 16 m.1,sI 17 v17,sI 21 m.1,sI 22 (0:Int)],[e92_0 m,e92_4 parted2]⟩ (nn (withJoin (σ:=Bool×blx1) (fun s=>⟨83,[e92_5,e92_2,sB 4 s.1,sI 16 m.1,sI 17 v17],[e92_0 m,(13,[],.dict (.pr tI tI) tI s.2)]⟩) (fun s=>VC92_k3 v17 X2 s.1 s.2) (fun s h=>?_) (fun rest3=>?_))))))))))
     ·obtain ⟨grown3,parted3⟩:=s
      have h:VC92_k3 v17 X2 grown3 parted3:=h
      unfold VC92_k3 at h
      exact blockQ_n (thenQ_n (aw_region (qA 2 0 1 ⟨83,[e92_5,e92_2,sB 4 grown3,sI 16 m.1,sI 17 (v17+(1:Int))],[e92_0 m,e92_1 parted3]⟩ h fun h=>awl_nil (thenQ_n ⟨(grown3,(v17+(1:Int)),parted3),rfl,h⟩))))
     ·refine aw_block (aw_loop (σ:=Bool×Int×blx1) (fun s=>⟨83,[e92_5,e92_2,sB 4 s.1,sI 5 v17,sI 16 m.1,sI 17 v17,sI 21 m.1,sI 22 s.2.1],[e92_0 m,(13,[],.dict (.pr tI tI) tI s.2.2)]⟩) (fun s X=>VC92_l3 m v17 X2 s.1 s.2.1 s.2.2 X) (s0:=(grown2,(0:Int),parted2)) (fun s X3 h=>?_) h)
      obtain ⟨grown3,v22,parted3⟩:=s
      have h:VC92_l3 m v17 X2 grown3 v22 parted3 X3:=h
      unfold VC92_l3 at h
      refine qS 1 ⟨83,[e92_5,e92_2,sB 4 grown3,sI 5 v17,sI 16 m.1,sI 17 v17,sI 21 m.1,sI 22 v22,sB 23 (decide (v22<m.1))],[e92_0 m,e92_1 parted3]⟩ (aw_seq (qI h (fun h=>?_) fun h=>?_))
      ·refine aw_skip (thenQ_n (aw_seq (withJoin (σ:=Bool×blx1) (fun s=>⟨83,[e92_5,e92_2,sB 4 s.1,sI 5 v17,sI 16 m.1,sI 17 v17,sI 21 m.1,sI 22 v22],[e92_0 m,(13,[],.dict (.pr tI tI) tI s.2)]⟩) (fun s=>VC92_k4 v22 X3 s.1 s.2) (fun s h=>?_) (fun rest4=>?_))))
       ·obtain ⟨grown4,parted4⟩:=s
        have h:VC92_k4 v22 X3 grown4 parted4:=h
        unfold VC92_k4 at h
        exact thenQ_n (aw_region (qA 2 0 1 ⟨83,[e92_5,e92_2,sB 4 grown4,sI 5 v17,sI 16 m.1,sI 17 v17,sI 21 m.1,sI 22 (v22+(1:Int))],[e92_0 m,(13,[],.dict (.pr tI tI) tI parted4)]⟩ h fun h=>awl_nil (thenQ_n ⟨(grown4,(v22+(1:Int)),parted4),rfl,h⟩)))
       ·refine aw_block (qS 2 ⟨83,[e92_5,e92_2,sB 4 grown3,sI 5 v17,sI 6 v22,sI 16 m.1,sI 17 v17,sI 21 m.1,sI 22 v22],[e92_0 m,e92_1 parted3]⟩ (aw_seq (sr (qT 10 ⟨83,[e92_5,e92_2,sB 4 grown3,sI 5 v17,sI 6 v22,sB 8 ((mget parted3 (v17,v22)).isSome),sI 16 m.1,sI 17 v17,sI 21 m.1,sI 22 v22],[e92_0 m,e92_1 parted3]⟩ (nsr (qT 1 ⟨83,[e92_5,e92_2,sB 4 grown3,sI 5 v17,sI 6 v22,sI 16 m.1,sI 17 v17,sI 21 m.1,sI 22 v22,sB 33 ((mget parted3 (v17,v22)).isSome)],[e92_0 m,e92_1 parted3]⟩ (nn (qI h (fun h=>?_) fun h=>?_))))))))
        ·exact qC ⟨83,[e92_5,e92_2,sB 4 grown3,sI 5 v17,sI 16 m.1,sI 17 v17,sI 21 m.1,sI 22 v22],[e92_0 m,e92_1 parted3]⟩ (aw_exit (thenQ_x (blockQ_hit (rest4 (grown3,parted3) h))))
        ·refine aw_skip (thenQ_n (aw_seq (awd_begin [] (by kernel_rfl) ?_)))
         refine qDT 6 [0,1,2,4,5,6] [6,5,4,2,1,0] ⟨83,[e92_5,e92_2,sB 4 grown3,sI 5 v17,sI 6 v22,sI 16 m.1,sI 17 v17,sI 21 m.1,sI 22 v22,s1 35 (.pW m.2.2.2.2),sI 36 v17,s1 39 (.pW m.2.2.2.2),sI 40 v22],[e92_0 m,e92_1 parted3]⟩ (awd_one (i:=3) (by kernel_rfl) ?_)
         refine dcq (d:=37) [.d (.int .u32),.d tI] (fun ret37v=>⟨83,[e92_5,e92_2,sB 4 grown3,sI 5 v17,sI 6 v22,sI 16 m.1,sI 17 v17,sI 21 m.1,sI 22 v22,sB 37 ret37v,s1 39 (.pW m.2.2.2.2),sI 40 v22],[e92_0 m,e92_1 parted3]⟩) rfl (by kernel_rfl) Try.call44 (fun _=>by kernel_rfl) (link44 m.2.2.2.2 v17 _ h) (fun ret37v h=>(awd_one (i:=7) (by kernel_rfl) ?_))
         refine dcq (d:=41) [.d (.int .u32),.d tI] (fun ret41v=>⟨83,[e92_5,e92_2,sB 4 grown3,sI 5 v17,sI 6 v22,sI 16 m.1,sI 17 v17,sI 21 m.1,sI 22 v22,sB 37 ret37v,sB 41 ret41v],[e92_0 m,e92_1 parted3]⟩) rfl (by kernel_rfl) Try.call44 (fun _=>by kernel_rfl) (link44 m.2.2.2.2 v22 _ h) (fun ret41v h=>(qDT 2 [8,9] [9,8,7,3,6,5,4,2,1,0] ⟨83,[e92_5,e92_2,sB 4 grown3,sI 5 v17,sI 6 v22,sB 9 (ret37v != ret41v),sI 16 m.1,sI 17 v17,sI 21 m.1,sI 22 v22],[e92_0 m,e92_1 parted3]⟩ (awd_done (by kernel_rfl) ?_)))
         refine thenQ_n (aw_seq (qS 3 ⟨83,[e92_5,e92_2,sB 4 grown3,sI 5 v17,sI 6 v22,sB 9 (ret37v != ret41v),sI 16 m.1,sI 17 v17,sI 21 m.1,sI 22 v22,sI 44 m.2.1,sI 45 (0:Int)],[e92_0 m,e92_1 parted3]⟩ (withJoin (σ:=Bool) (fun s=>⟨83,[e92_5,e92_2,sB 4 grown3,sI 5 v17,sI 6 v22,sB 9 s,sI 16 m.1,sI 17 v17,sI 21 m.1,sI 22 v22],[e92_0 m,e92_1 parted3]⟩) (fun s=>VC92_k5 v17 grown3 v22 parted3 X3 s) (fun is h=>?_) (fun rest6=>?_))))
         ·have h:VC92_k5 v17 grown3 v22 parted3 X3 is:=h
          unfold VC92_k5 at h
          refine thenQ_n (qS 1 ⟨83,[e92_5,e92_2,sB 4 grown3,sI 5 v17,sI 6 v22,sI 16 m.1,sI 17 v17,sI 21 m.1,sI 22 v22,sB 75 is],[e92_0 m,e92_1 parted3]⟩ (withJoin (σ:=Bool×blx1) (fun s=>⟨83,[e92_5,e92_2,sB 4 s.1,sI 5 v17,sI 16 m.1,sI 17 v17,sI 21 m.1,sI 22 v22],[e92_0 m,(13,[],.dict (.pr tI tI) tI s.2)]⟩) (fun s=>VC92_k6 v22 X3 s.1 s.2) (fun s h=>?_) (fun rest5=>?_)))
          ·obtain ⟨grown4,parted4⟩:=s
           have h:VC92_k6 v22 X3 grown4 parted4:=h
           unfold VC92_k6 at h
           exact blockQ_n (rest4 (grown4,parted4) h)
          ·refine qI h (fun h=>?_) fun h=>?_
           ·exact qS 5 ⟨83,[e92_5,e92_2,sI 5 v17,sI 16 m.1,sI 17 v17,sI 21 m.1,sI 22 v22],[e92_0 m,(13,[],.dict (.pr tI tI) tI (mset parted3 (v17,v22) (1:Int)))]⟩ (aw_region (qT 1 ⟨83,[e92_5,e92_2,sB 4 true,sI 5 v17,sI 16 m.1,sI 17 v17,sI 21 m.1,sI 22 v22],[e92_0 m,(13,[],.dict (.pr tI tI) tI (mset parted3 (v17,v22) (1:Int)))]⟩ (awl_nil (rest5 (true,(mset parted3 (v17,v22) (1:Int))) h))))
           ·exact qC ⟨83,[e92_5,e92_2,sB 4 grown3,sI 5 v17,sI 16 m.1,sI 17 v17,sI 21 m.1,sI 22 v22],[e92_0 m,e92_1 parted3]⟩ (aw_skip (rest5 (grown3,parted3) h))
         ·refine aw_block (aw_loop (σ:=Bool×Int) (fun s=>⟨83,[e92_5,e92_2,sB 4 grown3,sI 5 v17,sI 6 v22,sB 9 s.1,sI 16 m.1,sI 17 v17,sI 21 m.1,sI 22 v22,sI 44 m.2.1,sI 45 s.2],[e92_0 m,e92_1 parted3]⟩) (fun s X=>VC92_l4 m v17 grown3 v22 parted3 X3 s.1 s.2 X) (s0:=((ret37v != ret41v),(0:Int))) (fun s X4 h=>?_) h)
          obtain ⟨is,v45⟩:=s
          have h:VC92_l4 m v17 grown3 v22 parted3 X3 is v45 X4:=h
          unfold VC92_l4 at h
          refine qS 1 ⟨83,[e92_5,e92_2,sB 4 grown3,sI 5 v17,sI 6 v22,sB 9 is,sI 16 m.1,sI 17 v17,sI 21 m.1,sI 22 v22,sI 44 m.2.1,sI 45 v45,sB 46 (decide (v45<m.2.1))],[e92_0 m,e92_1 parted3]⟩ (aw_seq (qI h (fun h=>?_) fun h=>?_))
          ·refine aw_skip (thenQ_n (aw_seq (aw_block (qS 2 ⟨83,[e92_5,e92_2,sB 4 grown3,sI 5 v17,sI 6 v22,sB 9 is,sI 10 v45,sI 16 m.1,sI 17 v17,sI 21 m.1,sI 22 v22,sI 44 m.2.1,sI 45 v45],[e92_0 m,e92_1 parted3]⟩ (aw_seq (awd_begin [] (by kernel_rfl) ?_))))))
           obtain ⟨o1,o2,o3,o4,h⟩:=h
           refine qD [0,1,2,3,4,5,6,7,8,9,10,11,12,13,14,15,16,17,18,19,20,21,22,23] [23,22,21,20,19,18,17,16,15,14,13,12,11,10,9,8,7,6,5,4,3,2,1,0] ⟨83,[e92_5,e92_2,sB 4 grown3,sI 5 v17,sI 6 v22,sB 9 is,sB 12 ((mget parted3 (blx0 m v17 v45 v22)).isSome),sI 16 m.1,sI 17 v17,sI 21 m.1,sI 22 v22,sI 44 m.2.1,sI 45 v45],[e92_0 m,e92_1 parted3]⟩ (ob:=Ts 4 (inIdx v17 m.2.2.1.length∧Ts 2 (inIdx v45 (m.2.2.1.getD (v17).toNat ([]:LI)).length∧Ts 4 (inIdx v22 m.2.2.1.length∧Ts 2 (inIdx v45 (m.2.2.1.getD (v22).toNat ([]:LI)).length∧Ts 8 True))))) (tsI 4 (⟨o1,tsI 2 (⟨o2,tsI 4 (⟨o3,tsI 2 ⟨o4,tsI 8 trivial⟩⟩)⟩)⟩)) ?_
           refine awd_done (by kernel_rfl) ?_
           refine thenQ_n (aw_region (qR 5 ⟨83,[e92_5,e92_2,sB 4 grown3,sI 5 v17,sI 6 v22,sB 9 (is||(mget parted3 (blx0 m v17 v45 v22)).isSome),sI 16 m.1,sI 17 v17,sI 21 m.1,sI 22 v22,sI 44 m.2.1,sI 45 v45],[e92_0 m,e92_1 parted3]⟩ (ob:=Ts 2 ((is=false→True)∧Ts 2 True)) (tsI 2 ⟨(fun _=>trivial),tsI 2 trivial⟩) ?_))
           exact awl_nil (blockQ_n (thenQ_n (aw_region (qA 2 0 1 ⟨83,[e92_5,e92_2,sB 4 grown3,sI 5 v17,sI 6 v22,sB 9 (is||(mget parted3 (blx0 m v17 v45 v22)).isSome),sI 16 m.1,sI 17 v17,sI 21 m.1,sI 22 v22,sI 44 m.2.1,sI 45 (v45+(1:Int))],[e92_0 m,e92_1 parted3]⟩ h fun h=>awl_nil (thenQ_n ⟨((is||(mget parted3 (blx0 m v17 v45 v22)).isSome),(v45+(1:Int))),rfl,h⟩)))))
          ·exact qC ⟨83,[e92_5,e92_2,sB 4 grown3,sI 5 v17,sI 6 v22,sB 9 is,sI 16 m.1,sI 17 v17,sI 21 m.1,sI 22 v22],[e92_0 m,e92_1 parted3]⟩ (aw_exit (thenQ_x (thenQ_x (blockQ_hit (rest6 is h)))))
      ·exact qC ⟨83,[e92_5,e92_2,sB 4 grown3,sI 16 m.1,sI 17 v17],[e92_0 m,e92_1 parted3]⟩ (aw_exit (thenQ_x (thenQ_x (blockQ_hit (rest3 (grown3,parted3) h)))))
    ·exact qC ⟨83,[e92_5,e92_2,sB 4 grown2],[e92_0 m,e92_4 parted2]⟩ (aw_exit (thenQ_x (thenQ_x (blockQ_hit (rest2 (grown2,parted2) h)))))
  ·exact qC ⟨83,[e92_2],[e92_3 parted]⟩ (aw_exit (thenQ_x (thenQ_x (blockQ_hit (rest1 parted h)))))
end Dec
