/-
Printed by dec2.py: of each function its plain demand, and that the demand gives the contract.
-/
import Derived.Test.YtckghdhnmpnljaaProg
import Derived.Test.YtckghdhnmpnljaaDecSh
set_option linter.unusedSimpArgs false
set_option linter.unusedVariables false
set_option maxRecDepth 100000
set_option maxHeartbeats 4000000
namespace Dec
open Go Go.RowKit Go.Proofs
abbrev Lqa:=List ((Int×(Int×Int))×Int)
abbrev Lqb:=Int×(Int×(LL×(Int×Int)))
abbrev Lqc:=LI×(LI×Bool)
abbrev Lqd:=List ((Int×Int)×Int)
abbrev Lqe:=List (LI×Int)
abbrev Lqf:=Int×(Int×Int)
abbrev Lqg:=LI×(LL×LI)
-- coppicer/sentence.fault$1
def VC101 (x a1:Int) (K:Bool→Prop):Prop :=
  K ((decide ((0:Int)≤x))&&(decide (x<a1)))
theorem link101 (x a1:Int) (K:Bool→Prop) (h:VC101 x a1 K):ACalls Try.prog 101 [toV1 tI x,.c (.ad tI a1)] (fun res=>∃ y,res=(fun y=>[toV1 .bool y]) y∧K y):=by
 refine acalls_of_aw [.bool] [.t 3] Try.func101 rfl rfl rfl ?_
 unfold VC101 at h
 refine sr (qT 1 ⟨11,[sI 0 x,s1 1 (.ad tI a1)],[]⟩ (nsr (qR 8 ⟨11,[sB 3 ((decide ((0:Int)≤x))&&(decide (x<a1)))],[]⟩ (ob:=Ts 3 (Ti 3 ((decide ((0:Int)≤x))=true→True) (Ts 2 True))) (tsI 3 (tiI 3 (fun _=>trivial) (tsI 2 trivial))) ?_)))
 exact nn (aw_ret (qE 1 h))
abbrev e85_0 (n:Lqf):=hB 5 [.pI n.1,.pI n.2.1,.pI n.2.2]
-- coppicer/sentence.fault
def VC85_k2 (K:Int→Prop):Prop :=
  K (0:Int)
def VC85_k4 (K:Int→Prop):Prop :=
  VC85_k2 K
def VC85_k3 (i:Int) (n:Lqf) (K:Int→Prop) (v25:Bool):Prop :=
  ((v25=true→VC101 n.2.1 i (fun (ret31v:Bool)=>gcall (α:=Bool) (!(!ret31v)) (VC101 n.2.2 i) false (fun (ret37v:Bool)=>((((!ret31v)||(!ret37v))=true→K (2:Int))∧(((!ret31v)||(!ret37v))=false→VC85_k4 K)))))∧(v25=false→(((decide (n.1=(6:Int)))=true→VC101 n.2.1 i (fun (ret45v:Bool)=>(((!ret45v)=true→K (2:Int))∧((!ret45v)=false→VC85_k4 K))))∧((decide (n.1=(6:Int)))=false→K (6:Int)))))
def VC85_k1 (k i:Int) (n:Lqf) (K:Int→Prop) (v11:Bool):Prop :=
  ((v11=true→K (0:Int))∧(v11=false→(((decide (n.1=(3:Int)))=true→((((decide (n.2.1<(0:Int)))||(decide (k≤n.2.1)))=true→K (2:Int))∧(((decide (n.2.1<(0:Int)))||(decide (k≤n.2.1)))=false→VC85_k2 K)))∧((decide (n.1=(3:Int)))=false→(((decide (n.1=(4:Int)))=true→VC85_k3 i n K (decide (n.1=(4:Int))))∧((decide (n.1=(4:Int)))=false→VC85_k3 i n K (decide (n.1=(5:Int)))))))))
def VC85 (k i:Int) (n:Lqf) (K:Int→Prop):Prop :=
  (((decide (n.1=(1:Int)))=true→VC85_k1 k i n K (decide (n.1=(1:Int))))∧((decide (n.1=(1:Int)))=false→VC85_k1 k i n K (decide (n.1=(2:Int)))))
theorem link85 (k i:Int) (n:Lqf) (K:Int→Prop) (h:VC85 k i n K):ACalls Try.prog 85 [toV1 tI k,toV1 tI i,toV1 t3 n] (fun res=>∃ y,res=(fun y=>[toV1 tI y]) y∧K y):=by
 refine acalls_of_aw [tI] [.t 6] Try.func85 rfl rfl rfl ?_
 unfold VC85 at h
 refine sr (qT 3 ⟨47,[sI 0 k,sp 4 4,sp 5 5],[hB 4 [.pI i],e85_0 n]⟩ (nsr (qW [.freezeB 4 tI] ⟨47,[sI 0 k,s1 4 (.ad tI i),sp 5 5],[e85_0 n]⟩ (qT 2 ⟨47,[sI 0 k,sp 5 5,s1 7 (.fn 101 [(⟨tI,i⟩:Dat)])],[e85_0 n]⟩ (nn (aw_seq (qS 2 ⟨47,[sI 0 k,sp 5 5,s1 7 (.fn 101 [(⟨tI,i⟩:Dat)]),sI 10 n.1],[e85_0 n]⟩ (aw_block (aw_seq (qS 2 ⟨47,[sI 0 k,sp 5 5,s1 7 (.fn 101 [(⟨tI,i⟩:Dat)]),sI 10 n.1,sB 11 (decide (n.1=(1:Int)))],[e85_0 n]⟩ (withJoin (σ:=Bool) (fun s=>⟨47,[sI 0 k,sp 5 5,s1 7 (.fn 101 [(⟨tI,i⟩:Dat)]),sI 10 n.1,sB 11 s],[e85_0 n]⟩) (fun s=>VC85_k1 k i n K s) (fun v11 h=>?_) (fun rest4=>?_))))))))))))
 ·have h:VC85_k1 k i n K v11:=h
  unfold VC85_k1 at h
  refine thenQ_n (qI h (fun h=>?_) fun h=>?_)
  ·exact qS 1 ⟨47,[sI 6 (0:Int)],[]⟩ (aw_ret (blockQ_r (thenQ_r (qE 1 h))))
  ·refine qS 2 ⟨47,[sI 0 k,sp 5 5,s1 7 (.fn 101 [(⟨tI,i⟩:Dat)]),sI 10 n.1,sB 14 (decide (n.1=(3:Int)))],[e85_0 n]⟩ (withJoin (σ:=Unit) (fun s=>⟨47,[],[]⟩) (fun s=>VC85_k2 K) (fun s h=>?_) (fun rest1=>?_))
   ·have h:VC85_k2 K:=h
    unfold VC85_k2 at h
    exact blockQ_n (thenQ_n (qS 1 ⟨47,[sI 6 (0:Int)],[]⟩ (aw_ret (qE 1 h))))
   ·refine qI h (fun h=>?_) fun h=>?_
    ·refine sr (qR 9 ⟨47,[sB 24 ((decide (n.2.1<(0:Int)))||(decide (k≤n.2.1)))],[]⟩ (ob:=Ts 4 (Ti 4 ((decide (n.2.1<(0:Int)))=false→True) (Ts 1 True))) (tsI 4 (tiI 4 (fun _=>trivial) (tsI 1 trivial))) ?_)
     refine nn (qI h (fun h=>?_) fun h=>?_)
     ·exact qS 1 ⟨47,[sI 6 (2:Int)],[]⟩ (aw_ret (blockQ_r (thenQ_r (qE 1 h))))
     ·exact qC ⟨47,[],[]⟩ (aw_skip (rest1 () h))
    ·refine aw_seq (qS 2 ⟨47,[sp 5 5,s1 7 (.fn 101 [(⟨tI,i⟩:Dat)]),sI 10 n.1,sB 25 (decide (n.1=(4:Int)))],[e85_0 n]⟩ (withJoin (σ:=Bool) (fun s=>⟨47,[sp 5 5,s1 7 (.fn 101 [(⟨tI,i⟩:Dat)]),sI 10 n.1,sB 25 s],[e85_0 n]⟩) (fun s=>VC85_k3 i n K s) (fun v25 h=>?_) (fun rest3=>?_)))
     ·have h:VC85_k3 i n K v25:=h
      unfold VC85_k3 at h
      refine thenQ_n (withJoin (σ:=Unit) (fun s=>⟨47,[],[]⟩) (fun s=>VC85_k4 K) (fun s h=>?_) (fun rest2=>?_))
      ·have h:VC85_k4 K:=h
       unfold VC85_k4 at h
       exact rest1 () h
      ·refine qI h (fun h=>?_) fun h=>?_
       ·refine sr (qT 3 ⟨47,[sp 5 5,s1 7 (.fn 101 [(⟨tI,i⟩:Dat)]),s1 28 (.fn 101 [(⟨tI,i⟩:Dat)]),sI 30 n.2.1],[e85_0 n]⟩ (qK 31 [.d tI] (fun ret31v=>⟨47,[sp 5 5,s1 7 (.fn 101 [(⟨tI,i⟩:Dat)]),sB 31 ret31v],[e85_0 n]⟩) Try.call101 (link101 n.2.1 i _ h) fun ret31v h=>?_))
        refine qR 5 ⟨47,[sB 33 (!ret31v),(34,[(33,false)],.v (.c (.fn 101 [(⟨tI,i⟩:Dat)]))),(36,[(33,false)],.v (.c (.pI n.2.2)))],[]⟩ (ob:=Ts 2 (Ti 3 ((!ret31v)=false→True) True)) (tsI 2 (tiI 3 (fun _=>trivial) trivial)) ?_
        refine awl_callk (p:=[(33,false)]) (l:=[toV1 tI n.2.2]) (cl:=[.c (.ad tI i)]) false [.d tI] [33,37] [] (fun (ret37v:Bool)=>((((!ret31v)||(!ret37v))=true→K (2:Int))∧(((!ret31v)||(!ret37v))=false→VC85_k4 K))) (fun ret37v=>[toV1 .bool ret37v]) (fun ret37v=>⟨47,[sB 33 (!ret31v),(37,[(33,false)],.v (.c (.pB ret37v)))],[]⟩) (by kernel_rfl) rfl (by kernel_rfl) rfl (by kernel_rfl) Try.call101 (by kernel_rfl) (fun ret37v=>by kernel_rfl) (fun e=>by cases e) (fun hg=>link101 n.2.2 i _ (by have:=gcall_T h (show (!(!ret31v))=true from hg);exact this)) (fun hg=>⟨false,by have:=gcall_F h (show (!(!ret31v))=false from hg);exact this⟩) (fun ret37v h=>?_)
        refine qR 2 ⟨47,[sB 39 ((!ret31v)||(!ret37v))],[]⟩ (ob:=((!ret31v)=false→True)∧Ts 1 True) (⟨(fun _=>trivial),tsI 1 trivial⟩) ?_
        refine nn (qI h (fun h=>?_) fun h=>?_)
        ·exact qS 1 ⟨47,[sI 6 (2:Int)],[]⟩ (aw_ret (blockQ_r (thenQ_r (qE 1 h))))
        ·exact qC ⟨47,[],[]⟩ (aw_skip (rest2 () h))
       ·refine qS 2 ⟨47,[sp 5 5,s1 7 (.fn 101 [(⟨tI,i⟩:Dat)]),sB 40 (decide (n.1=(6:Int)))],[e85_0 n]⟩ (qI h (fun h=>?_) fun h=>?_)
        ·refine sr (qT 3 ⟨47,[s1 42 (.fn 101 [(⟨tI,i⟩:Dat)]),sI 44 n.2.1],[]⟩ (qK 45 [.d tI] (fun ret45v=>⟨47,[sB 45 ret45v],[]⟩) Try.call101 (link101 n.2.1 i _ h) fun ret45v h=>?_))
         refine qT 1 ⟨47,[sB 46 (!ret45v)],[]⟩ (nn (qI h (fun h=>?_) fun h=>?_))
         ·exact qS 1 ⟨47,[sI 6 (2:Int)],[]⟩ (aw_ret (blockQ_r (thenQ_r (qE 1 h))))
         ·exact qC ⟨47,[],[]⟩ (aw_skip (rest2 () h))
        ·exact qS 1 ⟨47,[sI 6 (6:Int)],[]⟩ (aw_ret (blockQ_r (thenQ_r (qE 1 h))))
     ·refine qI h (fun h=>?_) fun h=>?_
      ·exact aw_skip (rest3 (decide (n.1=(4:Int))) h)
      ·exact aw_region (qT 2 ⟨47,[sp 5 5,s1 7 (.fn 101 [(⟨tI,i⟩:Dat)]),sI 10 n.1,sB 25 (decide (n.1=(5:Int)))],[e85_0 n]⟩ (awl_nil (rest3 (decide (n.1=(5:Int))) h)))
 ·refine qI h (fun h=>?_) fun h=>?_
  ·exact aw_skip (rest4 (decide (n.1=(1:Int))) h)
  ·exact aw_region (qT 2 ⟨47,[sI 0 k,sp 5 5,s1 7 (.fn 101 [(⟨tI,i⟩:Dat)]),sI 10 n.1,sB 11 (decide (n.1=(2:Int)))],[e85_0 n]⟩ (awl_nil (rest4 (decide (n.1=(2:Int))) h)))
abbrev e45_0 (l:LN):=sI 25 (l.length:Int)
abbrev e45_1 (l:LN):=s1 24 (.p (.sl t3) l)
-- coppicer/sentence.Check
def VC45_k1 (K:Int→Prop):Prop :=
  K (0:Int)
def VC45_l1 (k:Int) (l:LN) (K:Int→Prop) (v26:Int) (X1:Int→Prop):Prop :=
  (((decide (v26<(l.length:Int)))=true→(inIdx v26 l.length∧VC85 k v26 (l.getD (v26).toNat z3) (fun (ret34v:Int)=>(((!decide (ret34v=(0:Int)))=true→K ret34v)∧((!decide (ret34v=(0:Int)))=false→(InR (v26+(1:Int))∧X1 (v26+(1:Int))))))))∧((decide (v26<(l.length:Int)))=false→VC45_k1 K))
def VC45 (k:Int) (l:LN) (K:Int→Prop):Prop :=
  ((((((decide (k<(1:Int)))||(decide ((3:Int)<k)))||(decide ((l.length:Int)=(0:Int))))||(decide ((9:Int)<(l.length:Int))))=true→K (1:Int))∧(((((decide (k<(1:Int)))||(decide ((3:Int)<k)))||(decide ((l.length:Int)=(0:Int))))||(decide ((9:Int)<(l.length:Int))))=false→Loop (σ:=Int) (fun s X=>VC45_l1 k l K s X) (0:Int)))
theorem link45 (k:Int) (l:LN) (K:Int→Prop) (h:VC45 k l K):ACalls Try.prog 45 [toV1 tI k,toV1 (.sl t3) l] (fun res=>∃ y,res=(fun y=>[toV1 tI y]) y∧K y):=by
 refine acalls_of_aw [tI] [.t 4] Try.func45 rfl rfl rfl ?_
 unfold VC45 at h
 refine qS 1 ⟨39,[sI 0 k,s1 1 (.p (.sl t3) l)],[]⟩ (aw_seq (sr (qR 16 ⟨39,[sI 0 k,s1 1 (.p (.sl t3) l),sB 23 ((((decide (k<(1:Int)))||(decide ((3:Int)<k)))||(decide ((l.length:Int)=(0:Int))))||(decide ((9:Int)<(l.length:Int))))],[]⟩ (ob:=Ts 3 (Ti 2 ((decide (k<(1:Int)))=false→True) (Ts 2 (Ti 3 (((decide (k<(1:Int)))||(decide ((3:Int)<k)))=false→True) (Ts 2 (Ti 3 ((((decide (k<(1:Int)))||(decide ((3:Int)<k)))||(decide ((l.length:Int)=(0:Int))))=false→True) (Ts 1 True))))))) (tsI 3 (tiI 2 (fun _=>trivial) (tsI 2 (tiI 3 (fun _=>trivial) (tsI 2 (tiI 3 (fun _=>trivial) (tsI 1 trivial))))))) ?_)))
 refine nn (qI h (fun h=>?_) fun h=>?_)
 ·exact qS 1 ⟨39,[sI 4 (1:Int)],[]⟩ (aw_ret (thenQ_r (qE 1 h)))
 ·refine aw_skip (thenQ_n (aw_seq (qS 3 ⟨39,[sI 0 k,e45_1 l,e45_0 l,sI 26 (0:Int)],[]⟩ (withJoin (σ:=Unit) (fun s=>⟨39,[],[]⟩) (fun s=>VC45_k1 K) (fun s h=>?_) (fun rest1=>?_)))))
  ·have h:VC45_k1 K:=h
   unfold VC45_k1 at h
   exact thenQ_n (qS 1 ⟨39,[sI 4 (0:Int)],[]⟩ (aw_ret (qE 1 h)))
  ·refine aw_block (aw_loop (σ:=Int) (fun s=>⟨39,[sI 0 k,e45_1 l,e45_0 l,sI 26 s],[]⟩) (fun s X=>VC45_l1 k l K s X) (s0:=(0:Int)) (fun v26 X1 h=>?_) h)
   have h:VC45_l1 k l K v26 X1:=h
   unfold VC45_l1 at h
   refine qS 1 ⟨39,[sI 0 k,e45_1 l,e45_0 l,sI 26 v26,sB 27 (decide (v26<(l.length:Int)))],[]⟩ (aw_seq (qI h (fun h=>?_) fun h=>?_))
   ·refine aw_skip (thenQ_n (aw_seq (aw_block (sr (qA 6 1 4 ⟨39,[sI 0 k,sI 5 v26,sp 6 6,e45_1 l,e45_0 l,sI 26 v26],[hB 6 [.pI ((l.getD (v26).toNat z3).1),.pI ((l.getD (v26).toNat z3).2.1),.pI ((l.getD (v26).toNat z3).2.2)]]⟩ h fun h=>nsr (qT 3 ⟨39,[sI 0 k,e45_1 l,e45_0 l,sI 26 v26,sI 31 k,sI 32 v26,sA 33 [.pI ((l.getD (v26).toNat z3).1),.pI ((l.getD (v26).toNat z3).2.1),.pI ((l.getD (v26).toNat z3).2.2)]],[]⟩ (qK 34 [.d tI,.d tI,.d t3] (fun ret34v=>⟨39,[sI 0 k,e45_1 l,e45_0 l,sI 26 v26,sI 34 ret34v],[]⟩) Try.call85 (link85 k v26 (l.getD (v26).toNat z3) _ h) fun ret34v h=>?_)))))))
    refine qT 1 ⟨39,[sI 0 k,sI 7 ret34v,e45_1 l,e45_0 l,sI 26 v26],[]⟩ (nsr (qT 2 ⟨39,[sI 0 k,sI 7 ret34v,e45_1 l,e45_0 l,sI 26 v26,sB 36 (!decide (ret34v=(0:Int)))],[]⟩ (nn (qI h (fun h=>?_) fun h=>?_))))
    ·exact qS 2 ⟨39,[sI 4 ret34v],[]⟩ (aw_ret (blockQ_r (thenQ_r (thenQ_r (blockQ_r (thenQ_r (qE 1 h)))))))
    ·exact aw_skip (blockQ_n (thenQ_n (aw_region (qA 2 0 1 ⟨39,[sI 0 k,e45_1 l,e45_0 l,sI 26 (v26+(1:Int))],[]⟩ h fun h=>awl_nil (thenQ_n ⟨(v26+(1:Int)),rfl,h⟩)))))
   ·exact qC ⟨39,[],[]⟩ (aw_exit (thenQ_x (thenQ_x (blockQ_hit (rest1 () h)))))
abbrev e49_0 (l:LN) (v16:Int):=hB 7 [.pI ((l.getD (v16).toNat z3).1),.pI ((l.getD (v16).toNat z3).2.1),.pI ((l.getD (v16).toNat z3).2.2)]
abbrev e49_1 (l:LN):=sI 15 (l.length:Int)
abbrev e49_2 (l:LN):=s1 14 (.p (.sl t3) l)
abbrev e49_3 (nonev:LB):=hA 13 4 .bool nonev
abbrev e49_4 (empty:LB):=hA 10 4 .bool empty
abbrev e49_5 (empty:LB) (l:LN) (v16:Int):=sB 51 ((empty.getD (((l.getD (v16).toNat z3).2.1).toNat) false)&&(empty.getD (((l.getD (v16).toNat z3).2.2).toNat) false))
abbrev e49_6 (empty:LB) (l:LN) (v16:Int):=sB 83 ((empty.getD (((l.getD (v16).toNat z3).2.1).toNat) false)||(empty.getD (((l.getD (v16).toNat z3).2.2).toNat) false))
abbrev e49_7:=s1 4 (.own 10)
abbrev e49_8:=s1 5 (.own 13)
abbrev e49_9 (nonev:LB) (l:LN) (v16:Int):=sB 63 ((nonev.getD (((l.getD (v16).toNat z3).2.1).toNat) false)||(nonev.getD (((l.getD (v16).toNat z3).2.2).toNat) false))
abbrev e49_10 (nonev:LB) (l:LN) (v16:Int):=sB 95 ((nonev.getD (((l.getD (v16).toNat z3).2.1).toNat) false)&&(nonev.getD (((l.getD (v16).toNat z3).2.2).toNat) false))
abbrev e49_11 (empty:LB) (l:LN) (v16:Int):=sB 45 (empty.getD (((l.getD (v16).toNat z3).2.1).toNat) false)
abbrev e49_12 (empty:LB) (l:LN) (v16:Int):=sB 77 (empty.getD (((l.getD (v16).toNat z3).2.1).toNat) false)
abbrev e49_13 (nonev:LB) (l:LN) (v16:Int):=sB 57 (nonev.getD (((l.getD (v16).toNat z3).2.1).toNat) false)
abbrev e49_14 (nonev:LB) (l:LN) (v16:Int):=sB 89 (nonev.getD (((l.getD (v16).toNat z3).2.1).toNat) false)
abbrev e49_15 (l:LN) (v16:Int):Nat×Path×AV:=(61,[(57,false)],.v (.c (.el 13 (((l.getD (v16).toNat z3).2.2).toNat) 1)))
abbrev e49_16 (l:LN) (v16:Int):Nat×Path×AV:=(81,[(77,false)],.v (.c (.el 10 (((l.getD (v16).toNat z3).2.2).toNat) 1)))
abbrev e49_17 (l:LN) (v16:Int):Nat×Path×AV:=(49,[(45,true)],.v (.c (.el 10 (((l.getD (v16).toNat z3).2.2).toNat) 1)))
abbrev e49_18 (l:LN) (v16:Int):Nat×Path×AV:=(93,[(89,true)],.v (.c (.el 13 (((l.getD (v16).toNat z3).2.2).toNat) 1)))
abbrev e49_19 (l:LN):=hA 10 4 .bool (List.replicate ((l.length:Int)).toNat false)
abbrev e49_20 (empty:LB) (v16:Int) (l:LN):=hA 10 4 .bool (empty.set ((v16).toNat) ((empty.getD (((l.getD (v16).toNat z3).2.1).toNat) false)&&(empty.getD (((l.getD (v16).toNat z3).2.2).toNat) false)))
abbrev e49_21 (empty:LB) (v16:Int) (l:LN):=hA 10 4 .bool (empty.set ((v16).toNat) ((empty.getD (((l.getD (v16).toNat z3).2.1).toNat) false)||(empty.getD (((l.getD (v16).toNat z3).2.2).toNat) false)))
abbrev e49_22 (l:LN):=hA 13 4 .bool (List.replicate ((l.length:Int)).toNat false)
abbrev e49_23:=s1 38 (.own 13)
abbrev e49_24:=s1 70 (.own 13)
abbrev e49_25:=s1 36 (.own 10)
abbrev e49_26:=s1 68 (.own 10)
abbrev e49_27 (empty:LB) (l:LN) (v16:Int):Nat×Path×AV:=(82,[(77,false)],.v (.c (.pB (empty.getD (((l.getD (v16).toNat z3).2.2).toNat) false))))
abbrev e49_28 (empty:LB) (l:LN) (v16:Int):Nat×Path×AV:=(50,[(45,true)],.v (.c (.pB (empty.getD (((l.getD (v16).toNat z3).2.2).toNat) false))))
abbrev e49_29 (l:LN) (v16:Int):=s1 55 (.el 13 (((l.getD (v16).toNat z3).2.1).toNat) 1)
abbrev e49_30 (l:LN) (v16:Int):=s1 87 (.el 13 (((l.getD (v16).toNat z3).2.1).toNat) 1)
abbrev e49_31 (nonev:LB) (l:LN) (v16:Int):=sB 56 (nonev.getD (((l.getD (v16).toNat z3).2.1).toNat) false)
abbrev e49_32 (nonev:LB) (l:LN) (v16:Int):=sB 88 (nonev.getD (((l.getD (v16).toNat z3).2.1).toNat) false)
abbrev e49_33 (l:LN):=s1 0 (.p (.sl t3) l)
abbrev e49_34 (l:LN) (v16:Int):=sI 22 ((l.getD (v16).toNat z3).1)
abbrev e49_n0:List Nat:=[28,27,26,25,24,23,22,21,20,15,14,13,12,11,10,9,8,19,18,17,16,7,6,5,4,3,2,1,0]
abbrev e49_n1:List Nat:=[25,24,23,22,21,20,15,14,13,12,11,10,9,8,19,18,17,16,7,6,5,4,3,2,1,0]
abbrev e49_n2:List Nat:=[25,24,23,22,21,20,13,12,11,10,9,8,19,18,17,16,7,6,5,4,3,2,1,0]
abbrev e49_n3:List Nat:=[30,29,28,27,26,25,24,23,22,21,20,15,14,13,12,11,10,9,8,19,18,17,16,7,6,5,4,3,2,1,0]
abbrev e49_n4:List Nat:=[28,15,14,27,26,25,24,23,22,21,20,13,12,11,10,9,8,19,18,17,16,7,6,5,4,3,2,1,0]
abbrev e49_n5:List Nat:=[15,14,25,24,23,22,21,20,13,12,11,10,9,8,19,18,17,16,7,6,5,4,3,2,1,0]
abbrev e49_n6:List Nat:=[27,26,25,24,23,22,21,20,13,12,11,10,9,8,19,18,17,16,7,6,5,4,3,2,1,0]
abbrev e49_n7:List Nat:=[25,24,23,22,21,13,12,11,10,9,8,20,19,18,17,16,7,6,5,4,3,2,1,0]
abbrev e49_n8:List Nat:=[15,14,13,12,11,10,9,8,19,18,17,16,7,6,5,4,3,2,1,0]
abbrev e49_n9:List Nat:=[13,12,11,10,9,8,19,18,17,16,7,6,5,4,3,2,1,0]
abbrev e49_n10:List Nat:=[21,22,23,24,25]
-- coppicer/sentence.Hollow
def VC49_k2 (K:LB×LB→Prop) (empty nonev:LB):Prop :=
  K (empty,nonev)
def VC49_k3 (v16:Int) (X1:Int×LB×LB→Prop) (empty2 nonev2:LB):Prop :=
  (InR (v16+(1:Int))∧X1 ((v16+(1:Int)),empty2,nonev2))
def VC49_k5 (v16:Int) (X1:Int×LB×LB→Prop) (empty2 nonev2:LB):Prop :=
  VC49_k3 v16 X1 empty2 nonev2
def VC49_k6 (v16:Int) (X1:Int×LB×LB→Prop) (empty2 nonev2:LB):Prop :=
  VC49_k5 v16 X1 empty2 nonev2
def VC49_k7 (v16:Int) (X1:Int×LB×LB→Prop) (empty2 nonev2:LB):Prop :=
  VC49_k6 v16 X1 empty2 nonev2
def VC49_k4 (l:LN) (v16:Int) (empty nonev:LB) (X1:Int×LB×LB→Prop) (v28:Bool):Prop :=
  ((v28=true→(inIdx v16 empty.length∧VC49_k5 v16 X1 (empty.set ((v16).toNat) true) nonev))∧(v28=false→(((decide ((l.getD (v16).toNat z3).1=(4:Int)))=true→(inIdx ((l.getD (v16).toNat z3).2.1) empty.length∧inIdx ((l.getD (v16).toNat z3).2.1) nonev.length∧((((empty.getD (((l.getD (v16).toNat z3).2.1).toNat) false)=true→inIdx ((l.getD (v16).toNat z3).2.2) empty.length)∧(((nonev.getD (((l.getD (v16).toNat z3).2.1).toNat) false)=false→inIdx ((l.getD (v16).toNat z3).2.2) nonev.length)∧(inIdx v16 empty.length∧(inIdx v16 nonev.length∧VC49_k6 v16 X1 (empty.set ((v16).toNat) ((empty.getD (((l.getD (v16).toNat z3).2.1).toNat) false)&&(empty.getD (((l.getD (v16).toNat z3).2.2).toNat) false))) (nonev.set ((v16).toNat) ((nonev.getD (((l.getD (v16).toNat z3).2.1).toNat) false)||(nonev.getD (((l.getD (v16).toNat z3).2.2).toNat) false)))))))∧(((empty.getD (((l.getD (v16).toNat z3).2.1).toNat) false)=true→inIdx ((l.getD (v16).toNat z3).2.2) empty.length)∧((nonev.getD (((l.getD (v16).toNat z3).2.1).toNat) false)=false→inIdx ((l.getD (v16).toNat z3).2.2) nonev.length)∧(inIdx v16 empty.length∧(inIdx v16 nonev.length∧VC49_k6 v16 X1 (empty.set ((v16).toNat) ((empty.getD (((l.getD (v16).toNat z3).2.1).toNat) false)&&(empty.getD (((l.getD (v16).toNat z3).2.2).toNat) false))) (nonev.set ((v16).toNat) ((nonev.getD (((l.getD (v16).toNat z3).2.1).toNat) false)||(nonev.getD (((l.getD (v16).toNat z3).2.2).toNat) false)))))))))∧((decide ((l.getD (v16).toNat z3).1=(4:Int)))=false→(((decide ((l.getD (v16).toNat z3).1=(5:Int)))=true→(inIdx ((l.getD (v16).toNat z3).2.1) empty.length∧inIdx ((l.getD (v16).toNat z3).2.1) nonev.length∧((((empty.getD (((l.getD (v16).toNat z3).2.1).toNat) false)=false→inIdx ((l.getD (v16).toNat z3).2.2) empty.length)∧(((nonev.getD (((l.getD (v16).toNat z3).2.1).toNat) false)=true→inIdx ((l.getD (v16).toNat z3).2.2) nonev.length)∧(inIdx v16 empty.length∧(inIdx v16 nonev.length∧VC49_k7 v16 X1 (empty.set ((v16).toNat) ((empty.getD (((l.getD (v16).toNat z3).2.1).toNat) false)||(empty.getD (((l.getD (v16).toNat z3).2.2).toNat) false))) (nonev.set ((v16).toNat) ((nonev.getD (((l.getD (v16).toNat z3).2.1).toNat) false)&&(nonev.getD (((l.getD (v16).toNat z3).2.2).toNat) false)))))))∧(((empty.getD (((l.getD (v16).toNat z3).2.1).toNat) false)=false→inIdx ((l.getD (v16).toNat z3).2.2) empty.length)∧((nonev.getD (((l.getD (v16).toNat z3).2.1).toNat) false)=true→inIdx ((l.getD (v16).toNat z3).2.2) nonev.length)∧(inIdx v16 empty.length∧(inIdx v16 nonev.length∧VC49_k7 v16 X1 (empty.set ((v16).toNat) ((empty.getD (((l.getD (v16).toNat z3).2.1).toNat) false)||(empty.getD (((l.getD (v16).toNat z3).2.2).toNat) false))) (nonev.set ((v16).toNat) ((nonev.getD (((l.getD (v16).toNat z3).2.1).toNat) false)&&(nonev.getD (((l.getD (v16).toNat z3).2.2).toNat) false)))))))))∧((decide ((l.getD (v16).toNat z3).1=(5:Int)))=false→VC49_k7 v16 X1 empty nonev))))))
def VC49_l1 (l:LN) (K:LB×LB→Prop) (v16:Int) (empty nonev:LB) (X1:Int×LB×LB→Prop):Prop :=
  (((decide (v16<(l.length:Int)))=true→(inIdx v16 l.length∧(((decide ((l.getD (v16).toNat z3).1=(1:Int)))=true→(inIdx v16 nonev.length∧VC49_k3 v16 X1 empty (nonev.set ((v16).toNat) true)))∧((decide ((l.getD (v16).toNat z3).1=(1:Int)))=false→(((decide ((l.getD (v16).toNat z3).1=(2:Int)))=true→VC49_k4 l v16 empty nonev X1 (decide ((l.getD (v16).toNat z3).1=(2:Int))))∧((decide ((l.getD (v16).toNat z3).1=(2:Int)))=false→VC49_k4 l v16 empty nonev X1 (decide ((l.getD (v16).toNat z3).1=(6:Int)))))))))∧((decide (v16<(l.length:Int)))=false→VC49_k2 K empty nonev))
def VC49_k1 (l:LN) (K:LB×LB→Prop):Prop :=
  Loop (σ:=Int×LB×LB) (fun s X=>VC49_l1 l K s.1 s.2.1 s.2.2 X) ((0:Int),(List.replicate ((l.length:Int)).toNat false),(List.replicate ((l.length:Int)).toNat false))
def VC49 (l:LN) (K:LB×LB→Prop):Prop :=
  (room (l.length:Int)∧(room (l.length:Int)∧VC49_k1 l K))
abbrev adx0 (l:LN) (v16:Int):=((l.getD (v16).toNat z3).2.1).toNat
abbrev adx1 (l:LN) (v16:Int):=(l.getD (v16).toNat z3).2.2
abbrev adx2 (nonev:LB) (v16:Int) (l:LN):=nonev.set ((v16).toNat) ((nonev.getD (adx0 l v16) false)||(nonev.getD ((adx1 l v16).toNat) false))
abbrev adx3 (nonev:LB) (v16:Int) (l:LN):=nonev.set ((v16).toNat) ((nonev.getD (adx0 l v16) false)&&(nonev.getD ((adx1 l v16).toNat) false))
abbrev adx4 (empty:LB) (l:LN) (v16:Int):=empty.getD (adx0 l v16) false
abbrev adx5 (empty:LB) (v16:Int) (l:LN):=empty.set ((v16).toNat) ((adx4 empty l v16)&&(empty.getD ((adx1 l v16).toNat) false))
abbrev adx6 (empty:LB) (v16:Int) (l:LN):=empty.set ((v16).toNat) ((adx4 empty l v16)||(empty.getD ((adx1 l v16).toNat) false))
abbrev adx7 (nonev:LB) (l:LN) (v16:Int):=nonev.getD (adx0 l v16) false
theorem link49 (l:LN) (K:LB×LB→Prop) (h:VC49 l K):ACalls Try.prog 49 [toV1 (.sl t3) l] (fun res=>∃ y,res=(fun y=>[toV1 (.sl .bool) y.1,toV1 (.sl .bool) y.2]) y∧K y):=by
 refine acalls_of_aw [(.sl .bool),(.sl .bool)] [.t 2,.t 3] Try.func49 rfl rfl rfl ?_
 unfold VC49 at h
 refine qS 2 ⟨101,[e49_33 l],[]⟩ (aw_seq (withJoin (σ:=Unit) (fun s=>⟨101,[e49_33 l,e49_7,e49_8],[e49_19 l,e49_22 l]⟩) (fun s=>VC49_k1 l K) (fun s h=>?_) (fun rest7=>?_)))
 ·have h:VC49_k1 l K:=h
  unfold VC49_k1 at h
  refine thenQ_n (aw_seq (qS 3 ⟨101,[e49_7,e49_8,e49_2 l,e49_1 l,sI 16 (0:Int)],[e49_19 l,e49_22 l]⟩ (withJoin (σ:=LB×LB) (fun s=>⟨101,[e49_7,e49_8],[hA 10 4 .bool s.1,hA 13 4 .bool s.2]⟩) (fun s=>VC49_k2 K s.1 s.2) (fun s h=>?_) (fun rest1=>?_))))
  ·obtain ⟨empty,nonev⟩:=s
   have h:VC49_k2 K empty nonev:=h
   unfold VC49_k2 at h
   exact thenQ_n (qS 4 ⟨101,[s1 2 (.own 10),s1 3 (.own 13)],[e49_4 empty,e49_3 nonev]⟩ (qV [.freeze 10,.freeze 13] ⟨101,[s1 2 (.p (.sl .bool) empty),s1 3 (.p (.sl .bool) nonev)],[]⟩ (aw_ret (qE 2 h))))
  ·refine aw_block (aw_loop (σ:=Int×LB×LB) (fun s=>⟨101,[e49_7,e49_8,e49_2 l,e49_1 l,sI 16 s.1],[hA 10 4 .bool s.2.1,hA 13 4 .bool s.2.2]⟩) (fun s X=>VC49_l1 l K s.1 s.2.1 s.2.2 X) (s0:=((0:Int),(List.replicate ((l.length:Int)).toNat false),(List.replicate ((l.length:Int)).toNat false))) (fun s X1 h=>?_) h)
   obtain ⟨v16,empty,nonev⟩:=s
   have h:VC49_l1 l K v16 empty nonev X1:=h
   unfold VC49_l1 at h
   refine qS 1 ⟨101,[e49_7,e49_8,e49_2 l,e49_1 l,sI 16 v16,sB 17 (decide (v16<(l.length:Int)))],[e49_4 empty,e49_3 nonev]⟩ (aw_seq (qI h (fun h=>?_) fun h=>?_))
   ·refine aw_skip (thenQ_n (aw_seq (aw_block (sr (qA 6 1 4 ⟨101,[e49_7,e49_8,sI 6 v16,sp 7 7,e49_2 l,e49_1 l,sI 16 v16],[e49_0 l v16,e49_4 empty,e49_3 nonev]⟩ h fun h=>nsr (qT 2 ⟨101,[e49_7,e49_8,sI 6 v16,sp 7 7,e49_2 l,e49_1 l,sI 16 v16,e49_34 l v16],[e49_0 l v16,e49_4 empty,e49_3 nonev]⟩ (nn (aw_block (qS 2 ⟨101,[e49_7,e49_8,sI 6 v16,sp 7 7,e49_2 l,e49_1 l,sI 16 v16,e49_34 l v16,sB 23 (decide ((l.getD (v16).toNat z3).1=(1:Int)))],[e49_0 l v16,e49_4 empty,e49_3 nonev]⟩ (withJoin (σ:=LB×LB) (fun s=>⟨101,[e49_7,e49_8,e49_2 l,e49_1 l,sI 16 v16],[hA 10 4 .bool s.1,hA 13 4 .bool s.2]⟩) (fun s=>VC49_k3 v16 X1 s.1 s.2) (fun s h=>?_) (fun rest2=>?_)))))))))))
    ·obtain ⟨empty2,nonev2⟩:=s
     have h:VC49_k3 v16 X1 empty2 nonev2:=h
     unfold VC49_k3 at h
     exact blockQ_n (blockQ_n (thenQ_n (aw_region (qA 2 0 1 ⟨101,[e49_7,e49_8,e49_2 l,e49_1 l,sI 16 (v16+(1:Int))],[hA 10 4 .bool empty2,hA 13 4 .bool nonev2]⟩ h fun h=>awl_nil (thenQ_n ⟨((v16+(1:Int)),empty2,nonev2),rfl,h⟩)))))
    ·refine qI h (fun h=>?_) fun h=>?_
     ·exact aw_region (qA 4 2 1 ⟨101,[e49_7,e49_8,e49_2 l,e49_1 l,sI 16 v16],[e49_4 empty,hA 13 4 .bool (nonev.set ((v16).toNat) true)]⟩ h fun h=>awl_nil (rest2 (empty,(nonev.set ((v16).toNat) true)) h))
     ·refine aw_seq (qS 2 ⟨101,[e49_7,e49_8,sI 6 v16,sp 7 7,e49_2 l,e49_1 l,sI 16 v16,e49_34 l v16,sB 28 (decide ((l.getD (v16).toNat z3).1=(2:Int)))],[e49_0 l v16,e49_4 empty,e49_3 nonev]⟩ (withJoin (σ:=Bool) (fun s=>⟨101,[e49_7,e49_8,sI 6 v16,sp 7 7,e49_2 l,e49_1 l,sI 16 v16,e49_34 l v16,sB 28 s],[e49_0 l v16,e49_4 empty,e49_3 nonev]⟩) (fun s=>VC49_k4 l v16 empty nonev X1 s) (fun v28 h=>?_) (fun rest6=>?_)))
      ·have h:VC49_k4 l v16 empty nonev X1 v28:=h
       unfold VC49_k4 at h
       refine thenQ_n (withJoin (σ:=LB×LB) (fun s=>⟨101,[e49_7,e49_8,e49_2 l,e49_1 l,sI 16 v16],[hA 10 4 .bool s.1,hA 13 4 .bool s.2]⟩) (fun s=>VC49_k5 v16 X1 s.1 s.2) (fun s h=>?_) (fun rest3=>?_))
       ·obtain ⟨empty2,nonev2⟩:=s
        have h:VC49_k5 v16 X1 empty2 nonev2:=h
        unfold VC49_k5 at h
        exact rest2 (empty2,nonev2) h
       ·refine qI h (fun h=>?_) fun h=>?_
        ·exact aw_region (qA 4 2 1 ⟨101,[e49_7,e49_8,e49_2 l,e49_1 l,sI 16 v16],[hA 10 4 .bool (empty.set ((v16).toNat) true),e49_3 nonev]⟩ h fun h=>awl_nil (rest3 ((empty.set ((v16).toNat) true),nonev) h))
        ·refine qS 2 ⟨101,[e49_7,e49_8,sI 6 v16,sp 7 7,e49_2 l,e49_1 l,sI 16 v16,e49_34 l v16,sB 34 (decide ((l.getD (v16).toNat z3).1=(4:Int)))],[e49_0 l v16,e49_4 empty,e49_3 nonev]⟩ (withJoin (σ:=LB×LB) (fun s=>⟨101,[e49_7,e49_8,e49_2 l,e49_1 l,sI 16 v16],[hA 10 4 .bool s.1,hA 13 4 .bool s.2]⟩) (fun s=>VC49_k6 v16 X1 s.1 s.2) (fun s h=>?_) (fun rest4=>?_))
         ·obtain ⟨empty2,nonev2⟩:=s
          have h:VC49_k6 v16 X1 empty2 nonev2:=h
          unfold VC49_k6 at h
          exact rest3 (empty2,nonev2) h
         ·refine qI h (fun h=>?_) fun h=>?_
          ·refine awd_begin [10,13] (by kernel_rfl) ?_
           refine awd_memo ((inIdx v16 nonev.length∧VC49_k6 v16 X1 (adx5 empty v16 l) (adx2 nonev v16 l))) e49_n0 (⟨101,[e49_7,e49_8,e49_2 l,e49_1 l,sI 16 v16,e49_23,sI 39 v16,e49_5 empty l v16,e49_9 nonev l v16,s1 64 (.el 10 ((v16).toNat) 1)],[e49_4 empty,e49_3 nonev]⟩:St) (fun h=>?_) (fun m1=>?_)
           ·refine awd_one (i:=29) (by kernel_rfl) ?_
            refine dsq (ob:=True) (st':=⟨101,[e49_7,e49_8,e49_2 l,e49_1 l,sI 16 v16,e49_23,sI 39 v16,e49_9 nonev l v16],[e49_20 empty v16 l,e49_3 nonev]⟩) rfl (by kernel_rfl) trivial ?_
            obtain ⟨o1,h⟩:=h
            refine qD [30] e49_n3 ⟨101,[e49_7,e49_8,e49_2 l,e49_1 l,sI 16 v16,e49_9 nonev l v16,s1 65 (.el 13 ((v16).toNat) 1)],[e49_20 empty v16 l,e49_3 nonev]⟩ (ob:=inIdx v16 nonev.length∧True) (⟨o1,trivial⟩) ?_
            refine awd_one (i:=31) (by kernel_rfl) ?_
            refine dsq (ob:=True) (st':=⟨101,[e49_7,e49_8,e49_2 l,e49_1 l,sI 16 v16],[e49_20 empty v16 l,hA 13 4 .bool (adx2 nonev v16 l)]⟩) rfl (by kernel_rfl) trivial ?_
            refine awd_done (by kernel_rfl) ?_
            exact rest4 ((adx5 empty v16 l),(adx2 nonev v16 l)) h
           ·refine awd_memo ((inIdx v16 empty.length∧(inIdx v16 nonev.length∧VC49_k6 v16 X1 (adx5 empty v16 l) (adx2 nonev v16 l)))) e49_n1 (⟨101,[e49_7,e49_8,e49_2 l,e49_1 l,sI 16 v16,e49_25,sI 37 v16,e49_23,sI 39 v16,e49_5 empty l v16,e49_13 nonev l v16,e49_15 l v16],[e49_4 empty,e49_3 nonev]⟩:St) (fun h=>?_) (fun m2=>?_)
            ·refine awd_one (i:=26) (by kernel_rfl) ?_
             refine dsq (ob:=((adx7 nonev l v16)=false→True)) (st':=⟨101,[e49_7,e49_8,e49_2 l,e49_1 l,sI 16 v16,e49_25,sI 37 v16,e49_23,sI 39 v16,e49_5 empty l v16,e49_13 nonev l v16,(62,[(57,false)],.v (.c (.pB (nonev.getD ((adx1 l v16).toNat) false))))],[e49_4 empty,e49_3 nonev]⟩) rfl (by kernel_rfl) (fun _=>trivial) ?_
             obtain ⟨o1,h⟩:=h
             exact qDO 1 0 [27,28] e49_n0 ⟨101,[e49_7,e49_8,e49_2 l,e49_1 l,sI 16 v16,e49_23,sI 39 v16,e49_5 empty l v16,e49_9 nonev l v16,s1 64 (.el 10 ((v16).toNat) 1)],[e49_4 empty,e49_3 nonev]⟩ o1 (m1 h)
            ·refine awd_memo ((inIdx v16 empty.length∧(inIdx v16 nonev.length∧VC49_k6 v16 X1 (adx5 empty v16 l) (adx2 nonev v16 l)))) e49_n2 (⟨101,[e49_7,e49_8,e49_2 l,e49_1 l,sI 16 v16,e49_25,sI 37 v16,e49_23,sI 39 v16,e49_11 empty l v16,e49_17 l v16,e49_13 nonev l v16,e49_15 l v16],[e49_4 empty,e49_3 nonev]⟩:St) (fun h=>?_) (fun m3=>?_)
             ·refine awd_two (i:=14) (j:=26) (by kernel_rfl) ?_ ?_
              ·have h:=h
               refine dsq (ob:=((adx4 empty l v16)=true→True)) (st':=⟨101,[e49_7,e49_8,e49_2 l,e49_1 l,sI 16 v16,e49_25,sI 37 v16,e49_23,sI 39 v16,e49_11 empty l v16,e49_28 empty l v16,e49_13 nonev l v16,e49_15 l v16],[e49_4 empty,e49_3 nonev]⟩) rfl (by kernel_rfl) (fun _=>trivial) ?_
               refine qDT 1 [15] e49_n5 ⟨101,[e49_7,e49_8,e49_2 l,e49_1 l,sI 16 v16,e49_25,sI 37 v16,e49_23,sI 39 v16,e49_5 empty l v16,e49_13 nonev l v16,e49_15 l v16],[e49_4 empty,e49_3 nonev]⟩ (awd_perm e49_n1 (by kernel_rfl) (by kernel_rfl) ?_)
               exact m2 h
              ·have h:=h
               refine dsq (ob:=((adx7 nonev l v16)=false→True)) (st':=⟨101,[e49_7,e49_8,e49_2 l,e49_1 l,sI 16 v16,e49_25,sI 37 v16,e49_23,sI 39 v16,e49_11 empty l v16,e49_17 l v16,e49_13 nonev l v16,(62,[(57,false)],.v (.c (.pB (nonev.getD ((adx1 l v16).toNat) false))))],[e49_4 empty,e49_3 nonev]⟩) rfl (by kernel_rfl) (fun _=>trivial) ?_
               refine qDT 1 [27] e49_n6 ⟨101,[e49_7,e49_8,e49_2 l,e49_1 l,sI 16 v16,e49_25,sI 37 v16,e49_23,sI 39 v16,e49_11 empty l v16,e49_17 l v16,e49_9 nonev l v16],[e49_4 empty,e49_3 nonev]⟩ (awd_one (i:=14) (by kernel_rfl) ?_)
               refine dsq (ob:=((adx4 empty l v16)=true→True)) (st':=⟨101,[e49_7,e49_8,e49_2 l,e49_1 l,sI 16 v16,e49_25,sI 37 v16,e49_23,sI 39 v16,e49_11 empty l v16,e49_28 empty l v16,e49_9 nonev l v16],[e49_4 empty,e49_3 nonev]⟩) rfl (by kernel_rfl) (fun _=>trivial) ?_
               obtain ⟨o1,h⟩:=h
               refine qDO 1 0 [15,28] e49_n4 ⟨101,[e49_7,e49_8,e49_2 l,e49_1 l,sI 16 v16,e49_23,sI 39 v16,e49_5 empty l v16,e49_9 nonev l v16,s1 64 (.el 10 ((v16).toNat) 1)],[e49_4 empty,e49_3 nonev]⟩ o1 (awd_perm e49_n0 (by kernel_rfl) (by kernel_rfl) ?_)
               exact m1 h
             ·obtain ⟨o1,o2,h⟩:=h
              refine qD [0,1,2,3,4,5,6,7,16,17,18,19] [19,18,17,16,7,6,5,4,3,2,1,0] ⟨101,[e49_7,e49_8,sp 7 7,e49_2 l,e49_1 l,sI 16 v16,e49_25,sI 37 v16,e49_23,sI 39 v16,s1 43 (.el 10 (adx0 l v16) 1),e49_29 l v16],[e49_0 l v16,e49_4 empty,e49_3 nonev]⟩ (ob:=Ts 7 (inIdx ((l.getD (v16).toNat z3).2.1) empty.length∧Ts 3 (inIdx ((l.getD (v16).toNat z3).2.1) nonev.length∧True))) (tsI 7 (⟨o1,tsI 3 ⟨o2,trivial⟩⟩)) ?_
              refine awd_two (i:=8) (j:=20) (by kernel_rfl) ?_ ?_
              ·have h:=h.1
               refine dsq (ob:=True) (st':=⟨101,[e49_7,e49_8,sp 7 7,e49_2 l,e49_1 l,sI 16 v16,e49_25,sI 37 v16,e49_23,sI 39 v16,sB 44 (adx4 empty l v16),e49_29 l v16],[e49_0 l v16,e49_4 empty,e49_3 nonev]⟩) rfl (by kernel_rfl) trivial ?_
               obtain ⟨o1,h⟩:=h
               refine qD [9,10,11,12,13] e49_n9 ⟨101,[e49_7,e49_8,sp 7 7,e49_2 l,e49_1 l,sI 16 v16,e49_25,sI 37 v16,e49_23,sI 39 v16,e49_11 empty l v16,e49_17 l v16,e49_29 l v16],[e49_0 l v16,e49_4 empty,e49_3 nonev]⟩ (ob:=Ts 1 (Ti 3 ((adx4 empty l v16)=true→True) (((adx4 empty l v16)=true→inIdx (adx1 l v16) empty.length)∧True))) (tsI 1 (tiI 3 (fun _=>trivial) ⟨o1,trivial⟩)) ?_
               refine awd_two (i:=14) (j:=20) (by kernel_rfl) ?_ ?_
               ·have h:=h
                refine dsq (ob:=((adx4 empty l v16)=true→True)) (st':=⟨101,[e49_7,e49_8,sp 7 7,e49_2 l,e49_1 l,sI 16 v16,e49_25,sI 37 v16,e49_23,sI 39 v16,e49_11 empty l v16,e49_28 empty l v16,e49_29 l v16],[e49_0 l v16,e49_4 empty,e49_3 nonev]⟩) rfl (by kernel_rfl) (fun _=>trivial) ?_
                refine qDT 1 [15] e49_n8 ⟨101,[e49_7,e49_8,sp 7 7,e49_2 l,e49_1 l,sI 16 v16,e49_25,sI 37 v16,e49_23,sI 39 v16,e49_5 empty l v16,e49_29 l v16],[e49_0 l v16,e49_4 empty,e49_3 nonev]⟩ (awd_one (i:=20) (by kernel_rfl) ?_)
                refine dsq (ob:=True) (st':=⟨101,[e49_7,e49_8,sp 7 7,e49_2 l,e49_1 l,sI 16 v16,e49_25,sI 37 v16,e49_23,sI 39 v16,e49_5 empty l v16,e49_31 nonev l v16],[e49_0 l v16,e49_4 empty,e49_3 nonev]⟩) rfl (by kernel_rfl) trivial ?_
                obtain ⟨o1,h⟩:=h
                refine qD e49_n10 e49_n1 ⟨101,[e49_7,e49_8,e49_2 l,e49_1 l,sI 16 v16,e49_25,sI 37 v16,e49_23,sI 39 v16,e49_5 empty l v16,e49_13 nonev l v16,e49_15 l v16],[e49_4 empty,e49_3 nonev]⟩ (ob:=Ts 1 (Ti 3 ((adx7 nonev l v16)=false→True) (((adx7 nonev l v16)=false→inIdx (adx1 l v16) nonev.length)∧True))) (tsI 1 (tiI 3 (fun _=>trivial) ⟨o1,trivial⟩)) ?_
                exact m2 h
               ·have h:=h
                refine dsq (ob:=True) (st':=⟨101,[e49_7,e49_8,sp 7 7,e49_2 l,e49_1 l,sI 16 v16,e49_25,sI 37 v16,e49_23,sI 39 v16,e49_11 empty l v16,e49_17 l v16,e49_31 nonev l v16],[e49_0 l v16,e49_4 empty,e49_3 nonev]⟩) rfl (by kernel_rfl) trivial ?_
                obtain ⟨o1,h⟩:=h
                refine qD e49_n10 e49_n2 ⟨101,[e49_7,e49_8,e49_2 l,e49_1 l,sI 16 v16,e49_25,sI 37 v16,e49_23,sI 39 v16,e49_11 empty l v16,e49_17 l v16,e49_13 nonev l v16,e49_15 l v16],[e49_4 empty,e49_3 nonev]⟩ (ob:=Ts 1 (Ti 3 ((adx7 nonev l v16)=false→True) (((adx7 nonev l v16)=false→inIdx (adx1 l v16) nonev.length)∧True))) (tsI 1 (tiI 3 (fun _=>trivial) ⟨o1,trivial⟩)) ?_
                exact m3 h
              ·have h:=h.2
               refine dsq (ob:=True) (st':=⟨101,[e49_7,e49_8,sp 7 7,e49_2 l,e49_1 l,sI 16 v16,e49_25,sI 37 v16,e49_23,sI 39 v16,s1 43 (.el 10 (adx0 l v16) 1),e49_31 nonev l v16],[e49_0 l v16,e49_4 empty,e49_3 nonev]⟩) rfl (by kernel_rfl) trivial ?_
               refine awd_one (i:=8) (by kernel_rfl) ?_
               refine dsq (ob:=True) (st':=⟨101,[e49_7,e49_8,sp 7 7,e49_2 l,e49_1 l,sI 16 v16,e49_25,sI 37 v16,e49_23,sI 39 v16,sB 44 (adx4 empty l v16),e49_31 nonev l v16],[e49_0 l v16,e49_4 empty,e49_3 nonev]⟩) rfl (by kernel_rfl) trivial ?_
               obtain ⟨o1,o2,h⟩:=h
               refine qD [9,10,11,12,13,21,22,23,24,25] e49_n7 ⟨101,[e49_7,e49_8,e49_2 l,e49_1 l,sI 16 v16,e49_25,sI 37 v16,e49_23,sI 39 v16,e49_11 empty l v16,e49_17 l v16,e49_13 nonev l v16,e49_15 l v16],[e49_4 empty,e49_3 nonev]⟩ (ob:=Ts 1 (Ti 3 ((adx4 empty l v16)=true→True) (((adx4 empty l v16)=true→inIdx (adx1 l v16) empty.length)∧Ts 1 (Ti 3 ((adx7 nonev l v16)=false→True) (((adx7 nonev l v16)=false→inIdx (adx1 l v16) nonev.length)∧True))))) (tsI 1 (tiI 3 (fun _=>trivial) (⟨o1,tsI 1 (tiI 3 (fun _=>trivial) ⟨o2,trivial⟩)⟩))) ?_
               refine awd_perm e49_n2 (by kernel_rfl) (by kernel_rfl) ?_
               exact m3 h
          ·refine qS 2 ⟨101,[e49_7,e49_8,sI 6 v16,sp 7 7,e49_2 l,e49_1 l,sI 16 v16,sB 66 (decide ((l.getD (v16).toNat z3).1=(5:Int)))],[e49_0 l v16,e49_4 empty,e49_3 nonev]⟩ (withJoin (σ:=LB×LB) (fun s=>⟨101,[e49_7,e49_8,e49_2 l,e49_1 l,sI 16 v16],[hA 10 4 .bool s.1,hA 13 4 .bool s.2]⟩) (fun s=>VC49_k7 v16 X1 s.1 s.2) (fun s h=>?_) (fun rest5=>?_))
           ·obtain ⟨empty2,nonev2⟩:=s
            have h:VC49_k7 v16 X1 empty2 nonev2:=h
            unfold VC49_k7 at h
            exact rest4 (empty2,nonev2) h
           ·refine qI h (fun h=>?_) fun h=>?_
            ·refine awd_begin [10,13] (by kernel_rfl) ?_
             refine awd_memo ((inIdx v16 nonev.length∧VC49_k7 v16 X1 (adx6 empty v16 l) (adx3 nonev v16 l))) e49_n0 (⟨101,[e49_7,e49_8,e49_2 l,e49_1 l,sI 16 v16,e49_24,sI 71 v16,e49_6 empty l v16,e49_10 nonev l v16,s1 96 (.el 10 ((v16).toNat) 1)],[e49_4 empty,e49_3 nonev]⟩:St) (fun h=>?_) (fun m4=>?_)
             ·refine awd_one (i:=29) (by kernel_rfl) ?_
              refine dsq (ob:=True) (st':=⟨101,[e49_7,e49_8,e49_2 l,e49_1 l,sI 16 v16,e49_24,sI 71 v16,e49_10 nonev l v16],[e49_21 empty v16 l,e49_3 nonev]⟩) rfl (by kernel_rfl) trivial ?_
              obtain ⟨o1,h⟩:=h
              refine qD [30] e49_n3 ⟨101,[e49_7,e49_8,e49_2 l,e49_1 l,sI 16 v16,e49_10 nonev l v16,s1 97 (.el 13 ((v16).toNat) 1)],[e49_21 empty v16 l,e49_3 nonev]⟩ (ob:=inIdx v16 nonev.length∧True) (⟨o1,trivial⟩) ?_
              refine awd_one (i:=31) (by kernel_rfl) ?_
              refine dsq (ob:=True) (st':=⟨101,[e49_7,e49_8,e49_2 l,e49_1 l,sI 16 v16],[e49_21 empty v16 l,hA 13 4 .bool (adx3 nonev v16 l)]⟩) rfl (by kernel_rfl) trivial ?_
              refine awd_done (by kernel_rfl) ?_
              exact rest5 ((adx6 empty v16 l),(adx3 nonev v16 l)) h
             ·refine awd_memo ((inIdx v16 empty.length∧(inIdx v16 nonev.length∧VC49_k7 v16 X1 (adx6 empty v16 l) (adx3 nonev v16 l)))) e49_n1 (⟨101,[e49_7,e49_8,e49_2 l,e49_1 l,sI 16 v16,e49_26,sI 69 v16,e49_24,sI 71 v16,e49_6 empty l v16,e49_14 nonev l v16,e49_18 l v16],[e49_4 empty,e49_3 nonev]⟩:St) (fun h=>?_) (fun m5=>?_)
              ·refine awd_one (i:=26) (by kernel_rfl) ?_
               refine dsq (ob:=((adx7 nonev l v16)=true→True)) (st':=⟨101,[e49_7,e49_8,e49_2 l,e49_1 l,sI 16 v16,e49_26,sI 69 v16,e49_24,sI 71 v16,e49_6 empty l v16,e49_14 nonev l v16,(94,[(89,true)],.v (.c (.pB (nonev.getD ((adx1 l v16).toNat) false))))],[e49_4 empty,e49_3 nonev]⟩) rfl (by kernel_rfl) (fun _=>trivial) ?_
               obtain ⟨o1,h⟩:=h
               exact qDO 1 0 [27,28] e49_n0 ⟨101,[e49_7,e49_8,e49_2 l,e49_1 l,sI 16 v16,e49_24,sI 71 v16,e49_6 empty l v16,e49_10 nonev l v16,s1 96 (.el 10 ((v16).toNat) 1)],[e49_4 empty,e49_3 nonev]⟩ o1 (m4 h)
              ·refine awd_memo ((inIdx v16 empty.length∧(inIdx v16 nonev.length∧VC49_k7 v16 X1 (adx6 empty v16 l) (adx3 nonev v16 l)))) e49_n2 (⟨101,[e49_7,e49_8,e49_2 l,e49_1 l,sI 16 v16,e49_26,sI 69 v16,e49_24,sI 71 v16,e49_12 empty l v16,e49_16 l v16,e49_14 nonev l v16,e49_18 l v16],[e49_4 empty,e49_3 nonev]⟩:St) (fun h=>?_) (fun m6=>?_)
               ·refine awd_two (i:=14) (j:=26) (by kernel_rfl) ?_ ?_
                ·have h:=h
                 refine dsq (ob:=((adx4 empty l v16)=false→True)) (st':=⟨101,[e49_7,e49_8,e49_2 l,e49_1 l,sI 16 v16,e49_26,sI 69 v16,e49_24,sI 71 v16,e49_12 empty l v16,e49_27 empty l v16,e49_14 nonev l v16,e49_18 l v16],[e49_4 empty,e49_3 nonev]⟩) rfl (by kernel_rfl) (fun _=>trivial) ?_
                 refine qDT 1 [15] e49_n5 ⟨101,[e49_7,e49_8,e49_2 l,e49_1 l,sI 16 v16,e49_26,sI 69 v16,e49_24,sI 71 v16,e49_6 empty l v16,e49_14 nonev l v16,e49_18 l v16],[e49_4 empty,e49_3 nonev]⟩ (awd_perm e49_n1 (by kernel_rfl) (by kernel_rfl) ?_)
                 exact m5 h
                ·have h:=h
                 refine dsq (ob:=((adx7 nonev l v16)=true→True)) (st':=⟨101,[e49_7,e49_8,e49_2 l,e49_1 l,sI 16 v16,e49_26,sI 69 v16,e49_24,sI 71 v16,e49_12 empty l v16,e49_16 l v16,e49_14 nonev l v16,(94,[(89,true)],.v (.c (.pB (nonev.getD ((adx1 l v16).toNat) false))))],[e49_4 empty,e49_3 nonev]⟩) rfl (by kernel_rfl) (fun _=>trivial) ?_
                 refine qDT 1 [27] e49_n6 ⟨101,[e49_7,e49_8,e49_2 l,e49_1 l,sI 16 v16,e49_26,sI 69 v16,e49_24,sI 71 v16,e49_12 empty l v16,e49_16 l v16,e49_10 nonev l v16],[e49_4 empty,e49_3 nonev]⟩ (awd_one (i:=14) (by kernel_rfl) ?_)
                 refine dsq (ob:=((adx4 empty l v16)=false→True)) (st':=⟨101,[e49_7,e49_8,e49_2 l,e49_1 l,sI 16 v16,e49_26,sI 69 v16,e49_24,sI 71 v16,e49_12 empty l v16,e49_27 empty l v16,e49_10 nonev l v16],[e49_4 empty,e49_3 nonev]⟩) rfl (by kernel_rfl) (fun _=>trivial) ?_
                 obtain ⟨o1,h⟩:=h
                 refine qDO 1 0 [15,28] e49_n4 ⟨101,[e49_7,e49_8,e49_2 l,e49_1 l,sI 16 v16,e49_24,sI 71 v16,e49_6 empty l v16,e49_10 nonev l v16,s1 96 (.el 10 ((v16).toNat) 1)],[e49_4 empty,e49_3 nonev]⟩ o1 (awd_perm e49_n0 (by kernel_rfl) (by kernel_rfl) ?_)
                 exact m4 h
               ·obtain ⟨o1,o2,h⟩:=h
                refine qD [0,1,2,3,4,5,6,7,16,17,18,19] [19,18,17,16,7,6,5,4,3,2,1,0] ⟨101,[e49_7,e49_8,sp 7 7,e49_2 l,e49_1 l,sI 16 v16,e49_26,sI 69 v16,e49_24,sI 71 v16,s1 75 (.el 10 (adx0 l v16) 1),e49_30 l v16],[e49_0 l v16,e49_4 empty,e49_3 nonev]⟩ (ob:=Ts 7 (inIdx ((l.getD (v16).toNat z3).2.1) empty.length∧Ts 3 (inIdx ((l.getD (v16).toNat z3).2.1) nonev.length∧True))) (tsI 7 (⟨o1,tsI 3 ⟨o2,trivial⟩⟩)) ?_
                refine awd_two (i:=8) (j:=20) (by kernel_rfl) ?_ ?_
                ·have h:=h.1
                 refine dsq (ob:=True) (st':=⟨101,[e49_7,e49_8,sp 7 7,e49_2 l,e49_1 l,sI 16 v16,e49_26,sI 69 v16,e49_24,sI 71 v16,sB 76 (adx4 empty l v16),e49_30 l v16],[e49_0 l v16,e49_4 empty,e49_3 nonev]⟩) rfl (by kernel_rfl) trivial ?_
                 obtain ⟨o1,h⟩:=h
                 refine qD [9,10,11,12,13] e49_n9 ⟨101,[e49_7,e49_8,sp 7 7,e49_2 l,e49_1 l,sI 16 v16,e49_26,sI 69 v16,e49_24,sI 71 v16,e49_12 empty l v16,e49_16 l v16,e49_30 l v16],[e49_0 l v16,e49_4 empty,e49_3 nonev]⟩ (ob:=Ts 1 (Ti 3 ((adx4 empty l v16)=false→True) (((adx4 empty l v16)=false→inIdx (adx1 l v16) empty.length)∧True))) (tsI 1 (tiI 3 (fun _=>trivial) ⟨o1,trivial⟩)) ?_
                 refine awd_two (i:=14) (j:=20) (by kernel_rfl) ?_ ?_
                 ·have h:=h
                  refine dsq (ob:=((adx4 empty l v16)=false→True)) (st':=⟨101,[e49_7,e49_8,sp 7 7,e49_2 l,e49_1 l,sI 16 v16,e49_26,sI 69 v16,e49_24,sI 71 v16,e49_12 empty l v16,e49_27 empty l v16,e49_30 l v16],[e49_0 l v16,e49_4 empty,e49_3 nonev]⟩) rfl (by kernel_rfl) (fun _=>trivial) ?_
                  refine qDT 1 [15] e49_n8 ⟨101,[e49_7,e49_8,sp 7 7,e49_2 l,e49_1 l,sI 16 v16,e49_26,sI 69 v16,e49_24,sI 71 v16,e49_6 empty l v16,e49_30 l v16],[e49_0 l v16,e49_4 empty,e49_3 nonev]⟩ (awd_one (i:=20) (by kernel_rfl) ?_)
                  refine dsq (ob:=True) (st':=⟨101,[e49_7,e49_8,sp 7 7,e49_2 l,e49_1 l,sI 16 v16,e49_26,sI 69 v16,e49_24,sI 71 v16,e49_6 empty l v16,e49_32 nonev l v16],[e49_0 l v16,e49_4 empty,e49_3 nonev]⟩) rfl (by kernel_rfl) trivial ?_
                  obtain ⟨o1,h⟩:=h
                  refine qD e49_n10 e49_n1 ⟨101,[e49_7,e49_8,e49_2 l,e49_1 l,sI 16 v16,e49_26,sI 69 v16,e49_24,sI 71 v16,e49_6 empty l v16,e49_14 nonev l v16,e49_18 l v16],[e49_4 empty,e49_3 nonev]⟩ (ob:=Ts 1 (Ti 3 ((adx7 nonev l v16)=true→True) (((adx7 nonev l v16)=true→inIdx (adx1 l v16) nonev.length)∧True))) (tsI 1 (tiI 3 (fun _=>trivial) ⟨o1,trivial⟩)) ?_
                  exact m5 h
                 ·have h:=h
                  refine dsq (ob:=True) (st':=⟨101,[e49_7,e49_8,sp 7 7,e49_2 l,e49_1 l,sI 16 v16,e49_26,sI 69 v16,e49_24,sI 71 v16,e49_12 empty l v16,e49_16 l v16,e49_32 nonev l v16],[e49_0 l v16,e49_4 empty,e49_3 nonev]⟩) rfl (by kernel_rfl) trivial ?_
                  obtain ⟨o1,h⟩:=h
                  refine qD e49_n10 e49_n2 ⟨101,[e49_7,e49_8,e49_2 l,e49_1 l,sI 16 v16,e49_26,sI 69 v16,e49_24,sI 71 v16,e49_12 empty l v16,e49_16 l v16,e49_14 nonev l v16,e49_18 l v16],[e49_4 empty,e49_3 nonev]⟩ (ob:=Ts 1 (Ti 3 ((adx7 nonev l v16)=true→True) (((adx7 nonev l v16)=true→inIdx (adx1 l v16) nonev.length)∧True))) (tsI 1 (tiI 3 (fun _=>trivial) ⟨o1,trivial⟩)) ?_
                  exact m6 h
                ·have h:=h.2
                 refine dsq (ob:=True) (st':=⟨101,[e49_7,e49_8,sp 7 7,e49_2 l,e49_1 l,sI 16 v16,e49_26,sI 69 v16,e49_24,sI 71 v16,s1 75 (.el 10 (adx0 l v16) 1),e49_32 nonev l v16],[e49_0 l v16,e49_4 empty,e49_3 nonev]⟩) rfl (by kernel_rfl) trivial ?_
                 refine awd_one (i:=8) (by kernel_rfl) ?_
                 refine dsq (ob:=True) (st':=⟨101,[e49_7,e49_8,sp 7 7,e49_2 l,e49_1 l,sI 16 v16,e49_26,sI 69 v16,e49_24,sI 71 v16,sB 76 (adx4 empty l v16),e49_32 nonev l v16],[e49_0 l v16,e49_4 empty,e49_3 nonev]⟩) rfl (by kernel_rfl) trivial ?_
                 obtain ⟨o1,o2,h⟩:=h
                 refine qD [9,10,11,12,13,21,22,23,24,25] e49_n7 ⟨101,[e49_7,e49_8,e49_2 l,e49_1 l,sI 16 v16,e49_26,sI 69 v16,e49_24,sI 71 v16,e49_12 empty l v16,e49_16 l v16,e49_14 nonev l v16,e49_18 l v16],[e49_4 empty,e49_3 nonev]⟩ (ob:=Ts 1 (Ti 3 ((adx4 empty l v16)=false→True) (((adx4 empty l v16)=false→inIdx (adx1 l v16) empty.length)∧Ts 1 (Ti 3 ((adx7 nonev l v16)=true→True) (((adx7 nonev l v16)=true→inIdx (adx1 l v16) nonev.length)∧True))))) (tsI 1 (tiI 3 (fun _=>trivial) (⟨o1,tsI 1 (tiI 3 (fun _=>trivial) ⟨o2,trivial⟩)⟩))) ?_
                 refine awd_perm e49_n2 (by kernel_rfl) (by kernel_rfl) ?_
                 exact m6 h
            ·exact qC ⟨101,[e49_7,e49_8,e49_2 l,e49_1 l,sI 16 v16],[e49_4 empty,e49_3 nonev]⟩ (aw_skip (rest5 (empty,nonev) h))
      ·refine qI h (fun h=>?_) fun h=>?_
       ·exact aw_skip (rest6 (decide ((l.getD (v16).toNat z3).1=(2:Int))) h)
       ·exact aw_region (qT 2 ⟨101,[e49_7,e49_8,sI 6 v16,sp 7 7,e49_2 l,e49_1 l,sI 16 v16,e49_34 l v16,sB 28 (decide ((l.getD (v16).toNat z3).1=(6:Int)))],[e49_0 l v16,e49_4 empty,e49_3 nonev]⟩ (awl_nil (rest6 (decide ((l.getD (v16).toNat z3).1=(6:Int))) h)))
   ·exact qC ⟨101,[e49_7,e49_8],[e49_4 empty,e49_3 nonev]⟩ (aw_exit (thenQ_x (thenQ_x (blockQ_hit (rest1 (empty,nonev) h)))))
 ·refine awd_begin [] (by kernel_rfl) ?_
  refine qDT 4 [0,1,3,4] [4,3,1,0] ⟨101,[e49_33 l,sI 9 (l.length:Int),sI 12 (l.length:Int)],[]⟩ (awd_two (i:=2) (j:=5) (by kernel_rfl) ?_ ?_)
  ·have h:=h
   obtain ⟨o1,h⟩:=h
   refine dsq (ob:=room (l.length:Int)) (st':=⟨101,[e49_33 l,s1 10 (.own 10),sI 12 (l.length:Int)],[e49_19 l]⟩) rfl (by kernel_rfl) o1 ?_
   refine qDT 1 [6] [6,2,4,3,1,0] ⟨101,[e49_33 l,e49_7,sI 12 (l.length:Int)],[e49_19 l]⟩ (awd_one (i:=5) (by kernel_rfl) ?_)
   obtain ⟨o1,h⟩:=h
   refine dsq (ob:=room (l.length:Int)) (st':=⟨101,[e49_33 l,e49_7,s1 13 (.own 13)],[e49_19 l,e49_22 l]⟩) rfl (by kernel_rfl) o1 ?_
   refine qDT 1 [7] [7,5,6,2,4,3,1,0] ⟨101,[e49_33 l,e49_7,e49_8],[e49_19 l,e49_22 l]⟩ (awd_done (by kernel_rfl) ?_)
   exact rest7 () h
  ·have h:=h
   obtain ⟨o1,h⟩:=h
   refine dsq (ob:=room (l.length:Int)) (st':=⟨101,[e49_33 l,sI 9 (l.length:Int),s1 13 (.own 13)],[e49_22 l]⟩) rfl (by kernel_rfl) o1 ?_
   refine awd_one (i:=2) (by kernel_rfl) ?_
   obtain ⟨o1,h⟩:=h
   refine dsq (ob:=room (l.length:Int)) (st':=⟨101,[e49_33 l,s1 10 (.own 10),s1 13 (.own 13)],[e49_19 l,e49_22 l]⟩) rfl (by kernel_rfl) o1 ?_
   refine qDT 2 [6,7] [7,6,2,5,4,3,1,0] ⟨101,[e49_33 l,e49_7,e49_8],[e49_19 l,e49_22 l]⟩ (awd_done (by kernel_rfl) ?_)
   exact rest7 () h
abbrev e88_0:Nat×Path×Con:=(4,[],.vec 5 (.int .u64) (List.replicate 5 (0:Int)))
abbrev e88_1 (sv:LI):Nat×Path×Con:=(2,[],.vec 5 (.int .u64) (a5 sv))
-- (coppicer/glyph.Set).With
def VC88 (sv:LI) (p:Int) (K:LI→Prop):Prop :=
  ((0≤p∧0<(64:Int))∧inIdx (p / (64:Int)) 5∧(0≤p∧0<(64:Int))∧0≤(p % (64:Int))∧(inIdx (p / (64:Int)) 5∧K (a5 ((a5 sv).set (((p / (64:Int))).toNat) (bOr .u64 ((a5 sv).getD (((p / (64:Int))).toNat) (0:Int)) (bShl .u64 (1:Int) (p % (64:Int))))))))
abbrev aex0 (sv:LI) (p:Int):=(a5 sv).getD (((p / (64:Int))).toNat) (0:Int)
theorem link88 (sv:LI) (p:Int) (K:LI→Prop) (h:VC88 sv p K):ACalls Try.prog 88 [toV1 (.ar 4 (.int .u64)) sv,toV1 tI p] (fun res=>∃ y,res=(fun y=>[toV1 (.ar 4 (.int .u64)) y]) y∧K y):=by
 refine acalls_of_aw [(.ar 4 (.int .u64))] [.c 4 114] Try.func88 rfl rfl rfl ?_
 unfold VC88 at h
 refine qS 2 ⟨15,[sI 1 p,sp 2 2,sp 4 4],[e88_1 sv,e88_0]⟩ (aw_seq (awd_begin [2] (by kernel_rfl) ?_))
 obtain ⟨o1,o2,o3,o4,h⟩:=h
 refine qD [0,1,2,4,5,6] [6,5,4,2,1,0] ⟨15,[sp 2 2,sp 4 4,sI 6 (p / (64:Int)),s1 7 (.elv 2 (((p / (64:Int))).toNat) 1 0 5),s1 11 (.pU (bShl .u64 (1:Int) (p % (64:Int))))],[e88_1 sv,e88_0]⟩ (ob:=Ts 1 ((0≤p∧0<(64:Int))∧inIdx (p / (64:Int)) 5∧Ts 1 ((0≤p∧0<(64:Int))∧0≤(p % (64:Int))∧True))) (tsI 1 (⟨o1,⟨o2,tsI 1 (⟨o3,⟨o4,trivial⟩⟩)⟩⟩)) ?_
 refine awd_one (i:=3) (by kernel_rfl) ?_
 refine dsq (ob:=True) (st':=⟨15,[sp 2 2,sp 4 4,sI 6 (p / (64:Int)),s1 8 (.pU (aex0 sv p)),s1 11 (.pU (bShl .u64 (1:Int) (p % (64:Int))))],[e88_1 sv,e88_0]⟩) rfl (by kernel_rfl) trivial ?_
 obtain ⟨o1,h⟩:=h
 refine qDO 1 0 [7,8] [8,7,3,6,5,4,2,1,0] ⟨15,[sp 2 2,sp 4 4,s1 12 (.pU (bOr .u64 (aex0 sv p) (bShl .u64 (1:Int) (p % (64:Int))))),s1 13 (.elv 2 (((p / (64:Int))).toNat) 1 0 5)],[e88_1 sv,e88_0]⟩ o1 (awd_one (i:=9) (by kernel_rfl) ?_)
 refine dsq (ob:=True) (st':=⟨15,[sp 2 2,sp 4 4],[(2,[],.vec 5 (.int .u64) ((a5 sv).set (((p / (64:Int))).toNat) (bOr .u64 (aex0 sv p) (bShl .u64 (1:Int) (p % (64:Int)))))),e88_0]⟩) rfl (by kernel_rfl) trivial ?_
 refine awd_done (by kernel_rfl) ?_
 exact thenQ_n (qS 2 ⟨15,[sp 4 4],[(4,[],.vec 5 (.int .u64) (a5 ((a5 sv).set (((p / (64:Int))).toNat) (bOr .u64 (aex0 sv p) (bShl .u64 (1:Int) (p % (64:Int)))))))]⟩ (aw_ret (qE 1 h)))
-- (coppicer/glyph.Set).Has
def VC61 (sv:LI) (p:Int) (K:Bool→Prop):Prop :=
  ((0≤p∧0<(64:Int))∧inIdx (p / (64:Int)) 5∧(0≤p∧0<(64:Int))∧(0≤((a5 sv).getD (((p / (64:Int))).toNat) (0:Int))∧0≤(p % (64:Int)))∧K (decide ((bAnd .u64 (bShr .u64 ((a5 sv).getD (((p / (64:Int))).toNat) (0:Int)) (p % (64:Int))) (1:Int))=(1:Int))))
theorem link61 (sv:LI) (p:Int) (K:Bool→Prop) (h:VC61 sv p K):ACalls Try.prog 61 [toV1 (.ar 4 (.int .u64)) sv,toV1 tI p] (fun res=>∃ y,res=(fun y=>[toV1 .bool y]) y∧K y):=by
 refine acalls_of_aw [.bool] [.t 4] Try.func61 rfl rfl rfl ?_
 unfold VC61 at h
 refine sr (qT 2 ⟨14,[sI 1 p,sp 2 2],[(2,[],.vec 5 (.int .u64) (a5 sv))]⟩ (nsr ?_))
 obtain ⟨o1,o2,o3,o4,h⟩:=h
 refine qR 10 ⟨14,[sB 4 (decide ((bAnd .u64 (bShr .u64 ((a5 sv).getD (((p / (64:Int))).toNat) (0:Int)) (p % (64:Int))) (1:Int))=(1:Int)))],[]⟩ (ob:=Ts 1 ((0≤p∧0<(64:Int))∧inIdx (p / (64:Int)) 5∧Ts 2 ((0≤p∧0<(64:Int))∧(0≤((a5 sv).getD (((p / (64:Int))).toNat) (0:Int))∧0≤(p % (64:Int)))∧Ts 3 True))) (tsI 1 (⟨o1,⟨o2,tsI 2 (⟨o3,⟨o4,tsI 3 trivial⟩⟩)⟩⟩)) ?_
 exact nn (aw_ret (qE 1 h))
abbrev e102_0:Nat×Path×Con:=(4,[],.vec 5 (.int .u64) (List.replicate 5 (0:Int)))
abbrev e102_1 (tv:LI):Nat×Path×Con:=(3,[],.vec 5 (.int .u64) (a5 tv))
abbrev e102_2 (sv2:LI) (v6:Int) (tv:LI):Nat×Path×Con:=(2,[],.vec 5 (.int .u64) (sv2.set ((v6).toNat) (bOr .u64 (sv2.getD ((v6).toNat) (0:Int)) ((a5 tv).getD ((v6).toNat) (0:Int)))))
abbrev e102_3 (sv2:LI):Nat×Path×Con:=(2,[],.vec 5 (.int .u64) sv2)
-- (coppicer/glyph.Set).Or
def VC102_k1 (K:LI→Prop) (sv2:LI):Prop :=
  K (a5 sv2)
def VC102_l1 (tv:LI) (K:LI→Prop) (v6:Int) (sv2:LI) (X1:Int×LI→Prop):Prop :=
  (((decide (v6<(5:Int)))=true→(inIdx v6 5∧inIdx v6 5∧(inIdx v6 5∧(InR (v6+(1:Int))∧X1 ((v6+(1:Int)),(sv2.set ((v6).toNat) (bOr .u64 (sv2.getD ((v6).toNat) (0:Int)) ((a5 tv).getD ((v6).toNat) (0:Int)))))))))∧((decide (v6<(5:Int)))=false→VC102_k1 K sv2))
def VC102 (sv tv:LI) (K:LI→Prop):Prop :=
  Loop (σ:=Int×LI) (fun s X=>VC102_l1 tv K s.1 s.2 X) ((0:Int),(a5 sv))
theorem link102 (sv tv:LI) (K:LI→Prop) (h:VC102 sv tv K):ACalls Try.prog 102 [toV1 (.ar 4 (.int .u64)) sv,toV1 (.ar 4 (.int .u64)) tv] (fun res=>∃ y,res=(fun y=>[toV1 (.ar 4 (.int .u64)) y]) y∧K y):=by
 refine acalls_of_aw [(.ar 4 (.int .u64))] [.c 4 114] Try.func102 rfl rfl rfl ?_
 unfold VC102 at h
 refine qS 3 ⟨19,[sp 2 2,sp 3 3,sp 4 4],[(2,[],.vec 5 (.int .u64) (a5 sv)),e102_1 tv,e102_0]⟩ (aw_seq (qS 1 ⟨19,[sp 2 2,sp 3 3,sp 4 4,sI 6 (0:Int)],[(2,[],.vec 5 (.int .u64) (a5 sv)),e102_1 tv,e102_0]⟩ (withJoin (σ:=LI) (fun s=>⟨19,[sp 2 2,sp 4 4],[(2,[],.vec 5 (.int .u64) s),e102_0]⟩) (fun s=>VC102_k1 K s) (fun sv2 h=>?_) (fun rest1=>?_))))
 ·have h:VC102_k1 K sv2:=h
  unfold VC102_k1 at h
  exact thenQ_n (qS 2 ⟨19,[sp 4 4],[(4,[],.vec 5 (.int .u64) (a5 sv2))]⟩ (aw_ret (qE 1 h)))
 ·refine aw_block (aw_loop (σ:=Int×LI) (fun s=>⟨19,[sp 2 2,sp 3 3,sp 4 4,sI 6 s.1],[(2,[],.vec 5 (.int .u64) s.2),e102_1 tv,e102_0]⟩) (fun s X=>VC102_l1 tv K s.1 s.2 X) (s0:=((0:Int),(a5 sv))) (fun s X1 h=>?_) h)
  obtain ⟨v6,sv2⟩:=s
  have h:VC102_l1 tv K v6 sv2 X1:=h
  unfold VC102_l1 at h
  refine qS 1 ⟨19,[sp 2 2,sp 3 3,sp 4 4,sI 6 v6,sB 7 (decide (v6<(5:Int)))],[e102_3 sv2,e102_1 tv,e102_0]⟩ (aw_seq (qI h (fun h=>?_) fun h=>?_))
  ·refine aw_skip (thenQ_n (aw_seq (aw_block (qS 2 ⟨19,[sp 2 2,sp 3 3,sp 4 4,sI 5 v6,sI 6 v6],[e102_3 sv2,e102_1 tv,e102_0]⟩ (awd_begin [2] (by kernel_rfl) ?_)))))
   obtain ⟨o1,o2,h⟩:=h
   refine qD [0,1,3,4,5] [5,4,3,1,0] ⟨19,[sp 2 2,sp 3 3,sp 4 4,sI 6 v6,sI 9 v6,s1 10 (.elv 2 ((v6).toNat) 1 0 5),s1 14 (.pU ((a5 tv).getD ((v6).toNat) (0:Int)))],[e102_3 sv2,e102_1 tv,e102_0]⟩ (ob:=Ts 1 (inIdx v6 5∧Ts 1 (inIdx v6 5∧Ts 1 True))) (tsI 1 (⟨o1,tsI 1 ⟨o2,tsI 1 trivial⟩⟩)) ?_
   refine awd_one (i:=2) (by kernel_rfl) ?_
   refine dsq (ob:=True) (st':=⟨19,[sp 2 2,sp 3 3,sp 4 4,sI 6 v6,sI 9 v6,s1 11 (.pU (sv2.getD ((v6).toNat) (0:Int))),s1 14 (.pU ((a5 tv).getD ((v6).toNat) (0:Int)))],[e102_3 sv2,e102_1 tv,e102_0]⟩) rfl (by kernel_rfl) trivial ?_
   obtain ⟨o1,h⟩:=h
   refine qDO 1 0 [6,7] [7,6,2,5,4,3,1,0] ⟨19,[sp 2 2,sp 3 3,sp 4 4,sI 6 v6,s1 15 (.pU (bOr .u64 (sv2.getD ((v6).toNat) (0:Int)) ((a5 tv).getD ((v6).toNat) (0:Int)))),s1 16 (.elv 2 ((v6).toNat) 1 0 5)],[e102_3 sv2,e102_1 tv,e102_0]⟩ o1 (awd_one (i:=8) (by kernel_rfl) ?_)
   refine dsq (ob:=True) (st':=⟨19,[sp 2 2,sp 3 3,sp 4 4,sI 6 v6],[e102_2 sv2 v6 tv,e102_1 tv,e102_0]⟩) rfl (by kernel_rfl) trivial ?_
   refine awd_done (by kernel_rfl) ?_
   exact blockQ_n (thenQ_n (aw_region (qA 2 0 1 ⟨19,[sp 2 2,sp 3 3,sp 4 4,sI 6 (v6+(1:Int))],[e102_2 sv2 v6 tv,e102_1 tv,e102_0]⟩ h fun h=>awl_nil (thenQ_n ⟨((v6+(1:Int)),(sv2.set ((v6).toNat) (bOr .u64 (sv2.getD ((v6).toNat) (0:Int)) ((a5 tv).getD ((v6).toNat) (0:Int))))),rfl,h⟩))))
  ·exact qC ⟨19,[sp 2 2,sp 4 4],[e102_3 sv2,e102_0]⟩ (aw_exit (thenQ_x (thenQ_x (blockQ_hit (rest1 sv2 h)))))
abbrev e60_0:=hB 4 [.pU (0:Int),.pU (0:Int),.pU (0:Int),.pU (0:Int),.pU (0:Int),.pU (0:Int),.pU (0:Int),.pU (0:Int),.pU (0:Int),.pU (0:Int),.pB false]
abbrev e60_1 (c0:LN) (c1:LB) (c2 c3 c4 c5 c6:Int):=hB 70000 [.p (.sl t3) c0,.p (.sl .bool) c1,.own 70001,.own 70002,.pU c2,.pU c3,.pU c4,.pU c5,.pU c6]
abbrev e60_2 (c1:LB) (b:Int):=hB 6 [.pU (0:Int),.pU (0:Int),.pU (0:Int),.pU (0:Int),.pU (0:Int),.pU (0:Int),.pU (0:Int),.pU (0:Int),.pU (0:Int),.pU (0:Int),.pB (c1.getD (b).toNat false)]
abbrev e60_3 (ret78v:Lqc×LI×LL):=hB 30002 [.pU (ret78v.1.1.getD 0 0),.pU (ret78v.1.1.getD 1 0),.pU (ret78v.1.1.getD 2 0),.pU (ret78v.1.1.getD 3 0),.pU (ret78v.1.1.getD 4 0),.pU (ret78v.1.2.1.getD 0 0),.pU (ret78v.1.2.1.getD 1 0),.pU (ret78v.1.2.1.getD 2 0),.pU (ret78v.1.2.1.getD 3 0),.pU (ret78v.1.2.1.getD 4 0),.pB ret78v.1.2.2]
abbrev e60_4 (ret82v:Lqc×LI×LL):=hB 30003 [.pU (ret82v.1.1.getD 0 0),.pU (ret82v.1.1.getD 1 0),.pU (ret82v.1.1.getD 2 0),.pU (ret82v.1.1.getD 3 0),.pU (ret82v.1.1.getD 4 0),.pU (ret82v.1.2.1.getD 0 0),.pU (ret82v.1.2.1.getD 1 0),.pU (ret82v.1.2.1.getD 2 0),.pU (ret82v.1.2.1.getD 3 0),.pU (ret82v.1.2.1.getD 4 0),.pB ret82v.1.2.2]
abbrev e60_5 (ret138v:Lqc×LI×LL):=hB 30202 [.pU (ret138v.1.1.getD 0 0),.pU (ret138v.1.1.getD 1 0),.pU (ret138v.1.1.getD 2 0),.pU (ret138v.1.1.getD 3 0),.pU (ret138v.1.1.getD 4 0),.pU (ret138v.1.2.1.getD 0 0),.pU (ret138v.1.2.1.getD 1 0),.pU (ret138v.1.2.1.getD 2 0),.pU (ret138v.1.2.1.getD 3 0),.pU (ret138v.1.2.1.getD 4 0),.pB ret138v.1.2.2]
abbrev e60_6:=hB 30000 [.pU (0:Int),.pU (0:Int),.pU (0:Int),.pU (0:Int),.pU (0:Int),.pU (0:Int),.pU (0:Int),.pU (0:Int),.pU (0:Int),.pU (0:Int),.pB false]
abbrev e60_7:=hB 30200 [.pU (0:Int),.pU (0:Int),.pU (0:Int),.pU (0:Int),.pU (0:Int),.pU (0:Int),.pU (0:Int),.pU (0:Int),.pU (0:Int),.pU (0:Int),.pB false]
abbrev e60_8 (c1:LB) (b:Int):=hB 30001 [.pU (0:Int),.pU (0:Int),.pU (0:Int),.pU (0:Int),.pU (0:Int),.pU (0:Int),.pU (0:Int),.pU (0:Int),.pU (0:Int),.pU (0:Int),.pB (c1.getD (b).toNat false)]
abbrev e60_9 (c1:LB) (b:Int):=hB 30201 [.pU (0:Int),.pU (0:Int),.pU (0:Int),.pU (0:Int),.pU (0:Int),.pU (0:Int),.pU (0:Int),.pU (0:Int),.pU (0:Int),.pU (0:Int),.pB (c1.getD (b).toNat false)]
abbrev e60_10 (c0:LN) (c1:LB) (c2 c3 c4 c5 c6:Int):=hB 70000 [.p (.sl t3) c0,.p (.sl .bool) c1,.own 47,.own 59,.pU c2,.pU c3,.pU c4,.pU c5,.pU c6]
abbrev e60_11 (c8:LL):=hA 59 114 (.ar 4 (.int .u64)) (c8++[[(0:Int),(0:Int),(0:Int),(0:Int),(0:Int)]])
abbrev e60_12 (ret78v:Lqc×LI×LL):=hB 8 [.pU (ret78v.1.1.getD 0 0),.pU (ret78v.1.1.getD 1 0),.pU (ret78v.1.1.getD 2 0),.pU (ret78v.1.1.getD 3 0),.pU (ret78v.1.1.getD 4 0),.pU (ret78v.1.2.1.getD 0 0),.pU (ret78v.1.2.1.getD 1 0),.pU (ret78v.1.2.1.getD 2 0),.pU (ret78v.1.2.1.getD 3 0),.pU (ret78v.1.2.1.getD 4 0),.pB ret78v.1.2.2]
abbrev e60_13 (c0:LN) (b:Int):=hB 5 [.pI ((c0.getD (b).toNat z3).1),.pI ((c0.getD (b).toNat z3).2.1),.pI ((c0.getD (b).toNat z3).2.2)]
abbrev e60_14 (c7:LI) (c0:LN) (b:Int):=hA 47 3 tI (c7++[(c0.getD (b).toNat z3).2.1])
abbrev e60_15 (ret78v:Lqc×LI×LL) (ret82v:Lqc×LI×LL) (c1:LB) (b:Int):=hB 30001 [.pU (ret78v.1.1.getD 0 0),.pU (ret78v.1.1.getD 1 0),.pU (ret78v.1.1.getD 2 0),.pU (ret78v.1.1.getD 3 0),.pU (ret78v.1.1.getD 4 0),.pU (ret82v.1.2.1.getD 0 0),.pU (ret82v.1.2.1.getD 1 0),.pU (ret82v.1.2.1.getD 2 0),.pU (ret82v.1.2.1.getD 3 0),.pU (ret82v.1.2.1.getD 4 0),.pB (c1.getD (b).toNat false)]
abbrev e60_16 (ret116v:Lqc×LI×LL):=hB 10 [.pU (ret116v.1.1.getD 0 0),.pU (ret116v.1.1.getD 1 0),.pU (ret116v.1.1.getD 2 0),.pU (ret116v.1.1.getD 3 0),.pU (ret116v.1.1.getD 4 0),.pU (ret116v.1.2.1.getD 0 0),.pU (ret116v.1.2.1.getD 1 0),.pU (ret116v.1.2.1.getD 2 0),.pU (ret116v.1.2.1.getD 3 0),.pU (ret116v.1.2.1.getD 4 0),.pB ret116v.1.2.2]
abbrev e60_17 (l70002:LL):=hA 70002 114 (.ar 4 (.int .u64)) l70002
abbrev e60_18 (ret66v:LI) (c1:LB) (b:Int):=hB 6 [.pU (ret66v.getD 0 0),.pU (ret66v.getD 1 0),.pU (ret66v.getD 2 0),.pU (ret66v.getD 3 0),.pU (ret66v.getD 4 0),.pU (0:Int),.pU (0:Int),.pU (0:Int),.pU (0:Int),.pU (0:Int),.pB (c1.getD (b).toNat false)]
abbrev e60_19:=sp 152 70000
abbrev e60_20 (ret82v:Lqc×LI×LL):=hA 70001 3 tI ret82v.2.1
abbrev e60_21 (ret66v:LI):=sA 66 [.pU (ret66v.getD 0 0),.pU (ret66v.getD 1 0),.pU (ret66v.getD 2 0),.pU (ret66v.getD 3 0),.pU (ret66v.getD 4 0)]
abbrev e60_22 (ret70v:LI):=sA 70 [.pU (ret70v.getD 0 0),.pU (ret70v.getD 1 0),.pU (ret70v.getD 2 0),.pU (ret70v.getD 3 0),.pU (ret70v.getD 4 0)]
abbrev e60_23 (c8:LL):=hA 70002 114 (.ar 4 (.int .u64)) c8
abbrev e60_24 (ret138v:Lqc×LI×LL):=hA 70001 3 tI ret138v.2.1
abbrev e60_25 (ret66v ret70v:LI) (c1:LB) (b:Int):=hB 6 [.pU (ret66v.getD 0 0),.pU (ret66v.getD 1 0),.pU (ret66v.getD 2 0),.pU (ret66v.getD 3 0),.pU (ret66v.getD 4 0),.pU (ret70v.getD 0 0),.pU (ret70v.getD 1 0),.pU (ret70v.getD 2 0),.pU (ret70v.getD 3 0),.pU (ret70v.getD 4 0),.pB (c1.getD (b).toNat false)]
abbrev e60_26 (l70002:LL) (v13:Int):=sA 32 [.pU ((l70002.getD ((v13).toNat) (List.replicate 5 (0:Int))).getD 0 0),.pU ((l70002.getD ((v13).toNat) (List.replicate 5 (0:Int))).getD 1 0),.pU ((l70002.getD ((v13).toNat) (List.replicate 5 (0:Int))).getD 2 0),.pU ((l70002.getD ((v13).toNat) (List.replicate 5 (0:Int))).getD 3 0),.pU ((l70002.getD ((v13).toNat) (List.replicate 5 (0:Int))).getD 4 0)]
abbrev e60_27:=sA 68 [.pU (0:Int),.pU (0:Int),.pU (0:Int),.pU (0:Int),.pU (0:Int)]
abbrev e60_28 (out out2 out3 out4 out5:Int) (ret82v:Lqc×LI×LL) (c1:LB) (b:Int):=hB 30001 [.pU out,.pU out2,.pU out3,.pU out4,.pU out5,.pU (ret82v.1.2.1.getD 0 0),.pU (ret82v.1.2.1.getD 1 0),.pU (ret82v.1.2.1.getD 2 0),.pU (ret82v.1.2.1.getD 3 0),.pU (ret82v.1.2.1.getD 4 0),.pB (c1.getD (b).toNat false)]
abbrev e60_29 (ret138v:Lqc×LI×LL):Nat×Path×Con:=(4,[],.vec 5 (.int .u64) (a5 ret138v.1.2.1))
abbrev e60_30 (ret78v:Lqc×LI×LL):Nat×Path×Con:=(4,[],.vec 5 (.int .u64) (a5 ret78v.1.2.1))
abbrev e60_31:=sp 0 70000
abbrev e60_32 (ret138v:Lqc×LI×LL):Nat×Path×Con:=(5,[],.vec 5 (.int .u64) (a5 ret138v.1.1))
abbrev e60_33 (c7:LI):=hA 70001 3 tI c7
abbrev e60_34 (ret82v:Lqc×LI×LL):Nat×Path×Con:=(5,[],.vec 5 (.int .u64) (a5 ret82v.1.1))
abbrev e60_35 (ret116v:Lqc×LI×LL):=sA 116 [.pU (ret116v.1.1.getD 0 0),.pU (ret116v.1.1.getD 1 0),.pU (ret116v.1.1.getD 2 0),.pU (ret116v.1.1.getD 3 0),.pU (ret116v.1.1.getD 4 0),.pU (ret116v.1.2.1.getD 0 0),.pU (ret116v.1.2.1.getD 1 0),.pU (ret116v.1.2.1.getD 2 0),.pU (ret116v.1.2.1.getD 3 0),.pU (ret116v.1.2.1.getD 4 0),.pB ret116v.1.2.2]
abbrev e60_36 (ret120v:Lqc×LI×LL):=sA 120 [.pU (ret120v.1.1.getD 0 0),.pU (ret120v.1.1.getD 1 0),.pU (ret120v.1.1.getD 2 0),.pU (ret120v.1.1.getD 3 0),.pU (ret120v.1.1.getD 4 0),.pU (ret120v.1.2.1.getD 0 0),.pU (ret120v.1.2.1.getD 1 0),.pU (ret120v.1.2.1.getD 2 0),.pU (ret120v.1.2.1.getD 3 0),.pU (ret120v.1.2.1.getD 4 0),.pB ret120v.1.2.2]
abbrev e60_37 (ret138v:Lqc×LI×LL):=sA 138 [.pU (ret138v.1.1.getD 0 0),.pU (ret138v.1.1.getD 1 0),.pU (ret138v.1.1.getD 2 0),.pU (ret138v.1.1.getD 3 0),.pU (ret138v.1.1.getD 4 0),.pU (ret138v.1.2.1.getD 0 0),.pU (ret138v.1.2.1.getD 1 0),.pU (ret138v.1.2.1.getD 2 0),.pU (ret138v.1.2.1.getD 3 0),.pU (ret138v.1.2.1.getD 4 0),.pB ret138v.1.2.2]
abbrev e60_38 (ret138v:Lqc×LI×LL):=hB 12 [.pU (ret138v.1.1.getD 0 0),.pU (ret138v.1.1.getD 1 0),.pU (ret138v.1.1.getD 2 0),.pU (ret138v.1.1.getD 3 0),.pU (ret138v.1.1.getD 4 0),.pU (ret138v.1.2.1.getD 0 0),.pU (ret138v.1.2.1.getD 1 0),.pU (ret138v.1.2.1.getD 2 0),.pU (ret138v.1.2.1.getD 3 0),.pU (ret138v.1.2.1.getD 4 0),.pB ret138v.1.2.2]
abbrev e60_39 (ret78v:Lqc×LI×LL):=sA 78 [.pU (ret78v.1.1.getD 0 0),.pU (ret78v.1.1.getD 1 0),.pU (ret78v.1.1.getD 2 0),.pU (ret78v.1.1.getD 3 0),.pU (ret78v.1.1.getD 4 0),.pU (ret78v.1.2.1.getD 0 0),.pU (ret78v.1.2.1.getD 1 0),.pU (ret78v.1.2.1.getD 2 0),.pU (ret78v.1.2.1.getD 3 0),.pU (ret78v.1.2.1.getD 4 0),.pB ret78v.1.2.2]
abbrev e60_40 (ret82v:Lqc×LI×LL):=sA 82 [.pU (ret82v.1.1.getD 0 0),.pU (ret82v.1.1.getD 1 0),.pU (ret82v.1.1.getD 2 0),.pU (ret82v.1.1.getD 3 0),.pU (ret82v.1.1.getD 4 0),.pU (ret82v.1.2.1.getD 0 0),.pU (ret82v.1.2.1.getD 1 0),.pU (ret82v.1.2.1.getD 2 0),.pU (ret82v.1.2.1.getD 3 0),.pU (ret82v.1.2.1.getD 4 0),.pB ret82v.1.2.2]
abbrev e60_41 (ret82v:Lqc×LI×LL):=hB 9 [.pU (ret82v.1.1.getD 0 0),.pU (ret82v.1.1.getD 1 0),.pU (ret82v.1.1.getD 2 0),.pU (ret82v.1.1.getD 3 0),.pU (ret82v.1.1.getD 4 0),.pU (ret82v.1.2.1.getD 0 0),.pU (ret82v.1.2.1.getD 1 0),.pU (ret82v.1.2.1.getD 2 0),.pU (ret82v.1.2.1.getD 3 0),.pU (ret82v.1.2.1.getD 4 0),.pB ret82v.1.2.2]
abbrev e60_42 (ret125v ret130v:LI) (c1:LB) (b:Int):=hB 6 [.pU (ret125v.getD 0 0),.pU (ret125v.getD 1 0),.pU (ret125v.getD 2 0),.pU (ret125v.getD 3 0),.pU (ret125v.getD 4 0),.pU (ret130v.getD 0 0),.pU (ret130v.getD 1 0),.pU (ret130v.getD 2 0),.pU (ret130v.getD 3 0),.pU (ret130v.getD 4 0),.pB (c1.getD (b).toNat false)]
abbrev e60_43 (ret138v:Lqc×LI×LL) (c1:LB) (b:Int):=hB 30201 [.pU (ret138v.1.1.getD 0 0),.pU (ret138v.1.1.getD 1 0),.pU (ret138v.1.1.getD 2 0),.pU (ret138v.1.1.getD 3 0),.pU (ret138v.1.1.getD 4 0),.pU (0:Int),.pU (0:Int),.pU (0:Int),.pU (0:Int),.pU (0:Int),.pB (c1.getD (b).toNat false)]
abbrev e60_44 (ret78v:Lqc×LI×LL) (c1:LB) (b:Int):=hB 30001 [.pU (ret78v.1.1.getD 0 0),.pU (ret78v.1.1.getD 1 0),.pU (ret78v.1.1.getD 2 0),.pU (ret78v.1.1.getD 3 0),.pU (ret78v.1.1.getD 4 0),.pU (0:Int),.pU (0:Int),.pU (0:Int),.pU (0:Int),.pU (0:Int),.pB (c1.getD (b).toNat false)]
abbrev e60_45 (ret34v:LI):=sA 34 [.pU (ret34v.getD 0 0),.pU (ret34v.getD 1 0),.pU (ret34v.getD 2 0),.pU (ret34v.getD 3 0),.pU (ret34v.getD 4 0)]
abbrev e60_46 (ret120v:Lqc×LI×LL):=hA 70002 114 (.ar 4 (.int .u64)) ret120v.2.2
abbrev e60_47 (ret116v:Lqc×LI×LL):=sA 127 [.pU (ret116v.1.2.1.getD 0 0),.pU (ret116v.1.2.1.getD 1 0),.pU (ret116v.1.2.1.getD 2 0),.pU (ret116v.1.2.1.getD 3 0),.pU (ret116v.1.2.1.getD 4 0)]
abbrev e60_48 (ret120v:Lqc×LI×LL):=sA 129 [.pU (ret120v.1.2.1.getD 0 0),.pU (ret120v.1.2.1.getD 1 0),.pU (ret120v.1.2.1.getD 2 0),.pU (ret120v.1.2.1.getD 3 0),.pU (ret120v.1.2.1.getD 4 0)]
abbrev e60_49 (ret138v:Lqc×LI×LL):=sA 148 [.pU (ret138v.1.2.1.getD 0 0),.pU (ret138v.1.2.1.getD 1 0),.pU (ret138v.1.2.1.getD 2 0),.pU (ret138v.1.2.1.getD 3 0),.pU (ret138v.1.2.1.getD 4 0)]
abbrev e60_50 (ret125v:LI) (c1:LB) (b:Int):=hB 6 [.pU (ret125v.getD 0 0),.pU (ret125v.getD 1 0),.pU (ret125v.getD 2 0),.pU (ret125v.getD 3 0),.pU (ret125v.getD 4 0),.pU (0:Int),.pU (0:Int),.pU (0:Int),.pU (0:Int),.pU (0:Int),.pB (c1.getD (b).toNat false)]
abbrev e60_51 (ret82v:Lqc×LI×LL):=sA 92 [.pU (ret82v.1.2.1.getD 0 0),.pU (ret82v.1.2.1.getD 1 0),.pU (ret82v.1.2.1.getD 2 0),.pU (ret82v.1.2.1.getD 3 0),.pU (ret82v.1.2.1.getD 4 0)]
abbrev e60_52 (ret138v:Lqc×LI×LL):=sI 12 (ret138v.2.1.length:Int)
abbrev e60_53 (ret82v:Lqc×LI×LL):=sI 12 (ret82v.2.1.length:Int)
abbrev e60_54:=sp 189 70000
abbrev e60_55 (ret138v:Lqc×LI×LL):=hA 70002 114 (.ar 4 (.int .u64)) ret138v.2.2
abbrev e60_56 (ret82v:Lqc×LI×LL):=hA 70002 114 (.ar 4 (.int .u64)) ret82v.2.2
abbrev e60_57 (ret125v:LI):=sA 125 [.pU (ret125v.getD 0 0),.pU (ret125v.getD 1 0),.pU (ret125v.getD 2 0),.pU (ret125v.getD 3 0),.pU (ret125v.getD 4 0)]
abbrev e60_58 (ret130v:LI):=sA 130 [.pU (ret130v.getD 0 0),.pU (ret130v.getD 1 0),.pU (ret130v.getD 2 0),.pU (ret130v.getD 3 0),.pU (ret130v.getD 4 0)]
abbrev e60_59 (ret120v:Lqc×LI×LL):=hA 70001 3 tI ret120v.2.1
abbrev e60_60 (ret138v:Lqc×LI×LL):=sA 141 [.pU (ret138v.1.2.1.getD 0 0),.pU (ret138v.1.2.1.getD 1 0),.pU (ret138v.1.2.1.getD 2 0),.pU (ret138v.1.2.1.getD 3 0),.pU (ret138v.1.2.1.getD 4 0)]
abbrev e60_61 (ret78v:Lqc×LI×LL):=sA 85 [.pU (ret78v.1.2.1.getD 0 0),.pU (ret78v.1.2.1.getD 1 0),.pU (ret78v.1.2.1.getD 2 0),.pU (ret78v.1.2.1.getD 3 0),.pU (ret78v.1.2.1.getD 4 0)]
abbrev e60_62 (ret138v:Lqc×LI×LL):=sA 143 [.pU (ret138v.1.1.getD 0 0),.pU (ret138v.1.1.getD 1 0),.pU (ret138v.1.1.getD 2 0),.pU (ret138v.1.1.getD 3 0),.pU (ret138v.1.1.getD 4 0)]
abbrev e60_63 (ret138v:Lqc×LI×LL):=sA 33 [.pU (ret138v.1.1.getD 0 0),.pU (ret138v.1.1.getD 1 0),.pU (ret138v.1.1.getD 2 0),.pU (ret138v.1.1.getD 3 0),.pU (ret138v.1.1.getD 4 0)]
abbrev e60_64 (ret82v:Lqc×LI×LL):=sA 87 [.pU (ret82v.1.1.getD 0 0),.pU (ret82v.1.1.getD 1 0),.pU (ret82v.1.1.getD 2 0),.pU (ret82v.1.1.getD 3 0),.pU (ret82v.1.1.getD 4 0)]
abbrev e60_65 (ret82v:Lqc×LI×LL):=sA 33 [.pU (ret82v.1.1.getD 0 0),.pU (ret82v.1.1.getD 1 0),.pU (ret82v.1.1.getD 2 0),.pU (ret82v.1.1.getD 3 0),.pU (ret82v.1.1.getD 4 0)]
abbrev e60_66 (c7:LI):=sI 69 (c7.length:Int)
abbrev e60_67 (ret116v:Lqc×LI×LL):=hA 70002 114 (.ar 4 (.int .u64)) ret116v.2.2
abbrev e60_68 (ret78v:Lqc×LI×LL):=hA 70002 114 (.ar 4 (.int .u64)) ret78v.2.2
abbrev e60_69:=sA 64 [.pU (0:Int),.pU (0:Int),.pU (0:Int),.pU (0:Int),.pU (0:Int)]
abbrev e60_70 (c7:LI):=sI 7 (c7.length:Int)
abbrev e60_71 (ret116v:Lqc×LI×LL):=hA 70001 3 tI ret116v.2.1
abbrev e60_72 (ret78v:Lqc×LI×LL):=hA 70001 3 tI ret78v.2.1
abbrev e60_73:=sp 41 30000
abbrev e60_74:=sp 43 30001
abbrev e60_75:=sp 45 30002
abbrev e60_76:=sp 46 30003
abbrev e60_77:=sp 41 30200
abbrev e60_78:=sp 43 30201
abbrev e60_79:=sp 49 30202
abbrev e60_80 (c0:LN) (b:Int):=hA 46 3 tI [(c0.getD (b).toNat z3).2.1]
abbrev e60_81:=sp 4 30000
abbrev e60_82:=sp 6 30001
abbrev e60_83 (l70002:LL):=hA 59 114 (.ar 4 (.int .u64)) l70002
abbrev e60_84:=sp 8 30002
abbrev e60_85:=sp 9 30003
abbrev e60_86 (c7:LI):=sI 65 (c7.length:Int)
abbrev e60_87:=s1 23 (.own 70002)
abbrev e60_n0:List Nat:=[16,15,13,14,12,11,10,9,8,7,6,5,4,3,2,1,0]
abbrev e60_n1:List Nat:=[4,6,47,59,70000]
abbrev e60_n2:List Nat:=[0,1,2,3,4,5,6,7,8,9,10,11,12,14]
abbrev e60_n3:List Nat:=[14,12,11,10,9,8,7,6,5,4,3,2,1,0]
-- (*coppicer/glyph.builder).build
def VCc93_k1 (c1:LB) (b:Int) (K:Lqc×LI×LL→Prop) (out out2 out3 out4 out5 out6 out7 out8 out9 out10:Int) (l47:LI) (l59:LL):Prop :=
  K (([out,out2,out3,out4,out5],([out6,out7,out8,out9,out10],(c1.getD (b).toNat false))),l47,l59)
def VCc93_k2 (c0:LN) (c1:LB) (b:Int) (c7:LI) (c8:LL) (K:Lqc×LI×LL→Prop) (out out2 out3 out4 out5 out6 out7 out8 out9 out10:Int):Prop :=
  VCc93_k1 c1 b K out out2 out3 out4 out5 out6 out7 out8 out9 out10 (c7++[(c0.getD (b).toNat z3).2.1]) (c8++[[(0:Int),(0:Int),(0:Int),(0:Int),(0:Int)]])
def VCc93_k3 (c1:LB) (b:Int) (K:Lqc×LI×LL→Prop) (out out2 out3 out4 out5 out6 out7 out8 out9 out10:Int) (l70001:LI) (l70002:LL):Prop :=
  VCc93_k1 c1 b K out out2 out3 out4 out5 out6 out7 out8 out9 out10 l70001 l70002
def VCc93_k6 (c1:LB) (b:Int) (K:Lqc×LI×LL→Prop) (ret82v:Lqc×LI×LL) (l70002:LL) (out out2 out3 out4 out5 out6 out7 out8 out9 out10:Int):Prop :=
  VCc93_k3 c1 b K out out2 out3 out4 out5 out6 out7 out8 out9 out10 ret82v.2.1 l70002
def VCc93_k5 (c1:LB) (b:Int) (K:Lqc×LI×LL→Prop) (ret78v:Lqc×LI×LL) (ret82v:Lqc×LI×LL) (l70002:LL) (out out2 out3 out4 out5:Int):Prop :=
  ((ret82v.1.2.2=true→VC102 (a5 ret82v.1.2.1) (a5 ret78v.1.2.1) (fun (ret109v:LI)=>VCc93_k6 c1 b K ret82v l70002 out out2 out3 out4 out5 (ret109v.getD 0 0) (ret109v.getD 1 0) (ret109v.getD 2 0) (ret109v.getD 3 0) (ret109v.getD 4 0)))∧(ret82v.1.2.2=false→VCc93_k6 c1 b K ret82v l70002 out out2 out3 out4 out5 (ret82v.1.2.1.getD 0 0) (ret82v.1.2.1.getD 1 0) (ret82v.1.2.1.getD 2 0) (ret82v.1.2.1.getD 3 0) (ret82v.1.2.1.getD 4 0)))
def VCc93_k4 (c1:LB) (b:Int) (K:Lqc×LI×LL→Prop) (ret78v:Lqc×LI×LL) (ret82v:Lqc×LI×LL) (l70002:LL):Prop :=
  ((ret78v.1.2.2=true→VC102 (a5 ret78v.1.1) (a5 ret82v.1.1) (fun (ret101v:LI)=>VCc93_k5 c1 b K ret78v ret82v l70002 (ret101v.getD 0 0) (ret101v.getD 1 0) (ret101v.getD 2 0) (ret101v.getD 3 0) (ret101v.getD 4 0)))∧(ret78v.1.2.2=false→VCc93_k5 c1 b K ret78v ret82v l70002 (ret78v.1.1.getD 0 0) (ret78v.1.1.getD 1 0) (ret78v.1.1.getD 2 0) (ret78v.1.1.getD 3 0) (ret78v.1.1.getD 4 0)))
def VCc93_k7 (v13:Int) (X1:Int×LL→Prop) (l700022:LL):Prop :=
  (InR (v13+(1:Int))∧X1 ((v13+(1:Int)),l700022))
def VCc93_l1 (c1:LB) (b:Int) (K:Lqc×LI×LL→Prop) (ret78v:Lqc×LI×LL) (ret82v:Lqc×LI×LL) (v13:Int) (l70002:LL) (X1:Int×LL→Prop):Prop :=
  (((decide (v13<(ret82v.2.1.length:Int)))=true→VC61 (a5 ret78v.1.2.1) v13 (fun (ret18v:Bool)=>((ret18v=true→(inIdx v13 l70002.length∧VC102 (a5 (l70002.getD ((v13).toNat) (List.replicate 5 (0:Int)))) (a5 ret82v.1.1) (fun (ret34v:LI)=>(inIdx v13 l70002.length∧VCc93_k7 v13 X1 (l70002.set ((v13).toNat) (a5 ret34v))))))∧(ret18v=false→VCc93_k7 v13 X1 l70002))))∧((decide (v13<(ret82v.2.1.length:Int)))=false→VCc93_k4 c1 b K ret78v ret82v l70002))
def VCc93_k8 (c1:LB) (b:Int) (K:Lqc×LI×LL→Prop) (out out2 out3 out4 out5 out6 out7 out8 out9 out10:Int) (l70001:LI) (l70002:LL):Prop :=
  VCc93_k3 c1 b K out out2 out3 out4 out5 out6 out7 out8 out9 out10 l70001 l70002
def VCc93_k9 (c1:LB) (b:Int) (K:Lqc×LI×LL→Prop) (out out2 out3 out4 out5 out6 out7 out8 out9 out10:Int) (l70001:LI) (l70002:LL):Prop :=
  VCc93_k8 c1 b K out out2 out3 out4 out5 out6 out7 out8 out9 out10 l70001 l70002
def VCc93_k10 (c1:LB) (b:Int) (K:Lqc×LI×LL→Prop) (ret138v:Lqc×LI×LL) (l70002:LL):Prop :=
  VCc93_k9 c1 b K (ret138v.1.1.getD 0 0) (ret138v.1.1.getD 1 0) (ret138v.1.1.getD 2 0) (ret138v.1.1.getD 3 0) (ret138v.1.1.getD 4 0) (ret138v.1.2.1.getD 0 0) (ret138v.1.2.1.getD 1 0) (ret138v.1.2.1.getD 2 0) (ret138v.1.2.1.getD 3 0) (ret138v.1.2.1.getD 4 0) ret138v.2.1 l70002
def VCc93_k11 (v13:Int) (X2:Int×LL→Prop) (l700022:LL):Prop :=
  (InR (v13+(1:Int))∧X2 ((v13+(1:Int)),l700022))
def VCc93_l2 (c1:LB) (b:Int) (K:Lqc×LI×LL→Prop) (ret138v:Lqc×LI×LL) (v13:Int) (l70002:LL) (X2:Int×LL→Prop):Prop :=
  (((decide (v13<(ret138v.2.1.length:Int)))=true→VC61 (a5 ret138v.1.2.1) v13 (fun (ret18v:Bool)=>((ret18v=true→(inIdx v13 l70002.length∧VC102 (a5 (l70002.getD ((v13).toNat) (List.replicate 5 (0:Int)))) (a5 ret138v.1.1) (fun (ret34v:LI)=>(inIdx v13 l70002.length∧VCc93_k11 v13 X2 (l70002.set ((v13).toNat) (a5 ret34v))))))∧(ret18v=false→VCc93_k11 v13 X2 l70002))))∧((decide (v13<(ret138v.2.1.length:Int)))=false→VCc93_k10 c1 b K ret138v l70002))
def VCc93 (c0:LN) (c1:LB) (c2 c3 c4 c5 c6:Int) (R:Int→LI→LL→(Lqc×LI×LL→Prop)→Prop) (b:Int) (c7:LI) (c8:LL) (K:Lqc×LI×LL→Prop):Prop :=
  (inIdx b c0.length∧(inIdx b c1.length∧(((decide ((c0.getD (b).toNat z3).1=(3:Int)))=true→(roomN (c7.length+[(c0.getD (b).toNat z3).2.1].length)∧(roomN (c8.length+[[(0:Int),(0:Int),(0:Int),(0:Int),(0:Int)]].length)∧VC88 [(0:Int),(0:Int),(0:Int),(0:Int),(0:Int)] (c7.length:Int) (fun (ret66v:LI)=>VC88 [(0:Int),(0:Int),(0:Int),(0:Int),(0:Int)] (c7.length:Int) (fun (ret70v:LI)=>VCc93_k2 c0 c1 b c7 c8 K (ret66v.getD 0 0) (ret66v.getD 1 0) (ret66v.getD 2 0) (ret66v.getD 3 0) (ret66v.getD 4 0) (ret70v.getD 0 0) (ret70v.getD 1 0) (ret70v.getD 2 0) (ret70v.getD 3 0) (ret70v.getD 4 0))))))∧((decide ((c0.getD (b).toNat z3).1=(3:Int)))=false→(((decide ((c0.getD (b).toNat z3).1=(4:Int)))=true→R ((c0.getD (b).toNat z3).2.1) c7 c8 (fun (ret78v:Lqc×LI×LL)=>R ((c0.getD (b).toNat z3).2.2) ret78v.2.1 ret78v.2.2 (fun (ret82v:Lqc×LI×LL)=>Loop (σ:=Int×LL) (fun s X=>VCc93_l1 c1 b K ret78v ret82v s.1 s.2 X) ((0:Int),ret82v.2.2))))∧((decide ((c0.getD (b).toNat z3).1=(4:Int)))=false→(((decide ((c0.getD (b).toNat z3).1=(5:Int)))=true→R ((c0.getD (b).toNat z3).2.1) c7 c8 (fun (ret116v:Lqc×LI×LL)=>R ((c0.getD (b).toNat z3).2.2) ret116v.2.1 ret116v.2.2 (fun (ret120v:Lqc×LI×LL)=>VC102 (a5 ret116v.1.1) (a5 ret120v.1.1) (fun (ret125v:LI)=>VC102 (a5 ret116v.1.2.1) (a5 ret120v.1.2.1) (fun (ret130v:LI)=>VCc93_k8 c1 b K (ret125v.getD 0 0) (ret125v.getD 1 0) (ret125v.getD 2 0) (ret125v.getD 3 0) (ret125v.getD 4 0) (ret130v.getD 0 0) (ret130v.getD 1 0) (ret130v.getD 2 0) (ret130v.getD 3 0) (ret130v.getD 4 0) ret120v.2.1 ret120v.2.2)))))∧((decide ((c0.getD (b).toNat z3).1=(5:Int)))=false→(((decide ((c0.getD (b).toNat z3).1=(6:Int)))=true→R ((c0.getD (b).toNat z3).2.1) c7 c8 (fun (ret138v:Lqc×LI×LL)=>Loop (σ:=Int×LL) (fun s X=>VCc93_l2 c1 b K ret138v s.1 s.2 X) ((0:Int),ret138v.2.2)))∧((decide ((c0.getD (b).toNat z3).1=(6:Int)))=false→VCc93_k9 c1 b K (0:Int) (0:Int) (0:Int) (0:Int) (0:Int) (0:Int) (0:Int) (0:Int) (0:Int) (0:Int) c7 c8))))))))))
abbrev ahx0 (ret66v ret70v:LI):=((ret66v.getD 0 0),(ret66v.getD 1 0),(ret66v.getD 2 0),(ret66v.getD 3 0),(ret66v.getD 4 0),(ret70v.getD 0 0),(ret70v.getD 1 0),(ret70v.getD 2 0),(ret70v.getD 3 0),(ret70v.getD 4 0))
abbrev ahx1 (c0:LN) (b:Int):=(c0.getD (b).toNat z3).2.1
abbrev ahx2 (c0:LN) (b:Int):=(c0.getD (b).toNat z3).2.2
theorem linkc93 (c0:LN) (c1:LB) (c2 c3 c4 c5 c6:Int) (R:Int→LI→LL→(Lqc×LI×LL→Prop)→Prop) (hR:∀ (b:Int) (c7:LI) (c8:LL) (K:Lqc×LI×LL→Prop),R b c7 c8 K→LCalls Try.prog 93 [70000,70001,70002] [70000] [e60_1 c0 c1 c2 c3 c4 c5 c6,e60_33 c7,e60_23 c8] [.c (.ptr 70000 0),.c (.pI b)] (fun av hp'=>∃ y:Lqc×LI×LL,av=.v (.agg [.pU (y.1.1.getD 0 0),.pU (y.1.1.getD 1 0),.pU (y.1.1.getD 2 0),.pU (y.1.1.getD 3 0),.pU (y.1.1.getD 4 0),.pU (y.1.2.1.getD 0 0),.pU (y.1.2.1.getD 1 0),.pU (y.1.2.1.getD 2 0),.pU (y.1.2.1.getD 3 0),.pU (y.1.2.1.getD 4 0),.pB y.1.2.2])∧hp'=[e60_1 c0 c1 c2 c3 c4 c5 c6,hA 70001 3 tI y.2.1,hA 70002 114 (.ar 4 (.int .u64)) y.2.2]∧K y)) (b:Int) (c7:LI) (c8:LL) (K:Lqc×LI×LL→Prop) (h:VCc93 c0 c1 c2 c3 c4 c5 c6 R b c7 c8 K):LCalls Try.prog 93 [70000,70001,70002] [70000] [e60_1 c0 c1 c2 c3 c4 c5 c6,e60_33 c7,e60_23 c8] [.c (.ptr 70000 0),.c (.pI b)] (fun av hp'=>∃ y:Lqc×LI×LL,av=.v (.agg [.pU (y.1.1.getD 0 0),.pU (y.1.1.getD 1 0),.pU (y.1.1.getD 2 0),.pU (y.1.1.getD 3 0),.pU (y.1.1.getD 4 0),.pU (y.1.2.1.getD 0 0),.pU (y.1.2.1.getD 1 0),.pU (y.1.2.1.getD 2 0),.pU (y.1.2.1.getD 3 0),.pU (y.1.2.1.getD 4 0),.pB y.1.2.2])∧hp'=[e60_1 c0 c1 c2 c3 c4 c5 c6,hA 70001 3 tI y.2.1,hA 70002 114 (.ar 4 (.int .u64)) y.2.2]∧K y):=by
 refine lcalls_of_aw [70000,70001,70002] [70000] [.c 4 159] Try.func93 rfl rfl (by kernel_rfl) (by kernel_rfl) (by kernel_rfl) ?_
 refine qV [] ⟨152,[e60_31,sI 1 b,e60_19],[e60_1 c0 c1 c2 c3 c4 c5 c6,e60_33 c7,e60_23 c8]⟩ ?_
 unfold VCc93 at h
 refine sr (qT 1 ⟨152,[e60_31,sI 1 b,sp 4 4,e60_19],[e60_0,e60_1 c0 c1 c2 c3 c4 c5 c6,e60_33 c7,e60_23 c8]⟩ (nsr (qA 9 5 3 ⟨152,[e60_31,sI 1 b,sp 4 4,sp 5 5,e60_19],[e60_0,e60_13 c0 b,e60_1 c0 c1 c2 c3 c4 c5 c6,e60_33 c7,e60_23 c8]⟩ h fun h=>nsr (qA 10 5 4 ⟨152,[e60_31,sp 4 4,sp 5 5,sp 6 6,e60_19],[e60_0,e60_13 c0 b,e60_2 c1 b,e60_1 c0 c1 c2 c3 c4 c5 c6,e60_33 c7,e60_23 c8]⟩ h fun h=>nn (aw_seq (qS 2 ⟨152,[e60_31,sp 4 4,sp 5 5,sp 6 6,sI 29 ((c0.getD (b).toNat z3).1),e60_19],[e60_0,e60_13 c0 b,e60_2 c1 b,e60_1 c0 c1 c2 c3 c4 c5 c6,e60_33 c7,e60_23 c8]⟩ (aw_block (qS 2 ⟨152,[e60_31,sp 4 4,sp 5 5,sp 6 6,sI 29 ((c0.getD (b).toNat z3).1),sB 30 (decide ((c0.getD (b).toNat z3).1=(3:Int))),e60_19],[e60_0,e60_13 c0 b,e60_2 c1 b,e60_1 c0 c1 c2 c3 c4 c5 c6,e60_33 c7,e60_23 c8]⟩ (withJoin (σ:=Int×Int×Int×Int×Int×Int×Int×Int×Int×Int×LI×LL) (fun s=>⟨152,[sp 4 4,sp 6 6,e60_19],[e60_0,hB 6 [.pU s.1,.pU s.2.1,.pU s.2.2.1,.pU s.2.2.2.1,.pU s.2.2.2.2.1,.pU s.2.2.2.2.2.1,.pU s.2.2.2.2.2.2.1,.pU s.2.2.2.2.2.2.2.1,.pU s.2.2.2.2.2.2.2.2.1,.pU s.2.2.2.2.2.2.2.2.2.1,.pB (c1.getD (b).toNat false)],hA 47 3 tI s.2.2.2.2.2.2.2.2.2.2.1,hA 59 114 (.ar 4 (.int .u64)) s.2.2.2.2.2.2.2.2.2.2.2,e60_10 c0 c1 c2 c3 c4 c5 c6]⟩) (fun s=>VCc93_k1 c1 b K s.1 s.2.1 s.2.2.1 s.2.2.2.1 s.2.2.2.2.1 s.2.2.2.2.2.1 s.2.2.2.2.2.2.1 s.2.2.2.2.2.2.2.1 s.2.2.2.2.2.2.2.2.1 s.2.2.2.2.2.2.2.2.2.1 s.2.2.2.2.2.2.2.2.2.2.1 s.2.2.2.2.2.2.2.2.2.2.2) (fun s h=>?_) (fun rest1=>?_))))))))))
 ·obtain ⟨out,out2,out3,out4,out5,out6,out7,out8,out9,out10,l47,l59⟩:=s
  have h:VCc93_k1 c1 b K out out2 out3 out4 out5 out6 out7 out8 out9 out10 l47 l59:=h
  unfold VCc93_k1 at h
  exact blockQ_n (thenQ_n (qS 2 ⟨152,[sp 4 4,e60_19],[hB 4 [.pU out,.pU out2,.pU out3,.pU out4,.pU out5,.pU out6,.pU out7,.pU out8,.pU out9,.pU out10,.pB (c1.getD (b).toNat false)],hA 47 3 tI l47,hA 59 114 (.ar 4 (.int .u64)) l59,e60_10 c0 c1 c2 c3 c4 c5 c6]⟩ (qV [.ren 47 70001,.ren 59 70002,.prune [4,152] [70000,70001,70002,4]] ⟨152,[sp 4 4,e60_19],[e60_1 c0 c1 c2 c3 c4 c5 c6,hA 70001 3 tI l47,hA 70002 114 (.ar 4 (.int .u64)) l59,hB 4 [.pU out,.pU out2,.pU out3,.pU out4,.pU out5,.pU out6,.pU out7,.pU out8,.pU out9,.pU out10,.pB (c1.getD (b).toNat false)]]⟩ (aw_ret (lret_r (σ:=Lqc×LI×LL) (A:=fun y=>.v (.agg [.pU (y.1.1.getD 0 0),.pU (y.1.1.getD 1 0),.pU (y.1.1.getD 2 0),.pU (y.1.1.getD 3 0),.pU (y.1.1.getD 4 0),.pU (y.1.2.1.getD 0 0),.pU (y.1.2.1.getD 1 0),.pU (y.1.2.1.getD 2 0),.pU (y.1.2.1.getD 3 0),.pU (y.1.2.1.getD 4 0),.pB y.1.2.2])) (H:=fun y=>[e60_1 c0 c1 c2 c3 c4 c5 c6,hA 70001 3 tI y.2.1,hA 70002 114 (.ar 4 (.int .u64)) y.2.2]) (ob:=True) (([out,out2,out3,out4,out5],([out6,out7,out8,out9,out10],(c1.getD (b).toNat false))),l47,l59) (by kernel_rfl) trivial rfl (by kernel_rfl) (by kernel_rfl) (by kernel_rfl) h)))))
 ·refine qI h (fun h=>?_) fun h=>?_
  ·refine qS 7 ⟨152,[e60_31,sp 4 4,sp 5 5,sp 6 6,e60_70 c7,e60_19],[e60_0,e60_13 c0 b,e60_2 c1 b,e60_1 c0 c1 c2 c3 c4 c5 c6,e60_33 c7,e60_23 c8]⟩ (aw_seq (awd_begin [70000,70001] (by kernel_rfl) ?_))
   refine awd_memo ((roomN (c7.length+[(c0.getD (b).toNat z3).2.1].length)∧(roomN (c8.length+[[(0:Int),(0:Int),(0:Int),(0:Int),(0:Int)]].length)∧VC88 [(0:Int),(0:Int),(0:Int),(0:Int),(0:Int)] (c7.length:Int) (fun (ret66v:LI)=>VC88 [(0:Int),(0:Int),(0:Int),(0:Int),(0:Int)] (c7.length:Int) (fun (ret70v:LI)=>VCc93_k2 c0 c1 b c7 c8 K (ret66v.getD 0 0) (ret66v.getD 1 0) (ret66v.getD 2 0) (ret66v.getD 3 0) (ret66v.getD 4 0) (ret70v.getD 0 0) (ret70v.getD 1 0) (ret70v.getD 2 0) (ret70v.getD 3 0) (ret70v.getD 4 0)))))) [8,5,7,6,4,3,2,1,0] (⟨152,[e60_31,sp 4 4,sp 6 6,e60_70 c7,sp 38 70000,s1 43 (.own 70001),s1 46 (.own 46),e60_19],[e60_0,e60_2 c1 b,e60_80 c0 b,e60_1 c0 c1 c2 c3 c4 c5 c6,e60_33 c7,e60_23 c8]⟩:St) (fun h=>?_) (fun m1=>?_)
   ·refine awd_one (i:=9) (by kernel_rfl) ?_
    obtain ⟨o1,h⟩:=h
    refine dsq (ob:=roomN (c7.length+[(c0.getD (b).toNat z3).2.1].length)) (st':=⟨152,[e60_31,sp 4 4,sp 6 6,e60_70 c7,sp 38 70000,s1 47 (.own 47),e60_19],[e60_0,e60_2 c1 b,e60_14 c7 c0 b,hB 70000 [.p (.sl t3) c0,.p (.sl .bool) c1,.any,.own 70002,.pU c2,.pU c3,.pU c4,.pU c5,.pU c6],e60_23 c8]⟩) rfl (by kernel_rfl) o1 ?_
    refine qDT 3 [10,11,12] [12,11,10,9,8,5,7,6,4,3,2,1,0] ⟨152,[e60_31,sp 4 4,sp 6 6,e60_70 c7,s1 47 (.own 47),s1 50 (.ptr 70000 2),e60_19],[e60_0,e60_2 c1 b,e60_14 c7 c0 b,hB 70000 [.p (.sl t3) c0,.p (.sl .bool) c1,.any,.own 70002,.pU c2,.pU c3,.pU c4,.pU c5,.pU c6],e60_23 c8]⟩ (awd_one (i:=13) (by kernel_rfl) ?_)
    refine dsq (ob:=True) (st':=⟨152,[e60_31,sp 4 4,sp 6 6,e60_70 c7,e60_19],[e60_0,e60_2 c1 b,e60_14 c7 c0 b,hB 70000 [.p (.sl t3) c0,.p (.sl .bool) c1,.own 47,.own 70002,.pU c2,.pU c3,.pU c4,.pU c5,.pU c6],e60_23 c8]⟩) rfl (by kernel_rfl) trivial ?_
    refine awd_done (by kernel_rfl) ?_
    refine thenQ_n (sr (qA 13 8 4 ⟨152,[sp 4 4,sp 6 6,e60_70 c7,e60_19],[e60_0,e60_2 c1 b,e60_14 c7 c0 b,e60_11 c8,e60_10 c0 c1 c2 c3 c4 c5 c6]⟩ h fun h=>nn (withJoin (σ:=Int×Int×Int×Int×Int×Int×Int×Int×Int×Int) (fun s=>⟨152,[sp 4 4,sp 6 6,e60_19],[e60_0,hB 6 [.pU s.1,.pU s.2.1,.pU s.2.2.1,.pU s.2.2.2.1,.pU s.2.2.2.2.1,.pU s.2.2.2.2.2.1,.pU s.2.2.2.2.2.2.1,.pU s.2.2.2.2.2.2.2.1,.pU s.2.2.2.2.2.2.2.2.1,.pU s.2.2.2.2.2.2.2.2.2,.pB (c1.getD (b).toNat false)],e60_14 c7 c0 b,e60_11 c8,e60_10 c0 c1 c2 c3 c4 c5 c6]⟩) (fun s=>VCc93_k2 c0 c1 b c7 c8 K s.1 s.2.1 s.2.2.1 s.2.2.2.1 s.2.2.2.2.1 s.2.2.2.2.2.1 s.2.2.2.2.2.2.1 s.2.2.2.2.2.2.2.1 s.2.2.2.2.2.2.2.2.1 s.2.2.2.2.2.2.2.2.2) (fun s h=>?_) (fun rest2=>?_))))
    ·obtain ⟨out,out2,out3,out4,out5,out6,out7,out8,out9,out10⟩:=s
     have h:VCc93_k2 c0 c1 b c7 c8 K out out2 out3 out4 out5 out6 out7 out8 out9 out10:=h
     unfold VCc93_k2 at h
     exact rest1 (out,out2,out3,out4,out5,out6,out7,out8,out9,out10,(c7++[(c0.getD (b).toNat z3).2.1]),(c8++[[(0:Int),(0:Int),(0:Int),(0:Int),(0:Int)]])) h
    ·refine awd_begin [6] (by kernel_rfl) ?_
     refine qDT 4 [0,2,4,6] [6,4,2,0] ⟨152,[sp 4 4,sp 6 6,sp 63 6,e60_86 c7,s1 67 (.ptr 6 5),e60_66 c7,e60_19],[e60_0,e60_2 c1 b,e60_14 c7 c0 b,e60_11 c8,e60_10 c0 c1 c2 c3 c4 c5 c6]⟩ (awd_two (i:=1) (j:=5) (by kernel_rfl) ?_ ?_)
     ·have h:=h
      refine dsq (ob:=True) (st':=⟨152,[sp 4 4,sp 6 6,e60_69,e60_86 c7,s1 67 (.ptr 6 5),e60_66 c7,e60_19],[e60_0,e60_2 c1 b,e60_14 c7 c0 b,e60_11 c8,e60_10 c0 c1 c2 c3 c4 c5 c6]⟩) rfl (by kernel_rfl) trivial ?_
      refine awd_two (i:=3) (j:=5) (by kernel_rfl) ?_ ?_
      ·have h:=h
       refine dcq (d:=66) [.d (.ar 4 (.int .u64)),.d tI] (fun ret66v=>⟨152,[sp 4 4,sp 6 6,e60_21 ret66v,s1 67 (.ptr 6 5),e60_66 c7,e60_19],[e60_0,e60_2 c1 b,e60_14 c7 c0 b,e60_11 c8,e60_10 c0 c1 c2 c3 c4 c5 c6]⟩) rfl (by kernel_rfl) Try.call88 (fun _=>by kernel_rfl) (link88 [(0:Int),(0:Int),(0:Int),(0:Int),(0:Int)] (c7.length:Int) _ h) (fun ret66v h=>(awd_one (i:=5) (by kernel_rfl) ?_))
       refine dsq (ob:=True) (st':=⟨152,[sp 4 4,sp 6 6,e60_21 ret66v,e60_27,e60_66 c7,e60_19],[e60_0,e60_2 c1 b,e60_14 c7 c0 b,e60_11 c8,e60_10 c0 c1 c2 c3 c4 c5 c6]⟩) rfl (by kernel_rfl) trivial ?_
       refine qDT 1 [8] [8,5,3,1,6,4,2,0] ⟨152,[sp 4 4,sp 6 6,e60_21 ret66v,e60_27,e60_66 c7,sp 71 6,e60_19],[e60_0,e60_2 c1 b,e60_14 c7 c0 b,e60_11 c8,e60_10 c0 c1 c2 c3 c4 c5 c6]⟩ (awd_one (i:=7) (by kernel_rfl) ?_)
       refine dcq (d:=70) [.d (.ar 4 (.int .u64)),.d tI] (fun ret70v=>⟨152,[sp 4 4,sp 6 6,e60_21 ret66v,e60_22 ret70v,sp 71 6,e60_19],[e60_0,e60_2 c1 b,e60_14 c7 c0 b,e60_11 c8,e60_10 c0 c1 c2 c3 c4 c5 c6]⟩) rfl (by kernel_rfl) Try.call88 (fun _=>by kernel_rfl) (link88 [(0:Int),(0:Int),(0:Int),(0:Int),(0:Int)] (c7.length:Int) _ h) (fun ret70v h=>(awd_one (i:=9) (by kernel_rfl) ?_))
       refine dsq (ob:=True) (st':=⟨152,[sp 4 4,sp 6 6,e60_22 ret70v,e60_19],[e60_0,e60_18 ret66v c1 b,e60_14 c7 c0 b,e60_11 c8,e60_10 c0 c1 c2 c3 c4 c5 c6]⟩) rfl (by kernel_rfl) trivial ?_
       refine qDT 1 [10] [10,9,7,8,5,3,1,6,4,2,0] ⟨152,[sp 4 4,sp 6 6,e60_22 ret70v,s1 72 (.ptr 6 5),e60_19],[e60_0,e60_18 ret66v c1 b,e60_14 c7 c0 b,e60_11 c8,e60_10 c0 c1 c2 c3 c4 c5 c6]⟩ (awd_one (i:=11) (by kernel_rfl) ?_)
       refine dsq (ob:=True) (st':=⟨152,[sp 4 4,sp 6 6,e60_19],[e60_0,e60_25 ret66v ret70v c1 b,e60_14 c7 c0 b,e60_11 c8,e60_10 c0 c1 c2 c3 c4 c5 c6]⟩) rfl (by kernel_rfl) trivial ?_
       refine awd_done (by kernel_rfl) ?_
       exact rest2 (ahx0 ret66v ret70v) h
      ·have h:=h
       refine dsq (ob:=True) (st':=⟨152,[sp 4 4,sp 6 6,e60_69,e60_86 c7,e60_27,e60_66 c7,e60_19],[e60_0,e60_2 c1 b,e60_14 c7 c0 b,e60_11 c8,e60_10 c0 c1 c2 c3 c4 c5 c6]⟩) rfl (by kernel_rfl) trivial ?_
       refine awd_one (i:=3) (by kernel_rfl) ?_
       refine dcq (d:=66) [.d (.ar 4 (.int .u64)),.d tI] (fun ret66v=>⟨152,[sp 4 4,sp 6 6,e60_21 ret66v,e60_27,e60_66 c7,e60_19],[e60_0,e60_2 c1 b,e60_14 c7 c0 b,e60_11 c8,e60_10 c0 c1 c2 c3 c4 c5 c6]⟩) rfl (by kernel_rfl) Try.call88 (fun _=>by kernel_rfl) (link88 [(0:Int),(0:Int),(0:Int),(0:Int),(0:Int)] (c7.length:Int) _ h) (fun ret66v h=>(qDT 1 [8] [8,3,5,1,6,4,2,0] ⟨152,[sp 4 4,sp 6 6,e60_21 ret66v,e60_27,e60_66 c7,sp 71 6,e60_19],[e60_0,e60_2 c1 b,e60_14 c7 c0 b,e60_11 c8,e60_10 c0 c1 c2 c3 c4 c5 c6]⟩ (awd_one (i:=7) (by kernel_rfl) ?_)))
       refine dcq (d:=70) [.d (.ar 4 (.int .u64)),.d tI] (fun ret70v=>⟨152,[sp 4 4,sp 6 6,e60_21 ret66v,e60_22 ret70v,sp 71 6,e60_19],[e60_0,e60_2 c1 b,e60_14 c7 c0 b,e60_11 c8,e60_10 c0 c1 c2 c3 c4 c5 c6]⟩) rfl (by kernel_rfl) Try.call88 (fun _=>by kernel_rfl) (link88 [(0:Int),(0:Int),(0:Int),(0:Int),(0:Int)] (c7.length:Int) _ h) (fun ret70v h=>(awd_one (i:=9) (by kernel_rfl) ?_))
       refine dsq (ob:=True) (st':=⟨152,[sp 4 4,sp 6 6,e60_22 ret70v,e60_19],[e60_0,e60_18 ret66v c1 b,e60_14 c7 c0 b,e60_11 c8,e60_10 c0 c1 c2 c3 c4 c5 c6]⟩) rfl (by kernel_rfl) trivial ?_
       refine qDT 1 [10] [10,9,7,8,3,5,1,6,4,2,0] ⟨152,[sp 4 4,sp 6 6,e60_22 ret70v,s1 72 (.ptr 6 5),e60_19],[e60_0,e60_18 ret66v c1 b,e60_14 c7 c0 b,e60_11 c8,e60_10 c0 c1 c2 c3 c4 c5 c6]⟩ (awd_one (i:=11) (by kernel_rfl) ?_)
       refine dsq (ob:=True) (st':=⟨152,[sp 4 4,sp 6 6,e60_19],[e60_0,e60_25 ret66v ret70v c1 b,e60_14 c7 c0 b,e60_11 c8,e60_10 c0 c1 c2 c3 c4 c5 c6]⟩) rfl (by kernel_rfl) trivial ?_
       refine awd_done (by kernel_rfl) ?_
       exact rest2 (ahx0 ret66v ret70v) h
     ·have h:=h
      refine dsq (ob:=True) (st':=⟨152,[sp 4 4,sp 6 6,sp 63 6,e60_86 c7,e60_27,e60_66 c7,e60_19],[e60_0,e60_2 c1 b,e60_14 c7 c0 b,e60_11 c8,e60_10 c0 c1 c2 c3 c4 c5 c6]⟩) rfl (by kernel_rfl) trivial ?_
      refine awd_one (i:=1) (by kernel_rfl) ?_
      refine dsq (ob:=True) (st':=⟨152,[sp 4 4,sp 6 6,e60_69,e60_86 c7,e60_27,e60_66 c7,e60_19],[e60_0,e60_2 c1 b,e60_14 c7 c0 b,e60_11 c8,e60_10 c0 c1 c2 c3 c4 c5 c6]⟩) rfl (by kernel_rfl) trivial ?_
      refine awd_one (i:=3) (by kernel_rfl) ?_
      refine dcq (d:=66) [.d (.ar 4 (.int .u64)),.d tI] (fun ret66v=>⟨152,[sp 4 4,sp 6 6,e60_21 ret66v,e60_27,e60_66 c7,e60_19],[e60_0,e60_2 c1 b,e60_14 c7 c0 b,e60_11 c8,e60_10 c0 c1 c2 c3 c4 c5 c6]⟩) rfl (by kernel_rfl) Try.call88 (fun _=>by kernel_rfl) (link88 [(0:Int),(0:Int),(0:Int),(0:Int),(0:Int)] (c7.length:Int) _ h) (fun ret66v h=>(qDT 1 [8] [8,3,1,5,6,4,2,0] ⟨152,[sp 4 4,sp 6 6,e60_21 ret66v,e60_27,e60_66 c7,sp 71 6,e60_19],[e60_0,e60_2 c1 b,e60_14 c7 c0 b,e60_11 c8,e60_10 c0 c1 c2 c3 c4 c5 c6]⟩ (awd_one (i:=7) (by kernel_rfl) ?_)))
      refine dcq (d:=70) [.d (.ar 4 (.int .u64)),.d tI] (fun ret70v=>⟨152,[sp 4 4,sp 6 6,e60_21 ret66v,e60_22 ret70v,sp 71 6,e60_19],[e60_0,e60_2 c1 b,e60_14 c7 c0 b,e60_11 c8,e60_10 c0 c1 c2 c3 c4 c5 c6]⟩) rfl (by kernel_rfl) Try.call88 (fun _=>by kernel_rfl) (link88 [(0:Int),(0:Int),(0:Int),(0:Int),(0:Int)] (c7.length:Int) _ h) (fun ret70v h=>(awd_one (i:=9) (by kernel_rfl) ?_))
      refine dsq (ob:=True) (st':=⟨152,[sp 4 4,sp 6 6,e60_22 ret70v,e60_19],[e60_0,e60_18 ret66v c1 b,e60_14 c7 c0 b,e60_11 c8,e60_10 c0 c1 c2 c3 c4 c5 c6]⟩) rfl (by kernel_rfl) trivial ?_
      refine qDT 1 [10] [10,9,7,8,3,1,5,6,4,2,0] ⟨152,[sp 4 4,sp 6 6,e60_22 ret70v,s1 72 (.ptr 6 5),e60_19],[e60_0,e60_18 ret66v c1 b,e60_14 c7 c0 b,e60_11 c8,e60_10 c0 c1 c2 c3 c4 c5 c6]⟩ (awd_one (i:=11) (by kernel_rfl) ?_)
      refine dsq (ob:=True) (st':=⟨152,[sp 4 4,sp 6 6,e60_19],[e60_0,e60_25 ret66v ret70v c1 b,e60_14 c7 c0 b,e60_11 c8,e60_10 c0 c1 c2 c3 c4 c5 c6]⟩) rfl (by kernel_rfl) trivial ?_
      refine awd_done (by kernel_rfl) ?_
      exact rest2 (ahx0 ret66v ret70v) h
   ·refine qDT 7 [0,1,2,3,4,6,7] [7,6,4,3,2,1,0] ⟨152,[e60_31,sp 4 4,sp 6 6,e60_70 c7,sp 38 70000,s1 42 (.ptr 70000 2),sI 45 (ahx1 c0 b),e60_19],[e60_0,e60_2 c1 b,e60_1 c0 c1 c2 c3 c4 c5 c6,e60_33 c7,e60_23 c8]⟩ (awd_two (i:=5) (j:=8) (by kernel_rfl) ?_ ?_)
    ·have h:=h
     refine dsq (ob:=True) (st':=⟨152,[e60_31,sp 4 4,sp 6 6,e60_70 c7,sp 38 70000,s1 43 (.own 70001),sI 45 (ahx1 c0 b),e60_19],[e60_0,e60_2 c1 b,e60_1 c0 c1 c2 c3 c4 c5 c6,e60_33 c7,e60_23 c8]⟩) rfl (by kernel_rfl) trivial ?_
     refine awd_one (i:=8) (by kernel_rfl) ?_
     refine dsq (ob:=True) (st':=⟨152,[e60_31,sp 4 4,sp 6 6,e60_70 c7,sp 38 70000,s1 43 (.own 70001),s1 46 (.own 46),e60_19],[e60_0,e60_2 c1 b,e60_80 c0 b,e60_1 c0 c1 c2 c3 c4 c5 c6,e60_33 c7,e60_23 c8]⟩) rfl (by kernel_rfl) trivial ?_
     exact m1 h
    ·have h:=h
     refine dsq (ob:=True) (st':=⟨152,[e60_31,sp 4 4,sp 6 6,e60_70 c7,sp 38 70000,s1 42 (.ptr 70000 2),s1 46 (.own 46),e60_19],[e60_0,e60_2 c1 b,e60_80 c0 b,e60_1 c0 c1 c2 c3 c4 c5 c6,e60_33 c7,e60_23 c8]⟩) rfl (by kernel_rfl) trivial ?_
     refine awd_one (i:=5) (by kernel_rfl) ?_
     refine dsq (ob:=True) (st':=⟨152,[e60_31,sp 4 4,sp 6 6,e60_70 c7,sp 38 70000,s1 43 (.own 70001),s1 46 (.own 46),e60_19],[e60_0,e60_2 c1 b,e60_80 c0 b,e60_1 c0 c1 c2 c3 c4 c5 c6,e60_33 c7,e60_23 c8]⟩) rfl (by kernel_rfl) trivial ?_
     refine awd_perm [8,5,7,6,4,3,2,1,0] (by kernel_rfl) (by kernel_rfl) ?_
     exact m1 h
  ·refine qS 2 ⟨152,[e60_31,sp 4 4,sp 5 5,sp 6 6,sI 29 ((c0.getD (b).toNat z3).1),sB 73 (decide ((c0.getD (b).toNat z3).1=(4:Int))),e60_19],[e60_0,e60_13 c0 b,e60_2 c1 b,e60_1 c0 c1 c2 c3 c4 c5 c6,e60_33 c7,e60_23 c8]⟩ (withJoin (σ:=Int×Int×Int×Int×Int×Int×Int×Int×Int×Int×LI×LL) (fun s=>⟨152,[sp 4 4,sp 6 6,e60_19],[e60_0,hB 6 [.pU s.1,.pU s.2.1,.pU s.2.2.1,.pU s.2.2.2.1,.pU s.2.2.2.2.1,.pU s.2.2.2.2.2.1,.pU s.2.2.2.2.2.2.1,.pU s.2.2.2.2.2.2.2.1,.pU s.2.2.2.2.2.2.2.2.1,.pU s.2.2.2.2.2.2.2.2.2.1,.pB (c1.getD (b).toNat false)],hA 47 3 tI s.2.2.2.2.2.2.2.2.2.2.1,hA 59 114 (.ar 4 (.int .u64)) s.2.2.2.2.2.2.2.2.2.2.2,e60_10 c0 c1 c2 c3 c4 c5 c6]⟩) (fun s=>VCc93_k3 c1 b K s.1 s.2.1 s.2.2.1 s.2.2.2.1 s.2.2.2.2.1 s.2.2.2.2.2.1 s.2.2.2.2.2.2.1 s.2.2.2.2.2.2.2.1 s.2.2.2.2.2.2.2.2.1 s.2.2.2.2.2.2.2.2.2.1 s.2.2.2.2.2.2.2.2.2.2.1 s.2.2.2.2.2.2.2.2.2.2.2) (fun s h=>?_) (fun rest3=>?_))
   ·obtain ⟨out,out2,out3,out4,out5,out6,out7,out8,out9,out10,l70001,l70002⟩:=s
    have h:VCc93_k3 c1 b K out out2 out3 out4 out5 out6 out7 out8 out9 out10 l70001 l70002:=h
    unfold VCc93_k3 at h
    exact rest1 (out,out2,out3,out4,out5,out6,out7,out8,out9,out10,l70001,l70002) h
   ·refine qI h (fun h=>?_) fun h=>?_
    ·refine sr (qT 3 ⟨152,[e60_31,sp 4 4,sp 5 5,sp 6 6,sp 75 70000,sI 77 (ahx1 c0 b),e60_19],[e60_0,e60_13 c0 b,e60_2 c1 b,e60_1 c0 c1 c2 c3 c4 c5 c6,e60_33 c7,e60_23 c8]⟩ (awl_lcall (σ:=Lqc×LI×LL) [70000,70001,70002] [70000] [.c (.ptr 70000 0),.c (.pI (ahx1 c0 b))] [] (fun ret78v=>.v (.agg [.pU (ret78v.1.1.getD 0 0),.pU (ret78v.1.1.getD 1 0),.pU (ret78v.1.1.getD 2 0),.pU (ret78v.1.1.getD 3 0),.pU (ret78v.1.1.getD 4 0),.pU (ret78v.1.2.1.getD 0 0),.pU (ret78v.1.2.1.getD 1 0),.pU (ret78v.1.2.1.getD 2 0),.pU (ret78v.1.2.1.getD 3 0),.pU (ret78v.1.2.1.getD 4 0),.pB ret78v.1.2.2])) (fun ret78v=>[e60_1 c0 c1 c2 c3 c4 c5 c6,e60_72 ret78v,e60_68 ret78v]) (_) [e60_1 c0 c1 c2 c3 c4 c5 c6,e60_33 c7,e60_23 c8] (fun ret78v=>⟨152,[e60_39 ret78v,e60_31,sp 4 4,sp 5 5,sp 6 6,sp 75 70000,sI 77 (ahx1 c0 b),e60_19],[e60_1 c0 c1 c2 c3 c4 c5 c6,e60_72 ret78v,e60_68 ret78v,e60_0,e60_13 c0 b,e60_2 c1 b]⟩) rfl rfl (by kernel_rfl) rfl (by kernel_rfl) Try.call93 (by kernel_rfl) (by kernel_rfl) (by kernel_rfl) (fun _ _=>rfl) (fun _=>by kernel_rfl) (hR (ahx1 c0 b) c7 c8 _ h) (fun ret78v h=>?_)))
     refine qL ⟨152,[e60_31,sp 4 4,sp 5 5,sp 6 6,e60_39 ret78v,e60_19],[e60_0,e60_13 c0 b,e60_2 c1 b,e60_1 c0 c1 c2 c3 c4 c5 c6,e60_72 ret78v,e60_68 ret78v]⟩ (qT 2 ⟨152,[e60_31,sp 4 4,sp 5 5,sp 6 6,sp 8 8,e60_19],[e60_0,e60_13 c0 b,e60_2 c1 b,e60_12 ret78v,e60_1 c0 c1 c2 c3 c4 c5 c6,e60_72 ret78v,e60_68 ret78v]⟩ (nsr (qT 3 ⟨152,[e60_31,sp 4 4,sp 6 6,sp 8 8,sp 79 70000,sI 81 (ahx2 c0 b),e60_19],[e60_0,e60_2 c1 b,e60_12 ret78v,e60_1 c0 c1 c2 c3 c4 c5 c6,e60_72 ret78v,e60_68 ret78v]⟩ (awl_lcall (σ:=Lqc×LI×LL) [70000,70001,70002] [70000] [.c (.ptr 70000 0),.c (.pI (ahx2 c0 b))] [] (fun ret82v=>.v (.agg [.pU (ret82v.1.1.getD 0 0),.pU (ret82v.1.1.getD 1 0),.pU (ret82v.1.1.getD 2 0),.pU (ret82v.1.1.getD 3 0),.pU (ret82v.1.1.getD 4 0),.pU (ret82v.1.2.1.getD 0 0),.pU (ret82v.1.2.1.getD 1 0),.pU (ret82v.1.2.1.getD 2 0),.pU (ret82v.1.2.1.getD 3 0),.pU (ret82v.1.2.1.getD 4 0),.pB ret82v.1.2.2])) (fun ret82v=>[e60_1 c0 c1 c2 c3 c4 c5 c6,e60_20 ret82v,e60_56 ret82v]) (_) [e60_1 c0 c1 c2 c3 c4 c5 c6,e60_72 ret78v,e60_68 ret78v] (fun ret82v=>⟨152,[e60_40 ret82v,e60_31,sp 4 4,sp 6 6,sp 8 8,sp 79 70000,sI 81 (ahx2 c0 b),e60_19],[e60_1 c0 c1 c2 c3 c4 c5 c6,e60_20 ret82v,e60_56 ret82v,e60_0,e60_2 c1 b,e60_12 ret78v]⟩) rfl rfl (by kernel_rfl) rfl (by kernel_rfl) Try.call93 (by kernel_rfl) (by kernel_rfl) (by kernel_rfl) (fun _ _=>rfl) (fun _=>by kernel_rfl) (hR (ahx2 c0 b) ret78v.2.1 ret78v.2.2 _ h) (fun ret82v h=>?_)))))
     refine qL ⟨152,[e60_31,sp 4 4,sp 6 6,sp 8 8,e60_40 ret82v,e60_19],[e60_0,e60_2 c1 b,e60_12 ret78v,e60_1 c0 c1 c2 c3 c4 c5 c6,e60_20 ret82v,e60_56 ret82v]⟩ (qT 2 ⟨152,[e60_31,sp 4 4,sp 6 6,sp 8 8,sp 9 9,e60_19],[e60_0,e60_2 c1 b,e60_12 ret78v,e60_41 ret82v,e60_1 c0 c1 c2 c3 c4 c5 c6,e60_20 ret82v,e60_56 ret82v]⟩ (nsr (qT 5 ⟨152,[sp 4 4,sp 6 6,sp 8 8,sp 9 9,sp 83 70000,e60_61 ret78v,e60_64 ret82v,e60_19],[e60_0,e60_2 c1 b,e60_12 ret78v,e60_41 ret82v,e60_1 c0 c1 c2 c3 c4 c5 c6,e60_20 ret82v,e60_56 ret82v]⟩ (qW [.ren 4 30000,.ren 6 30001,.ren 8 30002,.ren 9 30003] ⟨152,[e60_81,e60_82,e60_84,e60_85,sp 83 70000,e60_61 ret78v,e60_64 ret82v,e60_19],[e60_6,e60_8 c1 b,e60_3 ret78v,e60_4 ret82v,e60_1 c0 c1 c2 c3 c4 c5 c6,e60_20 ret82v,e60_56 ret82v]⟩ (awl_inlr [] [30000,30001,30002,30003,70000,70001,70002] [.c (.ptr 70000 0),.agg [.pU (ret78v.1.2.1.getD 0 0),.pU (ret78v.1.2.1.getD 1 0),.pU (ret78v.1.2.1.getD 2 0),.pU (ret78v.1.2.1.getD 3 0),.pU (ret78v.1.2.1.getD 4 0)],.agg [.pU (ret82v.1.1.getD 0 0),.pU (ret82v.1.1.getD 1 0),.pU (ret82v.1.1.getD 2 0),.pU (ret82v.1.1.getD 3 0),.pU (ret82v.1.1.getD 4 0)]] [] rfl rfl (by kernel_rfl) rfl (by kernel_rfl) Try.call103 (by kernel_rfl) (by kernel_rfl) Try.func103 rfl rfl (by kernel_rfl) ?_)))))
     refine qV [] ⟨37,[e60_31,sA 1 [.pU (ret78v.1.2.1.getD 0 0),.pU (ret78v.1.2.1.getD 1 0),.pU (ret78v.1.2.1.getD 2 0),.pU (ret78v.1.2.1.getD 3 0),.pU (ret78v.1.2.1.getD 4 0)],sA 2 [.pU (ret82v.1.1.getD 0 0),.pU (ret82v.1.1.getD 1 0),.pU (ret82v.1.1.getD 2 0),.pU (ret82v.1.1.getD 3 0),.pU (ret82v.1.1.getD 4 0)],e60_73,e60_74,e60_75,e60_76,sp 120 70000,sA 122 [.pU (ret78v.1.2.1.getD 0 0),.pU (ret78v.1.2.1.getD 1 0),.pU (ret78v.1.2.1.getD 2 0),.pU (ret78v.1.2.1.getD 3 0),.pU (ret78v.1.2.1.getD 4 0)],sA 124 [.pU (ret82v.1.1.getD 0 0),.pU (ret82v.1.1.getD 1 0),.pU (ret82v.1.1.getD 2 0),.pU (ret82v.1.1.getD 3 0),.pU (ret82v.1.1.getD 4 0)],e60_54],[e60_6,e60_8 c1 b,e60_3 ret78v,e60_4 ret82v,e60_1 c0 c1 c2 c3 c4 c5 c6,e60_20 ret82v,e60_56 ret82v]⟩ (sr (qT 2 ⟨37,[e60_31,sp 4 4,sp 5 5,e60_73,e60_74,e60_75,e60_76,e60_54],[e60_30 ret78v,e60_34 ret82v,e60_6,e60_8 c1 b,e60_3 ret78v,e60_4 ret82v,e60_1 c0 c1 c2 c3 c4 c5 c6,e60_20 ret82v,e60_56 ret82v]⟩ (nsr (qT 7 ⟨37,[e60_31,sp 4 4,sp 5 5,e60_53 ret82v,sI 13 (0:Int),e60_73,e60_74,e60_75,e60_76,e60_54],[e60_30 ret78v,e60_34 ret82v,e60_6,e60_8 c1 b,e60_3 ret78v,e60_4 ret82v,e60_1 c0 c1 c2 c3 c4 c5 c6,e60_20 ret82v,e60_56 ret82v]⟩ (nn (withJoin (σ:=LL) (fun s=>⟨37,[e60_73,e60_74,e60_75,e60_76,e60_54],[e60_6,e60_8 c1 b,e60_3 ret78v,e60_4 ret82v,e60_1 c0 c1 c2 c3 c4 c5 c6,e60_20 ret82v,hA 70002 114 (.ar 4 (.int .u64)) s]⟩) (fun s=>VCc93_k4 c1 b K ret78v ret82v s) (fun l70002 h=>?_) (fun rest6=>?_)))))))
     ·have h:VCc93_k4 c1 b K ret78v ret82v l70002:=h
      unfold VCc93_k4 at h
      refine inlR_n (ob:=True) (.tup []) (by kernel_rfl) trivial rfl ?_
      refine qL ⟨152,[e60_81,e60_82,e60_84,e60_85,e60_19],[e60_6,e60_8 c1 b,e60_3 ret78v,e60_4 ret82v,e60_1 c0 c1 c2 c3 c4 c5 c6,e60_20 ret82v,e60_17 l70002]⟩ (nn (aw_seq (awd_begin [30001] (by kernel_rfl) ?_)))
      refine qDT 5 [0,1,2,3,4] [4,3,2,1,0] ⟨152,[e60_81,e60_82,e60_84,e60_85,sA 90 [.pU (ret78v.1.1.getD 0 0),.pU (ret78v.1.1.getD 1 0),.pU (ret78v.1.1.getD 2 0),.pU (ret78v.1.1.getD 3 0),.pU (ret78v.1.1.getD 4 0)],e60_51 ret82v,sp 93 30001,e60_19],[e60_6,e60_8 c1 b,e60_3 ret78v,e60_4 ret82v,e60_1 c0 c1 c2 c3 c4 c5 c6,e60_20 ret82v,e60_17 l70002]⟩ (awd_one (i:=5) (by kernel_rfl) ?_)
      refine dsq (ob:=True) (st':=⟨152,[e60_81,e60_82,e60_84,e60_85,e60_51 ret82v,e60_19],[e60_6,e60_44 ret78v c1 b,e60_3 ret78v,e60_4 ret82v,e60_1 c0 c1 c2 c3 c4 c5 c6,e60_20 ret82v,e60_17 l70002]⟩) rfl (by kernel_rfl) trivial ?_
      refine qDT 1 [6] [6,5,4,3,2,1,0] ⟨152,[e60_81,e60_82,e60_84,e60_85,e60_51 ret82v,s1 94 (.ptr 30001 5),e60_19],[e60_6,e60_44 ret78v c1 b,e60_3 ret78v,e60_4 ret82v,e60_1 c0 c1 c2 c3 c4 c5 c6,e60_20 ret82v,e60_17 l70002]⟩ (awd_one (i:=7) (by kernel_rfl) ?_)
      refine dsq (ob:=True) (st':=⟨152,[e60_81,e60_82,e60_84,e60_85,e60_19],[e60_6,e60_15 ret78v ret82v c1 b,e60_3 ret78v,e60_4 ret82v,e60_1 c0 c1 c2 c3 c4 c5 c6,e60_20 ret82v,e60_17 l70002]⟩) rfl (by kernel_rfl) trivial ?_
      refine awd_done (by kernel_rfl) ?_
      refine thenQ_n (aw_seq (qS 2 ⟨152,[e60_81,e60_82,e60_84,e60_85,sB 96 ret78v.1.2.2,e60_19],[e60_6,e60_15 ret78v ret82v c1 b,e60_3 ret78v,e60_4 ret82v,e60_1 c0 c1 c2 c3 c4 c5 c6,e60_20 ret82v,e60_17 l70002]⟩ (withJoin (σ:=Int×Int×Int×Int×Int) (fun s=>⟨152,[e60_81,e60_82,e60_84,e60_85,e60_19],[e60_6,hB 30001 [.pU s.1,.pU s.2.1,.pU s.2.2.1,.pU s.2.2.2.1,.pU s.2.2.2.2,.pU (ret82v.1.2.1.getD 0 0),.pU (ret82v.1.2.1.getD 1 0),.pU (ret82v.1.2.1.getD 2 0),.pU (ret82v.1.2.1.getD 3 0),.pU (ret82v.1.2.1.getD 4 0),.pB (c1.getD (b).toNat false)],e60_3 ret78v,e60_4 ret82v,e60_1 c0 c1 c2 c3 c4 c5 c6,e60_20 ret82v,e60_17 l70002]⟩) (fun s=>VCc93_k5 c1 b K ret78v ret82v l70002 s.1 s.2.1 s.2.2.1 s.2.2.2.1 s.2.2.2.2) (fun s h=>?_) (fun rest5=>?_))))
      ·obtain ⟨out,out2,out3,out4,out5⟩:=s
       have h:VCc93_k5 c1 b K ret78v ret82v l70002 out out2 out3 out4 out5:=h
       unfold VCc93_k5 at h
       refine thenQ_n (qS 2 ⟨152,[e60_81,e60_82,e60_84,sB 104 ret82v.1.2.2,e60_19],[e60_6,e60_28 out out2 out3 out4 out5 ret82v c1 b,e60_3 ret78v,e60_1 c0 c1 c2 c3 c4 c5 c6,e60_20 ret82v,e60_17 l70002]⟩ (withJoin (σ:=Int×Int×Int×Int×Int) (fun s=>⟨152,[sp 4 4,sp 6 6,e60_19],[e60_0,hB 6 [.pU out,.pU out2,.pU out3,.pU out4,.pU out5,.pU s.1,.pU s.2.1,.pU s.2.2.1,.pU s.2.2.2.1,.pU s.2.2.2.2,.pB (c1.getD (b).toNat false)],hA 47 3 tI ret82v.2.1,e60_83 l70002,e60_10 c0 c1 c2 c3 c4 c5 c6]⟩) (fun s=>VCc93_k6 c1 b K ret82v l70002 out out2 out3 out4 out5 s.1 s.2.1 s.2.2.1 s.2.2.2.1 s.2.2.2.2) (fun s h=>?_) (fun rest4=>?_)))
       ·obtain ⟨out6,out7,out8,out9,out10⟩:=s
        have h:VCc93_k6 c1 b K ret82v l70002 out out2 out3 out4 out5 out6 out7 out8 out9 out10:=h
        unfold VCc93_k6 at h
        exact rest3 (out,out2,out3,out4,out5,out6,out7,out8,out9,out10,ret82v.2.1,l70002) h
       ·refine qI h (fun h=>?_) fun h=>?_
        ·refine aw_region (qT 4 ⟨152,[e60_81,e60_82,sA 106 [.pU (ret82v.1.2.1.getD 0 0),.pU (ret82v.1.2.1.getD 1 0),.pU (ret82v.1.2.1.getD 2 0),.pU (ret82v.1.2.1.getD 3 0),.pU (ret82v.1.2.1.getD 4 0)],sA 108 [.pU (ret78v.1.2.1.getD 0 0),.pU (ret78v.1.2.1.getD 1 0),.pU (ret78v.1.2.1.getD 2 0),.pU (ret78v.1.2.1.getD 3 0),.pU (ret78v.1.2.1.getD 4 0)],e60_19],[e60_6,e60_28 out out2 out3 out4 out5 ret82v c1 b,e60_1 c0 c1 c2 c3 c4 c5 c6,e60_20 ret82v,e60_17 l70002]⟩ (qK 109 [.d (.ar 4 (.int .u64)),.d (.ar 4 (.int .u64))] (fun ret109v=>⟨152,[e60_81,e60_82,sA 109 [.pU (ret109v.getD 0 0),.pU (ret109v.getD 1 0),.pU (ret109v.getD 2 0),.pU (ret109v.getD 3 0),.pU (ret109v.getD 4 0)],e60_19],[e60_6,e60_28 out out2 out3 out4 out5 ret82v c1 b,e60_1 c0 c1 c2 c3 c4 c5 c6,e60_20 ret82v,e60_17 l70002]⟩) Try.call102 (link102 (a5 ret82v.1.2.1) (a5 ret78v.1.2.1) _ h) fun ret109v h=>?_))
         exact qT 2 ⟨152,[e60_81,e60_82,e60_19],[e60_6,hB 30001 [.pU out,.pU out2,.pU out3,.pU out4,.pU out5,.pU (ret109v.getD 0 0),.pU (ret109v.getD 1 0),.pU (ret109v.getD 2 0),.pU (ret109v.getD 3 0),.pU (ret109v.getD 4 0),.pB (c1.getD (b).toNat false)],e60_1 c0 c1 c2 c3 c4 c5 c6,e60_20 ret82v,e60_17 l70002]⟩ (qW [.ren 30000 50000,.ren 30001 50001,.ren 70001 90001,.ren 70002 90002,.ren 50000 4,.ren 50001 6,.ren 90001 47,.ren 90002 59,.prune [4,6,152] e60_n1] ⟨152,[sp 4 4,sp 6 6,e60_19],[e60_0,hB 6 [.pU out,.pU out2,.pU out3,.pU out4,.pU out5,.pU (ret109v.getD 0 0),.pU (ret109v.getD 1 0),.pU (ret109v.getD 2 0),.pU (ret109v.getD 3 0),.pU (ret109v.getD 4 0),.pB (c1.getD (b).toNat false)],hA 47 3 tI ret82v.2.1,e60_83 l70002,e60_10 c0 c1 c2 c3 c4 c5 c6]⟩ (awl_nil (rest4 ((ret109v.getD 0 0),(ret109v.getD 1 0),(ret109v.getD 2 0),(ret109v.getD 3 0),(ret109v.getD 4 0)) h)))
        ·exact qV [.prune [4,6,152] [30000,30001,70000,70001,70002],.ren 30000 50000,.ren 30001 50001,.ren 70001 90001,.ren 70002 90002,.ren 50000 4,.ren 50001 6,.ren 90001 47,.ren 90002 59,.prune [4,6,152] e60_n1] ⟨152,[sp 4 4,sp 6 6,e60_19],[e60_0,hB 6 [.pU out,.pU out2,.pU out3,.pU out4,.pU out5,.pU (ret82v.1.2.1.getD 0 0),.pU (ret82v.1.2.1.getD 1 0),.pU (ret82v.1.2.1.getD 2 0),.pU (ret82v.1.2.1.getD 3 0),.pU (ret82v.1.2.1.getD 4 0),.pB (c1.getD (b).toNat false)],hA 47 3 tI ret82v.2.1,e60_83 l70002,e60_10 c0 c1 c2 c3 c4 c5 c6]⟩ (aw_skip (rest4 ((ret82v.1.2.1.getD 0 0),(ret82v.1.2.1.getD 1 0),(ret82v.1.2.1.getD 2 0),(ret82v.1.2.1.getD 3 0),(ret82v.1.2.1.getD 4 0)) h))
      ·refine qI h (fun h=>?_) fun h=>?_
       ·refine aw_region (qT 4 ⟨152,[e60_81,e60_82,e60_84,e60_85,sA 98 [.pU (ret78v.1.1.getD 0 0),.pU (ret78v.1.1.getD 1 0),.pU (ret78v.1.1.getD 2 0),.pU (ret78v.1.1.getD 3 0),.pU (ret78v.1.1.getD 4 0)],sA 100 [.pU (ret82v.1.1.getD 0 0),.pU (ret82v.1.1.getD 1 0),.pU (ret82v.1.1.getD 2 0),.pU (ret82v.1.1.getD 3 0),.pU (ret82v.1.1.getD 4 0)],e60_19],[e60_6,e60_15 ret78v ret82v c1 b,e60_3 ret78v,e60_4 ret82v,e60_1 c0 c1 c2 c3 c4 c5 c6,e60_20 ret82v,e60_17 l70002]⟩ (qK 101 [.d (.ar 4 (.int .u64)),.d (.ar 4 (.int .u64))] (fun ret101v=>⟨152,[e60_81,e60_82,e60_84,e60_85,sA 101 [.pU (ret101v.getD 0 0),.pU (ret101v.getD 1 0),.pU (ret101v.getD 2 0),.pU (ret101v.getD 3 0),.pU (ret101v.getD 4 0)],e60_19],[e60_6,e60_15 ret78v ret82v c1 b,e60_3 ret78v,e60_4 ret82v,e60_1 c0 c1 c2 c3 c4 c5 c6,e60_20 ret82v,e60_17 l70002]⟩) Try.call102 (link102 (a5 ret78v.1.1) (a5 ret82v.1.1) _ h) fun ret101v h=>?_))
        exact qT 2 ⟨152,[e60_81,e60_82,e60_84,e60_85,e60_19],[e60_6,hB 30001 [.pU (ret101v.getD 0 0),.pU (ret101v.getD 1 0),.pU (ret101v.getD 2 0),.pU (ret101v.getD 3 0),.pU (ret101v.getD 4 0),.pU (ret82v.1.2.1.getD 0 0),.pU (ret82v.1.2.1.getD 1 0),.pU (ret82v.1.2.1.getD 2 0),.pU (ret82v.1.2.1.getD 3 0),.pU (ret82v.1.2.1.getD 4 0),.pB (c1.getD (b).toNat false)],e60_3 ret78v,e60_4 ret82v,e60_1 c0 c1 c2 c3 c4 c5 c6,e60_20 ret82v,e60_17 l70002]⟩ (awl_nil (rest5 ((ret101v.getD 0 0),(ret101v.getD 1 0),(ret101v.getD 2 0),(ret101v.getD 3 0),(ret101v.getD 4 0)) h))
       ·exact qC ⟨152,[e60_81,e60_82,e60_84,e60_85,e60_19],[e60_6,e60_15 ret78v ret82v c1 b,e60_3 ret78v,e60_4 ret82v,e60_1 c0 c1 c2 c3 c4 c5 c6,e60_20 ret82v,e60_17 l70002]⟩ (aw_skip (rest5 ((ret78v.1.1.getD 0 0),(ret78v.1.1.getD 1 0),(ret78v.1.1.getD 2 0),(ret78v.1.1.getD 3 0),(ret78v.1.1.getD 4 0)) h))
     ·refine aw_block (aw_loop (σ:=Int×LL) (fun s=>⟨37,[e60_31,sp 4 4,sp 5 5,e60_53 ret82v,sI 13 s.1,e60_73,e60_74,e60_75,e60_76,e60_54],[e60_30 ret78v,e60_34 ret82v,e60_6,e60_8 c1 b,e60_3 ret78v,e60_4 ret82v,e60_1 c0 c1 c2 c3 c4 c5 c6,e60_20 ret82v,hA 70002 114 (.ar 4 (.int .u64)) s.2]⟩) (fun s X=>VCc93_l1 c1 b K ret78v ret82v s.1 s.2 X) (s0:=((0:Int),ret82v.2.2)) (fun s X1 h=>?_) h)
      obtain ⟨v13,l70002⟩:=s
      have h:VCc93_l1 c1 b K ret78v ret82v v13 l70002 X1:=h
      unfold VCc93_l1 at h
      refine qS 1 ⟨37,[e60_31,sp 4 4,sp 5 5,e60_53 ret82v,sI 13 v13,sB 14 (decide (v13<(ret82v.2.1.length:Int))),e60_73,e60_74,e60_75,e60_76,e60_54],[e60_30 ret78v,e60_34 ret82v,e60_6,e60_8 c1 b,e60_3 ret78v,e60_4 ret82v,e60_1 c0 c1 c2 c3 c4 c5 c6,e60_20 ret82v,e60_17 l70002]⟩ (aw_seq (qI h (fun h=>?_) fun h=>?_))
      ·refine aw_skip (thenQ_n (aw_seq (aw_block (sr (qT 2 ⟨37,[e60_31,sp 4 4,sp 5 5,sI 6 v13,e60_53 ret82v,sI 13 v13,e60_73,e60_74,e60_75,e60_76,e60_54],[e60_30 ret78v,e60_34 ret82v,e60_6,e60_8 c1 b,e60_3 ret78v,e60_4 ret82v,e60_1 c0 c1 c2 c3 c4 c5 c6,e60_20 ret82v,e60_17 l70002]⟩ (nsr (qT 2 ⟨37,[e60_31,sp 4 4,sp 5 5,sI 6 v13,e60_53 ret82v,sI 13 v13,sA 16 [.pU (ret78v.1.2.1.getD 0 0),.pU (ret78v.1.2.1.getD 1 0),.pU (ret78v.1.2.1.getD 2 0),.pU (ret78v.1.2.1.getD 3 0),.pU (ret78v.1.2.1.getD 4 0)],sI 17 v13,e60_73,e60_74,e60_75,e60_76,e60_54],[e60_30 ret78v,e60_34 ret82v,e60_6,e60_8 c1 b,e60_3 ret78v,e60_4 ret82v,e60_1 c0 c1 c2 c3 c4 c5 c6,e60_20 ret82v,e60_17 l70002]⟩ (qK 18 [.d (.ar 4 (.int .u64)),.d tI] (fun ret18v=>⟨37,[e60_31,sp 4 4,sp 5 5,sI 6 v13,e60_53 ret82v,sI 13 v13,sB 18 ret18v,e60_73,e60_74,e60_75,e60_76,e60_54],[e60_30 ret78v,e60_34 ret82v,e60_6,e60_8 c1 b,e60_3 ret78v,e60_4 ret82v,e60_1 c0 c1 c2 c3 c4 c5 c6,e60_20 ret82v,e60_17 l70002]⟩) Try.call61 (link61 (a5 ret78v.1.2.1) v13 _ h) fun ret18v h=>?_))))))))
       refine nn (withJoin (σ:=LL) (fun s=>⟨37,[e60_31,sp 4 4,sp 5 5,e60_53 ret82v,sI 13 v13,e60_73,e60_74,e60_75,e60_76,e60_54],[e60_30 ret78v,e60_34 ret82v,e60_6,e60_8 c1 b,e60_3 ret78v,e60_4 ret82v,e60_1 c0 c1 c2 c3 c4 c5 c6,e60_20 ret82v,hA 70002 114 (.ar 4 (.int .u64)) s]⟩) (fun s=>VCc93_k7 v13 X1 s) (fun l700022 h=>?_) (fun rest7=>?_))
       ·have h:VCc93_k7 v13 X1 l700022:=h
        unfold VCc93_k7 at h
        exact blockQ_n (thenQ_n (aw_region (qA 2 0 1 ⟨37,[e60_31,sp 4 4,sp 5 5,e60_53 ret82v,sI 13 (v13+(1:Int)),e60_73,e60_74,e60_75,e60_76,e60_54],[e60_30 ret78v,e60_34 ret82v,e60_6,e60_8 c1 b,e60_3 ret78v,e60_4 ret82v,e60_1 c0 c1 c2 c3 c4 c5 c6,e60_20 ret82v,hA 70002 114 (.ar 4 (.int .u64)) l700022]⟩ h fun h=>awl_nil (thenQ_n ⟨((v13+(1:Int)),l700022),rfl,h⟩))))
       ·refine qI h (fun h=>?_) fun h=>?_
        ·refine awd_begin [70002] (by kernel_rfl) ?_
         obtain ⟨o1,h⟩:=h
         refine qDO 12 1 e60_n2 e60_n3 ⟨37,[e60_31,sp 4 4,sp 5 5,e60_53 ret82v,sI 13 v13,e60_87,sI 24 v13,s1 31 (.el 70002 ((v13).toNat) 5),e60_65 ret82v,e60_73,e60_74,e60_75,e60_76,e60_54],[e60_30 ret78v,e60_34 ret82v,e60_6,e60_8 c1 b,e60_3 ret78v,e60_4 ret82v,e60_1 c0 c1 c2 c3 c4 c5 c6,e60_20 ret82v,e60_17 l70002]⟩ o1 (awd_one (i:=13) (by kernel_rfl) ?_)
         refine dsq (ob:=True) (st':=⟨37,[e60_31,sp 4 4,sp 5 5,e60_53 ret82v,sI 13 v13,e60_87,sI 24 v13,e60_26 l70002 v13,e60_65 ret82v,e60_73,e60_74,e60_75,e60_76,e60_54],[e60_30 ret78v,e60_34 ret82v,e60_6,e60_8 c1 b,e60_3 ret78v,e60_4 ret82v,e60_1 c0 c1 c2 c3 c4 c5 c6,e60_20 ret82v,e60_17 l70002]⟩) rfl (by kernel_rfl) trivial ?_
         refine awd_one (i:=15) (by kernel_rfl) ?_
         refine dcq (d:=34) [.d (.ar 4 (.int .u64)),.d (.ar 4 (.int .u64))] (fun ret34v=>⟨37,[e60_31,sp 4 4,sp 5 5,e60_53 ret82v,sI 13 v13,e60_87,sI 24 v13,e60_45 ret34v,e60_73,e60_74,e60_75,e60_76,e60_54],[e60_30 ret78v,e60_34 ret82v,e60_6,e60_8 c1 b,e60_3 ret78v,e60_4 ret82v,e60_1 c0 c1 c2 c3 c4 c5 c6,e60_20 ret82v,e60_17 l70002]⟩) rfl (by kernel_rfl) Try.call102 (fun _=>by kernel_rfl) (link102 (a5 (l70002.getD ((v13).toNat) (List.replicate 5 (0:Int)))) (a5 ret82v.1.1) _ h) (fun ret34v h=>?_)
         obtain ⟨o1,h⟩:=h
         refine qD [16] e60_n0 ⟨37,[e60_31,sp 4 4,sp 5 5,e60_53 ret82v,sI 13 v13,e60_45 ret34v,s1 35 (.el 70002 ((v13).toNat) 5),e60_73,e60_74,e60_75,e60_76,e60_54],[e60_30 ret78v,e60_34 ret82v,e60_6,e60_8 c1 b,e60_3 ret78v,e60_4 ret82v,e60_1 c0 c1 c2 c3 c4 c5 c6,e60_20 ret82v,e60_17 l70002]⟩ (ob:=inIdx v13 l70002.length∧True) (⟨o1,trivial⟩) ?_
         refine awd_one (i:=17) (by kernel_rfl) ?_
         refine dsq (ob:=True) (st':=⟨37,[e60_31,sp 4 4,sp 5 5,e60_53 ret82v,sI 13 v13,e60_73,e60_74,e60_75,e60_76,e60_54],[e60_30 ret78v,e60_34 ret82v,e60_6,e60_8 c1 b,e60_3 ret78v,e60_4 ret82v,e60_1 c0 c1 c2 c3 c4 c5 c6,e60_20 ret82v,hA 70002 114 (.ar 4 (.int .u64)) (l70002.set ((v13).toNat) (a5 ret34v))]⟩) rfl (by kernel_rfl) trivial ?_
         refine awd_done (by kernel_rfl) ?_
         exact rest7 (l70002.set ((v13).toNat) (a5 ret34v)) h
        ·exact qC ⟨37,[e60_31,sp 4 4,sp 5 5,e60_53 ret82v,sI 13 v13,e60_73,e60_74,e60_75,e60_76,e60_54],[e60_30 ret78v,e60_34 ret82v,e60_6,e60_8 c1 b,e60_3 ret78v,e60_4 ret82v,e60_1 c0 c1 c2 c3 c4 c5 c6,e60_20 ret82v,e60_17 l70002]⟩ (aw_skip (rest7 l70002 h))
      ·exact qC ⟨37,[e60_73,e60_74,e60_75,e60_76,e60_54],[e60_6,e60_8 c1 b,e60_3 ret78v,e60_4 ret82v,e60_1 c0 c1 c2 c3 c4 c5 c6,e60_20 ret82v,e60_17 l70002]⟩ (aw_exit (thenQ_x (thenQ_x (blockQ_hit (rest6 l70002 h)))))
    ·refine qS 2 ⟨152,[e60_31,sp 4 4,sp 5 5,sp 6 6,sI 29 ((c0.getD (b).toNat z3).1),sB 111 (decide ((c0.getD (b).toNat z3).1=(5:Int))),e60_19],[e60_0,e60_13 c0 b,e60_2 c1 b,e60_1 c0 c1 c2 c3 c4 c5 c6,e60_33 c7,e60_23 c8]⟩ (withJoin (σ:=Int×Int×Int×Int×Int×Int×Int×Int×Int×Int×LI×LL) (fun s=>⟨152,[sp 4 4,sp 6 6,e60_19],[e60_0,hB 6 [.pU s.1,.pU s.2.1,.pU s.2.2.1,.pU s.2.2.2.1,.pU s.2.2.2.2.1,.pU s.2.2.2.2.2.1,.pU s.2.2.2.2.2.2.1,.pU s.2.2.2.2.2.2.2.1,.pU s.2.2.2.2.2.2.2.2.1,.pU s.2.2.2.2.2.2.2.2.2.1,.pB (c1.getD (b).toNat false)],hA 47 3 tI s.2.2.2.2.2.2.2.2.2.2.1,hA 59 114 (.ar 4 (.int .u64)) s.2.2.2.2.2.2.2.2.2.2.2,e60_10 c0 c1 c2 c3 c4 c5 c6]⟩) (fun s=>VCc93_k8 c1 b K s.1 s.2.1 s.2.2.1 s.2.2.2.1 s.2.2.2.2.1 s.2.2.2.2.2.1 s.2.2.2.2.2.2.1 s.2.2.2.2.2.2.2.1 s.2.2.2.2.2.2.2.2.1 s.2.2.2.2.2.2.2.2.2.1 s.2.2.2.2.2.2.2.2.2.2.1 s.2.2.2.2.2.2.2.2.2.2.2) (fun s h=>?_) (fun rest8=>?_))
     ·obtain ⟨out,out2,out3,out4,out5,out6,out7,out8,out9,out10,l70001,l70002⟩:=s
      have h:VCc93_k8 c1 b K out out2 out3 out4 out5 out6 out7 out8 out9 out10 l70001 l70002:=h
      unfold VCc93_k8 at h
      exact rest3 (out,out2,out3,out4,out5,out6,out7,out8,out9,out10,l70001,l70002) h
     ·refine qI h (fun h=>?_) fun h=>?_
      ·refine sr (qT 3 ⟨152,[e60_31,sp 4 4,sp 5 5,sp 6 6,sp 113 70000,sI 115 (ahx1 c0 b),e60_19],[e60_0,e60_13 c0 b,e60_2 c1 b,e60_1 c0 c1 c2 c3 c4 c5 c6,e60_33 c7,e60_23 c8]⟩ (awl_lcall (σ:=Lqc×LI×LL) [70000,70001,70002] [70000] [.c (.ptr 70000 0),.c (.pI (ahx1 c0 b))] [] (fun ret116v=>.v (.agg [.pU (ret116v.1.1.getD 0 0),.pU (ret116v.1.1.getD 1 0),.pU (ret116v.1.1.getD 2 0),.pU (ret116v.1.1.getD 3 0),.pU (ret116v.1.1.getD 4 0),.pU (ret116v.1.2.1.getD 0 0),.pU (ret116v.1.2.1.getD 1 0),.pU (ret116v.1.2.1.getD 2 0),.pU (ret116v.1.2.1.getD 3 0),.pU (ret116v.1.2.1.getD 4 0),.pB ret116v.1.2.2])) (fun ret116v=>[e60_1 c0 c1 c2 c3 c4 c5 c6,e60_71 ret116v,e60_67 ret116v]) (_) [e60_1 c0 c1 c2 c3 c4 c5 c6,e60_33 c7,e60_23 c8] (fun ret116v=>⟨152,[e60_35 ret116v,e60_31,sp 4 4,sp 5 5,sp 6 6,sp 113 70000,sI 115 (ahx1 c0 b),e60_19],[e60_1 c0 c1 c2 c3 c4 c5 c6,e60_71 ret116v,e60_67 ret116v,e60_0,e60_13 c0 b,e60_2 c1 b]⟩) rfl rfl (by kernel_rfl) rfl (by kernel_rfl) Try.call93 (by kernel_rfl) (by kernel_rfl) (by kernel_rfl) (fun _ _=>rfl) (fun _=>by kernel_rfl) (hR (ahx1 c0 b) c7 c8 _ h) (fun ret116v h=>?_)))
       refine qL ⟨152,[e60_31,sp 4 4,sp 5 5,sp 6 6,e60_35 ret116v,e60_19],[e60_0,e60_13 c0 b,e60_2 c1 b,e60_1 c0 c1 c2 c3 c4 c5 c6,e60_71 ret116v,e60_67 ret116v]⟩ (qT 2 ⟨152,[e60_31,sp 4 4,sp 5 5,sp 6 6,sp 10 10,e60_19],[e60_0,e60_13 c0 b,e60_2 c1 b,e60_16 ret116v,e60_1 c0 c1 c2 c3 c4 c5 c6,e60_71 ret116v,e60_67 ret116v]⟩ (nsr (qT 3 ⟨152,[sp 4 4,sp 6 6,sp 10 10,sp 117 70000,sI 119 (ahx2 c0 b),e60_19],[e60_0,e60_2 c1 b,e60_16 ret116v,e60_1 c0 c1 c2 c3 c4 c5 c6,e60_71 ret116v,e60_67 ret116v]⟩ (awl_lcall (σ:=Lqc×LI×LL) [70000,70001,70002] [70000] [.c (.ptr 70000 0),.c (.pI (ahx2 c0 b))] [] (fun ret120v=>.v (.agg [.pU (ret120v.1.1.getD 0 0),.pU (ret120v.1.1.getD 1 0),.pU (ret120v.1.1.getD 2 0),.pU (ret120v.1.1.getD 3 0),.pU (ret120v.1.1.getD 4 0),.pU (ret120v.1.2.1.getD 0 0),.pU (ret120v.1.2.1.getD 1 0),.pU (ret120v.1.2.1.getD 2 0),.pU (ret120v.1.2.1.getD 3 0),.pU (ret120v.1.2.1.getD 4 0),.pB ret120v.1.2.2])) (fun ret120v=>[e60_1 c0 c1 c2 c3 c4 c5 c6,e60_59 ret120v,e60_46 ret120v]) (_) [e60_1 c0 c1 c2 c3 c4 c5 c6,e60_71 ret116v,e60_67 ret116v] (fun ret120v=>⟨152,[e60_36 ret120v,sp 4 4,sp 6 6,sp 10 10,sp 117 70000,sI 119 (ahx2 c0 b),e60_19],[e60_1 c0 c1 c2 c3 c4 c5 c6,e60_59 ret120v,e60_46 ret120v,e60_0,e60_2 c1 b,e60_16 ret116v]⟩) rfl rfl (by kernel_rfl) rfl (by kernel_rfl) Try.call93 (by kernel_rfl) (by kernel_rfl) (by kernel_rfl) (fun _ _=>rfl) (fun _=>by kernel_rfl) (hR (ahx2 c0 b) ret116v.2.1 ret116v.2.2 _ h) (fun ret120v h=>?_)))))
       refine qL ⟨152,[sp 4 4,sp 6 6,sp 10 10,e60_36 ret120v,e60_19],[e60_0,e60_2 c1 b,e60_16 ret116v,e60_1 c0 c1 c2 c3 c4 c5 c6,e60_59 ret120v,e60_46 ret120v]⟩ (qT 2 ⟨152,[sp 4 4,sp 6 6,sp 10 10,sp 11 11,e60_19],[e60_0,e60_2 c1 b,e60_16 ret116v,hB 11 [.pU (ret120v.1.1.getD 0 0),.pU (ret120v.1.1.getD 1 0),.pU (ret120v.1.1.getD 2 0),.pU (ret120v.1.1.getD 3 0),.pU (ret120v.1.1.getD 4 0),.pU (ret120v.1.2.1.getD 0 0),.pU (ret120v.1.2.1.getD 1 0),.pU (ret120v.1.2.1.getD 2 0),.pU (ret120v.1.2.1.getD 3 0),.pU (ret120v.1.2.1.getD 4 0),.pB ret120v.1.2.2],e60_1 c0 c1 c2 c3 c4 c5 c6,e60_59 ret120v,e60_46 ret120v]⟩ (nn (awd_begin [6] (by kernel_rfl) ?_)))
       refine qDT 8 [0,1,2,3,5,6,7,8] [8,7,6,5,3,2,1,0] ⟨152,[sp 4 4,sp 6 6,sA 122 [.pU (ret116v.1.1.getD 0 0),.pU (ret116v.1.1.getD 1 0),.pU (ret116v.1.1.getD 2 0),.pU (ret116v.1.1.getD 3 0),.pU (ret116v.1.1.getD 4 0)],sA 124 [.pU (ret120v.1.1.getD 0 0),.pU (ret120v.1.1.getD 1 0),.pU (ret120v.1.1.getD 2 0),.pU (ret120v.1.1.getD 3 0),.pU (ret120v.1.1.getD 4 0)],e60_47 ret116v,e60_48 ret120v,e60_19],[e60_0,e60_2 c1 b,e60_1 c0 c1 c2 c3 c4 c5 c6,e60_59 ret120v,e60_46 ret120v]⟩ (awd_one (i:=4) (by kernel_rfl) ?_)
       refine dcq (d:=125) [.d (.ar 4 (.int .u64)),.d (.ar 4 (.int .u64))] (fun ret125v=>⟨152,[sp 4 4,sp 6 6,e60_57 ret125v,e60_47 ret116v,e60_48 ret120v,e60_19],[e60_0,e60_2 c1 b,e60_1 c0 c1 c2 c3 c4 c5 c6,e60_59 ret120v,e60_46 ret120v]⟩) rfl (by kernel_rfl) Try.call102 (fun _=>by kernel_rfl) (link102 (a5 ret116v.1.1) (a5 ret120v.1.1) _ h) (fun ret125v h=>(qDT 1 [10] [10,4,8,7,6,5,3,2,1,0] ⟨152,[sp 4 4,sp 6 6,e60_57 ret125v,e60_47 ret116v,e60_48 ret120v,sp 131 6,e60_19],[e60_0,e60_2 c1 b,e60_1 c0 c1 c2 c3 c4 c5 c6,e60_59 ret120v,e60_46 ret120v]⟩ (awd_one (i:=9) (by kernel_rfl) ?_)))
       refine dcq (d:=130) [.d (.ar 4 (.int .u64)),.d (.ar 4 (.int .u64))] (fun ret130v=>⟨152,[sp 4 4,sp 6 6,e60_57 ret125v,e60_58 ret130v,sp 131 6,e60_19],[e60_0,e60_2 c1 b,e60_1 c0 c1 c2 c3 c4 c5 c6,e60_59 ret120v,e60_46 ret120v]⟩) rfl (by kernel_rfl) Try.call102 (fun _=>by kernel_rfl) (link102 (a5 ret116v.1.2.1) (a5 ret120v.1.2.1) _ h) (fun ret130v h=>(awd_one (i:=11) (by kernel_rfl) ?_))
       refine dsq (ob:=True) (st':=⟨152,[sp 4 4,sp 6 6,e60_58 ret130v,e60_19],[e60_0,e60_50 ret125v c1 b,e60_1 c0 c1 c2 c3 c4 c5 c6,e60_59 ret120v,e60_46 ret120v]⟩) rfl (by kernel_rfl) trivial ?_
       refine qDT 1 [12] [12,11,9,10,4,8,7,6,5,3,2,1,0] ⟨152,[sp 4 4,sp 6 6,e60_58 ret130v,s1 132 (.ptr 6 5),e60_19],[e60_0,e60_50 ret125v c1 b,e60_1 c0 c1 c2 c3 c4 c5 c6,e60_59 ret120v,e60_46 ret120v]⟩ (awd_one (i:=13) (by kernel_rfl) ?_)
       refine dsq (ob:=True) (st':=⟨152,[sp 4 4,sp 6 6,e60_19],[e60_0,e60_42 ret125v ret130v c1 b,e60_1 c0 c1 c2 c3 c4 c5 c6,e60_59 ret120v,e60_46 ret120v]⟩) rfl (by kernel_rfl) trivial ?_
       refine awd_end [.ren 4 20004,.ren 6 20006,.ren 20004 30000,.ren 20006 30001,.ren 30000 50000,.ren 30001 50001,.ren 70001 90001,.ren 70002 90002,.ren 50000 4,.ren 50001 6,.ren 90001 47,.ren 90002 59,.prune [4,6,152] e60_n1] (st':=⟨152,[sp 4 4,sp 6 6,e60_19],[e60_0,e60_42 ret125v ret130v c1 b,hA 47 3 tI ret120v.2.1,hA 59 114 (.ar 4 (.int .u64)) ret120v.2.2,e60_10 c0 c1 c2 c3 c4 c5 c6]⟩) (by kernel_rfl) (by kernel_rfl) ?_
       exact rest8 ((ret125v.getD 0 0),(ret125v.getD 1 0),(ret125v.getD 2 0),(ret125v.getD 3 0),(ret125v.getD 4 0),(ret130v.getD 0 0),(ret130v.getD 1 0),(ret130v.getD 2 0),(ret130v.getD 3 0),(ret130v.getD 4 0),ret120v.2.1,ret120v.2.2) h
      ·refine qS 2 ⟨152,[e60_31,sp 4 4,sp 5 5,sp 6 6,sB 133 (decide ((c0.getD (b).toNat z3).1=(6:Int))),e60_19],[e60_0,e60_13 c0 b,e60_2 c1 b,e60_1 c0 c1 c2 c3 c4 c5 c6,e60_33 c7,e60_23 c8]⟩ (withJoin (σ:=Int×Int×Int×Int×Int×Int×Int×Int×Int×Int×LI×LL) (fun s=>⟨152,[sp 4 4,sp 6 6,e60_19],[e60_0,hB 6 [.pU s.1,.pU s.2.1,.pU s.2.2.1,.pU s.2.2.2.1,.pU s.2.2.2.2.1,.pU s.2.2.2.2.2.1,.pU s.2.2.2.2.2.2.1,.pU s.2.2.2.2.2.2.2.1,.pU s.2.2.2.2.2.2.2.2.1,.pU s.2.2.2.2.2.2.2.2.2.1,.pB (c1.getD (b).toNat false)],hA 47 3 tI s.2.2.2.2.2.2.2.2.2.2.1,hA 59 114 (.ar 4 (.int .u64)) s.2.2.2.2.2.2.2.2.2.2.2,e60_10 c0 c1 c2 c3 c4 c5 c6]⟩) (fun s=>VCc93_k9 c1 b K s.1 s.2.1 s.2.2.1 s.2.2.2.1 s.2.2.2.2.1 s.2.2.2.2.2.1 s.2.2.2.2.2.2.1 s.2.2.2.2.2.2.2.1 s.2.2.2.2.2.2.2.2.1 s.2.2.2.2.2.2.2.2.2.1 s.2.2.2.2.2.2.2.2.2.2.1 s.2.2.2.2.2.2.2.2.2.2.2) (fun s h=>?_) (fun rest9=>?_))
       ·obtain ⟨out,out2,out3,out4,out5,out6,out7,out8,out9,out10,l70001,l70002⟩:=s
        have h:VCc93_k9 c1 b K out out2 out3 out4 out5 out6 out7 out8 out9 out10 l70001 l70002:=h
        unfold VCc93_k9 at h
        exact rest8 (out,out2,out3,out4,out5,out6,out7,out8,out9,out10,l70001,l70002) h
       ·refine qI h (fun h=>?_) fun h=>?_
        ·refine sr (qT 3 ⟨152,[e60_31,sp 4 4,sp 6 6,sp 135 70000,sI 137 (ahx1 c0 b),e60_19],[e60_0,e60_2 c1 b,e60_1 c0 c1 c2 c3 c4 c5 c6,e60_33 c7,e60_23 c8]⟩ (awl_lcall (σ:=Lqc×LI×LL) [70000,70001,70002] [70000] [.c (.ptr 70000 0),.c (.pI (ahx1 c0 b))] [] (fun ret138v=>.v (.agg [.pU (ret138v.1.1.getD 0 0),.pU (ret138v.1.1.getD 1 0),.pU (ret138v.1.1.getD 2 0),.pU (ret138v.1.1.getD 3 0),.pU (ret138v.1.1.getD 4 0),.pU (ret138v.1.2.1.getD 0 0),.pU (ret138v.1.2.1.getD 1 0),.pU (ret138v.1.2.1.getD 2 0),.pU (ret138v.1.2.1.getD 3 0),.pU (ret138v.1.2.1.getD 4 0),.pB ret138v.1.2.2])) (fun ret138v=>[e60_1 c0 c1 c2 c3 c4 c5 c6,e60_24 ret138v,e60_55 ret138v]) (_) [e60_1 c0 c1 c2 c3 c4 c5 c6,e60_33 c7,e60_23 c8] (fun ret138v=>⟨152,[e60_37 ret138v,e60_31,sp 4 4,sp 6 6,sp 135 70000,sI 137 (ahx1 c0 b),e60_19],[e60_1 c0 c1 c2 c3 c4 c5 c6,e60_24 ret138v,e60_55 ret138v,e60_0,e60_2 c1 b]⟩) rfl rfl (by kernel_rfl) rfl (by kernel_rfl) Try.call93 (by kernel_rfl) (by kernel_rfl) (by kernel_rfl) (fun _ _=>rfl) (fun _=>by kernel_rfl) (hR (ahx1 c0 b) c7 c8 _ h) (fun ret138v h=>?_)))
         refine qL ⟨152,[e60_31,sp 4 4,sp 6 6,e60_37 ret138v,e60_19],[e60_0,e60_2 c1 b,e60_1 c0 c1 c2 c3 c4 c5 c6,e60_24 ret138v,e60_55 ret138v]⟩ (qT 2 ⟨152,[e60_31,sp 4 4,sp 6 6,sp 12 12,e60_19],[e60_0,e60_2 c1 b,e60_38 ret138v,e60_1 c0 c1 c2 c3 c4 c5 c6,e60_24 ret138v,e60_55 ret138v]⟩ (nsr (qT 5 ⟨152,[sp 4 4,sp 6 6,sp 12 12,sp 139 70000,e60_60 ret138v,e60_62 ret138v,e60_19],[e60_0,e60_2 c1 b,e60_38 ret138v,e60_1 c0 c1 c2 c3 c4 c5 c6,e60_24 ret138v,e60_55 ret138v]⟩ (qW [.ren 4 30200,.ren 6 30201,.ren 12 30202] ⟨152,[sp 4 30200,sp 6 30201,sp 12 30202,sp 139 70000,e60_60 ret138v,e60_62 ret138v,e60_19],[e60_7,e60_9 c1 b,e60_5 ret138v,e60_1 c0 c1 c2 c3 c4 c5 c6,e60_24 ret138v,e60_55 ret138v]⟩ (awl_inlr [] [30200,30201,30202,70000,70001,70002] [.c (.ptr 70000 0),.agg [.pU (ret138v.1.2.1.getD 0 0),.pU (ret138v.1.2.1.getD 1 0),.pU (ret138v.1.2.1.getD 2 0),.pU (ret138v.1.2.1.getD 3 0),.pU (ret138v.1.2.1.getD 4 0)],.agg [.pU (ret138v.1.1.getD 0 0),.pU (ret138v.1.1.getD 1 0),.pU (ret138v.1.1.getD 2 0),.pU (ret138v.1.1.getD 3 0),.pU (ret138v.1.1.getD 4 0)]] [] rfl rfl (by kernel_rfl) rfl (by kernel_rfl) Try.call103 (by kernel_rfl) (by kernel_rfl) Try.func103 rfl rfl (by kernel_rfl) ?_)))))
         refine qV [] ⟨37,[e60_31,sA 1 [.pU (ret138v.1.2.1.getD 0 0),.pU (ret138v.1.2.1.getD 1 0),.pU (ret138v.1.2.1.getD 2 0),.pU (ret138v.1.2.1.getD 3 0),.pU (ret138v.1.2.1.getD 4 0)],sA 2 [.pU (ret138v.1.1.getD 0 0),.pU (ret138v.1.1.getD 1 0),.pU (ret138v.1.1.getD 2 0),.pU (ret138v.1.1.getD 3 0),.pU (ret138v.1.1.getD 4 0)],e60_77,e60_78,e60_79,sp 176 70000,sA 178 [.pU (ret138v.1.2.1.getD 0 0),.pU (ret138v.1.2.1.getD 1 0),.pU (ret138v.1.2.1.getD 2 0),.pU (ret138v.1.2.1.getD 3 0),.pU (ret138v.1.2.1.getD 4 0)],sA 180 [.pU (ret138v.1.1.getD 0 0),.pU (ret138v.1.1.getD 1 0),.pU (ret138v.1.1.getD 2 0),.pU (ret138v.1.1.getD 3 0),.pU (ret138v.1.1.getD 4 0)],e60_54],[e60_7,e60_9 c1 b,e60_5 ret138v,e60_1 c0 c1 c2 c3 c4 c5 c6,e60_24 ret138v,e60_55 ret138v]⟩ (sr (qT 2 ⟨37,[e60_31,sp 4 4,sp 5 5,e60_77,e60_78,e60_79,e60_54],[e60_29 ret138v,e60_32 ret138v,e60_7,e60_9 c1 b,e60_5 ret138v,e60_1 c0 c1 c2 c3 c4 c5 c6,e60_24 ret138v,e60_55 ret138v]⟩ (nsr (qT 7 ⟨37,[e60_31,sp 4 4,sp 5 5,e60_52 ret138v,sI 13 (0:Int),e60_77,e60_78,e60_79,e60_54],[e60_29 ret138v,e60_32 ret138v,e60_7,e60_9 c1 b,e60_5 ret138v,e60_1 c0 c1 c2 c3 c4 c5 c6,e60_24 ret138v,e60_55 ret138v]⟩ (nn (withJoin (σ:=LL) (fun s=>⟨37,[e60_77,e60_78,e60_79,e60_54],[e60_7,e60_9 c1 b,e60_5 ret138v,e60_1 c0 c1 c2 c3 c4 c5 c6,e60_24 ret138v,hA 70002 114 (.ar 4 (.int .u64)) s]⟩) (fun s=>VCc93_k10 c1 b K ret138v s) (fun l70002 h=>?_) (fun rest10=>?_)))))))
         ·have h:VCc93_k10 c1 b K ret138v l70002:=h
          unfold VCc93_k10 at h
          refine inlR_n (ob:=True) (.tup []) (by kernel_rfl) trivial rfl ?_
          refine qL ⟨152,[sp 4 30200,sp 6 30201,sp 12 30202,e60_19],[e60_7,e60_9 c1 b,e60_5 ret138v,e60_1 c0 c1 c2 c3 c4 c5 c6,e60_24 ret138v,e60_17 l70002]⟩ (nn (awd_begin [30201] (by kernel_rfl) ?_))
          refine qDT 5 [0,1,2,3,4] [4,3,2,1,0] ⟨152,[sp 4 30200,sp 6 30201,sA 146 [.pU (ret138v.1.1.getD 0 0),.pU (ret138v.1.1.getD 1 0),.pU (ret138v.1.1.getD 2 0),.pU (ret138v.1.1.getD 3 0),.pU (ret138v.1.1.getD 4 0)],e60_49 ret138v,sp 149 30201,e60_19],[e60_7,e60_9 c1 b,e60_1 c0 c1 c2 c3 c4 c5 c6,e60_24 ret138v,e60_17 l70002]⟩ (awd_one (i:=5) (by kernel_rfl) ?_)
          refine dsq (ob:=True) (st':=⟨152,[sp 4 30200,sp 6 30201,e60_49 ret138v,e60_19],[e60_7,e60_43 ret138v c1 b,e60_1 c0 c1 c2 c3 c4 c5 c6,e60_24 ret138v,e60_17 l70002]⟩) rfl (by kernel_rfl) trivial ?_
          refine qDT 1 [6] [6,5,4,3,2,1,0] ⟨152,[sp 4 30200,sp 6 30201,e60_49 ret138v,s1 150 (.ptr 30201 5),e60_19],[e60_7,e60_43 ret138v c1 b,e60_1 c0 c1 c2 c3 c4 c5 c6,e60_24 ret138v,e60_17 l70002]⟩ (awd_one (i:=7) (by kernel_rfl) ?_)
          refine dsq (ob:=True) (st':=⟨152,[sp 4 30200,sp 6 30201,e60_19],[e60_7,hB 30201 [.pU (ret138v.1.1.getD 0 0),.pU (ret138v.1.1.getD 1 0),.pU (ret138v.1.1.getD 2 0),.pU (ret138v.1.1.getD 3 0),.pU (ret138v.1.1.getD 4 0),.pU (ret138v.1.2.1.getD 0 0),.pU (ret138v.1.2.1.getD 1 0),.pU (ret138v.1.2.1.getD 2 0),.pU (ret138v.1.2.1.getD 3 0),.pU (ret138v.1.2.1.getD 4 0),.pB (c1.getD (b).toNat false)],e60_1 c0 c1 c2 c3 c4 c5 c6,e60_24 ret138v,e60_17 l70002]⟩) rfl (by kernel_rfl) trivial ?_
          refine awd_end [.ren 30200 50200,.ren 30201 50201,.ren 50200 4,.ren 50201 6,.ren 4 20004,.ren 6 20006,.ren 20004 30000,.ren 20006 30001,.ren 30000 50000,.ren 30001 50001,.ren 70001 90001,.ren 70002 90002,.ren 50000 4,.ren 50001 6,.ren 90001 47,.ren 90002 59,.prune [4,6,152] e60_n1] (st':=⟨152,[sp 4 4,sp 6 6,e60_19],[e60_0,hB 6 [.pU (ret138v.1.1.getD 0 0),.pU (ret138v.1.1.getD 1 0),.pU (ret138v.1.1.getD 2 0),.pU (ret138v.1.1.getD 3 0),.pU (ret138v.1.1.getD 4 0),.pU (ret138v.1.2.1.getD 0 0),.pU (ret138v.1.2.1.getD 1 0),.pU (ret138v.1.2.1.getD 2 0),.pU (ret138v.1.2.1.getD 3 0),.pU (ret138v.1.2.1.getD 4 0),.pB (c1.getD (b).toNat false)],hA 47 3 tI ret138v.2.1,e60_83 l70002,e60_10 c0 c1 c2 c3 c4 c5 c6]⟩) (by kernel_rfl) (by kernel_rfl) ?_
          exact rest9 ((ret138v.1.1.getD 0 0),(ret138v.1.1.getD 1 0),(ret138v.1.1.getD 2 0),(ret138v.1.1.getD 3 0),(ret138v.1.1.getD 4 0),(ret138v.1.2.1.getD 0 0),(ret138v.1.2.1.getD 1 0),(ret138v.1.2.1.getD 2 0),(ret138v.1.2.1.getD 3 0),(ret138v.1.2.1.getD 4 0),ret138v.2.1,l70002) h
         ·refine aw_block (aw_loop (σ:=Int×LL) (fun s=>⟨37,[e60_31,sp 4 4,sp 5 5,e60_52 ret138v,sI 13 s.1,e60_77,e60_78,e60_79,e60_54],[e60_29 ret138v,e60_32 ret138v,e60_7,e60_9 c1 b,e60_5 ret138v,e60_1 c0 c1 c2 c3 c4 c5 c6,e60_24 ret138v,hA 70002 114 (.ar 4 (.int .u64)) s.2]⟩) (fun s X=>VCc93_l2 c1 b K ret138v s.1 s.2 X) (s0:=((0:Int),ret138v.2.2)) (fun s X2 h=>?_) h)
          obtain ⟨v13,l70002⟩:=s
          have h:VCc93_l2 c1 b K ret138v v13 l70002 X2:=h
          unfold VCc93_l2 at h
          refine qS 1 ⟨37,[e60_31,sp 4 4,sp 5 5,e60_52 ret138v,sI 13 v13,sB 14 (decide (v13<(ret138v.2.1.length:Int))),e60_77,e60_78,e60_79,e60_54],[e60_29 ret138v,e60_32 ret138v,e60_7,e60_9 c1 b,e60_5 ret138v,e60_1 c0 c1 c2 c3 c4 c5 c6,e60_24 ret138v,e60_17 l70002]⟩ (aw_seq (qI h (fun h=>?_) fun h=>?_))
          ·refine aw_skip (thenQ_n (aw_seq (aw_block (sr (qT 2 ⟨37,[e60_31,sp 4 4,sp 5 5,sI 6 v13,e60_52 ret138v,sI 13 v13,e60_77,e60_78,e60_79,e60_54],[e60_29 ret138v,e60_32 ret138v,e60_7,e60_9 c1 b,e60_5 ret138v,e60_1 c0 c1 c2 c3 c4 c5 c6,e60_24 ret138v,e60_17 l70002]⟩ (nsr (qT 2 ⟨37,[e60_31,sp 4 4,sp 5 5,sI 6 v13,e60_52 ret138v,sI 13 v13,sA 16 [.pU (ret138v.1.2.1.getD 0 0),.pU (ret138v.1.2.1.getD 1 0),.pU (ret138v.1.2.1.getD 2 0),.pU (ret138v.1.2.1.getD 3 0),.pU (ret138v.1.2.1.getD 4 0)],sI 17 v13,e60_77,e60_78,e60_79,e60_54],[e60_29 ret138v,e60_32 ret138v,e60_7,e60_9 c1 b,e60_5 ret138v,e60_1 c0 c1 c2 c3 c4 c5 c6,e60_24 ret138v,e60_17 l70002]⟩ (qK 18 [.d (.ar 4 (.int .u64)),.d tI] (fun ret18v=>⟨37,[e60_31,sp 4 4,sp 5 5,sI 6 v13,e60_52 ret138v,sI 13 v13,sB 18 ret18v,e60_77,e60_78,e60_79,e60_54],[e60_29 ret138v,e60_32 ret138v,e60_7,e60_9 c1 b,e60_5 ret138v,e60_1 c0 c1 c2 c3 c4 c5 c6,e60_24 ret138v,e60_17 l70002]⟩) Try.call61 (link61 (a5 ret138v.1.2.1) v13 _ h) fun ret18v h=>?_))))))))
           refine nn (withJoin (σ:=LL) (fun s=>⟨37,[e60_31,sp 4 4,sp 5 5,e60_52 ret138v,sI 13 v13,e60_77,e60_78,e60_79,e60_54],[e60_29 ret138v,e60_32 ret138v,e60_7,e60_9 c1 b,e60_5 ret138v,e60_1 c0 c1 c2 c3 c4 c5 c6,e60_24 ret138v,hA 70002 114 (.ar 4 (.int .u64)) s]⟩) (fun s=>VCc93_k11 v13 X2 s) (fun l700022 h=>?_) (fun rest11=>?_))
           ·have h:VCc93_k11 v13 X2 l700022:=h
            unfold VCc93_k11 at h
            exact blockQ_n (thenQ_n (aw_region (qA 2 0 1 ⟨37,[e60_31,sp 4 4,sp 5 5,e60_52 ret138v,sI 13 (v13+(1:Int)),e60_77,e60_78,e60_79,e60_54],[e60_29 ret138v,e60_32 ret138v,e60_7,e60_9 c1 b,e60_5 ret138v,e60_1 c0 c1 c2 c3 c4 c5 c6,e60_24 ret138v,hA 70002 114 (.ar 4 (.int .u64)) l700022]⟩ h fun h=>awl_nil (thenQ_n ⟨((v13+(1:Int)),l700022),rfl,h⟩))))
           ·refine qI h (fun h=>?_) fun h=>?_
            ·refine awd_begin [70002] (by kernel_rfl) ?_
             obtain ⟨o1,h⟩:=h
             refine qDO 12 1 e60_n2 e60_n3 ⟨37,[e60_31,sp 4 4,sp 5 5,e60_52 ret138v,sI 13 v13,e60_87,sI 24 v13,s1 31 (.el 70002 ((v13).toNat) 5),e60_63 ret138v,e60_77,e60_78,e60_79,e60_54],[e60_29 ret138v,e60_32 ret138v,e60_7,e60_9 c1 b,e60_5 ret138v,e60_1 c0 c1 c2 c3 c4 c5 c6,e60_24 ret138v,e60_17 l70002]⟩ o1 (awd_one (i:=13) (by kernel_rfl) ?_)
             refine dsq (ob:=True) (st':=⟨37,[e60_31,sp 4 4,sp 5 5,e60_52 ret138v,sI 13 v13,e60_87,sI 24 v13,e60_26 l70002 v13,e60_63 ret138v,e60_77,e60_78,e60_79,e60_54],[e60_29 ret138v,e60_32 ret138v,e60_7,e60_9 c1 b,e60_5 ret138v,e60_1 c0 c1 c2 c3 c4 c5 c6,e60_24 ret138v,e60_17 l70002]⟩) rfl (by kernel_rfl) trivial ?_
             refine awd_one (i:=15) (by kernel_rfl) ?_
             refine dcq (d:=34) [.d (.ar 4 (.int .u64)),.d (.ar 4 (.int .u64))] (fun ret34v=>⟨37,[e60_31,sp 4 4,sp 5 5,e60_52 ret138v,sI 13 v13,e60_87,sI 24 v13,e60_45 ret34v,e60_77,e60_78,e60_79,e60_54],[e60_29 ret138v,e60_32 ret138v,e60_7,e60_9 c1 b,e60_5 ret138v,e60_1 c0 c1 c2 c3 c4 c5 c6,e60_24 ret138v,e60_17 l70002]⟩) rfl (by kernel_rfl) Try.call102 (fun _=>by kernel_rfl) (link102 (a5 (l70002.getD ((v13).toNat) (List.replicate 5 (0:Int)))) (a5 ret138v.1.1) _ h) (fun ret34v h=>?_)
             obtain ⟨o1,h⟩:=h
             refine qD [16] e60_n0 ⟨37,[e60_31,sp 4 4,sp 5 5,e60_52 ret138v,sI 13 v13,e60_45 ret34v,s1 35 (.el 70002 ((v13).toNat) 5),e60_77,e60_78,e60_79,e60_54],[e60_29 ret138v,e60_32 ret138v,e60_7,e60_9 c1 b,e60_5 ret138v,e60_1 c0 c1 c2 c3 c4 c5 c6,e60_24 ret138v,e60_17 l70002]⟩ (ob:=inIdx v13 l70002.length∧True) (⟨o1,trivial⟩) ?_
             refine awd_one (i:=17) (by kernel_rfl) ?_
             refine dsq (ob:=True) (st':=⟨37,[e60_31,sp 4 4,sp 5 5,e60_52 ret138v,sI 13 v13,e60_77,e60_78,e60_79,e60_54],[e60_29 ret138v,e60_32 ret138v,e60_7,e60_9 c1 b,e60_5 ret138v,e60_1 c0 c1 c2 c3 c4 c5 c6,e60_24 ret138v,hA 70002 114 (.ar 4 (.int .u64)) (l70002.set ((v13).toNat) (a5 ret34v))]⟩) rfl (by kernel_rfl) trivial ?_
             refine awd_done (by kernel_rfl) ?_
             exact rest11 (l70002.set ((v13).toNat) (a5 ret34v)) h
            ·exact qC ⟨37,[e60_31,sp 4 4,sp 5 5,e60_52 ret138v,sI 13 v13,e60_77,e60_78,e60_79,e60_54],[e60_29 ret138v,e60_32 ret138v,e60_7,e60_9 c1 b,e60_5 ret138v,e60_1 c0 c1 c2 c3 c4 c5 c6,e60_24 ret138v,e60_17 l70002]⟩ (aw_skip (rest11 l70002 h))
          ·exact qC ⟨37,[e60_77,e60_78,e60_79,e60_54],[e60_7,e60_9 c1 b,e60_5 ret138v,e60_1 c0 c1 c2 c3 c4 c5 c6,e60_24 ret138v,e60_17 l70002]⟩ (aw_exit (thenQ_x (thenQ_x (blockQ_hit (rest10 l70002 h)))))
        ·exact qV [.prune [4,6,152] [4,6,70000,70001,70002],.ren 4 20004,.ren 6 20006,.ren 20004 30200,.ren 20006 30201,.ren 30200 50200,.ren 30201 50201,.ren 50200 4,.ren 50201 6,.ren 4 20004,.ren 6 20006,.ren 20004 30000,.ren 20006 30001,.ren 30000 50000,.ren 30001 50001,.ren 70001 90001,.ren 70002 90002,.ren 50000 4,.ren 50001 6,.ren 90001 47,.ren 90002 59,.prune [4,6,152] e60_n1] ⟨152,[sp 4 4,sp 6 6,e60_19],[e60_0,e60_2 c1 b,hA 47 3 tI c7,hA 59 114 (.ar 4 (.int .u64)) c8,e60_10 c0 c1 c2 c3 c4 c5 c6]⟩ (aw_skip (rest9 ((0:Int),(0:Int),(0:Int),(0:Int),(0:Int),(0:Int),(0:Int),(0:Int),(0:Int),(0:Int),c7,c8) h))
def VCc93_it (c0:LN) (c1:LB) (c2 c3 c4 c5 c6:Int):Nat→Int→LI→LL→(Lqc×LI×LL→Prop)→Prop
  | 0=>fun _ _ _ _=>False
  | n+1=>fun b c7 c8 K=>VCc93 c0 c1 c2 c3 c4 c5 c6 (VCc93_it c0 c1 c2 c3 c4 c5 c6 n) b c7 c8 K
def VCcr93 (c0:LN) (c1:LB) (c2 c3 c4 c5 c6 b:Int) (c7:LI) (c8:LL) (K:Lqc×LI×LL→Prop):Prop:=∃ n,VCc93_it c0 c1 c2 c3 c4 c5 c6 n b c7 c8 K
theorem linkci93 (c0:LN) (c1:LB) (c2 c3 c4 c5 c6:Int):∀ (n:Nat) (b:Int) (c7:LI) (c8:LL) (K:Lqc×LI×LL→Prop),VCc93_it c0 c1 c2 c3 c4 c5 c6 n b c7 c8 K→LCalls Try.prog 93 [70000,70001,70002] [70000] [e60_1 c0 c1 c2 c3 c4 c5 c6,e60_33 c7,e60_23 c8] [.c (.ptr 70000 0),.c (.pI b)] (fun av hp'=>∃ y:Lqc×LI×LL,av=.v (.agg [.pU (y.1.1.getD 0 0),.pU (y.1.1.getD 1 0),.pU (y.1.1.getD 2 0),.pU (y.1.1.getD 3 0),.pU (y.1.1.getD 4 0),.pU (y.1.2.1.getD 0 0),.pU (y.1.2.1.getD 1 0),.pU (y.1.2.1.getD 2 0),.pU (y.1.2.1.getD 3 0),.pU (y.1.2.1.getD 4 0),.pB y.1.2.2])∧hp'=[e60_1 c0 c1 c2 c3 c4 c5 c6,hA 70001 3 tI y.2.1,hA 70002 114 (.ar 4 (.int .u64)) y.2.2]∧K y)
  | 0,_,_,_,_,h=>False.elim h
  | n+1,b,c7,c8,K,h=>linkc93 c0 c1 c2 c3 c4 c5 c6 (VCc93_it c0 c1 c2 c3 c4 c5 c6 n) (linkci93 c0 c1 c2 c3 c4 c5 c6 n) b c7 c8 K h
theorem linkcr93 (c0:LN) (c1:LB) (c2 c3 c4 c5 c6 b:Int) (c7:LI) (c8:LL) (K:Lqc×LI×LL→Prop) (h:VCcr93 c0 c1 c2 c3 c4 c5 c6 b c7 c8 K):LCalls Try.prog 93 [70000,70001,70002] [70000] [e60_1 c0 c1 c2 c3 c4 c5 c6,e60_33 c7,e60_23 c8] [.c (.ptr 70000 0),.c (.pI b)] (fun av hp'=>∃ y:Lqc×LI×LL,av=.v (.agg [.pU (y.1.1.getD 0 0),.pU (y.1.1.getD 1 0),.pU (y.1.1.getD 2 0),.pU (y.1.1.getD 3 0),.pU (y.1.1.getD 4 0),.pU (y.1.2.1.getD 0 0),.pU (y.1.2.1.getD 1 0),.pU (y.1.2.1.getD 2 0),.pU (y.1.2.1.getD 3 0),.pU (y.1.2.1.getD 4 0),.pB y.1.2.2])∧hp'=[e60_1 c0 c1 c2 c3 c4 c5 c6,hA 70001 3 tI y.2.1,hA 70002 114 (.ar 4 (.int .u64)) y.2.2]∧K y):=by
  obtain ⟨n,h⟩:=h
  exact linkci93 c0 c1 c2 c3 c4 c5 c6 n b c7 c8 K h
abbrev e60a0:=hB 2 [.nils,.nils,.pU (0:Int),.pU (0:Int),.pU (0:Int),.pU (0:Int),.pU (0:Int)]
abbrev e60a1 (ret24v:Lqc×LI×LL):=hB 6 [.pU (ret24v.1.1.getD 0 0),.pU (ret24v.1.1.getD 1 0),.pU (ret24v.1.1.getD 2 0),.pU (ret24v.1.1.getD 3 0),.pU (ret24v.1.1.getD 4 0),.pU (ret24v.1.2.1.getD 0 0),.pU (ret24v.1.2.1.getD 1 0),.pU (ret24v.1.2.1.getD 2 0),.pU (ret24v.1.2.1.getD 3 0),.pU (ret24v.1.2.1.getD 4 0),.pB ret24v.1.2.2]
abbrev e60a2 (l:LN) (ret9v:LB×LB):=hB 70000 [.p (.sl t3) l,.p (.sl .bool) ret9v.1,.own 70001,.own 70002,.pU (0:Int),.pU (0:Int),.pU (0:Int),.pU (0:Int),.pU (0:Int)]
abbrev e60a3 (l:LN) (ret9v:LB×LB) (ret24v:Lqc×LI×LL):=hB 70000 [.p (.sl t3) l,.p (.sl .bool) ret9v.1,.own 70001,.own 70002,.pU (ret24v.1.2.1.getD 0 0),.pU (ret24v.1.2.1.getD 1 0),.pU (ret24v.1.2.1.getD 2 0),.pU (ret24v.1.2.1.getD 3 0),.pU (ret24v.1.2.1.getD 4 0)]
abbrev e60a4 (ret24v:Lqc×LI×LL):=hA 70002 114 (.ar 4 (.int .u64)) (ret24v.2.2.set (((0:Int)).toNat) (a5 ret24v.1.1))
abbrev e60a5 (ret24v:Lqc×LI×LL):=sA 24 [.pU (ret24v.1.1.getD 0 0),.pU (ret24v.1.1.getD 1 0),.pU (ret24v.1.1.getD 2 0),.pU (ret24v.1.1.getD 3 0),.pU (ret24v.1.1.getD 4 0),.pU (ret24v.1.2.1.getD 0 0),.pU (ret24v.1.2.1.getD 1 0),.pU (ret24v.1.2.1.getD 2 0),.pU (ret24v.1.2.1.getD 3 0),.pU (ret24v.1.2.1.getD 4 0),.pB ret24v.1.2.2]
abbrev e60a6 (ret24v:Lqc×LI×LL):=hA 70001 3 tI ret24v.2.1
abbrev e60a7 (l:LN) (ret9v:LB×LB):=hB 19 [.p (.sl t3) l,.p (.sl .bool) ret9v.1,.own 14,.own 16,.pU (0:Int),.pU (0:Int),.pU (0:Int),.pU (0:Int),.pU (0:Int)]
abbrev e60a8 (ret24v:Lqc×LI×LL):=hA 70002 114 (.ar 4 (.int .u64)) ret24v.2.2
abbrev e60a9:=hA 70002 114 (.ar 4 (.int .u64)) [[(0:Int),(0:Int),(0:Int),(0:Int),(0:Int)]]
abbrev e60a10:=hA 16 114 (.ar 4 (.int .u64)) [[(0:Int),(0:Int),(0:Int),(0:Int),(0:Int)]]
abbrev e60a11:=sp 5 70000
abbrev e60a12 (l:LN):=sI 23 ((l.length:Int)-(1:Int))
-- coppicer/glyph.Make
def VC60_k1 (K:Lqg→Prop) (ret24v:Lqc×LI×LL) (b b2 b3 b4 b5:Int):Prop :=
  K (ret24v.2.1,((ret24v.2.2.set (((0:Int)).toNat) (a5 ret24v.1.1)),[b,b2,b3,b4,b5]))
def VC60 (l:LN) (K:Lqg→Prop):Prop :=
  VC49 l (fun (ret9v:LB×LB)=>(InR ((l.length:Int)-(1:Int))∧VCcr93 l ret9v.1 (0:Int) (0:Int) (0:Int) (0:Int) (0:Int) ((l.length:Int)-(1:Int)) [(-1:Int)] [[(0:Int),(0:Int),(0:Int),(0:Int),(0:Int)]] (fun (ret24v:Lqc×LI×LL)=>(inIdx (0:Int) ret24v.2.2.length∧((ret24v.1.2.2=true→VC88 (a5 ret24v.1.2.1) (0:Int) (fun (ret47v:LI)=>VC60_k1 K ret24v (ret47v.getD 0 0) (ret47v.getD 1 0) (ret47v.getD 2 0) (ret47v.getD 3 0) (ret47v.getD 4 0)))∧(ret24v.1.2.2=false→VC60_k1 K ret24v (ret24v.1.2.1.getD 0 0) (ret24v.1.2.1.getD 1 0) (ret24v.1.2.1.getD 2 0) (ret24v.1.2.1.getD 3 0) (ret24v.1.2.1.getD 4 0)))))))
theorem link60 (l:LN) (K:Lqg→Prop) (h:VC60 l K):ACalls Try.prog 60 [toV1 (.sl t3) l] (fun res=>∃ y,res=(fun y=>[toV1 (.pr (.sl tI) (.pr (.sl (.ar 4 (.int .u64))) (.ar 4 (.int .u64)))) y]) y∧K y):=by
 refine acalls_of_aw [(.pr (.sl tI) (.pr (.sl (.ar 4 (.int .u64))) (.ar 4 (.int .u64))))] [.c 2 116] Try.func60 rfl rfl rfl ?_
 unfold VC60 at h
 refine sr (qT 1 ⟨55,[s1 0 (.p (.sl t3) l),sp 2 2],[e60a0]⟩ (nsr (qT 1 ⟨55,[s1 0 (.p (.sl t3) l),sp 2 2,s1 8 (.p (.sl t3) l)],[e60a0]⟩ (qK 9 [.d (.sl t3)] (fun ret9v=>⟨55,[s1 0 (.p (.sl t3) l),sp 2 2,(9,[],.tup [.c (.p (.sl .bool) ret9v.1),.c (.p (.sl .bool) ret9v.2)])],[e60a0]⟩) Try.call49 (link49 l _ h) fun ret9v h=>?_))))
 refine qT 5 ⟨55,[s1 0 (.p (.sl t3) l),sp 2 2,s1 3 (.p (.sl .bool) ret9v.1)],[e60a0]⟩ (nsr (qT 9 ⟨55,[s1 0 (.p (.sl t3) l),sp 2 2,sp 5 19],[e60a0,hA 14 3 tI [(-1:Int)],e60a10,e60a7 l ret9v]⟩ (nsr (qA 4 3 0 ⟨55,[sp 2 2,sp 5 19,sp 20 19,e60a12 l],[e60a0,hA 14 3 tI [(-1:Int)],e60a10,e60a7 l ret9v]⟩ h fun h=>qW [.ren 19 70000,.ren 14 70001,.ren 16 70002] ⟨55,[sp 2 2,e60a11,sp 20 70000,e60a12 l],[e60a0,hA 70001 3 tI [(-1:Int)],e60a9,e60a2 l ret9v]⟩ (awl_lcall (σ:=Lqc×LI×LL) [70000,70001,70002] [70000] [.c (.ptr 70000 0),.c (.pI ((l.length:Int)-(1:Int)))] [] (fun ret24v=>.v (.agg [.pU (ret24v.1.1.getD 0 0),.pU (ret24v.1.1.getD 1 0),.pU (ret24v.1.1.getD 2 0),.pU (ret24v.1.1.getD 3 0),.pU (ret24v.1.1.getD 4 0),.pU (ret24v.1.2.1.getD 0 0),.pU (ret24v.1.2.1.getD 1 0),.pU (ret24v.1.2.1.getD 2 0),.pU (ret24v.1.2.1.getD 3 0),.pU (ret24v.1.2.1.getD 4 0),.pB ret24v.1.2.2])) (fun ret24v=>[e60a2 l ret9v,e60a6 ret24v,e60a8 ret24v]) (_) [e60a2 l ret9v,hA 70001 3 tI [(-1:Int)],e60a9] (fun ret24v=>⟨55,[e60a5 ret24v,sp 2 2,e60a11,sp 20 70000,e60a12 l],[e60a2 l ret9v,e60a6 ret24v,e60a8 ret24v,e60a0]⟩) rfl rfl (by kernel_rfl) rfl (by kernel_rfl) Try.call93 (by kernel_rfl) (by kernel_rfl) (by kernel_rfl) (fun _ _=>rfl) (fun _=>by kernel_rfl) (linkcr93 l ret9v.1 (0:Int) (0:Int) (0:Int) (0:Int) (0:Int) ((l.length:Int)-(1:Int)) [(-1:Int)] [[(0:Int),(0:Int),(0:Int),(0:Int),(0:Int)]] _ h) (fun ret24v h=>?_))))))
 refine qL ⟨55,[sp 2 2,e60a11,e60a5 ret24v],[e60a0,e60a2 l ret9v,e60a6 ret24v,e60a8 ret24v]⟩ (qT 2 ⟨55,[sp 2 2,e60a11,sp 6 6],[e60a0,e60a1 ret24v,e60a2 l ret9v,e60a6 ret24v,e60a8 ret24v]⟩ (nn (aw_seq (awd_begin [70002] (by kernel_rfl) ?_))))
 obtain ⟨o1,h⟩:=h
 refine qDO 7 0 [0,1,2,3,4,5,6,7] [7,6,5,4,3,2,1,0] ⟨55,[sp 2 2,e60a11,sp 6 6,sA 31 [.pU (ret24v.1.1.getD 0 0),.pU (ret24v.1.1.getD 1 0),.pU (ret24v.1.1.getD 2 0),.pU (ret24v.1.1.getD 3 0),.pU (ret24v.1.1.getD 4 0)],s1 32 (.el 70002 (((0:Int)).toNat) 5)],[e60a0,e60a1 ret24v,e60a2 l ret9v,e60a6 ret24v,e60a8 ret24v]⟩ o1 (awd_one (i:=8) (by kernel_rfl) ?_)
 refine dsq (ob:=True) (st':=⟨55,[sp 2 2,e60a11,sp 6 6],[e60a0,e60a1 ret24v,e60a2 l ret9v,e60a6 ret24v,e60a4 ret24v]⟩) rfl (by kernel_rfl) trivial ?_
 refine awd_done (by kernel_rfl) ?_
 refine thenQ_n (qS 7 ⟨55,[sp 2 2,e60a11,sp 6 6],[e60a0,e60a1 ret24v,e60a3 l ret9v ret24v,e60a6 ret24v,e60a4 ret24v]⟩ (aw_seq (qS 2 ⟨55,[sp 2 2,e60a11,sB 40 ret24v.1.2.2],[e60a0,e60a3 l ret9v ret24v,e60a6 ret24v,e60a4 ret24v]⟩ (withJoin (σ:=Int×Int×Int×Int×Int) (fun s=>⟨55,[sp 2 2,e60a11],[e60a0,hB 70000 [.p (.sl t3) l,.p (.sl .bool) ret9v.1,.own 70001,.own 70002,.pU s.1,.pU s.2.1,.pU s.2.2.1,.pU s.2.2.2.1,.pU s.2.2.2.2],e60a6 ret24v,e60a4 ret24v]⟩) (fun s=>VC60_k1 K ret24v s.1 s.2.1 s.2.2.1 s.2.2.2.1 s.2.2.2.2) (fun s h=>?_) (fun rest1=>?_)))))
 ·obtain ⟨b,b2,b3,b4,b5⟩:=s
  have h:VC60_k1 K ret24v b b2 b3 b4 b5:=h
  unfold VC60_k1 at h
  exact thenQ_n (qS 5 ⟨55,[sp 2 2],[hB 2 [.own 70001,.own 70002,.pU b,.pU b2,.pU b3,.pU b4,.pU b5],e60a6 ret24v,e60a4 ret24v]⟩ (qV [.freeze 70001,.freeze 70002] ⟨55,[sp 2 2],[hB 2 [.pS ret24v.2.1,.p (.sl (.ar 4 (.int .u64))) (ret24v.2.2.set (((0:Int)).toNat) (a5 ret24v.1.1)),.pU b,.pU b2,.pU b3,.pU b4,.pU b5]]⟩ (aw_ret (qE 1 h))))
 ·refine qI h (fun h=>?_) fun h=>?_
  ·refine aw_region (qT 6 ⟨55,[sp 2 2,e60a11,sp 41 70000,sA 46 [.pU (ret24v.1.2.1.getD 0 0),.pU (ret24v.1.2.1.getD 1 0),.pU (ret24v.1.2.1.getD 2 0),.pU (ret24v.1.2.1.getD 3 0),.pU (ret24v.1.2.1.getD 4 0)]],[e60a0,e60a3 l ret9v ret24v,e60a6 ret24v,e60a4 ret24v]⟩ (qK 47 [.d (.ar 4 (.int .u64)),.d tI] (fun ret47v=>⟨55,[sp 2 2,e60a11,sp 41 70000,sA 47 [.pU (ret47v.getD 0 0),.pU (ret47v.getD 1 0),.pU (ret47v.getD 2 0),.pU (ret47v.getD 3 0),.pU (ret47v.getD 4 0)]],[e60a0,e60a3 l ret9v ret24v,e60a6 ret24v,e60a4 ret24v]⟩) Try.call88 (link88 (a5 ret24v.1.2.1) (0:Int) _ h) fun ret47v h=>?_))
   exact qT 4 ⟨55,[sp 2 2,e60a11],[e60a0,hB 70000 [.p (.sl t3) l,.p (.sl .bool) ret9v.1,.own 70001,.own 70002,.pU (ret47v.getD 0 0),.pU (ret47v.getD 1 0),.pU (ret47v.getD 2 0),.pU (ret47v.getD 3 0),.pU (ret47v.getD 4 0)],e60a6 ret24v,e60a4 ret24v]⟩ (awl_nil (rest1 ((ret47v.getD 0 0),(ret47v.getD 1 0),(ret47v.getD 2 0),(ret47v.getD 3 0),(ret47v.getD 4 0)) h))
  ·exact qC ⟨55,[sp 2 2,e60a11],[e60a0,e60a3 l ret9v ret24v,e60a6 ret24v,e60a4 ret24v]⟩ (aw_skip (rest1 ((ret24v.1.2.1.getD 0 0),(ret24v.1.2.1.getD 1 0),(ret24v.1.2.1.getD 2 0),(ret24v.1.2.1.getD 3 0),(ret24v.1.2.1.getD 4 0)) h))
abbrev e89_0 (a:Lqg):=hB 3 [.pS a.1,.p (.sl (.ar 4 (.int .u64))) a.2.1,.pU (a.2.2.getD 0 0),.pU (a.2.2.getD 1 0),.pU (a.2.2.getD 2 0),.pU (a.2.2.getD 3 0),.pU (a.2.2.getD 4 0)]
abbrev e89_1:Nat×Path×Con:=(6,[],.vec 5 (.int .u64) (List.replicate 5 (0:Int)))
abbrev e89_2:Nat×Path×Con:=(8,[],.vec 5 (.int .u64) (List.replicate 5 (0:Int)))
abbrev e89_3 (a:Lqg) (v15:Int):=sA 26 [.pU ((a.2.1.getD (v15).toNat (List.replicate 5 (0:Int))).getD 0 0),.pU ((a.2.1.getD (v15).toNat (List.replicate 5 (0:Int))).getD 1 0),.pU ((a.2.1.getD (v15).toNat (List.replicate 5 (0:Int))).getD 2 0),.pU ((a.2.1.getD (v15).toNat (List.replicate 5 (0:Int))).getD 3 0),.pU ((a.2.1.getD (v15).toNat (List.replicate 5 (0:Int))).getD 4 0)]
abbrev e89_4 (all:LI):Nat×Path×Con:=(7,[],.vec 5 (.int .u64) all)
abbrev e89_5 (sv:LI):Nat×Path×Con:=(4,[],.vec 5 (.int .u64) (a5 sv))
abbrev e89_6 (a:Lqg):=sI 14 (a.1.length:Int)
abbrev e89_7 (a:Lqg):=sI 31 (a.1.length:Int)
abbrev e89_8 (out:LI):Nat×Path×Con:=(8,[],.vec 5 (.int .u64) out)
abbrev e89_9 (a:Lqg):=s1 30 (.pS a.1)
abbrev e89_10:Nat×Path×Con:=(7,[],.vec 5 (.int .u64) (List.replicate 5 (0:Int)))
-- (coppicer/glyph.Auto).Step
def VC89_k2 (K:LI→Prop) (out:LI):Prop :=
  K (a5 out)
def VC89_k3 (v32:Int) (X1:Int×LI→Prop) (out2:LI):Prop :=
  (InR (v32+(1:Int))∧X1 ((v32+(1:Int)),out2))
def VC89_l1 (a:Lqg) (sym:Int) (K:LI→Prop) (all:LI) (v32:Int) (out:LI) (X1:Int×LI→Prop):Prop :=
  (((decide (v32<(a.1.length:Int)))=true→(inIdx v32 a.1.length∧gcall (α:=Bool) (decide ((a.1.getD (v32).toNat (0:Int))=sym)) (VC61 (a5 all) v32) false (fun (ret43v:Bool)=>((((decide ((a.1.getD (v32).toNat (0:Int))=sym))&&ret43v)=true→VC88 (a5 out) v32 (fun (ret47v:LI)=>VC89_k3 v32 X1 (a5 ret47v)))∧(((decide ((a.1.getD (v32).toNat (0:Int))=sym))&&ret43v)=false→VC89_k3 v32 X1 out)))))∧((decide (v32<(a.1.length:Int)))=false→VC89_k2 K out))
def VC89_k1 (a:Lqg) (sym:Int) (K:LI→Prop) (all:LI):Prop :=
  Loop (σ:=Int×LI) (fun s X=>VC89_l1 a sym K all s.1 s.2 X) ((0:Int),(List.replicate 5 (0:Int)))
def VC89_k4 (v15:Int) (X2:Int×LI→Prop) (all2:LI):Prop :=
  (InR (v15+(1:Int))∧X2 ((v15+(1:Int)),all2))
def VC89_l2 (a:Lqg) (sv:LI) (sym:Int) (K:LI→Prop) (v15:Int) (all:LI) (X2:Int×LI→Prop):Prop :=
  (((decide (v15<(a.1.length:Int)))=true→VC61 (a5 sv) v15 (fun (ret20v:Bool)=>((ret20v=true→(inIdx v15 a.2.1.length∧VC102 (a5 all) (a5 (a.2.1.getD (v15).toNat (List.replicate 5 (0:Int)))) (fun (ret27v:LI)=>VC89_k4 v15 X2 (a5 ret27v))))∧(ret20v=false→VC89_k4 v15 X2 all))))∧((decide (v15<(a.1.length:Int)))=false→VC89_k1 a sym K all))
def VC89 (a:Lqg) (sv:LI) (sym:Int) (K:LI→Prop):Prop :=
  Loop (σ:=Int×LI) (fun s X=>VC89_l2 a sv sym K s.1 s.2 X) ((0:Int),(List.replicate 5 (0:Int)))
abbrev alx0 (a:Lqg) (v32 sym:Int):=decide ((a.1.getD (v32).toNat (0:Int))=sym)
theorem link89 (a:Lqg) (sv:LI) (sym:Int) (K:LI→Prop) (h:VC89 a sv sym K):ACalls Try.prog 89 [toV1 (.pr (.sl tI) (.pr (.sl (.ar 4 (.int .u64))) (.ar 4 (.int .u64)))) a,toV1 (.ar 4 (.int .u64)) sv,toV1 tI sym] (fun res=>∃ y,res=(fun y=>[toV1 (.ar 4 (.int .u64)) y]) y∧K y):=by
 refine acalls_of_aw [(.ar 4 (.int .u64))] [.c 6 114] Try.func89 rfl rfl rfl ?_
 unfold VC89 at h
 refine sr (qT 3 ⟨50,[sI 2 sym,sp 3 3,sp 4 4,sp 6 6],[e89_0 a,e89_5 sv,e89_1]⟩ (nsr (qT 2 ⟨50,[sI 2 sym,sp 3 3,sp 4 4,sp 6 6,sp 7 7,sp 8 8],[e89_0 a,e89_5 sv,e89_1,e89_10,e89_2]⟩ (nn (aw_seq (qS 4 ⟨50,[sI 2 sym,sp 3 3,sp 4 4,sp 6 6,sp 7 7,sp 8 8,e89_6 a,sI 15 (0:Int)],[e89_0 a,e89_5 sv,e89_1,e89_10,e89_2]⟩ (withJoin (σ:=LI) (fun s=>⟨50,[sI 2 sym,sp 3 3,sp 6 6,sp 7 7,sp 8 8],[e89_0 a,e89_1,(7,[],.vec 5 (.int .u64) s),e89_2]⟩) (fun s=>VC89_k1 a sym K s) (fun all h=>?_) (fun rest3=>?_))))))))
 ·have h:VC89_k1 a sym K all:=h
  unfold VC89_k1 at h
  refine thenQ_n (aw_seq (qS 4 ⟨50,[sI 2 sym,sp 6 6,sp 7 7,sp 8 8,e89_9 a,e89_7 a,sI 32 (0:Int)],[e89_1,e89_4 all,e89_2]⟩ (withJoin (σ:=LI) (fun s=>⟨50,[sp 6 6,sp 8 8],[e89_1,(8,[],.vec 5 (.int .u64) s)]⟩) (fun s=>VC89_k2 K s) (fun out h=>?_) (fun rest1=>?_))))
  ·have h:VC89_k2 K out:=h
   unfold VC89_k2 at h
   exact thenQ_n (qS 2 ⟨50,[sp 6 6],[(6,[],.vec 5 (.int .u64) (a5 out))]⟩ (aw_ret (qE 1 h)))
  ·refine aw_block (aw_loop (σ:=Int×LI) (fun s=>⟨50,[sI 2 sym,sp 6 6,sp 7 7,sp 8 8,e89_9 a,e89_7 a,sI 32 s.1],[e89_1,e89_4 all,(8,[],.vec 5 (.int .u64) s.2)]⟩) (fun s X=>VC89_l1 a sym K all s.1 s.2 X) (s0:=((0:Int),(List.replicate 5 (0:Int)))) (fun s X1 h=>?_) h)
   obtain ⟨v32,out⟩:=s
   have h:VC89_l1 a sym K all v32 out X1:=h
   unfold VC89_l1 at h
   refine qS 1 ⟨50,[sI 2 sym,sp 6 6,sp 7 7,sp 8 8,e89_9 a,e89_7 a,sI 32 v32,sB 33 (decide (v32<(a.1.length:Int)))],[e89_1,e89_4 all,e89_8 out]⟩ (aw_seq (qI h (fun h=>?_) fun h=>?_))
   ·refine aw_skip (thenQ_n (aw_seq (aw_block (sr (qA 5 1 3 ⟨50,[sI 2 sym,sp 6 6,sp 7 7,sp 8 8,sI 10 v32,sI 11 (a.1.getD (v32).toNat (0:Int)),e89_9 a,e89_7 a,sI 32 v32],[e89_1,e89_4 all,e89_8 out]⟩ h fun h=>nsr (qR 6 ⟨50,[sI 2 sym,sp 6 6,sp 7 7,sp 8 8,sI 10 v32,e89_9 a,e89_7 a,sI 32 v32,sB 40 (alx0 a v32 sym),(41,[(40,true)],.v (.agg [.pU (all.getD 0 0),.pU (all.getD 1 0),.pU (all.getD 2 0),.pU (all.getD 3 0),.pU (all.getD 4 0)])),(42,[(40,true)],.v (.c (.pI v32)))],[e89_1,e89_4 all,e89_8 out]⟩ (ob:=Ts 4 (Ti 2 ((alx0 a v32 sym)=true→True) True)) (tsI 4 (tiI 2 (fun _=>trivial) trivial)) ?_))))))
    refine awl_callk (p:=[(40,true)]) (l:=[toV1 (.ar 4 (.int .u64)) (a5 all),toV1 tI v32]) (cl:=[]) false [.d (.ar 4 (.int .u64)),.d tI] [2,6,7,8,10,30,31,32,40,43] [6,7,8] (fun (ret43v:Bool)=>((((alx0 a v32 sym)&&ret43v)=true→VC88 (a5 out) v32 (fun (ret47v:LI)=>VC89_k3 v32 X1 (a5 ret47v)))∧(((alx0 a v32 sym)&&ret43v)=false→VC89_k3 v32 X1 out))) (fun ret43v=>[toV1 .bool ret43v]) (fun ret43v=>⟨50,[sI 2 sym,sp 6 6,sp 7 7,sp 8 8,sI 10 v32,e89_9 a,e89_7 a,sI 32 v32,sB 40 (alx0 a v32 sym),(43,[(40,true)],.v (.c (.pB ret43v)))],[e89_1,e89_4 all,e89_8 out]⟩) (by kernel_rfl) rfl (by kernel_rfl) rfl (by kernel_rfl) Try.call61 (by kernel_rfl) (fun ret43v=>by kernel_rfl) (fun e=>by cases e) (fun hg=>link61 (a5 all) v32 _ (by have:=gcall_T h (show (alx0 a v32 sym)=true from hg);exact this)) (fun hg=>⟨false,by have:=gcall_F h (show (alx0 a v32 sym)=false from hg);exact this⟩) (fun ret43v h=>?_)
    refine qT 1 ⟨50,[sI 2 sym,sp 6 6,sp 7 7,sp 8 8,sI 10 v32,e89_9 a,e89_7 a,sI 32 v32,sB 44 ((alx0 a v32 sym)&&ret43v)],[e89_1,e89_4 all,e89_8 out]⟩ (nn (withJoin (σ:=LI) (fun s=>⟨50,[sI 2 sym,sp 6 6,sp 7 7,sp 8 8,e89_9 a,e89_7 a,sI 32 v32],[e89_1,e89_4 all,(8,[],.vec 5 (.int .u64) s)]⟩) (fun s=>VC89_k3 v32 X1 s) (fun out2 h=>?_) (fun rest2=>?_)))
    ·have h:VC89_k3 v32 X1 out2:=h
     unfold VC89_k3 at h
     exact blockQ_n (thenQ_n (aw_region (qA 2 0 1 ⟨50,[sI 2 sym,sp 6 6,sp 7 7,sp 8 8,e89_9 a,e89_7 a,sI 32 (v32+(1:Int))],[e89_1,e89_4 all,(8,[],.vec 5 (.int .u64) out2)]⟩ h fun h=>awl_nil (thenQ_n ⟨((v32+(1:Int)),out2),rfl,h⟩))))
    ·refine qI h (fun h=>?_) fun h=>?_
     ·refine aw_region (qT 2 ⟨50,[sI 2 sym,sp 6 6,sp 7 7,sp 8 8,e89_9 a,e89_7 a,sI 32 v32,sA 45 [.pU (out.getD 0 0),.pU (out.getD 1 0),.pU (out.getD 2 0),.pU (out.getD 3 0),.pU (out.getD 4 0)],sI 46 v32],[e89_1,e89_4 all,e89_8 out]⟩ (qK 47 [.d (.ar 4 (.int .u64)),.d tI] (fun ret47v=>⟨50,[sI 2 sym,sp 6 6,sp 7 7,sp 8 8,e89_9 a,e89_7 a,sI 32 v32,sA 47 [.pU (ret47v.getD 0 0),.pU (ret47v.getD 1 0),.pU (ret47v.getD 2 0),.pU (ret47v.getD 3 0),.pU (ret47v.getD 4 0)]],[e89_1,e89_4 all,e89_8 out]⟩) Try.call88 (link88 (a5 out) v32 _ h) fun ret47v h=>?_))
      exact qT 1 ⟨50,[sI 2 sym,sp 6 6,sp 7 7,sp 8 8,e89_9 a,e89_7 a,sI 32 v32],[e89_1,e89_4 all,(8,[],.vec 5 (.int .u64) (a5 ret47v))]⟩ (awl_nil (rest2 (a5 ret47v) h))
     ·exact qC ⟨50,[sI 2 sym,sp 6 6,sp 7 7,sp 8 8,e89_9 a,e89_7 a,sI 32 v32],[e89_1,e89_4 all,e89_8 out]⟩ (aw_skip (rest2 out h))
   ·exact qC ⟨50,[sp 6 6,sp 8 8],[e89_1,e89_8 out]⟩ (aw_exit (thenQ_x (thenQ_x (blockQ_hit (rest1 out h)))))
 ·refine aw_block (aw_loop (σ:=Int×LI) (fun s=>⟨50,[sI 2 sym,sp 3 3,sp 4 4,sp 6 6,sp 7 7,sp 8 8,e89_6 a,sI 15 s.1],[e89_0 a,e89_5 sv,e89_1,(7,[],.vec 5 (.int .u64) s.2),e89_2]⟩) (fun s X=>VC89_l2 a sv sym K s.1 s.2 X) (s0:=((0:Int),(List.replicate 5 (0:Int)))) (fun s X2 h=>?_) h)
  obtain ⟨v15,all⟩:=s
  have h:VC89_l2 a sv sym K v15 all X2:=h
  unfold VC89_l2 at h
  refine qS 1 ⟨50,[sI 2 sym,sp 3 3,sp 4 4,sp 6 6,sp 7 7,sp 8 8,e89_6 a,sI 15 v15,sB 16 (decide (v15<(a.1.length:Int)))],[e89_0 a,e89_5 sv,e89_1,e89_4 all,e89_2]⟩ (aw_seq (qI h (fun h=>?_) fun h=>?_))
  ·refine aw_skip (thenQ_n (aw_seq (aw_block (sr (qT 2 ⟨50,[sI 2 sym,sp 3 3,sp 4 4,sp 6 6,sp 7 7,sp 8 8,sI 9 v15,e89_6 a,sI 15 v15],[e89_0 a,e89_5 sv,e89_1,e89_4 all,e89_2]⟩ (nsr (qT 2 ⟨50,[sI 2 sym,sp 3 3,sp 4 4,sp 6 6,sp 7 7,sp 8 8,sI 9 v15,e89_6 a,sI 15 v15,sA 18 [.pU (sv.getD 0 0),.pU (sv.getD 1 0),.pU (sv.getD 2 0),.pU (sv.getD 3 0),.pU (sv.getD 4 0)],sI 19 v15],[e89_0 a,e89_5 sv,e89_1,e89_4 all,e89_2]⟩ (qK 20 [.d (.ar 4 (.int .u64)),.d tI] (fun ret20v=>⟨50,[sI 2 sym,sp 3 3,sp 4 4,sp 6 6,sp 7 7,sp 8 8,sI 9 v15,e89_6 a,sI 15 v15,sB 20 ret20v],[e89_0 a,e89_5 sv,e89_1,e89_4 all,e89_2]⟩) Try.call61 (link61 (a5 sv) v15 _ h) fun ret20v h=>?_))))))))
   refine nn (withJoin (σ:=LI) (fun s=>⟨50,[sI 2 sym,sp 3 3,sp 4 4,sp 6 6,sp 7 7,sp 8 8,e89_6 a,sI 15 v15],[e89_0 a,e89_5 sv,e89_1,(7,[],.vec 5 (.int .u64) s),e89_2]⟩) (fun s=>VC89_k4 v15 X2 s) (fun all2 h=>?_) (fun rest4=>?_))
   ·have h:VC89_k4 v15 X2 all2:=h
    unfold VC89_k4 at h
    exact blockQ_n (thenQ_n (aw_region (qA 2 0 1 ⟨50,[sI 2 sym,sp 3 3,sp 4 4,sp 6 6,sp 7 7,sp 8 8,e89_6 a,sI 15 (v15+(1:Int))],[e89_0 a,e89_5 sv,e89_1,(7,[],.vec 5 (.int .u64) all2),e89_2]⟩ h fun h=>awl_nil (thenQ_n ⟨((v15+(1:Int)),all2),rfl,h⟩))))
   ·refine qI h (fun h=>?_) fun h=>?_
    ·refine awd_begin [7] (by kernel_rfl) ?_
     obtain ⟨o1,h⟩:=h
     refine qDO 3 1 [1,2,3,4,5] [5,4,3,2,1] ⟨50,[sI 2 sym,sp 3 3,sp 4 4,sp 6 6,sp 7 7,sp 8 8,e89_6 a,sI 15 v15,e89_3 a v15],[e89_0 a,e89_5 sv,e89_1,e89_4 all,e89_2]⟩ o1 (awd_one (i:=0) (by kernel_rfl) ?_)
     refine dsq (ob:=True) (st':=⟨50,[sI 2 sym,sp 3 3,sp 4 4,sp 6 6,sp 7 7,sp 8 8,e89_6 a,sI 15 v15,sA 21 [.pU (all.getD 0 0),.pU (all.getD 1 0),.pU (all.getD 2 0),.pU (all.getD 3 0),.pU (all.getD 4 0)],e89_3 a v15],[e89_0 a,e89_5 sv,e89_1,e89_4 all,e89_2]⟩) rfl (by kernel_rfl) trivial ?_
     refine awd_one (i:=6) (by kernel_rfl) ?_
     refine dcq (d:=27) [.d (.ar 4 (.int .u64)),.d (.ar 4 (.int .u64))] (fun ret27v=>⟨50,[sI 2 sym,sp 3 3,sp 4 4,sp 6 6,sp 7 7,sp 8 8,e89_6 a,sI 15 v15,sA 27 [.pU (ret27v.getD 0 0),.pU (ret27v.getD 1 0),.pU (ret27v.getD 2 0),.pU (ret27v.getD 3 0),.pU (ret27v.getD 4 0)]],[e89_0 a,e89_5 sv,e89_1,e89_4 all,e89_2]⟩) rfl (by kernel_rfl) Try.call102 (fun _=>by kernel_rfl) (link102 (a5 all) (a5 (a.2.1.getD (v15).toNat (List.replicate 5 (0:Int)))) _ h) (fun ret27v h=>(awd_one (i:=7) (by kernel_rfl) ?_))
     refine dsq (ob:=True) (st':=⟨50,[sI 2 sym,sp 3 3,sp 4 4,sp 6 6,sp 7 7,sp 8 8,e89_6 a,sI 15 v15],[e89_0 a,e89_5 sv,e89_1,(7,[],.vec 5 (.int .u64) (a5 ret27v)),e89_2]⟩) rfl (by kernel_rfl) trivial ?_
     refine awd_done (by kernel_rfl) ?_
     exact rest4 (a5 ret27v) h
    ·exact qC ⟨50,[sI 2 sym,sp 3 3,sp 4 4,sp 6 6,sp 7 7,sp 8 8,e89_6 a,sI 15 v15],[e89_0 a,e89_5 sv,e89_1,e89_4 all,e89_2]⟩ (aw_skip (rest4 all h))
  ·exact qC ⟨50,[sI 2 sym,sp 3 3,sp 6 6,sp 7 7,sp 8 8],[e89_0 a,e89_1,e89_4 all,e89_2]⟩ (aw_exit (thenQ_x (thenQ_x (blockQ_hit (rest3 all h)))))
abbrev e90_0 (sv:LI):Nat×Path×Con:=(2,[],.vec 5 (.int .u64) (a5 sv))
abbrev e90_1 (tv:LI):Nat×Path×Con:=(3,[],.vec 5 (.int .u64) (a5 tv))
-- (coppicer/glyph.Set).Meets
def VC90_k1 (K:Bool→Prop):Prop :=
  K false
def VC90_l1 (sv tv:LI) (K:Bool→Prop) (v6:Int) (X1:Int→Prop):Prop :=
  (((decide (v6<(5:Int)))=true→(inIdx v6 5∧inIdx v6 5∧(((!decide ((bAnd .u64 ((a5 sv).getD ((v6).toNat) (0:Int)) ((a5 tv).getD ((v6).toNat) (0:Int)))=(0:Int)))=true→K true)∧((!decide ((bAnd .u64 ((a5 sv).getD ((v6).toNat) (0:Int)) ((a5 tv).getD ((v6).toNat) (0:Int)))=(0:Int)))=false→(InR (v6+(1:Int))∧X1 (v6+(1:Int)))))))∧((decide (v6<(5:Int)))=false→VC90_k1 K))
def VC90 (sv tv:LI) (K:Bool→Prop):Prop :=
  Loop (σ:=Int) (fun s X=>VC90_l1 sv tv K s X) (0:Int)
theorem link90 (sv tv:LI) (K:Bool→Prop) (h:VC90 sv tv K):ACalls Try.prog 90 [toV1 (.ar 4 (.int .u64)) sv,toV1 (.ar 4 (.int .u64)) tv] (fun res=>∃ y,res=(fun y=>[toV1 .bool y]) y∧K y):=by
 refine acalls_of_aw [.bool] [.t 4] Try.func90 rfl rfl rfl ?_
 unfold VC90 at h
 refine qS 3 ⟨18,[sp 2 2,sp 3 3],[e90_0 sv,e90_1 tv]⟩ (aw_seq (qS 1 ⟨18,[sp 2 2,sp 3 3,sI 6 (0:Int)],[e90_0 sv,e90_1 tv]⟩ (withJoin (σ:=Unit) (fun s=>⟨18,[],[]⟩) (fun s=>VC90_k1 K) (fun s h=>?_) (fun rest1=>?_))))
 ·have h:VC90_k1 K:=h
  unfold VC90_k1 at h
  exact thenQ_n (qS 1 ⟨18,[sB 4 false],[]⟩ (aw_ret (qE 1 h)))
 ·refine aw_block (aw_loop (σ:=Int) (fun s=>⟨18,[sp 2 2,sp 3 3,sI 6 s],[e90_0 sv,e90_1 tv]⟩) (fun s X=>VC90_l1 sv tv K s X) (s0:=(0:Int)) (fun v6 X1 h=>?_) h)
  have h:VC90_l1 sv tv K v6 X1:=h
  unfold VC90_l1 at h
  refine qS 1 ⟨18,[sp 2 2,sp 3 3,sI 6 v6,sB 7 (decide (v6<(5:Int)))],[e90_0 sv,e90_1 tv]⟩ (aw_seq (qI h (fun h=>?_) fun h=>?_))
  ·refine aw_skip (thenQ_n (aw_seq (aw_block (qS 2 ⟨18,[sp 2 2,sp 3 3,sI 5 v6,sI 6 v6],[e90_0 sv,e90_1 tv]⟩ (aw_seq (awd_begin [] (by kernel_rfl) ?_))))))
   obtain ⟨o1,o2,h⟩:=h
   refine qD [0,1,2,3,4,5,6,7] [7,6,5,4,3,2,1,0] ⟨18,[sp 2 2,sp 3 3,sI 6 v6,sB 16 (!decide ((bAnd .u64 ((a5 sv).getD ((v6).toNat) (0:Int)) ((a5 tv).getD ((v6).toNat) (0:Int)))=(0:Int)))],[e90_0 sv,e90_1 tv]⟩ (ob:=Ts 1 (inIdx v6 5∧Ts 2 (inIdx v6 5∧Ts 3 True))) (tsI 1 (⟨o1,tsI 2 ⟨o2,tsI 3 trivial⟩⟩)) ?_
   refine awd_done (by kernel_rfl) ?_
   refine thenQ_n (qI h (fun h=>?_) fun h=>?_)
   ·exact qS 1 ⟨18,[sB 4 true],[]⟩ (aw_ret (blockQ_r (thenQ_r (thenQ_r (blockQ_r (thenQ_r (qE 1 h)))))))
   ·exact aw_skip (blockQ_n (thenQ_n (aw_region (qA 2 0 1 ⟨18,[sp 2 2,sp 3 3,sI 6 (v6+(1:Int))],[e90_0 sv,e90_1 tv]⟩ h fun h=>awl_nil (thenQ_n ⟨(v6+(1:Int)),rfl,h⟩)))))
  ·exact qC ⟨18,[],[]⟩ (aw_exit (thenQ_x (thenQ_x (blockQ_hit (rest1 () h)))))
abbrev e52_0 (ret18v:Lqg):=hB 5 [.pS ret18v.1,.p (.sl (.ar 4 (.int .u64))) ret18v.2.1,.pU (ret18v.2.2.getD 0 0),.pU (ret18v.2.2.getD 1 0),.pU (ret18v.2.2.getD 2 0),.pU (ret18v.2.2.getD 3 0),.pU (ret18v.2.2.getD 4 0)]
abbrev e52_1 (number2:Lqe):Nat×Path×Con:=(21,[],.dict (.ar 4 (.int .u64)) tI number2)
abbrev e52_2 (l6180:LL):Nat×Path×Con:=(6180,[],.deep 26 3 (.sl tI) l6180 [])
abbrev e52_3 (k:Int):=sI 35 ((List.replicate (k).toNat (0:Int)).length:Int)
abbrev e52_4 (l6181:LI):=hA 6181 3 tI l6181
abbrev e52_5:=hB 4 [.nils,.nils]
abbrev e52_6 (setsv2:LL):=hA 25 114 (.ar 4 (.int .u64)) setsv2
abbrev e52_7:=hB 9 [.own 6180,.own 6181]
abbrev e52_8 (setsv2:LL) (i:Int):=sA 43 [.pU ((setsv2.getD ((i).toNat) (List.replicate 5 (0:Int))).getD 0 0),.pU ((setsv2.getD ((i).toNat) (List.replicate 5 (0:Int))).getD 1 0),.pU ((setsv2.getD ((i).toNat) (List.replicate 5 (0:Int))).getD 2 0),.pU ((setsv2.getD ((i).toNat) (List.replicate 5 (0:Int))).getD 3 0),.pU ((setsv2.getD ((i).toNat) (List.replicate 5 (0:Int))).getD 4 0)]
abbrev e52_9:=s1 7 (.own 21)
abbrev e52_10 (ret20v:LI):Nat×Path×Con:=(21,[],.dict (.ar 4 (.int .u64)) tI (mset ([]:List (LI×Int)) (a5 ret20v) (0:Int)))
abbrev e52_11 (l6180:LL) (row:LI):Nat×Path×Con:=(72,[],.deep 26 3 (.sl tI) (l6180++[row]) [])
abbrev e52_12:=s1 8 (.own 25)
abbrev e52_13 (row:LI):=hA 33 3 tI row
abbrev e52_14 (ret18v:Lqg):=sA 39 [.pS ret18v.1,.p (.sl (.ar 4 (.int .u64))) ret18v.2.1,.pU (ret18v.2.2.getD 0 0),.pU (ret18v.2.2.getD 1 0),.pU (ret18v.2.2.getD 2 0),.pU (ret18v.2.2.getD 3 0),.pU (ret18v.2.2.getD 4 0)]
abbrev e52_15:=s1 11 (.own 33)
abbrev e52_16 (ret45v:LI):=sA 45 [.pU (ret45v.getD 0 0),.pU (ret45v.getD 1 0),.pU (ret45v.getD 2 0),.pU (ret45v.getD 3 0),.pU (ret45v.getD 4 0)]
abbrev e52_17 (ret20v:LI):=hA 25 114 (.ar 4 (.int .u64)) [(a5 ret20v)]
abbrev e52_18:=hB 9 [.own 72,.own 6181]
abbrev e52_19:Nat×Path×Con:=(13,[],.vec 5 (.int .u64) (List.replicate 5 (0:Int)))
abbrev e52_20 (number3:Lqe):Nat×Path×Con:=(21,[],.dict (.ar 4 (.int .u64)) tI number3)
abbrev e52_21 (number:Lqe):Nat×Path×Con:=(21,[],.dict (.ar 4 (.int .u64)) tI number)
abbrev e52_22 (tov:LI):Nat×Path×Con:=(13,[],.vec 5 (.int .u64) tov)
abbrev e52_23:Nat×Path×Con:=(6180,[],.deep 26 3 (.sl tI) ([]:List LI) [])
abbrev e52_n0:List Nat:=[0,4,5,7,8,9,10,11,12,14,35,36]
-- coppicer/after.subsets
def VC52_k1 (K:(LL×LI)→Prop) (l6180:LL) (l6181:LI):Prop :=
  K (l6180,l6181)
def VC52_k3 (i:Int) (l6180:LL) (l6181:LI) (X1:Int×Lqe×LL×LL×LI→Prop) (number2:Lqe) (setsv2:LL) (row:LI) (is:Int):Prop :=
  (roomN (l6181.length+[is].length)∧(InR (i+(1:Int))∧X1 ((i+(1:Int)),number2,setsv2,(l6180++[row]),(l6181++[is]))))
def VC52_k2 (ret18v:Lqg) (i:Int) (l6180:LL) (l6181:LI) (X1:Int×Lqe×LL×LL×LI→Prop) (number2:Lqe) (setsv2:LL) (row:LI):Prop :=
  (roomN (l6180.length+[row].length)∧(inIdx i setsv2.length∧VC90 (a5 (setsv2.getD ((i).toNat) (List.replicate 5 (0:Int)))) (a5 ret18v.2.2) (fun (ret80v:Bool)=>((ret80v=true→VC52_k3 i l6180 l6181 X1 number2 setsv2 row (1:Int))∧(ret80v=false→VC52_k3 i l6180 l6181 X1 number2 setsv2 row (0:Int))))))
def VC52_k5 (v36:Int) (row:LI) (X2:Int×Lqe×LL×LI→Prop) (n:Int) (number3:Lqe) (setsv3:LL):Prop :=
  (inIdx v36 row.length∧(InR (v36+(1:Int))∧X2 ((v36+(1:Int)),number3,setsv3,(row.set ((v36).toNat) n))))
def VC52_k4 (v36:Int) (number2:Lqe) (setsv2:LL) (row:LI) (X2:Int×Lqe×LL×LI→Prop) (tov:LI):Prop :=
  (((!(mget number2 (a5 tov)).isSome)=true→(roomN (setsv2.length+[(a5 tov)].length)∧VC52_k5 v36 row X2 (setsv2.length:Int) (mset number2 (a5 tov) (setsv2.length:Int)) (setsv2++[(a5 tov)])))∧((!(mget number2 (a5 tov)).isSome)=false→VC52_k5 v36 row X2 ((mget number2 (a5 tov)).getD (0:Int)) number2 setsv2))
def VC52_l2 (k:Int) (ret18v:Lqg) (i:Int) (l6180:LL) (l6181:LI) (X1:Int×Lqe×LL×LL×LI→Prop) (v36:Int) (number2:Lqe) (setsv2:LL) (row:LI) (X2:Int×Lqe×LL×LI→Prop):Prop :=
  (((decide (v36<((List.replicate (k).toNat (0:Int)).length:Int)))=true→(inIdx i setsv2.length∧VC89 (ret18v.1,(ret18v.2.1,(a5 ret18v.2.2))) (a5 (setsv2.getD ((i).toNat) (List.replicate 5 (0:Int)))) v36 (fun (ret45v:LI)=>VC52_k4 v36 number2 setsv2 row X2 (a5 ret45v))))∧((decide (v36<((List.replicate (k).toNat (0:Int)).length:Int)))=false→VC52_k2 ret18v i l6180 l6181 X1 number2 setsv2 row))
def VC52_l1 (k:Int) (K:(LL×LI)→Prop) (ret18v:Lqg) (i:Int) (number:Lqe) (setsv l6180:LL) (l6181:LI) (X1:Int×Lqe×LL×LL×LI→Prop):Prop :=
  (((decide (i<(setsv.length:Int)))=true→(room k∧Loop (σ:=Int×Lqe×LL×LI) (fun s X=>VC52_l2 k ret18v i l6180 l6181 X1 s.1 s.2.1 s.2.2.1 s.2.2.2 X) ((0:Int),number,setsv,(List.replicate (k).toNat (0:Int)))))∧((decide (i<(setsv.length:Int)))=false→VC52_k1 K l6180 l6181))
def VC52 (k:Int) (l:LN) (K:(LL×LI)→Prop):Prop :=
  VC60 l (fun (ret18v:Lqg)=>VC88 [(0:Int),(0:Int),(0:Int),(0:Int),(0:Int)] (0:Int) (fun (ret20v:LI)=>Loop (σ:=Int×Lqe×LL×LL×LI) (fun s X=>VC52_l1 k K ret18v s.1 s.2.1 s.2.2.1 s.2.2.2.1 s.2.2.2.2 X) ((0:Int),(mset ([]:List (LI×Int)) (a5 ret20v) (0:Int)),[(a5 ret20v)],([]:List LI),([]:List Int))))
abbrev anx0 (setsv2:LL) (i:Int):=setsv2.getD ((i).toNat) (List.replicate 5 (0:Int))
theorem link52 (k:Int) (l:LN) (K:(LL×LI)→Prop) (h:VC52 k l K):ACalls Try.prog 52 [toV1 tI k,toV1 (.sl t3) l] (fun res=>∃ y,res=(fun y=>[toV1 (.pr (.sl (.sl tI)) (.sl tI)) y]) y∧K y):=by
 refine acalls_of_aw [(.pr (.sl (.sl tI)) (.sl tI))] [.c 4 103] Try.func52 rfl rfl rfl ?_
 unfold VC52 at h
 refine sr (qT 1 ⟨88,[sI 0 k,s1 1 (.p (.sl t3) l),sp 4 4],[e52_5]⟩ (nsr (qT 1 ⟨88,[sI 0 k,sp 4 4,s1 17 (.p (.sl t3) l)],[e52_5]⟩ (qK 18 [.d (.sl t3)] (fun ret18v=>⟨88,[sI 0 k,sp 4 4,sA 18 [.pS ret18v.1,.p (.sl (.ar 4 (.int .u64))) ret18v.2.1,.pU (ret18v.2.2.getD 0 0),.pU (ret18v.2.2.getD 1 0),.pU (ret18v.2.2.getD 2 0),.pU (ret18v.2.2.getD 3 0),.pU (ret18v.2.2.getD 4 0)]],[e52_5]⟩) Try.call60 (link60 l _ h) fun ret18v h=>?_))))
 refine qT 2 ⟨88,[sI 0 k,sp 4 4,sp 5 5],[e52_5,e52_0 ret18v]⟩ (nsr (qT 1 ⟨88,[sI 0 k,sp 4 4,sp 5 5,sA 19 [.pU (0:Int),.pU (0:Int),.pU (0:Int),.pU (0:Int),.pU (0:Int)]],[e52_5,e52_0 ret18v]⟩ (qK 20 [.d (.ar 4 (.int .u64)),.d tI] (fun ret20v=>⟨88,[sI 0 k,sp 4 4,sp 5 5,sA 20 [.pU (ret20v.getD 0 0),.pU (ret20v.getD 1 0),.pU (ret20v.getD 2 0),.pU (ret20v.getD 3 0),.pU (ret20v.getD 4 0)]],[e52_5,e52_0 ret18v]⟩) Try.call88 (link88 [(0:Int),(0:Int),(0:Int),(0:Int),(0:Int)] (0:Int) _ h) fun ret20v h=>?_)))
 refine qT 2 ⟨88,[sI 0 k,sp 4 4,sp 5 5,sp 6 6],[e52_5,e52_0 ret18v,(6,[],.vec 5 (.int .u64) (a5 ret20v))]⟩ (nsr (qT 5 ⟨88,[sI 0 k,sp 4 4,sp 5 5,sp 6 6,e52_9],[e52_5,e52_0 ret18v,(6,[],.vec 5 (.int .u64) (a5 ret20v)),e52_10 ret20v]⟩ (nsr (qT 3 ⟨88,[sI 0 k,sp 4 4,sp 5 5,e52_9,e52_12],[e52_5,e52_0 ret18v,e52_10 ret20v,e52_17 ret20v]⟩ (nsr (qT 1 ⟨88,[sI 0 k,sp 4 4,sp 5 5,e52_9,e52_12,sp 9 9],[e52_5,e52_0 ret18v,hB 9 [.nils,.nils],e52_10 ret20v,e52_17 ret20v]⟩ (nn (aw_seq (qS 1 ⟨88,[sI 0 k,sp 4 4,sp 5 5,e52_9,e52_12,sp 9 9,sI 10 (0:Int)],[e52_5,e52_0 ret18v,hB 9 [.nils,.nils],e52_10 ret20v,e52_17 ret20v]⟩ (withJoin (σ:=LL×LI) (fun s=>⟨88,[sp 4 4,sp 9 9],[e52_5,e52_7,(6180,[],.deep 26 3 (.sl tI) s.1 []),hA 6181 3 tI s.2]⟩) (fun s=>VC52_k1 K s.1 s.2) (fun s h=>?_) (fun rest1=>?_)))))))))))
 ·obtain ⟨l6180,l6181⟩:=s
  have h:VC52_k1 K l6180 l6181:=h
  unfold VC52_k1 at h
  refine thenQ_n (qS 2 ⟨88,[sp 4 4],[hB 4 [.own 6180,.own 6181],e52_2 l6180,e52_4 l6181]⟩ (cfd 6180 (ob:=True) (C:=[]) (st':=⟨88,[sp 4 4],[hB 4 [.p (.sl (.sl tI)) l6180,.own 6181],e52_4 l6181]⟩) (by kernel_rfl) trivial ?_))
  exact qV [.freeze 6181] ⟨88,[sp 4 4],[hB 4 [.p (.sl (.sl tI)) l6180,.pS l6181]]⟩ (aw_ret (qE 1 h))
 ·refine aw_block (cnb 9 0 6180 26 3 (.sl tI) (ob:=True) (C:=[]) (st':=⟨88,[sI 0 k,sp 4 4,sp 5 5,e52_9,e52_12,sp 9 9,sI 10 (0:Int)],[e52_23,e52_5,e52_0 ret18v,hB 9 [.own 6180,.nils],e52_10 ret20v,e52_17 ret20v]⟩) (by kernel_rfl) trivial ?_)
  refine qV [.nilOwnB 9 1 6181 3 tI,.prune [0,4,5,7,8,9,10] [4,5,9,21,25,6180,6181]] ⟨88,[sI 0 k,sp 4 4,sp 5 5,e52_9,e52_12,sp 9 9,sI 10 (0:Int)],[e52_5,e52_0 ret18v,e52_7,e52_10 ret20v,e52_17 ret20v,e52_23,hA 6181 3 tI ([]:List Int)]⟩ (aw_loop (σ:=Int×Lqe×LL×LL×LI) (fun s=>⟨88,[sI 0 k,sp 4 4,sp 5 5,e52_9,e52_12,sp 9 9,sI 10 s.1],[e52_5,e52_0 ret18v,e52_7,(21,[],.dict (.ar 4 (.int .u64)) tI s.2.1),hA 25 114 (.ar 4 (.int .u64)) s.2.2.1,(6180,[],.deep 26 3 (.sl tI) s.2.2.2.1 []),hA 6181 3 tI s.2.2.2.2]⟩) (fun s X=>VC52_l1 k K ret18v s.1 s.2.1 s.2.2.1 s.2.2.2.1 s.2.2.2.2 X) (s0:=((0:Int),(mset ([]:List (LI×Int)) (a5 ret20v) (0:Int)),[(a5 ret20v)],([]:List LI),([]:List Int))) (fun s X1 h=>?_) h)
  obtain ⟨i,number,setsv,l6180,l6181⟩:=s
  have h:VC52_l1 k K ret18v i number setsv l6180 l6181 X1:=h
  unfold VC52_l1 at h
  refine aw_seq (qS 4 ⟨88,[sI 0 k,sp 4 4,sp 5 5,e52_9,e52_12,sp 9 9,sI 10 i,sB 29 (decide (i<(setsv.length:Int)))],[e52_5,e52_0 ret18v,e52_7,e52_21 number,hA 25 114 (.ar 4 (.int .u64)) setsv,e52_2 l6180,e52_4 l6181]⟩ (qI h (fun h=>?_) fun h=>?_))
  ·refine aw_skip (thenQ_n (aw_seq (aw_block (sr (qA 3 1 1 ⟨88,[sI 0 k,sp 4 4,sp 5 5,e52_9,e52_12,sp 9 9,sI 10 i,e52_15],[e52_5,e52_0 ret18v,e52_7,e52_21 number,hA 25 114 (.ar 4 (.int .u64)) setsv,hA 33 3 tI (List.replicate (k).toNat (0:Int)),e52_2 l6180,e52_4 l6181]⟩ h fun h=>nn (aw_seq (qS 3 ⟨88,[sI 0 k,sp 4 4,sp 5 5,e52_9,e52_12,sp 9 9,sI 10 i,e52_15,e52_3 k,sI 36 (0:Int)],[e52_5,e52_0 ret18v,e52_7,e52_21 number,hA 25 114 (.ar 4 (.int .u64)) setsv,hA 33 3 tI (List.replicate (k).toNat (0:Int)),e52_2 l6180,e52_4 l6181]⟩ (withJoin (σ:=Lqe×LL×LI) (fun s=>⟨88,[sI 0 k,sp 4 4,sp 5 5,e52_9,e52_12,sp 9 9,sI 10 i,e52_15],[e52_5,e52_0 ret18v,e52_7,(21,[],.dict (.ar 4 (.int .u64)) tI s.1),hA 25 114 (.ar 4 (.int .u64)) s.2.1,hA 33 3 tI s.2.2,e52_2 l6180,e52_4 l6181]⟩) (fun s=>VC52_k2 ret18v i l6180 l6181 X1 s.1 s.2.1 s.2.2) (fun s h=>?_) (fun rest3=>?_)))))))))
   ·obtain ⟨number2,setsv2,row⟩:=s
    have h:VC52_k2 ret18v i l6180 l6181 X1 number2 setsv2 row:=h
    refine thenQ_n (sr (qT 3 ⟨88,[sI 0 k,sp 4 4,sp 5 5,e52_9,e52_12,sp 9 9,sI 10 i,s1 69 (.own 6180),s1 70 (.own 33)],[e52_5,e52_0 ret18v,e52_7,e52_1 number2,e52_6 setsv2,e52_13 row,e52_2 l6180,e52_4 l6181]⟩ (lmk 71 [33] (.deep 26 3 (.sl tI) [row] []) (ob:=True) rfl rfl (by kernel_rfl) (by kernel_rfl) trivial ?_)))
    refine qL ⟨88,[sI 0 k,sp 4 4,sp 5 5,e52_9,e52_12,sp 9 9,sI 10 i,s1 69 (.own 6180),s1 71 (.own 71)],[e52_5,e52_0 ret18v,e52_7,e52_1 number2,e52_6 setsv2,(71,[],.deep 26 3 (.sl tI) [row] []),e52_2 l6180,e52_4 l6181]⟩ ?_
    obtain ⟨o1,h⟩:=h
    refine lmk 72 [6180,71] (.deep 26 3 (.sl tI) (l6180++[row]) []) (ob:=roomN (l6180.length+[row].length)) rfl rfl (by kernel_rfl) (by kernel_rfl) o1 ?_
    refine qL ⟨88,[sI 0 k,sp 4 4,sp 5 5,e52_9,e52_12,sp 9 9,sI 10 i,s1 72 (.own 72)],[e52_5,e52_0 ret18v,hB 9 [.any,.own 6181],e52_1 number2,e52_6 setsv2,e52_11 l6180 row,e52_4 l6181]⟩ (qT 2 ⟨88,[sI 0 k,sp 4 4,sp 5 5,e52_9,e52_12,sp 9 9,sI 10 i],[e52_5,e52_0 ret18v,e52_18,e52_1 number2,e52_6 setsv2,e52_11 l6180 row,e52_4 l6181]⟩ (nsr (qT 1 ⟨88,[sI 0 k,sp 4 4,sp 5 5,e52_9,e52_12,sp 9 9,sI 10 i,sI 16 (0:Int)],[e52_5,e52_0 ret18v,e52_18,e52_1 number2,e52_6 setsv2,e52_11 l6180 row,e52_4 l6181]⟩ (nn (aw_seq (aw_seq (awd_begin [] (by kernel_rfl) ?_)))))))
    obtain ⟨o1,h⟩:=h
    refine qDO 2 3 [0,1,2,3,4,5] [5,4,3,2,1,0] ⟨88,[sI 0 k,sp 4 4,sp 5 5,e52_9,e52_12,sp 9 9,sI 10 i,sI 16 (0:Int),sA 77 [.pU ((anx0 setsv2 i).getD 0 0),.pU ((anx0 setsv2 i).getD 1 0),.pU ((anx0 setsv2 i).getD 2 0),.pU ((anx0 setsv2 i).getD 3 0),.pU ((anx0 setsv2 i).getD 4 0)],sA 79 [.pU (ret18v.2.2.getD 0 0),.pU (ret18v.2.2.getD 1 0),.pU (ret18v.2.2.getD 2 0),.pU (ret18v.2.2.getD 3 0),.pU (ret18v.2.2.getD 4 0)]],[e52_5,e52_0 ret18v,e52_18,e52_1 number2,e52_6 setsv2,e52_11 l6180 row,e52_4 l6181]⟩ o1 (awd_one (i:=6) (by kernel_rfl) ?_)
    refine dcq (d:=80) [.d (.ar 4 (.int .u64)),.d (.ar 4 (.int .u64))] (fun ret80v=>⟨88,[sI 0 k,sp 4 4,sp 5 5,e52_9,e52_12,sp 9 9,sI 10 i,sI 16 (0:Int),sB 80 ret80v],[e52_5,e52_0 ret18v,e52_18,e52_1 number2,e52_6 setsv2,e52_11 l6180 row,e52_4 l6181]⟩) rfl (by kernel_rfl) Try.call90 (fun _=>by kernel_rfl) (link90 (a5 (anx0 setsv2 i)) (a5 ret18v.2.2) _ h) (fun ret80v h=>(awd_done (by kernel_rfl) ?_))
    refine thenQ_n (withJoin (σ:=Int) (fun s=>⟨88,[sI 0 k,sp 4 4,sp 5 5,e52_9,e52_12,sp 9 9,sI 10 i,sI 16 s],[e52_5,e52_0 ret18v,e52_18,e52_1 number2,e52_6 setsv2,e52_11 l6180 row,e52_4 l6181]⟩) (fun s=>VC52_k3 i l6180 l6181 X1 number2 setsv2 row s) (fun is h=>?_) (fun rest2=>?_))
    ·have h:VC52_k3 i l6180 l6181 X1 number2 setsv2 row is:=h
     unfold VC52_k3 at h
     exact thenQ_n (aw_region (qA 7 4 2 ⟨88,[sI 0 k,sp 4 4,sp 5 5,e52_9,e52_12,sp 9 9,sI 10 i],[e52_5,e52_0 ret18v,hB 9 [.own 72,.own 85],e52_1 number2,e52_6 setsv2,e52_11 l6180 row,hA 85 3 tI (l6181++[is])]⟩ h fun h=>awl_nil (blockQ_n (thenQ_n (aw_region (qA 3 1 1 ⟨88,[sI 0 k,sp 4 4,sp 5 5,e52_9,e52_12,sp 9 9,sI 10 (i+(1:Int))],[e52_5,e52_0 ret18v,hB 9 [.own 72,.own 85],e52_1 number2,e52_6 setsv2,e52_11 l6180 row,hA 85 3 tI (l6181++[is])]⟩ h fun h=>qW [.ren 72 20072,.ren 85 20085,.ren 20072 6180,.ren 20085 6181] ⟨88,[sI 0 k,sp 4 4,sp 5 5,e52_9,e52_12,sp 9 9,sI 10 (i+(1:Int))],[e52_5,e52_0 ret18v,e52_7,e52_1 number2,e52_6 setsv2,(6180,[],.deep 26 3 (.sl tI) (l6180++[row]) []),hA 6181 3 tI (l6181++[is])]⟩ (awl_nil (thenQ_n ⟨((i+(1:Int)),number2,setsv2,(l6180++[row]),(l6181++[is])),rfl,h⟩))))))))
    ·refine qI h (fun h=>?_) fun h=>?_
     ·exact aw_region (qT 1 ⟨88,[sI 0 k,sp 4 4,sp 5 5,e52_9,e52_12,sp 9 9,sI 10 i,sI 16 (1:Int)],[e52_5,e52_0 ret18v,e52_18,e52_1 number2,e52_6 setsv2,e52_11 l6180 row,e52_4 l6181]⟩ (awl_nil (rest2 (1:Int) h)))
     ·exact qC ⟨88,[sI 0 k,sp 4 4,sp 5 5,e52_9,e52_12,sp 9 9,sI 10 i,sI 16 (0:Int)],[e52_5,e52_0 ret18v,e52_18,e52_1 number2,e52_6 setsv2,e52_11 l6180 row,e52_4 l6181]⟩ (aw_skip (rest2 (0:Int) h))
   ·refine aw_block (aw_loop (σ:=Int×Lqe×LL×LI) (fun s=>⟨88,[sI 0 k,sp 4 4,sp 5 5,e52_9,e52_12,sp 9 9,sI 10 i,e52_15,e52_3 k,sI 36 s.1],[e52_5,e52_0 ret18v,e52_7,(21,[],.dict (.ar 4 (.int .u64)) tI s.2.1),hA 25 114 (.ar 4 (.int .u64)) s.2.2.1,hA 33 3 tI s.2.2.2,e52_2 l6180,e52_4 l6181]⟩) (fun s X=>VC52_l2 k ret18v i l6180 l6181 X1 s.1 s.2.1 s.2.2.1 s.2.2.2 X) (s0:=((0:Int),number,setsv,(List.replicate (k).toNat (0:Int)))) (fun s X2 h=>?_) h)
    obtain ⟨v36,number2,setsv2,row⟩:=s
    have h:VC52_l2 k ret18v i l6180 l6181 X1 v36 number2 setsv2 row X2:=h
    unfold VC52_l2 at h
    refine qS 1 ⟨88,[sI 0 k,sp 4 4,sp 5 5,e52_9,e52_12,sp 9 9,sI 10 i,e52_15,e52_3 k,sI 36 v36,sB 37 (decide (v36<((List.replicate (k).toNat (0:Int)).length:Int)))],[e52_5,e52_0 ret18v,e52_7,e52_1 number2,e52_6 setsv2,e52_13 row,e52_2 l6180,e52_4 l6181]⟩ (aw_seq (qI h (fun h=>?_) fun h=>?_))
    ·refine aw_skip (thenQ_n (aw_seq (aw_block (qS 2 ⟨88,[sI 0 k,sp 4 4,sp 5 5,e52_9,e52_12,sp 9 9,sI 10 i,e52_15,sI 12 v36,e52_3 k,sI 36 v36],[e52_5,e52_0 ret18v,e52_7,e52_1 number2,e52_6 setsv2,e52_13 row,e52_2 l6180,e52_4 l6181]⟩ (aw_seq (withJoin (σ:=LI) (fun s=>⟨88,[sI 0 k,sp 4 4,sp 5 5,e52_9,e52_12,sp 9 9,sI 10 i,e52_15,sI 12 v36,sp 13 13,e52_3 k,sI 36 v36],[e52_5,e52_0 ret18v,e52_7,(13,[],.vec 5 (.int .u64) s),e52_1 number2,e52_6 setsv2,e52_13 row,e52_2 l6180,e52_4 l6181]⟩) (fun s=>VC52_k4 v36 number2 setsv2 row X2 s) (fun tov h=>?_) (fun rest5=>?_)))))))
     ·have h:VC52_k4 v36 number2 setsv2 row X2 tov:=h
      unfold VC52_k4 at h
      refine thenQ_n (qS 8 ⟨88,[sI 0 k,sp 4 4,sp 5 5,e52_9,e52_12,sp 9 9,sI 10 i,e52_15,sI 12 v36,sp 13 13,sI 14 ((mget number2 (a5 tov)).getD (0:Int)),sB 15 ((mget number2 (a5 tov)).isSome),e52_3 k,sI 36 v36],[e52_5,e52_0 ret18v,e52_7,e52_22 tov,e52_1 number2,e52_6 setsv2,e52_13 row,e52_2 l6180,e52_4 l6181]⟩ (aw_seq (qS 2 ⟨88,[sI 0 k,sp 4 4,sp 5 5,e52_9,e52_12,sp 9 9,sI 10 i,e52_15,sI 12 v36,sp 13 13,sI 14 ((mget number2 (a5 tov)).getD (0:Int)),e52_3 k,sI 36 v36,sB 53 (!(mget number2 (a5 tov)).isSome)],[e52_5,e52_0 ret18v,e52_7,e52_22 tov,e52_1 number2,e52_6 setsv2,e52_13 row,e52_2 l6180,e52_4 l6181]⟩ (withJoin (σ:=Int×Lqe×LL) (fun s=>⟨88,[sI 0 k,sp 4 4,sp 5 5,e52_9,s1 8 (.own 62),sp 9 9,sI 10 i,e52_15,sI 12 v36,sI 14 s.1,e52_3 k,sI 36 v36],[e52_5,e52_0 ret18v,e52_7,(21,[],.dict (.ar 4 (.int .u64)) tI s.2.1),e52_13 row,hA 62 114 (.ar 4 (.int .u64)) s.2.2,e52_2 l6180,e52_4 l6181]⟩) (fun s=>VC52_k5 v36 row X2 s.1 s.2.1 s.2.2) (fun s h=>?_) (fun rest4=>?_)))))
      ·obtain ⟨n,number3,setsv3⟩:=s
       have h:VC52_k5 v36 row X2 n number3 setsv3:=h
       unfold VC52_k5 at h
       exact thenQ_n (aw_region (qA 5 3 1 ⟨88,[sI 0 k,sp 4 4,sp 5 5,e52_9,s1 8 (.own 62),sp 9 9,sI 10 i,e52_15,e52_3 k,sI 36 v36],[e52_5,e52_0 ret18v,e52_7,e52_20 number3,hA 33 3 tI (row.set ((v36).toNat) n),hA 62 114 (.ar 4 (.int .u64)) setsv3,e52_2 l6180,e52_4 l6181]⟩ h fun h=>awl_nil (blockQ_n (thenQ_n (aw_region (qA 2 0 1 ⟨88,[sI 0 k,sp 4 4,sp 5 5,e52_9,s1 8 (.own 62),sp 9 9,sI 10 i,e52_15,e52_3 k,sI 36 (v36+(1:Int))],[e52_5,e52_0 ret18v,e52_7,e52_20 number3,hA 33 3 tI (row.set ((v36).toNat) n),hA 62 114 (.ar 4 (.int .u64)) setsv3,e52_2 l6180,e52_4 l6181]⟩ h fun h=>qW [.ren 62 20062,.ren 20062 25,.prune [0,4,5,7,8,9,10,11,35,36] [4,5,9,21,25,33,6180,6181]] ⟨88,[sI 0 k,sp 4 4,sp 5 5,e52_9,e52_12,sp 9 9,sI 10 i,e52_15,e52_3 k,sI 36 (v36+(1:Int))],[e52_5,e52_0 ret18v,e52_7,e52_20 number3,hA 25 114 (.ar 4 (.int .u64)) setsv3,hA 33 3 tI (row.set ((v36).toNat) n),e52_2 l6180,e52_4 l6181]⟩ (awl_nil (thenQ_n ⟨((v36+(1:Int)),number3,setsv3,(row.set ((v36).toNat) n)),rfl,h⟩))))))))
      ·refine qI h (fun h=>?_) fun h=>?_
       ·exact sr (qT 3 ⟨88,[sI 0 k,sp 4 4,sp 5 5,e52_9,e52_12,sp 9 9,sI 10 i,e52_15,sI 12 v36,sp 13 13,sI 14 (setsv2.length:Int),e52_3 k,sI 36 v36],[e52_5,e52_0 ret18v,e52_7,e52_22 tov,e52_1 number2,e52_6 setsv2,e52_13 row,e52_2 l6180,e52_4 l6181]⟩ (nsr (qT 4 ⟨88,[sI 0 k,sp 4 4,sp 5 5,e52_9,e52_12,sp 9 9,sI 10 i,e52_15,sI 12 v36,sp 13 13,sI 14 (setsv2.length:Int),e52_3 k,sI 36 v36],[e52_5,e52_0 ret18v,e52_7,e52_22 tov,(21,[],.dict (.ar 4 (.int .u64)) tI (mset number2 (a5 tov) (setsv2.length:Int))),e52_6 setsv2,e52_13 row,e52_2 l6180,e52_4 l6181]⟩ (nn (aw_region (qA 5 3 1 ⟨88,[sI 0 k,sp 4 4,sp 5 5,e52_9,s1 8 (.own 62),sp 9 9,sI 10 i,e52_15,sI 12 v36,sI 14 (setsv2.length:Int),e52_3 k,sI 36 v36],[e52_5,e52_0 ret18v,e52_7,(21,[],.dict (.ar 4 (.int .u64)) tI (mset number2 (a5 tov) (setsv2.length:Int))),e52_13 row,hA 62 114 (.ar 4 (.int .u64)) (setsv2++[(a5 tov)]),e52_2 l6180,e52_4 l6181]⟩ h fun h=>awl_nil (rest4 ((setsv2.length:Int),(mset number2 (a5 tov) (setsv2.length:Int)),(setsv2++[(a5 tov)])) h)))))))
       ·exact qV [.prune e52_n0 [4,5,9,21,25,33,6180,6181],.ren 25 20025,.ren 20025 62,.prune e52_n0 [4,5,9,21,33,62,6180,6181]] ⟨88,[sI 0 k,sp 4 4,sp 5 5,e52_9,s1 8 (.own 62),sp 9 9,sI 10 i,e52_15,sI 12 v36,sI 14 ((mget number2 (a5 tov)).getD (0:Int)),e52_3 k,sI 36 v36],[e52_5,e52_0 ret18v,e52_7,e52_1 number2,e52_13 row,hA 62 114 (.ar 4 (.int .u64)) setsv2,e52_2 l6180,e52_4 l6181]⟩ (aw_skip (rest4 (((mget number2 (a5 tov)).getD (0:Int)),number2,setsv2) h))
     ·refine awd_begin [13] (by kernel_rfl) ?_
      obtain ⟨o1,h⟩:=h
      refine qDO 3 2 [0,1,2,3,4,5] [5,4,3,2,1,0] ⟨88,[sI 0 k,sp 4 4,sp 5 5,e52_9,e52_12,sp 9 9,sI 10 i,e52_15,sI 12 v36,e52_3 k,sI 36 v36,e52_14 ret18v,e52_8 setsv2 i,sI 44 v36],[e52_5,e52_0 ret18v,e52_7,e52_1 number2,e52_6 setsv2,e52_13 row,e52_2 l6180,e52_4 l6181]⟩ o1 (awd_two (i:=6) (j:=7) (by kernel_rfl) ?_ ?_)
      ·have h:=h
       refine dcq (d:=45) [.d (.pr (.sl tI) (.pr (.sl (.ar 4 (.int .u64))) (.ar 4 (.int .u64)))),.d (.ar 4 (.int .u64)),.d tI] (fun ret45v=>⟨88,[sI 0 k,sp 4 4,sp 5 5,e52_9,e52_12,sp 9 9,sI 10 i,e52_15,sI 12 v36,e52_3 k,sI 36 v36,e52_16 ret45v],[e52_5,e52_0 ret18v,e52_7,e52_1 number2,e52_6 setsv2,e52_13 row,e52_2 l6180,e52_4 l6181]⟩) rfl (by kernel_rfl) Try.call89 (fun _=>by kernel_rfl) (link89 (ret18v.1,(ret18v.2.1,(a5 ret18v.2.2))) (a5 (anx0 setsv2 i)) v36 _ h) (fun ret45v h=>(awd_one (i:=7) (by kernel_rfl) ?_))
       refine dsq (ob:=True) (st':=⟨88,[sI 0 k,sp 4 4,sp 5 5,e52_9,e52_12,sp 9 9,sI 10 i,e52_15,sI 12 v36,sp 13 13,e52_3 k,sI 36 v36,e52_16 ret45v],[e52_5,e52_0 ret18v,e52_7,e52_19,e52_1 number2,e52_6 setsv2,e52_13 row,e52_2 l6180,e52_4 l6181]⟩) rfl (by kernel_rfl) trivial ?_
       refine awd_one (i:=8) (by kernel_rfl) ?_
       refine dsq (ob:=True) (st':=⟨88,[sI 0 k,sp 4 4,sp 5 5,e52_9,e52_12,sp 9 9,sI 10 i,e52_15,sI 12 v36,sp 13 13,e52_3 k,sI 36 v36],[e52_5,e52_0 ret18v,e52_7,(13,[],.vec 5 (.int .u64) (a5 ret45v)),e52_1 number2,e52_6 setsv2,e52_13 row,e52_2 l6180,e52_4 l6181]⟩) rfl (by kernel_rfl) trivial ?_
       refine awd_done (by kernel_rfl) ?_
       exact rest5 (a5 ret45v) h
      ·have h:=h
       refine dsq (ob:=True) (st':=⟨88,[sI 0 k,sp 4 4,sp 5 5,e52_9,e52_12,sp 9 9,sI 10 i,e52_15,sI 12 v36,sp 13 13,e52_3 k,sI 36 v36,e52_14 ret18v,e52_8 setsv2 i,sI 44 v36],[e52_5,e52_0 ret18v,e52_7,e52_19,e52_1 number2,e52_6 setsv2,e52_13 row,e52_2 l6180,e52_4 l6181]⟩) rfl (by kernel_rfl) trivial ?_
       refine awd_one (i:=6) (by kernel_rfl) ?_
       refine dcq (d:=45) [.d (.pr (.sl tI) (.pr (.sl (.ar 4 (.int .u64))) (.ar 4 (.int .u64)))),.d (.ar 4 (.int .u64)),.d tI] (fun ret45v=>⟨88,[sI 0 k,sp 4 4,sp 5 5,e52_9,e52_12,sp 9 9,sI 10 i,e52_15,sI 12 v36,sp 13 13,e52_3 k,sI 36 v36,e52_16 ret45v],[e52_5,e52_0 ret18v,e52_7,e52_19,e52_1 number2,e52_6 setsv2,e52_13 row,e52_2 l6180,e52_4 l6181]⟩) rfl (by kernel_rfl) Try.call89 (fun _=>by kernel_rfl) (link89 (ret18v.1,(ret18v.2.1,(a5 ret18v.2.2))) (a5 (anx0 setsv2 i)) v36 _ h) (fun ret45v h=>(awd_one (i:=8) (by kernel_rfl) ?_))
       refine dsq (ob:=True) (st':=⟨88,[sI 0 k,sp 4 4,sp 5 5,e52_9,e52_12,sp 9 9,sI 10 i,e52_15,sI 12 v36,sp 13 13,e52_3 k,sI 36 v36],[e52_5,e52_0 ret18v,e52_7,(13,[],.vec 5 (.int .u64) (a5 ret45v)),e52_1 number2,e52_6 setsv2,e52_13 row,e52_2 l6180,e52_4 l6181]⟩) rfl (by kernel_rfl) trivial ?_
       refine awd_done (by kernel_rfl) ?_
       exact rest5 (a5 ret45v) h
    ·exact qC ⟨88,[sI 0 k,sp 4 4,sp 5 5,e52_9,e52_12,sp 9 9,sI 10 i,e52_15],[e52_5,e52_0 ret18v,e52_7,e52_1 number2,e52_6 setsv2,e52_13 row,e52_2 l6180,e52_4 l6181]⟩ (aw_exit (thenQ_x (thenQ_x (blockQ_hit (rest3 (number2,setsv2,row) h)))))
  ·exact qC ⟨88,[sp 4 4,sp 9 9],[e52_5,e52_7,e52_2 l6180,e52_4 l6181]⟩ (aw_exit (thenQ_x (thenQ_x (blockQ_hit (rest1 (l6180,l6181) h)))))
-- slices.Clone[[]int,int]
def VC91 (sv:LI) (K:LI→Prop):Prop :=
  (∀ nil4:Bool,(nil4=true→sv=[])→((nil4=true→K ([]:List Int))∧(nil4=false→(roomN (([]:List Int).length+sv.length)∧K (([]:List Int)++sv)))))
theorem link91 (sv:LI) (K:LI→Prop) (h:VC91 sv K):ACallsO Try.prog 91 [toV1 (.sl tI) sv] 3 tI K:=by
 refine acallsO_of_aw 2 Try.func91 rfl rfl rfl ?_
 unfold VC91 at h
 refine qS 1 ⟨8,[s1 0 (.pS sv)],[]⟩ (aw_seq (sr (qT 1 ⟨8,[s1 0 (.pS sv),s1 3 (.pS sv)],[]⟩ (awl_nil_eql [0,4] [] (fun nil4=>⟨8,[s1 0 (.pS sv),sB 4 nil4],[]⟩) rfl rfl (by kernel_rfl) rfl (e:=3) (by kernel_rfl) (l:=sv) (u:=tI) (by kernel_rfl) (fun nil4=>by kernel_rfl) (fun nil4 hnil=>?_)))))
 have h:=h nil4 hnil
 refine nn (qI h (fun h=>?_) fun h=>?_)
 ·exact qS 1 ⟨8,[s1 2 (.nils)],[]⟩ (qV [.nilOwn 2 5002 3 tI] ⟨8,[s1 2 (.own 5002)],[hA 5002 3 tI ([]:List Int)]⟩ (aw_ret (thenQ_r (⟨5002,_,by kernel_rfl,by kernel_rfl,h⟩))))
 ·exact aw_skip (thenQ_n (sr (qA 4 2 1 ⟨8,[s1 2 (.own 7)],[hA 7 3 tI (([]:List Int)++sv)]⟩ h fun h=>nn (aw_ret (⟨7,_,by kernel_rfl,by kernel_rfl,h⟩)))))
end Dec
