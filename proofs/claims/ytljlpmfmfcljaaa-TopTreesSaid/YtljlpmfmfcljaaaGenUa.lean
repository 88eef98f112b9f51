/-
Printed by dec2.py: of each function its plain demand, and that the demand gives the contract.
-/
import Derived.Test.YtljlpmfmfcljaaaProg
import Derived.Test.YtljlpmfmfcljaaaDecCp
set_option linter.unusedSimpArgs false
set_option linter.unusedVariables false
set_option maxRecDepth 100000
namespace Dec
open Go Go.RowKit Go.Proofs
-- coppicer/grammar.Check$1
def VC37 (n:Int) (low:Int) (high:Int) (K:Bool→Prop):Prop :=
  K ((decide (low≤n))&&(decide (n≤high)))
set_option maxHeartbeats 4000000 in
theorem link37 (n:Int) (low:Int) (high:Int) (K:Bool→Prop) (h:VC37 n low high K):ACalls Try.prog 37 [toV1 tI n,toV1 tI low,toV1 tI high] (fun res=>∃ y,res=(fun y=>[toV1 .bool y]) y∧K y):=by
 refine acalls_of_aw [.bool] [.t 6] Try.func37 rfl rfl rfl ?_
 unfold VC37 at h
 refine sr ?_
 refine rqT 1 ⟨15,[sI 0 n,sI 1 low,sI 2 high],[]⟩ (by kernel_rfl) ?_
 refine nsr ?_
 refine rq 9 (ob:=(Ts 4 (Ti 3 ((decide (low≤n))=true→True) (Ts 2 True)))) (st':=(⟨15,[sB 6 ((decide (low≤n))&&(decide (n≤high)))],[]⟩:St)) (by kernel_rfl) (tsI 4 (tiI 3 (fun _=>trivial) (tsI 2 trivial))) ?_
 refine nn ?_
 refine aw_ret ?_
 exact retQ_r (ob:=Ts 1 True) _ (by kernel_rfl) (tsI 1 trivial) h
abbrev e52_0 (sv:LR):Nat×Path×AV:=s1 0 (.p (.sl tR) sv)
abbrev e52_1 (sv:LR):Nat×Path×AV:=sI 7 (sv.length:Int)
-- slices.IndexFunc[[]coppicer/api.Rule,coppicer/api.Rule]
def VC52_k1 (K:Int→Prop):Prop :=
  K (-1:Int)
def VC52_l1 (sv:LR) (F1:(Int×LI)→(Bool→Prop)→Prop) (K:Int→Prop) (v8:Int) (X1:Int→Prop):Prop :=
  (((decide (v8<(sv.length:Int)))=true→(inIdx v8 sv.length∧F1 (sv.getD (v8).toNat ((0:Int),([]:LI))) (fun (ret16v:Bool)=>((ret16v=true→K v8)∧(ret16v=false→(InR (v8+(1:Int))∧X1 (v8+(1:Int))))))))∧((decide (v8<(sv.length:Int)))=false→VC52_k1 K))
def VC52 (sv:LR) (F1:(Int×LI)→(Bool→Prop)→Prop) (K:Int→Prop):Prop :=
  Loop (σ:=Int) (fun s X=>VC52_l1 sv F1 K s X) (0:Int)
set_option maxHeartbeats 4000000 in
theorem link52 (sv:LR) (fv1:FuncId) (cv1:List Dat) (F1:(Int×LI)→(Bool→Prop)→Prop) (hF1:FnIs Try.prog fv1 cv1 (fun (x:(Int×LI))=>[toV1 tR x]) (fun (y:Bool)=>[toV1 .bool y]) F1) (K:Int→Prop) (h:VC52 sv F1 K):ACalls Try.prog 52 [toV1 (.sl tR) sv,.c (.fn fv1 cv1)] (fun res=>∃ y,res=(fun y=>[toV1 tI y]) y∧K y):=by
 refine acalls_of_aw [tI] [.t 4] Try.func52 rfl rfl rfl ?_
 unfold VC52 at h
 refine srn 1 ⟨19,[e52_0 sv,s1 1 (.fn fv1 cv1)],[]⟩ (by kernel_rfl) rfl ?_
 refine aw_seq ?_
 refine srn 3 ⟨19,[e52_0 sv,s1 1 (.fn fv1 cv1),e52_1 sv,sI 8 (0:Int)],[]⟩ (by kernel_rfl) rfl ?_
 refine withJoin (σ:=Unit) (fun s=>(⟨19,[],[]⟩:St)) (fun s=>VC52_k1 K) (fun s h=>?_) (fun rest1=>?_)
 ·have h:VC52_k1 K:=h
  unfold VC52_k1 at h
  refine thenQ_n ?_
  refine srn 1 ⟨19,[sI 4 (-1:Int)],[]⟩ (by kernel_rfl) rfl ?_
  refine aw_ret ?_
  exact retQ_r (ob:=Ts 1 True) _ (by kernel_rfl) (tsI 1 trivial) h
 ·refine aw_block ?_
  refine aw_loop (σ:=Int) (fun s=>(⟨19,[e52_0 sv,s1 1 (.fn fv1 cv1),e52_1 sv,sI 8 s],[]⟩:St)) (fun s X=>VC52_l1 sv F1 K s X) (s0:=(0:Int)) (fun v8 X1 h=>?_) h
  have h:VC52_l1 sv F1 K v8 X1:=h
  unfold VC52_l1 at h
  refine srn 1 ⟨19,[e52_0 sv,s1 1 (.fn fv1 cv1),e52_1 sv,sI 8 v8,sB 9 (decide (v8<(sv.length:Int)))],[]⟩ (by kernel_rfl) rfl ?_
  refine aw_seq ?_
  refine aw_cond (b:=(decide (v8<(sv.length:Int)))) (by kernel_rfl) (fun hb=>?_) (fun hb=>?_)
  ·have h:=h.1 hb
   refine aw_skip ?_
   refine thenQ_n ?_
   refine aw_seq ?_
   refine aw_block ?_
   refine sr ?_
   refine rqT 2 ⟨19,[e52_0 sv,s1 1 (.fn fv1 cv1),sI 5 v8,e52_1 sv,sI 8 v8],[]⟩ (by kernel_rfl) ?_
   refine nsr ?_
   obtain ⟨o1,h⟩:=h
   refine rq 5 (ob:=(Ts 3 (inIdx v8 sv.length∧Ts 1 True))) (st':=(⟨19,[e52_0 sv,s1 1 (.fn fv1 cv1),sI 5 v8,e52_1 sv,sI 8 v8,s1 11 (.fn fv1 cv1),sA 15 [.pI ((sv.getD (v8).toNat ((0:Int),([]:LI))).1),.pS ((sv.getD (v8).toNat ((0:Int),([]:LI))).2)]],[]⟩:St)) (by kernel_rfl) (tsI 3 ⟨o1,tsI 1 trivial⟩) ?_
   refine lcq (d:=16) [.d tR] (fun ret16v=>(⟨19,[e52_0 sv,s1 1 (.fn fv1 cv1),sI 5 v8,e52_1 sv,sI 8 v8,sB 16 ret16v],[]⟩:St)) (by kernel_rfl) hF1.1 (fun _=>by kernel_rfl) (hF1.2 (sv.getD (v8).toNat ((0:Int),([]:LI))) _ h) (fun ret16v h=>?_)
   refine nn ?_
   refine aw_cond (b:=ret16v) (by kernel_rfl) (fun hb=>?_) (fun hb=>?_)
   ·have h:=h.1 hb
    refine srn 2 ⟨19,[sI 4 v8],[]⟩ (by kernel_rfl) rfl ?_
    refine aw_ret ?_
    refine blockQ_r ?_
    refine thenQ_r ?_
    refine thenQ_r ?_
    refine blockQ_r ?_
    refine thenQ_r ?_
    exact retQ_r (ob:=Ts 1 True) _ (by kernel_rfl) (tsI 1 trivial) h
   ·have h:=h.2 hb
    refine aw_skip ?_
    refine blockQ_n ?_
    refine thenQ_n ?_
    refine aw_region ?_
    obtain ⟨o1,h⟩:=h
    refine rq 2 (ob:=(InR (v8+(1:Int))∧Ts 1 True)) (st':=(⟨19,[e52_0 sv,s1 1 (.fn fv1 cv1),e52_1 sv,sI 8 (v8+(1:Int))],[]⟩:St)) (by kernel_rfl) (⟨o1,tsI 1 trivial⟩) ?_
    refine awl_nil ?_
    exact thenQ_n ⟨(v8+(1:Int)),rfl,h⟩
  ·have h:=h.2 hb
   refine cpr (st':=(⟨19,[],[]⟩:St)) (by kernel_rfl) ?_
   refine aw_exit ?_
   refine thenQ_x ?_
   refine thenQ_x ?_
   refine blockQ_hit ?_
   exact rest1 () h
-- slices.ContainsFunc[[]coppicer/api.Rule,coppicer/api.Rule]
def VC38 (sv:LR) (F1:(Int×LI)→(Bool→Prop)→Prop) (K:Bool→Prop):Prop :=
  VC52 sv F1 (fun (ret7v:Int)=>K (decide ((0:Int)≤ret7v)))
set_option maxHeartbeats 4000000 in
theorem link38 (sv:LR) (fv1:FuncId) (cv1:List Dat) (F1:(Int×LI)→(Bool→Prop)→Prop) (hF1:FnIs Try.prog fv1 cv1 (fun (x:(Int×LI))=>[toV1 tR x]) (fun (y:Bool)=>[toV1 .bool y]) F1) (K:Bool→Prop) (h:VC38 sv F1 K):ACalls Try.prog 38 [toV1 (.sl tR) sv,.c (.fn fv1 cv1)] (fun res=>∃ y,res=(fun y=>[toV1 .bool y]) y∧K y):=by
 refine acalls_of_aw [.bool] [.t 4] Try.func38 rfl rfl rfl ?_
 unfold VC38 at h
 refine sr ?_
 refine rqT 1 ⟨9,[s1 0 (.p (.sl tR) sv),s1 1 (.fn fv1 cv1)],[]⟩ (by kernel_rfl) ?_
 refine nsr ?_
 refine rqT 2 ⟨9,[s1 5 (.p (.sl tR) sv),s1 6 (.fn fv1 cv1)],[]⟩ (by kernel_rfl) ?_
 refine lcq (d:=7) [.d (.sl tR),.fn] (fun ret7v=>(⟨9,[sI 7 ret7v],[]⟩:St)) (by kernel_rfl) Try.call52 (fun _=>by kernel_rfl) (link52 sv fv1 cv1 F1 hF1 _ h) (fun ret7v h=>?_)
 refine rqT 2 ⟨9,[sB 4 (decide ((0:Int)≤ret7v))],[]⟩ (by kernel_rfl) ?_
 refine nn ?_
 refine aw_ret ?_
 exact retQ_r (ob:=Ts 1 True) _ (by kernel_rfl) (tsI 1 trivial) h
-- coppicer/grammar.Check$2
def VC39 (rv:(Int×LI)) (K:Bool→Prop):Prop :=
  K (decide ((4:Int)<(rv.2.length:Int)))
set_option maxHeartbeats 4000000 in
theorem link39 (rv:(Int×LI)) (K:Bool→Prop) (h:VC39 rv K):ACalls Try.prog 39 [toV1 tR rv] (fun res=>∃ y,res=(fun y=>[toV1 .bool y]) y∧K y):=by
 refine acalls_of_aw [.bool] [.t 2] Try.func39 rfl rfl rfl ?_
 unfold VC39 at h
 refine sr ?_
 refine rqT 2 ⟨7,[sp 1 1],[hB 1 [.pI rv.1,.pS rv.2]]⟩ (by kernel_rfl) ?_
 refine nsr ?_
 refine rqT 5 ⟨7,[sB 2 (decide ((4:Int)<(rv.2.length:Int)))],[]⟩ (by kernel_rfl) ?_
 refine nn ?_
 refine aw_ret ?_
 exact retQ_r (ob:=Ts 1 True) _ (by kernel_rfl) (tsI 1 trivial) h
-- coppicer/grammar.IsSigns$1
def VC53 (sv:Int) (a1:TG) (K:Bool→Prop):Prop :=
  (((decide (sv<(0:Int)))=false→InR (a1.1+a1.2.1))∧K ((decide (sv<(0:Int)))||(decide ((a1.1+a1.2.1)≤sv))))
set_option maxHeartbeats 4000000 in
theorem link53 (sv:Int) (a1:TG) (K:Bool→Prop) (h:VC53 sv a1 K):ACalls Try.prog 53 [toV1 tI sv,.c (.ad tG a1)] (fun res=>∃ y,res=(fun y=>[toV1 .bool y]) y∧K y):=by
 refine acalls_of_aw [.bool] [.t 3] Try.func53 rfl rfl rfl ?_
 unfold VC53 at h
 refine sr ?_
 refine rqT 1 ⟨15,[sI 0 sv,s1 1 (.ad tG a1)],[]⟩ (by kernel_rfl) ?_
 refine nsr ?_
 obtain ⟨o1,h⟩:=h
 refine rq 12 (ob:=(Ts 3 (Ti 5 ((decide (sv<(0:Int)))=false→True) (((decide (sv<(0:Int)))=false→InR (a1.1+a1.2.1))∧((decide (sv<(0:Int)))=false→True)∧Ts 2 True)))) (st':=(⟨15,[sB 3 ((decide (sv<(0:Int)))||(decide ((a1.1+a1.2.1)≤sv)))],[]⟩:St)) (by kernel_rfl) (tsI 3 (tiI 5 (fun _=>trivial) (⟨o1,⟨(fun _=>trivial),tsI 2 trivial⟩⟩))) ?_
 refine nn ?_
 refine aw_ret ?_
 exact retQ_r (ob:=Ts 1 True) _ (by kernel_rfl) (tsI 1 trivial) h
abbrev e51_0 (sv:LI):Nat×Path×AV:=sI 7 (sv.length:Int)
-- slices.IndexFunc[[]int,int]
def VC51_k1 (K:Int→Prop):Prop :=
  K (-1:Int)
def VC51_l1 (sv:LI) (F1:Int→(Bool→Prop)→Prop) (K:Int→Prop) (v8:Int) (X1:Int→Prop):Prop :=
  (((decide (v8<(sv.length:Int)))=true→(inIdx v8 sv.length∧F1 (sv.getD (v8).toNat (0:Int)) (fun (ret16v:Bool)=>((ret16v=true→K v8)∧(ret16v=false→(InR (v8+(1:Int))∧X1 (v8+(1:Int))))))))∧((decide (v8<(sv.length:Int)))=false→VC51_k1 K))
def VC51 (sv:LI) (F1:Int→(Bool→Prop)→Prop) (K:Int→Prop):Prop :=
  Loop (σ:=Int) (fun s X=>VC51_l1 sv F1 K s X) (0:Int)
set_option maxHeartbeats 4000000 in
theorem link51 (sv:LI) (fv1:FuncId) (cv1:List Dat) (F1:Int→(Bool→Prop)→Prop) (hF1:FnIs Try.prog fv1 cv1 (fun (x:Int)=>[toV1 tI x]) (fun (y:Bool)=>[toV1 .bool y]) F1) (K:Int→Prop) (h:VC51 sv F1 K):ACalls Try.prog 51 [toV1 (.sl tI) sv,.c (.fn fv1 cv1)] (fun res=>∃ y,res=(fun y=>[toV1 tI y]) y∧K y):=by
 refine acalls_of_aw [tI] [.t 4] Try.func51 rfl rfl rfl ?_
 unfold VC51 at h
 refine srn 1 ⟨19,[s1 0 (.pS sv),s1 1 (.fn fv1 cv1)],[]⟩ (by kernel_rfl) rfl ?_
 refine aw_seq ?_
 refine srn 3 ⟨19,[s1 0 (.pS sv),s1 1 (.fn fv1 cv1),e51_0 sv,sI 8 (0:Int)],[]⟩ (by kernel_rfl) rfl ?_
 refine withJoin (σ:=Unit) (fun s=>(⟨19,[],[]⟩:St)) (fun s=>VC51_k1 K) (fun s h=>?_) (fun rest1=>?_)
 ·have h:VC51_k1 K:=h
  unfold VC51_k1 at h
  refine thenQ_n ?_
  refine srn 1 ⟨19,[sI 4 (-1:Int)],[]⟩ (by kernel_rfl) rfl ?_
  refine aw_ret ?_
  exact retQ_r (ob:=Ts 1 True) _ (by kernel_rfl) (tsI 1 trivial) h
 ·refine aw_block ?_
  refine aw_loop (σ:=Int) (fun s=>(⟨19,[s1 0 (.pS sv),s1 1 (.fn fv1 cv1),e51_0 sv,sI 8 s],[]⟩:St)) (fun s X=>VC51_l1 sv F1 K s X) (s0:=(0:Int)) (fun v8 X1 h=>?_) h
  have h:VC51_l1 sv F1 K v8 X1:=h
  unfold VC51_l1 at h
  refine srn 1 ⟨19,[s1 0 (.pS sv),s1 1 (.fn fv1 cv1),e51_0 sv,sI 8 v8,sB 9 (decide (v8<(sv.length:Int)))],[]⟩ (by kernel_rfl) rfl ?_
  refine aw_seq ?_
  refine aw_cond (b:=(decide (v8<(sv.length:Int)))) (by kernel_rfl) (fun hb=>?_) (fun hb=>?_)
  ·have h:=h.1 hb
   refine aw_skip ?_
   refine thenQ_n ?_
   refine aw_seq ?_
   refine aw_block ?_
   refine sr ?_
   refine rqT 2 ⟨19,[s1 0 (.pS sv),s1 1 (.fn fv1 cv1),sI 5 v8,e51_0 sv,sI 8 v8],[]⟩ (by kernel_rfl) ?_
   refine nsr ?_
   obtain ⟨o1,h⟩:=h
   refine rq 5 (ob:=(Ts 3 (inIdx v8 sv.length∧Ts 1 True))) (st':=(⟨19,[s1 0 (.pS sv),s1 1 (.fn fv1 cv1),sI 5 v8,e51_0 sv,sI 8 v8,s1 11 (.fn fv1 cv1),sI 15 (sv.getD (v8).toNat (0:Int))],[]⟩:St)) (by kernel_rfl) (tsI 3 ⟨o1,tsI 1 trivial⟩) ?_
   refine lcq (d:=16) [.d tI] (fun ret16v=>(⟨19,[s1 0 (.pS sv),s1 1 (.fn fv1 cv1),sI 5 v8,e51_0 sv,sI 8 v8,sB 16 ret16v],[]⟩:St)) (by kernel_rfl) hF1.1 (fun _=>by kernel_rfl) (hF1.2 (sv.getD (v8).toNat (0:Int)) _ h) (fun ret16v h=>?_)
   refine nn ?_
   refine aw_cond (b:=ret16v) (by kernel_rfl) (fun hb=>?_) (fun hb=>?_)
   ·have h:=h.1 hb
    refine srn 2 ⟨19,[sI 4 v8],[]⟩ (by kernel_rfl) rfl ?_
    refine aw_ret ?_
    refine blockQ_r ?_
    refine thenQ_r ?_
    refine thenQ_r ?_
    refine blockQ_r ?_
    refine thenQ_r ?_
    exact retQ_r (ob:=Ts 1 True) _ (by kernel_rfl) (tsI 1 trivial) h
   ·have h:=h.2 hb
    refine aw_skip ?_
    refine blockQ_n ?_
    refine thenQ_n ?_
    refine aw_region ?_
    obtain ⟨o1,h⟩:=h
    refine rq 2 (ob:=(InR (v8+(1:Int))∧Ts 1 True)) (st':=(⟨19,[s1 0 (.pS sv),s1 1 (.fn fv1 cv1),e51_0 sv,sI 8 (v8+(1:Int))],[]⟩:St)) (by kernel_rfl) (⟨o1,tsI 1 trivial⟩) ?_
    refine awl_nil ?_
    exact thenQ_n ⟨(v8+(1:Int)),rfl,h⟩
  ·have h:=h.2 hb
   refine cpr (st':=(⟨19,[],[]⟩:St)) (by kernel_rfl) ?_
   refine aw_exit ?_
   refine thenQ_x ?_
   refine thenQ_x ?_
   refine blockQ_hit ?_
   exact rest1 () h
-- slices.ContainsFunc[[]int,int]
def VC35 (sv:LI) (F1:Int→(Bool→Prop)→Prop) (K:Bool→Prop):Prop :=
  VC51 sv F1 (fun (ret7v:Int)=>K (decide ((0:Int)≤ret7v)))
set_option maxHeartbeats 4000000 in
theorem link35 (sv:LI) (fv1:FuncId) (cv1:List Dat) (F1:Int→(Bool→Prop)→Prop) (hF1:FnIs Try.prog fv1 cv1 (fun (x:Int)=>[toV1 tI x]) (fun (y:Bool)=>[toV1 .bool y]) F1) (K:Bool→Prop) (h:VC35 sv F1 K):ACalls Try.prog 35 [toV1 (.sl tI) sv,.c (.fn fv1 cv1)] (fun res=>∃ y,res=(fun y=>[toV1 .bool y]) y∧K y):=by
 refine acalls_of_aw [.bool] [.t 4] Try.func35 rfl rfl rfl ?_
 unfold VC35 at h
 refine sr ?_
 refine rqT 1 ⟨9,[s1 0 (.pS sv),s1 1 (.fn fv1 cv1)],[]⟩ (by kernel_rfl) ?_
 refine nsr ?_
 refine rqT 2 ⟨9,[s1 5 (.pS sv),s1 6 (.fn fv1 cv1)],[]⟩ (by kernel_rfl) ?_
 refine lcq (d:=7) [.d (.sl tI),.fn] (fun ret7v=>(⟨9,[sI 7 ret7v],[]⟩:St)) (by kernel_rfl) Try.call51 (fun _=>by kernel_rfl) (link51 sv fv1 cv1 F1 hF1 _ h) (fun ret7v h=>?_)
 refine rqT 2 ⟨9,[sB 4 (decide ((0:Int)≤ret7v))],[]⟩ (by kernel_rfl) ?_
 refine nn ?_
 refine aw_ret ?_
 exact retQ_r (ob:=Ts 1 True) _ (by kernel_rfl) (tsI 1 trivial) h
abbrev e40_0 (g:TG):Nat×Path×Con:=hB 2 [.pI g.1,.pI g.2.1,.pI g.2.2.1,.p (.sl tR) g.2.2.2]
-- coppicer/grammar.IsSigns
def VC40 (g:TG) (l:LI) (K:Bool→Prop):Prop :=
  VC35 l (fun (x:Int) (K:Bool→Prop)=>VC53 x g K) (fun (ret7v:Bool)=>K (!ret7v))
set_option maxHeartbeats 4000000 in
theorem link40 (g:TG) (l:LI) (K:Bool→Prop) (h:VC40 g l K):ACalls Try.prog 40 [toV1 tG g,toV1 (.sl tI) l] (fun res=>∃ y,res=(fun y=>[toV1 .bool y]) y∧K y):=by
 refine acalls_of_aw [.bool] [.t 4] Try.func40 rfl rfl rfl ?_
 unfold VC40 at h
 refine sr ?_
 refine rqT 2 ⟨9,[s1 1 (.pS l),sp 2 2],[e40_0 g]⟩ (by kernel_rfl) ?_
 refine nsr ?_
 refine rqT 1 ⟨9,[sp 2 2,s1 5 (.pS l)],[e40_0 g]⟩ (by kernel_rfl) ?_
 refine awl_conv [.freezeB 2 tG] (st':=(⟨9,[s1 2 (.ad tG g),s1 5 (.pS l)],[]⟩:St)) (by kernel_rfl) ?_
 refine rqT 1 ⟨9,[s1 5 (.pS l),s1 6 (.fn 53 [(⟨tG,g⟩:Dat)])],[]⟩ (by kernel_rfl) ?_
 refine lcq (d:=7) [.d (.sl tI),.fn] (fun ret7v=>(⟨9,[sB 7 ret7v],[]⟩:St)) (by kernel_rfl) Try.call35 (fun _=>by kernel_rfl) (link35 l 53 [(⟨tG,g⟩:Dat)] (fun (x:Int) (K:Bool→Prop)=>VC53 x g K) ⟨Try.call53,fun x K h=>link53 x g K h⟩ _ h) (fun ret7v h=>?_)
 refine rqT 2 ⟨9,[sB 4 (!ret7v)],[]⟩ (by kernel_rfl) ?_
 refine nn ?_
 refine aw_ret ?_
 exact retQ_r (ob:=Ts 1 True) _ (by kernel_rfl) (tsI 1 trivial) h
abbrev e25_0 (g:TG):Nat×Path×Con:=hB 1 [.pI g.1,.pI g.2.1,.pI g.2.2.1,.p (.sl tR) g.2.2.2]
abbrev e25_1 (g:TG):Nat×Path×AV:=s1 36 (.p (.sl tR) g.2.2.2)
abbrev e25_2 (g:TG) (v38:Int):Nat×Path×Con:=hB 5 [.pI ((g.2.2.2.getD (v38).toNat ((0:Int),([]:LI))).1),.pS ((g.2.2.2.getD (v38).toNat ((0:Int),([]:LI))).2)]
abbrev e25_3:Nat×Path×AV:=s1 3 (.fn 37 [])
abbrev e25_4 (g:TG):Nat×Path×AV:=sI 37 (g.2.2.2.length:Int)
-- coppicer/grammar.Check
def VC25_k1 (K:Int→Prop):Prop :=
  K (0:Int)
def VC25_l1 (g:TG) (K:Int→Prop) (v38:Int) (X1:Int→Prop):Prop :=
  (((decide (v38<(g.2.2.2.length:Int)))=true→(inIdx v38 g.2.2.2.length∧(InR (g.2.1-(1:Int))∧VC37 ((g.2.2.2.getD (v38).toNat ((0:Int),([]:LI))).1) (0:Int) (g.2.1-(1:Int)) (fun (ret48v:Bool)=>gcall (α:=Bool) (!(!ret48v)) (VC40 g ((g.2.2.2.getD (v38).toNat ((0:Int),([]:LI))).2)) false (fun (ret54v:Bool)=>((((!ret48v)||(!ret54v))=true→K (2:Int))∧(((!ret48v)||(!ret54v))=false→(InR (v38+(1:Int))∧X1 (v38+(1:Int))))))))))∧((decide (v38<(g.2.2.2.length:Int)))=false→VC25_k1 K))
def VC25 (g:TG) (K:Int→Prop):Prop :=
  VC37 g.1 (1:Int) (3:Int) (fun (ret9v:Bool)=>gcall (α:=Bool) (!(!ret9v)) (VC37 g.2.1 (1:Int) (5:Int)) false (fun (ret15v:Bool)=>(((((!ret9v)||(!ret15v))||(decide ((10:Int)<(g.2.2.2.length:Int))))=true→K (1:Int))∧((((!ret9v)||(!ret15v))||(decide ((10:Int)<(g.2.2.2.length:Int))))=false→VC38 g.2.2.2 (fun (x:(Int×LI)) (K:Bool→Prop)=>VC39 x K) (fun (ret26v:Bool)=>((ret26v=true→K (1:Int))∧(ret26v=false→(InR (g.2.1-(1:Int))∧VC37 g.2.2.1 (0:Int) (g.2.1-(1:Int)) (fun (ret33v:Bool)=>(((!ret33v)=true→K (2:Int))∧((!ret33v)=false→Loop (σ:=Int) (fun s X=>VC25_l1 g K s X) (0:Int))))))))))))
set_option maxHeartbeats 4000000 in
theorem link25 (g:TG) (K:Int→Prop) (h:VC25 g K):ACalls Try.prog 25 [toV1 tG g] (fun res=>∃ y,res=(fun y=>[toV1 tI y]) y∧K y):=by
 refine acalls_of_aw [tI] [.t 2] Try.func25 rfl rfl rfl ?_
 unfold VC25 at h
 refine sr ?_
 refine rqT 2 ⟨58,[sp 1 1],[e25_0 g]⟩ (by kernel_rfl) ?_
 refine nsr ?_
 refine rqT 1 ⟨58,[sp 1 1,e25_3],[e25_0 g]⟩ (by kernel_rfl) ?_
 refine nn ?_
 refine aw_seq ?_
 refine sr ?_
 refine rqT 3 ⟨58,[sp 1 1,e25_3,s1 6 (.fn 37 []),sI 8 g.1],[e25_0 g]⟩ (by kernel_rfl) ?_
 refine lcq (d:=9) [.d tI,.d tI,.d tI] (fun ret9v=>(⟨58,[sp 1 1,e25_3,sB 9 ret9v],[e25_0 g]⟩:St)) (by kernel_rfl) Try.call37 (fun _=>by kernel_rfl) (link37 g.1 (1:Int) (3:Int) _ h) (fun ret9v h=>?_)
 refine rq 5 (ob:=(Ts 2 (Ti 3 ((!ret9v)=false→True) True))) (st':=(⟨58,[sp 1 1,e25_3,sB 11 (!ret9v),(12,[(11,false)],.v (.c (.fn 37 []))),(14,[(11,false)],.v (.c (.pI g.2.1)))],[e25_0 g]⟩:St)) (by kernel_rfl) (tsI 2 (tiI 3 (fun _=>trivial) trivial)) ?_
 refine awl_callk (p:=[(11,false)]) (l:=[toV1 tI g.2.1,toV1 tI (1:Int),toV1 tI (5:Int)]) (cl:=[]) false [.d tI,.d tI,.d tI] [1,3,11,15] [1] (fun (ret15v:Bool)=>(((((!ret9v)||(!ret15v))||(decide ((10:Int)<(g.2.2.2.length:Int))))=true→K (1:Int))∧((((!ret9v)||(!ret15v))||(decide ((10:Int)<(g.2.2.2.length:Int))))=false→VC38 g.2.2.2 (fun (x:(Int×LI)) (K:Bool→Prop)=>VC39 x K) (fun (ret26v:Bool)=>((ret26v=true→K (1:Int))∧(ret26v=false→(InR (g.2.1-(1:Int))∧VC37 g.2.2.1 (0:Int) (g.2.1-(1:Int)) (fun (ret33v:Bool)=>(((!ret33v)=true→K (2:Int))∧((!ret33v)=false→Loop (σ:=Int) (fun s X=>VC25_l1 g K s X) (0:Int))))))))))) (fun ret15v=>[toV1 .bool ret15v]) (fun ret15v=>(⟨58,[sp 1 1,e25_3,sB 11 (!ret9v),(15,[(11,false)],.v (.c (.pB ret15v)))],[e25_0 g]⟩:St)) (by kernel_rfl) rfl (by kernel_rfl) rfl (by kernel_rfl) Try.call37 (by kernel_rfl) (fun ret15v=>by kernel_rfl) (fun e=>by cases e) (fun hg=>link37 g.2.1 (1:Int) (5:Int) _ (by have:=gcall_T h (show (!(!ret9v))=true from hg);exact this)) (fun hg=>⟨false,by have:=gcall_F h (show (!(!ret9v))=false from hg);exact this⟩) (fun ret15v h=>?_)
 refine rq 8 (ob:=(((!ret9v)=false→True)∧Ts 2 (Ti 4 (((!ret9v)||(!ret15v))=false→True) (Ts 1 True)))) (st':=(⟨58,[sp 1 1,e25_3,sB 23 (((!ret9v)||(!ret15v))||(decide ((10:Int)<(g.2.2.2.length:Int))))],[e25_0 g]⟩:St)) (by kernel_rfl) (⟨(fun _=>trivial),tsI 2 (tiI 4 (fun _=>trivial) (tsI 1 trivial))⟩) ?_
 refine nn ?_
 refine aw_cond (b:=(((!ret9v)||(!ret15v))||(decide ((10:Int)<(g.2.2.2.length:Int))))) (by kernel_rfl) (fun hb=>?_) (fun hb=>?_)
 ·have h:=h.1 hb
  refine srn 1 ⟨58,[sI 2 (1:Int)],[]⟩ (by kernel_rfl) rfl ?_
  refine aw_ret ?_
  refine thenQ_r ?_
  exact retQ_r (ob:=Ts 1 True) _ (by kernel_rfl) (tsI 1 trivial) h
 ·have h:=h.2 hb
  refine aw_skip ?_
  refine thenQ_n ?_
  refine aw_seq ?_
  refine sr ?_
  refine rqT 2 ⟨58,[sp 1 1,e25_3,s1 25 (.p (.sl tR) g.2.2.2)],[e25_0 g]⟩ (by kernel_rfl) ?_
  refine lcq (d:=26) [.d (.sl tR),.fn] (fun ret26v=>(⟨58,[sp 1 1,e25_3,sB 26 ret26v],[e25_0 g]⟩:St)) (by kernel_rfl) Try.call38 (fun _=>by kernel_rfl) (link38 g.2.2.2 39 [] (fun (x:(Int×LI)) (K:Bool→Prop)=>VC39 x K) ⟨Try.call39,fun x K h=>link39 x K h⟩ _ h) (fun ret26v h=>?_)
  refine nn ?_
  refine aw_cond (b:=ret26v) (by kernel_rfl) (fun hb=>?_) (fun hb=>?_)
  ·have h:=h.1 hb
   refine srn 1 ⟨58,[sI 2 (1:Int)],[]⟩ (by kernel_rfl) rfl ?_
   refine aw_ret ?_
   refine thenQ_r ?_
   exact retQ_r (ob:=Ts 1 True) _ (by kernel_rfl) (tsI 1 trivial) h
  ·have h:=h.2 hb
   refine aw_skip ?_
   refine thenQ_n ?_
   refine aw_seq ?_
   refine sr ?_
   obtain ⟨o1,h⟩:=h
   refine rq 6 (ob:=(Ts 5 (InR (g.2.1-(1:Int))∧True))) (st':=(⟨58,[sp 1 1,e25_3,s1 27 (.fn 37 []),sI 29 g.2.2.1,sI 32 (g.2.1-(1:Int))],[e25_0 g]⟩:St)) (by kernel_rfl) (tsI 5 ⟨o1,trivial⟩) ?_
   refine lcq (d:=33) [.d tI,.d tI,.d tI] (fun ret33v=>(⟨58,[sp 1 1,e25_3,sB 33 ret33v],[e25_0 g]⟩:St)) (by kernel_rfl) Try.call37 (fun _=>by kernel_rfl) (link37 g.2.2.1 (0:Int) (g.2.1-(1:Int)) _ h) (fun ret33v h=>?_)
   refine rqT 1 ⟨58,[sp 1 1,e25_3,sB 34 (!ret33v)],[e25_0 g]⟩ (by kernel_rfl) ?_
   refine nn ?_
   refine aw_cond (b:=(!ret33v)) (by kernel_rfl) (fun hb=>?_) (fun hb=>?_)
   ·have h:=h.1 hb
    refine srn 1 ⟨58,[sI 2 (2:Int)],[]⟩ (by kernel_rfl) rfl ?_
    refine aw_ret ?_
    refine thenQ_r ?_
    exact retQ_r (ob:=Ts 1 True) _ (by kernel_rfl) (tsI 1 trivial) h
   ·have h:=h.2 hb
    refine aw_skip ?_
    refine thenQ_n ?_
    refine aw_seq ?_
    refine srn 4 ⟨58,[sp 1 1,e25_3,e25_1 g,e25_4 g,sI 38 (0:Int)],[e25_0 g]⟩ (by kernel_rfl) rfl ?_
    refine withJoin (σ:=Unit) (fun s=>(⟨58,[],[]⟩:St)) (fun s=>VC25_k1 K) (fun s h=>?_) (fun rest1=>?_)
    ·have h:VC25_k1 K:=h
     unfold VC25_k1 at h
     refine thenQ_n ?_
     refine srn 1 ⟨58,[sI 2 (0:Int)],[]⟩ (by kernel_rfl) rfl ?_
     refine aw_ret ?_
     exact retQ_r (ob:=Ts 1 True) _ (by kernel_rfl) (tsI 1 trivial) h
    ·refine aw_block ?_
     refine aw_loop (σ:=Int) (fun s=>(⟨58,[sp 1 1,e25_3,e25_1 g,e25_4 g,sI 38 s],[e25_0 g]⟩:St)) (fun s X=>VC25_l1 g K s X) (s0:=(0:Int)) (fun v38 X1 h=>?_) h
     have h:VC25_l1 g K v38 X1:=h
     unfold VC25_l1 at h
     refine srn 1 ⟨58,[sp 1 1,e25_3,e25_1 g,e25_4 g,sI 38 v38,sB 39 (decide (v38<(g.2.2.2.length:Int)))],[e25_0 g]⟩ (by kernel_rfl) rfl ?_
     refine aw_seq ?_
     refine aw_cond (b:=(decide (v38<(g.2.2.2.length:Int)))) (by kernel_rfl) (fun hb=>?_) (fun hb=>?_)
     ·have h:=h.1 hb
      refine aw_skip ?_
      refine thenQ_n ?_
      refine aw_seq ?_
      refine aw_block ?_
      refine sr ?_
      obtain ⟨o1,h⟩:=h
      refine rq 4 (ob:=(inIdx v38 g.2.2.2.length∧Ts 3 True)) (st':=(⟨58,[sp 1 1,e25_3,sp 5 5,e25_1 g,e25_4 g,sI 38 v38],[e25_0 g,e25_2 g v38]⟩:St)) (by kernel_rfl) (⟨o1,tsI 3 trivial⟩) ?_
      refine nsr ?_
      obtain ⟨o1,h⟩:=h
      refine rq 6 (ob:=(Ts 5 (InR (g.2.1-(1:Int))∧True))) (st':=(⟨58,[sp 1 1,e25_3,sp 5 5,e25_1 g,e25_4 g,sI 38 v38,s1 42 (.fn 37 []),sI 44 ((g.2.2.2.getD (v38).toNat ((0:Int),([]:LI))).1),sI 47 (g.2.1-(1:Int))],[e25_0 g,e25_2 g v38]⟩:St)) (by kernel_rfl) (tsI 5 ⟨o1,trivial⟩) ?_
      refine lcq (d:=48) [.d tI,.d tI,.d tI] (fun ret48v=>(⟨58,[sp 1 1,e25_3,sp 5 5,e25_1 g,e25_4 g,sI 38 v38,sB 48 ret48v],[e25_0 g,e25_2 g v38]⟩:St)) (by kernel_rfl) Try.call37 (fun _=>by kernel_rfl) (link37 ((g.2.2.2.getD (v38).toNat ((0:Int),([]:LI))).1) (0:Int) (g.2.1-(1:Int)) _ h) (fun ret48v h=>?_)
      refine rq 5 (ob:=(Ts 2 (Ti 3 ((!ret48v)=false→True) True))) (st':=(⟨58,[sp 1 1,e25_3,e25_1 g,e25_4 g,sI 38 v38,sB 50 (!ret48v),(51,[(50,false)],.v (.agg [.pI g.1,.pI g.2.1,.pI g.2.2.1,.p (.sl tR) g.2.2.2])),(53,[(50,false)],.v (.c (.pS ((g.2.2.2.getD (v38).toNat ((0:Int),([]:LI))).2))))],[e25_0 g]⟩:St)) (by kernel_rfl) (tsI 2 (tiI 3 (fun _=>trivial) trivial)) ?_
      refine awl_callk (p:=[(50,false)]) (l:=[toV1 tG g,toV1 (.sl tI) ((g.2.2.2.getD (v38).toNat ((0:Int),([]:LI))).2)]) (cl:=[]) false [.d tG,.d (.sl tI)] [1,3,36,37,38,50,54] [1] (fun (ret54v:Bool)=>((((!ret48v)||(!ret54v))=true→K (2:Int))∧(((!ret48v)||(!ret54v))=false→(InR (v38+(1:Int))∧X1 (v38+(1:Int)))))) (fun ret54v=>[toV1 .bool ret54v]) (fun ret54v=>(⟨58,[sp 1 1,e25_3,e25_1 g,e25_4 g,sI 38 v38,sB 50 (!ret48v),(54,[(50,false)],.v (.c (.pB ret54v)))],[e25_0 g]⟩:St)) (by kernel_rfl) rfl (by kernel_rfl) rfl (by kernel_rfl) Try.call40 (by kernel_rfl) (fun ret54v=>by kernel_rfl) (fun e=>by cases e) (fun hg=>link40 g ((g.2.2.2.getD (v38).toNat ((0:Int),([]:LI))).2) _ (by have:=gcall_T h (show (!(!ret48v))=true from hg);exact this)) (fun hg=>⟨false,by have:=gcall_F h (show (!(!ret48v))=false from hg);exact this⟩) (fun ret54v h=>?_)
      refine rq 2 (ob:=(((!ret48v)=false→True)∧Ts 1 True)) (st':=(⟨58,[sp 1 1,e25_3,e25_1 g,e25_4 g,sI 38 v38,sB 56 ((!ret48v)||(!ret54v))],[e25_0 g]⟩:St)) (by kernel_rfl) (⟨(fun _=>trivial),tsI 1 trivial⟩) ?_
      refine nn ?_
      refine aw_cond (b:=((!ret48v)||(!ret54v))) (by kernel_rfl) (fun hb=>?_) (fun hb=>?_)
      ·have h:=h.1 hb
       refine srn 1 ⟨58,[sI 2 (2:Int)],[]⟩ (by kernel_rfl) rfl ?_
       refine aw_ret ?_
       refine blockQ_r ?_
       refine thenQ_r ?_
       refine thenQ_r ?_
       refine blockQ_r ?_
       refine thenQ_r ?_
       exact retQ_r (ob:=Ts 1 True) _ (by kernel_rfl) (tsI 1 trivial) h
      ·have h:=h.2 hb
       refine aw_skip ?_
       refine blockQ_n ?_
       refine thenQ_n ?_
       refine aw_region ?_
       obtain ⟨o1,h⟩:=h
       refine rq 2 (ob:=(InR (v38+(1:Int))∧Ts 1 True)) (st':=(⟨58,[sp 1 1,e25_3,e25_1 g,e25_4 g,sI 38 (v38+(1:Int))],[e25_0 g]⟩:St)) (by kernel_rfl) (⟨o1,tsI 1 trivial⟩) ?_
       refine awl_nil ?_
       exact thenQ_n ⟨(v38+(1:Int)),rfl,h⟩
     ·have h:=h.2 hb
      refine cpr (st':=(⟨58,[],[]⟩:St)) (by kernel_rfl) ?_
      refine aw_exit ?_
      refine thenQ_x ?_
      refine thenQ_x ?_
      refine blockQ_hit ?_
      exact rest1 () h
abbrev e42_0 (sv:LR):Nat×Path×AV:=s1 0 (.p (.sl tR) sv)
-- slices.Clone[[]coppicer/api.Rule,coppicer/api.Rule]
def VC42 (sv:LR) (K:LR→Prop):Prop :=
  (∀ nil4:Bool,(nil4=true→sv=[])→((nil4=true→K ([]:List (Int×LI)))∧(nil4=false→(roomW 32 (([]:List (Int×LI)).length+sv.length)∧K (([]:List (Int×LI))++sv)))))
set_option maxHeartbeats 4000000 in
theorem link42 (sv:LR) (K:LR→Prop) (h:VC42 sv K):ACallsO Try.prog 42 [toV1 (.sl tR) sv] 40 tR K:=by
 refine acallsO_of_aw 2 Try.func42 rfl rfl rfl ?_
 unfold VC42 at h
 refine srn 1 ⟨8,[e42_0 sv],[]⟩ (by kernel_rfl) rfl ?_
 refine aw_seq ?_
 refine sr ?_
 refine rqT 1 ⟨8,[e42_0 sv,s1 3 (.p (.sl tR) sv)],[]⟩ (by kernel_rfl) ?_
 refine awl_nil_eql [0,4] [] (fun nil4=>(⟨8,[e42_0 sv,sB 4 nil4],[]⟩:St)) rfl rfl (by kernel_rfl) rfl (e:=40) (by kernel_rfl) (l:=sv) (u:=tR) (by kernel_rfl) (fun nil4=>by kernel_rfl) (fun nil4 hnil=>?_)
 have h:=h nil4 hnil
 refine nn ?_
 refine aw_cond (b:=nil4) (by kernel_rfl) (fun hb=>?_) (fun hb=>?_)
 ·have h:=h.1 hb
  refine srn 1 ⟨8,[s1 2 (.nils)],[]⟩ (by kernel_rfl) rfl ?_
  refine aw_conv [.nilOwn 2 5002 40 tR] (st':=(⟨8,[s1 2 (.own 5002)],[hA 5002 40 tR ([]:List (Int×LI))]⟩:St)) (by kernel_rfl) ?_
  refine aw_ret ?_
  refine thenQ_r ?_
  exact ⟨5002,_,by kernel_rfl,by kernel_rfl,h⟩
 ·have h:=h.2 hb
  refine aw_skip ?_
  refine thenQ_n ?_
  refine sr ?_
  obtain ⟨o1,h⟩:=h
  refine rq 4 (ob:=(Ts 2 (roomW 32 (([]:List (Int×LI)).length+sv.length)∧Ts 1 True))) (st':=(⟨8,[s1 2 (.own 7)],[hA 7 40 tR (([]:List (Int×LI))++sv)]⟩:St)) (by kernel_rfl) (tsI 2 ⟨o1,tsI 1 trivial⟩) ?_
  refine nn ?_
  refine aw_ret ?_
  exact ⟨7,_,by kernel_rfl,by kernel_rfl,h⟩
-- slices.Clone[[]int,int]
def VC54 (sv:LI) (K:LI→Prop):Prop :=
  (∀ nil4:Bool,(nil4=true→sv=[])→((nil4=true→K ([]:List Int))∧(nil4=false→(roomW 8 (([]:List Int).length+sv.length)∧K (([]:List Int)++sv)))))
set_option maxHeartbeats 4000000 in
theorem link54 (sv:LI) (K:LI→Prop) (h:VC54 sv K):ACallsO Try.prog 54 [toV1 (.sl tI) sv] 3 tI K:=by
 refine acallsO_of_aw 2 Try.func54 rfl rfl rfl ?_
 unfold VC54 at h
 refine srn 1 ⟨8,[s1 0 (.pS sv)],[]⟩ (by kernel_rfl) rfl ?_
 refine aw_seq ?_
 refine sr ?_
 refine rqT 1 ⟨8,[s1 0 (.pS sv),s1 3 (.pS sv)],[]⟩ (by kernel_rfl) ?_
 refine awl_nil_eql [0,4] [] (fun nil4=>(⟨8,[s1 0 (.pS sv),sB 4 nil4],[]⟩:St)) rfl rfl (by kernel_rfl) rfl (e:=3) (by kernel_rfl) (l:=sv) (u:=tI) (by kernel_rfl) (fun nil4=>by kernel_rfl) (fun nil4 hnil=>?_)
 have h:=h nil4 hnil
 refine nn ?_
 refine aw_cond (b:=nil4) (by kernel_rfl) (fun hb=>?_) (fun hb=>?_)
 ·have h:=h.1 hb
  refine srn 1 ⟨8,[s1 2 (.nils)],[]⟩ (by kernel_rfl) rfl ?_
  refine aw_conv [.nilOwn 2 5002 3 tI] (st':=(⟨8,[s1 2 (.own 5002)],[hA 5002 3 tI ([]:List Int)]⟩:St)) (by kernel_rfl) ?_
  refine aw_ret ?_
  refine thenQ_r ?_
  exact ⟨5002,_,by kernel_rfl,by kernel_rfl,h⟩
 ·have h:=h.2 hb
  refine aw_skip ?_
  refine thenQ_n ?_
  refine sr ?_
  obtain ⟨o1,h⟩:=h
  refine rq 4 (ob:=(Ts 2 (roomW 8 (([]:List Int).length+sv.length)∧Ts 1 True))) (st':=(⟨8,[s1 2 (.own 7)],[hA 7 3 tI (([]:List Int)++sv)]⟩:St)) (by kernel_rfl) (tsI 2 ⟨o1,tsI 1 trivial⟩) ?_
  refine nn ?_
  refine aw_ret ?_
  exact ⟨7,_,by kernel_rfl,by kernel_rfl,h⟩
-- coppicer/grammar.Proper$1
def VC65 (rv:(Int×LI)) (a1:TG) (K:Bool→Prop):Prop :=
  (((decide ((rv.2.length:Int)=(0:Int)))=false→((decide ((rv.2.length:Int)=(1:Int)))=true→inIdx (0:Int) rv.2.length))∧K ((decide ((rv.2.length:Int)=(0:Int)))||((decide ((rv.2.length:Int)=(1:Int)))&&(decide (a1.1≤(rv.2.getD ((0:Int)).toNat (0:Int)))))))
set_option maxHeartbeats 4000000 in
theorem link65 (rv:(Int×LI)) (a1:TG) (K:Bool→Prop) (h:VC65 rv a1 K):ACalls Try.prog 65 [toV1 tR rv,.c (.ad tG a1)] (fun res=>∃ y,res=(fun y=>[toV1 .bool y]) y∧K y):=by
 refine acalls_of_aw [.bool] [.t 3] Try.func65 rfl rfl rfl ?_
 unfold VC65 at h
 refine srn 2 ⟨23,[s1 1 (.ad tG a1),sp 2 2],[hB 2 [.pI rv.1,.pS rv.2]]⟩ (by kernel_rfl) rfl ?_
 refine aw_seq ?_
 refine awd_begin [] (by kernel_rfl) ?_
 obtain ⟨o1,h⟩:=h
 refine drq (by kernel_rfl) [0,1,2,3,4,5,6,7,8,9,10,11,12,13,14,15,16,17,18,19] (ob:=(Ts 5 (Ti 5 ((decide ((rv.2.length:Int)=(0:Int)))=false→True) (((decide ((rv.2.length:Int)=(0:Int)))=false→((decide ((rv.2.length:Int)=(1:Int)))=true→True))∧((decide ((rv.2.length:Int)=(0:Int)))=false→((decide ((rv.2.length:Int)=(1:Int)))=true→True))∧((decide ((rv.2.length:Int)=(0:Int)))=false→((decide ((rv.2.length:Int)=(1:Int)))=true→inIdx (0:Int) rv.2.length))∧((decide ((rv.2.length:Int)=(0:Int)))=false→((decide ((rv.2.length:Int)=(1:Int)))=true→True))∧((decide ((rv.2.length:Int)=(0:Int)))=false→((decide ((rv.2.length:Int)=(1:Int)))=true→True))∧((decide ((rv.2.length:Int)=(0:Int)))=false→((decide ((rv.2.length:Int)=(1:Int)))=true→True))∧((decide ((rv.2.length:Int)=(0:Int)))=false→((decide ((rv.2.length:Int)=(1:Int)))=true→True))∧((decide ((rv.2.length:Int)=(0:Int)))=false→True)∧Ts 2 True)))) (done':=[19,18,17,16,15,14,13,12,11,10,9,8,7,6,5,4,3,2,1,0]) (st':=(⟨23,[sB 3 ((decide ((rv.2.length:Int)=(0:Int)))||((decide ((rv.2.length:Int)=(1:Int)))&&(decide (a1.1≤(rv.2.getD ((0:Int)).toNat (0:Int))))))],[]⟩:St)) (by kernel_rfl) (tsI 5 (tiI 5 (fun _=>trivial) (tiI 2 (fun _ _=>trivial) (⟨o1,tiI 4 (fun _ _=>trivial) ⟨(fun _=>trivial),tsI 2 trivial⟩⟩)))) ?_
 refine awd_done (by kernel_rfl) ?_
 refine thenQ_n ?_
 refine aw_ret ?_
 exact retQ_r (ob:=Ts 1 True) _ (by kernel_rfl) (tsI 1 trivial) h
abbrev e55_0 (g:TG):Nat×Path×Con:=hB 1 [.pI g.1,.pI g.2.1,.pI g.2.2.1,.p (.sl tR) g.2.2.2]
abbrev e55_1 (g:TG):Nat×Path×AV:=s1 4 (.p (.sl tR) g.2.2.2)
-- coppicer/grammar.Proper
def VC55 (g:TG) (K:Bool→Prop):Prop :=
  VC38 g.2.2.2 (fun (x:(Int×LI)) (K:Bool→Prop)=>VC65 x g K) (fun (ret6v:Bool)=>K (!ret6v))
set_option maxHeartbeats 4000000 in
theorem link55 (g:TG) (K:Bool→Prop) (h:VC55 g K):ACalls Try.prog 55 [toV1 tG g] (fun res=>∃ y,res=(fun y=>[toV1 .bool y]) y∧K y):=by
 refine acalls_of_aw [.bool] [.t 2] Try.func55 rfl rfl rfl ?_
 unfold VC55 at h
 refine sr ?_
 refine rqT 2 ⟨8,[sp 1 1],[e55_0 g]⟩ (by kernel_rfl) ?_
 refine nsr ?_
 refine rqT 2 ⟨8,[sp 1 1,e55_1 g],[e55_0 g]⟩ (by kernel_rfl) ?_
 refine awl_conv [.freezeB 1 tG] (st':=(⟨8,[s1 1 (.ad tG g),e55_1 g],[]⟩:St)) (by kernel_rfl) ?_
 refine rqT 1 ⟨8,[e55_1 g,s1 5 (.fn 65 [(⟨tG,g⟩:Dat)])],[]⟩ (by kernel_rfl) ?_
 refine lcq (d:=6) [.d (.sl tR),.fn] (fun ret6v=>(⟨8,[sB 6 ret6v],[]⟩:St)) (by kernel_rfl) Try.call38 (fun _=>by kernel_rfl) (link38 g.2.2.2 65 [(⟨tG,g⟩:Dat)] (fun (x:(Int×LI)) (K:Bool→Prop)=>VC65 x g K) ⟨Try.call65,fun x K h=>link65 x g K h⟩ _ h) (fun ret6v h=>?_)
 refine rqT 2 ⟨8,[sB 2 (!ret6v)],[]⟩ (by kernel_rfl) ?_
 refine nn ?_
 refine aw_ret ?_
 exact retQ_r (ob:=Ts 1 True) _ (by kernel_rfl) (tsI 1 trivial) h
-- coppicer/machine.within
def VC31 (n:Int) (low:Int) (high:Int) (K:Bool→Prop):Prop :=
  K ((decide (low≤n))&&(decide (n≤high)))
set_option maxHeartbeats 4000000 in
theorem link31 (n:Int) (low:Int) (high:Int) (K:Bool→Prop) (h:VC31 n low high K):ACalls Try.prog 31 [toV1 tI n,toV1 tI low,toV1 tI high] (fun res=>∃ y,res=(fun y=>[toV1 .bool y]) y∧K y):=by
 refine acalls_of_aw [.bool] [.t 6] Try.func31 rfl rfl rfl ?_
 unfold VC31 at h
 refine sr ?_
 refine rqT 1 ⟨15,[sI 0 n,sI 1 low,sI 2 high],[]⟩ (by kernel_rfl) ?_
 refine nsr ?_
 refine rq 9 (ob:=(Ts 4 (Ti 3 ((decide (low≤n))=true→True) (Ts 2 True)))) (st':=(⟨15,[sB 6 ((decide (low≤n))&&(decide (n≤high)))],[]⟩:St)) (by kernel_rfl) (tsI 4 (tiI 3 (fun _=>trivial) (tsI 2 trivial))) ?_
 refine nn ?_
 refine aw_ret ?_
 exact retQ_r (ob:=Ts 1 True) _ (by kernel_rfl) (tsI 1 trivial) h
-- coppicer/machine.Word$1
def VC36 (sv:Int) (a1:Int) (K:Bool→Prop):Prop :=
  (InR (a1-(1:Int))∧VC31 sv (0:Int) (a1-(1:Int)) (fun (ret7v:Bool)=>K (!ret7v)))
set_option maxHeartbeats 4000000 in
theorem link36 (sv:Int) (a1:Int) (K:Bool→Prop) (h:VC36 sv a1 K):ACalls Try.prog 36 [toV1 tI sv,.c (.ad tI a1)] (fun res=>∃ y,res=(fun y=>[toV1 .bool y]) y∧K y):=by
 refine acalls_of_aw [.bool] [.t 3] Try.func36 rfl rfl rfl ?_
 unfold VC36 at h
 refine sr ?_
 refine rqT 1 ⟨9,[sI 0 sv,s1 1 (.ad tI a1)],[]⟩ (by kernel_rfl) ?_
 refine nsr ?_
 obtain ⟨o1,h⟩:=h
 refine rq 3 (ob:=(Ts 2 (InR (a1-(1:Int))∧True))) (st':=(⟨9,[sI 4 sv,sI 6 (a1-(1:Int))],[]⟩:St)) (by kernel_rfl) (tsI 2 ⟨o1,trivial⟩) ?_
 refine lcq (d:=7) [.d tI,.d tI,.d tI] (fun ret7v=>(⟨9,[sB 7 ret7v],[]⟩:St)) (by kernel_rfl) Try.call31 (fun _=>by kernel_rfl) (link31 sv (0:Int) (a1-(1:Int)) _ h) (fun ret7v h=>?_)
 refine rqT 2 ⟨9,[sB 3 (!ret7v)],[]⟩ (by kernel_rfl) ?_
 refine nn ?_
 refine aw_ret ?_
 exact retQ_r (ob:=Ts 1 True) _ (by kernel_rfl) (tsI 1 trivial) h
-- coppicer/machine.Word
def VC21 (k:Int) (w:LI) (K:Int→Prop):Prop :=
  (((decide ((12:Int)<(w.length:Int)))=true→K (1:Int))∧((decide ((12:Int)<(w.length:Int)))=false→VC35 w (fun (x:Int) (K:Bool→Prop)=>VC36 x k K) (fun (ret10v:Bool)=>((ret10v=true→K (2:Int))∧(ret10v=false→K (0:Int))))))
set_option maxHeartbeats 4000000 in
theorem link21 (k:Int) (w:LI) (K:Int→Prop) (h:VC21 k w K):ACalls Try.prog 21 [toV1 tI k,toV1 (.sl tI) w] (fun res=>∃ y,res=(fun y=>[toV1 tI y]) y∧K y):=by
 refine acalls_of_aw [tI] [.t 4] Try.func21 rfl rfl rfl ?_
 unfold VC21 at h
 refine srn 2 ⟨11,[s1 1 (.pS w),sp 2 2],[hB 2 [.pI k]]⟩ (by kernel_rfl) rfl ?_
 refine aw_seq ?_
 refine srn 3 ⟨11,[s1 1 (.pS w),sp 2 2,sB 7 (decide ((12:Int)<(w.length:Int)))],[hB 2 [.pI k]]⟩ (by kernel_rfl) rfl ?_
 refine aw_cond (b:=(decide ((12:Int)<(w.length:Int)))) (by kernel_rfl) (fun hb=>?_) (fun hb=>?_)
 ·have h:=h.1 hb
  refine srn 1 ⟨11,[sI 4 (1:Int)],[]⟩ (by kernel_rfl) rfl ?_
  refine aw_ret ?_
  refine thenQ_r ?_
  exact retQ_r (ob:=Ts 1 True) _ (by kernel_rfl) (tsI 1 trivial) h
 ·have h:=h.2 hb
  refine aw_skip ?_
  refine thenQ_n ?_
  refine aw_seq ?_
  refine sr ?_
  refine rqT 1 ⟨11,[sp 2 2,s1 8 (.pS w)],[hB 2 [.pI k]]⟩ (by kernel_rfl) ?_
  refine awl_conv [.freezeB 2 tI] (st':=(⟨11,[s1 2 (.ad tI k),s1 8 (.pS w)],[]⟩:St)) (by kernel_rfl) ?_
  refine rqT 1 ⟨11,[s1 8 (.pS w),s1 9 (.fn 36 [(⟨tI,k⟩:Dat)])],[]⟩ (by kernel_rfl) ?_
  refine lcq (d:=10) [.d (.sl tI),.fn] (fun ret10v=>(⟨11,[sB 10 ret10v],[]⟩:St)) (by kernel_rfl) Try.call35 (fun _=>by kernel_rfl) (link35 w 36 [(⟨tI,k⟩:Dat)] (fun (x:Int) (K:Bool→Prop)=>VC36 x k K) ⟨Try.call36,fun x K h=>link36 x k K h⟩ _ h) (fun ret10v h=>?_)
  refine nn ?_
  refine aw_cond (b:=ret10v) (by kernel_rfl) (fun hb=>?_) (fun hb=>?_)
  ·have h:=h.1 hb
   refine srn 1 ⟨11,[sI 4 (2:Int)],[]⟩ (by kernel_rfl) rfl ?_
   refine aw_ret ?_
   refine thenQ_r ?_
   exact retQ_r (ob:=Ts 1 True) _ (by kernel_rfl) (tsI 1 trivial) h
  ·have h:=h.2 hb
   refine aw_skip ?_
   refine thenQ_n ?_
   refine srn 1 ⟨11,[sI 4 (0:Int)],[]⟩ (by kernel_rfl) rfl ?_
   refine aw_ret ?_
   exact retQ_r (ob:=Ts 1 True) _ (by kernel_rfl) (tsI 1 trivial) h
abbrev e66_0 (g:TG):Nat×Path×Con:=hB 2 [.pI g.1,.pI g.2.1,.pI g.2.2.1,.p (.sl tR) g.2.2.2]
-- coppicer/table.Check
def VC66 (g:TG) (w:LI) (K:Int→Prop):Prop :=
  VC25 g (fun (ret7v:Int)=>(((!decide (ret7v=(0:Int)))=true→K ret7v)∧((!decide (ret7v=(0:Int)))=false→VC21 g.1 w (fun (ret14v:Int)=>K ret14v))))
set_option maxHeartbeats 4000000 in
theorem link66 (g:TG) (w:LI) (K:Int→Prop) (h:VC66 g w K):ACalls Try.prog 66 [toV1 tG g,toV1 (.sl tI) w] (fun res=>∃ y,res=(fun y=>[toV1 tI y]) y∧K y):=by
 refine acalls_of_aw [tI] [.t 4] Try.func66 rfl rfl rfl ?_
 unfold VC66 at h
 refine srn 2 ⟨15,[s1 1 (.pS w),sp 2 2],[e66_0 g]⟩ (by kernel_rfl) rfl ?_
 refine aw_seq ?_
 refine sr ?_
 refine rqT 1 ⟨15,[s1 1 (.pS w),sp 2 2,sA 6 [.pI g.1,.pI g.2.1,.pI g.2.2.1,.p (.sl tR) g.2.2.2]],[e66_0 g]⟩ (by kernel_rfl) ?_
 refine lcq (d:=7) [.d tG] (fun ret7v=>(⟨15,[s1 1 (.pS w),sp 2 2,sI 7 ret7v],[e66_0 g]⟩:St)) (by kernel_rfl) Try.call25 (fun _=>by kernel_rfl) (link25 g _ h) (fun ret7v h=>?_)
 refine rqT 1 ⟨15,[s1 1 (.pS w),sp 2 2,sI 5 ret7v],[e66_0 g]⟩ (by kernel_rfl) ?_
 refine nsr ?_
 refine rqT 2 ⟨15,[s1 1 (.pS w),sp 2 2,sI 5 ret7v,sB 9 (!decide (ret7v=(0:Int)))],[e66_0 g]⟩ (by kernel_rfl) ?_
 refine nn ?_
 refine aw_cond (b:=(!decide (ret7v=(0:Int)))) (by kernel_rfl) (fun hb=>?_) (fun hb=>?_)
 ·have h:=h.1 hb
  refine srn 2 ⟨15,[sI 4 ret7v],[]⟩ (by kernel_rfl) rfl ?_
  refine aw_ret ?_
  refine thenQ_r ?_
  exact retQ_r (ob:=Ts 1 True) _ (by kernel_rfl) (tsI 1 trivial) h
 ·have h:=h.2 hb
  refine aw_skip ?_
  refine thenQ_n ?_
  refine sr ?_
  refine rqT 3 ⟨15,[sI 12 g.1,s1 13 (.pS w)],[]⟩ (by kernel_rfl) ?_
  refine lcq (d:=14) [.d tI,.d (.sl tI)] (fun ret14v=>(⟨15,[sI 14 ret14v],[]⟩:St)) (by kernel_rfl) Try.call21 (fun _=>by kernel_rfl) (link21 g.1 w _ h) (fun ret14v h=>?_)
  refine rqT 1 ⟨15,[sI 4 ret14v],[]⟩ (by kernel_rfl) ?_
  refine nn ?_
  refine aw_ret ?_
  exact retQ_r (ob:=Ts 1 True) _ (by kernel_rfl) (tsI 1 trivial) h
-- coppicer/table.Times
def VC86 (a:Int) (b:Int) (K:Int→Prop):Prop :=
  ((((decide (a=(0:Int)))||(decide (b=(0:Int))))=true→K (0:Int))∧(((decide (a=(0:Int)))||(decide (b=(0:Int))))=false→((0≤(1099511627777:Int)∧0<b)∧(((decide (((1099511627777:Int) / b)<a))=true→K (1099511627777:Int))∧((decide (((1099511627777:Int) / b)<a))=false→(InR (a*b)∧K (imin (a*b) (1099511627777:Int))))))))
set_option maxHeartbeats 4000000 in
theorem link86 (a:Int) (b:Int) (K:Int→Prop) (h:VC86 a b K):ACalls Try.prog 86 [toV1 tI a,toV1 tI b] (fun res=>∃ y,res=(fun y=>[toV1 tI y]) y∧K y):=by
 refine acalls_of_aw [tI] [.t 4] Try.func86 rfl rfl rfl ?_
 unfold VC86 at h
 refine srn 1 ⟨19,[sI 0 a,sI 1 b],[]⟩ (by kernel_rfl) rfl ?_
 refine aw_seq ?_
 refine sr ?_
 refine rq 6 (ob:=(Ts 3 (Ti 2 ((decide (a=(0:Int)))=false→True) (Ts 1 True)))) (st':=(⟨19,[sI 0 a,sI 1 b,sB 10 ((decide (a=(0:Int)))||(decide (b=(0:Int))))],[]⟩:St)) (by kernel_rfl) (tsI 3 (tiI 2 (fun _=>trivial) (tsI 1 trivial))) ?_
 refine nn ?_
 refine aw_cond (b:=((decide (a=(0:Int)))||(decide (b=(0:Int))))) (by kernel_rfl) (fun hb=>?_) (fun hb=>?_)
 ·have h:=h.1 hb
  refine srn 1 ⟨19,[sI 4 (0:Int)],[]⟩ (by kernel_rfl) rfl ?_
  refine aw_ret ?_
  refine thenQ_r ?_
  exact retQ_r (ob:=Ts 1 True) _ (by kernel_rfl) (tsI 1 trivial) h
 ·have h:=h.2 hb
  refine aw_skip ?_
  refine thenQ_n ?_
  refine aw_seq ?_
  refine sr ?_
  obtain ⟨o1,h⟩:=h
  refine rq 4 (ob:=(Ts 2 ((0≤(1099511627777:Int)∧0<b)∧Ts 1 True))) (st':=(⟨19,[sI 0 a,sI 1 b,sB 14 (decide (((1099511627777:Int) / b)<a))],[]⟩:St)) (by kernel_rfl) (tsI 2 ⟨o1,tsI 1 trivial⟩) ?_
  refine nn ?_
  refine aw_cond (b:=(decide (((1099511627777:Int) / b)<a))) (by kernel_rfl) (fun hb=>?_) (fun hb=>?_)
  ·have h:=h.1 hb
   refine srn 1 ⟨19,[sI 4 (1099511627777:Int)],[]⟩ (by kernel_rfl) rfl ?_
   refine aw_ret ?_
   refine thenQ_r ?_
   exact retQ_r (ob:=Ts 1 True) _ (by kernel_rfl) (tsI 1 trivial) h
  ·have h:=h.2 hb
   refine aw_skip ?_
   refine thenQ_n ?_
   refine sr ?_
   obtain ⟨o1,h⟩:=h
   refine rq 5 (ob:=(Ts 2 (InR (a*b)∧Ts 2 True))) (st':=(⟨19,[sI 4 (imin (a*b) (1099511627777:Int))],[]⟩:St)) (by kernel_rfl) (tsI 2 ⟨o1,tsI 2 trivial⟩) ?_
   refine nn ?_
   refine aw_ret ?_
   exact retQ_r (ob:=Ts 1 True) _ (by kernel_rfl) (tsI 1 trivial) h
-- coppicer/table.Add
def VC83 (a:Int) (b:Int) (K:Int→Prop):Prop :=
  (InR (a+b)∧K (imin (a+b) (1099511627777:Int)))
set_option maxHeartbeats 4000000 in
theorem link83 (a:Int) (b:Int) (K:Int→Prop) (h:VC83 a b K):ACalls Try.prog 83 [toV1 tI a,toV1 tI b] (fun res=>∃ y,res=(fun y=>[toV1 tI y]) y∧K y):=by
 refine acalls_of_aw [tI] [.t 4] Try.func83 rfl rfl rfl ?_
 unfold VC83 at h
 refine sr ?_
 refine rqT 1 ⟨9,[sI 0 a,sI 1 b],[]⟩ (by kernel_rfl) ?_
 refine nsr ?_
 obtain ⟨o1,h⟩:=h
 refine rq 5 (ob:=(Ts 2 (InR (a+b)∧Ts 2 True))) (st':=(⟨9,[sI 4 (imin (a+b) (1099511627777:Int))],[]⟩:St)) (by kernel_rfl) (tsI 2 ⟨o1,tsI 2 trivial⟩) ?_
 refine nn ?_
 refine aw_ret ?_
 exact retQ_r (ob:=Ts 1 True) _ (by kernel_rfl) (tsI 1 trivial) h
abbrev e56_0 (c0:Int) (c1:Int) (c2:Int) (c3:LR) (c4:LI):Nat×Path×Con:=hB 70000 [.pI c0,.pI c1,.pI c2,.p (.sl tR) c3,.pS c4,.own 70001]
abbrev e56_1 (c3:LR) (c:Int) (rule:Int):Nat×Path×AV:=sI 1 ((((c3.getD (c).toNat ((0:Int),([]:LI))).2).drop (rule).toNat).getD ((0:Int)).toNat (0:Int))
abbrev e56_2 (c3:LR) (c:Int) (rule:Int) (fromv:Int) (over:Int):Nat×Path×Con:=hB 7 [.pI (-1:Int),.pI ((((c3.getD (c).toNat ((0:Int),([]:LI))).2).drop (rule).toNat).getD ((0:Int)).toNat (0:Int)),.pI fromv,.pI over]
abbrev e56_3 (c3:LR) (c:Int) (rule:Int) (fromv:Int) (endv:Int):Nat×Path×Con:=hB 7 [.pI (-1:Int),.pI ((((c3.getD (c).toNat ((0:Int),([]:LI))).2).drop (rule).toNat).getD ((0:Int)).toNat (0:Int)),.pI fromv,.pI endv]
abbrev e56_4 (c3:LR) (c:Int) (rule:Int):Nat×Path×AV:=s1 96 (.pS (((c3.getD (c).toNat ((0:Int),([]:LI))).2).drop (rule).toNat))
abbrev e56_5 (c:Int) (rule:Int) (fromv:Int) (over:Int):Nat×Path×Con:=hB 30101 [.pI c,.pI rule,.pI fromv,.pI over]
abbrev e56_6 (c3:LR) (c:Int) (rule:Int):Nat×Path×AV:=s1 9 (.pS (((c3.getD (c).toNat ((0:Int),([]:LI))).2).drop (rule).toNat))
abbrev e56_7 (l70001:LK):Nat×Path×Con:=(70001,[],.dict (.pr tI t3) tI l70001)
abbrev e56_8 (c5:LK):Nat×Path×Con:=(70001,[],.dict (.pr tI t3) tI c5)
abbrev e56_9 (c3:LR):Nat×Path×AV:=s1 56 (.p (.sl tR) c3)
abbrev e56_10 (fromv:Int) (over:Int):Nat×Path×Con:=hB 30100 [.pI fromv,.pI over]
abbrev e56_11 (l700012:LK):Nat×Path×Con:=(70001,[],.dict (.pr tI t3) tI l700012)
abbrev e56_12:Nat×Path×AV:=sp 0 70000
abbrev e56_13:Nat×Path×AV:=sp 186 70000
abbrev e56_14 (ret77v:Int×LK):Nat×Path×Con:=(70001,[],.dict (.pr tI t3) tI ret77v.2)
abbrev e56_15 (c3:LR):Nat×Path×AV:=sI 57 (c3.length:Int)
abbrev e56_16 (fromv:Int) (over:Int):Nat×Path×Con:=hB 5 [.pI fromv,.pI over]
abbrev e56_17 (fromv:Int) (endv:Int):Nat×Path×Con:=hB 5 [.pI fromv,.pI endv]
abbrev e56_18:Nat×Path×AV:=sp 99 70000
abbrev e56_19 (c:Int) (rule:Int) (fromv:Int) (over:Int):Nat×Path×Con:=hB 10 [.pI c,.pI rule,.pI fromv,.pI over]
abbrev e56_20 (l700012:LK) (c3:LR) (c:Int) (rule:Int) (fromv:Int) (endv:Int) (n2:Int):Nat×Path×Con:=(70001,[],.dict (.pr tI t3) tI (mset l700012 ((-1:Int),(((((c3.getD (c).toNat ((0:Int),([]:LI))).2).drop (rule).toNat).getD ((0:Int)).toNat (0:Int)),(fromv,endv))) n2))
abbrev e56_21 (ret89v:Int×LK):Nat×Path×Con:=(70001,[],.dict (.pr tI t3) tI ret89v.2)
abbrev e56_22 (c3:LR) (v58:Int) (c:Int) (rule:Int) (c0:Int):Nat×Path×AV:=sB 72 (decide ((c3.getD (v58).toNat ((0:Int),([]:LI))).1=(((((c3.getD (c).toNat ((0:Int),([]:LI))).2).drop (rule).toNat).getD ((0:Int)).toNat (0:Int))-c0)))
abbrev e56_23:Nat×Path×AV:=sp 87 70000
abbrev e56_24:Nat×Path×AV:=sp 94 30100
abbrev e56_25:Nat×Path×AV:=sp 97 30101
abbrev e56_26 (c3:LR) (c:Int) (rule:Int):Nat×Path×AV:=sI 71 ((((c3.getD (c).toNat ((0:Int),([]:LI))).2).drop (rule).toNat).getD ((0:Int)).toNat (0:Int))
abbrev e56_27 (fromv:Int) (over:Int):Nat×Path×Con:=hB 7 [.pI fromv,.pI over]
abbrev e56_28 (c3:LR) (c:Int) (rule:Int) (c0:Int):Nat×Path×AV:=sB 19 (decide (((((c3.getD (c).toNat ((0:Int),([]:LI))).2).drop (rule).toNat).getD ((0:Int)).toNat (0:Int))<c0))
abbrev e56_29 (c3:LR) (v58:Int):Nat×Path×Con:=hB 12 [.pI ((c3.getD (v58).toNat ((0:Int),([]:LI))).1),.pS ((c3.getD (v58).toNat ((0:Int),([]:LI))).2)]
abbrev e56_30 (c3:LR) (c:Int) (rule:Int):Nat×Path×AV:=sB 37 (decide (((((c3.getD (c).toNat ((0:Int),([]:LI))).2).drop (rule).toNat).length:Int)=(1:Int)))
abbrev e56_31 (l700013:LK):Nat×Path×Con:=(70001,[],.dict (.pr tI t3) tI l700013)
abbrev e56_32:Nat×Path×AV:=sp 10 30101
abbrev e56_33:Nat×Path×AV:=sp 7 30100
abbrev e56_n0:List Nat:=[0,1,2,3,4,5,6,7,8,9,10,11,12,13,14,15,16,17]
abbrev e56_n1:List Nat:=[17,16,15,14,13,12,11,10,9,8,7,6,5,4,3,2,1,0]
abbrev e56_n2:List Nat:=[0,1,2,3,4,5,6,7,8,9,10]
abbrev e56_n3:List Nat:=[10,9,8,7,6,5,4,3,2,1,0]
-- (*coppicer/table.Counter).Row
def VCc72_k1 (K:Int×LK→Prop) (v6:Int) (l70001:LK):Prop :=
  K (v6,l70001)
def VCc72_k2 (c3:LR) (c:Int) (rule:Int) (fromv:Int) (over:Int) (K:Int×LK→Prop) (n:Int) (l70001:LK):Prop :=
  VCc72_k1 K n (mset l70001 ((-1:Int),(((((c3.getD (c).toNat ((0:Int),([]:LI))).2).drop (rule).toNat).getD ((0:Int)).toNat (0:Int)),(fromv,over))) n)
def VCc72_k3 (v58:Int) (X1:Int×Int×LK→Prop) (n2:Int) (l700012:LK):Prop :=
  (InR (v58+(1:Int))∧X1 (n2,(v58+(1:Int)),l700012))
def VCc72_l1 (c0:Int) (c3:LR) (R:Int→Int→Int→Int→LK→(Int×LK→Prop)→Prop) (c:Int) (rule:Int) (fromv:Int) (over:Int) (K:Int×LK→Prop) (n:Int) (v58:Int) (l70001:LK) (X1:Int×Int×LK→Prop):Prop :=
  (((decide (v58<(c3.length:Int)))=true→(inIdx v58 c3.length∧(InR (((((c3.getD (c).toNat ((0:Int),([]:LI))).2).drop (rule).toNat).getD ((0:Int)).toNat (0:Int))-c0)∧(((decide ((c3.getD (v58).toNat ((0:Int),([]:LI))).1=(((((c3.getD (c).toNat ((0:Int),([]:LI))).2).drop (rule).toNat).getD ((0:Int)).toNat (0:Int))-c0)))=true→R v58 (0:Int) fromv over l70001 (fun (ret77v:Int×LK)=>VC83 n ret77v.1 (fun (ret78v:Int)=>VCc72_k3 v58 X1 ret78v ret77v.2)))∧((decide ((c3.getD (v58).toNat ((0:Int),([]:LI))).1=(((((c3.getD (c).toNat ((0:Int),([]:LI))).2).drop (rule).toNat).getD ((0:Int)).toNat (0:Int))-c0)))=false→VCc72_k3 v58 X1 n l70001)))))∧((decide (v58<(c3.length:Int)))=false→VCc72_k2 c3 c rule fromv over K n l70001))
def VCc72_k4 (c:Int) (rule:Int) (fromv:Int) (over:Int) (K:Int×LK→Prop) (n:Int) (l70001:LK):Prop :=
  K (n,(mset l70001 (c,(rule,(fromv,over))) n))
def VCc72_k6 (endv:Int) (X2:Int×Int×LK→Prop) (n2:Int) (l700013:LK):Prop :=
  (InR (endv+(1:Int))∧X2 (n2,(endv+(1:Int)),l700013))
def VCc72_k5 (R:Int→Int→Int→Int→LK→(Int×LK→Prop)→Prop) (c:Int) (rule:Int) (over:Int) (n:Int) (endv:Int) (X2:Int×Int×LK→Prop) (v6:Int) (l700012:LK):Prop :=
  (((decide ((0:Int)<v6))=true→(InR (rule+(1:Int))∧R c (rule+(1:Int)) endv over l700012 (fun (ret89v:Int×LK)=>VC86 v6 ret89v.1 (fun (ret90v:Int)=>VC83 n ret90v (fun (ret91v:Int)=>VCc72_k6 endv X2 ret91v ret89v.2)))))∧((decide ((0:Int)<v6))=false→VCc72_k6 endv X2 n l700012))
def VCc72_k7 (c3:LR) (R:Int→Int→Int→Int→LK→(Int×LK→Prop)→Prop) (c:Int) (rule:Int) (fromv:Int) (over:Int) (n:Int) (endv:Int) (X2:Int×Int×LK→Prop) (n2:Int) (l700012:LK):Prop :=
  VCc72_k5 R c rule over n endv X2 n2 (mset l700012 ((-1:Int),(((((c3.getD (c).toNat ((0:Int),([]:LI))).2).drop (rule).toNat).getD ((0:Int)).toNat (0:Int)),(fromv,endv))) n2)
def VCc72_k8 (v58:Int) (X3:Int×Int×LK→Prop) (n3:Int) (l700013:LK):Prop :=
  (InR (v58+(1:Int))∧X3 (n3,(v58+(1:Int)),l700013))
def VCc72_l3 (c0:Int) (c3:LR) (R:Int→Int→Int→Int→LK→(Int×LK→Prop)→Prop) (c:Int) (rule:Int) (fromv:Int) (over:Int) (n:Int) (endv:Int) (X2:Int×Int×LK→Prop) (n2:Int) (v58:Int) (l700012:LK) (X3:Int×Int×LK→Prop):Prop :=
  (((decide (v58<(c3.length:Int)))=true→(inIdx v58 c3.length∧(InR (((((c3.getD (c).toNat ((0:Int),([]:LI))).2).drop (rule).toNat).getD ((0:Int)).toNat (0:Int))-c0)∧(((decide ((c3.getD (v58).toNat ((0:Int),([]:LI))).1=(((((c3.getD (c).toNat ((0:Int),([]:LI))).2).drop (rule).toNat).getD ((0:Int)).toNat (0:Int))-c0)))=true→R v58 (0:Int) fromv endv l700012 (fun (ret77v:Int×LK)=>VC83 n2 ret77v.1 (fun (ret78v:Int)=>VCc72_k8 v58 X3 ret78v ret77v.2)))∧((decide ((c3.getD (v58).toNat ((0:Int),([]:LI))).1=(((((c3.getD (c).toNat ((0:Int),([]:LI))).2).drop (rule).toNat).getD ((0:Int)).toNat (0:Int))-c0)))=false→VCc72_k8 v58 X3 n2 l700012)))))∧((decide (v58<(c3.length:Int)))=false→VCc72_k7 c3 R c rule fromv over n endv X2 n2 l700012))
def VCc72_l2 (c0:Int) (c3:LR) (c4:LI) (R:Int→Int→Int→Int→LK→(Int×LK→Prop)→Prop) (c:Int) (rule:Int) (fromv:Int) (over:Int) (K:Int×LK→Prop) (n:Int) (endv:Int) (l70001:LK) (X2:Int×Int×LK→Prop):Prop :=
  (((decide (endv<over))=true→(inIdx (0:Int) (((c3.getD (c).toNat ((0:Int),([]:LI))).2).drop (rule).toNat).length∧(((decide (((((c3.getD (c).toNat ((0:Int),([]:LI))).2).drop (rule).toNat).getD ((0:Int)).toNat (0:Int))<c0))=true→(InR (fromv+(1:Int))∧((decide (endv=(fromv+(1:Int))))=true→inIdx fromv c4.length)∧((((decide (endv=(fromv+(1:Int))))&&(decide ((c4.getD (fromv).toNat (0:Int))=((((c3.getD (c).toNat ((0:Int),([]:LI))).2).drop (rule).toNat).getD ((0:Int)).toNat (0:Int)))))=true→VCc72_k5 R c rule over n endv X2 (1:Int) l70001)∧(((decide (endv=(fromv+(1:Int))))&&(decide ((c4.getD (fromv).toNat (0:Int))=((((c3.getD (c).toNat ((0:Int),([]:LI))).2).drop (rule).toNat).getD ((0:Int)).toNat (0:Int)))))=false→VCc72_k5 R c rule over n endv X2 (0:Int) l70001))))∧((decide (((((c3.getD (c).toNat ((0:Int),([]:LI))).2).drop (rule).toNat).getD ((0:Int)).toNat (0:Int))<c0))=false→(((mget l70001 ((-1:Int),(((((c3.getD (c).toNat ((0:Int),([]:LI))).2).drop (rule).toNat).getD ((0:Int)).toNat (0:Int)),(fromv,endv)))).isSome=true→VCc72_k5 R c rule over n endv X2 ((mget l70001 ((-1:Int),(((((c3.getD (c).toNat ((0:Int),([]:LI))).2).drop (rule).toNat).getD ((0:Int)).toNat (0:Int)),(fromv,endv)))).getD (0:Int)) l70001)∧((mget l70001 ((-1:Int),(((((c3.getD (c).toNat ((0:Int),([]:LI))).2).drop (rule).toNat).getD ((0:Int)).toNat (0:Int)),(fromv,endv)))).isSome=false→Loop (σ:=Int×Int×LK) (fun s X=>VCc72_l3 c0 c3 R c rule fromv over n endv X2 s.1 s.2.1 s.2.2 X) ((0:Int),(0:Int),l70001)))))))∧((decide (endv<over))=false→VCc72_k4 c rule fromv over K n l70001))
def VCc72 (c0:Int) (c1:Int) (c2:Int) (c3:LR) (c4:LI) (R:Int→Int→Int→Int→LK→(Int×LK→Prop)→Prop) (c:Int) (rule:Int) (fromv:Int) (over:Int) (c5:LK) (K:Int×LK→Prop):Prop :=
  (inIdx c c3.length∧(0≤rule∧rule≤(((c3.getD (c).toNat ((0:Int),([]:LI))).2).length:Int))∧(InR (over-fromv)∧(((decide ((over-fromv)<((((c3.getD (c).toNat ((0:Int),([]:LI))).2).drop (rule).toNat).length:Int)))=true→K ((0:Int),c5))∧((decide ((over-fromv)<((((c3.getD (c).toNat ((0:Int),([]:LI))).2).drop (rule).toNat).length:Int)))=false→(((decide (((((c3.getD (c).toNat ((0:Int),([]:LI))).2).drop (rule).toNat).length:Int)=(1:Int)))=true→(inIdx (0:Int) (((c3.getD (c).toNat ((0:Int),([]:LI))).2).drop (rule).toNat).length∧(((decide (((((c3.getD (c).toNat ((0:Int),([]:LI))).2).drop (rule).toNat).getD ((0:Int)).toNat (0:Int))<c0))=true→(InR (fromv+(1:Int))∧((decide (over=(fromv+(1:Int))))=true→inIdx fromv c4.length)∧((((decide (over=(fromv+(1:Int))))&&(decide ((c4.getD (fromv).toNat (0:Int))=((((c3.getD (c).toNat ((0:Int),([]:LI))).2).drop (rule).toNat).getD ((0:Int)).toNat (0:Int)))))=true→VCc72_k1 K (1:Int) c5)∧(((decide (over=(fromv+(1:Int))))&&(decide ((c4.getD (fromv).toNat (0:Int))=((((c3.getD (c).toNat ((0:Int),([]:LI))).2).drop (rule).toNat).getD ((0:Int)).toNat (0:Int)))))=false→VCc72_k1 K (0:Int) c5))))∧((decide (((((c3.getD (c).toNat ((0:Int),([]:LI))).2).drop (rule).toNat).getD ((0:Int)).toNat (0:Int))<c0))=false→(((mget c5 ((-1:Int),(((((c3.getD (c).toNat ((0:Int),([]:LI))).2).drop (rule).toNat).getD ((0:Int)).toNat (0:Int)),(fromv,over)))).isSome=true→VCc72_k1 K ((mget c5 ((-1:Int),(((((c3.getD (c).toNat ((0:Int),([]:LI))).2).drop (rule).toNat).getD ((0:Int)).toNat (0:Int)),(fromv,over)))).getD (0:Int)) c5)∧((mget c5 ((-1:Int),(((((c3.getD (c).toNat ((0:Int),([]:LI))).2).drop (rule).toNat).getD ((0:Int)).toNat (0:Int)),(fromv,over)))).isSome=false→Loop (σ:=Int×Int×LK) (fun s X=>VCc72_l1 c0 c3 R c rule fromv over K s.1 s.2.1 s.2.2 X) ((0:Int),(0:Int),c5)))))))∧((decide (((((c3.getD (c).toNat ((0:Int),([]:LI))).2).drop (rule).toNat).length:Int)=(1:Int)))=false→(((mget c5 (c,(rule,(fromv,over)))).isSome=true→K (((mget c5 (c,(rule,(fromv,over)))).getD (0:Int)),c5))∧((mget c5 (c,(rule,(fromv,over)))).isSome=false→(InR (fromv+(1:Int))∧Loop (σ:=Int×Int×LK) (fun s X=>VCc72_l2 c0 c3 c4 R c rule fromv over K s.1 s.2.1 s.2.2 X) ((0:Int),(fromv+(1:Int)),c5))))))))))
set_option maxHeartbeats 4000000 in
theorem linkc72 (c0:Int) (c1:Int) (c2:Int) (c3:LR) (c4:LI) (R:Int→Int→Int→Int→LK→(Int×LK→Prop)→Prop) (hR:∀ (c:Int) (rule:Int) (fromv:Int) (over:Int) (c5:LK) (K:Int×LK→Prop),R c rule fromv over c5 K→LCalls Try.prog 72 [70000,70001] [70000] [e56_0 c0 c1 c2 c3 c4,e56_8 c5] [.c (.ptr 70000 0),.c (.pI c),.c (.pI rule),.agg [.pI fromv,.pI over]] (fun av hp'=>∃ y:Int×LK,av=.v (.c (.pI y.1))∧hp'=[e56_0 c0 c1 c2 c3 c4,(70001,[],.dict (.pr tI t3) tI y.2)]∧K y)) (c:Int) (rule:Int) (fromv:Int) (over:Int) (c5:LK) (K:Int×LK→Prop) (h:VCc72 c0 c1 c2 c3 c4 R c rule fromv over c5 K):LCalls Try.prog 72 [70000,70001] [70000] [e56_0 c0 c1 c2 c3 c4,e56_8 c5] [.c (.ptr 70000 0),.c (.pI c),.c (.pI rule),.agg [.pI fromv,.pI over]] (fun av hp'=>∃ y:Int×LK,av=.v (.c (.pI y.1))∧hp'=[e56_0 c0 c1 c2 c3 c4,(70001,[],.dict (.pr tI t3) tI y.2)]∧K y):=by
 refine lcalls_of_aw [70000,70001] [70000] [.t 8] Try.func72 rfl rfl (by kernel_rfl) (by kernel_rfl) (by kernel_rfl) ?_
 refine aw_conv [] (st':=(⟨99,[e56_12,sI 1 c,sI 2 rule,sA 3 [.pI fromv,.pI over],e56_18],[e56_0 c0 c1 c2 c3 c4,e56_8 c5]⟩:St)) (by kernel_rfl) ?_
 unfold VCc72 at h
 refine sr ?_
 refine rqT 2 ⟨99,[e56_12,sI 1 c,sI 2 rule,sp 7 7,e56_18],[e56_27 fromv over,e56_0 c0 c1 c2 c3 c4,e56_8 c5]⟩ (by kernel_rfl) ?_
 refine nsr ?_
 obtain ⟨o1,o2,h⟩:=h
 refine rq 12 (ob:=(Ts 6 (inIdx c c3.length∧Ts 3 ((0≤rule∧rule≤(((c3.getD (c).toNat ((0:Int),([]:LI))).2).length:Int))∧Ts 1 True)))) (st':=(⟨99,[e56_12,sI 1 c,sI 2 rule,sp 7 7,e56_6 c3 c rule,e56_18],[e56_27 fromv over,e56_0 c0 c1 c2 c3 c4,e56_8 c5]⟩:St)) (by kernel_rfl) (tsI 6 (⟨o1,tsI 3 ⟨o2,tsI 1 trivial⟩⟩)) ?_
 refine nn ?_
 refine aw_seq ?_
 refine sr ?_
 obtain ⟨o1,h⟩:=h
 refine rq 8 (ob:=(Ts 4 (InR (over-fromv)∧Ts 3 True))) (st':=(⟨99,[e56_12,sI 1 c,sI 2 rule,sp 7 7,e56_6 c3 c rule,sB 34 (decide ((over-fromv)<((((c3.getD (c).toNat ((0:Int),([]:LI))).2).drop (rule).toNat).length:Int))),e56_18],[e56_27 fromv over,e56_0 c0 c1 c2 c3 c4,e56_8 c5]⟩:St)) (by kernel_rfl) (tsI 4 ⟨o1,tsI 3 trivial⟩) ?_
 refine nn ?_
 refine aw_cond (b:=(decide ((over-fromv)<((((c3.getD (c).toNat ((0:Int),([]:LI))).2).drop (rule).toNat).length:Int)))) (by kernel_rfl) (fun hb=>?_) (fun hb=>?_)
 ·have h:=h.1 hb
  refine srn 1 ⟨99,[sI 8 (0:Int),e56_18],[e56_0 c0 c1 c2 c3 c4,e56_8 c5]⟩ (by kernel_rfl) rfl ?_
  refine aw_ret ?_
  refine thenQ_r ?_
  exact lret_r (σ:=Int×LK) (A:=fun y=>.v (.c (.pI y.1))) (H:=fun y=>[e56_0 c0 c1 c2 c3 c4,(70001,[],.dict (.pr tI t3) tI y.2)]) (ob:=True) ((0:Int),c5) (by kernel_rfl) trivial rfl (by kernel_rfl) (by kernel_rfl) (by kernel_rfl) h
 ·have h:=h.2 hb
  refine aw_skip ?_
  refine thenQ_n ?_
  refine aw_seq ?_
  refine srn 3 ⟨99,[e56_12,sI 1 c,sI 2 rule,sp 7 7,e56_6 c3 c rule,e56_30 c3 c rule,e56_18],[e56_27 fromv over,e56_0 c0 c1 c2 c3 c4,e56_8 c5]⟩ (by kernel_rfl) rfl ?_
  refine aw_cond (b:=(decide (((((c3.getD (c).toNat ((0:Int),([]:LI))).2).drop (rule).toNat).length:Int)=(1:Int)))) (by kernel_rfl) (fun hb=>?_) (fun hb=>?_)
  ·have h:=h.1 hb
   refine aw_seq ?_
   refine aw_conv [.ren 7 30000] (st':=(⟨99,[e56_12,sI 1 c,sI 2 rule,sp 7 30000,e56_6 c3 c rule,e56_30 c3 c rule,e56_18],[hB 30000 [.pI fromv,.pI over],e56_0 c0 c1 c2 c3 c4,e56_8 c5]⟩:St)) (by kernel_rfl) ?_
   refine awd_begin [70000,70001] (by kernel_rfl) ?_
   obtain ⟨o1,h⟩:=h
   refine drq (by kernel_rfl) [0,1,2,3,4] (ob:=(Ts 2 (inIdx (0:Int) (((c3.getD (c).toNat ((0:Int),([]:LI))).2).drop (rule).toNat).length∧Ts 2 True))) (done':=[4,3,2,1,0]) (st':=(⟨99,[sp 38 70000,sI 41 ((((c3.getD (c).toNat ((0:Int),([]:LI))).2).drop (rule).toNat).getD ((0:Int)).toNat (0:Int)),sA 42 [.pI fromv,.pI over],e56_18],[e56_0 c0 c1 c2 c3 c4,e56_8 c5]⟩:St)) (by kernel_rfl) (tsI 2 ⟨o1,tsI 2 trivial⟩) ?_
   refine awd_one (i:=5) (by kernel_rfl) ?_
   refine adop_inlr [.t 6] [.c (.ptr 70000 0),.c (.pI ((((c3.getD (c).toNat ((0:Int),([]:LI))).2).drop (rule).toNat).getD ((0:Int)).toNat (0:Int))),.agg [.pI fromv,.pI over]] [] rfl rfl rfl (by kernel_rfl) rfl (by kernel_rfl) Try.call68 (by kernel_rfl) (by kernel_rfl) Try.func68 rfl rfl (by kernel_rfl) ?_
   refine aw_conv [] (st':=(⟨87,[e56_12,e56_1 c3 c rule,sA 2 [.pI fromv,.pI over],sp 125 70000,sI 128 ((((c3.getD (c).toNat ((0:Int),([]:LI))).2).drop (rule).toNat).getD ((0:Int)).toNat (0:Int)),sA 129 [.pI fromv,.pI over],e56_13],[e56_0 c0 c1 c2 c3 c4,e56_8 c5]⟩:St)) (by kernel_rfl) ?_
   refine withJoinR (σ:=Int×LK) (fun s=>(⟨87,[sI 6 s.1,e56_13],[e56_0 c0 c1 c2 c3 c4,(70001,[],.dict (.pr tI t3) tI s.2)]⟩:St)) (fun s=>VCc72_k1 K s.1 s.2) (fun s h=>?_) (fun rest1=>?_)
   ·obtain ⟨v6,l70001⟩:=s
    have h:VCc72_k1 K v6 l70001:=h
    unfold VCc72_k1 at h
    refine inlR_n (ob:=True) (.v (.c (.pI v6))) (by kernel_rfl) trivial rfl ?_
    refine dpr (st':=(⟨99,[sI 43 v6,e56_18],[e56_0 c0 c1 c2 c3 c4,e56_7 l70001]⟩:St)) (by kernel_rfl) ?_
    refine drq (by kernel_rfl) [6] (ob:=(Ts 1 True)) (done':=[6,5,4,3,2,1,0]) (st':=(⟨99,[sI 8 v6,e56_18],[e56_0 c0 c1 c2 c3 c4,e56_7 l70001]⟩:St)) (by kernel_rfl) (tsI 1 trivial) ?_
    refine awd_done (by kernel_rfl) ?_
    refine thenQ_n ?_
    refine aw_ret ?_
    refine thenQ_r ?_
    exact lret_r (σ:=Int×LK) (A:=fun y=>.v (.c (.pI y.1))) (H:=fun y=>[e56_0 c0 c1 c2 c3 c4,(70001,[],.dict (.pr tI t3) tI y.2)]) (ob:=True) (v6,l70001) (by kernel_rfl) trivial rfl (by kernel_rfl) (by kernel_rfl) (by kernel_rfl) h
   ·refine srn 2 ⟨87,[e56_12,e56_1 c3 c rule,sp 5 5,e56_13],[e56_16 fromv over,e56_0 c0 c1 c2 c3 c4,e56_8 c5]⟩ (by kernel_rfl) rfl ?_
    refine aw_seq ?_
    refine srn 7 ⟨87,[e56_12,e56_1 c3 c rule,sp 5 5,e56_28 c3 c rule c0,e56_13],[e56_16 fromv over,e56_0 c0 c1 c2 c3 c4,e56_8 c5]⟩ (by kernel_rfl) rfl ?_
    refine aw_cond (b:=(decide (((((c3.getD (c).toNat ((0:Int),([]:LI))).2).drop (rule).toNat).getD ((0:Int)).toNat (0:Int))<c0))) (by kernel_rfl) (fun hb=>?_) (fun hb=>?_)
    ·have h:=h.1 hb
     refine aw_seq ?_
     refine aw_seq ?_
     refine awd_begin [] (by kernel_rfl) ?_
     obtain ⟨o1,o2,h⟩:=h
     refine drq (by kernel_rfl) e56_n0 (ob:=(Ts 4 (InR (fromv+(1:Int))∧Ts 2 (Ti 6 ((decide (over=(fromv+(1:Int))))=true→True) (((decide (over=(fromv+(1:Int))))=true→inIdx fromv c4.length)∧Ti 3 ((decide (over=(fromv+(1:Int))))=true→True) (Ts 1 True)))))) (done':=e56_n1) (st':=(⟨87,[sB 37 ((decide (over=(fromv+(1:Int))))&&(decide ((c4.getD (fromv).toNat (0:Int))=((((c3.getD (c).toNat ((0:Int),([]:LI))).2).drop (rule).toNat).getD ((0:Int)).toNat (0:Int))))),e56_13],[e56_0 c0 c1 c2 c3 c4,e56_8 c5]⟩:St)) (by kernel_rfl) (tsI 4 (⟨o1,tsI 2 (tiI 6 (fun _=>trivial) ⟨o2,tiI 3 (fun _=>trivial) (tsI 1 trivial)⟩)⟩)) ?_
     refine awd_done (by kernel_rfl) ?_
     refine thenQ_n ?_
     refine aw_cond (b:=((decide (over=(fromv+(1:Int))))&&(decide ((c4.getD (fromv).toNat (0:Int))=((((c3.getD (c).toNat ((0:Int),([]:LI))).2).drop (rule).toNat).getD ((0:Int)).toNat (0:Int)))))) (by kernel_rfl) (fun hb=>?_) (fun hb=>?_)
     ·have h:=h.1 hb
      refine srn 1 ⟨87,[sI 6 (1:Int),e56_13],[e56_0 c0 c1 c2 c3 c4,e56_8 c5]⟩ (by kernel_rfl) rfl ?_
      refine aw_ret ?_
      refine thenQ_r ?_
      refine thenQ_r ?_
      exact rest1 ((1:Int),c5) h
     ·have h:=h.2 hb
      refine aw_skip ?_
      refine thenQ_n ?_
      refine srn 1 ⟨87,[sI 6 (0:Int),e56_13],[e56_0 c0 c1 c2 c3 c4,e56_8 c5]⟩ (by kernel_rfl) rfl ?_
      refine aw_ret ?_
      refine thenQ_r ?_
      exact rest1 ((0:Int),c5) h
    ·have h:=h.2 hb
     refine aw_skip ?_
     refine thenQ_n ?_
     refine srn 5 ⟨87,[e56_12,e56_1 c3 c rule,sp 5 5,sp 7 7,e56_13],[e56_16 fromv over,e56_2 c3 c rule fromv over,e56_0 c0 c1 c2 c3 c4,e56_8 c5]⟩ (by kernel_rfl) rfl ?_
     refine aw_seq ?_
     refine aw_seq ?_
     refine awd_begin [] (by kernel_rfl) ?_
     refine drq (by kernel_rfl) e56_n2 (ob:=(Ts 11 True)) (done':=e56_n3) (st':=(⟨87,[e56_12,e56_1 c3 c rule,sp 5 5,sp 7 7,sI 8 ((mget c5 ((-1:Int),(((((c3.getD (c).toNat ((0:Int),([]:LI))).2).drop (rule).toNat).getD ((0:Int)).toNat (0:Int)),(fromv,over)))).getD (0:Int)),sB 9 ((mget c5 ((-1:Int),(((((c3.getD (c).toNat ((0:Int),([]:LI))).2).drop (rule).toNat).getD ((0:Int)).toNat (0:Int)),(fromv,over)))).isSome),e56_13],[e56_16 fromv over,e56_2 c3 c rule fromv over,e56_0 c0 c1 c2 c3 c4,e56_8 c5]⟩:St)) (by kernel_rfl) (tsI 11 trivial) ?_
     refine awd_done (by kernel_rfl) ?_
     refine thenQ_n ?_
     refine srn 1 ⟨87,[e56_12,e56_1 c3 c rule,sp 5 5,sp 7 7,sI 8 ((mget c5 ((-1:Int),(((((c3.getD (c).toNat ((0:Int),([]:LI))).2).drop (rule).toNat).getD ((0:Int)).toNat (0:Int)),(fromv,over)))).getD (0:Int)),sB 50 ((mget c5 ((-1:Int),(((((c3.getD (c).toNat ((0:Int),([]:LI))).2).drop (rule).toNat).getD ((0:Int)).toNat (0:Int)),(fromv,over)))).isSome),e56_13],[e56_16 fromv over,e56_2 c3 c rule fromv over,e56_0 c0 c1 c2 c3 c4,e56_8 c5]⟩ (by kernel_rfl) rfl ?_
     refine aw_cond (b:=(mget c5 ((-1:Int),(((((c3.getD (c).toNat ((0:Int),([]:LI))).2).drop (rule).toNat).getD ((0:Int)).toNat (0:Int)),(fromv,over)))).isSome) (by kernel_rfl) (fun hb=>?_) (fun hb=>?_)
     ·have h:=h.1 hb
      refine srn 2 ⟨87,[sI 6 ((mget c5 ((-1:Int),(((((c3.getD (c).toNat ((0:Int),([]:LI))).2).drop (rule).toNat).getD ((0:Int)).toNat (0:Int)),(fromv,over)))).getD (0:Int)),e56_13],[e56_0 c0 c1 c2 c3 c4,e56_8 c5]⟩ (by kernel_rfl) rfl ?_
      refine aw_ret ?_
      refine thenQ_r ?_
      exact rest1 (((mget c5 ((-1:Int),(((((c3.getD (c).toNat ((0:Int),([]:LI))).2).drop (rule).toNat).getD ((0:Int)).toNat (0:Int)),(fromv,over)))).getD (0:Int)),c5) h
     ·have h:=h.2 hb
      refine aw_skip ?_
      refine thenQ_n ?_
      refine srn 1 ⟨87,[e56_12,e56_1 c3 c rule,sp 5 5,sp 7 7,sI 10 (0:Int),e56_13],[e56_16 fromv over,e56_2 c3 c rule fromv over,e56_0 c0 c1 c2 c3 c4,e56_8 c5]⟩ (by kernel_rfl) rfl ?_
      refine aw_seq ?_
      refine srn 7 ⟨87,[e56_12,e56_1 c3 c rule,sp 5 5,sp 7 7,sI 10 (0:Int),e56_9 c3,e56_15 c3,sI 58 (0:Int),e56_13],[e56_16 fromv over,e56_2 c3 c rule fromv over,e56_0 c0 c1 c2 c3 c4,e56_8 c5]⟩ (by kernel_rfl) rfl ?_
      refine withJoin (σ:=Int×LK) (fun s=>(⟨87,[e56_12,sp 7 7,sI 10 s.1,e56_13],[e56_2 c3 c rule fromv over,e56_0 c0 c1 c2 c3 c4,(70001,[],.dict (.pr tI t3) tI s.2)]⟩:St)) (fun s=>VCc72_k2 c3 c rule fromv over K s.1 s.2) (fun s h=>?_) (fun rest2=>?_)
      ·obtain ⟨n,l70001⟩:=s
       have h:VCc72_k2 c3 c rule fromv over K n l70001:=h
       unfold VCc72_k2 at h
       refine thenQ_n ?_
       refine aw_seq ?_
       refine awd_begin [70001] (by kernel_rfl) ?_
       refine drq (by kernel_rfl) [0,1,2,3,4,5] (ob:=(Ts 6 True)) (done':=[5,4,3,2,1,0]) (st':=(⟨87,[sI 10 n,s1 83 (.own 70001),sA 84 [.pI (-1:Int),.pI ((((c3.getD (c).toNat ((0:Int),([]:LI))).2).drop (rule).toNat).getD ((0:Int)).toNat (0:Int)),.pI fromv,.pI over],sI 85 n,e56_13],[e56_0 c0 c1 c2 c3 c4,e56_7 l70001]⟩:St)) (by kernel_rfl) (tsI 6 trivial) ?_
       refine awd_one (i:=6) (by kernel_rfl) ?_
       refine dsq (ob:=True) (st':=(⟨87,[sI 10 n,e56_13],[e56_0 c0 c1 c2 c3 c4,(70001,[],.dict (.pr tI t3) tI (mset l70001 ((-1:Int),(((((c3.getD (c).toNat ((0:Int),([]:LI))).2).drop (rule).toNat).getD ((0:Int)).toNat (0:Int)),(fromv,over))) n))]⟩:St)) rfl (by kernel_rfl) trivial ?_
       refine awd_done (by kernel_rfl) ?_
       refine thenQ_n ?_
       refine srn 2 ⟨87,[sI 6 n,e56_13],[e56_0 c0 c1 c2 c3 c4,(70001,[],.dict (.pr tI t3) tI (mset l70001 ((-1:Int),(((((c3.getD (c).toNat ((0:Int),([]:LI))).2).drop (rule).toNat).getD ((0:Int)).toNat (0:Int)),(fromv,over))) n))]⟩ (by kernel_rfl) rfl ?_
       refine aw_ret ?_
       exact rest1 (n,(mset l70001 ((-1:Int),(((((c3.getD (c).toNat ((0:Int),([]:LI))).2).drop (rule).toNat).getD ((0:Int)).toNat (0:Int)),(fromv,over))) n)) h
      ·refine aw_block ?_
       refine aw_loop (σ:=Int×Int×LK) (fun s=>(⟨87,[e56_12,e56_1 c3 c rule,sp 5 5,sp 7 7,sI 10 s.1,e56_9 c3,e56_15 c3,sI 58 s.2.1,e56_13],[e56_16 fromv over,e56_2 c3 c rule fromv over,e56_0 c0 c1 c2 c3 c4,(70001,[],.dict (.pr tI t3) tI s.2.2)]⟩:St)) (fun s X=>VCc72_l1 c0 c3 R c rule fromv over K s.1 s.2.1 s.2.2 X) (s0:=((0:Int),(0:Int),c5)) (fun s X1 h=>?_) h
       obtain ⟨n,v58,l70001⟩:=s
       have h:VCc72_l1 c0 c3 R c rule fromv over K n v58 l70001 X1:=h
       unfold VCc72_l1 at h
       refine srn 1 ⟨87,[e56_12,e56_1 c3 c rule,sp 5 5,sp 7 7,sI 10 n,e56_9 c3,e56_15 c3,sI 58 v58,sB 59 (decide (v58<(c3.length:Int))),e56_13],[e56_16 fromv over,e56_2 c3 c rule fromv over,e56_0 c0 c1 c2 c3 c4,e56_7 l70001]⟩ (by kernel_rfl) rfl ?_
       refine aw_seq ?_
       refine aw_cond (b:=(decide (v58<(c3.length:Int)))) (by kernel_rfl) (fun hb=>?_) (fun hb=>?_)
       ·have h:=h.1 hb
        refine aw_skip ?_
        refine thenQ_n ?_
        refine aw_seq ?_
        refine aw_block ?_
        refine sr ?_
        obtain ⟨o1,h⟩:=h
        refine rq 6 (ob:=(Ts 1 (inIdx v58 c3.length∧Ts 4 True))) (st':=(⟨87,[e56_12,e56_1 c3 c rule,sp 5 5,sp 7 7,sI 10 n,sI 11 v58,sp 12 12,e56_9 c3,e56_15 c3,sI 58 v58,e56_13],[e56_16 fromv over,e56_2 c3 c rule fromv over,e56_29 c3 v58,e56_0 c0 c1 c2 c3 c4,e56_7 l70001]⟩:St)) (by kernel_rfl) (tsI 1 ⟨o1,tsI 4 trivial⟩) ?_
        refine nn ?_
        refine aw_seq ?_
        refine awd_begin [] (by kernel_rfl) ?_
        obtain ⟨o1,h⟩:=h
        refine drq (by kernel_rfl) [0,1,2,3,4,5,6,7,8,9] (ob:=(Ts 8 (InR (((((c3.getD (c).toNat ((0:Int),([]:LI))).2).drop (rule).toNat).getD ((0:Int)).toNat (0:Int))-c0)∧Ts 1 True))) (done':=[9,8,7,6,5,4,3,2,1,0]) (st':=(⟨87,[e56_12,e56_1 c3 c rule,sp 5 5,sp 7 7,sI 10 n,sI 11 v58,e56_9 c3,e56_15 c3,sI 58 v58,e56_22 c3 v58 c rule c0,e56_13],[e56_16 fromv over,e56_2 c3 c rule fromv over,e56_0 c0 c1 c2 c3 c4,e56_7 l70001]⟩:St)) (by kernel_rfl) (tsI 8 ⟨o1,tsI 1 trivial⟩) ?_
        refine awd_done (by kernel_rfl) ?_
        refine thenQ_n ?_
        refine withJoin (σ:=Int×LK) (fun s=>(⟨87,[e56_12,e56_1 c3 c rule,sp 5 5,sp 7 7,sI 10 s.1,e56_9 c3,e56_15 c3,sI 58 v58,e56_13],[e56_16 fromv over,e56_2 c3 c rule fromv over,e56_0 c0 c1 c2 c3 c4,(70001,[],.dict (.pr tI t3) tI s.2)]⟩:St)) (fun s=>VCc72_k3 v58 X1 s.1 s.2) (fun s h=>?_) (fun rest3=>?_)
        ·obtain ⟨n2,l700012⟩:=s
         have h:VCc72_k3 v58 X1 n2 l700012:=h
         unfold VCc72_k3 at h
         refine blockQ_n ?_
         refine thenQ_n ?_
         refine aw_region ?_
         obtain ⟨o1,h⟩:=h
         refine rq 2 (ob:=(InR (v58+(1:Int))∧Ts 1 True)) (st':=(⟨87,[e56_12,e56_1 c3 c rule,sp 5 5,sp 7 7,sI 10 n2,e56_9 c3,e56_15 c3,sI 58 (v58+(1:Int)),e56_13],[e56_16 fromv over,e56_2 c3 c rule fromv over,e56_0 c0 c1 c2 c3 c4,e56_11 l700012]⟩:St)) (by kernel_rfl) (⟨o1,tsI 1 trivial⟩) ?_
         refine awl_nil ?_
         exact thenQ_n ⟨(n2,(v58+(1:Int)),l700012),rfl,h⟩
        ·refine aw_cond (b:=(decide ((c3.getD (v58).toNat ((0:Int),([]:LI))).1=(((((c3.getD (c).toNat ((0:Int),([]:LI))).2).drop (rule).toNat).getD ((0:Int)).toNat (0:Int))-c0)))) (by kernel_rfl) (fun hb=>?_) (fun hb=>?_)
         ·have h:=h.1 hb
          refine aw_region ?_
          refine rqT 4 ⟨87,[e56_12,e56_1 c3 c rule,sp 5 5,sp 7 7,e56_9 c3,e56_15 c3,sI 58 v58,sI 73 n,sp 74 70000,sI 75 v58,sA 76 [.pI fromv,.pI over],e56_13],[e56_16 fromv over,e56_2 c3 c rule fromv over,e56_0 c0 c1 c2 c3 c4,e56_7 l70001]⟩ (by kernel_rfl) ?_
          refine awl_lcall (σ:=Int×LK) [70000,70001] [70000] [.c (.ptr 70000 0),.c (.pI v58),.c (.pI (0:Int)),.agg [.pI fromv,.pI over]] [] (fun ret77v=>.v (.c (.pI ret77v.1))) (fun ret77v=>[e56_0 c0 c1 c2 c3 c4,e56_14 ret77v]) (_) [e56_0 c0 c1 c2 c3 c4,e56_7 l70001] (fun ret77v=>(⟨87,[sI 77 ret77v.1,e56_12,e56_1 c3 c rule,sp 5 5,sp 7 7,e56_9 c3,e56_15 c3,sI 58 v58,sI 73 n,sp 74 70000,sI 75 v58,sA 76 [.pI fromv,.pI over],e56_13],[e56_0 c0 c1 c2 c3 c4,e56_14 ret77v,e56_16 fromv over,e56_2 c3 c rule fromv over]⟩:St)) rfl rfl (by kernel_rfl) rfl (by kernel_rfl) Try.call72 (by kernel_rfl) (by kernel_rfl) (by kernel_rfl) (fun _ _=>rfl) (fun _=>by kernel_rfl) (hR v58 (0:Int) fromv over l70001 _ h) (fun ret77v h=>?_)
          refine lpr (st':=(⟨87,[e56_12,e56_1 c3 c rule,sp 5 5,sp 7 7,e56_9 c3,e56_15 c3,sI 58 v58,sI 73 n,sI 77 ret77v.1,e56_13],[e56_16 fromv over,e56_2 c3 c rule fromv over,e56_0 c0 c1 c2 c3 c4,e56_14 ret77v]⟩:St)) (by kernel_rfl) ?_
          refine lcq (d:=78) [.d tI,.d tI] (fun ret78v=>(⟨87,[e56_12,e56_1 c3 c rule,sp 5 5,sp 7 7,e56_9 c3,e56_15 c3,sI 58 v58,sI 78 ret78v,e56_13],[e56_16 fromv over,e56_2 c3 c rule fromv over,e56_0 c0 c1 c2 c3 c4,e56_14 ret77v]⟩:St)) (by kernel_rfl) Try.call83 (fun _=>by kernel_rfl) (link83 n ret77v.1 _ h) (fun ret78v h=>?_)
          refine rqT 1 ⟨87,[e56_12,e56_1 c3 c rule,sp 5 5,sp 7 7,sI 10 ret78v,e56_9 c3,e56_15 c3,sI 58 v58,e56_13],[e56_16 fromv over,e56_2 c3 c rule fromv over,e56_0 c0 c1 c2 c3 c4,e56_14 ret77v]⟩ (by kernel_rfl) ?_
          refine awl_nil ?_
          exact rest3 (ret78v,ret77v.2) h
         ·have h:=h.2 hb
          refine cpr (st':=(⟨87,[e56_12,e56_1 c3 c rule,sp 5 5,sp 7 7,sI 10 n,e56_9 c3,e56_15 c3,sI 58 v58,e56_13],[e56_16 fromv over,e56_2 c3 c rule fromv over,e56_0 c0 c1 c2 c3 c4,e56_7 l70001]⟩:St)) (by kernel_rfl) ?_
          refine aw_skip ?_
          exact rest3 (n,l70001) h
       ·have h:=h.2 hb
        refine cpr (st':=(⟨87,[e56_12,sp 7 7,sI 10 n,e56_13],[e56_2 c3 c rule fromv over,e56_0 c0 c1 c2 c3 c4,e56_7 l70001]⟩:St)) (by kernel_rfl) ?_
        refine aw_exit ?_
        refine thenQ_x ?_
        refine thenQ_x ?_
        refine blockQ_hit ?_
        exact rest2 (n,l70001) h
  ·have h:=h.2 hb
   refine aw_skip ?_
   refine thenQ_n ?_
   refine srn 6 ⟨99,[e56_12,sI 1 c,sI 2 rule,sp 7 7,e56_6 c3 c rule,sp 10 10,e56_18],[e56_27 fromv over,e56_19 c rule fromv over,e56_0 c0 c1 c2 c3 c4,e56_8 c5]⟩ (by kernel_rfl) rfl ?_
   refine aw_seq ?_
   refine aw_seq ?_
   refine awd_begin [] (by kernel_rfl) ?_
   refine drq (by kernel_rfl) e56_n2 (ob:=(Ts 11 True)) (done':=e56_n3) (st':=(⟨99,[e56_12,sI 1 c,sI 2 rule,sp 7 7,e56_6 c3 c rule,sp 10 10,sI 11 ((mget c5 (c,(rule,(fromv,over)))).getD (0:Int)),sB 12 ((mget c5 (c,(rule,(fromv,over)))).isSome),e56_18],[e56_27 fromv over,e56_19 c rule fromv over,e56_0 c0 c1 c2 c3 c4,e56_8 c5]⟩:St)) (by kernel_rfl) (tsI 11 trivial) ?_
   refine awd_done (by kernel_rfl) ?_
   refine thenQ_n ?_
   refine srn 1 ⟨99,[e56_12,sI 1 c,sI 2 rule,sp 7 7,e56_6 c3 c rule,sp 10 10,sI 11 ((mget c5 (c,(rule,(fromv,over)))).getD (0:Int)),sB 57 ((mget c5 (c,(rule,(fromv,over)))).isSome),e56_18],[e56_27 fromv over,e56_19 c rule fromv over,e56_0 c0 c1 c2 c3 c4,e56_8 c5]⟩ (by kernel_rfl) rfl ?_
   refine aw_cond (b:=(mget c5 (c,(rule,(fromv,over)))).isSome) (by kernel_rfl) (fun hb=>?_) (fun hb=>?_)
   ·have h:=h.1 hb
    refine srn 2 ⟨99,[sI 8 ((mget c5 (c,(rule,(fromv,over)))).getD (0:Int)),e56_18],[e56_0 c0 c1 c2 c3 c4,e56_8 c5]⟩ (by kernel_rfl) rfl ?_
    refine aw_ret ?_
    refine thenQ_r ?_
    exact lret_r (σ:=Int×LK) (A:=fun y=>.v (.c (.pI y.1))) (H:=fun y=>[e56_0 c0 c1 c2 c3 c4,(70001,[],.dict (.pr tI t3) tI y.2)]) (ob:=True) (((mget c5 (c,(rule,(fromv,over)))).getD (0:Int)),c5) (by kernel_rfl) trivial rfl (by kernel_rfl) (by kernel_rfl) (by kernel_rfl) h
   ·have h:=h.2 hb
    refine aw_skip ?_
    refine thenQ_n ?_
    refine srn 1 ⟨99,[e56_12,sI 1 c,sI 2 rule,sp 7 7,e56_6 c3 c rule,sp 10 10,sI 13 (0:Int),e56_18],[e56_27 fromv over,e56_19 c rule fromv over,e56_0 c0 c1 c2 c3 c4,e56_8 c5]⟩ (by kernel_rfl) rfl ?_
    refine aw_seq ?_
    refine sr ?_
    obtain ⟨o1,h⟩:=h
    refine rq 4 (ob:=(Ts 2 (InR (fromv+(1:Int))∧Ts 1 True))) (st':=(⟨99,[e56_12,sI 1 c,sI 2 rule,sp 7 7,e56_6 c3 c rule,sp 10 10,sI 13 (0:Int),sI 14 (fromv+(1:Int)),e56_18],[e56_27 fromv over,e56_19 c rule fromv over,e56_0 c0 c1 c2 c3 c4,e56_8 c5]⟩:St)) (by kernel_rfl) (tsI 2 ⟨o1,tsI 1 trivial⟩) ?_
    refine nn ?_
    refine withJoin (σ:=Int×LK) (fun s=>(⟨99,[e56_12,sp 10 10,sI 13 s.1,e56_18],[e56_19 c rule fromv over,e56_0 c0 c1 c2 c3 c4,(70001,[],.dict (.pr tI t3) tI s.2)]⟩:St)) (fun s=>VCc72_k4 c rule fromv over K s.1 s.2) (fun s h=>?_) (fun rest4=>?_)
    ·obtain ⟨n,l70001⟩:=s
     have h:VCc72_k4 c rule fromv over K n l70001:=h
     unfold VCc72_k4 at h
     refine thenQ_n ?_
     refine aw_seq ?_
     refine awd_begin [70001] (by kernel_rfl) ?_
     refine drq (by kernel_rfl) [0,1,2,3,4,5] (ob:=(Ts 6 True)) (done':=[5,4,3,2,1,0]) (st':=(⟨99,[sI 13 n,s1 95 (.own 70001),sA 96 [.pI c,.pI rule,.pI fromv,.pI over],sI 97 n,e56_18],[e56_0 c0 c1 c2 c3 c4,e56_7 l70001]⟩:St)) (by kernel_rfl) (tsI 6 trivial) ?_
     refine awd_one (i:=6) (by kernel_rfl) ?_
     refine dsq (ob:=True) (st':=(⟨99,[sI 13 n,e56_18],[e56_0 c0 c1 c2 c3 c4,(70001,[],.dict (.pr tI t3) tI (mset l70001 (c,(rule,(fromv,over))) n))]⟩:St)) rfl (by kernel_rfl) trivial ?_
     refine awd_done (by kernel_rfl) ?_
     refine thenQ_n ?_
     refine srn 2 ⟨99,[sI 8 n,e56_18],[e56_0 c0 c1 c2 c3 c4,(70001,[],.dict (.pr tI t3) tI (mset l70001 (c,(rule,(fromv,over))) n))]⟩ (by kernel_rfl) rfl ?_
     refine aw_ret ?_
     exact lret_r (σ:=Int×LK) (A:=fun y=>.v (.c (.pI y.1))) (H:=fun y=>[e56_0 c0 c1 c2 c3 c4,(70001,[],.dict (.pr tI t3) tI y.2)]) (ob:=True) (n,(mset l70001 (c,(rule,(fromv,over))) n)) (by kernel_rfl) trivial rfl (by kernel_rfl) (by kernel_rfl) (by kernel_rfl) h
    ·refine aw_block ?_
     refine aw_loop (σ:=Int×Int×LK) (fun s=>(⟨99,[e56_12,sI 1 c,sI 2 rule,sp 7 7,e56_6 c3 c rule,sp 10 10,sI 13 s.1,sI 14 s.2.1,e56_18],[e56_27 fromv over,e56_19 c rule fromv over,e56_0 c0 c1 c2 c3 c4,(70001,[],.dict (.pr tI t3) tI s.2.2)]⟩:St)) (fun s X=>VCc72_l2 c0 c3 c4 R c rule fromv over K s.1 s.2.1 s.2.2 X) (s0:=((0:Int),(fromv+(1:Int)),c5)) (fun s X2 h=>?_) h
     obtain ⟨n,endv,l70001⟩:=s
     have h:VCc72_l2 c0 c3 c4 R c rule fromv over K n endv l70001 X2:=h
     unfold VCc72_l2 at h
     refine aw_seq ?_
     refine srn 4 ⟨99,[e56_12,sI 1 c,sI 2 rule,sp 7 7,e56_6 c3 c rule,sp 10 10,sI 13 n,sI 14 endv,sB 65 (decide (endv<over)),e56_18],[e56_27 fromv over,e56_19 c rule fromv over,e56_0 c0 c1 c2 c3 c4,e56_7 l70001]⟩ (by kernel_rfl) rfl ?_
     refine aw_cond (b:=(decide (endv<over))) (by kernel_rfl) (fun hb=>?_) (fun hb=>?_)
     ·have h:=h.1 hb
      refine aw_skip ?_
      refine thenQ_n ?_
      refine aw_seq ?_
      refine aw_block ?_
      refine aw_seq ?_
      refine aw_conv [.ren 7 30100,.ren 10 30101] (st':=(⟨99,[e56_12,sI 1 c,sI 2 rule,e56_33,e56_6 c3 c rule,e56_32,sI 13 n,sI 14 endv,sB 65 (decide (endv<over)),e56_18],[e56_10 fromv over,e56_5 c rule fromv over,e56_0 c0 c1 c2 c3 c4,e56_7 l70001]⟩:St)) (by kernel_rfl) ?_
      refine awd_begin [30100,30101,70000,70001] (by kernel_rfl) ?_
      obtain ⟨o1,h⟩:=h
      refine drq (by kernel_rfl) [0,1,2,3,4,6] (ob:=(Ts 2 (inIdx (0:Int) (((c3.getD (c).toNat ((0:Int),([]:LI))).2).drop (rule).toNat).length∧Ts 3 True))) (done':=[6,4,3,2,1,0]) (st':=(⟨99,[e56_12,sI 1 c,sI 2 rule,e56_33,e56_6 c3 c rule,e56_32,sI 13 n,sI 14 endv,sp 68 70000,e56_26 c3 c rule,sp 72 30100,sI 74 endv,e56_18],[e56_10 fromv over,e56_5 c rule fromv over,e56_0 c0 c1 c2 c3 c4,e56_7 l70001]⟩:St)) (by kernel_rfl) (tsI 2 ⟨o1,tsI 3 trivial⟩) ?_
      refine awd_one (i:=5) (by kernel_rfl) ?_
      refine dsq (ob:=True) (st':=(⟨99,[e56_12,sI 1 c,sI 2 rule,e56_33,e56_6 c3 c rule,e56_32,sI 13 n,sI 14 endv,sp 68 70000,e56_26 c3 c rule,sI 73 fromv,sI 74 endv,e56_18],[e56_10 fromv over,e56_5 c rule fromv over,e56_0 c0 c1 c2 c3 c4,e56_7 l70001]⟩:St)) rfl (by kernel_rfl) trivial ?_
      refine drq (by kernel_rfl) [7] (ob:=(Ts 1 True)) (done':=[7,5,6,4,3,2,1,0]) (st':=(⟨99,[e56_12,sI 1 c,sI 2 rule,e56_33,e56_6 c3 c rule,e56_32,sI 13 n,sI 14 endv,sp 68 70000,e56_26 c3 c rule,sA 75 [.pI fromv,.pI endv],e56_18],[e56_10 fromv over,e56_5 c rule fromv over,e56_0 c0 c1 c2 c3 c4,e56_7 l70001]⟩:St)) (by kernel_rfl) (tsI 1 trivial) ?_
      refine awd_one (i:=8) (by kernel_rfl) ?_
      refine adop_inlr [.t 6] [.c (.ptr 70000 0),.c (.pI ((((c3.getD (c).toNat ((0:Int),([]:LI))).2).drop (rule).toNat).getD ((0:Int)).toNat (0:Int))),.agg [.pI fromv,.pI endv]] [] rfl rfl rfl (by kernel_rfl) rfl (by kernel_rfl) Try.call68 (by kernel_rfl) (by kernel_rfl) Try.func68 rfl rfl (by kernel_rfl) ?_
      refine aw_conv [] (st':=(⟨87,[e56_12,e56_1 c3 c rule,sA 2 [.pI fromv,.pI endv],e56_23,sI 88 c,sI 89 rule,e56_24,e56_4 c3 c rule,e56_25,sI 100 n,sI 101 endv,sp 155 70000,sI 158 ((((c3.getD (c).toNat ((0:Int),([]:LI))).2).drop (rule).toNat).getD ((0:Int)).toNat (0:Int)),sA 162 [.pI fromv,.pI endv],e56_13],[e56_10 fromv over,e56_5 c rule fromv over,e56_0 c0 c1 c2 c3 c4,e56_7 l70001]⟩:St)) (by kernel_rfl) ?_
      refine withJoinR (σ:=Int×LK) (fun s=>(⟨87,[sI 6 s.1,e56_23,sI 88 c,sI 89 rule,e56_24,e56_4 c3 c rule,e56_25,sI 100 n,sI 101 endv,e56_13],[e56_10 fromv over,e56_5 c rule fromv over,e56_0 c0 c1 c2 c3 c4,(70001,[],.dict (.pr tI t3) tI s.2)]⟩:St)) (fun s=>VCc72_k5 R c rule over n endv X2 s.1 s.2) (fun s h=>?_) (fun rest6=>?_)
      ·obtain ⟨v6,l700012⟩:=s
       have h:VCc72_k5 R c rule over n endv X2 v6 l700012:=h
       unfold VCc72_k5 at h
       refine inlR_n (ob:=True) (.v (.c (.pI v6))) (by kernel_rfl) trivial rfl ?_
       refine dpr (st':=(⟨99,[e56_12,sI 1 c,sI 2 rule,e56_33,e56_6 c3 c rule,e56_32,sI 13 n,sI 14 endv,sI 76 v6,e56_18],[e56_10 fromv over,e56_5 c rule fromv over,e56_0 c0 c1 c2 c3 c4,e56_11 l700012]⟩:St)) (by kernel_rfl) ?_
       refine drq (by kernel_rfl) [9] (ob:=(Ts 1 True)) (done':=[9,8,7,5,6,4,3,2,1,0]) (st':=(⟨99,[e56_12,sI 1 c,sI 2 rule,e56_33,e56_6 c3 c rule,e56_32,sI 13 n,sI 14 endv,sI 15 v6,e56_18],[e56_10 fromv over,e56_5 c rule fromv over,e56_0 c0 c1 c2 c3 c4,e56_11 l700012]⟩:St)) (by kernel_rfl) (tsI 1 trivial) ?_
       refine awd_done (by kernel_rfl) ?_
       refine thenQ_n ?_
       refine srn 2 ⟨99,[e56_12,sI 1 c,sI 2 rule,e56_33,e56_6 c3 c rule,e56_32,sI 13 n,sI 14 endv,sI 15 v6,sB 78 (decide ((0:Int)<v6)),e56_18],[e56_10 fromv over,e56_5 c rule fromv over,e56_0 c0 c1 c2 c3 c4,e56_11 l700012]⟩ (by kernel_rfl) rfl ?_
       refine withJoin (σ:=Int×LK) (fun s=>(⟨99,[e56_12,sI 1 c,sI 2 rule,e56_33,e56_6 c3 c rule,e56_32,sI 13 s.1,sI 14 endv,e56_18],[e56_10 fromv over,e56_5 c rule fromv over,e56_0 c0 c1 c2 c3 c4,(70001,[],.dict (.pr tI t3) tI s.2)]⟩:St)) (fun s=>VCc72_k6 endv X2 s.1 s.2) (fun s h=>?_) (fun rest5=>?_)
       ·obtain ⟨n2,l700013⟩:=s
        have h:VCc72_k6 endv X2 n2 l700013:=h
        unfold VCc72_k6 at h
        refine blockQ_n ?_
        refine thenQ_n ?_
        refine aw_region ?_
        obtain ⟨o1,h⟩:=h
        refine rq 3 (ob:=(Ts 1 (InR (endv+(1:Int))∧Ts 1 True))) (st':=(⟨99,[e56_12,sI 1 c,sI 2 rule,e56_33,e56_6 c3 c rule,e56_32,sI 13 n2,sI 14 (endv+(1:Int)),e56_18],[e56_10 fromv over,e56_5 c rule fromv over,e56_0 c0 c1 c2 c3 c4,e56_31 l700013]⟩:St)) (by kernel_rfl) (tsI 1 ⟨o1,tsI 1 trivial⟩) ?_
        refine awl_conv [.ren 30100 50100,.ren 30101 50101,.ren 50100 7,.ren 50101 10] (st':=(⟨99,[e56_12,sI 1 c,sI 2 rule,sp 7 7,e56_6 c3 c rule,sp 10 10,sI 13 n2,sI 14 (endv+(1:Int)),e56_18],[e56_27 fromv over,e56_19 c rule fromv over,e56_0 c0 c1 c2 c3 c4,e56_31 l700013]⟩:St)) (by kernel_rfl) ?_
        refine awl_nil ?_
        exact thenQ_n ⟨(n2,(endv+(1:Int)),l700013),rfl,h⟩
       ·refine aw_cond (b:=(decide ((0:Int)<v6))) (by kernel_rfl) (fun hb=>?_) (fun hb=>?_)
        ·have h:=h.1 hb
         refine aw_region ?_
         obtain ⟨o1,h⟩:=h
         refine rq 10 (ob:=(Ts 5 (InR (rule+(1:Int))∧Ts 4 True))) (st':=(⟨99,[e56_12,sI 1 c,sI 2 rule,e56_33,e56_6 c3 c rule,e56_32,sI 14 endv,sI 79 n,sI 80 v6,sp 81 70000,sI 82 c,sI 84 (rule+(1:Int)),sA 88 [.pI endv,.pI over],e56_18],[e56_10 fromv over,e56_5 c rule fromv over,e56_0 c0 c1 c2 c3 c4,e56_11 l700012]⟩:St)) (by kernel_rfl) (tsI 5 ⟨o1,tsI 4 trivial⟩) ?_
         refine awl_lcall (σ:=Int×LK) [70000,70001] [70000] [.c (.ptr 70000 0),.c (.pI c),.c (.pI (rule+(1:Int))),.agg [.pI endv,.pI over]] [] (fun ret89v=>.v (.c (.pI ret89v.1))) (fun ret89v=>[e56_0 c0 c1 c2 c3 c4,e56_21 ret89v]) (_) [e56_0 c0 c1 c2 c3 c4,e56_11 l700012] (fun ret89v=>(⟨99,[sI 89 ret89v.1,e56_12,sI 1 c,sI 2 rule,e56_33,e56_6 c3 c rule,e56_32,sI 14 endv,sI 79 n,sI 80 v6,sp 81 70000,sI 82 c,sI 84 (rule+(1:Int)),sA 88 [.pI endv,.pI over],e56_18],[e56_0 c0 c1 c2 c3 c4,e56_21 ret89v,e56_10 fromv over,e56_5 c rule fromv over]⟩:St)) rfl rfl (by kernel_rfl) rfl (by kernel_rfl) Try.call72 (by kernel_rfl) (by kernel_rfl) (by kernel_rfl) (fun _ _=>rfl) (fun _=>by kernel_rfl) (hR c (rule+(1:Int)) endv over l700012 _ h) (fun ret89v h=>?_)
         refine lpr (st':=(⟨99,[e56_12,sI 1 c,sI 2 rule,e56_33,e56_6 c3 c rule,e56_32,sI 14 endv,sI 79 n,sI 80 v6,sI 89 ret89v.1,e56_18],[e56_10 fromv over,e56_5 c rule fromv over,e56_0 c0 c1 c2 c3 c4,e56_21 ret89v]⟩:St)) (by kernel_rfl) ?_
         refine lcq (d:=90) [.d tI,.d tI] (fun ret90v=>(⟨99,[e56_12,sI 1 c,sI 2 rule,e56_33,e56_6 c3 c rule,e56_32,sI 14 endv,sI 79 n,sI 90 ret90v,e56_18],[e56_10 fromv over,e56_5 c rule fromv over,e56_0 c0 c1 c2 c3 c4,e56_21 ret89v]⟩:St)) (by kernel_rfl) Try.call86 (fun _=>by kernel_rfl) (link86 v6 ret89v.1 _ h) (fun ret90v h=>?_)
         refine lcq (d:=91) [.d tI,.d tI] (fun ret91v=>(⟨99,[e56_12,sI 1 c,sI 2 rule,e56_33,e56_6 c3 c rule,e56_32,sI 14 endv,sI 91 ret91v,e56_18],[e56_10 fromv over,e56_5 c rule fromv over,e56_0 c0 c1 c2 c3 c4,e56_21 ret89v]⟩:St)) (by kernel_rfl) Try.call83 (fun _=>by kernel_rfl) (link83 n ret90v _ h) (fun ret91v h=>?_)
         refine rqT 1 ⟨99,[e56_12,sI 1 c,sI 2 rule,e56_33,e56_6 c3 c rule,e56_32,sI 13 ret91v,sI 14 endv,e56_18],[e56_10 fromv over,e56_5 c rule fromv over,e56_0 c0 c1 c2 c3 c4,e56_21 ret89v]⟩ (by kernel_rfl) ?_
         refine awl_nil ?_
         exact rest5 (ret91v,ret89v.2) h
        ·have h:=h.2 hb
         refine cpr (st':=(⟨99,[e56_12,sI 1 c,sI 2 rule,e56_33,e56_6 c3 c rule,e56_32,sI 13 n,sI 14 endv,e56_18],[e56_10 fromv over,e56_5 c rule fromv over,e56_0 c0 c1 c2 c3 c4,e56_11 l700012]⟩:St)) (by kernel_rfl) ?_
         refine aw_skip ?_
         exact rest5 (n,l700012) h
      ·refine srn 2 ⟨87,[e56_12,e56_1 c3 c rule,sp 5 5,e56_23,sI 88 c,sI 89 rule,e56_24,e56_4 c3 c rule,e56_25,sI 100 n,sI 101 endv,e56_13],[e56_17 fromv endv,e56_10 fromv over,e56_5 c rule fromv over,e56_0 c0 c1 c2 c3 c4,e56_7 l70001]⟩ (by kernel_rfl) rfl ?_
       refine aw_seq ?_
       refine srn 7 ⟨87,[e56_12,e56_1 c3 c rule,sp 5 5,e56_28 c3 c rule c0,e56_23,sI 88 c,sI 89 rule,e56_24,e56_4 c3 c rule,e56_25,sI 100 n,sI 101 endv,e56_13],[e56_17 fromv endv,e56_10 fromv over,e56_5 c rule fromv over,e56_0 c0 c1 c2 c3 c4,e56_7 l70001]⟩ (by kernel_rfl) rfl ?_
       refine aw_cond (b:=(decide (((((c3.getD (c).toNat ((0:Int),([]:LI))).2).drop (rule).toNat).getD ((0:Int)).toNat (0:Int))<c0))) (by kernel_rfl) (fun hb=>?_) (fun hb=>?_)
       ·have h:=h.1 hb
        refine aw_seq ?_
        refine aw_seq ?_
        refine awd_begin [] (by kernel_rfl) ?_
        obtain ⟨o1,o2,h⟩:=h
        refine drq (by kernel_rfl) e56_n0 (ob:=(Ts 4 (InR (fromv+(1:Int))∧Ts 2 (Ti 6 ((decide (endv=(fromv+(1:Int))))=true→True) (((decide (endv=(fromv+(1:Int))))=true→inIdx fromv c4.length)∧Ti 3 ((decide (endv=(fromv+(1:Int))))=true→True) (Ts 1 True)))))) (done':=e56_n1) (st':=(⟨87,[sB 37 ((decide (endv=(fromv+(1:Int))))&&(decide ((c4.getD (fromv).toNat (0:Int))=((((c3.getD (c).toNat ((0:Int),([]:LI))).2).drop (rule).toNat).getD ((0:Int)).toNat (0:Int))))),e56_23,sI 88 c,sI 89 rule,e56_24,e56_4 c3 c rule,e56_25,sI 100 n,sI 101 endv,e56_13],[e56_10 fromv over,e56_5 c rule fromv over,e56_0 c0 c1 c2 c3 c4,e56_7 l70001]⟩:St)) (by kernel_rfl) (tsI 4 (⟨o1,tsI 2 (tiI 6 (fun _=>trivial) ⟨o2,tiI 3 (fun _=>trivial) (tsI 1 trivial)⟩)⟩)) ?_
        refine awd_done (by kernel_rfl) ?_
        refine thenQ_n ?_
        refine aw_cond (b:=((decide (endv=(fromv+(1:Int))))&&(decide ((c4.getD (fromv).toNat (0:Int))=((((c3.getD (c).toNat ((0:Int),([]:LI))).2).drop (rule).toNat).getD ((0:Int)).toNat (0:Int)))))) (by kernel_rfl) (fun hb=>?_) (fun hb=>?_)
        ·have h:=h.1 hb
         refine srn 1 ⟨87,[sI 6 (1:Int),e56_23,sI 88 c,sI 89 rule,e56_24,e56_4 c3 c rule,e56_25,sI 100 n,sI 101 endv,e56_13],[e56_10 fromv over,e56_5 c rule fromv over,e56_0 c0 c1 c2 c3 c4,e56_7 l70001]⟩ (by kernel_rfl) rfl ?_
         refine aw_ret ?_
         refine thenQ_r ?_
         refine thenQ_r ?_
         exact rest6 ((1:Int),l70001) h
        ·have h:=h.2 hb
         refine aw_skip ?_
         refine thenQ_n ?_
         refine srn 1 ⟨87,[sI 6 (0:Int),e56_23,sI 88 c,sI 89 rule,e56_24,e56_4 c3 c rule,e56_25,sI 100 n,sI 101 endv,e56_13],[e56_10 fromv over,e56_5 c rule fromv over,e56_0 c0 c1 c2 c3 c4,e56_7 l70001]⟩ (by kernel_rfl) rfl ?_
         refine aw_ret ?_
         refine thenQ_r ?_
         exact rest6 ((0:Int),l70001) h
       ·have h:=h.2 hb
        refine aw_skip ?_
        refine thenQ_n ?_
        refine srn 5 ⟨87,[e56_12,e56_1 c3 c rule,sp 5 5,sp 7 7,e56_23,sI 88 c,sI 89 rule,e56_24,e56_4 c3 c rule,e56_25,sI 100 n,sI 101 endv,e56_13],[e56_17 fromv endv,e56_3 c3 c rule fromv endv,e56_10 fromv over,e56_5 c rule fromv over,e56_0 c0 c1 c2 c3 c4,e56_7 l70001]⟩ (by kernel_rfl) rfl ?_
        refine aw_seq ?_
        refine aw_seq ?_
        refine awd_begin [] (by kernel_rfl) ?_
        refine drq (by kernel_rfl) e56_n2 (ob:=(Ts 11 True)) (done':=e56_n3) (st':=(⟨87,[e56_12,e56_1 c3 c rule,sp 5 5,sp 7 7,sI 8 ((mget l70001 ((-1:Int),(((((c3.getD (c).toNat ((0:Int),([]:LI))).2).drop (rule).toNat).getD ((0:Int)).toNat (0:Int)),(fromv,endv)))).getD (0:Int)),sB 9 ((mget l70001 ((-1:Int),(((((c3.getD (c).toNat ((0:Int),([]:LI))).2).drop (rule).toNat).getD ((0:Int)).toNat (0:Int)),(fromv,endv)))).isSome),e56_23,sI 88 c,sI 89 rule,e56_24,e56_4 c3 c rule,e56_25,sI 100 n,sI 101 endv,e56_13],[e56_17 fromv endv,e56_3 c3 c rule fromv endv,e56_10 fromv over,e56_5 c rule fromv over,e56_0 c0 c1 c2 c3 c4,e56_7 l70001]⟩:St)) (by kernel_rfl) (tsI 11 trivial) ?_
        refine awd_done (by kernel_rfl) ?_
        refine thenQ_n ?_
        refine srn 1 ⟨87,[e56_12,e56_1 c3 c rule,sp 5 5,sp 7 7,sI 8 ((mget l70001 ((-1:Int),(((((c3.getD (c).toNat ((0:Int),([]:LI))).2).drop (rule).toNat).getD ((0:Int)).toNat (0:Int)),(fromv,endv)))).getD (0:Int)),sB 50 ((mget l70001 ((-1:Int),(((((c3.getD (c).toNat ((0:Int),([]:LI))).2).drop (rule).toNat).getD ((0:Int)).toNat (0:Int)),(fromv,endv)))).isSome),e56_23,sI 88 c,sI 89 rule,e56_24,e56_4 c3 c rule,e56_25,sI 100 n,sI 101 endv,e56_13],[e56_17 fromv endv,e56_3 c3 c rule fromv endv,e56_10 fromv over,e56_5 c rule fromv over,e56_0 c0 c1 c2 c3 c4,e56_7 l70001]⟩ (by kernel_rfl) rfl ?_
        refine aw_cond (b:=(mget l70001 ((-1:Int),(((((c3.getD (c).toNat ((0:Int),([]:LI))).2).drop (rule).toNat).getD ((0:Int)).toNat (0:Int)),(fromv,endv)))).isSome) (by kernel_rfl) (fun hb=>?_) (fun hb=>?_)
        ·have h:=h.1 hb
         refine srn 2 ⟨87,[sI 6 ((mget l70001 ((-1:Int),(((((c3.getD (c).toNat ((0:Int),([]:LI))).2).drop (rule).toNat).getD ((0:Int)).toNat (0:Int)),(fromv,endv)))).getD (0:Int)),e56_23,sI 88 c,sI 89 rule,e56_24,e56_4 c3 c rule,e56_25,sI 100 n,sI 101 endv,e56_13],[e56_10 fromv over,e56_5 c rule fromv over,e56_0 c0 c1 c2 c3 c4,e56_7 l70001]⟩ (by kernel_rfl) rfl ?_
         refine aw_ret ?_
         refine thenQ_r ?_
         exact rest6 (((mget l70001 ((-1:Int),(((((c3.getD (c).toNat ((0:Int),([]:LI))).2).drop (rule).toNat).getD ((0:Int)).toNat (0:Int)),(fromv,endv)))).getD (0:Int)),l70001) h
        ·have h:=h.2 hb
         refine aw_skip ?_
         refine thenQ_n ?_
         refine srn 1 ⟨87,[e56_12,e56_1 c3 c rule,sp 5 5,sp 7 7,sI 10 (0:Int),e56_23,sI 88 c,sI 89 rule,e56_24,e56_4 c3 c rule,e56_25,sI 100 n,sI 101 endv,e56_13],[e56_17 fromv endv,e56_3 c3 c rule fromv endv,e56_10 fromv over,e56_5 c rule fromv over,e56_0 c0 c1 c2 c3 c4,e56_7 l70001]⟩ (by kernel_rfl) rfl ?_
         refine aw_seq ?_
         refine srn 7 ⟨87,[e56_12,e56_1 c3 c rule,sp 5 5,sp 7 7,sI 10 (0:Int),e56_9 c3,e56_15 c3,sI 58 (0:Int),e56_23,sI 88 c,sI 89 rule,e56_24,e56_4 c3 c rule,e56_25,sI 100 n,sI 101 endv,e56_13],[e56_17 fromv endv,e56_3 c3 c rule fromv endv,e56_10 fromv over,e56_5 c rule fromv over,e56_0 c0 c1 c2 c3 c4,e56_7 l70001]⟩ (by kernel_rfl) rfl ?_
         refine withJoin (σ:=Int×LK) (fun s=>(⟨87,[e56_12,sp 7 7,sI 10 s.1,e56_23,sI 88 c,sI 89 rule,e56_24,e56_4 c3 c rule,e56_25,sI 100 n,sI 101 endv,e56_13],[e56_3 c3 c rule fromv endv,e56_10 fromv over,e56_5 c rule fromv over,e56_0 c0 c1 c2 c3 c4,(70001,[],.dict (.pr tI t3) tI s.2)]⟩:St)) (fun s=>VCc72_k7 c3 R c rule fromv over n endv X2 s.1 s.2) (fun s h=>?_) (fun rest7=>?_)
         ·obtain ⟨n2,l700012⟩:=s
          have h:VCc72_k7 c3 R c rule fromv over n endv X2 n2 l700012:=h
          unfold VCc72_k7 at h
          refine thenQ_n ?_
          refine aw_seq ?_
          refine awd_begin [70001] (by kernel_rfl) ?_
          refine drq (by kernel_rfl) [0,1,2,3,4,5] (ob:=(Ts 6 True)) (done':=[5,4,3,2,1,0]) (st':=(⟨87,[sI 10 n2,s1 83 (.own 70001),sA 84 [.pI (-1:Int),.pI ((((c3.getD (c).toNat ((0:Int),([]:LI))).2).drop (rule).toNat).getD ((0:Int)).toNat (0:Int)),.pI fromv,.pI endv],sI 85 n2,e56_23,sI 88 c,sI 89 rule,e56_24,e56_4 c3 c rule,e56_25,sI 100 n,sI 101 endv,e56_13],[e56_10 fromv over,e56_5 c rule fromv over,e56_0 c0 c1 c2 c3 c4,e56_11 l700012]⟩:St)) (by kernel_rfl) (tsI 6 trivial) ?_
          refine awd_one (i:=6) (by kernel_rfl) ?_
          refine dsq (ob:=True) (st':=(⟨87,[sI 10 n2,e56_23,sI 88 c,sI 89 rule,e56_24,e56_4 c3 c rule,e56_25,sI 100 n,sI 101 endv,e56_13],[e56_10 fromv over,e56_5 c rule fromv over,e56_0 c0 c1 c2 c3 c4,e56_20 l700012 c3 c rule fromv endv n2]⟩:St)) rfl (by kernel_rfl) trivial ?_
          refine awd_done (by kernel_rfl) ?_
          refine thenQ_n ?_
          refine srn 2 ⟨87,[sI 6 n2,e56_23,sI 88 c,sI 89 rule,e56_24,e56_4 c3 c rule,e56_25,sI 100 n,sI 101 endv,e56_13],[e56_10 fromv over,e56_5 c rule fromv over,e56_0 c0 c1 c2 c3 c4,e56_20 l700012 c3 c rule fromv endv n2]⟩ (by kernel_rfl) rfl ?_
          refine aw_ret ?_
          exact rest6 (n2,(mset l700012 ((-1:Int),(((((c3.getD (c).toNat ((0:Int),([]:LI))).2).drop (rule).toNat).getD ((0:Int)).toNat (0:Int)),(fromv,endv))) n2)) h
         ·refine aw_block ?_
          refine aw_loop (σ:=Int×Int×LK) (fun s=>(⟨87,[e56_12,e56_1 c3 c rule,sp 5 5,sp 7 7,sI 10 s.1,e56_9 c3,e56_15 c3,sI 58 s.2.1,e56_23,sI 88 c,sI 89 rule,e56_24,e56_4 c3 c rule,e56_25,sI 100 n,sI 101 endv,e56_13],[e56_17 fromv endv,e56_3 c3 c rule fromv endv,e56_10 fromv over,e56_5 c rule fromv over,e56_0 c0 c1 c2 c3 c4,(70001,[],.dict (.pr tI t3) tI s.2.2)]⟩:St)) (fun s X=>VCc72_l3 c0 c3 R c rule fromv over n endv X2 s.1 s.2.1 s.2.2 X) (s0:=((0:Int),(0:Int),l70001)) (fun s X3 h=>?_) h
          obtain ⟨n2,v58,l700012⟩:=s
          have h:VCc72_l3 c0 c3 R c rule fromv over n endv X2 n2 v58 l700012 X3:=h
          unfold VCc72_l3 at h
          refine srn 1 ⟨87,[e56_12,e56_1 c3 c rule,sp 5 5,sp 7 7,sI 10 n2,e56_9 c3,e56_15 c3,sI 58 v58,sB 59 (decide (v58<(c3.length:Int))),e56_23,sI 88 c,sI 89 rule,e56_24,e56_4 c3 c rule,e56_25,sI 100 n,sI 101 endv,e56_13],[e56_17 fromv endv,e56_3 c3 c rule fromv endv,e56_10 fromv over,e56_5 c rule fromv over,e56_0 c0 c1 c2 c3 c4,e56_11 l700012]⟩ (by kernel_rfl) rfl ?_
          refine aw_seq ?_
          refine aw_cond (b:=(decide (v58<(c3.length:Int)))) (by kernel_rfl) (fun hb=>?_) (fun hb=>?_)
          ·have h:=h.1 hb
           refine aw_skip ?_
           refine thenQ_n ?_
           refine aw_seq ?_
           refine aw_block ?_
           refine sr ?_
           obtain ⟨o1,h⟩:=h
           refine rq 6 (ob:=(Ts 1 (inIdx v58 c3.length∧Ts 4 True))) (st':=(⟨87,[e56_12,e56_1 c3 c rule,sp 5 5,sp 7 7,sI 10 n2,sI 11 v58,sp 12 12,e56_9 c3,e56_15 c3,sI 58 v58,e56_23,sI 88 c,sI 89 rule,e56_24,e56_4 c3 c rule,e56_25,sI 100 n,sI 101 endv,e56_13],[e56_17 fromv endv,e56_3 c3 c rule fromv endv,e56_29 c3 v58,e56_10 fromv over,e56_5 c rule fromv over,e56_0 c0 c1 c2 c3 c4,e56_11 l700012]⟩:St)) (by kernel_rfl) (tsI 1 ⟨o1,tsI 4 trivial⟩) ?_
           refine nn ?_
           refine aw_seq ?_
           refine awd_begin [] (by kernel_rfl) ?_
           obtain ⟨o1,h⟩:=h
           refine drq (by kernel_rfl) [0,1,2,3,4,5,6,7,8,9] (ob:=(Ts 8 (InR (((((c3.getD (c).toNat ((0:Int),([]:LI))).2).drop (rule).toNat).getD ((0:Int)).toNat (0:Int))-c0)∧Ts 1 True))) (done':=[9,8,7,6,5,4,3,2,1,0]) (st':=(⟨87,[e56_12,e56_1 c3 c rule,sp 5 5,sp 7 7,sI 10 n2,sI 11 v58,e56_9 c3,e56_15 c3,sI 58 v58,e56_22 c3 v58 c rule c0,e56_23,sI 88 c,sI 89 rule,e56_24,e56_4 c3 c rule,e56_25,sI 100 n,sI 101 endv,e56_13],[e56_17 fromv endv,e56_3 c3 c rule fromv endv,e56_10 fromv over,e56_5 c rule fromv over,e56_0 c0 c1 c2 c3 c4,e56_11 l700012]⟩:St)) (by kernel_rfl) (tsI 8 ⟨o1,tsI 1 trivial⟩) ?_
           refine awd_done (by kernel_rfl) ?_
           refine thenQ_n ?_
           refine withJoin (σ:=Int×LK) (fun s=>(⟨87,[e56_12,e56_1 c3 c rule,sp 5 5,sp 7 7,sI 10 s.1,e56_9 c3,e56_15 c3,sI 58 v58,e56_23,sI 88 c,sI 89 rule,e56_24,e56_4 c3 c rule,e56_25,sI 100 n,sI 101 endv,e56_13],[e56_17 fromv endv,e56_3 c3 c rule fromv endv,e56_10 fromv over,e56_5 c rule fromv over,e56_0 c0 c1 c2 c3 c4,(70001,[],.dict (.pr tI t3) tI s.2)]⟩:St)) (fun s=>VCc72_k8 v58 X3 s.1 s.2) (fun s h=>?_) (fun rest8=>?_)
           ·obtain ⟨n3,l700013⟩:=s
            have h:VCc72_k8 v58 X3 n3 l700013:=h
            unfold VCc72_k8 at h
            refine blockQ_n ?_
            refine thenQ_n ?_
            refine aw_region ?_
            obtain ⟨o1,h⟩:=h
            refine rq 2 (ob:=(InR (v58+(1:Int))∧Ts 1 True)) (st':=(⟨87,[e56_12,e56_1 c3 c rule,sp 5 5,sp 7 7,sI 10 n3,e56_9 c3,e56_15 c3,sI 58 (v58+(1:Int)),e56_23,sI 88 c,sI 89 rule,e56_24,e56_4 c3 c rule,e56_25,sI 100 n,sI 101 endv,e56_13],[e56_17 fromv endv,e56_3 c3 c rule fromv endv,e56_10 fromv over,e56_5 c rule fromv over,e56_0 c0 c1 c2 c3 c4,e56_31 l700013]⟩:St)) (by kernel_rfl) (⟨o1,tsI 1 trivial⟩) ?_
            refine awl_nil ?_
            exact thenQ_n ⟨(n3,(v58+(1:Int)),l700013),rfl,h⟩
           ·refine aw_cond (b:=(decide ((c3.getD (v58).toNat ((0:Int),([]:LI))).1=(((((c3.getD (c).toNat ((0:Int),([]:LI))).2).drop (rule).toNat).getD ((0:Int)).toNat (0:Int))-c0)))) (by kernel_rfl) (fun hb=>?_) (fun hb=>?_)
            ·have h:=h.1 hb
             refine aw_region ?_
             refine rqT 4 ⟨87,[e56_12,e56_1 c3 c rule,sp 5 5,sp 7 7,e56_9 c3,e56_15 c3,sI 58 v58,sI 73 n2,sp 74 70000,sI 75 v58,sA 76 [.pI fromv,.pI endv],e56_23,sI 88 c,sI 89 rule,e56_24,e56_4 c3 c rule,e56_25,sI 100 n,sI 101 endv,e56_13],[e56_17 fromv endv,e56_3 c3 c rule fromv endv,e56_10 fromv over,e56_5 c rule fromv over,e56_0 c0 c1 c2 c3 c4,e56_11 l700012]⟩ (by kernel_rfl) ?_
             refine awl_lcall (σ:=Int×LK) [70000,70001] [70000] [.c (.ptr 70000 0),.c (.pI v58),.c (.pI (0:Int)),.agg [.pI fromv,.pI endv]] [] (fun ret77v=>.v (.c (.pI ret77v.1))) (fun ret77v=>[e56_0 c0 c1 c2 c3 c4,e56_14 ret77v]) (_) [e56_0 c0 c1 c2 c3 c4,e56_11 l700012] (fun ret77v=>(⟨87,[sI 77 ret77v.1,e56_12,e56_1 c3 c rule,sp 5 5,sp 7 7,e56_9 c3,e56_15 c3,sI 58 v58,sI 73 n2,sp 74 70000,sI 75 v58,sA 76 [.pI fromv,.pI endv],e56_23,sI 88 c,sI 89 rule,e56_24,e56_4 c3 c rule,e56_25,sI 100 n,sI 101 endv,e56_13],[e56_0 c0 c1 c2 c3 c4,e56_14 ret77v,e56_17 fromv endv,e56_3 c3 c rule fromv endv,e56_10 fromv over,e56_5 c rule fromv over]⟩:St)) rfl rfl (by kernel_rfl) rfl (by kernel_rfl) Try.call72 (by kernel_rfl) (by kernel_rfl) (by kernel_rfl) (fun _ _=>rfl) (fun _=>by kernel_rfl) (hR v58 (0:Int) fromv endv l700012 _ h) (fun ret77v h=>?_)
             refine lpr (st':=(⟨87,[e56_12,e56_1 c3 c rule,sp 5 5,sp 7 7,e56_9 c3,e56_15 c3,sI 58 v58,sI 73 n2,sI 77 ret77v.1,e56_23,sI 88 c,sI 89 rule,e56_24,e56_4 c3 c rule,e56_25,sI 100 n,sI 101 endv,e56_13],[e56_17 fromv endv,e56_3 c3 c rule fromv endv,e56_10 fromv over,e56_5 c rule fromv over,e56_0 c0 c1 c2 c3 c4,e56_14 ret77v]⟩:St)) (by kernel_rfl) ?_
             refine lcq (d:=78) [.d tI,.d tI] (fun ret78v=>(⟨87,[e56_12,e56_1 c3 c rule,sp 5 5,sp 7 7,e56_9 c3,e56_15 c3,sI 58 v58,sI 78 ret78v,e56_23,sI 88 c,sI 89 rule,e56_24,e56_4 c3 c rule,e56_25,sI 100 n,sI 101 endv,e56_13],[e56_17 fromv endv,e56_3 c3 c rule fromv endv,e56_10 fromv over,e56_5 c rule fromv over,e56_0 c0 c1 c2 c3 c4,e56_14 ret77v]⟩:St)) (by kernel_rfl) Try.call83 (fun _=>by kernel_rfl) (link83 n2 ret77v.1 _ h) (fun ret78v h=>?_)
             refine rqT 1 ⟨87,[e56_12,e56_1 c3 c rule,sp 5 5,sp 7 7,sI 10 ret78v,e56_9 c3,e56_15 c3,sI 58 v58,e56_23,sI 88 c,sI 89 rule,e56_24,e56_4 c3 c rule,e56_25,sI 100 n,sI 101 endv,e56_13],[e56_17 fromv endv,e56_3 c3 c rule fromv endv,e56_10 fromv over,e56_5 c rule fromv over,e56_0 c0 c1 c2 c3 c4,e56_14 ret77v]⟩ (by kernel_rfl) ?_
             refine awl_nil ?_
             exact rest8 (ret78v,ret77v.2) h
            ·have h:=h.2 hb
             refine cpr (st':=(⟨87,[e56_12,e56_1 c3 c rule,sp 5 5,sp 7 7,sI 10 n2,e56_9 c3,e56_15 c3,sI 58 v58,e56_23,sI 88 c,sI 89 rule,e56_24,e56_4 c3 c rule,e56_25,sI 100 n,sI 101 endv,e56_13],[e56_17 fromv endv,e56_3 c3 c rule fromv endv,e56_10 fromv over,e56_5 c rule fromv over,e56_0 c0 c1 c2 c3 c4,e56_11 l700012]⟩:St)) (by kernel_rfl) ?_
             refine aw_skip ?_
             exact rest8 (n2,l700012) h
          ·have h:=h.2 hb
           refine cpr (st':=(⟨87,[e56_12,sp 7 7,sI 10 n2,e56_23,sI 88 c,sI 89 rule,e56_24,e56_4 c3 c rule,e56_25,sI 100 n,sI 101 endv,e56_13],[e56_3 c3 c rule fromv endv,e56_10 fromv over,e56_5 c rule fromv over,e56_0 c0 c1 c2 c3 c4,e56_11 l700012]⟩:St)) (by kernel_rfl) ?_
           refine aw_exit ?_
           refine thenQ_x ?_
           refine thenQ_x ?_
           refine blockQ_hit ?_
           exact rest7 (n2,l700012) h
     ·have h:=h.2 hb
      refine cpr (st':=(⟨99,[e56_12,sp 10 10,sI 13 n,e56_18],[e56_19 c rule fromv over,e56_0 c0 c1 c2 c3 c4,e56_7 l70001]⟩:St)) (by kernel_rfl) ?_
      refine aw_exit ?_
      refine thenQ_x ?_
      refine thenQ_x ?_
      refine blockQ_hit ?_
      exact rest4 (n,l70001) h
def VCc72_it (c0:Int) (c1:Int) (c2:Int) (c3:LR) (c4:LI):Nat→Int→Int→Int→Int→LK→(Int×LK→Prop)→Prop
  | 0=>fun _ _ _ _ _ _=>False
  | n+1=>fun c rule fromv over c5 K=>VCc72 c0 c1 c2 c3 c4 (VCc72_it c0 c1 c2 c3 c4 n) c rule fromv over c5 K
def VCcr72 (c0:Int) (c1:Int) (c2:Int) (c3:LR) (c4:LI) (c:Int) (rule:Int) (fromv:Int) (over:Int) (c5:LK) (K:Int×LK→Prop):Prop:=∃ n,VCc72_it c0 c1 c2 c3 c4 n c rule fromv over c5 K
theorem linkci72 (c0:Int) (c1:Int) (c2:Int) (c3:LR) (c4:LI):∀ (n:Nat) (c:Int) (rule:Int) (fromv:Int) (over:Int) (c5:LK) (K:Int×LK→Prop),VCc72_it c0 c1 c2 c3 c4 n c rule fromv over c5 K→LCalls Try.prog 72 [70000,70001] [70000] [e56_0 c0 c1 c2 c3 c4,e56_8 c5] [.c (.ptr 70000 0),.c (.pI c),.c (.pI rule),.agg [.pI fromv,.pI over]] (fun av hp'=>∃ y:Int×LK,av=.v (.c (.pI y.1))∧hp'=[e56_0 c0 c1 c2 c3 c4,(70001,[],.dict (.pr tI t3) tI y.2)]∧K y)
  | 0,_,_,_,_,_,_,h=>False.elim h
  | n+1,c,rule,fromv,over,c5,K,h=>linkc72 c0 c1 c2 c3 c4 (VCc72_it c0 c1 c2 c3 c4 n) (linkci72 c0 c1 c2 c3 c4 n) c rule fromv over c5 K h
theorem linkcr72 (c0:Int) (c1:Int) (c2:Int) (c3:LR) (c4:LI) (c:Int) (rule:Int) (fromv:Int) (over:Int) (c5:LK) (K:Int×LK→Prop) (h:VCcr72 c0 c1 c2 c3 c4 c rule fromv over c5 K):LCalls Try.prog 72 [70000,70001] [70000] [e56_0 c0 c1 c2 c3 c4,e56_8 c5] [.c (.ptr 70000 0),.c (.pI c),.c (.pI rule),.agg [.pI fromv,.pI over]] (fun av hp'=>∃ y:Int×LK,av=.v (.c (.pI y.1))∧hp'=[e56_0 c0 c1 c2 c3 c4,(70001,[],.dict (.pr tI t3) tI y.2)]∧K y):=by
  obtain ⟨n,h⟩:=h
  exact linkci72 c0 c1 c2 c3 c4 n c rule fromv over c5 K h
abbrev e56a0 (c0:Int) (c1:Int) (c2:Int) (c3:LR) (c4:LI):Nat×Path×Con:=hB 70000 [.pI c0,.pI c1,.pI c2,.p (.sl tR) c3,.pS c4,.own 70001]
abbrev e56a1 (c:Int) (sign:Int) (over:Int):Nat×Path×Con:=hB 7 [.pI (-1:Int),.pI c,.pI sign,.pI over]
abbrev e56a2 (c5:LK):Nat×Path×Con:=(70001,[],.dict (.pr tI t3) tI c5)
abbrev e56a3 (c3:LR):Nat×Path×AV:=s1 56 (.p (.sl tR) c3)
abbrev e56a4 (sign:Int) (over:Int):Nat×Path×Con:=hB 5 [.pI sign,.pI over]
abbrev e56a5 (l70001:LK):Nat×Path×Con:=(70001,[],.dict (.pr tI t3) tI l70001)
abbrev e56a6:Nat×Path×AV:=sp 87 70000
abbrev e56a7 (ret77v:Int×LK):Nat×Path×Con:=(70001,[],.dict (.pr tI t3) tI ret77v.2)
abbrev e56a8 (c3:LR):Nat×Path×AV:=sI 57 (c3.length:Int)
abbrev e56a9:Nat×Path×AV:=sp 0 70000
-- (*coppicer/table.Counter).Sign
def VCc68_k1 (c:Int) (sign:Int) (over:Int) (K:Int×LK→Prop) (n:Int) (l70001:LK):Prop :=
  K (n,(mset l70001 ((-1:Int),(c,(sign,over))) n))
def VCc68_k2 (v58:Int) (X1:Int×Int×LK→Prop) (n2:Int) (l700012:LK):Prop :=
  (InR (v58+(1:Int))∧X1 (n2,(v58+(1:Int)),l700012))
def VCc68_l1 (c0:Int) (c1:Int) (c2:Int) (c3:LR) (c4:LI) (c:Int) (sign:Int) (over:Int) (K:Int×LK→Prop) (n:Int) (v58:Int) (l70001:LK) (X1:Int×Int×LK→Prop):Prop :=
  (((decide (v58<(c3.length:Int)))=true→(inIdx v58 c3.length∧(InR (c-c0)∧(((decide ((c3.getD (v58).toNat ((0:Int),([]:LI))).1=(c-c0)))=true→VCcr72 c0 c1 c2 c3 c4 v58 (0:Int) sign over l70001 (fun (ret77v:Int×LK)=>VC83 n ret77v.1 (fun (ret78v:Int)=>VCc68_k2 v58 X1 ret78v ret77v.2)))∧((decide ((c3.getD (v58).toNat ((0:Int),([]:LI))).1=(c-c0)))=false→VCc68_k2 v58 X1 n l70001)))))∧((decide (v58<(c3.length:Int)))=false→VCc68_k1 c sign over K n l70001))
def VCc68 (c0:Int) (c1:Int) (c2:Int) (c3:LR) (c4:LI) (R:Int→Int→Int→LK→(Int×LK→Prop)→Prop) (c:Int) (sign:Int) (over:Int) (c5:LK) (K:Int×LK→Prop):Prop :=
  (((decide (c<c0))=true→(InR (sign+(1:Int))∧((decide (over=(sign+(1:Int))))=true→inIdx sign c4.length)∧((((decide (over=(sign+(1:Int))))&&(decide ((c4.getD (sign).toNat (0:Int))=c)))=true→K ((1:Int),c5))∧(((decide (over=(sign+(1:Int))))&&(decide ((c4.getD (sign).toNat (0:Int))=c)))=false→K ((0:Int),c5)))))∧((decide (c<c0))=false→(((mget c5 ((-1:Int),(c,(sign,over)))).isSome=true→K (((mget c5 ((-1:Int),(c,(sign,over)))).getD (0:Int)),c5))∧((mget c5 ((-1:Int),(c,(sign,over)))).isSome=false→Loop (σ:=Int×Int×LK) (fun s X=>VCc68_l1 c0 c1 c2 c3 c4 c sign over K s.1 s.2.1 s.2.2 X) ((0:Int),(0:Int),c5)))))
set_option maxHeartbeats 4000000 in
theorem linkc68 (c0:Int) (c1:Int) (c2:Int) (c3:LR) (c4:LI) (R:Int→Int→Int→LK→(Int×LK→Prop)→Prop) (hR:∀ (c:Int) (sign:Int) (over:Int) (c5:LK) (K:Int×LK→Prop),R c sign over c5 K→LCalls Try.prog 68 [70000,70001] [70000] [e56a0 c0 c1 c2 c3 c4,e56a2 c5] [.c (.ptr 70000 0),.c (.pI c),.agg [.pI sign,.pI over]] (fun av hp'=>∃ y:Int×LK,av=.v (.c (.pI y.1))∧hp'=[e56a0 c0 c1 c2 c3 c4,(70001,[],.dict (.pr tI t3) tI y.2)]∧K y)) (c:Int) (sign:Int) (over:Int) (c5:LK) (K:Int×LK→Prop) (h:VCc68 c0 c1 c2 c3 c4 R c sign over c5 K):LCalls Try.prog 68 [70000,70001] [70000] [e56a0 c0 c1 c2 c3 c4,e56a2 c5] [.c (.ptr 70000 0),.c (.pI c),.agg [.pI sign,.pI over]] (fun av hp'=>∃ y:Int×LK,av=.v (.c (.pI y.1))∧hp'=[e56a0 c0 c1 c2 c3 c4,(70001,[],.dict (.pr tI t3) tI y.2)]∧K y):=by
 refine lcalls_of_aw [70000,70001] [70000] [.t 6] Try.func68 rfl rfl (by kernel_rfl) (by kernel_rfl) (by kernel_rfl) ?_
 refine aw_conv [] (st':=(⟨87,[e56a9,sI 1 c,sA 2 [.pI sign,.pI over],e56a6],[e56a0 c0 c1 c2 c3 c4,e56a2 c5]⟩:St)) (by kernel_rfl) ?_
 unfold VCc68 at h
 refine srn 2 ⟨87,[e56a9,sI 1 c,sp 5 5,e56a6],[e56a4 sign over,e56a0 c0 c1 c2 c3 c4,e56a2 c5]⟩ (by kernel_rfl) rfl ?_
 refine aw_seq ?_
 refine srn 7 ⟨87,[e56a9,sI 1 c,sp 5 5,sB 19 (decide (c<c0)),e56a6],[e56a4 sign over,e56a0 c0 c1 c2 c3 c4,e56a2 c5]⟩ (by kernel_rfl) rfl ?_
 refine aw_cond (b:=(decide (c<c0))) (by kernel_rfl) (fun hb=>?_) (fun hb=>?_)
 ·have h:=h.1 hb
  refine aw_seq ?_
  refine aw_seq ?_
  refine awd_begin [] (by kernel_rfl) ?_
  obtain ⟨o1,o2,h⟩:=h
  refine drq (by kernel_rfl) [0,1,2,3,4,5,6,7,8,9,10,11,12,13,14,15,16,17] (ob:=(Ts 4 (InR (sign+(1:Int))∧Ts 2 (Ti 6 ((decide (over=(sign+(1:Int))))=true→True) (((decide (over=(sign+(1:Int))))=true→inIdx sign c4.length)∧Ti 3 ((decide (over=(sign+(1:Int))))=true→True) (Ts 1 True)))))) (done':=[17,16,15,14,13,12,11,10,9,8,7,6,5,4,3,2,1,0]) (st':=(⟨87,[sB 37 ((decide (over=(sign+(1:Int))))&&(decide ((c4.getD (sign).toNat (0:Int))=c))),e56a6],[e56a0 c0 c1 c2 c3 c4,e56a2 c5]⟩:St)) (by kernel_rfl) (tsI 4 (⟨o1,tsI 2 (tiI 6 (fun _=>trivial) ⟨o2,tiI 3 (fun _=>trivial) (tsI 1 trivial)⟩)⟩)) ?_
  refine awd_done (by kernel_rfl) ?_
  refine thenQ_n ?_
  refine aw_cond (b:=((decide (over=(sign+(1:Int))))&&(decide ((c4.getD (sign).toNat (0:Int))=c)))) (by kernel_rfl) (fun hb=>?_) (fun hb=>?_)
  ·have h:=h.1 hb
   refine srn 1 ⟨87,[sI 6 (1:Int),e56a6],[e56a0 c0 c1 c2 c3 c4,e56a2 c5]⟩ (by kernel_rfl) rfl ?_
   refine aw_ret ?_
   refine thenQ_r ?_
   refine thenQ_r ?_
   exact lret_r (σ:=Int×LK) (A:=fun y=>.v (.c (.pI y.1))) (H:=fun y=>[e56a0 c0 c1 c2 c3 c4,(70001,[],.dict (.pr tI t3) tI y.2)]) (ob:=True) ((1:Int),c5) (by kernel_rfl) trivial rfl (by kernel_rfl) (by kernel_rfl) (by kernel_rfl) h
  ·have h:=h.2 hb
   refine aw_skip ?_
   refine thenQ_n ?_
   refine srn 1 ⟨87,[sI 6 (0:Int),e56a6],[e56a0 c0 c1 c2 c3 c4,e56a2 c5]⟩ (by kernel_rfl) rfl ?_
   refine aw_ret ?_
   refine thenQ_r ?_
   exact lret_r (σ:=Int×LK) (A:=fun y=>.v (.c (.pI y.1))) (H:=fun y=>[e56a0 c0 c1 c2 c3 c4,(70001,[],.dict (.pr tI t3) tI y.2)]) (ob:=True) ((0:Int),c5) (by kernel_rfl) trivial rfl (by kernel_rfl) (by kernel_rfl) (by kernel_rfl) h
 ·have h:=h.2 hb
  refine aw_skip ?_
  refine thenQ_n ?_
  refine srn 5 ⟨87,[e56a9,sI 1 c,sp 5 5,sp 7 7,e56a6],[e56a4 sign over,e56a1 c sign over,e56a0 c0 c1 c2 c3 c4,e56a2 c5]⟩ (by kernel_rfl) rfl ?_
  refine aw_seq ?_
  refine aw_seq ?_
  refine awd_begin [] (by kernel_rfl) ?_
  refine drq (by kernel_rfl) [0,1,2,3,4,5,6,7,8,9,10] (ob:=(Ts 11 True)) (done':=[10,9,8,7,6,5,4,3,2,1,0]) (st':=(⟨87,[e56a9,sI 1 c,sp 5 5,sp 7 7,sI 8 ((mget c5 ((-1:Int),(c,(sign,over)))).getD (0:Int)),sB 9 ((mget c5 ((-1:Int),(c,(sign,over)))).isSome),e56a6],[e56a4 sign over,e56a1 c sign over,e56a0 c0 c1 c2 c3 c4,e56a2 c5]⟩:St)) (by kernel_rfl) (tsI 11 trivial) ?_
  refine awd_done (by kernel_rfl) ?_
  refine thenQ_n ?_
  refine srn 1 ⟨87,[e56a9,sI 1 c,sp 5 5,sp 7 7,sI 8 ((mget c5 ((-1:Int),(c,(sign,over)))).getD (0:Int)),sB 50 ((mget c5 ((-1:Int),(c,(sign,over)))).isSome),e56a6],[e56a4 sign over,e56a1 c sign over,e56a0 c0 c1 c2 c3 c4,e56a2 c5]⟩ (by kernel_rfl) rfl ?_
  refine aw_cond (b:=(mget c5 ((-1:Int),(c,(sign,over)))).isSome) (by kernel_rfl) (fun hb=>?_) (fun hb=>?_)
  ·have h:=h.1 hb
   refine srn 2 ⟨87,[sI 6 ((mget c5 ((-1:Int),(c,(sign,over)))).getD (0:Int)),e56a6],[e56a0 c0 c1 c2 c3 c4,e56a2 c5]⟩ (by kernel_rfl) rfl ?_
   refine aw_ret ?_
   refine thenQ_r ?_
   exact lret_r (σ:=Int×LK) (A:=fun y=>.v (.c (.pI y.1))) (H:=fun y=>[e56a0 c0 c1 c2 c3 c4,(70001,[],.dict (.pr tI t3) tI y.2)]) (ob:=True) (((mget c5 ((-1:Int),(c,(sign,over)))).getD (0:Int)),c5) (by kernel_rfl) trivial rfl (by kernel_rfl) (by kernel_rfl) (by kernel_rfl) h
  ·have h:=h.2 hb
   refine aw_skip ?_
   refine thenQ_n ?_
   refine srn 1 ⟨87,[e56a9,sI 1 c,sp 5 5,sp 7 7,sI 10 (0:Int),e56a6],[e56a4 sign over,e56a1 c sign over,e56a0 c0 c1 c2 c3 c4,e56a2 c5]⟩ (by kernel_rfl) rfl ?_
   refine aw_seq ?_
   refine srn 7 ⟨87,[e56a9,sI 1 c,sp 5 5,sp 7 7,sI 10 (0:Int),e56a3 c3,e56a8 c3,sI 58 (0:Int),e56a6],[e56a4 sign over,e56a1 c sign over,e56a0 c0 c1 c2 c3 c4,e56a2 c5]⟩ (by kernel_rfl) rfl ?_
   refine withJoin (σ:=Int×LK) (fun s=>(⟨87,[e56a9,sp 7 7,sI 10 s.1,e56a6],[e56a1 c sign over,e56a0 c0 c1 c2 c3 c4,(70001,[],.dict (.pr tI t3) tI s.2)]⟩:St)) (fun s=>VCc68_k1 c sign over K s.1 s.2) (fun s h=>?_) (fun rest1=>?_)
   ·obtain ⟨n,l70001⟩:=s
    have h:VCc68_k1 c sign over K n l70001:=h
    unfold VCc68_k1 at h
    refine thenQ_n ?_
    refine aw_seq ?_
    refine awd_begin [70001] (by kernel_rfl) ?_
    refine drq (by kernel_rfl) [0,1,2,3,4,5] (ob:=(Ts 6 True)) (done':=[5,4,3,2,1,0]) (st':=(⟨87,[sI 10 n,s1 83 (.own 70001),sA 84 [.pI (-1:Int),.pI c,.pI sign,.pI over],sI 85 n,e56a6],[e56a0 c0 c1 c2 c3 c4,e56a5 l70001]⟩:St)) (by kernel_rfl) (tsI 6 trivial) ?_
    refine awd_one (i:=6) (by kernel_rfl) ?_
    refine dsq (ob:=True) (st':=(⟨87,[sI 10 n,e56a6],[e56a0 c0 c1 c2 c3 c4,(70001,[],.dict (.pr tI t3) tI (mset l70001 ((-1:Int),(c,(sign,over))) n))]⟩:St)) rfl (by kernel_rfl) trivial ?_
    refine awd_done (by kernel_rfl) ?_
    refine thenQ_n ?_
    refine srn 2 ⟨87,[sI 6 n,e56a6],[e56a0 c0 c1 c2 c3 c4,(70001,[],.dict (.pr tI t3) tI (mset l70001 ((-1:Int),(c,(sign,over))) n))]⟩ (by kernel_rfl) rfl ?_
    refine aw_ret ?_
    exact lret_r (σ:=Int×LK) (A:=fun y=>.v (.c (.pI y.1))) (H:=fun y=>[e56a0 c0 c1 c2 c3 c4,(70001,[],.dict (.pr tI t3) tI y.2)]) (ob:=True) (n,(mset l70001 ((-1:Int),(c,(sign,over))) n)) (by kernel_rfl) trivial rfl (by kernel_rfl) (by kernel_rfl) (by kernel_rfl) h
   ·refine aw_block ?_
    refine aw_loop (σ:=Int×Int×LK) (fun s=>(⟨87,[e56a9,sI 1 c,sp 5 5,sp 7 7,sI 10 s.1,e56a3 c3,e56a8 c3,sI 58 s.2.1,e56a6],[e56a4 sign over,e56a1 c sign over,e56a0 c0 c1 c2 c3 c4,(70001,[],.dict (.pr tI t3) tI s.2.2)]⟩:St)) (fun s X=>VCc68_l1 c0 c1 c2 c3 c4 c sign over K s.1 s.2.1 s.2.2 X) (s0:=((0:Int),(0:Int),c5)) (fun s X1 h=>?_) h
    obtain ⟨n,v58,l70001⟩:=s
    have h:VCc68_l1 c0 c1 c2 c3 c4 c sign over K n v58 l70001 X1:=h
    unfold VCc68_l1 at h
    refine srn 1 ⟨87,[e56a9,sI 1 c,sp 5 5,sp 7 7,sI 10 n,e56a3 c3,e56a8 c3,sI 58 v58,sB 59 (decide (v58<(c3.length:Int))),e56a6],[e56a4 sign over,e56a1 c sign over,e56a0 c0 c1 c2 c3 c4,e56a5 l70001]⟩ (by kernel_rfl) rfl ?_
    refine aw_seq ?_
    refine aw_cond (b:=(decide (v58<(c3.length:Int)))) (by kernel_rfl) (fun hb=>?_) (fun hb=>?_)
    ·have h:=h.1 hb
     refine aw_skip ?_
     refine thenQ_n ?_
     refine aw_seq ?_
     refine aw_block ?_
     refine sr ?_
     obtain ⟨o1,h⟩:=h
     refine rq 6 (ob:=(Ts 1 (inIdx v58 c3.length∧Ts 4 True))) (st':=(⟨87,[e56a9,sI 1 c,sp 5 5,sp 7 7,sI 10 n,sI 11 v58,sp 12 12,e56a3 c3,e56a8 c3,sI 58 v58,e56a6],[e56a4 sign over,e56a1 c sign over,hB 12 [.pI ((c3.getD (v58).toNat ((0:Int),([]:LI))).1),.pS ((c3.getD (v58).toNat ((0:Int),([]:LI))).2)],e56a0 c0 c1 c2 c3 c4,e56a5 l70001]⟩:St)) (by kernel_rfl) (tsI 1 ⟨o1,tsI 4 trivial⟩) ?_
     refine nn ?_
     refine aw_seq ?_
     refine awd_begin [] (by kernel_rfl) ?_
     obtain ⟨o1,h⟩:=h
     refine drq (by kernel_rfl) [0,1,2,3,4,5,6,7,8,9] (ob:=(Ts 8 (InR (c-c0)∧Ts 1 True))) (done':=[9,8,7,6,5,4,3,2,1,0]) (st':=(⟨87,[e56a9,sI 1 c,sp 5 5,sp 7 7,sI 10 n,sI 11 v58,e56a3 c3,e56a8 c3,sI 58 v58,sB 72 (decide ((c3.getD (v58).toNat ((0:Int),([]:LI))).1=(c-c0))),e56a6],[e56a4 sign over,e56a1 c sign over,e56a0 c0 c1 c2 c3 c4,e56a5 l70001]⟩:St)) (by kernel_rfl) (tsI 8 ⟨o1,tsI 1 trivial⟩) ?_
     refine awd_done (by kernel_rfl) ?_
     refine thenQ_n ?_
     refine withJoin (σ:=Int×LK) (fun s=>(⟨87,[e56a9,sI 1 c,sp 5 5,sp 7 7,sI 10 s.1,e56a3 c3,e56a8 c3,sI 58 v58,e56a6],[e56a4 sign over,e56a1 c sign over,e56a0 c0 c1 c2 c3 c4,(70001,[],.dict (.pr tI t3) tI s.2)]⟩:St)) (fun s=>VCc68_k2 v58 X1 s.1 s.2) (fun s h=>?_) (fun rest2=>?_)
     ·obtain ⟨n2,l700012⟩:=s
      have h:VCc68_k2 v58 X1 n2 l700012:=h
      unfold VCc68_k2 at h
      refine blockQ_n ?_
      refine thenQ_n ?_
      refine aw_region ?_
      obtain ⟨o1,h⟩:=h
      refine rq 2 (ob:=(InR (v58+(1:Int))∧Ts 1 True)) (st':=(⟨87,[e56a9,sI 1 c,sp 5 5,sp 7 7,sI 10 n2,e56a3 c3,e56a8 c3,sI 58 (v58+(1:Int)),e56a6],[e56a4 sign over,e56a1 c sign over,e56a0 c0 c1 c2 c3 c4,(70001,[],.dict (.pr tI t3) tI l700012)]⟩:St)) (by kernel_rfl) (⟨o1,tsI 1 trivial⟩) ?_
      refine awl_nil ?_
      exact thenQ_n ⟨(n2,(v58+(1:Int)),l700012),rfl,h⟩
     ·refine aw_cond (b:=(decide ((c3.getD (v58).toNat ((0:Int),([]:LI))).1=(c-c0)))) (by kernel_rfl) (fun hb=>?_) (fun hb=>?_)
      ·have h:=h.1 hb
       refine aw_region ?_
       refine rqT 4 ⟨87,[e56a9,sI 1 c,sp 5 5,sp 7 7,e56a3 c3,e56a8 c3,sI 58 v58,sI 73 n,sp 74 70000,sI 75 v58,sA 76 [.pI sign,.pI over],e56a6],[e56a4 sign over,e56a1 c sign over,e56a0 c0 c1 c2 c3 c4,e56a5 l70001]⟩ (by kernel_rfl) ?_
       refine awl_lcall (σ:=Int×LK) [70000,70001] [70000] [.c (.ptr 70000 0),.c (.pI v58),.c (.pI (0:Int)),.agg [.pI sign,.pI over]] [] (fun ret77v=>.v (.c (.pI ret77v.1))) (fun ret77v=>[e56a0 c0 c1 c2 c3 c4,e56a7 ret77v]) (_) [e56a0 c0 c1 c2 c3 c4,e56a5 l70001] (fun ret77v=>(⟨87,[sI 77 ret77v.1,e56a9,sI 1 c,sp 5 5,sp 7 7,e56a3 c3,e56a8 c3,sI 58 v58,sI 73 n,sp 74 70000,sI 75 v58,sA 76 [.pI sign,.pI over],e56a6],[e56a0 c0 c1 c2 c3 c4,e56a7 ret77v,e56a4 sign over,e56a1 c sign over]⟩:St)) rfl rfl (by kernel_rfl) rfl (by kernel_rfl) Try.call72 (by kernel_rfl) (by kernel_rfl) (by kernel_rfl) (fun _ _=>rfl) (fun _=>by kernel_rfl) (linkcr72 c0 c1 c2 c3 c4 v58 (0:Int) sign over l70001 _ h) (fun ret77v h=>?_)
       refine lpr (st':=(⟨87,[e56a9,sI 1 c,sp 5 5,sp 7 7,e56a3 c3,e56a8 c3,sI 58 v58,sI 73 n,sI 77 ret77v.1,e56a6],[e56a4 sign over,e56a1 c sign over,e56a0 c0 c1 c2 c3 c4,e56a7 ret77v]⟩:St)) (by kernel_rfl) ?_
       refine lcq (d:=78) [.d tI,.d tI] (fun ret78v=>(⟨87,[e56a9,sI 1 c,sp 5 5,sp 7 7,e56a3 c3,e56a8 c3,sI 58 v58,sI 78 ret78v,e56a6],[e56a4 sign over,e56a1 c sign over,e56a0 c0 c1 c2 c3 c4,e56a7 ret77v]⟩:St)) (by kernel_rfl) Try.call83 (fun _=>by kernel_rfl) (link83 n ret77v.1 _ h) (fun ret78v h=>?_)
       refine rqT 1 ⟨87,[e56a9,sI 1 c,sp 5 5,sp 7 7,sI 10 ret78v,e56a3 c3,e56a8 c3,sI 58 v58,e56a6],[e56a4 sign over,e56a1 c sign over,e56a0 c0 c1 c2 c3 c4,e56a7 ret77v]⟩ (by kernel_rfl) ?_
       refine awl_nil ?_
       exact rest2 (ret78v,ret77v.2) h
      ·have h:=h.2 hb
       refine cpr (st':=(⟨87,[e56a9,sI 1 c,sp 5 5,sp 7 7,sI 10 n,e56a3 c3,e56a8 c3,sI 58 v58,e56a6],[e56a4 sign over,e56a1 c sign over,e56a0 c0 c1 c2 c3 c4,e56a5 l70001]⟩:St)) (by kernel_rfl) ?_
       refine aw_skip ?_
       exact rest2 (n,l70001) h
    ·have h:=h.2 hb
     refine cpr (st':=(⟨87,[e56a9,sp 7 7,sI 10 n,e56a6],[e56a1 c sign over,e56a0 c0 c1 c2 c3 c4,e56a5 l70001]⟩:St)) (by kernel_rfl) ?_
     refine aw_exit ?_
     refine thenQ_x ?_
     refine thenQ_x ?_
     refine blockQ_hit ?_
     exact rest1 (n,l70001) h
def VCc68_it (c0:Int) (c1:Int) (c2:Int) (c3:LR) (c4:LI):Nat→Int→Int→Int→LK→(Int×LK→Prop)→Prop
  | 0=>fun _ _ _ _ _=>False
  | n+1=>fun c sign over c5 K=>VCc68 c0 c1 c2 c3 c4 (VCc68_it c0 c1 c2 c3 c4 n) c sign over c5 K
def VCcr68 (c0:Int) (c1:Int) (c2:Int) (c3:LR) (c4:LI) (c:Int) (sign:Int) (over:Int) (c5:LK) (K:Int×LK→Prop):Prop:=∃ n,VCc68_it c0 c1 c2 c3 c4 n c sign over c5 K
theorem linkci68 (c0:Int) (c1:Int) (c2:Int) (c3:LR) (c4:LI):∀ (n:Nat) (c:Int) (sign:Int) (over:Int) (c5:LK) (K:Int×LK→Prop),VCc68_it c0 c1 c2 c3 c4 n c sign over c5 K→LCalls Try.prog 68 [70000,70001] [70000] [e56a0 c0 c1 c2 c3 c4,e56a2 c5] [.c (.ptr 70000 0),.c (.pI c),.agg [.pI sign,.pI over]] (fun av hp'=>∃ y:Int×LK,av=.v (.c (.pI y.1))∧hp'=[e56a0 c0 c1 c2 c3 c4,(70001,[],.dict (.pr tI t3) tI y.2)]∧K y)
  | 0,_,_,_,_,_,h=>False.elim h
  | n+1,c,sign,over,c5,K,h=>linkc68 c0 c1 c2 c3 c4 (VCc68_it c0 c1 c2 c3 c4 n) (linkci68 c0 c1 c2 c3 c4 n) c sign over c5 K h
theorem linkcr68 (c0:Int) (c1:Int) (c2:Int) (c3:LR) (c4:LI) (c:Int) (sign:Int) (over:Int) (c5:LK) (K:Int×LK→Prop) (h:VCcr68 c0 c1 c2 c3 c4 c sign over c5 K):LCalls Try.prog 68 [70000,70001] [70000] [e56a0 c0 c1 c2 c3 c4,e56a2 c5] [.c (.ptr 70000 0),.c (.pI c),.agg [.pI sign,.pI over]] (fun av hp'=>∃ y:Int×LK,av=.v (.c (.pI y.1))∧hp'=[e56a0 c0 c1 c2 c3 c4,(70001,[],.dict (.pr tI t3) tI y.2)]∧K y):=by
  obtain ⟨n,h⟩:=h
  exact linkci68 c0 c1 c2 c3 c4 n c sign over c5 K h
abbrev e56b0 (g:TG) (w:LI):Nat×Path×Con:=hB 70000 [.pI g.1,.pI g.2.1,.pI g.2.2.1,.p (.sl tR) g.2.2.2,.pS w,.own 70001]
abbrev e56b1 (g:TG):Nat×Path×Con:=hB 2 [.pI g.1,.pI g.2.1,.pI g.2.2.1,.p (.sl tR) g.2.2.2]
abbrev e56b2 (g:TG):Nat×Path×Con:=hB 30100 [.pI g.1,.pI g.2.1,.pI g.2.2.1,.p (.sl tR) g.2.2.2]
abbrev e56b3 (g:TG) (w:LI):Nat×Path×Con:=hB 9 [.pI g.1,.pI g.2.1,.pI g.2.2.1,.p (.sl tR) g.2.2.2,.pS w,.own 7]
abbrev e56b4 (ret31v:Int×LK):Nat×Path×Con:=(70001,[],.dict (.pr tI t3) tI ret31v.2)
abbrev e56b5:Nat×Path×Con:=(7,[],.dict (.pr tI t3) tI ([]:List ((Int×(Int×(Int×Int)))×Int)))
abbrev e56b6:Nat×Path×Con:=(70001,[],.dict (.pr tI t3) tI ([]:List ((Int×(Int×(Int×Int)))×Int)))
abbrev e56b7 (w:LI):Nat×Path×AV:=s1 1 (.pS w)
abbrev e56b8 (g:TG):Nat×Path×AV:=sA 10 [.pI g.1,.pI g.2.1,.pI g.2.2.1,.p (.sl tR) g.2.2.2]
abbrev e56b9 (g:TG):Nat×Path×AV:=sA 19 [.pI g.1,.pI g.2.1,.pI g.2.2.1,.p (.sl tR) g.2.2.2]
abbrev e56b10 (g:TG):Nat×Path×AV:=sA 0 [.pI g.1,.pI g.2.1,.pI g.2.2.1,.p (.sl tR) g.2.2.2]
abbrev e56b11 (w:LI):Nat×Path×AV:=sA 30 [.pI (0:Int),.pI (w.length:Int)]
-- coppicer/table.Trees
def VC56_k1 (K:Int×Int→Prop) (v6:Int):Prop :=
  K ((0:Int),v6)
def VC56 (g:TG) (w:LI) (K:Int×Int→Prop):Prop :=
  VC66 g w (fun (ret12v:Int)=>(((!decide (ret12v=(0:Int)))=true→VC56_k1 K ret12v)∧((!decide (ret12v=(0:Int)))=false→VC55 g (fun (ret17v:Bool)=>(((!ret17v)=true→VC56_k1 K (3:Int))∧((!ret17v)=false→(InR (g.1+g.2.2.1)∧VCcr68 g.1 g.2.1 g.2.2.1 g.2.2.2 w (g.1+g.2.2.1) (0:Int) (w.length:Int) ([]:List ((Int×(Int×(Int×Int)))×Int)) (fun (ret31v:Int×LK)=>(((decide ((1099511627776:Int)<ret31v.1))=true→VC56_k1 K (1:Int))∧((decide ((1099511627776:Int)<ret31v.1))=false→K (ret31v.1,(0:Int))))))))))))
set_option maxHeartbeats 4000000 in
theorem link56 (g:TG) (w:LI) (K:Int×Int→Prop) (h:VC56 g w K):ACalls Try.prog 56 [toV1 tG g,toV1 (.sl tI) w] (fun res=>∃ y,res=(fun y=>[toV1 tI y.1,toV1 tI y.2]) y∧K y):=by
 refine acalls_of_aw [tI,tI] [.t 4,.t 5] Try.func56 rfl rfl rfl ?_
 unfold VC56 at h
 refine sr ?_
 refine rqT 3 ⟨18,[e56b7 w,sp 2 2],[e56b1 g]⟩ (by kernel_rfl) ?_
 refine nsr ?_
 refine rqT 2 ⟨18,[e56b8 g,s1 11 (.pS w)],[]⟩ (by kernel_rfl) ?_
 refine awl_inlr [.t 4,.t 5,.t 6] [] [.agg [.pI g.1,.pI g.2.1,.pI g.2.2.1,.p (.sl tR) g.2.2.2],.c (.pS w)] [] rfl rfl (by kernel_rfl) rfl (by kernel_rfl) Try.call57 (by kernel_rfl) (by kernel_rfl) Try.func57 rfl rfl (by kernel_rfl) ?_
 refine aw_conv [] (st':=(⟨36,[e56b10 g,e56b7 w,sA 46 [.pI g.1,.pI g.2.1,.pI g.2.2.1,.p (.sl tR) g.2.2.2],s1 47 (.pS w)],[]⟩:St)) (by kernel_rfl) ?_
 refine withJoinR (σ:=Int) (fun s=>(⟨36,[s1 4 (.any),sI 5 (0:Int),sI 6 s],[]⟩:St)) (fun s=>VC56_k1 K s) (fun v6 h=>?_) (fun rest1=>?_)
 ·have h:VC56_k1 K v6:=h
  unfold VC56_k1 at h
  refine inlR_n (ob:=(True∧True∧True∧True)) (.tup [.c (.any),.c (.pI (0:Int)),.c (.pI v6)]) (by kernel_rfl) ⟨trivial,trivial,trivial,trivial⟩ rfl ?_
  refine lpr (st':=(⟨18,[(12,[],.tup [.c (.any),.c (.pI (0:Int)),.c (.pI v6)])],[]⟩:St)) (by kernel_rfl) ?_
  refine rqT 7 ⟨18,[sI 7 (0:Int),sI 8 v6],[]⟩ (by kernel_rfl) ?_
  refine nsr ?_
  refine rqT 4 ⟨18,[sI 4 (0:Int),sI 5 v6],[]⟩ (by kernel_rfl) ?_
  refine nn ?_
  refine aw_ret ?_
  exact retQ_r (ob:=Ts 2 True) _ (by kernel_rfl) (tsI 2 trivial) h
 ·refine srn 4 ⟨36,[e56b7 w,sp 2 2],[e56b1 g]⟩ (by kernel_rfl) rfl ?_
  refine aw_seq ?_
  refine sr ?_
  refine rqT 2 ⟨36,[e56b7 w,sp 2 2,e56b8 g,s1 11 (.pS w)],[e56b1 g]⟩ (by kernel_rfl) ?_
  refine lcq (d:=12) [.d tG,.d (.sl tI)] (fun ret12v=>(⟨36,[e56b7 w,sp 2 2,sI 12 ret12v],[e56b1 g]⟩:St)) (by kernel_rfl) Try.call66 (fun _=>by kernel_rfl) (link66 g w _ h) (fun ret12v h=>?_)
  refine rqT 1 ⟨36,[e56b7 w,sp 2 2,sI 7 ret12v],[e56b1 g]⟩ (by kernel_rfl) ?_
  refine nsr ?_
  refine rqT 2 ⟨36,[e56b7 w,sp 2 2,sI 7 ret12v,sB 14 (!decide (ret12v=(0:Int)))],[e56b1 g]⟩ (by kernel_rfl) ?_
  refine nn ?_
  refine aw_cond (b:=(!decide (ret12v=(0:Int)))) (by kernel_rfl) (fun hb=>?_) (fun hb=>?_)
  ·have h:=h.1 hb
   refine srn 4 ⟨36,[s1 4 (.any),sI 5 (0:Int),sI 6 ret12v],[]⟩ (by kernel_rfl) rfl ?_
   refine aw_ret ?_
   refine thenQ_r ?_
   exact rest1 ret12v h
  ·have h:=h.2 hb
   refine aw_skip ?_
   refine thenQ_n ?_
   refine aw_seq ?_
   refine sr ?_
   refine rqT 1 ⟨36,[e56b7 w,sp 2 2,sA 16 [.pI g.1,.pI g.2.1,.pI g.2.2.1,.p (.sl tR) g.2.2.2]],[e56b1 g]⟩ (by kernel_rfl) ?_
   refine lcq (d:=17) [.d tG] (fun ret17v=>(⟨36,[e56b7 w,sp 2 2,sB 17 ret17v],[e56b1 g]⟩:St)) (by kernel_rfl) Try.call55 (fun _=>by kernel_rfl) (link55 g _ h) (fun ret17v h=>?_)
   refine rqT 1 ⟨36,[e56b7 w,sp 2 2,sB 18 (!ret17v)],[e56b1 g]⟩ (by kernel_rfl) ?_
   refine nn ?_
   refine aw_cond (b:=(!ret17v)) (by kernel_rfl) (fun hb=>?_) (fun hb=>?_)
   ·have h:=h.1 hb
    refine srn 3 ⟨36,[s1 4 (.any),sI 5 (0:Int),sI 6 (3:Int)],[]⟩ (by kernel_rfl) rfl ?_
    refine aw_ret ?_
    refine thenQ_r ?_
    exact rest1 (3:Int) h
   ·have h:=h.2 hb
    refine aw_skip ?_
    refine thenQ_n ?_
    refine sr ?_
    refine rqT 2 ⟨36,[e56b7 w,sp 2 2,e56b9 g,s1 20 (.pS w)],[e56b1 g]⟩ (by kernel_rfl) ?_
    refine awl_conv [.ren 2 30100] (st':=(⟨36,[e56b7 w,sp 2 30100,e56b9 g,s1 20 (.pS w)],[e56b2 g]⟩:St)) (by kernel_rfl) ?_
    refine awl_inlr [.t 4] [30100] [.agg [.pI g.1,.pI g.2.1,.pI g.2.2.1,.p (.sl tR) g.2.2.2],.c (.pS w)] [] rfl rfl (by kernel_rfl) rfl (by kernel_rfl) Try.call67 (by kernel_rfl) (by kernel_rfl) Try.func67 rfl rfl (by kernel_rfl) ?_
    refine aw_conv [] (st':=(⟨10,[e56b10 g,e56b7 w,s1 11 (.pS w),sp 12 30100,sA 29 [.pI g.1,.pI g.2.1,.pI g.2.2.1,.p (.sl tR) g.2.2.2],s1 30 (.pS w)],[e56b2 g]⟩:St)) (by kernel_rfl) ?_
    refine sr ?_
    refine rqT 2 ⟨10,[e56b7 w,sp 2 2,s1 11 (.pS w),sp 12 30100],[e56b1 g,e56b2 g]⟩ (by kernel_rfl) ?_
    refine nsr ?_
    refine rqT 6 ⟨10,[sp 4 9,s1 11 (.pS w),sp 12 30100],[e56b5,e56b3 g w,e56b2 g]⟩ (by kernel_rfl) ?_
    refine nn ?_
    refine aw_ret ?_
    refine inlR_r (ob:=True) (.v (.c (.ptr 9 0))) (by kernel_rfl) trivial rfl ?_
    refine lpr (st':=(⟨36,[e56b7 w,sp 2 30100,sp 21 9],[e56b5,e56b3 g w,e56b2 g]⟩:St)) (by kernel_rfl) ?_
    refine rqT 1 ⟨36,[e56b7 w,sp 2 30100,sp 8 9],[e56b5,e56b3 g w,e56b2 g]⟩ (by kernel_rfl) ?_
    refine nsr ?_
    obtain ⟨o1,h⟩:=h
    refine rq 9 (ob:=(Ts 5 (InR (g.1+g.2.2.1)∧Ts 3 True))) (st':=(⟨36,[sp 8 9,sp 22 9,sI 27 (g.1+g.2.2.1),e56b11 w],[e56b5,e56b3 g w]⟩:St)) (by kernel_rfl) (tsI 5 ⟨o1,tsI 3 trivial⟩) ?_
    refine awl_conv [.ren 9 70000,.ren 7 70001] (st':=(⟨36,[sp 8 70000,sp 22 70000,sI 27 (g.1+g.2.2.1),e56b11 w],[e56b6,e56b0 g w]⟩:St)) (by kernel_rfl) ?_
    refine awl_lcall (σ:=Int×LK) [70000,70001] [70000] [.c (.ptr 70000 0),.c (.pI (g.1+g.2.2.1)),.agg [.pI (0:Int),.pI (w.length:Int)]] [] (fun ret31v=>.v (.c (.pI ret31v.1))) (fun ret31v=>[e56b0 g w,e56b4 ret31v]) (_) [e56b0 g w,e56b6] (fun ret31v=>(⟨36,[sI 31 ret31v.1,sp 8 70000,sp 22 70000,sI 27 (g.1+g.2.2.1),e56b11 w],[e56b0 g w,e56b4 ret31v]⟩:St)) rfl rfl (by kernel_rfl) rfl (by kernel_rfl) Try.call68 (by kernel_rfl) (by kernel_rfl) (by kernel_rfl) (fun _ _=>rfl) (fun _=>by kernel_rfl) (linkcr68 g.1 g.2.1 g.2.2.1 g.2.2.2 w (g.1+g.2.2.1) (0:Int) (w.length:Int) ([]:List ((Int×(Int×(Int×Int)))×Int)) _ h) (fun ret31v h=>?_)
    refine lpr (st':=(⟨36,[sp 8 70000,sI 31 ret31v.1],[e56b0 g w,e56b4 ret31v]⟩:St)) (by kernel_rfl) ?_
    refine rqT 1 ⟨36,[sp 8 70000,sI 9 ret31v.1],[e56b0 g w,e56b4 ret31v]⟩ (by kernel_rfl) ?_
    refine nn ?_
    refine aw_seq ?_
    refine srn 2 ⟨36,[sp 8 70000,sI 9 ret31v.1,sB 33 (decide ((1099511627776:Int)<ret31v.1))],[e56b0 g w,e56b4 ret31v]⟩ (by kernel_rfl) rfl ?_
    refine aw_cond (b:=(decide ((1099511627776:Int)<ret31v.1))) (by kernel_rfl) (fun hb=>?_) (fun hb=>?_)
    ·have h:=h.1 hb
     refine srn 3 ⟨36,[s1 4 (.any),sI 5 (0:Int),sI 6 (1:Int)],[]⟩ (by kernel_rfl) rfl ?_
     refine aw_ret ?_
     refine thenQ_r ?_
     exact rest1 (1:Int) h
    ·have h:=h.2 hb
     refine aw_skip ?_
     refine thenQ_n ?_
     refine srn 5 ⟨36,[sp 4 70000,sI 5 ret31v.1,sI 6 (0:Int)],[e56b0 g w,e56b4 ret31v]⟩ (by kernel_rfl) rfl ?_
     refine aw_ret ?_
     refine inlR_r (ob:=(True∧True∧True∧True)) (.tup [.c (.ptr 70000 0),.c (.pI ret31v.1),.c (.pI (0:Int))]) (by kernel_rfl) ⟨trivial,trivial,trivial,trivial⟩ rfl ?_
     refine lpr (st':=(⟨18,[(12,[],.tup [.c (.ptr 70000 0),.c (.pI ret31v.1),.c (.pI (0:Int))])],[e56b0 g w,e56b4 ret31v]⟩:St)) (by kernel_rfl) ?_
     refine rqT 7 ⟨18,[sI 7 ret31v.1,sI 8 (0:Int)],[]⟩ (by kernel_rfl) ?_
     refine nsr ?_
     refine rqT 4 ⟨18,[sI 4 ret31v.1,sI 5 (0:Int)],[]⟩ (by kernel_rfl) ?_
     refine nn ?_
     refine aw_ret ?_
     exact retQ_r (ob:=Ts 2 True) _ (by kernel_rfl) (tsI 2 trivial) h
abbrev e70_0 (out:(List (Int×Int))) (fromv2:Int) (ends:LI) (v10:Int):Nat×Path×Con:=hA 19 110 (.pr tI tI) (out++[(fromv2,(ends.getD (v10).toNat (0:Int)))])
abbrev e70_1 (ends:LI):Nat×Path×AV:=sI 9 (ends.length:Int)
abbrev e70_2 (out:(List (Int×Int))):Nat×Path×Con:=hA 5005 110 (.pr tI tI) out
abbrev e70_3:Nat×Path×AV:=s1 5 (.own 5005)
-- coppicer/pick.ranges
def VC70_k1 (K:(List (Int×Int))→Prop) (out:(List (Int×Int))):Prop :=
  K out
def VC70_l1 (ends:LI) (K:(List (Int×Int))→Prop) (fromv2:Int) (v10:Int) (out:(List (Int×Int))) (X1:Int×Int×(List (Int×Int))→Prop):Prop :=
  (((decide (v10<(ends.length:Int)))=true→(inIdx v10 ends.length∧(roomW 16 (out.length+[(fromv2,(ends.getD (v10).toNat (0:Int)))].length)∧(InR (v10+(1:Int))∧X1 ((ends.getD (v10).toNat (0:Int)),(v10+(1:Int)),(out++[(fromv2,(ends.getD (v10).toNat (0:Int)))]))))))∧((decide (v10<(ends.length:Int)))=false→VC70_k1 K out))
def VC70 (fromv:Int) (ends:LI) (K:(List (Int×Int))→Prop):Prop :=
  Loop (σ:=Int×Int×(List (Int×Int))) (fun s X=>VC70_l1 ends K s.1 s.2.1 s.2.2 X) (fromv,(0:Int),([]:List (Int×Int)))
set_option maxHeartbeats 4000000 in
theorem link70 (fromv:Int) (ends:LI) (K:(List (Int×Int))→Prop) (h:VC70 fromv ends K):ACalls Try.prog 70 [toV1 tI fromv,toV1 (.sl tI) ends] (fun res=>∃ y,res=(fun y=>[toV1 (.sl (.pr tI tI)) y]) y∧K y):=by
 refine acalls_of_aw [(.sl (.pr tI tI))] [.t 4] Try.func70 rfl rfl rfl ?_
 unfold VC70 at h
 refine sr ?_
 refine rqT 1 ⟨23,[sI 0 fromv,s1 1 (.pS ends)],[]⟩ (by kernel_rfl) ?_
 refine nsr ?_
 refine rqT 1 ⟨23,[sI 0 fromv,s1 1 (.pS ends),s1 5 (.nils)],[]⟩ (by kernel_rfl) ?_
 refine nn ?_
 refine aw_seq ?_
 refine srn 3 ⟨23,[sI 0 fromv,s1 5 (.nils),s1 8 (.pS ends),e70_1 ends,sI 10 (0:Int)],[]⟩ (by kernel_rfl) rfl ?_
 refine withJoin (σ:=(List (Int×Int))) (fun s=>(⟨23,[e70_3],[hA 5005 110 (.pr tI tI) s]⟩:St)) (fun s=>VC70_k1 K s) (fun out h=>?_) (fun rest1=>?_)
 ·have h:VC70_k1 K out:=h
  unfold VC70_k1 at h
  refine thenQ_n ?_
  refine srn 2 ⟨23,[s1 4 (.own 5005)],[e70_2 out]⟩ (by kernel_rfl) rfl ?_
  refine aw_conv [.freeze 5005] (st':=(⟨23,[s1 4 (.p (.sl (.pr tI tI)) out)],[]⟩:St)) (by kernel_rfl) ?_
  refine aw_ret ?_
  exact retQ_r (ob:=Ts 1 True) _ (by kernel_rfl) (tsI 1 trivial) h
 ·refine aw_block ?_
  refine aw_conv [.nilOwn 5 5005 110 (.pr tI tI),.prune [0,5,8,9,10] [5005]] (st':=(⟨23,[sI 0 fromv,e70_3,s1 8 (.pS ends),e70_1 ends,sI 10 (0:Int)],[hA 5005 110 (.pr tI tI) ([]:List (Int×Int))]⟩:St)) (by kernel_rfl) ?_
  refine aw_loop (σ:=Int×Int×(List (Int×Int))) (fun s=>(⟨23,[sI 0 s.1,e70_3,s1 8 (.pS ends),e70_1 ends,sI 10 s.2.1],[hA 5005 110 (.pr tI tI) s.2.2]⟩:St)) (fun s X=>VC70_l1 ends K s.1 s.2.1 s.2.2 X) (s0:=(fromv,(0:Int),([]:List (Int×Int)))) (fun s X1 h=>?_) h
  obtain ⟨fromv2,v10,out⟩:=s
  have h:VC70_l1 ends K fromv2 v10 out X1:=h
  unfold VC70_l1 at h
  refine srn 1 ⟨23,[sI 0 fromv2,e70_3,s1 8 (.pS ends),e70_1 ends,sI 10 v10,sB 11 (decide (v10<(ends.length:Int)))],[e70_2 out]⟩ (by kernel_rfl) rfl ?_
  refine aw_seq ?_
  refine aw_cond (b:=(decide (v10<(ends.length:Int)))) (by kernel_rfl) (fun hb=>?_) (fun hb=>?_)
  ·have h:=h.1 hb
   refine aw_skip ?_
   refine thenQ_n ?_
   refine aw_seq ?_
   refine aw_block ?_
   refine sr ?_
   obtain ⟨o1,h⟩:=h
   refine rq 3 (ob:=(inIdx v10 ends.length∧Ts 2 True)) (st':=(⟨23,[sI 0 fromv2,e70_3,sI 7 (ends.getD (v10).toNat (0:Int)),s1 8 (.pS ends),e70_1 ends,sI 10 v10],[e70_2 out]⟩:St)) (by kernel_rfl) (⟨o1,tsI 2 trivial⟩) ?_
   refine nsr ?_
   obtain ⟨o1,h⟩:=h
   refine rq 7 (ob:=(Ts 5 (roomW 16 (out.length+[(fromv2,(ends.getD (v10).toNat (0:Int)))].length)∧Ts 1 True))) (st':=(⟨23,[s1 5 (.own 19),sI 7 (ends.getD (v10).toNat (0:Int)),s1 8 (.pS ends),e70_1 ends,sI 10 v10],[e70_0 out fromv2 ends v10]⟩:St)) (by kernel_rfl) (tsI 5 ⟨o1,tsI 1 trivial⟩) ?_
   refine nn ?_
   refine aw_region ?_
   refine rqT 2 ⟨23,[sI 0 (ends.getD (v10).toNat (0:Int)),s1 5 (.own 19),s1 8 (.pS ends),e70_1 ends,sI 10 v10],[e70_0 out fromv2 ends v10]⟩ (by kernel_rfl) ?_
   refine awl_nil ?_
   refine blockQ_n ?_
   refine thenQ_n ?_
   refine aw_region ?_
   obtain ⟨o1,h⟩:=h
   refine rq 2 (ob:=(InR (v10+(1:Int))∧Ts 1 True)) (st':=(⟨23,[sI 0 (ends.getD (v10).toNat (0:Int)),s1 5 (.own 19),s1 8 (.pS ends),e70_1 ends,sI 10 (v10+(1:Int))],[e70_0 out fromv2 ends v10]⟩:St)) (by kernel_rfl) (⟨o1,tsI 1 trivial⟩) ?_
   refine awl_conv [.ren 19 20019,.ren 20019 5005] (st':=(⟨23,[sI 0 (ends.getD (v10).toNat (0:Int)),e70_3,s1 8 (.pS ends),e70_1 ends,sI 10 (v10+(1:Int))],[hA 5005 110 (.pr tI tI) (out++[(fromv2,(ends.getD (v10).toNat (0:Int)))])]⟩:St)) (by kernel_rfl) ?_
   refine awl_nil ?_
   exact thenQ_n ⟨((ends.getD (v10).toNat (0:Int)),(v10+(1:Int)),(out++[(fromv2,(ends.getD (v10).toNat (0:Int)))])),rfl,h⟩
  ·have h:=h.2 hb
   refine cpr (st':=(⟨23,[e70_3],[e70_2 out]⟩:St)) (by kernel_rfl) ?_
   refine aw_exit ?_
   refine thenQ_x ?_
   refine thenQ_x ?_
   refine blockQ_hit ?_
   exact rest1 out h
abbrev e44_0 (c0:Int) (c1:Int) (c2:Int) (c3:LR) (c4:LI):Nat×Path×Con:=hB 70000 [.pI c0,.pI c1,.pI c2,.p (.sl tR) c3,.pS c4,.own 70001]
abbrev e44_1 (signs:(List (Int×Int))):Nat×Path×AV:=s1 2 (.p (.sl (.pr tI tI)) signs)
abbrev e44_2 (c5:LK):Nat×Path×Con:=(70001,[],.dict (.pr tI t3) tI c5)
abbrev e44_3 (ret24v:Int×LK):Nat×Path×Con:=(70001,[],.dict (.pr tI t3) tI ret24v.2)
abbrev e44_4 (l70001:LK):Nat×Path×Con:=(70001,[],.dict (.pr tI t3) tI l70001)
abbrev e44_5 (signs:(List (Int×Int))) (v12:Int):Nat×Path×AV:=sA 23 [.pI ((signs.getD (v12).toNat ((0:Int),(0:Int))).1),.pI ((signs.getD (v12).toNat ((0:Int),(0:Int))).2)]
abbrev e44_6 (c:LI):Nat×Path×AV:=sI 11 (c.length:Int)
abbrev e44_7:Nat×Path×AV:=sp 28 70000
abbrev e44_8:Nat×Path×AV:=sp 0 70000
abbrev e44_9 (c:LI):Nat×Path×AV:=s1 10 (.pS c)
-- coppicer/pick.many
def VCc71_k1 (K:Int×LK→Prop) (n:Int) (l70001:LK):Prop :=
  K (n,l70001)
def VCc71_l1 (c0:Int) (c1:Int) (c2:Int) (c3:LR) (c4:LI) (c:LI) (signs:(List (Int×Int))) (K:Int×LK→Prop) (n:Int) (v12:Int) (l70001:LK) (X1:Int×Int×LK→Prop):Prop :=
  (((decide (v12<(c.length:Int)))=true→(inIdx v12 c.length∧(inIdx v12 signs.length∧VCcr68 c0 c1 c2 c3 c4 (c.getD (v12).toNat (0:Int)) ((signs.getD (v12).toNat ((0:Int),(0:Int))).1) ((signs.getD (v12).toNat ((0:Int),(0:Int))).2) l70001 (fun (ret24v:Int×LK)=>VC86 n ret24v.1 (fun (ret25v:Int)=>(InR (v12+(1:Int))∧X1 (ret25v,(v12+(1:Int)),ret24v.2)))))))∧((decide (v12<(c.length:Int)))=false→VCc71_k1 K n l70001))
def VCc71 (c0:Int) (c1:Int) (c2:Int) (c3:LR) (c4:LI) (R:LI→(List (Int×Int))→LK→(Int×LK→Prop)→Prop) (c:LI) (signs:(List (Int×Int))) (c5:LK) (K:Int×LK→Prop):Prop :=
  Loop (σ:=Int×Int×LK) (fun s X=>VCc71_l1 c0 c1 c2 c3 c4 c signs K s.1 s.2.1 s.2.2 X) ((1:Int),(0:Int),c5)
set_option maxHeartbeats 4000000 in
theorem linkc71 (c0:Int) (c1:Int) (c2:Int) (c3:LR) (c4:LI) (R:LI→(List (Int×Int))→LK→(Int×LK→Prop)→Prop) (hR:∀ (c:LI) (signs:(List (Int×Int))) (c5:LK) (K:Int×LK→Prop),R c signs c5 K→LCalls Try.prog 71 [70000,70001] [70000] [e44_0 c0 c1 c2 c3 c4,e44_2 c5] [.c (.ptr 70000 0),.c (.pS c),.c (.p (.sl (.pr tI tI)) signs)] (fun av hp'=>∃ y:Int×LK,av=.v (.c (.pI y.1))∧hp'=[e44_0 c0 c1 c2 c3 c4,(70001,[],.dict (.pr tI t3) tI y.2)]∧K y)) (c:LI) (signs:(List (Int×Int))) (c5:LK) (K:Int×LK→Prop) (h:VCc71 c0 c1 c2 c3 c4 R c signs c5 K):LCalls Try.prog 71 [70000,70001] [70000] [e44_0 c0 c1 c2 c3 c4,e44_2 c5] [.c (.ptr 70000 0),.c (.pS c),.c (.p (.sl (.pr tI tI)) signs)] (fun av hp'=>∃ y:Int×LK,av=.v (.c (.pI y.1))∧hp'=[e44_0 c0 c1 c2 c3 c4,(70001,[],.dict (.pr tI t3) tI y.2)]∧K y):=by
 refine lcalls_of_aw [70000,70001] [70000] [.t 6] Try.func71 rfl rfl (by kernel_rfl) (by kernel_rfl) (by kernel_rfl) ?_
 refine aw_conv [] (st':=(⟨28,[e44_8,s1 1 (.pS c),e44_1 signs,e44_7],[e44_0 c0 c1 c2 c3 c4,e44_2 c5]⟩:St)) (by kernel_rfl) ?_
 unfold VCc71 at h
 refine sr ?_
 refine rqT 1 ⟨28,[e44_8,s1 1 (.pS c),e44_1 signs,e44_7],[e44_0 c0 c1 c2 c3 c4,e44_2 c5]⟩ (by kernel_rfl) ?_
 refine nsr ?_
 refine rqT 1 ⟨28,[e44_8,s1 1 (.pS c),e44_1 signs,sI 7 (1:Int),e44_7],[e44_0 c0 c1 c2 c3 c4,e44_2 c5]⟩ (by kernel_rfl) ?_
 refine nn ?_
 refine aw_seq ?_
 refine srn 3 ⟨28,[e44_8,e44_1 signs,sI 7 (1:Int),e44_9 c,e44_6 c,sI 12 (0:Int),e44_7],[e44_0 c0 c1 c2 c3 c4,e44_2 c5]⟩ (by kernel_rfl) rfl ?_
 refine withJoin (σ:=Int×LK) (fun s=>(⟨28,[sI 7 s.1,e44_7],[e44_0 c0 c1 c2 c3 c4,(70001,[],.dict (.pr tI t3) tI s.2)]⟩:St)) (fun s=>VCc71_k1 K s.1 s.2) (fun s h=>?_) (fun rest1=>?_)
 ·obtain ⟨n,l70001⟩:=s
  have h:VCc71_k1 K n l70001:=h
  unfold VCc71_k1 at h
  refine thenQ_n ?_
  refine srn 2 ⟨28,[sI 6 n,e44_7],[e44_0 c0 c1 c2 c3 c4,e44_4 l70001]⟩ (by kernel_rfl) rfl ?_
  refine aw_ret ?_
  exact lret_r (σ:=Int×LK) (A:=fun y=>.v (.c (.pI y.1))) (H:=fun y=>[e44_0 c0 c1 c2 c3 c4,(70001,[],.dict (.pr tI t3) tI y.2)]) (ob:=True) (n,l70001) (by kernel_rfl) trivial rfl (by kernel_rfl) (by kernel_rfl) (by kernel_rfl) h
 ·refine aw_block ?_
  refine aw_loop (σ:=Int×Int×LK) (fun s=>(⟨28,[e44_8,e44_1 signs,sI 7 s.1,e44_9 c,e44_6 c,sI 12 s.2.1,e44_7],[e44_0 c0 c1 c2 c3 c4,(70001,[],.dict (.pr tI t3) tI s.2.2)]⟩:St)) (fun s X=>VCc71_l1 c0 c1 c2 c3 c4 c signs K s.1 s.2.1 s.2.2 X) (s0:=((1:Int),(0:Int),c5)) (fun s X1 h=>?_) h
  obtain ⟨n,v12,l70001⟩:=s
  have h:VCc71_l1 c0 c1 c2 c3 c4 c signs K n v12 l70001 X1:=h
  unfold VCc71_l1 at h
  refine srn 1 ⟨28,[e44_8,e44_1 signs,sI 7 n,e44_9 c,e44_6 c,sI 12 v12,sB 13 (decide (v12<(c.length:Int))),e44_7],[e44_0 c0 c1 c2 c3 c4,e44_4 l70001]⟩ (by kernel_rfl) rfl ?_
  refine aw_seq ?_
  refine aw_cond (b:=(decide (v12<(c.length:Int)))) (by kernel_rfl) (fun hb=>?_) (fun hb=>?_)
  ·have h:=h.1 hb
   refine aw_skip ?_
   refine thenQ_n ?_
   refine aw_seq ?_
   refine aw_block ?_
   refine sr ?_
   obtain ⟨o1,h⟩:=h
   refine rq 5 (ob:=(Ts 1 (inIdx v12 c.length∧Ts 3 True))) (st':=(⟨28,[e44_8,e44_1 signs,sI 7 n,sI 8 v12,sI 9 (c.getD (v12).toNat (0:Int)),e44_9 c,e44_6 c,sI 12 v12,e44_7],[e44_0 c0 c1 c2 c3 c4,e44_4 l70001]⟩:St)) (by kernel_rfl) (tsI 1 ⟨o1,tsI 3 trivial⟩) ?_
   refine nn ?_
   refine aw_region ?_
   obtain ⟨o1,h⟩:=h
   refine rq 7 (ob:=(Ts 5 (inIdx v12 signs.length∧Ts 1 True))) (st':=(⟨28,[e44_8,e44_1 signs,e44_9 c,e44_6 c,sI 12 v12,sI 17 n,sp 18 70000,sI 19 (c.getD (v12).toNat (0:Int)),e44_5 signs v12,e44_7],[e44_0 c0 c1 c2 c3 c4,e44_4 l70001]⟩:St)) (by kernel_rfl) (tsI 5 ⟨o1,tsI 1 trivial⟩) ?_
   refine awl_lcall (σ:=Int×LK) [70000,70001] [70000] [.c (.ptr 70000 0),.c (.pI (c.getD (v12).toNat (0:Int))),.agg [.pI ((signs.getD (v12).toNat ((0:Int),(0:Int))).1),.pI ((signs.getD (v12).toNat ((0:Int),(0:Int))).2)]] [] (fun ret24v=>.v (.c (.pI ret24v.1))) (fun ret24v=>[e44_0 c0 c1 c2 c3 c4,e44_3 ret24v]) (_) [e44_0 c0 c1 c2 c3 c4,e44_4 l70001] (fun ret24v=>(⟨28,[sI 24 ret24v.1,e44_8,e44_1 signs,e44_9 c,e44_6 c,sI 12 v12,sI 17 n,sp 18 70000,sI 19 (c.getD (v12).toNat (0:Int)),e44_5 signs v12,e44_7],[e44_0 c0 c1 c2 c3 c4,e44_3 ret24v]⟩:St)) rfl rfl (by kernel_rfl) rfl (by kernel_rfl) Try.call68 (by kernel_rfl) (by kernel_rfl) (by kernel_rfl) (fun _ _=>rfl) (fun _=>by kernel_rfl) (linkcr68 c0 c1 c2 c3 c4 (c.getD (v12).toNat (0:Int)) ((signs.getD (v12).toNat ((0:Int),(0:Int))).1) ((signs.getD (v12).toNat ((0:Int),(0:Int))).2) l70001 _ h) (fun ret24v h=>?_)
   refine lpr (st':=(⟨28,[e44_8,e44_1 signs,e44_9 c,e44_6 c,sI 12 v12,sI 17 n,sI 24 ret24v.1,e44_7],[e44_0 c0 c1 c2 c3 c4,e44_3 ret24v]⟩:St)) (by kernel_rfl) ?_
   refine lcq (d:=25) [.d tI,.d tI] (fun ret25v=>(⟨28,[e44_8,e44_1 signs,e44_9 c,e44_6 c,sI 12 v12,sI 25 ret25v,e44_7],[e44_0 c0 c1 c2 c3 c4,e44_3 ret24v]⟩:St)) (by kernel_rfl) Try.call86 (fun _=>by kernel_rfl) (link86 n ret24v.1 _ h) (fun ret25v h=>?_)
   refine rqT 1 ⟨28,[e44_8,e44_1 signs,sI 7 ret25v,e44_9 c,e44_6 c,sI 12 v12,e44_7],[e44_0 c0 c1 c2 c3 c4,e44_3 ret24v]⟩ (by kernel_rfl) ?_
   refine awl_nil ?_
   refine blockQ_n ?_
   refine thenQ_n ?_
   refine aw_region ?_
   obtain ⟨o1,h⟩:=h
   refine rq 2 (ob:=(InR (v12+(1:Int))∧Ts 1 True)) (st':=(⟨28,[e44_8,e44_1 signs,sI 7 ret25v,e44_9 c,e44_6 c,sI 12 (v12+(1:Int)),e44_7],[e44_0 c0 c1 c2 c3 c4,e44_3 ret24v]⟩:St)) (by kernel_rfl) (⟨o1,tsI 1 trivial⟩) ?_
   refine awl_nil ?_
   exact thenQ_n ⟨(ret25v,(v12+(1:Int)),ret24v.2),rfl,h⟩
  ·have h:=h.2 hb
   refine cpr (st':=(⟨28,[sI 7 n,e44_7],[e44_0 c0 c1 c2 c3 c4,e44_4 l70001]⟩:St)) (by kernel_rfl) ?_
   refine aw_exit ?_
   refine thenQ_x ?_
   refine thenQ_x ?_
   refine blockQ_hit ?_
   exact rest1 (n,l70001) h
def VCc71_it (c0:Int) (c1:Int) (c2:Int) (c3:LR) (c4:LI):Nat→LI→(List (Int×Int))→LK→(Int×LK→Prop)→Prop
  | 0=>fun _ _ _ _=>False
  | n+1=>fun c signs c5 K=>VCc71 c0 c1 c2 c3 c4 (VCc71_it c0 c1 c2 c3 c4 n) c signs c5 K
def VCcr71 (c0:Int) (c1:Int) (c2:Int) (c3:LR) (c4:LI) (c:LI) (signs:(List (Int×Int))) (c5:LK) (K:Int×LK→Prop):Prop:=∃ n,VCc71_it c0 c1 c2 c3 c4 n c signs c5 K
theorem linkci71 (c0:Int) (c1:Int) (c2:Int) (c3:LR) (c4:LI):∀ (n:Nat) (c:LI) (signs:(List (Int×Int))) (c5:LK) (K:Int×LK→Prop),VCc71_it c0 c1 c2 c3 c4 n c signs c5 K→LCalls Try.prog 71 [70000,70001] [70000] [e44_0 c0 c1 c2 c3 c4,e44_2 c5] [.c (.ptr 70000 0),.c (.pS c),.c (.p (.sl (.pr tI tI)) signs)] (fun av hp'=>∃ y:Int×LK,av=.v (.c (.pI y.1))∧hp'=[e44_0 c0 c1 c2 c3 c4,(70001,[],.dict (.pr tI t3) tI y.2)]∧K y)
  | 0,_,_,_,_,h=>False.elim h
  | n+1,c,signs,c5,K,h=>linkc71 c0 c1 c2 c3 c4 (VCc71_it c0 c1 c2 c3 c4 n) (linkci71 c0 c1 c2 c3 c4 n) c signs c5 K h
theorem linkcr71 (c0:Int) (c1:Int) (c2:Int) (c3:LR) (c4:LI) (c:LI) (signs:(List (Int×Int))) (c5:LK) (K:Int×LK→Prop) (h:VCcr71 c0 c1 c2 c3 c4 c signs c5 K):LCalls Try.prog 71 [70000,70001] [70000] [e44_0 c0 c1 c2 c3 c4,e44_2 c5] [.c (.ptr 70000 0),.c (.pS c),.c (.p (.sl (.pr tI tI)) signs)] (fun av hp'=>∃ y:Int×LK,av=.v (.c (.pI y.1))∧hp'=[e44_0 c0 c1 c2 c3 c4,(70001,[],.dict (.pr tI t3) tI y.2)]∧K y):=by
  obtain ⟨n,h⟩:=h
  exact linkci71 c0 c1 c2 c3 c4 n c signs c5 K h
end Dec
