/-
Printed by dec2.py: of each function its plain demand, and that the demand gives the contract.
-/
import Derived.Test.YtckghdhnmpnljaaGenSb
set_option linter.unusedSimpArgs false
set_option linter.unusedVariables false
set_option maxRecDepth 100000
set_option maxHeartbeats 4000000
namespace Dec
open Go Go.RowKit Go.Proofs
abbrev e57_0 (m:Lqb):=hB 1 [.pI m.1,.pI m.2.1,.p (.sl (.sl tI)) m.2.2.1,.pI m.2.2.2.1,.pW m.2.2.2.2]
abbrev e57_1 (ret10v:Lqd):=s1 3 (.p (.mp (.pr tI tI) tI) ret10v)
abbrev e57_2 (m:Lqb):=sI 15 ((List.replicate (m.1).toNat (0:Int)).length:Int)
abbrev e57_3 (out:LI):=hA 13 3 tI out
abbrev e57_4:=s1 4 (.own 13)
-- coppicer/least.alike
def VC57_k1 (K:LI→Prop) (out:LI):Prop :=
  K out
def VC57_k2 (v16:Int) (X1:Int×LI→Prop) (out2:LI):Prop :=
  (InR (v16+(1:Int))∧X1 ((v16+(1:Int)),out2))
def VC57_l2 (m:Lqb) (ret10v:Lqd) (v16:Int) (out:LI) (X1:Int×LI→Prop) (v21:Int) (X2:Int→Prop):Prop :=
  (((decide (v21<m.1))=true→(((!(mget ret10v (v16,v21)).isSome)=true→(inIdx v16 out.length∧VC57_k2 v16 X1 (out.set ((v16).toNat) v21)))∧((!(mget ret10v (v16,v21)).isSome)=false→(InR (v21+(1:Int))∧X2 (v21+(1:Int))))))∧((decide (v21<m.1))=false→VC57_k2 v16 X1 out))
def VC57_l1 (m:Lqb) (K:LI→Prop) (ret10v:Lqd) (v16:Int) (out:LI) (X1:Int×LI→Prop):Prop :=
  (((decide (v16<((List.replicate (m.1).toNat (0:Int)).length:Int)))=true→Loop (σ:=Int) (fun s X=>VC57_l2 m ret10v v16 out X1 s X) (0:Int))∧((decide (v16<((List.replicate (m.1).toNat (0:Int)).length:Int)))=false→VC57_k1 K out))
def VC57 (m:Lqb) (K:LI→Prop):Prop :=
  VC92 m (fun (ret10v:Lqd)=>(room m.1∧Loop (σ:=Int×LI) (fun s X=>VC57_l1 m K ret10v s.1 s.2 X) ((0:Int),(List.replicate (m.1).toNat (0:Int)))))
theorem link57 (m:Lqb) (K:LI→Prop) (h:VC57 m K):ACalls Try.prog 57 [toV1 (.pr tI (.pr tI (.pr (.sl (.sl tI)) (.pr tI (.int .u32))))) m] (fun res=>∃ y,res=(fun y=>[toV1 (.sl tI) y]) y∧K y):=by
 refine acalls_of_aw [(.sl tI)] [.t 2] Try.func57 rfl rfl rfl ?_
 unfold VC57 at h
 refine sr (qT 2 ⟨41,[sp 1 1],[e57_0 m]⟩ (nsr (qT 1 ⟨41,[sp 1 1,sA 9 [.pI m.1,.pI m.2.1,.p (.sl (.sl tI)) m.2.2.1,.pI m.2.2.2.1,.pW m.2.2.2.2]],[e57_0 m]⟩ (qK 10 [.d (.pr tI (.pr tI (.pr (.sl (.sl tI)) (.pr tI (.int .u32)))))] (fun ret10v=>⟨41,[sp 1 1,s1 10 (.p (.mp (.pr tI tI) tI) ret10v)],[e57_0 m]⟩) Try.call92 (link92 m _ h) fun ret10v h=>?_))))
 refine qT 1 ⟨41,[sp 1 1,e57_1 ret10v],[e57_0 m]⟩ (nsr (qA 4 2 1 ⟨41,[sp 1 1,e57_1 ret10v,e57_4],[e57_0 m,hA 13 3 tI (List.replicate (m.1).toNat (0:Int))]⟩ h fun h=>nn (aw_seq (qS 3 ⟨41,[sp 1 1,e57_1 ret10v,e57_4,e57_2 m,sI 16 (0:Int)],[e57_0 m,hA 13 3 tI (List.replicate (m.1).toNat (0:Int))]⟩ (withJoin (σ:=LI) (fun s=>⟨41,[e57_4],[hA 13 3 tI s]⟩) (fun s=>VC57_k1 K s) (fun out h=>?_) (fun rest1=>?_))))))
 ·have h:VC57_k1 K out:=h
  unfold VC57_k1 at h
  exact thenQ_n (qS 2 ⟨41,[s1 2 (.own 13)],[e57_3 out]⟩ (qV [.freeze 13] ⟨41,[s1 2 (.pS out)],[]⟩ (aw_ret (qE 1 h))))
 ·refine aw_block (aw_loop (σ:=Int×LI) (fun s=>⟨41,[sp 1 1,e57_1 ret10v,e57_4,e57_2 m,sI 16 s.1],[e57_0 m,hA 13 3 tI s.2]⟩) (fun s X=>VC57_l1 m K ret10v s.1 s.2 X) (s0:=((0:Int),(List.replicate (m.1).toNat (0:Int)))) (fun s X1 h=>?_) h)
  obtain ⟨v16,out⟩:=s
  have h:VC57_l1 m K ret10v v16 out X1:=h
  unfold VC57_l1 at h
  refine qS 1 ⟨41,[sp 1 1,e57_1 ret10v,e57_4,e57_2 m,sI 16 v16,sB 17 (decide (v16<((List.replicate (m.1).toNat (0:Int)).length:Int)))],[e57_0 m,e57_3 out]⟩ (aw_seq (qI h (fun h=>?_) fun h=>?_))
  ·refine aw_skip (thenQ_n (aw_seq (aw_block (sr (qT 2 ⟨41,[sp 1 1,e57_1 ret10v,e57_4,sI 5 v16,e57_2 m,sI 16 v16],[e57_0 m,e57_3 out]⟩ (nsr (qT 3 ⟨41,[sp 1 1,e57_1 ret10v,e57_4,sI 5 v16,e57_2 m,sI 16 v16,sI 20 m.1,sI 21 (0:Int)],[e57_0 m,e57_3 out]⟩ (nn (withJoin (σ:=LI) (fun s=>⟨41,[sp 1 1,e57_1 ret10v,e57_4,e57_2 m,sI 16 v16],[e57_0 m,hA 13 3 tI s]⟩) (fun s=>VC57_k2 v16 X1 s) (fun out2 h=>?_) (fun rest2=>?_))))))))))
   ·have h:VC57_k2 v16 X1 out2:=h
    unfold VC57_k2 at h
    exact blockQ_n (thenQ_n (aw_region (qA 2 0 1 ⟨41,[sp 1 1,e57_1 ret10v,e57_4,e57_2 m,sI 16 (v16+(1:Int))],[e57_0 m,hA 13 3 tI out2]⟩ h fun h=>awl_nil (thenQ_n ⟨((v16+(1:Int)),out2),rfl,h⟩))))
   ·refine aw_block (aw_loop (σ:=Int) (fun s=>⟨41,[sp 1 1,e57_1 ret10v,e57_4,sI 5 v16,e57_2 m,sI 16 v16,sI 20 m.1,sI 21 s],[e57_0 m,e57_3 out]⟩) (fun s X=>VC57_l2 m ret10v v16 out X1 s X) (s0:=(0:Int)) (fun v21 X2 h=>?_) h)
    have h:VC57_l2 m ret10v v16 out X1 v21 X2:=h
    unfold VC57_l2 at h
    refine qS 1 ⟨41,[sp 1 1,e57_1 ret10v,e57_4,sI 5 v16,e57_2 m,sI 16 v16,sI 20 m.1,sI 21 v21,sB 22 (decide (v21<m.1))],[e57_0 m,e57_3 out]⟩ (aw_seq (qI h (fun h=>?_) fun h=>?_))
    ·refine aw_skip (thenQ_n (aw_seq (aw_block (sr (qT 2 ⟨41,[sp 1 1,e57_1 ret10v,e57_4,sI 5 v16,sI 6 v21,e57_2 m,sI 16 v16,sI 20 m.1,sI 21 v21],[e57_0 m,e57_3 out]⟩ (nsr (qT 10 ⟨41,[sp 1 1,e57_1 ret10v,e57_4,sI 5 v16,sI 6 v21,sB 8 ((mget ret10v (v16,v21)).isSome),e57_2 m,sI 16 v16,sI 20 m.1,sI 21 v21],[e57_0 m,e57_3 out]⟩ (nsr (qT 2 ⟨41,[sp 1 1,e57_1 ret10v,e57_4,sI 5 v16,sI 6 v21,e57_2 m,sI 16 v16,sI 20 m.1,sI 21 v21,sB 33 (!(mget ret10v (v16,v21)).isSome)],[e57_0 m,e57_3 out]⟩ (nn (qI h (fun h=>?_) fun h=>?_)))))))))))
     ·exact sr (qA 5 3 1 ⟨41,[sp 1 1,e57_1 ret10v,e57_4,e57_2 m,sI 16 v16],[e57_0 m,hA 13 3 tI (out.set ((v16).toNat) v21)]⟩ h fun h=>nn (aw_exit (blockQ_miss rfl (thenQ_x (thenQ_x (blockQ_hit (rest2 (out.set ((v16).toNat) v21) h)))))))
     ·exact aw_skip (blockQ_n (thenQ_n (aw_region (qA 2 0 1 ⟨41,[sp 1 1,e57_1 ret10v,e57_4,sI 5 v16,e57_2 m,sI 16 v16,sI 20 m.1,sI 21 (v21+(1:Int))],[e57_0 m,e57_3 out]⟩ h fun h=>awl_nil (thenQ_n ⟨(v21+(1:Int)),rfl,h⟩)))))
    ·exact qC ⟨41,[sp 1 1,e57_1 ret10v,e57_4,e57_2 m,sI 16 v16],[e57_0 m,e57_3 out]⟩ (aw_exit (thenQ_x (thenQ_x (blockQ_hit (rest2 out h)))))
  ·exact qC ⟨41,[e57_4],[e57_3 out]⟩ (aw_exit (thenQ_x (thenQ_x (blockQ_hit (rest1 out h)))))
abbrev e58_0 (sv:LI):=sI 7 (sv.length:Int)
-- slices.Index[[]int,int]
def VC58_k1 (K:Int→Prop):Prop :=
  K (-1:Int)
def VC58_l1 (sv:LI) (v:Int) (K:Int→Prop) (v8:Int) (X1:Int→Prop):Prop :=
  (((decide (v8<(sv.length:Int)))=true→(inIdx v8 sv.length∧(((decide (v=(sv.getD (v8).toNat (0:Int))))=true→K v8)∧((decide (v=(sv.getD (v8).toNat (0:Int))))=false→(InR (v8+(1:Int))∧X1 (v8+(1:Int)))))))∧((decide (v8<(sv.length:Int)))=false→VC58_k1 K))
def VC58 (sv:LI) (v:Int) (K:Int→Prop):Prop :=
  Loop (σ:=Int) (fun s X=>VC58_l1 sv v K s X) (0:Int)
theorem link58 (sv:LI) (v:Int) (K:Int→Prop) (h:VC58 sv v K):ACalls Try.prog 58 [toV1 (.sl tI) sv,toV1 tI v] (fun res=>∃ y,res=(fun y=>[toV1 tI y]) y∧K y):=by
 refine acalls_of_aw [tI] [.t 4] Try.func58 rfl rfl rfl ?_
 unfold VC58 at h
 refine qS 1 ⟨19,[s1 0 (.pS sv),sI 1 v],[]⟩ (aw_seq (qS 3 ⟨19,[s1 0 (.pS sv),sI 1 v,e58_0 sv,sI 8 (0:Int)],[]⟩ (withJoin (σ:=Unit) (fun s=>⟨19,[],[]⟩) (fun s=>VC58_k1 K) (fun s h=>?_) (fun rest1=>?_))))
 ·have h:VC58_k1 K:=h
  unfold VC58_k1 at h
  exact thenQ_n (qS 1 ⟨19,[sI 4 (-1:Int)],[]⟩ (aw_ret (qE 1 h)))
 ·refine aw_block (aw_loop (σ:=Int) (fun s=>⟨19,[s1 0 (.pS sv),sI 1 v,e58_0 sv,sI 8 s],[]⟩) (fun s X=>VC58_l1 sv v K s X) (s0:=(0:Int)) (fun v8 X1 h=>?_) h)
  have h:VC58_l1 sv v K v8 X1:=h
  unfold VC58_l1 at h
  refine qS 1 ⟨19,[s1 0 (.pS sv),sI 1 v,e58_0 sv,sI 8 v8,sB 9 (decide (v8<(sv.length:Int)))],[]⟩ (aw_seq (qI h (fun h=>?_) fun h=>?_))
  ·refine aw_skip (thenQ_n (aw_seq (aw_block (sr (qT 2 ⟨19,[s1 0 (.pS sv),sI 1 v,sI 5 v8,e58_0 sv,sI 8 v8],[]⟩ (nsr (qA 6 3 2 ⟨19,[s1 0 (.pS sv),sI 1 v,sI 5 v8,e58_0 sv,sI 8 v8,sB 16 (decide (v=(sv.getD (v8).toNat (0:Int))))],[]⟩ h fun h=>nn (qI h (fun h=>?_) fun h=>?_))))))))
   ·exact qS 2 ⟨19,[sI 4 v8],[]⟩ (aw_ret (blockQ_r (thenQ_r (thenQ_r (blockQ_r (thenQ_r (qE 1 h)))))))
   ·exact aw_skip (blockQ_n (thenQ_n (aw_region (qA 2 0 1 ⟨19,[s1 0 (.pS sv),sI 1 v,e58_0 sv,sI 8 (v8+(1:Int))],[]⟩ h fun h=>awl_nil (thenQ_n ⟨(v8+(1:Int)),rfl,h⟩)))))
  ·exact qC ⟨19,[],[]⟩ (aw_exit (thenQ_x (thenQ_x (blockQ_hit (rest1 () h)))))
abbrev e29_0 (m:Lqb):=hB 1 [.pI m.1,.pI m.2.1,.p (.sl (.sl tI)) m.2.2.1,.pI m.2.2.2.1,.pW m.2.2.2.2]
abbrev e29_1:=hB 2 [.pI (0:Int),.pI (0:Int),.nils,.pI (0:Int),.pW (0:Int)]
abbrev e29_2 (m:Lqb) (out:Int):=hB 7 [.pI (0:Int),.pI m.2.1,.own 6142,.pI (0:Int),.pW out]
abbrev e29_3 (l6142:LL):Nat×Path×Con:=(6142,[],.deep 26 3 (.sl tI) l6142 [])
abbrev e29_4 (m:Lqb):=sI 40 ((List.replicate (m.2.1).toNat (0:Int)).length:Int)
abbrev e29_5 (ret20v:LI) (m:Lqb) (found2:LI) (i v41:Int):=sI 11 (ret20v.getD (((m.2.2.1.getD ((found2.getD ((i).toNat) (0:Int))).toNat ([]:LI)).getD (v41).toNat (0:Int))).toNat (0:Int))
abbrev e29_6 (ret20v:LI):=s1 5 (.pS ret20v)
abbrev e29_7 (l6142:LL) (row:LI):Nat×Path×Con:=(78,[],.deep 26 3 (.sl tI) (l6142++[row]) [])
abbrev e29_8 (found2:LI):=hA 26 3 tI found2
abbrev e29_9:=s1 6 (.own 26)
abbrev e29_10 (m:Lqb) (out:Int):=hB 7 [.pI (0:Int),.pI m.2.1,.own 78,.pI (0:Int),.pW out]
abbrev e29_11 (ret20v:LI) (m:Lqb):=hA 26 3 tI [(ret20v.getD (m.2.2.2.1).toNat (0:Int))]
abbrev e29_12 (row:LI):=hA 38 3 tI row
abbrev e29_13:=s1 9 (.own 38)
abbrev e29_14:Nat×Path×Con:=(6142,[],.deep 26 3 (.sl tI) ([]:List LI) [])
-- coppicer/least.Least
def VC29_k1 (m:Lqb) (K:Lqb×Int→Prop) (out:Int) (found:LI) (l6142:LL):Prop :=
  K (((found.length:Int),(m.2.1,(l6142,((0:Int),out)))),(0:Int))
def VC29_k3 (i:Int) (l6142:LL) (X1:Int×Int×LI×LL→Prop) (found2 row:LI) (out2:Int):Prop :=
  (InR (i+(1:Int))∧X1 ((i+(1:Int)),out2,found2,(l6142++[row])))
def VC29_k2 (m:Lqb) (i out:Int) (l6142:LL) (X1:Int×Int×LI×LL→Prop) (found2 row:LI):Prop :=
  (roomN (l6142.length+[row].length)∧(inIdx i found2.length∧VC44 m.2.2.2.2 (found2.getD ((i).toNat) (0:Int)) (fun (ret86v:Bool)=>((ret86v=true→(0≤i∧VC29_k3 i l6142 X1 found2 row (bOr .u32 out (bShl .u32 (1:Int) i))))∧(ret86v=false→VC29_k3 i l6142 X1 found2 row out)))))
def VC29_k4 (v41:Int) (row:LI) (X2:Int×LI×LI→Prop) (n:Int) (found3:LI):Prop :=
  (inIdx v41 row.length∧(InR (v41+(1:Int))∧X2 ((v41+(1:Int)),found3,(row.set ((v41).toNat) n))))
def VC29_l2 (m:Lqb) (ret20v:LI) (i out:Int) (l6142:LL) (X1:Int×Int×LI×LL→Prop) (v41:Int) (found2 row:LI) (X2:Int×LI×LI→Prop):Prop :=
  (((decide (v41<((List.replicate (m.2.1).toNat (0:Int)).length:Int)))=true→(inIdx i found2.length∧inIdx (found2.getD ((i).toNat) (0:Int)) m.2.2.1.length∧inIdx v41 (m.2.2.1.getD ((found2.getD ((i).toNat) (0:Int))).toNat ([]:LI)).length∧inIdx ((m.2.2.1.getD ((found2.getD ((i).toNat) (0:Int))).toNat ([]:LI)).getD (v41).toNat (0:Int)) ret20v.length∧VC58 found2 (ret20v.getD (((m.2.2.1.getD ((found2.getD ((i).toNat) (0:Int))).toNat ([]:LI)).getD (v41).toNat (0:Int))).toNat (0:Int)) (fun (ret60v:Int)=>(((decide (ret60v<(0:Int)))=true→(roomN (found2.length+[(ret20v.getD (((m.2.2.1.getD ((found2.getD ((i).toNat) (0:Int))).toNat ([]:LI)).getD (v41).toNat (0:Int))).toNat (0:Int))].length)∧VC29_k4 v41 row X2 (found2.length:Int) (found2++[(ret20v.getD (((m.2.2.1.getD ((found2.getD ((i).toNat) (0:Int))).toNat ([]:LI)).getD (v41).toNat (0:Int))).toNat (0:Int))])))∧((decide (ret60v<(0:Int)))=false→VC29_k4 v41 row X2 ret60v found2)))))∧((decide (v41<((List.replicate (m.2.1).toNat (0:Int)).length:Int)))=false→VC29_k2 m i out l6142 X1 found2 row))
def VC29_l1 (m:Lqb) (K:Lqb×Int→Prop) (ret20v:LI) (i out:Int) (found:LI) (l6142:LL) (X1:Int×Int×LI×LL→Prop):Prop :=
  (((decide (i<(found.length:Int)))=true→(room m.2.1∧Loop (σ:=Int×LI×LI) (fun s X=>VC29_l2 m ret20v i out l6142 X1 s.1 s.2.1 s.2.2 X) ((0:Int),found,(List.replicate (m.2.1).toNat (0:Int)))))∧((decide (i<(found.length:Int)))=false→VC29_k1 m K out found l6142))
def VC29 (m:Lqb) (K:Lqb×Int→Prop):Prop :=
  VC43 m (fun (ret14v:Int)=>(((!decide (ret14v=(0:Int)))=true→K (((0:Int),((0:Int),(([]:LL),((0:Int),(0:Int))))),ret14v))∧((!decide (ret14v=(0:Int)))=false→VC57 m (fun (ret20v:LI)=>(inIdx m.2.2.2.1 ret20v.length∧Loop (σ:=Int×Int×LI×LL) (fun s X=>VC29_l1 m K ret20v s.1 s.2.1 s.2.2.1 s.2.2.2 X) ((0:Int),(0:Int),[(ret20v.getD (m.2.2.2.1).toNat (0:Int))],([]:List LI)))))))
abbrev ccx0 (ret20v:LI) (m:Lqb) (found2:LI) (i v41:Int):=ret20v.getD (((m.2.2.1.getD ((found2.getD ((i).toNat) (0:Int))).toNat ([]:LI)).getD (v41).toNat (0:Int))).toNat (0:Int)
theorem link29 (m:Lqb) (K:Lqb×Int→Prop) (h:VC29 m K):ACalls Try.prog 29 [toV1 (.pr tI (.pr tI (.pr (.sl (.sl tI)) (.pr tI (.int .u32))))) m] (fun res=>∃ y,res=(fun y=>[toV1 (.pr tI (.pr tI (.pr (.sl (.sl tI)) (.pr tI (.int .u32))))) y.1,toV1 tI y.2]) y∧K y):=by
 refine acalls_of_aw [(.pr tI (.pr tI (.pr (.sl (.sl tI)) (.pr tI (.int .u32))))),tI] [.c 2 41,.t 3] Try.func29 rfl rfl rfl ?_
 unfold VC29 at h
 refine qS 3 ⟨97,[sp 1 1,sp 2 2],[e29_0 m,e29_1]⟩ (aw_seq (sr (qT 1 ⟨97,[sp 1 1,sp 2 2,sA 13 [.pI m.1,.pI m.2.1,.p (.sl (.sl tI)) m.2.2.1,.pI m.2.2.2.1,.pW m.2.2.2.2]],[e29_0 m,e29_1]⟩ (qK 14 [.d (.pr tI (.pr tI (.pr (.sl (.sl tI)) (.pr tI (.int .u32)))))] (fun ret14v=>⟨97,[sp 1 1,sp 2 2,sI 14 ret14v],[e29_0 m,e29_1]⟩) Try.call43 (link43 m _ h) fun ret14v h=>?_))))
 refine qT 1 ⟨97,[sp 1 1,sp 2 2,sI 4 ret14v],[e29_0 m,e29_1]⟩ (nsr (qT 2 ⟨97,[sp 1 1,sp 2 2,sI 4 ret14v,sB 16 (!decide (ret14v=(0:Int)))],[e29_0 m,e29_1]⟩ (nn (qI h (fun h=>?_) fun h=>?_))))
 ·exact qS 4 ⟨97,[sp 2 2,sI 3 ret14v],[e29_1]⟩ (aw_ret (thenQ_r (qE 2 h)))
 ·refine aw_skip (thenQ_n (sr (qT 1 ⟨97,[sp 1 1,sp 2 2,sA 19 [.pI m.1,.pI m.2.1,.p (.sl (.sl tI)) m.2.2.1,.pI m.2.2.2.1,.pW m.2.2.2.2]],[e29_0 m,e29_1]⟩ (qK 20 [.d (.pr tI (.pr tI (.pr (.sl (.sl tI)) (.pr tI (.int .u32)))))] (fun ret20v=>⟨97,[sp 1 1,sp 2 2,s1 20 (.pS ret20v)],[e29_0 m,e29_1]⟩) Try.call57 (link57 m _ h) fun ret20v h=>?_))))
  refine qT 1 ⟨97,[sp 1 1,sp 2 2,e29_6 ret20v],[e29_0 m,e29_1]⟩ (nsr (qA 7 3 3 ⟨97,[sp 1 1,sp 2 2,e29_6 ret20v,e29_9],[e29_0 m,e29_1,e29_11 ret20v m]⟩ h fun h=>nsr (qT 5 ⟨97,[sp 1 1,sp 2 2,e29_6 ret20v,e29_9,sp 7 7],[e29_0 m,e29_1,hB 7 [.pI (0:Int),.pI m.2.1,.nils,.pI (0:Int),.pW (0:Int)],e29_11 ret20v m]⟩ (nn (aw_seq (qS 1 ⟨97,[sp 1 1,sp 2 2,e29_6 ret20v,e29_9,sp 7 7,sI 8 (0:Int)],[e29_0 m,e29_1,hB 7 [.pI (0:Int),.pI m.2.1,.nils,.pI (0:Int),.pW (0:Int)],e29_11 ret20v m]⟩ (withJoin (σ:=Int×LI×LL) (fun s=>⟨97,[sp 2 2,e29_9,sp 7 7],[e29_1,hB 7 [.pI (0:Int),.pI m.2.1,.own 6142,.pI (0:Int),.pW s.1],hA 26 3 tI s.2.1,(6142,[],.deep 26 3 (.sl tI) s.2.2 [])]⟩) (fun s=>VC29_k1 m K s.1 s.2.1 s.2.2) (fun s h=>?_) (fun rest1=>?_))))))))
  ·obtain ⟨out,found,l6142⟩:=s
   have h:VC29_k1 m K out found l6142:=h
   unfold VC29_k1 at h
   refine thenQ_n (sr (qT 4 ⟨97,[sp 2 2,sp 7 7],[e29_1,hB 7 [.pI (found.length:Int),.pI m.2.1,.own 6142,.pI (0:Int),.pW out],e29_3 l6142]⟩ (nsr (qT 3 ⟨97,[sp 2 2,sI 3 (0:Int)],[hB 2 [.pI (found.length:Int),.pI m.2.1,.own 6142,.pI (0:Int),.pW out],e29_3 l6142]⟩ (nn (cfd 6142 (ob:=True) (C:=[]) (st':=⟨97,[sp 2 2,sI 3 (0:Int)],[hB 2 [.pI (found.length:Int),.pI m.2.1,.p (.sl (.sl tI)) l6142,.pI (0:Int),.pW out]]⟩) (by kernel_rfl) trivial ?_))))))
   exact aw_ret (qE 2 h)
  ·refine aw_block (cnb 7 2 6142 26 3 (.sl tI) (ob:=True) (C:=[]) (st':=⟨97,[sp 1 1,sp 2 2,e29_6 ret20v,e29_9,sp 7 7,sI 8 (0:Int)],[e29_14,e29_0 m,e29_1,hB 7 [.pI (0:Int),.pI m.2.1,.own 6142,.pI (0:Int),.pW (0:Int)],e29_11 ret20v m]⟩) (by kernel_rfl) trivial ?_)
   refine qC ⟨97,[sp 1 1,sp 2 2,e29_6 ret20v,e29_9,sp 7 7,sI 8 (0:Int)],[e29_0 m,e29_1,hB 7 [.pI (0:Int),.pI m.2.1,.own 6142,.pI (0:Int),.pW (0:Int)],e29_11 ret20v m,e29_14]⟩ (aw_loop (σ:=Int×Int×LI×LL) (fun s=>⟨97,[sp 1 1,sp 2 2,e29_6 ret20v,e29_9,sp 7 7,sI 8 s.1],[e29_0 m,e29_1,hB 7 [.pI (0:Int),.pI m.2.1,.own 6142,.pI (0:Int),.pW s.2.1],hA 26 3 tI s.2.2.1,(6142,[],.deep 26 3 (.sl tI) s.2.2.2 [])]⟩) (fun s X=>VC29_l1 m K ret20v s.1 s.2.1 s.2.2.1 s.2.2.2 X) (s0:=((0:Int),(0:Int),[(ret20v.getD (m.2.2.2.1).toNat (0:Int))],([]:List LI))) (fun s X1 h=>?_) h)
   obtain ⟨i,out,found,l6142⟩:=s
   have h:VC29_l1 m K ret20v i out found l6142 X1:=h
   unfold VC29_l1 at h
   refine aw_seq (qS 4 ⟨97,[sp 1 1,sp 2 2,e29_6 ret20v,e29_9,sp 7 7,sI 8 i,sB 33 (decide (i<(found.length:Int)))],[e29_0 m,e29_1,e29_2 m out,hA 26 3 tI found,e29_3 l6142]⟩ (qI h (fun h=>?_) fun h=>?_))
   ·refine aw_skip (thenQ_n (aw_seq (aw_block (sr (qA 4 2 1 ⟨97,[sp 1 1,sp 2 2,e29_6 ret20v,e29_9,sp 7 7,sI 8 i,e29_13],[e29_0 m,e29_1,e29_2 m out,hA 26 3 tI found,hA 38 3 tI (List.replicate (m.2.1).toNat (0:Int)),e29_3 l6142]⟩ h fun h=>nn (aw_seq (qS 3 ⟨97,[sp 1 1,sp 2 2,e29_6 ret20v,e29_9,sp 7 7,sI 8 i,e29_13,e29_4 m,sI 41 (0:Int)],[e29_0 m,e29_1,e29_2 m out,hA 26 3 tI found,hA 38 3 tI (List.replicate (m.2.1).toNat (0:Int)),e29_3 l6142]⟩ (withJoin (σ:=LI×LI) (fun s=>⟨97,[sp 1 1,sp 2 2,e29_6 ret20v,e29_9,sp 7 7,sI 8 i,e29_13],[e29_0 m,e29_1,e29_2 m out,hA 26 3 tI s.1,hA 38 3 tI s.2,e29_3 l6142]⟩) (fun s=>VC29_k2 m i out l6142 X1 s.1 s.2) (fun s h=>?_) (fun rest3=>?_)))))))))
    ·obtain ⟨found2,row⟩:=s
     have h:VC29_k2 m i out l6142 X1 found2 row:=h
     refine thenQ_n (sr (qT 3 ⟨97,[sp 1 1,sp 2 2,e29_6 ret20v,e29_9,sp 7 7,sI 8 i,s1 75 (.own 6142),s1 76 (.own 38)],[e29_0 m,e29_1,e29_2 m out,e29_8 found2,e29_12 row,e29_3 l6142]⟩ (lmk 77 [38] (.deep 26 3 (.sl tI) [row] []) (ob:=True) rfl rfl (by kernel_rfl) (by kernel_rfl) trivial ?_)))
     refine qL ⟨97,[sp 1 1,sp 2 2,e29_6 ret20v,e29_9,sp 7 7,sI 8 i,s1 75 (.own 6142),s1 77 (.own 77)],[e29_0 m,e29_1,e29_2 m out,e29_8 found2,(77,[],.deep 26 3 (.sl tI) [row] []),e29_3 l6142]⟩ ?_
     obtain ⟨o1,h⟩:=h
     refine lmk 78 [6142,77] (.deep 26 3 (.sl tI) (l6142++[row]) []) (ob:=roomN (l6142.length+[row].length)) rfl rfl (by kernel_rfl) (by kernel_rfl) o1 ?_
     refine qL ⟨97,[sp 1 1,sp 2 2,e29_6 ret20v,e29_9,sp 7 7,sI 8 i,s1 78 (.own 78)],[e29_0 m,e29_1,hB 7 [.pI (0:Int),.pI m.2.1,.any,.pI (0:Int),.pW out],e29_8 found2,e29_7 l6142 row]⟩ (qT 2 ⟨97,[sp 1 1,sp 2 2,e29_6 ret20v,e29_9,sp 7 7,sI 8 i],[e29_0 m,e29_1,e29_10 m out,e29_8 found2,e29_7 l6142 row]⟩ (nn (aw_seq (awd_begin [] (by kernel_rfl) ?_))))
     obtain ⟨o1,h⟩:=h
     refine qDO 4 1 [0,1,2,3,4,5] [5,4,3,2,1,0] ⟨97,[sp 1 1,sp 2 2,e29_6 ret20v,e29_9,sp 7 7,sI 8 i,s1 81 (.pW m.2.2.2.2),sI 85 (found2.getD ((i).toNat) (0:Int))],[e29_0 m,e29_1,e29_10 m out,e29_8 found2,e29_7 l6142 row]⟩ o1 (awd_one (i:=6) (by kernel_rfl) ?_)
     refine dcq (d:=86) [.d (.int .u32),.d tI] (fun ret86v=>⟨97,[sp 1 1,sp 2 2,e29_6 ret20v,e29_9,sp 7 7,sI 8 i,sB 86 ret86v],[e29_0 m,e29_1,e29_10 m out,e29_8 found2,e29_7 l6142 row]⟩) rfl (by kernel_rfl) Try.call44 (fun _=>by kernel_rfl) (link44 m.2.2.2.2 (found2.getD ((i).toNat) (0:Int)) _ h) (fun ret86v h=>(awd_done (by kernel_rfl) ?_))
     refine thenQ_n (withJoin (σ:=Int) (fun s=>⟨97,[sp 1 1,sp 2 2,e29_6 ret20v,e29_9,sp 7 7,sI 8 i],[e29_0 m,e29_1,hB 7 [.pI (0:Int),.pI m.2.1,.own 78,.pI (0:Int),.pW s],e29_8 found2,e29_7 l6142 row]⟩) (fun s=>VC29_k3 i l6142 X1 found2 row s) (fun out2 h=>?_) (fun rest2=>?_))
     ·have h:VC29_k3 i l6142 X1 found2 row out2:=h
      unfold VC29_k3 at h
      exact blockQ_n (thenQ_n (aw_region (qA 3 1 1 ⟨97,[sp 1 1,sp 2 2,e29_6 ret20v,e29_9,sp 7 7,sI 8 (i+(1:Int))],[e29_0 m,e29_1,hB 7 [.pI (0:Int),.pI m.2.1,.own 78,.pI (0:Int),.pW out2],e29_8 found2,e29_7 l6142 row]⟩ h fun h=>qW [.ren 78 20078,.ren 20078 6142] ⟨97,[sp 1 1,sp 2 2,e29_6 ret20v,e29_9,sp 7 7,sI 8 (i+(1:Int))],[e29_0 m,e29_1,hB 7 [.pI (0:Int),.pI m.2.1,.own 6142,.pI (0:Int),.pW out2],e29_8 found2,(6142,[],.deep 26 3 (.sl tI) (l6142++[row]) [])]⟩ (awl_nil (thenQ_n ⟨((i+(1:Int)),out2,found2,(l6142++[row])),rfl,h⟩)))))
     ·refine qI h (fun h=>?_) fun h=>?_
      ·refine awd_begin [7] (by kernel_rfl) ?_
       obtain ⟨o1,h⟩:=h
       refine qDO 2 0 [0,2,3] [3,2,0] ⟨97,[sp 1 1,sp 2 2,e29_6 ret20v,e29_9,sp 7 7,sI 8 i,s1 87 (.ptr 7 4),s1 90 (.pW (bShl .u32 (1:Int) i))],[e29_0 m,e29_1,e29_10 m out,e29_8 found2,e29_7 l6142 row]⟩ o1 (awd_one (i:=1) (by kernel_rfl) ?_)
       refine dsq (ob:=True) (st':=⟨97,[sp 1 1,sp 2 2,e29_6 ret20v,e29_9,sp 7 7,sI 8 i,s1 88 (.pW out),s1 90 (.pW (bShl .u32 (1:Int) i))],[e29_0 m,e29_1,e29_10 m out,e29_8 found2,e29_7 l6142 row]⟩) rfl (by kernel_rfl) trivial ?_
       refine qDT 2 [4,5] [5,4,1,3,2,0] ⟨97,[sp 1 1,sp 2 2,e29_6 ret20v,e29_9,sp 7 7,sI 8 i,s1 91 (.pW (bOr .u32 out (bShl .u32 (1:Int) i))),s1 92 (.ptr 7 4)],[e29_0 m,e29_1,e29_10 m out,e29_8 found2,e29_7 l6142 row]⟩ (awd_one (i:=6) (by kernel_rfl) ?_)
       refine dsq (ob:=True) (st':=⟨97,[sp 1 1,sp 2 2,e29_6 ret20v,e29_9,sp 7 7,sI 8 i],[e29_0 m,e29_1,hB 7 [.pI (0:Int),.pI m.2.1,.own 78,.pI (0:Int),.pW (bOr .u32 out (bShl .u32 (1:Int) i))],e29_8 found2,e29_7 l6142 row]⟩) rfl (by kernel_rfl) trivial ?_
       refine awd_done (by kernel_rfl) ?_
       exact rest2 (bOr .u32 out (bShl .u32 (1:Int) i)) h
      ·exact qC ⟨97,[sp 1 1,sp 2 2,e29_6 ret20v,e29_9,sp 7 7,sI 8 i],[e29_0 m,e29_1,e29_10 m out,e29_8 found2,e29_7 l6142 row]⟩ (aw_skip (rest2 out h))
    ·refine aw_block (aw_loop (σ:=Int×LI×LI) (fun s=>⟨97,[sp 1 1,sp 2 2,e29_6 ret20v,e29_9,sp 7 7,sI 8 i,e29_13,e29_4 m,sI 41 s.1],[e29_0 m,e29_1,e29_2 m out,hA 26 3 tI s.2.1,hA 38 3 tI s.2.2,e29_3 l6142]⟩) (fun s X=>VC29_l2 m ret20v i out l6142 X1 s.1 s.2.1 s.2.2 X) (s0:=((0:Int),found,(List.replicate (m.2.1).toNat (0:Int)))) (fun s X2 h=>?_) h)
     obtain ⟨v41,found2,row⟩:=s
     have h:VC29_l2 m ret20v i out l6142 X1 v41 found2 row X2:=h
     unfold VC29_l2 at h
     refine qS 1 ⟨97,[sp 1 1,sp 2 2,e29_6 ret20v,e29_9,sp 7 7,sI 8 i,e29_13,e29_4 m,sI 41 v41,sB 42 (decide (v41<((List.replicate (m.2.1).toNat (0:Int)).length:Int)))],[e29_0 m,e29_1,e29_2 m out,e29_8 found2,e29_12 row,e29_3 l6142]⟩ (aw_seq (qI h (fun h=>?_) fun h=>?_))
     ·refine aw_skip (thenQ_n (aw_seq (aw_block (qS 2 ⟨97,[sp 1 1,sp 2 2,e29_6 ret20v,e29_9,sp 7 7,sI 8 i,e29_13,sI 10 v41,e29_4 m,sI 41 v41],[e29_0 m,e29_1,e29_2 m out,e29_8 found2,e29_12 row,e29_3 l6142]⟩ (aw_seq (awd_begin [] (by kernel_rfl) ?_))))))
      obtain ⟨o1,o2,o3,o4,h⟩:=h
      refine qD [0,1,2,3,4,5,6,7,8,9,10,11,12,13,14] [14,13,12,11,10,9,8,7,6,5,4,3,2,1,0] ⟨97,[sp 1 1,sp 2 2,e29_6 ret20v,e29_9,sp 7 7,sI 8 i,e29_13,sI 10 v41,e29_5 ret20v m found2 i v41,e29_4 m,sI 41 v41],[e29_0 m,e29_1,e29_2 m out,e29_8 found2,e29_12 row,e29_3 l6142]⟩ (ob:=Ts 5 (inIdx i found2.length∧Ts 1 (inIdx (found2.getD ((i).toNat) (0:Int)) m.2.2.1.length∧Ts 2 (inIdx v41 (m.2.2.1.getD ((found2.getD ((i).toNat) (0:Int))).toNat ([]:LI)).length∧Ts 1 (inIdx ((m.2.2.1.getD ((found2.getD ((i).toNat) (0:Int))).toNat ([]:LI)).getD (v41).toNat (0:Int)) ret20v.length∧Ts 2 True))))) (tsI 5 (⟨o1,tsI 1 (⟨o2,tsI 2 (⟨o3,tsI 1 ⟨o4,tsI 2 trivial⟩⟩)⟩)⟩)) ?_
      refine awd_done (by kernel_rfl) ?_
      refine thenQ_n (sr (qT 2 ⟨97,[sp 1 1,sp 2 2,e29_6 ret20v,e29_9,sp 7 7,sI 8 i,e29_13,sI 10 v41,e29_5 ret20v m found2 i v41,e29_4 m,sI 41 v41,s1 58 (.own 26),sI 59 (ccx0 ret20v m found2 i v41)],[e29_0 m,e29_1,e29_2 m out,e29_8 found2,e29_12 row,e29_3 l6142]⟩ (awl_callk (p:=[]) (l:=[toV1 (.sl tI) found2,toV1 tI (ccx0 ret20v m found2 i v41)]) (cl:=[]) true [.d (.sl tI),.d tI] [1,2,5,6,7,8,9,10,11,40,41,60] [1,2,7,26,38,6142] (fun (ret60v:Int)=>(((decide (ret60v<(0:Int)))=true→(roomN (found2.length+[(ccx0 ret20v m found2 i v41)].length)∧VC29_k4 v41 row X2 (found2.length:Int) (found2++[(ccx0 ret20v m found2 i v41)])))∧((decide (ret60v<(0:Int)))=false→VC29_k4 v41 row X2 ret60v found2))) (fun ret60v=>[toV1 tI ret60v]) (fun ret60v=>⟨97,[sp 1 1,sp 2 2,e29_6 ret20v,e29_9,sp 7 7,sI 8 i,e29_13,sI 10 v41,e29_5 ret20v m found2 i v41,e29_4 m,sI 41 v41,sI 60 ret60v],[e29_0 m,e29_1,e29_2 m out,e29_8 found2,e29_12 row,e29_3 l6142]⟩) (by kernel_rfl) rfl (by kernel_rfl) rfl (by kernel_rfl) Try.call58 (by kernel_rfl) (fun ret60v=>by kernel_rfl) (fun _ _=>rfl) (fun hg=>link58 found2 (ccx0 ret20v m found2 i v41) _ h) (fun hg=>noF hg) (fun ret60v h=>?_))))
      refine qT 1 ⟨97,[sp 1 1,sp 2 2,e29_6 ret20v,e29_9,sp 7 7,sI 8 i,e29_13,sI 10 v41,e29_5 ret20v m found2 i v41,sI 12 ret60v,e29_4 m,sI 41 v41],[e29_0 m,e29_1,e29_2 m out,e29_8 found2,e29_12 row,e29_3 l6142]⟩ (nn (aw_seq (qS 2 ⟨97,[sp 1 1,sp 2 2,e29_6 ret20v,e29_9,sp 7 7,sI 8 i,e29_13,sI 10 v41,e29_5 ret20v m found2 i v41,sI 12 ret60v,e29_4 m,sI 41 v41,sB 62 (decide (ret60v<(0:Int)))],[e29_0 m,e29_1,e29_2 m out,e29_8 found2,e29_12 row,e29_3 l6142]⟩ (withJoin (σ:=Int×LI) (fun s=>⟨97,[sp 1 1,sp 2 2,e29_6 ret20v,s1 6 (.own 68),sp 7 7,sI 8 i,e29_13,sI 10 v41,sI 12 s.1,e29_4 m,sI 41 v41],[e29_0 m,e29_1,e29_2 m out,e29_12 row,hA 68 3 tI s.2,e29_3 l6142]⟩) (fun s=>VC29_k4 v41 row X2 s.1 s.2) (fun s h=>?_) (fun rest4=>?_)))))
      ·obtain ⟨n,found3⟩:=s
       have h:VC29_k4 v41 row X2 n found3:=h
       unfold VC29_k4 at h
       exact thenQ_n (aw_region (qA 5 3 1 ⟨97,[sp 1 1,sp 2 2,e29_6 ret20v,s1 6 (.own 68),sp 7 7,sI 8 i,e29_13,e29_4 m,sI 41 v41],[e29_0 m,e29_1,e29_2 m out,hA 38 3 tI (row.set ((v41).toNat) n),hA 68 3 tI found3,e29_3 l6142]⟩ h fun h=>awl_nil (blockQ_n (thenQ_n (aw_region (qA 2 0 1 ⟨97,[sp 1 1,sp 2 2,e29_6 ret20v,s1 6 (.own 68),sp 7 7,sI 8 i,e29_13,e29_4 m,sI 41 (v41+(1:Int))],[e29_0 m,e29_1,e29_2 m out,hA 38 3 tI (row.set ((v41).toNat) n),hA 68 3 tI found3,e29_3 l6142]⟩ h fun h=>qW [.ren 68 20068,.ren 20068 26,.prune [1,2,5,6,7,8,9,40,41] [1,2,7,26,38,6142]] ⟨97,[sp 1 1,sp 2 2,e29_6 ret20v,e29_9,sp 7 7,sI 8 i,e29_13,e29_4 m,sI 41 (v41+(1:Int))],[e29_0 m,e29_1,e29_2 m out,hA 26 3 tI found3,hA 38 3 tI (row.set ((v41).toNat) n),e29_3 l6142]⟩ (awl_nil (thenQ_n ⟨((v41+(1:Int)),found3,(row.set ((v41).toNat) n)),rfl,h⟩))))))))
      ·refine qI h (fun h=>?_) fun h=>?_
       ·exact qS 3 ⟨97,[sp 1 1,sp 2 2,e29_6 ret20v,e29_9,sp 7 7,sI 8 i,e29_13,sI 10 v41,e29_5 ret20v m found2 i v41,sI 12 (found2.length:Int),e29_4 m,sI 41 v41],[e29_0 m,e29_1,e29_2 m out,e29_8 found2,e29_12 row,e29_3 l6142]⟩ (aw_region (qA 5 3 1 ⟨97,[sp 1 1,sp 2 2,e29_6 ret20v,s1 6 (.own 68),sp 7 7,sI 8 i,e29_13,sI 10 v41,sI 12 (found2.length:Int),e29_4 m,sI 41 v41],[e29_0 m,e29_1,e29_2 m out,e29_12 row,hA 68 3 tI (found2++[(ccx0 ret20v m found2 i v41)]),e29_3 l6142]⟩ h fun h=>awl_nil (rest4 ((found2.length:Int),(found2++[(ccx0 ret20v m found2 i v41)])) h)))
       ·exact qV [.prune [1,2,5,6,7,8,9,10,12,40,41] [1,2,7,26,38,6142],.ren 26 20026,.ren 20026 68,.prune [1,2,5,6,7,8,9,10,12,40,41] [1,2,7,38,68,6142]] ⟨97,[sp 1 1,sp 2 2,e29_6 ret20v,s1 6 (.own 68),sp 7 7,sI 8 i,e29_13,sI 10 v41,sI 12 ret60v,e29_4 m,sI 41 v41],[e29_0 m,e29_1,e29_2 m out,e29_12 row,hA 68 3 tI found2,e29_3 l6142]⟩ (aw_skip (rest4 (ret60v,found2) h))
     ·exact qC ⟨97,[sp 1 1,sp 2 2,e29_6 ret20v,e29_9,sp 7 7,sI 8 i,e29_13],[e29_0 m,e29_1,e29_2 m out,e29_8 found2,e29_12 row,e29_3 l6142]⟩ (aw_exit (thenQ_x (thenQ_x (blockQ_hit (rest3 (found2,row) h)))))
   ·exact qC ⟨97,[sp 2 2,e29_9,sp 7 7],[e29_1,e29_2 m out,hA 26 3 tI found,e29_3 l6142]⟩ (aw_exit (thenQ_x (thenQ_x (blockQ_hit (rest1 (out,found,l6142) h)))))
-- coppicer/coppicerref.Ints
def VC18_k1 (K:Bool→Prop):Prop :=
  K true
def VC18_l1 (a b:LI) (K:Bool→Prop) (i:Int) (X1:Int→Prop):Prop :=
  (((decide (i<(a.length:Int)))=true→(inIdx i a.length∧inIdx i b.length∧(((!decide ((a.getD (i).toNat (0:Int))=(b.getD (i).toNat (0:Int))))=true→K false)∧((!decide ((a.getD (i).toNat (0:Int))=(b.getD (i).toNat (0:Int))))=false→(InR (i+(1:Int))∧X1 (i+(1:Int)))))))∧((decide (i<(a.length:Int)))=false→VC18_k1 K))
def VC18 (a b:LI) (K:Bool→Prop):Prop :=
  (((!decide ((a.length:Int)=(b.length:Int)))=true→K false)∧((!decide ((a.length:Int)=(b.length:Int)))=false→Loop (σ:=Int) (fun s X=>VC18_l1 a b K s X) (0:Int)))
theorem link18 (a b:LI) (K:Bool→Prop) (h:VC18 a b K):ACalls Try.prog 18 [toV1 (.sl tI) a,toV1 (.sl tI) b] (fun res=>∃ y,res=(fun y=>[toV1 .bool y]) y∧K y):=by
 refine acalls_of_aw [.bool] [.t 4] Try.func18 rfl rfl rfl ?_
 unfold VC18 at h
 refine qS 1 ⟨26,[s1 0 (.pS a),s1 1 (.pS b)],[]⟩ (aw_seq (qS 5 ⟨26,[s1 0 (.pS a),s1 1 (.pS b),sB 10 (!decide ((a.length:Int)=(b.length:Int)))],[]⟩ (qI h (fun h=>?_) fun h=>?_)))
 ·exact qS 1 ⟨26,[sB 4 false],[]⟩ (aw_ret (thenQ_r (qE 1 h)))
 ·refine aw_skip (thenQ_n (aw_seq (qS 1 ⟨26,[s1 0 (.pS a),s1 1 (.pS b),sI 5 (0:Int)],[]⟩ (withJoin (σ:=Unit) (fun s=>⟨26,[],[]⟩) (fun s=>VC18_k1 K) (fun s h=>?_) (fun rest1=>?_)))))
  ·have h:VC18_k1 K:=h
   unfold VC18_k1 at h
   exact thenQ_n (qS 1 ⟨26,[sB 4 true],[]⟩ (aw_ret (qE 1 h)))
  ·refine aw_block (aw_loop (σ:=Int) (fun s=>⟨26,[s1 0 (.pS a),s1 1 (.pS b),sI 5 s],[]⟩) (fun s X=>VC18_l1 a b K s X) (s0:=(0:Int)) (fun i X1 h=>?_) h)
   have h:VC18_l1 a b K i X1:=h
   unfold VC18_l1 at h
   refine aw_seq (qS 4 ⟨26,[s1 0 (.pS a),s1 1 (.pS b),sI 5 i,sB 14 (decide (i<(a.length:Int)))],[]⟩ (qI h (fun h=>?_) fun h=>?_))
   ·refine aw_skip (thenQ_n (aw_seq (aw_block (aw_seq (awd_begin [] (by kernel_rfl) ?_)))))
    obtain ⟨o1,o2,h⟩:=h
    refine qD [0,1,2,3,4,5,6,7,8] [8,7,6,5,4,3,2,1,0] ⟨26,[s1 0 (.pS a),s1 1 (.pS b),sI 5 i,sB 25 (!decide ((a.getD (i).toNat (0:Int))=(b.getD (i).toNat (0:Int))))],[]⟩ (ob:=Ts 2 (inIdx i a.length∧Ts 3 (inIdx i b.length∧Ts 2 True))) (tsI 2 (⟨o1,tsI 3 ⟨o2,tsI 2 trivial⟩⟩)) ?_
    refine awd_done (by kernel_rfl) ?_
    refine thenQ_n (qI h (fun h=>?_) fun h=>?_)
    ·exact qS 1 ⟨26,[sB 4 false],[]⟩ (aw_ret (blockQ_r (thenQ_r (thenQ_r (blockQ_r (thenQ_r (qE 1 h)))))))
    ·exact aw_skip (blockQ_n (thenQ_n (aw_region (qA 3 1 1 ⟨26,[s1 0 (.pS a),s1 1 (.pS b),sI 5 (i+(1:Int))],[]⟩ h fun h=>awl_nil (thenQ_n ⟨(i+(1:Int)),rfl,h⟩)))))
   ·exact qC ⟨26,[],[]⟩ (aw_exit (thenQ_x (thenQ_x (blockQ_hit (rest1 () h)))))
abbrev e59_0 (a:LL):=s1 0 (.p (.sl (.sl tI)) a)
abbrev e59_1 (b:LL):=s1 1 (.p (.sl (.sl tI)) b)
-- coppicer/coppicerref.Lists
def VC59_k1 (K:Bool→Prop):Prop :=
  K true
def VC59_l1 (a b:LL) (K:Bool→Prop) (i:Int) (X1:Int→Prop):Prop :=
  (((decide (i<(a.length:Int)))=true→(inIdx i a.length∧inIdx i b.length∧VC18 (a.getD (i).toNat ([]:LI)) (b.getD (i).toNat ([]:LI)) (fun (ret25v:Bool)=>(((!ret25v)=true→K false)∧((!ret25v)=false→(InR (i+(1:Int))∧X1 (i+(1:Int))))))))∧((decide (i<(a.length:Int)))=false→VC59_k1 K))
def VC59 (a b:LL) (K:Bool→Prop):Prop :=
  (((!decide ((a.length:Int)=(b.length:Int)))=true→K false)∧((!decide ((a.length:Int)=(b.length:Int)))=false→Loop (σ:=Int) (fun s X=>VC59_l1 a b K s X) (0:Int)))
theorem link59 (a b:LL) (K:Bool→Prop) (h:VC59 a b K):ACalls Try.prog 59 [toV1 (.sl (.sl tI)) a,toV1 (.sl (.sl tI)) b] (fun res=>∃ y,res=(fun y=>[toV1 .bool y]) y∧K y):=by
 refine acalls_of_aw [.bool] [.t 4] Try.func59 rfl rfl rfl ?_
 unfold VC59 at h
 refine qS 1 ⟨27,[e59_0 a,e59_1 b],[]⟩ (aw_seq (qS 5 ⟨27,[e59_0 a,e59_1 b,sB 10 (!decide ((a.length:Int)=(b.length:Int)))],[]⟩ (qI h (fun h=>?_) fun h=>?_)))
 ·exact qS 1 ⟨27,[sB 4 false],[]⟩ (aw_ret (thenQ_r (qE 1 h)))
 ·refine aw_skip (thenQ_n (aw_seq (qS 1 ⟨27,[e59_0 a,e59_1 b,sI 5 (0:Int)],[]⟩ (withJoin (σ:=Unit) (fun s=>⟨27,[],[]⟩) (fun s=>VC59_k1 K) (fun s h=>?_) (fun rest1=>?_)))))
  ·have h:VC59_k1 K:=h
   unfold VC59_k1 at h
   exact thenQ_n (qS 1 ⟨27,[sB 4 true],[]⟩ (aw_ret (qE 1 h)))
  ·refine aw_block (aw_loop (σ:=Int) (fun s=>⟨27,[e59_0 a,e59_1 b,sI 5 s],[]⟩) (fun s X=>VC59_l1 a b K s X) (s0:=(0:Int)) (fun i X1 h=>?_) h)
   have h:VC59_l1 a b K i X1:=h
   unfold VC59_l1 at h
   refine aw_seq (qS 4 ⟨27,[e59_0 a,e59_1 b,sI 5 i,sB 14 (decide (i<(a.length:Int)))],[]⟩ (qI h (fun h=>?_) fun h=>?_))
   ·refine aw_skip (thenQ_n (aw_seq (aw_block (aw_seq (awd_begin [] (by kernel_rfl) ?_)))))
    obtain ⟨o1,o2,h⟩:=h
    refine qD [0,1,2,3,4,5,6,7] [7,6,5,4,3,2,1,0] ⟨27,[e59_0 a,e59_1 b,sI 5 i,s1 20 (.pS (a.getD (i).toNat ([]:LI))),s1 24 (.pS (b.getD (i).toNat ([]:LI)))],[]⟩ (ob:=Ts 2 (inIdx i a.length∧Ts 3 (inIdx i b.length∧Ts 1 True))) (tsI 2 (⟨o1,tsI 3 ⟨o2,tsI 1 trivial⟩⟩)) ?_
    refine awd_one (i:=8) (by kernel_rfl) ?_
    refine dcq (d:=25) [.d (.sl tI),.d (.sl tI)] (fun ret25v=>⟨27,[e59_0 a,e59_1 b,sI 5 i,sB 25 ret25v],[]⟩) rfl (by kernel_rfl) Try.call18 (fun _=>by kernel_rfl) (link18 (a.getD (i).toNat ([]:LI)) (b.getD (i).toNat ([]:LI)) _ h) (fun ret25v h=>(qDT 1 [9] [9,8,7,6,5,4,3,2,1,0] ⟨27,[e59_0 a,e59_1 b,sI 5 i,sB 26 (!ret25v)],[]⟩ (awd_done (by kernel_rfl) ?_)))
    refine thenQ_n (qI h (fun h=>?_) fun h=>?_)
    ·exact qS 1 ⟨27,[sB 4 false],[]⟩ (aw_ret (blockQ_r (thenQ_r (thenQ_r (blockQ_r (thenQ_r (qE 1 h)))))))
    ·exact aw_skip (blockQ_n (thenQ_n (aw_region (qA 3 1 1 ⟨27,[e59_0 a,e59_1 b,sI 5 (i+(1:Int))],[]⟩ h fun h=>awl_nil (thenQ_n ⟨(i+(1:Int)),rfl,h⟩)))))
   ·exact qC ⟨27,[],[]⟩ (aw_exit (thenQ_x (thenQ_x (blockQ_hit (rest1 () h)))))
-- coppicer/coppicerref.MachineSame
def VC30 (a b:Lqb) (K:Bool→Prop):Prop :=
  gcall (α:=Bool) ((((decide (a.1=b.1))&&(decide (a.2.1=b.2.1)))&&(decide (a.2.2.2.1=b.2.2.2.1)))&&(decide (a.2.2.2.2=b.2.2.2.2))) (VC59 a.2.2.1 b.2.2.1) false (fun (ret36v:Bool)=>K (((((decide (a.1=b.1))&&(decide (a.2.1=b.2.1)))&&(decide (a.2.2.2.1=b.2.2.2.1)))&&(decide (a.2.2.2.2=b.2.2.2.2)))&&ret36v))
abbrev cfx0 (a b:Lqb):=(((decide (a.1=b.1))&&(decide (a.2.1=b.2.1)))&&(decide (a.2.2.2.1=b.2.2.2.1)))&&(decide (a.2.2.2.2=b.2.2.2.2))
theorem link30 (a b:Lqb) (K:Bool→Prop) (h:VC30 a b K):ACalls Try.prog 30 [toV1 (.pr tI (.pr tI (.pr (.sl (.sl tI)) (.pr tI (.int .u32))))) a,toV1 (.pr tI (.pr tI (.pr (.sl (.sl tI)) (.pr tI (.int .u32))))) b] (fun res=>∃ y,res=(fun y=>[toV1 .bool y]) y∧K y):=by
 refine acalls_of_aw [.bool] [.t 4] Try.func30 rfl rfl rfl ?_
 unfold VC30 at h
 refine sr (qT 3 ⟨38,[sp 2 2,sp 3 3],[hB 2 [.pI a.1,.pI a.2.1,.p (.sl (.sl tI)) a.2.2.1,.pI a.2.2.2.1,.pW a.2.2.2.2],hB 3 [.pI b.1,.pI b.2.1,.p (.sl (.sl tI)) b.2.2.1,.pI b.2.2.2.1,.pW b.2.2.2.2]]⟩ (nsr (qR 31 ⟨38,[sB 31 (cfx0 a b),(33,[(31,true)],.v (.c (.p (.sl (.sl tI)) a.2.2.1))),(35,[(31,true)],.v (.c (.p (.sl (.sl tI)) b.2.2.1)))],[]⟩ (ob:=Ts 6 (Ti 5 ((decide (a.1=b.1))=true→True) (Ts 2 (Ti 5 (((decide (a.1=b.1))&&(decide (a.2.1=b.2.1)))=true→True) (Ts 2 (Ti 5 ((((decide (a.1=b.1))&&(decide (a.2.1=b.2.1)))&&(decide (a.2.2.2.1=b.2.2.2.1)))=true→True) (Ts 2 (Ti 4 ((cfx0 a b)=true→True) True)))))))) (tsI 6 (tiI 5 (fun _=>trivial) (tsI 2 (tiI 5 (fun _=>trivial) (tsI 2 (tiI 5 (fun _=>trivial) (tsI 2 (tiI 4 (fun _=>trivial) trivial)))))))) ?_)))
 refine awl_callk (p:=[(31,true)]) (l:=[toV1 (.sl (.sl tI)) a.2.2.1,toV1 (.sl (.sl tI)) b.2.2.1]) (cl:=[]) false [.d (.sl (.sl tI)),.d (.sl (.sl tI))] [31,36] [] (fun (ret36v:Bool)=>K ((cfx0 a b)&&ret36v)) (fun ret36v=>[toV1 .bool ret36v]) (fun ret36v=>⟨38,[sB 31 (cfx0 a b),(36,[(31,true)],.v (.c (.pB ret36v)))],[]⟩) (by kernel_rfl) rfl (by kernel_rfl) rfl (by kernel_rfl) Try.call59 (by kernel_rfl) (fun ret36v=>by kernel_rfl) (fun e=>by cases e) (fun hg=>link59 a.2.2.1 b.2.2.1 _ (by have:=gcall_T h (show (cfx0 a b)=true from hg);exact this)) (fun hg=>⟨false,by have:=gcall_F h (show (cfx0 a b)=false from hg);exact this⟩) (fun ret36v h=>?_)
 exact qT 2 ⟨38,[sB 4 ((cfx0 a b)&&ret36v)],[]⟩ (nn (aw_ret (qE 1 h)))
abbrev e105_0 (x yv:Int):=s1 4 (.pU (IntKind.wrap .u64 ((IntKind.wrap .u64 ((IntKind.wrap .u64 ((bShr .u64 x (32:Int))*(bShr .u64 yv (32:Int))))+(bShr .u64 (IntKind.wrap .u64 ((IntKind.wrap .u64 ((bShr .u64 x (32:Int))*(bAnd .u64 yv (4294967295:Int))))+(bShr .u64 (IntKind.wrap .u64 ((bAnd .u64 x (4294967295:Int))*(bAnd .u64 yv (4294967295:Int)))) (32:Int)))) (32:Int))))+(bShr .u64 (IntKind.wrap .u64 ((bAnd .u64 (IntKind.wrap .u64 ((IntKind.wrap .u64 ((bShr .u64 x (32:Int))*(bAnd .u64 yv (4294967295:Int))))+(bShr .u64 (IntKind.wrap .u64 ((bAnd .u64 x (4294967295:Int))*(bAnd .u64 yv (4294967295:Int)))) (32:Int)))) (4294967295:Int))+(IntKind.wrap .u64 ((bAnd .u64 x (4294967295:Int))*(bShr .u64 yv (32:Int)))))) (32:Int)))))
abbrev e105_1 (x yv:Int):=s1 12 (.pU (bAnd .u64 (IntKind.wrap .u64 ((IntKind.wrap .u64 ((bShr .u64 x (32:Int))*(bAnd .u64 yv (4294967295:Int))))+(bShr .u64 (IntKind.wrap .u64 ((bAnd .u64 x (4294967295:Int))*(bAnd .u64 yv (4294967295:Int)))) (32:Int)))) (4294967295:Int)))
abbrev e105_2 (x yv:Int):=s1 13 (.pU (bShr .u64 (IntKind.wrap .u64 ((IntKind.wrap .u64 ((bShr .u64 x (32:Int))*(bAnd .u64 yv (4294967295:Int))))+(bShr .u64 (IntKind.wrap .u64 ((bAnd .u64 x (4294967295:Int))*(bAnd .u64 yv (4294967295:Int)))) (32:Int)))) (32:Int)))
abbrev e105_3 (x yv:Int):=s1 11 (.pU (IntKind.wrap .u64 ((IntKind.wrap .u64 ((bShr .u64 x (32:Int))*(bAnd .u64 yv (4294967295:Int))))+(bShr .u64 (IntKind.wrap .u64 ((bAnd .u64 x (4294967295:Int))*(bAnd .u64 yv (4294967295:Int)))) (32:Int)))))
abbrev e105_4 (x:Int):=s1 6 (.pU (bAnd .u64 x (4294967295:Int)))
abbrev e105_5 (x:Int):=s1 7 (.pU (bShr .u64 x (32:Int)))
abbrev e105_6 (yv:Int):=s1 9 (.pU (bShr .u64 yv (32:Int)))
abbrev e105_7 (yv:Int):=s1 8 (.pU (bAnd .u64 yv (4294967295:Int)))
-- math/bits.Mul64
def VC105 (x yv:Int) (K:Int×Int→Prop):Prop :=
  ((0≤x∧0≤(32:Int))∧((0≤yv∧0≤(32:Int))∧((0≤(IntKind.wrap .u64 ((bAnd .u64 x (4294967295:Int))*(bAnd .u64 yv (4294967295:Int))))∧0≤(32:Int))∧((0≤(IntKind.wrap .u64 ((IntKind.wrap .u64 ((bShr .u64 x (32:Int))*(bAnd .u64 yv (4294967295:Int))))+(bShr .u64 (IntKind.wrap .u64 ((bAnd .u64 x (4294967295:Int))*(bAnd .u64 yv (4294967295:Int)))) (32:Int))))∧0≤(32:Int))∧((0≤(IntKind.wrap .u64 ((bAnd .u64 (IntKind.wrap .u64 ((IntKind.wrap .u64 ((bShr .u64 x (32:Int))*(bAnd .u64 yv (4294967295:Int))))+(bShr .u64 (IntKind.wrap .u64 ((bAnd .u64 x (4294967295:Int))*(bAnd .u64 yv (4294967295:Int)))) (32:Int)))) (4294967295:Int))+(IntKind.wrap .u64 ((bAnd .u64 x (4294967295:Int))*(bShr .u64 yv (32:Int))))))∧0≤(32:Int))∧K ((IntKind.wrap .u64 ((IntKind.wrap .u64 ((IntKind.wrap .u64 ((bShr .u64 x (32:Int))*(bShr .u64 yv (32:Int))))+(bShr .u64 (IntKind.wrap .u64 ((IntKind.wrap .u64 ((bShr .u64 x (32:Int))*(bAnd .u64 yv (4294967295:Int))))+(bShr .u64 (IntKind.wrap .u64 ((bAnd .u64 x (4294967295:Int))*(bAnd .u64 yv (4294967295:Int)))) (32:Int)))) (32:Int))))+(bShr .u64 (IntKind.wrap .u64 ((bAnd .u64 (IntKind.wrap .u64 ((IntKind.wrap .u64 ((bShr .u64 x (32:Int))*(bAnd .u64 yv (4294967295:Int))))+(bShr .u64 (IntKind.wrap .u64 ((bAnd .u64 x (4294967295:Int))*(bAnd .u64 yv (4294967295:Int)))) (32:Int)))) (4294967295:Int))+(IntKind.wrap .u64 ((bAnd .u64 x (4294967295:Int))*(bShr .u64 yv (32:Int)))))) (32:Int)))),(IntKind.wrap .u64 (x*yv))))))))
theorem link105 (x yv:Int) (K:Int×Int→Prop) (h:VC105 x yv K):ACalls Try.prog 105 [toV1 (.int .u64) x,toV1 (.int .u64) yv] (fun res=>∃ y,res=(fun y=>[toV1 (.int .u64) y.1,toV1 (.int .u64) y.2]) y∧K y):=by
 refine acalls_of_aw [(.int .u64),(.int .u64)] [.t 4,.t 5] Try.func105 rfl rfl rfl ?_
 unfold VC105 at h
 exact sr (qT 2 ⟨51,[s1 0 (.pU x),s1 1 (.pU yv)],[]⟩ (nsr (qT 3 ⟨51,[s1 0 (.pU x),s1 1 (.pU yv),e105_4 x],[]⟩ (nsr (qA 3 1 1 ⟨51,[s1 0 (.pU x),s1 1 (.pU yv),e105_4 x,e105_5 x],[]⟩ h fun h=>nsr (qT 3 ⟨51,[s1 0 (.pU x),s1 1 (.pU yv),e105_4 x,e105_5 x,e105_7 yv],[]⟩ (nsr (qA 3 1 1 ⟨51,[s1 0 (.pU x),s1 1 (.pU yv),e105_4 x,e105_5 x,e105_7 yv,e105_6 yv],[]⟩ h fun h=>nsr (qT 4 ⟨51,[s1 0 (.pU x),s1 1 (.pU yv),e105_4 x,e105_5 x,e105_7 yv,e105_6 yv,s1 10 (.pU (IntKind.wrap .u64 ((bAnd .u64 x (4294967295:Int))*(bAnd .u64 yv (4294967295:Int)))))],[]⟩ (nsr (qA 7 4 2 ⟨51,[s1 0 (.pU x),s1 1 (.pU yv),e105_4 x,e105_5 x,e105_6 yv,e105_3 x yv],[]⟩ h fun h=>nsr (qT 3 ⟨51,[s1 0 (.pU x),s1 1 (.pU yv),e105_4 x,e105_5 x,e105_6 yv,e105_3 x yv,e105_1 x yv],[]⟩ (nsr (qA 3 1 1 ⟨51,[s1 0 (.pU x),s1 1 (.pU yv),e105_4 x,e105_5 x,e105_6 yv,e105_1 x yv,e105_2 x yv],[]⟩ h fun h=>nsr (qT 6 ⟨51,[s1 0 (.pU x),s1 1 (.pU yv),e105_5 x,e105_6 yv,s1 12 (.pU (IntKind.wrap .u64 ((bAnd .u64 (IntKind.wrap .u64 ((IntKind.wrap .u64 ((bShr .u64 x (32:Int))*(bAnd .u64 yv (4294967295:Int))))+(bShr .u64 (IntKind.wrap .u64 ((bAnd .u64 x (4294967295:Int))*(bAnd .u64 yv (4294967295:Int)))) (32:Int)))) (4294967295:Int))+(IntKind.wrap .u64 ((bAnd .u64 x (4294967295:Int))*(bShr .u64 yv (32:Int))))))),e105_2 x yv],[]⟩ (nsr (qA 9 6 2 ⟨51,[s1 0 (.pU x),s1 1 (.pU yv),e105_0 x yv],[]⟩ h fun h=>nsr (qT 4 ⟨51,[e105_0 x yv,s1 5 (.pU (IntKind.wrap .u64 (x*yv)))],[]⟩ (nn (aw_ret (qE 2 h)))))))))))))))))))))
-- math/bits.Mul
def VC94 (x yv:Int) (K:Int×Int→Prop):Prop :=
  VC105 x yv (fun (ret25v:Int×Int)=>K (ret25v.1,ret25v.2))
theorem link94 (x yv:Int) (K:Int×Int→Prop) (h:VC94 x yv K):ACalls Try.prog 94 [toV1 (.int .u64) x,toV1 (.int .u64) yv] (fun res=>∃ y,res=(fun y=>[toV1 (.int .u64) y.1,toV1 (.int .u64) y.2]) y∧K y):=by
 refine acalls_of_aw [(.int .u64),(.int .u64)] [.t 4,.t 5] Try.func94 rfl rfl rfl ?_
 unfold VC94 at h
 refine qS 2 ⟨30,[s1 0 (.pU x),s1 1 (.pU yv)],[]⟩ (aw_seq (aw_cond (b:=false) (by kernel_rfl) (fun hb=>by cases hb) (fun _=>(aw_skip (thenQ_n (sr (qT 2 ⟨30,[s1 23 (.pU x),s1 24 (.pU yv)],[]⟩ (qK 25 [.d (.int .u64),.d (.int .u64)] (fun ret25v=>⟨30,[(25,[],.tup [.c (.pU ret25v.1),.c (.pU ret25v.2)])],[]⟩) Try.call105 (link105 x yv _ h) fun ret25v h=>?_))))))))
 exact qT 5 ⟨30,[s1 8 (.pU ret25v.1),s1 9 (.pU ret25v.2)],[]⟩ (nsr (qT 4 ⟨30,[s1 4 (.pU ret25v.1),s1 5 (.pU ret25v.2)],[]⟩ (nn (aw_ret (qE 2 h)))))
abbrev e66_0:=s1 7 (.own 30)
abbrev e66_1 (ret18v:Int×Int):=hA 30 3 tI (List.replicate ((IntKind.wrap .i64 ret18v.2)).toNat (0:Int))
-- slices.Repeat[[]int,int]
def VC66_k1 (K:LI→Prop) (newslice:LI):Prop :=
  K newslice
def VC66_l1 (K:LI→Prop) (n:Int) (newslice:LI) (X1:Int×LI→Prop):Prop :=
  (((decide (n<(newslice.length:Int)))=true→((0≤n∧n≤(newslice.length:Int))∧(0≤n∧n≤(newslice.length:Int))∧((0<(newslice.length-(n).toNat)∧(n).toNat+(newslice.length-(n).toNat)≤newslice.length)∧(InR (n+((min (newslice.length-(n).toNat) ((newslice.drop 0).take ((n).toNat)).length:Nat):Int))∧X1 ((n+((min (newslice.length-(n).toNat) ((newslice.drop 0).take ((n).toNat)).length:Nat):Int)),(copyL newslice ((newslice.drop 0).take ((n).toNat)) ((n).toNat) (newslice.length-(n).toNat)))))))∧((decide (n<(newslice.length:Int)))=false→VC66_k1 K newslice))
def VC66 (x:LI) (count:Int) (K:LI→Prop):Prop :=
  (((decide (count<(0:Int)))=true→False)∧((decide (count<(0:Int)))=false→VC94 (IntKind.wrap .u64 (x.length:Int)) (IntKind.wrap .u64 count) (fun (ret18v:Int×Int)=>((((decide ((0:Int)<ret18v.1))||(decide ((9223372036854775807:Int)<ret18v.2)))=true→False)∧(((decide ((0:Int)<ret18v.1))||(decide ((9223372036854775807:Int)<ret18v.2)))=false→(room (IntKind.wrap .i64 ret18v.2)∧((0<(List.replicate ((IntKind.wrap .i64 ret18v.2)).toNat (0:Int)).length∧0+(List.replicate ((IntKind.wrap .i64 ret18v.2)).toNat (0:Int)).length≤(List.replicate ((IntKind.wrap .i64 ret18v.2)).toNat (0:Int)).length)∧Loop (σ:=Int×LI) (fun s X=>VC66_l1 K s.1 s.2 X) (((min ((List.replicate ((IntKind.wrap .i64 ret18v.2)).toNat (0:Int)).length) x.length:Nat):Int),(copyL (List.replicate ((IntKind.wrap .i64 ret18v.2)).toNat (0:Int)) x 0 ((List.replicate ((IntKind.wrap .i64 ret18v.2)).toNat (0:Int)).length))))))))))
abbrev cix0 (newslice:LI) (n:Int):=(newslice.drop 0).take ((n).toNat)
abbrev cix1 (newslice:LI) (n:Int):=newslice.length-(n).toNat
theorem link66 (x:LI) (count:Int) (K:LI→Prop) (h:VC66 x count K):ACallsO Try.prog 66 [toV1 (.sl tI) x,toV1 tI count] 3 tI K:=by
 refine acallsO_of_aw 4 Try.func66 rfl rfl rfl ?_
 unfold VC66 at h
 refine qS 1 ⟨48,[s1 0 (.pS x),sI 1 count],[]⟩ (aw_seq (qS 2 ⟨48,[s1 0 (.pS x),sI 1 count,sB 10 (decide (count<(0:Int)))],[]⟩ (qI h (fun h=>?_) fun h=>?_)))
 ·exact aw_region h.elim
 ·refine aw_skip (thenQ_n (sr (qT 5 ⟨48,[s1 0 (.pS x),s1 15 (.pU (IntKind.wrap .u64 (x.length:Int))),s1 17 (.pU (IntKind.wrap .u64 count))],[]⟩ (qK 18 [.d (.int .u64),.d (.int .u64)] (fun ret18v=>⟨48,[s1 0 (.pS x),(18,[],.tup [.c (.pU ret18v.1),.c (.pU ret18v.2)])],[]⟩) Try.call94 (link94 (IntKind.wrap .u64 (x.length:Int)) (IntKind.wrap .u64 count) _ h) fun ret18v h=>?_))))
  refine qT 5 ⟨48,[s1 0 (.pS x),s1 5 (.pU ret18v.1),s1 6 (.pU ret18v.2)],[]⟩ (nn (aw_seq (sr (qR 6 ⟨48,[s1 0 (.pS x),s1 6 (.pU ret18v.2),sB 26 ((decide ((0:Int)<ret18v.1))||(decide ((9223372036854775807:Int)<ret18v.2)))],[]⟩ (ob:=Ts 3 (Ti 2 ((decide ((0:Int)<ret18v.1))=false→True) (Ts 1 True))) (tsI 3 (tiI 2 (fun _=>trivial) (tsI 1 trivial))) ?_))))
  refine nn (qI h (fun h=>?_) fun h=>?_)
  ·exact aw_region h.elim
  ·refine aw_skip (thenQ_n (sr (qA 4 2 1 ⟨48,[s1 0 (.pS x),e66_0],[e66_1 ret18v]⟩ h fun h=>nsr (qT 2 ⟨48,[e66_0,s1 31 (.own 30),s1 32 (.pS x)],[e66_1 ret18v]⟩ ?_))))
   obtain ⟨o1,h⟩:=h
   refine awl_copyv (X:=.v (.c (.own 30))) (Y:=.v (.c (.pS x))) (st':=⟨48,[sI 33 ((min ((List.replicate ((IntKind.wrap .i64 ret18v.2)).toNat (0:Int)).length) x.length:Nat):Int),e66_0,s1 31 (.own 30),s1 32 (.pS x)],[hA 30 3 tI (copyL (List.replicate ((IntKind.wrap .i64 ret18v.2)).toNat (0:Int)) x 0 ((List.replicate ((IntKind.wrap .i64 ret18v.2)).toNat (0:Int)).length))]⟩) 33 30 0 ((List.replicate ((IntKind.wrap .i64 ret18v.2)).toNat (0:Int)).length) 3 3 (List.replicate ((IntKind.wrap .i64 ret18v.2)).toNat (0:Int)) x rfl rfl (by kernel_rfl) rfl rfl rfl rfl (by kernel_rfl) (by kernel_rfl) (by kernel_rfl) (by kernel_rfl) (by kernel_rfl) (by kernel_rfl) (by kernel_rfl) o1 (by kernel_rfl) (qL ⟨48,[e66_0,sI 33 ((min ((List.replicate ((IntKind.wrap .i64 ret18v.2)).toNat (0:Int)).length) x.length:Nat):Int)],[hA 30 3 tI (copyL (List.replicate ((IntKind.wrap .i64 ret18v.2)).toNat (0:Int)) x 0 ((List.replicate ((IntKind.wrap .i64 ret18v.2)).toNat (0:Int)).length))]⟩ (qT 1 ⟨48,[e66_0,sI 8 ((min ((List.replicate ((IntKind.wrap .i64 ret18v.2)).toNat (0:Int)).length) x.length:Nat):Int)],[hA 30 3 tI (copyL (List.replicate ((IntKind.wrap .i64 ret18v.2)).toNat (0:Int)) x 0 ((List.replicate ((IntKind.wrap .i64 ret18v.2)).toNat (0:Int)).length))]⟩ (nn (aw_seq (withJoin (σ:=LI) (fun s=>⟨48,[e66_0],[hA 30 3 tI s]⟩) (fun s=>VC66_k1 K s) (fun newslice h=>?_) (fun rest1=>?_))))))
   ·have h:VC66_k1 K newslice:=h
    unfold VC66_k1 at h
    exact thenQ_n (qS 2 ⟨48,[s1 4 (.own 30)],[hA 30 3 tI newslice]⟩ (aw_ret (⟨30,_,by kernel_rfl,by kernel_rfl,h⟩)))
   ·refine aw_block (aw_loop (σ:=Int×LI) (fun s=>⟨48,[e66_0,sI 8 s.1],[hA 30 3 tI s.2]⟩) (fun s X=>VC66_l1 K s.1 s.2 X) (s0:=(((min ((List.replicate ((IntKind.wrap .i64 ret18v.2)).toNat (0:Int)).length) x.length:Nat):Int),(copyL (List.replicate ((IntKind.wrap .i64 ret18v.2)).toNat (0:Int)) x 0 ((List.replicate ((IntKind.wrap .i64 ret18v.2)).toNat (0:Int)).length)))) (fun s X1 h=>?_) h)
    obtain ⟨n,newslice⟩:=s
    have h:VC66_l1 K n newslice X1:=h
    unfold VC66_l1 at h
    refine aw_seq (qS 4 ⟨48,[e66_0,sI 8 n,sB 37 (decide (n<(newslice.length:Int)))],[hA 30 3 tI newslice]⟩ (qI h (fun h=>?_) fun h=>?_))
    ·refine aw_skip (thenQ_n (aw_block (awd_begin [30] (by kernel_rfl) ?_)))
     obtain ⟨o1,o2,h⟩:=h
     refine qD [0,1,2,3,4,5,6] [6,5,4,3,2,1,0] ⟨48,[e66_0,sI 8 n,sI 38 n,s1 41 (.vw 30 ((n).toNat) (cix1 newslice n) 1),s1 44 (.vw 30 0 ((n).toNat) 1)],[hA 30 3 tI newslice]⟩ (ob:=Ts 3 ((0≤n∧n≤(newslice.length:Int))∧Ts 2 ((0≤n∧n≤(newslice.length:Int))∧True))) (tsI 3 (⟨o1,tsI 2 ⟨o2,trivial⟩⟩)) ?_
     refine awd_one (i:=7) (by kernel_rfl) ?_
     obtain ⟨o1,h⟩:=h
     refine adop_copyv (X:=.v (.c (.vw 30 ((n).toNat) (cix1 newslice n) 1))) (Y:=.v (.c (.vw 30 0 ((n).toNat) 1))) (st':=⟨48,[sI 45 ((min (cix1 newslice n) (cix0 newslice n).length:Nat):Int),e66_0,sI 8 n,sI 38 n,s1 41 (.vw 30 ((n).toNat) (cix1 newslice n) 1),s1 44 (.vw 30 0 ((n).toNat) 1)],[hA 30 3 tI (copyL newslice (cix0 newslice n) ((n).toNat) (cix1 newslice n))]⟩) 45 30 ((n).toNat) (cix1 newslice n) 3 3 newslice (cix0 newslice n) rfl rfl rfl (by kernel_rfl) rfl rfl rfl rfl (by kernel_rfl) (by kernel_rfl) (by kernel_rfl) (by kernel_rfl) (by kernel_rfl) (by kernel_rfl) (by kernel_rfl) (by kernel_rfl) o1 (by kernel_rfl) (dpr (st':=⟨48,[e66_0,sI 8 n,sI 38 n,sI 45 ((min (cix1 newslice n) (cix0 newslice n).length:Nat):Int)],[hA 30 3 tI (copyL newslice (cix0 newslice n) ((n).toNat) (cix1 newslice n))]⟩) (by kernel_rfl) ?_)
     obtain ⟨o1,h⟩:=h
     refine qDO 0 1 [8,9] [9,8,7,6,5,4,3,2,1,0] ⟨48,[e66_0,sI 8 (n+((min (cix1 newslice n) (cix0 newslice n).length:Nat):Int))],[hA 30 3 tI (copyL newslice (cix0 newslice n) ((n).toNat) (cix1 newslice n))]⟩ o1 (awd_done (by kernel_rfl) ?_)
     exact blockQ_n (thenQ_n ⟨((n+((min (cix1 newslice n) (cix0 newslice n).length:Nat):Int)),(copyL newslice (cix0 newslice n) ((n).toNat) (cix1 newslice n))),rfl,h⟩)
    ·exact qC ⟨48,[e66_0],[hA 30 3 tI newslice]⟩ (aw_exit (thenQ_x (thenQ_x (blockQ_hit (rest1 newslice h)))))
abbrev e33_0 (c1:Lqa):Nat×Path×Con:=(70202,[],.dict t3 tI c1)
abbrev e33_1:=hB 70200 [.own 70201,.own 70202]
abbrev e33_2 (p n p2:Int):=hB 3 [.pI p,.pI n,.pI p2]
abbrev e33_3 (c0:LN):=sI 5 (c0.length:Int)
abbrev e33_4 (c0:LN):=hA 70201 50 t3 c0
abbrev e33_5:=sp 40 70200
abbrev e33_6:=hB 70200 [.own 30,.own 70202]
abbrev e33_7:=sp 0 70200
-- (*coppicer/solve.pool).add
def VCc65_k1 (K:Int×LN×Lqa→Prop) (i:Int) (l30:LN) (l70202:Lqa):Prop :=
  K (i,l30,l70202)
def VCc65 (R:Int→Int→Int→LN→Lqa→(Int×LN×Lqa→Prop)→Prop) (p n p2:Int) (c0:LN) (c1:Lqa) (K:Int×LN×Lqa→Prop):Prop :=
  (((!(mget c1 (p,(n,p2))).isSome)=true→(roomN (c0.length+[(p,(n,p2))].length)∧VCc65_k1 K (c0.length:Int) (c0++[(p,(n,p2))]) (mset c1 (p,(n,p2)) (c0.length:Int))))∧((!(mget c1 (p,(n,p2))).isSome)=false→VCc65_k1 K ((mget c1 (p,(n,p2))).getD (0:Int)) c0 c1))
abbrev cjx0:=Lqf×Int
theorem linkc65  (R:Int→Int→Int→LN→(List cjx0)→(Int×LN×(List cjx0)→Prop)→Prop) (hR:∀ (p n p2:Int) (c0:LN) (c1:(List cjx0)) (K:Int×LN×(List cjx0)→Prop),R p n p2 c0 c1 K→LCalls Try.prog 65 [70200,70201,70202] [70200] [e33_1,e33_4 c0,e33_0 c1] [.c (.ptr 70200 0),.agg [.pI p,.pI n,.pI p2]] (fun av hp'=>∃ y:Int×LN×(List cjx0),av=.v (.c (.pI y.1))∧hp'=[e33_1,hA 70201 50 t3 y.2.1,(70202,[],.dict t3 tI y.2.2)]∧K y)) (p n p2:Int) (c0:LN) (c1:(List cjx0)) (K:Int×LN×(List cjx0)→Prop) (h:VCc65 R p n p2 c0 c1 K):LCalls Try.prog 65 [70200,70201,70202] [70200] [e33_1,e33_4 c0,e33_0 c1] [.c (.ptr 70200 0),.agg [.pI p,.pI n,.pI p2]] (fun av hp'=>∃ y:Int×LN×(List cjx0),av=.v (.c (.pI y.1))∧hp'=[e33_1,hA 70201 50 t3 y.2.1,(70202,[],.dict t3 tI y.2.2)]∧K y):=by
 refine lcalls_of_aw [70200,70201,70202] [70200] [.t 4] Try.func65 rfl rfl (by kernel_rfl) (by kernel_rfl) (by kernel_rfl) ?_
 refine qV [] ⟨40,[e33_7,sA 1 [.pI p,.pI n,.pI p2],e33_5],[e33_1,e33_4 c0,e33_0 c1]⟩ ?_
 unfold VCc65 at h
 refine qS 2 ⟨40,[e33_7,sp 3 3,e33_5],[e33_2 p n p2,e33_1,e33_4 c0,e33_0 c1]⟩ (aw_seq (awd_begin [] (by kernel_rfl) ?_))
 refine qDT 11 [0,1,2,3,4,5,6,7,8,9,10] [10,9,8,7,6,5,4,3,2,1,0] ⟨40,[e33_7,sp 3 3,sI 5 ((mget c1 (p,(n,p2))).getD (0:Int)),sB 6 ((mget c1 (p,(n,p2))).isSome),e33_5],[e33_2 p n p2,e33_1,e33_4 c0,e33_0 c1]⟩ (awd_done (by kernel_rfl) ?_)
 refine thenQ_n (aw_seq (qS 2 ⟨40,[e33_7,sp 3 3,sI 5 ((mget c1 (p,(n,p2))).getD (0:Int)),sB 17 (!(mget c1 (p,(n,p2))).isSome),e33_5],[e33_2 p n p2,e33_1,e33_4 c0,e33_0 c1]⟩ (withJoin (σ:=Int×LN×(List cjx0)) (fun s=>⟨40,[sI 5 s.1,e33_5],[hA 30 50 t3 s.2.1,e33_6,(70202,[],.dict t3 tI s.2.2)]⟩) (fun s=>VCc65_k1 K s.1 s.2.1 s.2.2) (fun s h=>?_) (fun rest1=>?_))))
 ·obtain ⟨i,l30,l70202⟩:=s
  have h:VCc65_k1 K i l30 l70202:=h
  unfold VCc65_k1 at h
  exact thenQ_n (qS 2 ⟨40,[sI 4 i,e33_5],[hA 30 50 t3 l30,e33_6,(70202,[],.dict t3 tI l70202)]⟩ (qV [.ren 30 70201,.prune [4,40] [70200,70201,70202]] ⟨40,[sI 4 i,e33_5],[e33_1,hA 70201 50 t3 l30,(70202,[],.dict t3 tI l70202)]⟩ (aw_ret (lret_r (σ:=Int×LN×(List cjx0)) (A:=fun y=>.v (.c (.pI y.1))) (H:=fun y=>[e33_1,hA 70201 50 t3 y.2.1,(70202,[],.dict t3 tI y.2.2)]) (ob:=True) (i,l30,l70202) (by kernel_rfl) trivial rfl (by kernel_rfl) (by kernel_rfl) (by kernel_rfl) h))))
 ·refine qI h (fun h=>?_) fun h=>?_
  ·refine qS 6 ⟨40,[e33_7,sp 3 3,e33_3 c0,e33_5],[e33_2 p n p2,e33_1,e33_4 c0,e33_0 c1]⟩ (aw_seq (awd_begin [70200,70201] (by kernel_rfl) ?_))
   refine awd_memo ((roomN (c0.length+[(p,(n,p2))].length)∧VCc65_k1 K (c0.length:Int) (c0++[(p,(n,p2))]) (mset c1 (p,(n,p2)) (c0.length:Int)))) [6,4,5,3,2,1,0] (⟨40,[e33_7,sp 3 3,e33_3 c0,sp 23 70200,s1 27 (.own 70201),s1 29 (.own 29),e33_5],[e33_2 p n p2,hA 29 50 t3 [(p,(n,p2))],e33_1,e33_4 c0,e33_0 c1]⟩:St) (fun h=>?_) (fun m1=>?_)
   ·refine awd_one (i:=7) (by kernel_rfl) ?_
    obtain ⟨o1,h⟩:=h
    refine dsq (ob:=roomN (c0.length+[(p,(n,p2))].length)) (st':=⟨40,[e33_7,sp 3 3,e33_3 c0,sp 23 70200,s1 30 (.own 30),e33_5],[e33_2 p n p2,hA 30 50 t3 (c0++[(p,(n,p2))]),hB 70200 [.any,.own 70202],e33_0 c1]⟩) rfl (by kernel_rfl) o1 ?_
    refine qDT 2 [8,9] [9,8,7,6,4,5,3,2,1,0] ⟨40,[e33_7,sp 3 3,e33_3 c0,s1 30 (.own 30),sp 32 70200,e33_5],[e33_2 p n p2,hA 30 50 t3 (c0++[(p,(n,p2))]),hB 70200 [.any,.own 70202],e33_0 c1]⟩ (awd_one (i:=10) (by kernel_rfl) ?_)
    refine dsq (ob:=True) (st':=⟨40,[e33_7,sp 3 3,e33_3 c0,e33_5],[e33_2 p n p2,hA 30 50 t3 (c0++[(p,(n,p2))]),e33_6,e33_0 c1]⟩) rfl (by kernel_rfl) trivial ?_
    refine awd_done (by kernel_rfl) ?_
    refine thenQ_n (awd_begin [70202] (by kernel_rfl) ?_)
    refine qDT 6 [0,1,2,3,4,5] [5,4,3,2,1,0] ⟨40,[e33_3 c0,s1 36 (.own 70202),sA 37 [.pI p,.pI n,.pI p2],sI 38 (c0.length:Int),e33_5],[hA 30 50 t3 (c0++[(p,(n,p2))]),e33_6,e33_0 c1]⟩ (awd_one (i:=6) (by kernel_rfl) ?_)
    refine dsq (ob:=True) (st':=⟨40,[e33_3 c0,e33_5],[hA 30 50 t3 (c0++[(p,(n,p2))]),e33_6,(70202,[],.dict t3 tI (mset c1 (p,(n,p2)) (c0.length:Int)))]⟩) rfl (by kernel_rfl) trivial ?_
    refine awd_done (by kernel_rfl) ?_
    exact rest1 ((c0.length:Int),(c0++[(p,(n,p2))]),(mset c1 (p,(n,p2)) (c0.length:Int))) h
   ·refine qDT 5 [0,1,2,3,5] [5,3,2,1,0] ⟨40,[e33_7,sp 3 3,e33_3 c0,sp 23 70200,sp 26 70200,sA 28 [.pI p,.pI n,.pI p2],e33_5],[e33_2 p n p2,e33_1,e33_4 c0,e33_0 c1]⟩ (awd_two (i:=4) (j:=6) (by kernel_rfl) ?_ ?_)
    ·have h:=h
     refine dsq (ob:=True) (st':=⟨40,[e33_7,sp 3 3,e33_3 c0,sp 23 70200,s1 27 (.own 70201),sA 28 [.pI p,.pI n,.pI p2],e33_5],[e33_2 p n p2,e33_1,e33_4 c0,e33_0 c1]⟩) rfl (by kernel_rfl) trivial ?_
     refine awd_one (i:=6) (by kernel_rfl) ?_
     refine dsq (ob:=True) (st':=⟨40,[e33_7,sp 3 3,e33_3 c0,sp 23 70200,s1 27 (.own 70201),s1 29 (.own 29),e33_5],[e33_2 p n p2,hA 29 50 t3 [(p,(n,p2))],e33_1,e33_4 c0,e33_0 c1]⟩) rfl (by kernel_rfl) trivial ?_
     exact m1 h
    ·have h:=h
     refine dsq (ob:=True) (st':=⟨40,[e33_7,sp 3 3,e33_3 c0,sp 23 70200,sp 26 70200,s1 29 (.own 29),e33_5],[e33_2 p n p2,hA 29 50 t3 [(p,(n,p2))],e33_1,e33_4 c0,e33_0 c1]⟩) rfl (by kernel_rfl) trivial ?_
     refine awd_one (i:=4) (by kernel_rfl) ?_
     refine dsq (ob:=True) (st':=⟨40,[e33_7,sp 3 3,e33_3 c0,sp 23 70200,s1 27 (.own 70201),s1 29 (.own 29),e33_5],[e33_2 p n p2,hA 29 50 t3 [(p,(n,p2))],e33_1,e33_4 c0,e33_0 c1]⟩) rfl (by kernel_rfl) trivial ?_
     refine awd_perm [6,4,5,3,2,1,0] (by kernel_rfl) (by kernel_rfl) ?_
     exact m1 h
  ·exact qV [.prune [5,40] [70200,70201,70202],.ren 70201 90201,.ren 90201 30,.prune [5,40] [30,70200,70202]] ⟨40,[sI 5 ((mget c1 (p,(n,p2))).getD (0:Int)),e33_5],[hA 30 50 t3 c0,e33_6,e33_0 c1]⟩ (aw_skip (rest1 (((mget c1 (p,(n,p2))).getD (0:Int)),c0,c1) h))
def VCc65_it  : Nat→Int→Int→Int→LN→Lqa→(Int×LN×Lqa→Prop)→Prop
  | 0=>fun _ _ _ _ _ _=>False
  | fu+1=>fun p n p2 c0 c1 K=>VCc65  (VCc65_it  fu) p n p2 c0 c1 K
def VCcr65  (p n p2:Int) (c0:LN) (c1:Lqa) (K:Int×LN×Lqa→Prop):Prop:=∃ fu,VCc65_it  fu p n p2 c0 c1 K
theorem linkci65  : ∀ (fu:Nat) (p n p2:Int) (c0:LN) (c1:Lqa) (K:Int×LN×Lqa→Prop),VCc65_it  fu p n p2 c0 c1 K→LCalls Try.prog 65 [70200,70201,70202] [70200] [e33_1,e33_4 c0,e33_0 c1] [.c (.ptr 70200 0),.agg [.pI p,.pI n,.pI p2]] (fun av hp'=>∃ y:Int×LN×Lqa,av=.v (.c (.pI y.1))∧hp'=[e33_1,hA 70201 50 t3 y.2.1,(70202,[],.dict t3 tI y.2.2)]∧K y)
  | 0,_,_,_,_,_,_,h=>False.elim h
  | fu+1,p,n,p2,c0,c1,K,h=>linkc65  (VCc65_it  fu) (linkci65  fu) p n p2 c0 c1 K h
theorem linkcr65  (p n p2:Int) (c0:LN) (c1:Lqa) (K:Int×LN×Lqa→Prop) (h:VCcr65  p n p2 c0 c1 K):LCalls Try.prog 65 [70200,70201,70202] [70200] [e33_1,e33_4 c0,e33_0 c1] [.c (.ptr 70200 0),.agg [.pI p,.pI n,.pI p2]] (fun av hp'=>∃ y:Int×LN×Lqa,av=.v (.c (.pI y.1))∧hp'=[e33_1,hA 70201 50 t3 y.2.1,(70202,[],.dict t3 tI y.2.2)]∧K y):=by
  obtain ⟨fu,h⟩:=h
  exact linkci65  fu p n p2 c0 c1 K h
abbrev e33a0:=hB 70200 [.own 70201,.own 70202]
abbrev e33a1 (c1:Lqa):Nat×Path×Con:=(70202,[],.dict t3 tI c1)
abbrev e33a2 (c0:LN):=hA 70201 50 t3 c0
abbrev e33a3:=sp 27 70200
abbrev e33a4:=sp 0 70200
abbrev e33a5:=sp 17 70200
abbrev e33a6:=sp 44 70200
abbrev e33a7:=sI 2 (1:Int)
-- (*coppicer/solve.pool).or
def VCc67_k1 (p a:Int) (c0:LN) (c1:Lqa) (K:Int×LN×Lqa→Prop):Prop :=
  VCcr65 (5:Int) p a c0 c1 (fun (ret26v:Int×LN×Lqa)=>K (ret26v.1,ret26v.2.1,ret26v.2.2))
def VCc67 (R:Int→Int→LN→Lqa→(Int×LN×Lqa→Prop)→Prop) (p a:Int) (c0:LN) (c1:Lqa) (K:Int×LN×Lqa→Prop):Prop :=
  (((!(decide (p=a)))=true→(inIdx a c0.length∧((((decide (p=a))||(decide ((c0.getD ((a).toNat) z3).1=(1:Int))))=true→K (p,c0,c1))∧(((decide (p=a))||(decide ((c0.getD ((a).toNat) z3).1=(1:Int))))=false→(inIdx p c0.length∧(((decide ((c0.getD ((p).toNat) z3).1=(1:Int)))=true→K (a,c0,c1))∧((decide ((c0.getD ((p).toNat) z3).1=(1:Int)))=false→VCc67_k1 p a c0 c1 K)))))))∧((!(decide (p=a)))=false→((((decide (p=a))||false)=true→K (p,c0,c1))∧(((decide (p=a))||false)=false→(inIdx p c0.length∧(((decide ((c0.getD ((p).toNat) z3).1=(1:Int)))=true→K (a,c0,c1))∧((decide ((c0.getD ((p).toNat) z3).1=(1:Int)))=false→VCc67_k1 p a c0 c1 K)))))))
abbrev cmx0:=Lqf×Int
abbrev cmx1 (c0:LN) (p:Int):=decide ((c0.getD ((p).toNat) z3).1=(1:Int))
theorem linkc67  (R:Int→Int→LN→(List cmx0)→(Int×LN×(List cmx0)→Prop)→Prop) (hR:∀ (p a:Int) (c0:LN) (c1:(List cmx0)) (K:Int×LN×(List cmx0)→Prop),R p a c0 c1 K→LCalls Try.prog 67 [70200,70201,70202] [70200] [e33a0,e33a2 c0,e33a1 c1] [.c (.ptr 70200 0),.c (.pI p),.c (.pI a)] (fun av hp'=>∃ y:Int×LN×(List cmx0),av=.v (.c (.pI y.1))∧hp'=[e33a0,hA 70201 50 t3 y.2.1,(70202,[],.dict t3 tI y.2.2)]∧K y)) (p a:Int) (c0:LN) (c1:(List cmx0)) (K:Int×LN×(List cmx0)→Prop) (h:VCc67 R p a c0 c1 K):LCalls Try.prog 67 [70200,70201,70202] [70200] [e33a0,e33a2 c0,e33a1 c1] [.c (.ptr 70200 0),.c (.pI p),.c (.pI a)] (fun av hp'=>∃ y:Int×LN×(List cmx0),av=.v (.c (.pI y.1))∧hp'=[e33a0,hA 70201 50 t3 y.2.1,(70202,[],.dict t3 tI y.2.2)]∧K y):=by
 refine lcalls_of_aw [70200,70201,70202] [70200] [.t 6] Try.func67 rfl rfl (by kernel_rfl) (by kernel_rfl) (by kernel_rfl) ?_
 refine qV [] ⟨27,[e33a4,sI 1 p,sI 2 a,e33a3],[e33a0,e33a2 c0,e33a1 c1]⟩ ?_
 unfold VCc67 at h
 refine qS 1 ⟨27,[e33a4,sI 1 p,sI 2 a,e33a3],[e33a0,e33a2 c0,e33a1 c1]⟩ (aw_seq (withJoin (σ:=Unit) (fun s=>⟨27,[e33a4,sI 1 p,sI 2 a,e33a3],[e33a0,e33a2 c0,e33a1 c1]⟩) (fun s=>VCc67_k1 p a c0 c1 K) (fun s h=>?_) (fun rest1=>?_)))
 ·have h:VCc67_k1 p a c0 c1 K:=h
  unfold VCc67_k1 at h
  refine thenQ_n (sr (qT 4 ⟨27,[sp 22 70200,sA 25 [.pI (5:Int),.pI p,.pI a],e33a3],[e33a0,e33a2 c0,e33a1 c1]⟩ (awl_lcall (σ:=Int×LN×(List cmx0)) [70200,70201,70202] [70200] [.c (.ptr 70200 0),.agg [.pI (5:Int),.pI p,.pI a]] [] (fun ret26v=>.v (.c (.pI ret26v.1))) (fun ret26v=>[e33a0,hA 70201 50 t3 ret26v.2.1,(70202,[],.dict t3 tI ret26v.2.2)]) (_) [e33a0,e33a2 c0,e33a1 c1] (fun ret26v=>⟨27,[sI 26 ret26v.1,sp 22 70200,sA 25 [.pI (5:Int),.pI p,.pI a],e33a3],[e33a0,hA 70201 50 t3 ret26v.2.1,(70202,[],.dict t3 tI ret26v.2.2)]⟩) rfl rfl (by kernel_rfl) rfl (by kernel_rfl) Try.call65 (by kernel_rfl) (by kernel_rfl) (by kernel_rfl) (fun _ _=>rfl) (fun _=>by kernel_rfl) (linkcr65 (5:Int) p a c0 c1 _ h) (fun ret26v h=>?_))))
  exact qL ⟨27,[sI 26 ret26v.1,e33a3],[e33a0,hA 70201 50 t3 ret26v.2.1,(70202,[],.dict t3 tI ret26v.2.2)]⟩ (qT 1 ⟨27,[sI 6 ret26v.1,e33a3],[e33a0,hA 70201 50 t3 ret26v.2.1,(70202,[],.dict t3 tI ret26v.2.2)]⟩ (nn (aw_ret (lret_r (σ:=Int×LN×(List cmx0)) (A:=fun y=>.v (.c (.pI y.1))) (H:=fun y=>[e33a0,hA 70201 50 t3 y.2.1,(70202,[],.dict t3 tI y.2.2)]) (ob:=True) (ret26v.1,ret26v.2.1,ret26v.2.2) (by kernel_rfl) trivial rfl (by kernel_rfl) (by kernel_rfl) (by kernel_rfl) h))))
 ·refine aw_block (sr (qR 6 ⟨27,[e33a4,sI 1 p,sI 2 a,sB 11 (decide (p=a)),(12,[(11,false)],.v (.c (.ptr 70200 0))),(13,[(11,false)],.v (.c (.pI a))),e33a3],[e33a0,e33a2 c0,e33a1 c1]⟩ (ob:=Ts 4 (Ti 2 ((decide (p=a))=false→True) True)) (tsI 4 (tiI 2 (fun _=>trivial) trivial)) ?_))
  refine awl_inlg [.t 6] [70200,70201,70202] [(11,false)] [.c (.ptr 70200 0),.c (.pI a),.c (.pI (1:Int))] [] (.v (.c (.pB false))) (by kernel_rfl) rfl (by kernel_rfl) rfl (by kernel_rfl) Try.call95 (by kernel_rfl) (by kernel_rfl) Try.func95 rfl rfl (by kernel_rfl) (fun hb=>?_) (fun hb=>?_)
  ·have h:=h.1 hb
   refine qV [] ⟨17,[e33a4,sI 1 a,e33a7,e33a5,sI 18 p,sI 19 a,sB 28 (decide (p=a)),sp 29 70200,sI 30 a,e33a6],[e33a0,e33a2 c0,e33a1 c1]⟩ (sr (qT 1 ⟨17,[e33a4,sI 1 a,e33a7,e33a5,sI 18 p,sI 19 a,sB 28 (decide (p=a)),e33a6],[e33a0,e33a2 c0,e33a1 c1]⟩ (nsr (qA 11 5 5 ⟨17,[sB 6 (decide ((c0.getD ((a).toNat) z3).1=(1:Int))),e33a5,sI 18 p,sI 19 a,sB 28 (decide (p=a)),e33a6],[e33a0,e33a2 c0,e33a1 c1]⟩ h fun h=>nn (aw_ret (inlR_r (ob:=True) (.v (.c (.pB (decide ((c0.getD ((a).toNat) z3).1=(1:Int)))))) (by kernel_rfl) trivial rfl ?_))))))
   refine qL ⟨27,[e33a4,sI 1 p,sI 2 a,sB 11 (decide (p=a)),sB 14 (decide ((c0.getD ((a).toNat) z3).1=(1:Int))),e33a3],[e33a0,e33a2 c0,e33a1 c1]⟩ (qT 2 ⟨27,[e33a4,sI 1 p,sI 2 a,sB 7 ((decide (p=a))||(decide ((c0.getD ((a).toNat) z3).1=(1:Int)))),e33a3],[e33a0,e33a2 c0,e33a1 c1]⟩ (nn (qI h (fun h=>?_) fun h=>?_)))
   ·exact qS 2 ⟨27,[sI 6 p,e33a3],[e33a0,e33a2 c0,e33a1 c1]⟩ (aw_ret (blockQ_r (thenQ_r (lret_r (σ:=Int×LN×(List cmx0)) (A:=fun y=>.v (.c (.pI y.1))) (H:=fun y=>[e33a0,hA 70201 50 t3 y.2.1,(70202,[],.dict t3 tI y.2.2)]) (ob:=True) (p,c0,c1) (by kernel_rfl) trivial rfl (by kernel_rfl) (by kernel_rfl) (by kernel_rfl) h))))
   ·refine sr (qT 2 ⟨27,[e33a4,sI 1 p,sI 2 a,sp 18 70200,sI 19 p,e33a3],[e33a0,e33a2 c0,e33a1 c1]⟩ (awl_inlr [.t 6] [70200,70201,70202] [.c (.ptr 70200 0),.c (.pI p),.c (.pI (1:Int))] [] rfl rfl (by kernel_rfl) rfl (by kernel_rfl) Try.call95 (by kernel_rfl) (by kernel_rfl) Try.func95 rfl rfl (by kernel_rfl) ?_))
    refine qV [] ⟨17,[e33a4,sI 1 p,e33a7,e33a5,sI 18 p,sI 19 a,sp 35 70200,sI 36 p,e33a6],[e33a0,e33a2 c0,e33a1 c1]⟩ (sr (qT 1 ⟨17,[e33a4,sI 1 p,e33a7,e33a5,sI 18 p,sI 19 a,e33a6],[e33a0,e33a2 c0,e33a1 c1]⟩ (nsr (qA 11 5 5 ⟨17,[sB 6 (cmx1 c0 p),e33a5,sI 18 p,sI 19 a,e33a6],[e33a0,e33a2 c0,e33a1 c1]⟩ h fun h=>nn (aw_ret (inlR_r (ob:=True) (.v (.c (.pB (cmx1 c0 p)))) (by kernel_rfl) trivial rfl ?_))))))
    refine qL ⟨27,[e33a4,sI 1 p,sI 2 a,sB 20 (cmx1 c0 p),e33a3],[e33a0,e33a2 c0,e33a1 c1]⟩ (qT 1 ⟨27,[e33a4,sI 1 p,sI 2 a,sB 17 (cmx1 c0 p),e33a3],[e33a0,e33a2 c0,e33a1 c1]⟩ (nn (qI h (fun h=>?_) fun h=>?_)))
    ·exact qS 2 ⟨27,[sI 6 a,e33a3],[e33a0,e33a2 c0,e33a1 c1]⟩ (aw_ret (blockQ_r (thenQ_r (lret_r (σ:=Int×LN×(List cmx0)) (A:=fun y=>.v (.c (.pI y.1))) (H:=fun y=>[e33a0,hA 70201 50 t3 y.2.1,(70202,[],.dict t3 tI y.2.2)]) (ob:=True) (a,c0,c1) (by kernel_rfl) trivial rfl (by kernel_rfl) (by kernel_rfl) (by kernel_rfl) h))))
    ·exact qC ⟨27,[e33a4,sI 1 p,sI 2 a,e33a3],[e33a0,e33a2 c0,e33a1 c1]⟩ (aw_skip (blockQ_n (rest1 () h)))
  ·have h:=h.2 hb
   refine qL ⟨27,[e33a4,sI 1 p,sI 2 a,sB 11 (decide (p=a)),(14,[(11,false)],.v (.c (.pB false))),e33a3],[e33a0,e33a2 c0,e33a1 c1]⟩ (qT 2 ⟨27,[e33a4,sI 1 p,sI 2 a,sB 7 ((decide (p=a))||false),e33a3],[e33a0,e33a2 c0,e33a1 c1]⟩ (nn (qI h (fun h=>?_) fun h=>?_)))
   ·exact qS 2 ⟨27,[sI 6 p,e33a3],[e33a0,e33a2 c0,e33a1 c1]⟩ (aw_ret (blockQ_r (thenQ_r (lret_r (σ:=Int×LN×(List cmx0)) (A:=fun y=>.v (.c (.pI y.1))) (H:=fun y=>[e33a0,hA 70201 50 t3 y.2.1,(70202,[],.dict t3 tI y.2.2)]) (ob:=True) (p,c0,c1) (by kernel_rfl) trivial rfl (by kernel_rfl) (by kernel_rfl) (by kernel_rfl) h))))
   ·refine sr (qT 2 ⟨27,[e33a4,sI 1 p,sI 2 a,sp 18 70200,sI 19 p,e33a3],[e33a0,e33a2 c0,e33a1 c1]⟩ (awl_inlr [.t 6] [70200,70201,70202] [.c (.ptr 70200 0),.c (.pI p),.c (.pI (1:Int))] [] rfl rfl (by kernel_rfl) rfl (by kernel_rfl) Try.call95 (by kernel_rfl) (by kernel_rfl) Try.func95 rfl rfl (by kernel_rfl) ?_))
    refine qV [] ⟨17,[e33a4,sI 1 p,e33a7,e33a5,sI 18 p,sI 19 a,sp 35 70200,sI 36 p,e33a6],[e33a0,e33a2 c0,e33a1 c1]⟩ (sr (qT 1 ⟨17,[e33a4,sI 1 p,e33a7,e33a5,sI 18 p,sI 19 a,e33a6],[e33a0,e33a2 c0,e33a1 c1]⟩ (nsr (qA 11 5 5 ⟨17,[sB 6 (cmx1 c0 p),e33a5,sI 18 p,sI 19 a,e33a6],[e33a0,e33a2 c0,e33a1 c1]⟩ h fun h=>nn (aw_ret (inlR_r (ob:=True) (.v (.c (.pB (cmx1 c0 p)))) (by kernel_rfl) trivial rfl ?_))))))
    refine qL ⟨27,[e33a4,sI 1 p,sI 2 a,sB 20 (cmx1 c0 p),e33a3],[e33a0,e33a2 c0,e33a1 c1]⟩ (qT 1 ⟨27,[e33a4,sI 1 p,sI 2 a,sB 17 (cmx1 c0 p),e33a3],[e33a0,e33a2 c0,e33a1 c1]⟩ (nn (qI h (fun h=>?_) fun h=>?_)))
    ·exact qS 2 ⟨27,[sI 6 a,e33a3],[e33a0,e33a2 c0,e33a1 c1]⟩ (aw_ret (blockQ_r (thenQ_r (lret_r (σ:=Int×LN×(List cmx0)) (A:=fun y=>.v (.c (.pI y.1))) (H:=fun y=>[e33a0,hA 70201 50 t3 y.2.1,(70202,[],.dict t3 tI y.2.2)]) (ob:=True) (a,c0,c1) (by kernel_rfl) trivial rfl (by kernel_rfl) (by kernel_rfl) (by kernel_rfl) h))))
    ·exact qC ⟨27,[e33a4,sI 1 p,sI 2 a,e33a3],[e33a0,e33a2 c0,e33a1 c1]⟩ (aw_skip (blockQ_n (rest1 () h)))
def VCc67_it  : Nat→Int→Int→LN→Lqa→(Int×LN×Lqa→Prop)→Prop
  | 0=>fun _ _ _ _ _=>False
  | n+1=>fun p a c0 c1 K=>VCc67  (VCc67_it  n) p a c0 c1 K
def VCcr67  (p a:Int) (c0:LN) (c1:Lqa) (K:Int×LN×Lqa→Prop):Prop:=∃ n,VCc67_it  n p a c0 c1 K
theorem linkci67  : ∀ (n:Nat) (p a:Int) (c0:LN) (c1:Lqa) (K:Int×LN×Lqa→Prop),VCc67_it  n p a c0 c1 K→LCalls Try.prog 67 [70200,70201,70202] [70200] [e33a0,e33a2 c0,e33a1 c1] [.c (.ptr 70200 0),.c (.pI p),.c (.pI a)] (fun av hp'=>∃ y:Int×LN×Lqa,av=.v (.c (.pI y.1))∧hp'=[e33a0,hA 70201 50 t3 y.2.1,(70202,[],.dict t3 tI y.2.2)]∧K y)
  | 0,_,_,_,_,_,h=>False.elim h
  | n+1,p,a,c0,c1,K,h=>linkc67  (VCc67_it  n) (linkci67  n) p a c0 c1 K h
theorem linkcr67  (p a:Int) (c0:LN) (c1:Lqa) (K:Int×LN×Lqa→Prop) (h:VCcr67  p a c0 c1 K):LCalls Try.prog 67 [70200,70201,70202] [70200] [e33a0,e33a2 c0,e33a1 c1] [.c (.ptr 70200 0),.c (.pI p),.c (.pI a)] (fun av hp'=>∃ y:Int×LN×Lqa,av=.v (.c (.pI y.1))∧hp'=[e33a0,hA 70201 50 t3 y.2.1,(70202,[],.dict t3 tI y.2.2)]∧K y):=by
  obtain ⟨n,h⟩:=h
  exact linkci67  n p a c0 c1 K h
abbrev e33b0:=hB 70200 [.own 70201,.own 70202]
abbrev e33b1 (c1:Lqa):Nat×Path×Con:=(70202,[],.dict t3 tI c1)
abbrev e33b2 (c0:LN):=hA 70201 50 t3 c0
abbrev e33b3:=sp 26 70200
abbrev e33b4 (ret16v:Int×LN×Lqa):Nat×Path×Con:=(70202,[],.dict t3 tI ret16v.2.2)
abbrev e33b5:=sp 0 70200
abbrev e33b6:=sA 15 [.pI (2:Int),.pI (0:Int),.pI (0:Int)]
abbrev e33b7 (c0:LN) (p:Int):=sB 26 (decide ((c0.getD ((p).toNat) z3).1=(1:Int)))
abbrev e33b8 (c0:LN) (p:Int):=sB 9 (decide ((c0.getD ((p).toNat) z3).1=(1:Int)))
abbrev e33b9:=sp 17 70200
abbrev e33b10:=sp 43 70200
-- (*coppicer/solve.pool).star
def VCc68_k1 (p:Int) (c0:LN) (c1:Lqa) (K:Int×LN×Lqa→Prop):Prop :=
  VCcr65 (6:Int) p (0:Int) c0 c1 (fun (ret25v:Int×LN×Lqa)=>K (ret25v.1,ret25v.2.1,ret25v.2.2))
def VCc68 (R:Int→LN→Lqa→(Int×LN×Lqa→Prop)→Prop) (p:Int) (c0:LN) (c1:Lqa) (K:Int×LN×Lqa→Prop):Prop :=
  (inIdx p c0.length∧(((!(decide ((c0.getD ((p).toNat) z3).1=(1:Int))))=true→(inIdx p c0.length∧((((decide ((c0.getD ((p).toNat) z3).1=(1:Int)))||(decide ((c0.getD ((p).toNat) z3).1=(2:Int))))=true→VCcr65 (2:Int) (0:Int) (0:Int) c0 c1 (fun (ret16v:Int×LN×Lqa)=>K (ret16v.1,ret16v.2.1,ret16v.2.2)))∧(((decide ((c0.getD ((p).toNat) z3).1=(1:Int)))||(decide ((c0.getD ((p).toNat) z3).1=(2:Int))))=false→(inIdx p c0.length∧(((decide ((c0.getD ((p).toNat) z3).1=(6:Int)))=true→K (p,c0,c1))∧((decide ((c0.getD ((p).toNat) z3).1=(6:Int)))=false→VCc68_k1 p c0 c1 K)))))))∧((!(decide ((c0.getD ((p).toNat) z3).1=(1:Int))))=false→((((decide ((c0.getD ((p).toNat) z3).1=(1:Int)))||false)=true→VCcr65 (2:Int) (0:Int) (0:Int) c0 c1 (fun (ret16v:Int×LN×Lqa)=>K (ret16v.1,ret16v.2.1,ret16v.2.2)))∧(((decide ((c0.getD ((p).toNat) z3).1=(1:Int)))||false)=false→(inIdx p c0.length∧(((decide ((c0.getD ((p).toNat) z3).1=(6:Int)))=true→K (p,c0,c1))∧((decide ((c0.getD ((p).toNat) z3).1=(6:Int)))=false→VCc68_k1 p c0 c1 K))))))))
abbrev cpx0:=Lqf×Int
abbrev cpx1 (c0:LN) (p:Int):=decide ((c0.getD ((p).toNat) z3).1=(6:Int))
abbrev cpx2 (c0:LN) (p:Int):=decide ((c0.getD ((p).toNat) z3).1=(1:Int))
theorem linkc68  (R:Int→LN→(List cpx0)→(Int×LN×(List cpx0)→Prop)→Prop) (hR:∀ (p:Int) (c0:LN) (c1:(List cpx0)) (K:Int×LN×(List cpx0)→Prop),R p c0 c1 K→LCalls Try.prog 68 [70200,70201,70202] [70200] [e33b0,e33b2 c0,e33b1 c1] [.c (.ptr 70200 0),.c (.pI p)] (fun av hp'=>∃ y:Int×LN×(List cpx0),av=.v (.c (.pI y.1))∧hp'=[e33b0,hA 70201 50 t3 y.2.1,(70202,[],.dict t3 tI y.2.2)]∧K y)) (p:Int) (c0:LN) (c1:(List cpx0)) (K:Int×LN×(List cpx0)→Prop) (h:VCc68 R p c0 c1 K):LCalls Try.prog 68 [70200,70201,70202] [70200] [e33b0,e33b2 c0,e33b1 c1] [.c (.ptr 70200 0),.c (.pI p)] (fun av hp'=>∃ y:Int×LN×(List cpx0),av=.v (.c (.pI y.1))∧hp'=[e33b0,hA 70201 50 t3 y.2.1,(70202,[],.dict t3 tI y.2.2)]∧K y):=by
 refine lcalls_of_aw [70200,70201,70202] [70200] [.t 4] Try.func68 rfl rfl (by kernel_rfl) (by kernel_rfl) (by kernel_rfl) ?_
 refine qV [] ⟨26,[e33b5,sI 1 p,e33b3],[e33b0,e33b2 c0,e33b1 c1]⟩ ?_
 unfold VCc68 at h
 refine qS 1 ⟨26,[e33b5,sI 1 p,e33b3],[e33b0,e33b2 c0,e33b1 c1]⟩ (aw_seq (withJoin (σ:=Unit) (fun s=>⟨26,[e33b5,sI 1 p,e33b3],[e33b0,e33b2 c0,e33b1 c1]⟩) (fun s=>VCc68_k1 p c0 c1 K) (fun s h=>?_) (fun rest1=>?_)))
 ·have h:VCc68_k1 p c0 c1 K:=h
  unfold VCc68_k1 at h
  refine thenQ_n (sr (qT 3 ⟨26,[sp 22 70200,sA 24 [.pI (6:Int),.pI p,.pI (0:Int)],e33b3],[e33b0,e33b2 c0,e33b1 c1]⟩ (awl_lcall (σ:=Int×LN×(List cpx0)) [70200,70201,70202] [70200] [.c (.ptr 70200 0),.agg [.pI (6:Int),.pI p,.pI (0:Int)]] [] (fun ret25v=>.v (.c (.pI ret25v.1))) (fun ret25v=>[e33b0,hA 70201 50 t3 ret25v.2.1,(70202,[],.dict t3 tI ret25v.2.2)]) (_) [e33b0,e33b2 c0,e33b1 c1] (fun ret25v=>⟨26,[sI 25 ret25v.1,sp 22 70200,sA 24 [.pI (6:Int),.pI p,.pI (0:Int)],e33b3],[e33b0,hA 70201 50 t3 ret25v.2.1,(70202,[],.dict t3 tI ret25v.2.2)]⟩) rfl rfl (by kernel_rfl) rfl (by kernel_rfl) Try.call65 (by kernel_rfl) (by kernel_rfl) (by kernel_rfl) (fun _ _=>rfl) (fun _=>by kernel_rfl) (linkcr65 (6:Int) p (0:Int) c0 c1 _ h) (fun ret25v h=>?_))))
  exact qL ⟨26,[sI 25 ret25v.1,e33b3],[e33b0,hA 70201 50 t3 ret25v.2.1,(70202,[],.dict t3 tI ret25v.2.2)]⟩ (qT 1 ⟨26,[sI 4 ret25v.1,e33b3],[e33b0,hA 70201 50 t3 ret25v.2.1,(70202,[],.dict t3 tI ret25v.2.2)]⟩ (nn (aw_ret (lret_r (σ:=Int×LN×(List cpx0)) (A:=fun y=>.v (.c (.pI y.1))) (H:=fun y=>[e33b0,hA 70201 50 t3 y.2.1,(70202,[],.dict t3 tI y.2.2)]) (ob:=True) (ret25v.1,ret25v.2.1,ret25v.2.2) (by kernel_rfl) trivial rfl (by kernel_rfl) (by kernel_rfl) (by kernel_rfl) h))))
 ·refine aw_block (sr (qT 2 ⟨26,[e33b5,sI 1 p,sp 6 70200,sI 7 p,e33b3],[e33b0,e33b2 c0,e33b1 c1]⟩ (awl_inlr [.t 6] [70200,70201,70202] [.c (.ptr 70200 0),.c (.pI p),.c (.pI (1:Int))] [] rfl rfl (by kernel_rfl) rfl (by kernel_rfl) Try.call95 (by kernel_rfl) (by kernel_rfl) Try.func95 rfl rfl (by kernel_rfl) ?_)))
  refine qV [] ⟨17,[e33b5,sI 1 p,sI 2 (1:Int),e33b9,sI 18 p,sp 23 70200,sI 24 p,e33b10],[e33b0,e33b2 c0,e33b1 c1]⟩ (sr (qT 1 ⟨17,[e33b5,sI 1 p,sI 2 (1:Int),e33b9,sI 18 p,e33b10],[e33b0,e33b2 c0,e33b1 c1]⟩ (nsr (qA 11 5 5 ⟨17,[sB 6 (cpx2 c0 p),e33b9,sI 18 p,e33b10],[e33b0,e33b2 c0,e33b1 c1]⟩ h fun h=>nn (aw_ret (inlR_r (ob:=True) (.v (.c (.pB (cpx2 c0 p)))) (by kernel_rfl) trivial rfl ?_))))))
  refine qL ⟨26,[e33b5,sI 1 p,sB 8 (cpx2 c0 p),e33b3],[e33b0,e33b2 c0,e33b1 c1]⟩ (qR 3 ⟨26,[e33b5,sI 1 p,e33b8 c0 p,(10,[(9,false)],.v (.c (.ptr 70200 0))),(11,[(9,false)],.v (.c (.pI p))),e33b3],[e33b0,e33b2 c0,e33b1 c1]⟩ (ob:=Ts 1 (Ti 2 ((cpx2 c0 p)=false→True) True)) (tsI 1 (tiI 2 (fun _=>trivial) trivial)) ?_)
  refine awl_inlg [.t 6] [70200,70201,70202] [(9,false)] [.c (.ptr 70200 0),.c (.pI p),.c (.pI (2:Int))] [] (.v (.c (.pB false))) (by kernel_rfl) rfl (by kernel_rfl) rfl (by kernel_rfl) Try.call95 (by kernel_rfl) (by kernel_rfl) Try.func95 rfl rfl (by kernel_rfl) (fun hb=>?_) (fun hb=>?_)
  ·have h:=h.1 hb
   refine qV [] ⟨17,[e33b5,sI 1 p,sI 2 (2:Int),e33b9,sI 18 p,e33b7 c0 p,sp 27 70200,sI 28 p,e33b10],[e33b0,e33b2 c0,e33b1 c1]⟩ (sr (qT 1 ⟨17,[e33b5,sI 1 p,sI 2 (2:Int),e33b9,sI 18 p,e33b7 c0 p,e33b10],[e33b0,e33b2 c0,e33b1 c1]⟩ (nsr (qA 11 5 5 ⟨17,[sB 6 (decide ((c0.getD ((p).toNat) z3).1=(2:Int))),e33b9,sI 18 p,e33b7 c0 p,e33b10],[e33b0,e33b2 c0,e33b1 c1]⟩ h fun h=>nn (aw_ret (inlR_r (ob:=True) (.v (.c (.pB (decide ((c0.getD ((p).toNat) z3).1=(2:Int)))))) (by kernel_rfl) trivial rfl ?_))))))
   refine qL ⟨26,[e33b5,sI 1 p,e33b8 c0 p,sB 12 (decide ((c0.getD ((p).toNat) z3).1=(2:Int))),e33b3],[e33b0,e33b2 c0,e33b1 c1]⟩ (qT 2 ⟨26,[e33b5,sI 1 p,sB 5 ((cpx2 c0 p)||(decide ((c0.getD ((p).toNat) z3).1=(2:Int)))),e33b3],[e33b0,e33b2 c0,e33b1 c1]⟩ (nn (qI h (fun h=>?_) fun h=>?_)))
   ·refine sr (qT 2 ⟨26,[sp 14 70200,e33b6,e33b3],[e33b0,e33b2 c0,e33b1 c1]⟩ (awl_lcall (σ:=Int×LN×(List cpx0)) [70200,70201,70202] [70200] [.c (.ptr 70200 0),.agg [.pI (2:Int),.pI (0:Int),.pI (0:Int)]] [] (fun ret16v=>.v (.c (.pI ret16v.1))) (fun ret16v=>[e33b0,hA 70201 50 t3 ret16v.2.1,e33b4 ret16v]) (_) [e33b0,e33b2 c0,e33b1 c1] (fun ret16v=>⟨26,[sI 16 ret16v.1,sp 14 70200,e33b6,e33b3],[e33b0,hA 70201 50 t3 ret16v.2.1,e33b4 ret16v]⟩) rfl rfl (by kernel_rfl) rfl (by kernel_rfl) Try.call65 (by kernel_rfl) (by kernel_rfl) (by kernel_rfl) (fun _ _=>rfl) (fun _=>by kernel_rfl) (linkcr65 (2:Int) (0:Int) (0:Int) c0 c1 _ h) (fun ret16v h=>?_)))
    exact qL ⟨26,[sI 16 ret16v.1,e33b3],[e33b0,hA 70201 50 t3 ret16v.2.1,e33b4 ret16v]⟩ (qT 1 ⟨26,[sI 4 ret16v.1,e33b3],[e33b0,hA 70201 50 t3 ret16v.2.1,e33b4 ret16v]⟩ (nn (aw_ret (blockQ_r (thenQ_r (lret_r (σ:=Int×LN×(List cpx0)) (A:=fun y=>.v (.c (.pI y.1))) (H:=fun y=>[e33b0,hA 70201 50 t3 y.2.1,(70202,[],.dict t3 tI y.2.2)]) (ob:=True) (ret16v.1,ret16v.2.1,ret16v.2.2) (by kernel_rfl) trivial rfl (by kernel_rfl) (by kernel_rfl) (by kernel_rfl) h))))))
   ·refine sr (qT 2 ⟨26,[e33b5,sI 1 p,sp 18 70200,sI 19 p,e33b3],[e33b0,e33b2 c0,e33b1 c1]⟩ (awl_inlr [.t 6] [70200,70201,70202] [.c (.ptr 70200 0),.c (.pI p),.c (.pI (6:Int))] [] rfl rfl (by kernel_rfl) rfl (by kernel_rfl) Try.call95 (by kernel_rfl) (by kernel_rfl) Try.func95 rfl rfl (by kernel_rfl) ?_))
    refine qV [] ⟨17,[e33b5,sI 1 p,sI 2 (6:Int),e33b9,sI 18 p,sp 35 70200,sI 36 p,e33b10],[e33b0,e33b2 c0,e33b1 c1]⟩ (sr (qT 1 ⟨17,[e33b5,sI 1 p,sI 2 (6:Int),e33b9,sI 18 p,e33b10],[e33b0,e33b2 c0,e33b1 c1]⟩ (nsr (qA 11 5 5 ⟨17,[sB 6 (cpx1 c0 p),e33b9,sI 18 p,e33b10],[e33b0,e33b2 c0,e33b1 c1]⟩ h fun h=>nn (aw_ret (inlR_r (ob:=True) (.v (.c (.pB (cpx1 c0 p)))) (by kernel_rfl) trivial rfl ?_))))))
    refine qL ⟨26,[e33b5,sI 1 p,sB 20 (cpx1 c0 p),e33b3],[e33b0,e33b2 c0,e33b1 c1]⟩ (qT 1 ⟨26,[e33b5,sI 1 p,sB 17 (cpx1 c0 p),e33b3],[e33b0,e33b2 c0,e33b1 c1]⟩ (nn (qI h (fun h=>?_) fun h=>?_)))
    ·exact qS 2 ⟨26,[sI 4 p,e33b3],[e33b0,e33b2 c0,e33b1 c1]⟩ (aw_ret (blockQ_r (thenQ_r (lret_r (σ:=Int×LN×(List cpx0)) (A:=fun y=>.v (.c (.pI y.1))) (H:=fun y=>[e33b0,hA 70201 50 t3 y.2.1,(70202,[],.dict t3 tI y.2.2)]) (ob:=True) (p,c0,c1) (by kernel_rfl) trivial rfl (by kernel_rfl) (by kernel_rfl) (by kernel_rfl) h))))
    ·exact qC ⟨26,[e33b5,sI 1 p,e33b3],[e33b0,e33b2 c0,e33b1 c1]⟩ (aw_skip (blockQ_n (rest1 () h)))
  ·have h:=h.2 hb
   refine qL ⟨26,[e33b5,sI 1 p,e33b8 c0 p,(12,[(9,false)],.v (.c (.pB false))),e33b3],[e33b0,e33b2 c0,e33b1 c1]⟩ (qT 2 ⟨26,[e33b5,sI 1 p,sB 5 ((cpx2 c0 p)||false),e33b3],[e33b0,e33b2 c0,e33b1 c1]⟩ (nn (qI h (fun h=>?_) fun h=>?_)))
   ·refine sr (qT 2 ⟨26,[sp 14 70200,e33b6,e33b3],[e33b0,e33b2 c0,e33b1 c1]⟩ (awl_lcall (σ:=Int×LN×(List cpx0)) [70200,70201,70202] [70200] [.c (.ptr 70200 0),.agg [.pI (2:Int),.pI (0:Int),.pI (0:Int)]] [] (fun ret16v=>.v (.c (.pI ret16v.1))) (fun ret16v=>[e33b0,hA 70201 50 t3 ret16v.2.1,e33b4 ret16v]) (_) [e33b0,e33b2 c0,e33b1 c1] (fun ret16v=>⟨26,[sI 16 ret16v.1,sp 14 70200,e33b6,e33b3],[e33b0,hA 70201 50 t3 ret16v.2.1,e33b4 ret16v]⟩) rfl rfl (by kernel_rfl) rfl (by kernel_rfl) Try.call65 (by kernel_rfl) (by kernel_rfl) (by kernel_rfl) (fun _ _=>rfl) (fun _=>by kernel_rfl) (linkcr65 (2:Int) (0:Int) (0:Int) c0 c1 _ h) (fun ret16v h=>?_)))
    exact qL ⟨26,[sI 16 ret16v.1,e33b3],[e33b0,hA 70201 50 t3 ret16v.2.1,e33b4 ret16v]⟩ (qT 1 ⟨26,[sI 4 ret16v.1,e33b3],[e33b0,hA 70201 50 t3 ret16v.2.1,e33b4 ret16v]⟩ (nn (aw_ret (blockQ_r (thenQ_r (lret_r (σ:=Int×LN×(List cpx0)) (A:=fun y=>.v (.c (.pI y.1))) (H:=fun y=>[e33b0,hA 70201 50 t3 y.2.1,(70202,[],.dict t3 tI y.2.2)]) (ob:=True) (ret16v.1,ret16v.2.1,ret16v.2.2) (by kernel_rfl) trivial rfl (by kernel_rfl) (by kernel_rfl) (by kernel_rfl) h))))))
   ·refine sr (qT 2 ⟨26,[e33b5,sI 1 p,sp 18 70200,sI 19 p,e33b3],[e33b0,e33b2 c0,e33b1 c1]⟩ (awl_inlr [.t 6] [70200,70201,70202] [.c (.ptr 70200 0),.c (.pI p),.c (.pI (6:Int))] [] rfl rfl (by kernel_rfl) rfl (by kernel_rfl) Try.call95 (by kernel_rfl) (by kernel_rfl) Try.func95 rfl rfl (by kernel_rfl) ?_))
    refine qV [] ⟨17,[e33b5,sI 1 p,sI 2 (6:Int),e33b9,sI 18 p,sp 35 70200,sI 36 p,e33b10],[e33b0,e33b2 c0,e33b1 c1]⟩ (sr (qT 1 ⟨17,[e33b5,sI 1 p,sI 2 (6:Int),e33b9,sI 18 p,e33b10],[e33b0,e33b2 c0,e33b1 c1]⟩ (nsr (qA 11 5 5 ⟨17,[sB 6 (cpx1 c0 p),e33b9,sI 18 p,e33b10],[e33b0,e33b2 c0,e33b1 c1]⟩ h fun h=>nn (aw_ret (inlR_r (ob:=True) (.v (.c (.pB (cpx1 c0 p)))) (by kernel_rfl) trivial rfl ?_))))))
    refine qL ⟨26,[e33b5,sI 1 p,sB 20 (cpx1 c0 p),e33b3],[e33b0,e33b2 c0,e33b1 c1]⟩ (qT 1 ⟨26,[e33b5,sI 1 p,sB 17 (cpx1 c0 p),e33b3],[e33b0,e33b2 c0,e33b1 c1]⟩ (nn (qI h (fun h=>?_) fun h=>?_)))
    ·exact qS 2 ⟨26,[sI 4 p,e33b3],[e33b0,e33b2 c0,e33b1 c1]⟩ (aw_ret (blockQ_r (thenQ_r (lret_r (σ:=Int×LN×(List cpx0)) (A:=fun y=>.v (.c (.pI y.1))) (H:=fun y=>[e33b0,hA 70201 50 t3 y.2.1,(70202,[],.dict t3 tI y.2.2)]) (ob:=True) (p,c0,c1) (by kernel_rfl) trivial rfl (by kernel_rfl) (by kernel_rfl) (by kernel_rfl) h))))
    ·exact qC ⟨26,[e33b5,sI 1 p,e33b3],[e33b0,e33b2 c0,e33b1 c1]⟩ (aw_skip (blockQ_n (rest1 () h)))
def VCc68_it  : Nat→Int→LN→Lqa→(Int×LN×Lqa→Prop)→Prop
  | 0=>fun _ _ _ _=>False
  | n+1=>fun p c0 c1 K=>VCc68  (VCc68_it  n) p c0 c1 K
def VCcr68  (p:Int) (c0:LN) (c1:Lqa) (K:Int×LN×Lqa→Prop):Prop:=∃ n,VCc68_it  n p c0 c1 K
theorem linkci68  : ∀ (n:Nat) (p:Int) (c0:LN) (c1:Lqa) (K:Int×LN×Lqa→Prop),VCc68_it  n p c0 c1 K→LCalls Try.prog 68 [70200,70201,70202] [70200] [e33b0,e33b2 c0,e33b1 c1] [.c (.ptr 70200 0),.c (.pI p)] (fun av hp'=>∃ y:Int×LN×Lqa,av=.v (.c (.pI y.1))∧hp'=[e33b0,hA 70201 50 t3 y.2.1,(70202,[],.dict t3 tI y.2.2)]∧K y)
  | 0,_,_,_,_,h=>False.elim h
  | n+1,p,c0,c1,K,h=>linkc68  (VCc68_it  n) (linkci68  n) p c0 c1 K h
theorem linkcr68  (p:Int) (c0:LN) (c1:Lqa) (K:Int×LN×Lqa→Prop) (h:VCcr68  p c0 c1 K):LCalls Try.prog 68 [70200,70201,70202] [70200] [e33b0,e33b2 c0,e33b1 c1] [.c (.ptr 70200 0),.c (.pI p)] (fun av hp'=>∃ y:Int×LN×Lqa,av=.v (.c (.pI y.1))∧hp'=[e33b0,hA 70201 50 t3 y.2.1,(70202,[],.dict t3 tI y.2.2)]∧K y):=by
  obtain ⟨n,h⟩:=h
  exact linkci68  n p c0 c1 K h
abbrev e33c0:=hB 70200 [.own 70201,.own 70202]
abbrev e33c1 (c1:Lqa):Nat×Path×Con:=(70202,[],.dict t3 tI c1)
abbrev e33c2 (c0:LN):=hA 70201 50 t3 c0
abbrev e33c3:=sp 32 70200
abbrev e33c4:=sp 0 70200
abbrev e33c5 (c0:LN) (a:Int):=sB 21 (decide ((c0.getD ((a).toNat) z3).1=(1:Int)))
abbrev e33c6 (c0:LN) (a:Int):=sB 38 (decide ((c0.getD ((a).toNat) z3).1=(1:Int)))
abbrev e33c7 (c0:LN) (a p:Int):=sB 17 ((decide ((c0.getD ((a).toNat) z3).1=(1:Int)))||(decide ((c0.getD ((p).toNat) z3).1=(2:Int))))
abbrev e33c8:=sp 17 70200
abbrev e33c9:=sp 49 70200
abbrev e33c10 (c0:LN) (p:Int):=sB 11 (decide ((c0.getD ((p).toNat) z3).1=(1:Int)))
abbrev e33c11 (c0:LN) (p:Int):=sB 28 (decide ((c0.getD ((p).toNat) z3).1=(1:Int)))
-- (*coppicer/solve.pool).cat
def VCc69_k1 (p a:Int) (c0:LN) (c1:Lqa) (K:Int×LN×Lqa→Prop):Prop :=
  VCcr65 (4:Int) p a c0 c1 (fun (ret31v:Int×LN×Lqa)=>K (ret31v.1,ret31v.2.1,ret31v.2.2))
def VCc69_k2 (p a:Int) (c0:LN) (c1:Lqa) (K:Int×LN×Lqa→Prop):Prop :=
  VCc69_k1 p a c0 c1 K
def VCc69_k3 (p a:Int) (c0:LN) (c1:Lqa) (K:Int×LN×Lqa→Prop):Prop :=
  VCc69_k1 p a c0 c1 K
def VCc69 (R:Int→Int→LN→Lqa→(Int×LN×Lqa→Prop)→Prop) (p a:Int) (c0:LN) (c1:Lqa) (K:Int×LN×Lqa→Prop):Prop :=
  (inIdx p c0.length∧(((!(decide ((c0.getD ((p).toNat) z3).1=(1:Int))))=true→(inIdx a c0.length∧((((decide ((c0.getD ((p).toNat) z3).1=(1:Int)))||(decide ((c0.getD ((a).toNat) z3).1=(2:Int))))=true→K (p,c0,c1))∧(((decide ((c0.getD ((p).toNat) z3).1=(1:Int)))||(decide ((c0.getD ((a).toNat) z3).1=(2:Int))))=false→(inIdx a c0.length∧(((!(decide ((c0.getD ((a).toNat) z3).1=(1:Int))))=true→(inIdx p c0.length∧((((decide ((c0.getD ((a).toNat) z3).1=(1:Int)))||(decide ((c0.getD ((p).toNat) z3).1=(2:Int))))=true→K (a,c0,c1))∧(((decide ((c0.getD ((a).toNat) z3).1=(1:Int)))||(decide ((c0.getD ((p).toNat) z3).1=(2:Int))))=false→VCc69_k2 p a c0 c1 K))))∧((!(decide ((c0.getD ((a).toNat) z3).1=(1:Int))))=false→((((decide ((c0.getD ((a).toNat) z3).1=(1:Int)))||false)=true→K (a,c0,c1))∧(((decide ((c0.getD ((a).toNat) z3).1=(1:Int)))||false)=false→VCc69_k2 p a c0 c1 K)))))))))∧((!(decide ((c0.getD ((p).toNat) z3).1=(1:Int))))=false→((((decide ((c0.getD ((p).toNat) z3).1=(1:Int)))||false)=true→K (p,c0,c1))∧(((decide ((c0.getD ((p).toNat) z3).1=(1:Int)))||false)=false→(inIdx a c0.length∧(((!(decide ((c0.getD ((a).toNat) z3).1=(1:Int))))=true→(inIdx p c0.length∧((((decide ((c0.getD ((a).toNat) z3).1=(1:Int)))||(decide ((c0.getD ((p).toNat) z3).1=(2:Int))))=true→K (a,c0,c1))∧(((decide ((c0.getD ((a).toNat) z3).1=(1:Int)))||(decide ((c0.getD ((p).toNat) z3).1=(2:Int))))=false→VCc69_k3 p a c0 c1 K))))∧((!(decide ((c0.getD ((a).toNat) z3).1=(1:Int))))=false→((((decide ((c0.getD ((a).toNat) z3).1=(1:Int)))||false)=true→K (a,c0,c1))∧(((decide ((c0.getD ((a).toNat) z3).1=(1:Int)))||false)=false→VCc69_k3 p a c0 c1 K))))))))))
abbrev csx0:=Lqf×Int
abbrev csx1 (c0:LN) (a:Int):=decide ((c0.getD ((a).toNat) z3).1=(1:Int))
abbrev csx2 (c0:LN) (p:Int):=decide ((c0.getD ((p).toNat) z3).1=(1:Int))
abbrev csx3 (c0:LN) (p:Int):=decide ((c0.getD ((p).toNat) z3).1=(2:Int))
theorem linkc69  (R:Int→Int→LN→(List csx0)→(Int×LN×(List csx0)→Prop)→Prop) (hR:∀ (p a:Int) (c0:LN) (c1:(List csx0)) (K:Int×LN×(List csx0)→Prop),R p a c0 c1 K→LCalls Try.prog 69 [70200,70201,70202] [70200] [e33c0,e33c2 c0,e33c1 c1] [.c (.ptr 70200 0),.c (.pI p),.c (.pI a)] (fun av hp'=>∃ y:Int×LN×(List csx0),av=.v (.c (.pI y.1))∧hp'=[e33c0,hA 70201 50 t3 y.2.1,(70202,[],.dict t3 tI y.2.2)]∧K y)) (p a:Int) (c0:LN) (c1:(List csx0)) (K:Int×LN×(List csx0)→Prop) (h:VCc69 R p a c0 c1 K):LCalls Try.prog 69 [70200,70201,70202] [70200] [e33c0,e33c2 c0,e33c1 c1] [.c (.ptr 70200 0),.c (.pI p),.c (.pI a)] (fun av hp'=>∃ y:Int×LN×(List csx0),av=.v (.c (.pI y.1))∧hp'=[e33c0,hA 70201 50 t3 y.2.1,(70202,[],.dict t3 tI y.2.2)]∧K y):=by
 refine lcalls_of_aw [70200,70201,70202] [70200] [.t 6] Try.func69 rfl rfl (by kernel_rfl) (by kernel_rfl) (by kernel_rfl) ?_
 refine qV [] ⟨32,[e33c4,sI 1 p,sI 2 a,e33c3],[e33c0,e33c2 c0,e33c1 c1]⟩ ?_
 unfold VCc69 at h
 refine qS 1 ⟨32,[e33c4,sI 1 p,sI 2 a,e33c3],[e33c0,e33c2 c0,e33c1 c1]⟩ (aw_seq (withJoin (σ:=Unit) (fun s=>⟨32,[e33c4,sI 1 p,sI 2 a,e33c3],[e33c0,e33c2 c0,e33c1 c1]⟩) (fun s=>VCc69_k1 p a c0 c1 K) (fun s h=>?_) (fun rest1=>?_)))
 ·have h:VCc69_k1 p a c0 c1 K:=h
  unfold VCc69_k1 at h
  refine thenQ_n (sr (qT 4 ⟨32,[sp 27 70200,sA 30 [.pI (4:Int),.pI p,.pI a],e33c3],[e33c0,e33c2 c0,e33c1 c1]⟩ (awl_lcall (σ:=Int×LN×(List csx0)) [70200,70201,70202] [70200] [.c (.ptr 70200 0),.agg [.pI (4:Int),.pI p,.pI a]] [] (fun ret31v=>.v (.c (.pI ret31v.1))) (fun ret31v=>[e33c0,hA 70201 50 t3 ret31v.2.1,(70202,[],.dict t3 tI ret31v.2.2)]) (_) [e33c0,e33c2 c0,e33c1 c1] (fun ret31v=>⟨32,[sI 31 ret31v.1,sp 27 70200,sA 30 [.pI (4:Int),.pI p,.pI a],e33c3],[e33c0,hA 70201 50 t3 ret31v.2.1,(70202,[],.dict t3 tI ret31v.2.2)]⟩) rfl rfl (by kernel_rfl) rfl (by kernel_rfl) Try.call65 (by kernel_rfl) (by kernel_rfl) (by kernel_rfl) (fun _ _=>rfl) (fun _=>by kernel_rfl) (linkcr65 (4:Int) p a c0 c1 _ h) (fun ret31v h=>?_))))
  exact qL ⟨32,[sI 31 ret31v.1,e33c3],[e33c0,hA 70201 50 t3 ret31v.2.1,(70202,[],.dict t3 tI ret31v.2.2)]⟩ (qT 1 ⟨32,[sI 6 ret31v.1,e33c3],[e33c0,hA 70201 50 t3 ret31v.2.1,(70202,[],.dict t3 tI ret31v.2.2)]⟩ (nn (aw_ret (lret_r (σ:=Int×LN×(List csx0)) (A:=fun y=>.v (.c (.pI y.1))) (H:=fun y=>[e33c0,hA 70201 50 t3 y.2.1,(70202,[],.dict t3 tI y.2.2)]) (ob:=True) (ret31v.1,ret31v.2.1,ret31v.2.2) (by kernel_rfl) trivial rfl (by kernel_rfl) (by kernel_rfl) (by kernel_rfl) h))))
 ·refine aw_block (sr (qT 2 ⟨32,[e33c4,sI 1 p,sI 2 a,sp 8 70200,sI 9 p,e33c3],[e33c0,e33c2 c0,e33c1 c1]⟩ (awl_inlr [.t 6] [70200,70201,70202] [.c (.ptr 70200 0),.c (.pI p),.c (.pI (1:Int))] [] rfl rfl (by kernel_rfl) rfl (by kernel_rfl) Try.call95 (by kernel_rfl) (by kernel_rfl) Try.func95 rfl rfl (by kernel_rfl) ?_)))
  refine qV [] ⟨17,[e33c4,sI 1 p,sI 2 (1:Int),e33c8,sI 18 p,sI 19 a,sp 25 70200,sI 26 p,e33c9],[e33c0,e33c2 c0,e33c1 c1]⟩ (sr (qT 1 ⟨17,[e33c4,sI 1 p,sI 2 (1:Int),e33c8,sI 18 p,sI 19 a,e33c9],[e33c0,e33c2 c0,e33c1 c1]⟩ (nsr (qA 11 5 5 ⟨17,[sB 6 (csx2 c0 p),e33c8,sI 18 p,sI 19 a,e33c9],[e33c0,e33c2 c0,e33c1 c1]⟩ h fun h=>nn (aw_ret (inlR_r (ob:=True) (.v (.c (.pB (csx2 c0 p)))) (by kernel_rfl) trivial rfl ?_))))))
  refine qL ⟨32,[e33c4,sI 1 p,sI 2 a,sB 10 (csx2 c0 p),e33c3],[e33c0,e33c2 c0,e33c1 c1]⟩ (qR 3 ⟨32,[e33c4,sI 1 p,sI 2 a,e33c10 c0 p,(12,[(11,false)],.v (.c (.ptr 70200 0))),(13,[(11,false)],.v (.c (.pI a))),e33c3],[e33c0,e33c2 c0,e33c1 c1]⟩ (ob:=Ts 1 (Ti 2 ((csx2 c0 p)=false→True) True)) (tsI 1 (tiI 2 (fun _=>trivial) trivial)) ?_)
  refine awl_inlg [.t 6] [70200,70201,70202] [(11,false)] [.c (.ptr 70200 0),.c (.pI a),.c (.pI (2:Int))] [] (.v (.c (.pB false))) (by kernel_rfl) rfl (by kernel_rfl) rfl (by kernel_rfl) Try.call95 (by kernel_rfl) (by kernel_rfl) Try.func95 rfl rfl (by kernel_rfl) (fun hb=>?_) (fun hb=>?_)
  ·have h:=h.1 hb
   refine qV [] ⟨17,[e33c4,sI 1 a,sI 2 (2:Int),e33c8,sI 18 p,sI 19 a,e33c11 c0 p,sp 29 70200,sI 30 a,e33c9],[e33c0,e33c2 c0,e33c1 c1]⟩ (sr (qT 1 ⟨17,[e33c4,sI 1 a,sI 2 (2:Int),e33c8,sI 18 p,sI 19 a,e33c11 c0 p,e33c9],[e33c0,e33c2 c0,e33c1 c1]⟩ (nsr (qA 11 5 5 ⟨17,[sB 6 (decide ((c0.getD ((a).toNat) z3).1=(2:Int))),e33c8,sI 18 p,sI 19 a,e33c11 c0 p,e33c9],[e33c0,e33c2 c0,e33c1 c1]⟩ h fun h=>nn (aw_ret (inlR_r (ob:=True) (.v (.c (.pB (decide ((c0.getD ((a).toNat) z3).1=(2:Int)))))) (by kernel_rfl) trivial rfl ?_))))))
   refine qL ⟨32,[e33c4,sI 1 p,sI 2 a,e33c10 c0 p,sB 14 (decide ((c0.getD ((a).toNat) z3).1=(2:Int))),e33c3],[e33c0,e33c2 c0,e33c1 c1]⟩ (qT 2 ⟨32,[e33c4,sI 1 p,sI 2 a,sB 7 ((csx2 c0 p)||(decide ((c0.getD ((a).toNat) z3).1=(2:Int)))),e33c3],[e33c0,e33c2 c0,e33c1 c1]⟩ (nn (withJoin (σ:=Unit) (fun s=>⟨32,[e33c4,sI 1 p,sI 2 a,e33c3],[e33c0,e33c2 c0,e33c1 c1]⟩) (fun s=>VCc69_k2 p a c0 c1 K) (fun s h=>?_) (fun rest2=>?_))))
   ·have h:VCc69_k2 p a c0 c1 K:=h
    unfold VCc69_k2 at h
    exact blockQ_n (rest1 () h)
   ·refine qI h (fun h=>?_) fun h=>?_
    ·exact qS 2 ⟨32,[sI 6 p,e33c3],[e33c0,e33c2 c0,e33c1 c1]⟩ (aw_ret (blockQ_r (thenQ_r (lret_r (σ:=Int×LN×(List csx0)) (A:=fun y=>.v (.c (.pI y.1))) (H:=fun y=>[e33c0,hA 70201 50 t3 y.2.1,(70202,[],.dict t3 tI y.2.2)]) (ob:=True) (p,c0,c1) (by kernel_rfl) trivial rfl (by kernel_rfl) (by kernel_rfl) (by kernel_rfl) h))))
    ·refine sr (qT 2 ⟨32,[e33c4,sI 1 p,sI 2 a,sp 18 70200,sI 19 a,e33c3],[e33c0,e33c2 c0,e33c1 c1]⟩ (awl_inlr [.t 6] [70200,70201,70202] [.c (.ptr 70200 0),.c (.pI a),.c (.pI (1:Int))] [] rfl rfl (by kernel_rfl) rfl (by kernel_rfl) Try.call95 (by kernel_rfl) (by kernel_rfl) Try.func95 rfl rfl (by kernel_rfl) ?_))
     refine qV [] ⟨17,[e33c4,sI 1 a,sI 2 (1:Int),e33c8,sI 18 p,sI 19 a,sp 35 70200,sI 36 a,e33c9],[e33c0,e33c2 c0,e33c1 c1]⟩ (sr (qT 1 ⟨17,[e33c4,sI 1 a,sI 2 (1:Int),e33c8,sI 18 p,sI 19 a,e33c9],[e33c0,e33c2 c0,e33c1 c1]⟩ (nsr (qA 11 5 5 ⟨17,[sB 6 (csx1 c0 a),e33c8,sI 18 p,sI 19 a,e33c9],[e33c0,e33c2 c0,e33c1 c1]⟩ h fun h=>nn (aw_ret (inlR_r (ob:=True) (.v (.c (.pB (csx1 c0 a)))) (by kernel_rfl) trivial rfl ?_))))))
     refine qL ⟨32,[e33c4,sI 1 p,sI 2 a,sB 20 (csx1 c0 a),e33c3],[e33c0,e33c2 c0,e33c1 c1]⟩ (qR 3 ⟨32,[e33c4,sI 1 p,sI 2 a,e33c5 c0 a,(22,[(21,false)],.v (.c (.ptr 70200 0))),(23,[(21,false)],.v (.c (.pI p))),e33c3],[e33c0,e33c2 c0,e33c1 c1]⟩ (ob:=Ts 1 (Ti 2 ((csx1 c0 a)=false→True) True)) (tsI 1 (tiI 2 (fun _=>trivial) trivial)) ?_)
     refine awl_inlg [.t 6] [70200,70201,70202] [(21,false)] [.c (.ptr 70200 0),.c (.pI p),.c (.pI (2:Int))] [] (.v (.c (.pB false))) (by kernel_rfl) rfl (by kernel_rfl) rfl (by kernel_rfl) Try.call95 (by kernel_rfl) (by kernel_rfl) Try.func95 rfl rfl (by kernel_rfl) (fun hb=>?_) (fun hb=>?_)
     ·have h:=h.1 hb
      refine qV [] ⟨17,[e33c4,sI 1 p,sI 2 (2:Int),e33c8,sI 18 p,sI 19 a,e33c6 c0 a,sp 39 70200,sI 40 p,e33c9],[e33c0,e33c2 c0,e33c1 c1]⟩ (sr (qT 1 ⟨17,[e33c4,sI 1 p,sI 2 (2:Int),e33c8,sI 18 p,sI 19 a,e33c6 c0 a,e33c9],[e33c0,e33c2 c0,e33c1 c1]⟩ (nsr (qA 11 5 5 ⟨17,[sB 6 (csx3 c0 p),e33c8,sI 18 p,sI 19 a,e33c6 c0 a,e33c9],[e33c0,e33c2 c0,e33c1 c1]⟩ h fun h=>nn (aw_ret (inlR_r (ob:=True) (.v (.c (.pB (csx3 c0 p)))) (by kernel_rfl) trivial rfl ?_))))))
      refine qL ⟨32,[e33c4,sI 1 p,sI 2 a,e33c5 c0 a,sB 24 (csx3 c0 p),e33c3],[e33c0,e33c2 c0,e33c1 c1]⟩ (qT 2 ⟨32,[e33c4,sI 1 p,sI 2 a,e33c7 c0 a p,e33c3],[e33c0,e33c2 c0,e33c1 c1]⟩ (nn (qI h (fun h=>?_) fun h=>?_)))
      ·exact qS 2 ⟨32,[sI 6 a,e33c3],[e33c0,e33c2 c0,e33c1 c1]⟩ (aw_ret (blockQ_r (thenQ_r (lret_r (σ:=Int×LN×(List csx0)) (A:=fun y=>.v (.c (.pI y.1))) (H:=fun y=>[e33c0,hA 70201 50 t3 y.2.1,(70202,[],.dict t3 tI y.2.2)]) (ob:=True) (a,c0,c1) (by kernel_rfl) trivial rfl (by kernel_rfl) (by kernel_rfl) (by kernel_rfl) h))))
      ·exact qC ⟨32,[e33c4,sI 1 p,sI 2 a,e33c3],[e33c0,e33c2 c0,e33c1 c1]⟩ (aw_skip (rest2 () h))
     ·have h:=h.2 hb
      refine qL ⟨32,[e33c4,sI 1 p,sI 2 a,e33c5 c0 a,(24,[(21,false)],.v (.c (.pB false))),e33c3],[e33c0,e33c2 c0,e33c1 c1]⟩ (qT 2 ⟨32,[e33c4,sI 1 p,sI 2 a,sB 17 ((csx1 c0 a)||false),e33c3],[e33c0,e33c2 c0,e33c1 c1]⟩ (nn (qI h (fun h=>?_) fun h=>?_)))
      ·exact qS 2 ⟨32,[sI 6 a,e33c3],[e33c0,e33c2 c0,e33c1 c1]⟩ (aw_ret (blockQ_r (thenQ_r (lret_r (σ:=Int×LN×(List csx0)) (A:=fun y=>.v (.c (.pI y.1))) (H:=fun y=>[e33c0,hA 70201 50 t3 y.2.1,(70202,[],.dict t3 tI y.2.2)]) (ob:=True) (a,c0,c1) (by kernel_rfl) trivial rfl (by kernel_rfl) (by kernel_rfl) (by kernel_rfl) h))))
      ·exact qC ⟨32,[e33c4,sI 1 p,sI 2 a,e33c3],[e33c0,e33c2 c0,e33c1 c1]⟩ (aw_skip (rest2 () h))
  ·have h:=h.2 hb
   refine qL ⟨32,[e33c4,sI 1 p,sI 2 a,e33c10 c0 p,(14,[(11,false)],.v (.c (.pB false))),e33c3],[e33c0,e33c2 c0,e33c1 c1]⟩ (qT 2 ⟨32,[e33c4,sI 1 p,sI 2 a,sB 7 ((csx2 c0 p)||false),e33c3],[e33c0,e33c2 c0,e33c1 c1]⟩ (nn (withJoin (σ:=Unit) (fun s=>⟨32,[e33c4,sI 1 p,sI 2 a,e33c3],[e33c0,e33c2 c0,e33c1 c1]⟩) (fun s=>VCc69_k3 p a c0 c1 K) (fun s h=>?_) (fun rest3=>?_))))
   ·have h:VCc69_k3 p a c0 c1 K:=h
    unfold VCc69_k3 at h
    exact blockQ_n (rest1 () h)
   ·refine qI h (fun h=>?_) fun h=>?_
    ·exact qS 2 ⟨32,[sI 6 p,e33c3],[e33c0,e33c2 c0,e33c1 c1]⟩ (aw_ret (blockQ_r (thenQ_r (lret_r (σ:=Int×LN×(List csx0)) (A:=fun y=>.v (.c (.pI y.1))) (H:=fun y=>[e33c0,hA 70201 50 t3 y.2.1,(70202,[],.dict t3 tI y.2.2)]) (ob:=True) (p,c0,c1) (by kernel_rfl) trivial rfl (by kernel_rfl) (by kernel_rfl) (by kernel_rfl) h))))
    ·refine sr (qT 2 ⟨32,[e33c4,sI 1 p,sI 2 a,sp 18 70200,sI 19 a,e33c3],[e33c0,e33c2 c0,e33c1 c1]⟩ (awl_inlr [.t 6] [70200,70201,70202] [.c (.ptr 70200 0),.c (.pI a),.c (.pI (1:Int))] [] rfl rfl (by kernel_rfl) rfl (by kernel_rfl) Try.call95 (by kernel_rfl) (by kernel_rfl) Try.func95 rfl rfl (by kernel_rfl) ?_))
     refine qV [] ⟨17,[e33c4,sI 1 a,sI 2 (1:Int),e33c8,sI 18 p,sI 19 a,sp 35 70200,sI 36 a,e33c9],[e33c0,e33c2 c0,e33c1 c1]⟩ (sr (qT 1 ⟨17,[e33c4,sI 1 a,sI 2 (1:Int),e33c8,sI 18 p,sI 19 a,e33c9],[e33c0,e33c2 c0,e33c1 c1]⟩ (nsr (qA 11 5 5 ⟨17,[sB 6 (csx1 c0 a),e33c8,sI 18 p,sI 19 a,e33c9],[e33c0,e33c2 c0,e33c1 c1]⟩ h fun h=>nn (aw_ret (inlR_r (ob:=True) (.v (.c (.pB (csx1 c0 a)))) (by kernel_rfl) trivial rfl ?_))))))
     refine qL ⟨32,[e33c4,sI 1 p,sI 2 a,sB 20 (csx1 c0 a),e33c3],[e33c0,e33c2 c0,e33c1 c1]⟩ (qR 3 ⟨32,[e33c4,sI 1 p,sI 2 a,e33c5 c0 a,(22,[(21,false)],.v (.c (.ptr 70200 0))),(23,[(21,false)],.v (.c (.pI p))),e33c3],[e33c0,e33c2 c0,e33c1 c1]⟩ (ob:=Ts 1 (Ti 2 ((csx1 c0 a)=false→True) True)) (tsI 1 (tiI 2 (fun _=>trivial) trivial)) ?_)
     refine awl_inlg [.t 6] [70200,70201,70202] [(21,false)] [.c (.ptr 70200 0),.c (.pI p),.c (.pI (2:Int))] [] (.v (.c (.pB false))) (by kernel_rfl) rfl (by kernel_rfl) rfl (by kernel_rfl) Try.call95 (by kernel_rfl) (by kernel_rfl) Try.func95 rfl rfl (by kernel_rfl) (fun hb=>?_) (fun hb=>?_)
     ·have h:=h.1 hb
      refine qV [] ⟨17,[e33c4,sI 1 p,sI 2 (2:Int),e33c8,sI 18 p,sI 19 a,e33c6 c0 a,sp 39 70200,sI 40 p,e33c9],[e33c0,e33c2 c0,e33c1 c1]⟩ (sr (qT 1 ⟨17,[e33c4,sI 1 p,sI 2 (2:Int),e33c8,sI 18 p,sI 19 a,e33c6 c0 a,e33c9],[e33c0,e33c2 c0,e33c1 c1]⟩ (nsr (qA 11 5 5 ⟨17,[sB 6 (csx3 c0 p),e33c8,sI 18 p,sI 19 a,e33c6 c0 a,e33c9],[e33c0,e33c2 c0,e33c1 c1]⟩ h fun h=>nn (aw_ret (inlR_r (ob:=True) (.v (.c (.pB (csx3 c0 p)))) (by kernel_rfl) trivial rfl ?_))))))
      refine qL ⟨32,[e33c4,sI 1 p,sI 2 a,e33c5 c0 a,sB 24 (csx3 c0 p),e33c3],[e33c0,e33c2 c0,e33c1 c1]⟩ (qT 2 ⟨32,[e33c4,sI 1 p,sI 2 a,e33c7 c0 a p,e33c3],[e33c0,e33c2 c0,e33c1 c1]⟩ (nn (qI h (fun h=>?_) fun h=>?_)))
      ·exact qS 2 ⟨32,[sI 6 a,e33c3],[e33c0,e33c2 c0,e33c1 c1]⟩ (aw_ret (blockQ_r (thenQ_r (lret_r (σ:=Int×LN×(List csx0)) (A:=fun y=>.v (.c (.pI y.1))) (H:=fun y=>[e33c0,hA 70201 50 t3 y.2.1,(70202,[],.dict t3 tI y.2.2)]) (ob:=True) (a,c0,c1) (by kernel_rfl) trivial rfl (by kernel_rfl) (by kernel_rfl) (by kernel_rfl) h))))
      ·exact qC ⟨32,[e33c4,sI 1 p,sI 2 a,e33c3],[e33c0,e33c2 c0,e33c1 c1]⟩ (aw_skip (rest3 () h))
     ·have h:=h.2 hb
      refine qL ⟨32,[e33c4,sI 1 p,sI 2 a,e33c5 c0 a,(24,[(21,false)],.v (.c (.pB false))),e33c3],[e33c0,e33c2 c0,e33c1 c1]⟩ (qT 2 ⟨32,[e33c4,sI 1 p,sI 2 a,sB 17 ((csx1 c0 a)||false),e33c3],[e33c0,e33c2 c0,e33c1 c1]⟩ (nn (qI h (fun h=>?_) fun h=>?_)))
      ·exact qS 2 ⟨32,[sI 6 a,e33c3],[e33c0,e33c2 c0,e33c1 c1]⟩ (aw_ret (blockQ_r (thenQ_r (lret_r (σ:=Int×LN×(List csx0)) (A:=fun y=>.v (.c (.pI y.1))) (H:=fun y=>[e33c0,hA 70201 50 t3 y.2.1,(70202,[],.dict t3 tI y.2.2)]) (ob:=True) (a,c0,c1) (by kernel_rfl) trivial rfl (by kernel_rfl) (by kernel_rfl) (by kernel_rfl) h))))
      ·exact qC ⟨32,[e33c4,sI 1 p,sI 2 a,e33c3],[e33c0,e33c2 c0,e33c1 c1]⟩ (aw_skip (rest3 () h))
def VCc69_it  : Nat→Int→Int→LN→Lqa→(Int×LN×Lqa→Prop)→Prop
  | 0=>fun _ _ _ _ _=>False
  | n+1=>fun p a c0 c1 K=>VCc69  (VCc69_it  n) p a c0 c1 K
def VCcr69  (p a:Int) (c0:LN) (c1:Lqa) (K:Int×LN×Lqa→Prop):Prop:=∃ n,VCc69_it  n p a c0 c1 K
theorem linkci69  : ∀ (n:Nat) (p a:Int) (c0:LN) (c1:Lqa) (K:Int×LN×Lqa→Prop),VCc69_it  n p a c0 c1 K→LCalls Try.prog 69 [70200,70201,70202] [70200] [e33c0,e33c2 c0,e33c1 c1] [.c (.ptr 70200 0),.c (.pI p),.c (.pI a)] (fun av hp'=>∃ y:Int×LN×Lqa,av=.v (.c (.pI y.1))∧hp'=[e33c0,hA 70201 50 t3 y.2.1,(70202,[],.dict t3 tI y.2.2)]∧K y)
  | 0,_,_,_,_,_,h=>False.elim h
  | n+1,p,a,c0,c1,K,h=>linkc69  (VCc69_it  n) (linkci69  n) p a c0 c1 K h
theorem linkcr69  (p a:Int) (c0:LN) (c1:Lqa) (K:Int×LN×Lqa→Prop) (h:VCcr69  p a c0 c1 K):LCalls Try.prog 69 [70200,70201,70202] [70200] [e33c0,e33c2 c0,e33c1 c1] [.c (.ptr 70200 0),.c (.pI p),.c (.pI a)] (fun av hp'=>∃ y:Int×LN×Lqa,av=.v (.c (.pI y.1))∧hp'=[e33c0,hA 70201 50 t3 y.2.1,(70202,[],.dict t3 tI y.2.2)]∧K y):=by
  obtain ⟨n,h⟩:=h
  exact linkci69  n p a c0 c1 K h
end Dec
