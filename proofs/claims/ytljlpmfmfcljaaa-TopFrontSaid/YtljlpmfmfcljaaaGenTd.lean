/-
Printed by dec2.py: of each function its plain demand, and that the demand gives the contract.
-/
import Derived.Test.YtljlpmfmfcljaaaGenTc
set_option linter.unusedSimpArgs false
set_option linter.unusedVariables false
set_option maxRecDepth 100000
namespace Dec
open Go Go.RowKit Go.Proofs
abbrev e13_0 (script:LD) (v33:Int):Nat×Path×Con:=hB 5 [.pI (((script.getD (v33).toNat zD).2.2.1).length:Int),.pI (((script.getD (v33).toNat zD).2.2.1).getD 0 0),.pI (((script.getD (v33).toNat zD).2.2.1).getD 1 0),.pI (((script.getD (v33).toNat zD).2.2.1).getD 2 0),.pI (((script.getD (v33).toNat zD).2.2.1).getD 3 0),.pI (((script.getD (v33).toNat zD).2.2.1).getD 4 0),.pI (((script.getD (v33).toNat zD).2.2.1).getD 5 0),.pI (((script.getD (v33).toNat zD).2.2.1).getD 6 0),.pI (((script.getD (v33).toNat zD).2.2.1).getD 7 0),.pI (((script.getD (v33).toNat zD).2.2.1).getD 8 0),.pI (((script.getD (v33).toNat zD).2.2.1).getD 9 0),.pI (((script.getD (v33).toNat zD).2.2.1).getD 10 0),.pI (((script.getD (v33).toNat zD).2.2.1).getD 11 0)]
abbrev e13_1 (k:Int) (n:Int) (sv:LR):Nat×Path×Con:=hB 30000 [.pI k,.pI n,.pI (0:Int),.p (.sl tR) sv,.own 30200]
abbrev e13_2 (l10:LS):Nat×Path×Con:=(30200,[],.dict (.pr tI (.ar 11 tI)) (.pr tI tI) l10)
abbrev e13_3 (out:LO):Nat×Path×Con:=hA 30201 48 (.pr tI tR) out
abbrev e13_4 (script:LD):Nat×Path×AV:=s1 116 (.p (.sl (.pr tI (.pr tR (.pr (.sl tI) tR)))) script)
abbrev e13_5 (script:LD) (v33:Int):Nat×Path×Con:=hB 3 [.pI ((script.getD (v33).toNat zD).1),.pI ((script.getD (v33).toNat zD).2.1.1),.pS ((script.getD (v33).toNat zD).2.1.2),.pS ((script.getD (v33).toNat zD).2.2.1),.pI ((script.getD (v33).toNat zD).2.2.2.1),.pS ((script.getD (v33).toNat zD).2.2.2.2)]
abbrev e13_6 (script:LD):Nat×Path×AV:=s1 164 (.p (.sl (.pr tI (.pr tR (.pr (.sl tI) tR)))) script)
abbrev e13_7 (l10:LS) (script:LD) (v33:Int):Nat×Path×Con:=hB 6 [.pI (((mget l10 ((((script.getD (v33).toNat zD).2.2.1).length:Int),(a12 ((script.getD (v33).toNat zD).2.2.1)))).getD ((0:Int),(0:Int))).1),.pI (((mget l10 ((((script.getD (v33).toNat zD).2.2.1).length:Int),(a12 ((script.getD (v33).toNat zD).2.2.1)))).getD ((0:Int),(0:Int))).2)]
abbrev e13_8 (script:LD):Nat×Path×AV:=s1 168 (.p (.sl (.pr tI (.pr tR (.pr (.sl tI) tR)))) script)
abbrev e13_9:Nat×Path×Con:=(10,[],.dict (.pr tI (.ar 11 tI)) (.pr tI tI) ([]:LS))
abbrev e13_10:Nat×Path×Con:=hB 4 [.pI (0:Int),.pI (0:Int),.nils]
abbrev e13_11 (ret16v:LR) (script:LD) (v33:Int) (ret21v:LI):Nat×Path×Con:=hA 24 40 tR (ret16v++[((script.getD (v33).toNat zD).2.1.1,ret21v)])
abbrev e13_12 (script:LD):Nat×Path×AV:=s1 31 (.p (.sl (.pr tI (.pr tR (.pr (.sl tI) tR)))) script)
abbrev e13_13 (script:LD):Nat×Path×AV:=s1 2 (.p (.sl (.pr tI (.pr tR (.pr (.sl tI) tR)))) script)
abbrev e13_14:Nat×Path×Con:=hB 30400 [.pI (0:Int),.pI (0:Int),.nils]
abbrev e13_15 (script:LD) (v33:Int):Nat×Path×AV:=s1 1 (.pS ((script.getD (v33).toNat zD).2.2.1))
abbrev e13_16 (script:LD):Nat×Path×AV:=sI 117 (script.length:Int)
abbrev e13_17 (script:LD) (v33:Int):Nat×Path×AV:=sA 39 [.pI ((script.getD (v33).toNat zD).1),.pI ((script.getD (v33).toNat zD).2.1.1),.pS ((script.getD (v33).toNat zD).2.1.2),.pS ((script.getD (v33).toNat zD).2.2.1),.pI ((script.getD (v33).toNat zD).2.2.2.1),.pS ((script.getD (v33).toNat zD).2.2.2.2)]
abbrev e13_18 (l10:LS) (script:LD) (v33:Int):Nat×Path×AV:=sA 26 [.pI (((mget l10 ((((script.getD (v33).toNat zD).2.2.1).length:Int),(a12 ((script.getD (v33).toNat zD).2.2.1)))).getD ((0:Int),(0:Int))).1),.pI (((mget l10 ((((script.getD (v33).toNat zD).2.2.1).length:Int),(a12 ((script.getD (v33).toNat zD).2.2.1)))).getD ((0:Int),(0:Int))).2)]
abbrev e13_19:Nat×Path×Con:=hB 30900 [.pI (0:Int),.pI (0:Int),.nils]
abbrev e13_20 (ret16v:LR) (script:LD) (v33:Int) (ret21v:LI):Nat×Path×Con:=hA 30601 40 tR (ret16v++[((script.getD (v33).toNat zD).2.1.1,ret21v)])
abbrev e13_21:Nat×Path×Con:=hB 30800 [.pI (0:Int),.pI (0:Int),.nils]
abbrev e13_22:Nat×Path×AV:=s1 122 (.own 30201)
abbrev e13_23 (l30200:LS):Nat×Path×Con:=(30200,[],.dict (.pr tI (.ar 11 tI)) (.pr tI tI) l30200)
abbrev e13_24 (script:LD):Nat×Path×AV:=s1 129 (.p (.sl (.pr tI (.pr tR (.pr (.sl tI) tR)))) script)
abbrev e13_25 (l10:LS) (script:LD) (v33:Int):Nat×Path×AV:=sB 27 ((mget l10 ((((script.getD (v33).toNat zD).2.2.1).length:Int),(a12 ((script.getD (v33).toNat zD).2.2.1)))).isSome)
abbrev e13_26 (script:LD):Nat×Path×AV:=sI 165 (script.length:Int)
abbrev e13_27 (k:Int) (n:Int) (sv:LR):Nat×Path×Con:=hB 5 [.pI k,.pI n,.pI (0:Int),.p (.sl tR) sv]
abbrev e13_28 (script:LD) (v33:Int):Nat×Path×Con:=hB 5 [.pI (((script.getD (v33).toNat zD).2.2.1).length:Int),.pI (0:Int),.pI (0:Int),.pI (0:Int),.pI (0:Int),.pI (0:Int),.pI (0:Int),.pI (0:Int),.pI (0:Int),.pI (0:Int),.pI (0:Int),.pI (0:Int),.pI (0:Int)]
abbrev e13_29 (script:LD):Nat×Path×AV:=sI 169 (script.length:Int)
abbrev e13_30 (k:Int) (n:Int) (sv2:LR):Nat×Path×Con:=hB 30000 [.pI k,.pI n,.pI (0:Int),.p (.sl tR) sv2,.own 30200]
abbrev e13_31:Nat×Path×AV:=sp 0 30000
abbrev e13_32:Nat×Path×AV:=sp 93 30000
abbrev e13_33 (script:LD) (v33:Int):Nat×Path×AV:=sI 10 ((script.getD (v33).toNat zD).1)
abbrev e13_34:Nat×Path×AV:=s1 170 (.own 30201)
abbrev e13_35 (ret41v:LR):Nat×Path×Con:=hA 41 40 tR ret41v
abbrev e13_36 (k:Int) (n:Int):Nat×Path×Con:=hB 30000 [.pI k,.pI n,.pI (0:Int),.nils,.own 10]
abbrev e13_37 (script:LD) (v33:Int):Nat×Path×AV:=sA 15 [.pI ((script.getD (v33).toNat zD).2.1.1),.pS ((script.getD (v33).toNat zD).2.1.2)]
abbrev e13_38 (script:LD) (v33:Int):Nat×Path×Con:=hB 3 [.pI ((script.getD (v33).toNat zD).2.1.1),.pS ((script.getD (v33).toNat zD).2.1.2)]
abbrev e13_39 (script:LD):Nat×Path×AV:=s1 177 (.p (.sl (.pr tI (.pr tR (.pr (.sl tI) tR)))) script)
abbrev e13_40 (script:LD):Nat×Path×AV:=s1 15 (.p (.sl (.pr tI (.pr tR (.pr (.sl tI) tR)))) script)
abbrev e13_41:Nat×Path×AV:=s1 174 (.own 30201)
abbrev e13_42 (k:Int) (n:Int):Nat×Path×Con:=hB 5 [.pI k,.pI n,.pI (0:Int),.own 24]
abbrev e13_43 (script:LD) (v33:Int):Nat×Path×AV:=sI 18 ((script.getD (v33).toNat zD).2.1.1)
abbrev e13_44 (out:LO):Nat×Path×Con:=hA 5010 48 (.pr tI tR) out
abbrev e13_45 (k:Int) (n:Int):Nat×Path×Con:=hB 30000 [.pI k,.pI n,.pI (0:Int),.own 41,.own 10]
abbrev e13_46:Nat×Path×AV:=sp 141 30000
abbrev e13_47 (script:LD):Nat×Path×AV:=sI 32 (script.length:Int)
abbrev e13_48:Nat×Path×AV:=sp 52 30400
abbrev e13_49 (k:Int) (n:Int) (sv:LR):Nat×Path×Con:=hB 30000 [.pI k,.pI n,.pI (0:Int),.p (.sl tR) sv,.own 10]
abbrev e13_50 (l10:LS):Nat×Path×Con:=(10,[],.dict (.pr tI (.ar 11 tI)) (.pr tI tI) l10)
abbrev e13_51:Nat×Path×AV:=sp 145 30000
abbrev e13_52 (ret16v:LR):Nat×Path×Con:=hA 16 40 tR ret16v
abbrev e13_53:Nat×Path×Con:=(30200,[],.dict (.pr tI (.ar 11 tI)) (.pr tI tI) ([]:LS))
abbrev e13_54:Nat×Path×AV:=sp 56 30900
abbrev e13_55:Nat×Path×Con:=hB 30600 [.pI (0:Int),.pI (0:Int),.nils]
abbrev e13_56 (sv:LR):Nat×Path×AV:=s1 40 (.p (.sl tR) (sv.take (((sv.length:Int)-(1:Int))).toNat))
abbrev e13_57:Nat×Path×AV:=sp 8 30000
abbrev e13_58 (k:Int) (n:Int):Nat×Path×Con:=hB 30000 [.pI k,.pI n,.pI (0:Int),.own 30601,.own 10]
abbrev e13_59 (sv:LR):Nat×Path×AV:=s1 32 (.p (.sl tR) sv)
abbrev e13_60 (k:Int) (n:Int):Nat×Path×Con:=hB 30000 [.pI k,.pI n,.pI (0:Int),.nils,.nilm]
abbrev e13_61:Nat×Path×AV:=sp 4 30800
abbrev e13_62:Nat×Path×AV:=s1 10 (.own 5010)
abbrev e13_63:Nat×Path×AV:=s1 135 (.own 30201)
abbrev e13_64:Nat×Path×AV:=sp 27 30000
abbrev e13_n0:List Nat:=[4,93,116,117,118,122]
abbrev e13_n1:List Nat:=[41,30000,30200,30201,30800]
abbrev e13_n2:List Nat:=[13,12,11,10,9,8,7,6,5,4,3,2,1,0]
-- coppicer/stand.Play
def VC13_k1 (K:LO×Int→Prop) (out:LO):Prop :=
  K (out,(0:Int))
def VC13_k2 (v33:Int) (out:LO) (X1:Int×LS×LO×LR→Prop) (sv2:LR) (l30200:LS) (l30400:Int) (l304002:Int) (l304003:LI):Prop :=
  (roomW 40 (out.length+[(l30400,(l304002,l304003))].length)∧(InR (v33+(1:Int))∧X1 ((v33+(1:Int)),l30200,(out++[(l30400,(l304002,l304003))]),sv2)))
def VC13_k3 (v33:Int) (out:LO) (X1:Int×LS×LO×LR→Prop) (l4:Int) (l42:Int) (sv2:LR) (l30200:LS):Prop :=
  VC13_k2 v33 out X1 sv2 l30200 l4 l42 ([]:List Int)
def VC13_k4 (v33:Int) (out:LO) (X1:Int×LS×LO×LR→Prop) (l41:LR):Prop :=
  VC13_k2 v33 out X1 l41 ([]:LS) (0:Int) (0:Int) ([]:List Int)
def VC13_k5 (v33:Int) (out:LO) (sv:LR) (X1:Int×LS×LO×LR→Prop) (l4:Int) (l42:Int) (l30200:LS):Prop :=
  VC13_k2 v33 out X1 sv l30200 l4 l42 ([]:List Int)
def VC13_k6 (v33:Int) (out:LO) (sv:LR) (X1:Int×LS×LO×LR→Prop) (a:Int) (a2:Int) (l30200:LS):Prop :=
  VC13_k5 v33 out sv X1 a2 a l30200
def VC13_l1 (k:Int) (n:Int) (script:LD) (K:LO×Int→Prop) (v33:Int) (l10:LS) (out:LO) (sv:LR) (X1:Int×LS×LO×LR→Prop):Prop :=
  (((decide (v33<(script.length:Int)))=true→(inIdx v33 script.length∧(((decide ((script.getD (v33).toNat zD).1=(1:Int)))=true→VC42 sv (fun (ret16v:LR)=>VC54 ((script.getD (v33).toNat zD).2.1.2) (fun (ret21v:LI)=>(roomW 32 (ret16v.length+[((script.getD (v33).toNat zD).2.1.1,ret21v)].length)∧VC25 (k,(n,((0:Int),(ret16v++[((script.getD (v33).toNat zD).2.1.1,ret21v)])))) (fun (ret27v:Int)=>(((!decide (ret27v=(0:Int)))=true→VC13_k3 v33 out X1 ret27v (0:Int) sv l10)∧((!decide (ret27v=(0:Int)))=false→VC55 (k,(n,((0:Int),(ret16v++[((script.getD (v33).toNat zD).2.1.1,ret21v)])))) (fun (ret33v:Bool)=>(((!ret33v)=true→VC13_k3 v33 out X1 (3:Int) (0:Int) sv l10)∧((!ret33v)=false→(InR (((ret16v++[((script.getD (v33).toNat zD).2.1.1,ret21v)]).length:Int)-(1:Int))∧VC13_k3 v33 out X1 (0:Int) (((ret16v++[((script.getD (v33).toNat zD).2.1.1,ret21v)]).length:Int)-(1:Int)) (ret16v++[((script.getD (v33).toNat zD).2.1.1,ret21v)]) ([]:LS))))))))))))∧((decide ((script.getD (v33).toNat zD).1=(1:Int)))=false→(((decide ((script.getD (v33).toNat zD).1=(2:Int)))=true→(((decide ((sv.length:Int)=(0:Int)))=true→VC13_k2 v33 out X1 sv l10 (5:Int) (0:Int) ([]:List Int))∧((decide ((sv.length:Int)=(0:Int)))=false→((InR ((sv.length:Int)-(1:Int))∧(0≤((sv.length:Int)-(1:Int))∧((sv.length:Int)-(1:Int))≤(sv.length:Int))∧VC42 (sv.take (((sv.length:Int)-(1:Int))).toNat) (fun (ret41v:LR)=>VC13_k4 v33 out X1 ret41v))∧(InR ((sv.length:Int)-(1:Int))∧((0≤((sv.length:Int)-(1:Int))∧((sv.length:Int)-(1:Int))≤(sv.length:Int))∧VC42 (sv.take (((sv.length:Int)-(1:Int))).toNat) (fun (ret41v:LR)=>VC13_k4 v33 out X1 ret41v)))))))∧((decide ((script.getD (v33).toNat zD).1=(2:Int)))=false→(((decide ((script.getD (v33).toNat zD).1=(3:Int)))=true→(((decide ((12:Int)<(((script.getD (v33).toNat zD).2.2.1).length:Int)))=true→VC13_k5 v33 out sv X1 (1:Int) (0:Int) l10)∧((decide ((12:Int)<(((script.getD (v33).toNat zD).2.2.1).length:Int)))=false→(((!(mget l10 ((((script.getD (v33).toNat zD).2.2.1).length:Int),(a12 ((script.getD (v33).toNat zD).2.2.1)))).isSome)=true→VC56 (k,(n,((0:Int),sv))) ((script.getD (v33).toNat zD).2.2.1) (fun (ret36v:Int×Int)=>VC13_k6 v33 out sv X1 ret36v.1 ret36v.2 (mset l10 ((((script.getD (v33).toNat zD).2.2.1).length:Int),(a12 ((script.getD (v33).toNat zD).2.2.1))) ret36v)))∧((!(mget l10 ((((script.getD (v33).toNat zD).2.2.1).length:Int),(a12 ((script.getD (v33).toNat zD).2.2.1)))).isSome)=false→VC13_k6 v33 out sv X1 (((mget l10 ((((script.getD (v33).toNat zD).2.2.1).length:Int),(a12 ((script.getD (v33).toNat zD).2.2.1)))).getD ((0:Int),(0:Int))).1) (((mget l10 ((((script.getD (v33).toNat zD).2.2.1).length:Int),(a12 ((script.getD (v33).toNat zD).2.2.1)))).getD ((0:Int),(0:Int))).2) l10)))))∧((decide ((script.getD (v33).toNat zD).1=(3:Int)))=false→(((decide ((script.getD (v33).toNat zD).1=(4:Int)))=true→VC44 (k,(n,((0:Int),sv))) ((script.getD (v33).toNat zD).2.2.1) ((script.getD (v33).toNat zD).2.2.2.1) (fun (ret61v:LI×Int)=>VC13_k2 v33 out X1 sv l10 ret61v.2 (0:Int) ret61v.1))∧((decide ((script.getD (v33).toNat zD).1=(4:Int)))=false→(((decide ((script.getD (v33).toNat zD).1=(5:Int)))=true→VC45 (k,(n,((0:Int),sv))) ((script.getD (v33).toNat zD).2.2.1) ((script.getD (v33).toNat zD).2.2.2.2) (fun (ret78v:Int×Int)=>VC13_k2 v33 out X1 sv l10 ret78v.2 ret78v.1 ([]:List Int)))∧((decide ((script.getD (v33).toNat zD).1=(5:Int)))=false→VC13_k2 v33 out X1 sv l10 (6:Int) (0:Int) ([]:List Int)))))))))))))∧((decide (v33<(script.length:Int)))=false→VC13_k1 K out))
def VC13 (k:Int) (n:Int) (script:LD) (K:LO×Int→Prop):Prop :=
  VC25 (k,(n,((0:Int),([]:LR)))) (fun (ret24v:Int)=>(((!decide (ret24v=(0:Int)))=true→K (([]:LO),ret24v))∧((!decide (ret24v=(0:Int)))=false→(((decide ((40:Int)<(script.length:Int)))=true→K (([]:LO),(1:Int)))∧((decide ((40:Int)<(script.length:Int)))=false→Loop (σ:=Int×LS×LO×LR) (fun s X=>VC13_l1 k n script K s.1 s.2.1 s.2.2.1 s.2.2.2 X) ((0:Int),([]:LS),([]:LO),([]:List (Int×LI))))))))
set_option maxHeartbeats 4000000 in
theorem link13 (k:Int) (n:Int) (script:LD) (K:LO×Int→Prop) (h:VC13 k n script K):ACalls Try.prog 13 [toV1 tI k,toV1 tI n,toV1 (.sl (.pr tI (.pr tR (.pr (.sl tI) tR)))) script] (fun res=>∃ y,res=(fun y=>[toV1 (.sl (.pr tI tR)) y.1,toV1 tI y.2]) y∧K y):=by
 refine acalls_of_aw [(.sl (.pr tI tR)),tI] [.t 6,.t 7] Try.func13 rfl rfl rfl ?_
 unfold VC13 at h
 refine sr ?_
 refine rqT 2 ⟨45,[sI 0 k,sI 1 n,e13_13 script],[]⟩ (by kernel_rfl) ?_
 refine nsr ?_
 refine rqT 6 ⟨45,[e13_13 script,sp 8 17],[hB 17 [.pI k,.pI n,.pI (0:Int),.nils,.nilm]]⟩ (by kernel_rfl) ?_
 refine nsr ?_
 refine rqT 1 ⟨45,[e13_13 script,sp 8 17,sp 18 17],[hB 17 [.pI k,.pI n,.pI (0:Int),.nils,.nilm]]⟩ (by kernel_rfl) ?_
 refine awl_conv [.ren 17 30000] (st':=(⟨45,[e13_13 script,e13_57,sp 18 30000],[e13_60 k n]⟩:St)) (by kernel_rfl) ?_
 refine awl_inlr [] [30000] [.c (.ptr 30000 0),.c (.nils)] [] rfl rfl (by kernel_rfl) rfl (by kernel_rfl) Try.call24 (by kernel_rfl) (by kernel_rfl) Try.func24 rfl rfl (by kernel_rfl) ?_
 refine aw_conv [] (st':=(⟨13,[e13_31,s1 1 (.nils),e13_40 script,sp 21 30000,sp 31 30000],[e13_60 k n]⟩:St)) (by kernel_rfl) ?_
 refine srn 6 ⟨13,[e13_31,e13_40 script,sp 21 30000],[e13_60 k n]⟩ (by kernel_rfl) rfl ?_
 refine aw_region ?_
 refine rqT 5 ⟨13,[e13_40 script,sp 21 30000],[e13_9,e13_36 k n]⟩ (by kernel_rfl) ?_
 refine awl_nil ?_
 refine inlR_n (ob:=True) (.tup []) (by kernel_rfl) trivial rfl ?_
 refine lpr (st':=(⟨45,[e13_13 script,e13_57],[e13_9,e13_36 k n]⟩:St)) (by kernel_rfl) ?_
 refine nn ?_
 refine aw_seq ?_
 refine sr ?_
 refine rqT 4 ⟨45,[e13_13 script,e13_57,sA 23 [.pI k,.pI n,.pI (0:Int),.nils]],[e13_9,e13_36 k n]⟩ (by kernel_rfl) ?_
 refine lcq (d:=24) [.d tG] (fun ret24v=>(⟨45,[e13_13 script,e13_57,sI 24 ret24v],[e13_9,e13_36 k n]⟩:St)) (by kernel_rfl) Try.call25 (fun _=>by kernel_rfl) (link25 (k,(n,((0:Int),([]:LR)))) _ h) (fun ret24v h=>?_)
 refine rqT 1 ⟨45,[e13_13 script,e13_57,sI 9 ret24v],[e13_9,e13_36 k n]⟩ (by kernel_rfl) ?_
 refine nsr ?_
 refine rqT 2 ⟨45,[e13_13 script,e13_57,sI 9 ret24v,sB 26 (!decide (ret24v=(0:Int)))],[e13_9,e13_36 k n]⟩ (by kernel_rfl) ?_
 refine nn ?_
 refine aw_cond (b:=(!decide (ret24v=(0:Int)))) (by kernel_rfl) (fun hb=>?_) (fun hb=>?_)
 ·have h:=h.1 hb
  refine srn 3 ⟨45,[s1 6 (.nils),sI 7 ret24v],[]⟩ (by kernel_rfl) rfl ?_
  refine aw_ret ?_
  refine thenQ_r ?_
  exact retQ_r (ob:=Ts 2 True) _ (by kernel_rfl) (tsI 2 trivial) h
 ·have h:=h.2 hb
  refine aw_skip ?_
  refine thenQ_n ?_
  refine aw_seq ?_
  refine srn 3 ⟨45,[e13_13 script,e13_57,sB 30 (decide ((40:Int)<(script.length:Int)))],[e13_9,e13_36 k n]⟩ (by kernel_rfl) rfl ?_
  refine aw_cond (b:=(decide ((40:Int)<(script.length:Int)))) (by kernel_rfl) (fun hb=>?_) (fun hb=>?_)
  ·have h:=h.1 hb
   refine srn 2 ⟨45,[s1 6 (.nils),sI 7 (1:Int)],[]⟩ (by kernel_rfl) rfl ?_
   refine aw_ret ?_
   refine thenQ_r ?_
   exact retQ_r (ob:=Ts 2 True) _ (by kernel_rfl) (tsI 2 trivial) h
  ·have h:=h.2 hb
   refine aw_skip ?_
   refine thenQ_n ?_
   refine srn 1 ⟨45,[e13_13 script,e13_57,s1 10 (.nils)],[e13_9,e13_36 k n]⟩ (by kernel_rfl) rfl ?_
   refine aw_seq ?_
   refine srn 3 ⟨45,[e13_57,s1 10 (.nils),e13_12 script,e13_47 script,sI 33 (0:Int)],[e13_9,e13_36 k n]⟩ (by kernel_rfl) rfl ?_
   refine withJoin (σ:=LO) (fun s=>(⟨45,[e13_62],[hA 5010 48 (.pr tI tR) s]⟩:St)) (fun s=>VC13_k1 K s) (fun out h=>?_) (fun rest1=>?_)
   ·have h:VC13_k1 K out:=h
    unfold VC13_k1 at h
    refine thenQ_n ?_
    refine srn 3 ⟨45,[s1 6 (.own 5010),sI 7 (0:Int)],[e13_44 out]⟩ (by kernel_rfl) rfl ?_
    refine aw_conv [.freeze 5010] (st':=(⟨45,[s1 6 (.p (.sl (.pr tI tR)) out),sI 7 (0:Int)],[]⟩:St)) (by kernel_rfl) ?_
    refine aw_ret ?_
    exact retQ_r (ob:=Ts 2 True) _ (by kernel_rfl) (tsI 2 trivial) h
   ·refine aw_block ?_
    refine aw_conv [.nilOwn 10 5010 48 (.pr tI tR),.nilPB 30000 3 tR,.prune [8,10,31,32,33] [10,5010,30000]] (st':=(⟨45,[e13_57,e13_62,e13_12 script,e13_47 script,sI 33 (0:Int)],[e13_9,hA 5010 48 (.pr tI tR) ([]:LO),hB 30000 [.pI k,.pI n,.pI (0:Int),.p (.sl tR) ([]:List (Int×LI)),.own 10]]⟩:St)) (by kernel_rfl) ?_
    refine aw_loop (σ:=Int×LS×LO×LR) (fun s=>(⟨45,[e13_57,e13_62,e13_12 script,e13_47 script,sI 33 s.1],[(10,[],.dict (.pr tI (.ar 11 tI)) (.pr tI tI) s.2.1),hA 5010 48 (.pr tI tR) s.2.2.1,hB 30000 [.pI k,.pI n,.pI (0:Int),.p (.sl tR) s.2.2.2,.own 10]]⟩:St)) (fun s X=>VC13_l1 k n script K s.1 s.2.1 s.2.2.1 s.2.2.2 X) (s0:=((0:Int),([]:LS),([]:LO),([]:List (Int×LI)))) (fun s X1 h=>?_) h
    obtain ⟨v33,l10,out,sv⟩:=s
    have h:VC13_l1 k n script K v33 l10 out sv X1:=h
    unfold VC13_l1 at h
    refine srn 1 ⟨45,[e13_57,e13_62,e13_12 script,e13_47 script,sI 33 v33,sB 34 (decide (v33<(script.length:Int)))],[e13_50 l10,e13_44 out,e13_49 k n sv]⟩ (by kernel_rfl) rfl ?_
    refine aw_seq ?_
    refine aw_cond (b:=(decide (v33<(script.length:Int)))) (by kernel_rfl) (fun hb=>?_) (fun hb=>?_)
    ·have h:=h.1 hb
     refine aw_skip ?_
     refine thenQ_n ?_
     refine aw_seq ?_
     refine aw_block ?_
     refine sr ?_
     obtain ⟨o1,h⟩:=h
     refine rq 4 (ob:=(inIdx v33 script.length∧Ts 3 True)) (st':=(⟨45,[e13_57,e13_62,sp 12 12,e13_12 script,e13_47 script,sI 33 v33],[e13_50 l10,hB 12 [.pI ((script.getD (v33).toNat zD).1),.pI ((script.getD (v33).toNat zD).2.1.1),.pS ((script.getD (v33).toNat zD).2.1.2),.pS ((script.getD (v33).toNat zD).2.2.1),.pI ((script.getD (v33).toNat zD).2.2.2.1),.pS ((script.getD (v33).toNat zD).2.2.2.2)],e13_44 out,e13_49 k n sv]⟩:St)) (by kernel_rfl) (⟨o1,tsI 3 trivial⟩) ?_
     refine nn ?_
     refine aw_region ?_
     refine rqT 3 ⟨45,[e13_57,e13_12 script,e13_47 script,sI 33 v33,s1 37 (.own 5010),sp 38 30000,e13_17 script v33],[e13_50 l10,e13_44 out,e13_49 k n sv]⟩ (by kernel_rfl) ?_
     refine awl_conv [.ren 10 30200,.ren 5010 30201] (st':=(⟨45,[e13_57,e13_12 script,e13_47 script,sI 33 v33,s1 37 (.own 30201),sp 38 30000,e13_17 script v33],[e13_2 l10,e13_3 out,e13_1 k n sv]⟩:St)) (by kernel_rfl) ?_
     refine awl_inlr [.c 4 48] [30200,30201,30000] [.c (.ptr 30000 0),.agg [.pI ((script.getD (v33).toNat zD).1),.pI ((script.getD (v33).toNat zD).2.1.1),.pS ((script.getD (v33).toNat zD).2.1.2),.pS ((script.getD (v33).toNat zD).2.2.1),.pI ((script.getD (v33).toNat zD).2.2.2.1),.pS ((script.getD (v33).toNat zD).2.2.2.2)]] [] rfl rfl (by kernel_rfl) rfl (by kernel_rfl) Try.call26 (by kernel_rfl) (by kernel_rfl) Try.func26 rfl rfl (by kernel_rfl) ?_
     refine aw_conv [] (st':=(⟨85,[e13_31,sA 1 [.pI ((script.getD (v33).toNat zD).1),.pI ((script.getD (v33).toNat zD).2.1.1),.pS ((script.getD (v33).toNat zD).2.1.2),.pS ((script.getD (v33).toNat zD).2.2.1),.pI ((script.getD (v33).toNat zD).2.2.2.1),.pS ((script.getD (v33).toNat zD).2.2.2.2)],e13_32,e13_4 script,e13_16 script,sI 118 v33,e13_22,sp 123 30000,sA 124 [.pI ((script.getD (v33).toNat zD).1),.pI ((script.getD (v33).toNat zD).2.1.1),.pS ((script.getD (v33).toNat zD).2.1.2),.pS ((script.getD (v33).toNat zD).2.2.1),.pI ((script.getD (v33).toNat zD).2.2.2.1),.pS ((script.getD (v33).toNat zD).2.2.2.2)]],[e13_2 l10,e13_3 out,e13_1 k n sv]⟩:St)) (by kernel_rfl) ?_
     refine withJoinR (σ:=LR×LS×Int×Int×LI) (fun s=>(⟨85,[sp 4 30400,e13_32,e13_4 script,e13_16 script,sI 118 v33,e13_22],[hB 30000 [.pI k,.pI n,.pI (0:Int),.p (.sl tR) s.1,.own 30200],(30200,[],.dict (.pr tI (.ar 11 tI)) (.pr tI tI) s.2.1),e13_3 out,hB 30400 [.pI s.2.2.1,.pI s.2.2.2.1,.pS s.2.2.2.2]]⟩:St)) (fun s=>VC13_k2 v33 out X1 s.1 s.2.1 s.2.2.1 s.2.2.2.1 s.2.2.2.2) (fun s h=>?_) (fun rest2=>?_)
     ·obtain ⟨sv2,l30200,l30400,l304002,l304003⟩:=s
      have h:VC13_k2 v33 out X1 sv2 l30200 l30400 l304002 l304003:=h
      unfold VC13_k2 at h
      refine inlR_n (ob:=True) (.v (.agg [.pI l30400,.pI l304002,.pS l304003])) (by kernel_rfl) trivial rfl ?_
      refine lpr (st':=(⟨45,[e13_57,e13_12 script,e13_47 script,sI 33 v33,s1 37 (.own 30201),sA 40 [.pI l30400,.pI l304002,.pS l304003]],[e13_30 k n sv2,e13_23 l30200,e13_3 out]⟩:St)) (by kernel_rfl) ?_
      obtain ⟨o1,h⟩:=h
      refine rq 3 (ob:=(Ts 1 (roomW 40 (out.length+[(l30400,(l304002,l304003))].length)∧Ts 1 True))) (st':=(⟨45,[e13_57,s1 10 (.own 42),e13_12 script,e13_47 script,sI 33 v33],[hA 42 48 (.pr tI tR) (out++[(l30400,(l304002,l304003))]),e13_30 k n sv2,e13_23 l30200]⟩:St)) (by kernel_rfl) (tsI 1 ⟨o1,tsI 1 trivial⟩) ?_
      refine awl_nil ?_
      refine blockQ_n ?_
      refine thenQ_n ?_
      refine aw_region ?_
      obtain ⟨o1,h⟩:=h
      refine rq 2 (ob:=(InR (v33+(1:Int))∧Ts 1 True)) (st':=(⟨45,[e13_57,s1 10 (.own 42),e13_12 script,e13_47 script,sI 33 (v33+(1:Int))],[hA 42 48 (.pr tI tR) (out++[(l30400,(l304002,l304003))]),e13_30 k n sv2,e13_23 l30200]⟩:St)) (by kernel_rfl) (⟨o1,tsI 1 trivial⟩) ?_
      refine awl_conv [.ren 30200 50200,.ren 42 20042,.ren 50200 10,.ren 20042 5010,.prune [8,10,31,32,33] [10,5010,30000]] (st':=(⟨45,[e13_57,e13_62,e13_12 script,e13_47 script,sI 33 (v33+(1:Int))],[(10,[],.dict (.pr tI (.ar 11 tI)) (.pr tI tI) l30200),hA 5010 48 (.pr tI tR) (out++[(l30400,(l304002,l304003))]),hB 30000 [.pI k,.pI n,.pI (0:Int),.p (.sl tR) sv2,.own 10]]⟩:St)) (by kernel_rfl) ?_
      refine awl_nil ?_
      exact thenQ_n ⟨((v33+(1:Int)),l30200,(out++[(l30400,(l304002,l304003))]),sv2),rfl,h⟩
     ·refine srn 2 ⟨85,[e13_31,sp 3 3,sp 4 4,e13_32,e13_4 script,e13_16 script,sI 118 v33,e13_22],[e13_5 script v33,e13_10,e13_1 k n sv,e13_2 l10,e13_3 out]⟩ (by kernel_rfl) rfl ?_
      refine aw_seq ?_
      refine srn 2 ⟨85,[e13_31,sp 3 3,sp 4 4,e13_33 script v33,e13_32,e13_4 script,e13_16 script,sI 118 v33,e13_22],[e13_5 script v33,e13_10,e13_1 k n sv,e13_2 l10,e13_3 out]⟩ (by kernel_rfl) rfl ?_
      refine aw_block ?_
      refine srn 2 ⟨85,[e13_31,sp 3 3,sp 4 4,e13_33 script v33,sB 11 (decide ((script.getD (v33).toNat zD).1=(1:Int))),e13_32,e13_4 script,e13_16 script,sI 118 v33,e13_22],[e13_5 script v33,e13_10,e13_1 k n sv,e13_2 l10,e13_3 out]⟩ (by kernel_rfl) rfl ?_
      refine aw_cond (b:=(decide ((script.getD (v33).toNat zD).1=(1:Int)))) (by kernel_rfl) (fun hb=>?_) (fun hb=>?_)
      ·have h:=h.1 hb
       refine sr ?_
       refine rqT 3 ⟨85,[sp 4 4,sp 13 30000,e13_37 script v33,e13_32,e13_4 script,e13_16 script,sI 118 v33,e13_22],[e13_10,e13_1 k n sv,e13_2 l10,e13_3 out]⟩ (by kernel_rfl) ?_
       refine awl_conv [.ren 4 30400] (st':=(⟨85,[sp 4 30400,sp 13 30000,e13_37 script v33,e13_32,e13_4 script,e13_16 script,sI 118 v33,e13_22],[e13_14,e13_1 k n sv,e13_2 l10,e13_3 out]⟩:St)) (by kernel_rfl) ?_
       refine awl_inlr [.c 4 48] [30400,30000,30200,30201] [.c (.ptr 30000 0),.agg [.pI ((script.getD (v33).toNat zD).2.1.1),.pS ((script.getD (v33).toNat zD).2.1.2)]] [] rfl rfl (by kernel_rfl) rfl (by kernel_rfl) Try.call41 (by kernel_rfl) (by kernel_rfl) Try.func41 rfl rfl (by kernel_rfl) ?_
       refine aw_conv [] (st':=(⟨48,[e13_31,sA 1 [.pI ((script.getD (v33).toNat zD).2.1.1),.pS ((script.getD (v33).toNat zD).2.1.2)],e13_48,sp 61 30000,sA 63 [.pI ((script.getD (v33).toNat zD).2.1.1),.pS ((script.getD (v33).toNat zD).2.1.2)],e13_46,e13_6 script,e13_26 script,sI 166 v33,e13_34],[e13_14,e13_1 k n sv,e13_2 l10,e13_3 out]⟩:St)) (by kernel_rfl) ?_
       refine withJoinR (σ:=Int×Int×LR×LS) (fun s=>(⟨48,[sp 4 4,e13_48,e13_46,e13_6 script,e13_26 script,sI 166 v33,e13_34],[hB 4 [.pI s.1,.pI s.2.1,.nils],hB 30000 [.pI k,.pI n,.pI (0:Int),.p (.sl tR) s.2.2.1,.own 30200],(30200,[],.dict (.pr tI (.ar 11 tI)) (.pr tI tI) s.2.2.2),e13_3 out,e13_14]⟩:St)) (fun s=>VC13_k3 v33 out X1 s.1 s.2.1 s.2.2.1 s.2.2.2) (fun s h=>?_) (fun rest3=>?_)
       ·obtain ⟨l4,l42,sv2,l30200⟩:=s
        have h:VC13_k3 v33 out X1 l4 l42 sv2 l30200:=h
        unfold VC13_k3 at h
        refine inlR_n (ob:=True) (.v (.agg [.pI l4,.pI l42,.nils])) (by kernel_rfl) trivial rfl ?_
        refine lpr (st':=(⟨85,[sp 4 30400,sA 16 [.pI l4,.pI l42,.nils],e13_32,e13_4 script,e13_16 script,sI 118 v33,e13_22],[e13_30 k n sv2,e13_23 l30200,e13_3 out,e13_14]⟩:St)) (by kernel_rfl) ?_
        refine rqT 1 ⟨85,[sp 4 30400,e13_32,e13_4 script,e13_16 script,sI 118 v33,e13_22],[e13_30 k n sv2,e13_23 l30200,e13_3 out,hB 30400 [.pI l4,.pI l42,.nils]]⟩ (by kernel_rfl) ?_
        refine nn ?_
        refine aw_conv [.nilPB 30400 2 tI] (st':=(⟨85,[sp 4 30400,e13_32,e13_4 script,e13_16 script,sI 118 v33,e13_22],[e13_30 k n sv2,e13_23 l30200,e13_3 out,hB 30400 [.pI l4,.pI l42,.pS ([]:List Int)]]⟩:St)) (by kernel_rfl) ?_
        refine aw_ret ?_
        refine blockQ_r ?_
        refine thenQ_r ?_
        exact rest2 (sv2,l30200,l4,l42,([]:List Int)) h
       ·refine sr ?_
        refine rqT 2 ⟨48,[e13_31,sp 3 3,sp 4 4,e13_48,e13_46,e13_6 script,e13_26 script,sI 166 v33,e13_34],[e13_38 script v33,e13_10,e13_1 k n sv,e13_2 l10,e13_3 out,e13_14]⟩ (by kernel_rfl) ?_
        refine nsr ?_
        refine rqT 6 ⟨48,[e13_31,sp 3 3,sp 4 4,sp 5 5,e13_48,e13_46,e13_6 script,e13_26 script,sI 166 v33,e13_34],[e13_38 script v33,e13_10,e13_27 k n sv,e13_1 k n sv,e13_2 l10,e13_3 out,e13_14]⟩ (by kernel_rfl) ?_
        refine nn ?_
        refine aw_seq ?_
        refine awd_begin [5,16] (by kernel_rfl) ?_
        refine drq (by kernel_rfl) [0,1,2,3,4,6,7,8,9] (ob:=(Ts 9 True)) (done':=[9,8,7,6,4,3,2,1,0]) (st':=(⟨48,[e13_31,sp 4 4,sp 5 5,s1 15 (.p (.sl tR) sv),e13_43 script v33,s1 20 (.pS ((script.getD (v33).toNat zD).2.1.2)),e13_48,e13_46,e13_6 script,e13_26 script,sI 166 v33,e13_34],[e13_10,e13_27 k n sv,e13_1 k n sv,e13_2 l10,e13_3 out,e13_14]⟩:St)) (by kernel_rfl) (tsI 9 trivial) ?_
        refine awd_one (i:=5) (by kernel_rfl) ?_
        refine adop_callOk (e:=40) (t:=tR) (l:=[toV1 (.sl tR) sv]) (cl:=[]) false [.d (.sl tR)] [0,4,5,16,18,20,52,141,164,165,166,170] [4,5,16,30000,30200,30201,30400] (fun (ret16v:LR)=>VC54 ((script.getD (v33).toNat zD).2.1.2) (fun (ret21v:LI)=>(roomW 32 (ret16v.length+[((script.getD (v33).toNat zD).2.1.1,ret21v)].length)∧VC25 (k,(n,((0:Int),(ret16v++[((script.getD (v33).toNat zD).2.1.1,ret21v)])))) (fun (ret27v:Int)=>(((!decide (ret27v=(0:Int)))=true→VC13_k3 v33 out X1 ret27v (0:Int) sv l10)∧((!decide (ret27v=(0:Int)))=false→VC55 (k,(n,((0:Int),(ret16v++[((script.getD (v33).toNat zD).2.1.1,ret21v)])))) (fun (ret33v:Bool)=>(((!ret33v)=true→VC13_k3 v33 out X1 (3:Int) (0:Int) sv l10)∧((!ret33v)=false→(InR (((ret16v++[((script.getD (v33).toNat zD).2.1.1,ret21v)]).length:Int)-(1:Int))∧VC13_k3 v33 out X1 (0:Int) (((ret16v++[((script.getD (v33).toNat zD).2.1.1,ret21v)]).length:Int)-(1:Int)) (ret16v++[((script.getD (v33).toNat zD).2.1.1,ret21v)]) ([]:LS))))))))))) (fun ret16v=>(⟨48,[e13_31,sp 4 4,sp 5 5,s1 16 (.own 16),e13_43 script v33,s1 20 (.pS ((script.getD (v33).toNat zD).2.1.2)),e13_48,e13_46,e13_6 script,e13_26 script,sI 166 v33,e13_34],[e13_10,e13_27 k n sv,e13_52 ret16v,e13_1 k n sv,e13_2 l10,e13_3 out,e13_14]⟩:St)) rfl rfl rfl (by kernel_rfl) rfl (by kernel_rfl) Try.call42 (by kernel_rfl) (fun e=>by cases e) (fun ret16v=>by kernel_rfl) (link42 sv _ h) (fun ret16v h=>?_)
        refine awd_one (i:=10) (by kernel_rfl) ?_
        refine adop_callOk (e:=3) (t:=tI) (l:=[toV1 (.sl tI) ((script.getD (v33).toNat zD).2.1.2)]) (cl:=[]) false [.d (.sl tI)] [0,4,5,16,18,21,52,141,164,165,166,170] [4,5,16,21,30000,30200,30201,30400] (fun (ret21v:LI)=>(roomW 32 (ret16v.length+[((script.getD (v33).toNat zD).2.1.1,ret21v)].length)∧VC25 (k,(n,((0:Int),(ret16v++[((script.getD (v33).toNat zD).2.1.1,ret21v)])))) (fun (ret27v:Int)=>(((!decide (ret27v=(0:Int)))=true→VC13_k3 v33 out X1 ret27v (0:Int) sv l10)∧((!decide (ret27v=(0:Int)))=false→VC55 (k,(n,((0:Int),(ret16v++[((script.getD (v33).toNat zD).2.1.1,ret21v)])))) (fun (ret33v:Bool)=>(((!ret33v)=true→VC13_k3 v33 out X1 (3:Int) (0:Int) sv l10)∧((!ret33v)=false→(InR (((ret16v++[((script.getD (v33).toNat zD).2.1.1,ret21v)]).length:Int)-(1:Int))∧VC13_k3 v33 out X1 (0:Int) (((ret16v++[((script.getD (v33).toNat zD).2.1.1,ret21v)]).length:Int)-(1:Int)) (ret16v++[((script.getD (v33).toNat zD).2.1.1,ret21v)]) ([]:LS)))))))))) (fun ret21v=>(⟨48,[e13_31,sp 4 4,sp 5 5,s1 16 (.own 16),e13_43 script v33,s1 21 (.own 21),e13_48,e13_46,e13_6 script,e13_26 script,sI 166 v33,e13_34],[e13_10,e13_27 k n sv,e13_52 ret16v,hA 21 3 tI ret21v,e13_1 k n sv,e13_2 l10,e13_3 out,e13_14]⟩:St)) rfl rfl rfl (by kernel_rfl) rfl (by kernel_rfl) Try.call54 (by kernel_rfl) (fun e=>by cases e) (fun ret21v=>by kernel_rfl) (link54 ((script.getD (v33).toNat zD).2.1.2) _ h) (fun ret21v h=>?_)
        refine drq (by kernel_rfl) [11] (ob:=(Ts 1 True)) (done':=[11,10,5,9,8,7,6,4,3,2,1,0]) (st':=(⟨48,[e13_31,sp 4 4,sp 5 5,s1 16 (.own 16),sA 22 [.pI ((script.getD (v33).toNat zD).2.1.1),.own 21],e13_48,e13_46,e13_6 script,e13_26 script,sI 166 v33,e13_34],[e13_10,e13_27 k n sv,e13_52 ret16v,hA 21 3 tI ret21v,e13_1 k n sv,e13_2 l10,e13_3 out,e13_14]⟩:St)) (by kernel_rfl) (tsI 1 trivial) ?_
        refine awd_conv [.freeze 21] (st':=(⟨48,[e13_31,sp 4 4,sp 5 5,s1 16 (.own 16),sA 22 [.pI ((script.getD (v33).toNat zD).2.1.1),.pS ret21v],e13_48,e13_46,e13_6 script,e13_26 script,sI 166 v33,e13_34],[e13_10,e13_27 k n sv,e13_52 ret16v,e13_1 k n sv,e13_2 l10,e13_3 out,e13_14]⟩:St)) (by kernel_rfl) rfl ?_
        refine awd_one (i:=12) (by kernel_rfl) ?_
        refine dsq (ob:=True) (st':=(⟨48,[e13_31,sp 4 4,sp 5 5,s1 16 (.own 16),s1 23 (.own 23),e13_48,e13_46,e13_6 script,e13_26 script,sI 166 v33,e13_34],[e13_10,e13_27 k n sv,e13_52 ret16v,hA 23 40 tR [((script.getD (v33).toNat zD).2.1.1,ret21v)],e13_1 k n sv,e13_2 l10,e13_3 out,e13_14]⟩:St)) rfl (by kernel_rfl) trivial ?_
        refine awd_one (i:=13) (by kernel_rfl) ?_
        obtain ⟨o1,h⟩:=h
        refine dsq (ob:=roomW 32 (ret16v.length+[((script.getD (v33).toNat zD).2.1.1,ret21v)].length)) (st':=(⟨48,[e13_31,sp 4 4,sp 5 5,s1 24 (.own 24),e13_48,e13_46,e13_6 script,e13_26 script,sI 166 v33,e13_34],[e13_10,e13_27 k n sv,e13_11 ret16v script v33 ret21v,e13_1 k n sv,e13_2 l10,e13_3 out,e13_14]⟩:St)) rfl (by kernel_rfl) o1 ?_
        refine drq (by kernel_rfl) [14] (ob:=(Ts 1 True)) (done':=[14,13,12,11,10,5,9,8,7,6,4,3,2,1,0]) (st':=(⟨48,[e13_31,sp 4 4,sp 5 5,s1 24 (.own 24),s1 25 (.ptr 5 3),e13_48,e13_46,e13_6 script,e13_26 script,sI 166 v33,e13_34],[e13_10,e13_27 k n sv,e13_11 ret16v script v33 ret21v,e13_1 k n sv,e13_2 l10,e13_3 out,e13_14]⟩:St)) (by kernel_rfl) (tsI 1 trivial) ?_
        refine awd_one (i:=15) (by kernel_rfl) ?_
        refine dsq (ob:=True) (st':=(⟨48,[e13_31,sp 4 4,sp 5 5,e13_48,e13_46,e13_6 script,e13_26 script,sI 166 v33,e13_34],[e13_10,e13_42 k n,e13_11 ret16v script v33 ret21v,e13_1 k n sv,e13_2 l10,e13_3 out,e13_14]⟩:St)) rfl (by kernel_rfl) trivial ?_
        refine awd_done (by kernel_rfl) ?_
        refine thenQ_n ?_
        refine aw_seq ?_
        refine sr ?_
        refine rqT 1 ⟨48,[e13_31,sp 4 4,sp 5 5,sA 26 [.pI k,.pI n,.pI (0:Int),.own 24],e13_48,e13_46,e13_6 script,e13_26 script,sI 166 v33,e13_34],[e13_10,e13_42 k n,e13_11 ret16v script v33 ret21v,e13_1 k n sv,e13_2 l10,e13_3 out,e13_14]⟩ (by kernel_rfl) ?_
        refine awl_callk (p:=[]) (l:=[toV1 tG (k,(n,((0:Int),(ret16v++[((script.getD (v33).toNat zD).2.1.1,ret21v)]))))]) (cl:=[]) true [.d tG] [0,4,5,27,52,141,164,165,166,170] [4,5,24,30000,30200,30201,30400] (fun (ret27v:Int)=>(((!decide (ret27v=(0:Int)))=true→VC13_k3 v33 out X1 ret27v (0:Int) sv l10)∧((!decide (ret27v=(0:Int)))=false→VC55 (k,(n,((0:Int),(ret16v++[((script.getD (v33).toNat zD).2.1.1,ret21v)])))) (fun (ret33v:Bool)=>(((!ret33v)=true→VC13_k3 v33 out X1 (3:Int) (0:Int) sv l10)∧((!ret33v)=false→(InR (((ret16v++[((script.getD (v33).toNat zD).2.1.1,ret21v)]).length:Int)-(1:Int))∧VC13_k3 v33 out X1 (0:Int) (((ret16v++[((script.getD (v33).toNat zD).2.1.1,ret21v)]).length:Int)-(1:Int)) (ret16v++[((script.getD (v33).toNat zD).2.1.1,ret21v)]) ([]:LS)))))))) (fun ret27v=>[toV1 tI ret27v]) (fun ret27v=>(⟨48,[e13_31,sp 4 4,sp 5 5,sI 27 ret27v,e13_48,e13_46,e13_6 script,e13_26 script,sI 166 v33,e13_34],[e13_10,e13_42 k n,e13_11 ret16v script v33 ret21v,e13_1 k n sv,e13_2 l10,e13_3 out,e13_14]⟩:St)) (by kernel_rfl) rfl (by kernel_rfl) rfl (by kernel_rfl) Try.call25 (by kernel_rfl) (fun ret27v=>by kernel_rfl) (fun _ _=>rfl) (fun hg=>link25 (k,(n,((0:Int),(ret16v++[((script.getD (v33).toNat zD).2.1.1,ret21v)])))) _ h) (fun hg=>noF hg) (fun ret27v h=>?_)
        refine rqT 1 ⟨48,[e13_31,sp 4 4,sp 5 5,sI 6 ret27v,e13_48,e13_46,e13_6 script,e13_26 script,sI 166 v33,e13_34],[e13_10,e13_42 k n,e13_11 ret16v script v33 ret21v,e13_1 k n sv,e13_2 l10,e13_3 out,e13_14]⟩ (by kernel_rfl) ?_
        refine nsr ?_
        refine rqT 2 ⟨48,[e13_31,sp 4 4,sp 5 5,sI 6 ret27v,sB 29 (!decide (ret27v=(0:Int))),e13_48,e13_46,e13_6 script,e13_26 script,sI 166 v33,e13_34],[e13_10,e13_42 k n,e13_11 ret16v script v33 ret21v,e13_1 k n sv,e13_2 l10,e13_3 out,e13_14]⟩ (by kernel_rfl) ?_
        refine nn ?_
        refine aw_cond (b:=(!decide (ret27v=(0:Int)))) (by kernel_rfl) (fun hb=>?_) (fun hb=>?_)
        ·have h:=h.1 hb
         refine srn 3 ⟨48,[sp 4 4,e13_48,e13_46,e13_6 script,e13_26 script,sI 166 v33,e13_34],[hB 4 [.pI ret27v,.pI (0:Int),.nils],e13_1 k n sv,e13_2 l10,e13_3 out,e13_14]⟩ (by kernel_rfl) rfl ?_
         refine aw_ret ?_
         refine thenQ_r ?_
         exact rest3 (ret27v,(0:Int),sv,l10) h
        ·have h:=h.2 hb
         refine aw_skip ?_
         refine thenQ_n ?_
         refine aw_seq ?_
         refine sr ?_
         refine rqT 1 ⟨48,[e13_31,sp 4 4,sp 5 5,sA 32 [.pI k,.pI n,.pI (0:Int),.own 24],e13_48,e13_46,e13_6 script,e13_26 script,sI 166 v33,e13_34],[e13_10,e13_42 k n,e13_11 ret16v script v33 ret21v,e13_1 k n sv,e13_2 l10,e13_3 out,e13_14]⟩ (by kernel_rfl) ?_
         refine awl_callk (p:=[]) (l:=[toV1 tG (k,(n,((0:Int),(ret16v++[((script.getD (v33).toNat zD).2.1.1,ret21v)]))))]) (cl:=[]) true [.d tG] [0,4,5,33,52,141,164,165,166,170] [4,5,24,30000,30200,30201,30400] (fun (ret33v:Bool)=>(((!ret33v)=true→VC13_k3 v33 out X1 (3:Int) (0:Int) sv l10)∧((!ret33v)=false→(InR (((ret16v++[((script.getD (v33).toNat zD).2.1.1,ret21v)]).length:Int)-(1:Int))∧VC13_k3 v33 out X1 (0:Int) (((ret16v++[((script.getD (v33).toNat zD).2.1.1,ret21v)]).length:Int)-(1:Int)) (ret16v++[((script.getD (v33).toNat zD).2.1.1,ret21v)]) ([]:LS))))) (fun ret33v=>[toV1 .bool ret33v]) (fun ret33v=>(⟨48,[e13_31,sp 4 4,sp 5 5,sB 33 ret33v,e13_48,e13_46,e13_6 script,e13_26 script,sI 166 v33,e13_34],[e13_10,e13_42 k n,e13_11 ret16v script v33 ret21v,e13_1 k n sv,e13_2 l10,e13_3 out,e13_14]⟩:St)) (by kernel_rfl) rfl (by kernel_rfl) rfl (by kernel_rfl) Try.call55 (by kernel_rfl) (fun ret33v=>by kernel_rfl) (fun _ _=>rfl) (fun hg=>link55 (k,(n,((0:Int),(ret16v++[((script.getD (v33).toNat zD).2.1.1,ret21v)])))) _ h) (fun hg=>noF hg) (fun ret33v h=>?_)
         refine rqT 1 ⟨48,[e13_31,sp 4 4,sp 5 5,sB 34 (!ret33v),e13_48,e13_46,e13_6 script,e13_26 script,sI 166 v33,e13_34],[e13_10,e13_42 k n,e13_11 ret16v script v33 ret21v,e13_1 k n sv,e13_2 l10,e13_3 out,e13_14]⟩ (by kernel_rfl) ?_
         refine nn ?_
         refine aw_cond (b:=(!ret33v)) (by kernel_rfl) (fun hb=>?_) (fun hb=>?_)
         ·have h:=h.1 hb
          refine srn 2 ⟨48,[sp 4 4,e13_48,e13_46,e13_6 script,e13_26 script,sI 166 v33,e13_34],[hB 4 [.pI (3:Int),.pI (0:Int),.nils],e13_1 k n sv,e13_2 l10,e13_3 out,e13_14]⟩ (by kernel_rfl) rfl ?_
          refine aw_ret ?_
          refine thenQ_r ?_
          exact rest3 ((3:Int),(0:Int),sv,l10) h
         ·have h:=h.2 hb
          refine aw_skip ?_
          refine thenQ_n ?_
          refine sr ?_
          refine rqT 3 ⟨48,[e13_31,sp 4 4,sp 36 30000,s1 38 (.own 24),e13_48,e13_46,e13_6 script,e13_26 script,sI 166 v33,e13_34],[e13_10,e13_11 ret16v script v33 ret21v,e13_1 k n sv,e13_2 l10,e13_3 out,e13_14]⟩ (by kernel_rfl) ?_
          refine awl_conv [.ren 4 30600,.ren 24 30601] (st':=(⟨48,[e13_31,sp 4 30600,sp 36 30000,s1 38 (.own 30601),e13_48,e13_46,e13_6 script,e13_26 script,sI 166 v33,e13_34],[e13_55,e13_20 ret16v script v33 ret21v,e13_1 k n sv,e13_2 l10,e13_3 out,e13_14]⟩:St)) (by kernel_rfl) ?_
          refine awl_inlr [] [30600,30601,30000,30200,30201,30400] [.c (.ptr 30000 0),.c (.own 30601)] [] rfl rfl (by kernel_rfl) rfl (by kernel_rfl) Try.call24 (by kernel_rfl) (by kernel_rfl) Try.func24 rfl rfl (by kernel_rfl) ?_
          refine aw_conv [] (st':=(⟨13,[e13_31,s1 1 (.own 30601),sp 13 30000,sp 17 30600,sp 49 30000,s1 51 (.own 30601),sp 65 30400,sp 154 30000,e13_39 script,sI 178 (script.length:Int),sI 179 v33,s1 183 (.own 30201)],[e13_55,e13_20 ret16v script v33 ret21v,e13_1 k n sv,e13_2 l10,e13_3 out,e13_14]⟩:St)) (by kernel_rfl) ?_
          refine srn 6 ⟨13,[e13_31,sp 13 30000,sp 17 30600,sp 65 30400,sp 154 30000,e13_39 script,sI 178 (script.length:Int),sI 179 v33,s1 183 (.own 30201)],[hB 30000 [.pI k,.pI n,.pI (0:Int),.own 30601,.own 30200],e13_2 l10,e13_3 out,e13_14,e13_55,e13_20 ret16v script v33 ret21v]⟩ (by kernel_rfl) rfl ?_
          refine aw_region ?_
          refine rqT 5 ⟨13,[sp 13 30000,sp 17 30600,sp 65 30400,sp 154 30000,e13_39 script,sI 178 (script.length:Int),sI 179 v33,s1 183 (.own 30201)],[e13_9,e13_58 k n,e13_3 out,e13_14,e13_55,e13_20 ret16v script v33 ret21v]⟩ (by kernel_rfl) ?_
          refine awl_nil ?_
          refine inlR_n (ob:=True) (.tup []) (by kernel_rfl) trivial rfl ?_
          refine lpr (st':=(⟨48,[e13_31,sp 4 30600,e13_48,e13_46,e13_6 script,e13_26 script,sI 166 v33,e13_34],[e13_9,e13_58 k n,e13_3 out,e13_14,e13_55,e13_20 ret16v script v33 ret21v]⟩:St)) (by kernel_rfl) ?_
          refine nsr ?_
          obtain ⟨o1,h⟩:=h
          refine rq 9 (ob:=(Ts 6 (InR (((ret16v++[((script.getD (v33).toNat zD).2.1.1,ret21v)]).length:Int)-(1:Int))∧Ts 2 True))) (st':=(⟨48,[sp 4 30600,e13_48,e13_46,e13_6 script,e13_26 script,sI 166 v33,e13_34],[e13_9,e13_58 k n,e13_3 out,e13_14,hB 30600 [.pI (0:Int),.pI (((ret16v++[((script.getD (v33).toNat zD).2.1.1,ret21v)]).length:Int)-(1:Int)),.nils],e13_20 ret16v script v33 ret21v]⟩:St)) (by kernel_rfl) (tsI 6 ⟨o1,tsI 2 trivial⟩) ?_
          refine nn ?_
          refine aw_conv [.freeze 30601,.ren 30600 50600,.ren 10 20010,.ren 50600 4,.ren 20010 30200,.prune [4,52,141,164,165,166,170] [4,30000,30200,30201,30400]] (st':=(⟨48,[sp 4 4,e13_48,e13_46,e13_6 script,e13_26 script,sI 166 v33,e13_34],[hB 4 [.pI (0:Int),.pI (((ret16v++[((script.getD (v33).toNat zD).2.1.1,ret21v)]).length:Int)-(1:Int)),.nils],hB 30000 [.pI k,.pI n,.pI (0:Int),.p (.sl tR) (ret16v++[((script.getD (v33).toNat zD).2.1.1,ret21v)]),.own 30200],e13_53,e13_3 out,e13_14]⟩:St)) (by kernel_rfl) ?_
          refine aw_ret ?_
          exact rest3 ((0:Int),(((ret16v++[((script.getD (v33).toNat zD).2.1.1,ret21v)]).length:Int)-(1:Int)),(ret16v++[((script.getD (v33).toNat zD).2.1.1,ret21v)]),([]:LS)) h
      ·have h:=h.2 hb
       refine srn 2 ⟨85,[e13_31,sp 3 3,sp 4 4,e13_33 script v33,sB 17 (decide ((script.getD (v33).toNat zD).1=(2:Int))),e13_32,e13_4 script,e13_16 script,sI 118 v33,e13_22],[e13_5 script v33,e13_10,e13_1 k n sv,e13_2 l10,e13_3 out]⟩ (by kernel_rfl) rfl ?_
       refine aw_cond (b:=(decide ((script.getD (v33).toNat zD).1=(2:Int)))) (by kernel_rfl) (fun hb=>?_) (fun hb=>?_)
       ·have h:=h.1 hb
        refine aw_seq ?_
        refine srn 7 ⟨85,[e13_31,sp 4 4,sB 25 (decide ((sv.length:Int)=(0:Int))),e13_32,e13_4 script,e13_16 script,sI 118 v33,e13_22],[e13_10,e13_1 k n sv,e13_2 l10,e13_3 out]⟩ (by kernel_rfl) rfl ?_
        refine aw_cond (b:=(decide ((sv.length:Int)=(0:Int)))) (by kernel_rfl) (fun hb=>?_) (fun hb=>?_)
        ·have h:=h.1 hb
         refine srn 2 ⟨85,[sp 4 4,e13_32,e13_4 script,e13_16 script,sI 118 v33,e13_22],[hB 4 [.pI (5:Int),.pI (0:Int),.nils],e13_1 k n sv,e13_2 l10,e13_3 out]⟩ (by kernel_rfl) rfl ?_
         refine aw_conv [.nilPB 4 2 tI,.ren 4 20004,.ren 20004 30400,.prune e13_n0 [30000,30200,30201,30400]] (st':=(⟨85,[sp 4 30400,e13_32,e13_4 script,e13_16 script,sI 118 v33,e13_22],[e13_1 k n sv,e13_2 l10,e13_3 out,hB 30400 [.pI (5:Int),.pI (0:Int),.pS ([]:List Int)]]⟩:St)) (by kernel_rfl) ?_
         refine aw_ret ?_
         refine thenQ_r ?_
         refine blockQ_r ?_
         refine thenQ_r ?_
         exact rest2 (sv,l10,(5:Int),(0:Int),([]:List Int)) h
        ·have h:=h.2 hb
         refine aw_skip ?_
         refine thenQ_n ?_
         refine aw_seq ?_
         refine withJoin (σ:=LR) (fun s=>(⟨85,[e13_61,e13_32,e13_4 script,e13_16 script,sI 118 v33,e13_22],[e13_9,hA 41 40 tR s,e13_45 k n,e13_3 out,e13_21]⟩:St)) (fun s=>VC13_k4 v33 out X1 s) (fun l41 h=>?_) (fun rest4=>?_)
         ·have h:VC13_k4 v33 out X1 l41:=h
          unfold VC13_k4 at h
          refine thenQ_n ?_
          refine srn 2 ⟨85,[e13_61,e13_32,e13_4 script,e13_16 script,sI 118 v33,e13_22],[e13_9,hA 41 40 tR l41,e13_45 k n,e13_3 out,e13_21]⟩ (by kernel_rfl) rfl ?_
          refine aw_conv [.nilPB 30800 2 tI,.freeze 41,.ren 30800 50800,.ren 10 20010,.ren 50800 30400,.ren 20010 30200,.prune e13_n0 [30000,30200,30201,30400]] (st':=(⟨85,[sp 4 30400,e13_32,e13_4 script,e13_16 script,sI 118 v33,e13_22],[hB 30000 [.pI k,.pI n,.pI (0:Int),.p (.sl tR) l41,.own 30200],e13_53,e13_3 out,hB 30400 [.pI (0:Int),.pI (0:Int),.pS ([]:List Int)]]⟩:St)) (by kernel_rfl) ?_
          refine aw_ret ?_
          refine blockQ_r ?_
          refine thenQ_r ?_
          exact rest2 (l41,([]:LS),(0:Int),(0:Int),([]:List Int)) h
         ·refine aw_conv [.ren 4 30800] (st':=(⟨85,[e13_31,e13_61,sB 25 (decide ((sv.length:Int)=(0:Int))),e13_32,e13_4 script,e13_16 script,sI 118 v33,e13_22],[e13_21,e13_1 k n sv,e13_2 l10,e13_3 out]⟩:St)) (by kernel_rfl) ?_
          refine awd_begin e13_n1 (by kernel_rfl) ?_
          refine drq (by kernel_rfl) [0,1,2,3,4,6,7,8,9] (ob:=(Ts 9 True)) (done':=[9,8,7,6,4,3,2,1,0]) (st':=(⟨85,[e13_61,e13_64,s1 31 (.ptr 30000 3),s1 36 (.ptr 30000 3),e13_32,e13_4 script,e13_16 script,sI 118 v33,e13_22],[e13_1 k n sv,e13_2 l10,e13_3 out,e13_21]⟩:St)) (by kernel_rfl) (tsI 9 trivial) ?_
          refine awd_two (i:=5) (j:=10) (by kernel_rfl) ?_ ?_
          ·have h:=h.1
           refine dsq (ob:=True) (st':=(⟨85,[e13_61,e13_64,e13_59 sv,s1 36 (.ptr 30000 3),e13_32,e13_4 script,e13_16 script,sI 118 v33,e13_22],[e13_1 k n sv,e13_2 l10,e13_3 out,e13_21]⟩:St)) rfl (by kernel_rfl) trivial ?_
           refine awd_one (i:=10) (by kernel_rfl) ?_
           refine dsq (ob:=True) (st':=(⟨85,[e13_61,e13_64,e13_59 sv,s1 37 (.p (.sl tR) sv),e13_32,e13_4 script,e13_16 script,sI 118 v33,e13_22],[e13_1 k n sv,e13_2 l10,e13_3 out,e13_21]⟩:St)) rfl (by kernel_rfl) trivial ?_
           obtain ⟨o1,o2,h⟩:=h
           refine drq (by kernel_rfl) [11,12,13] (ob:=(Ts 1 (InR ((sv.length:Int)-(1:Int))∧(0≤((sv.length:Int)-(1:Int))∧((sv.length:Int)-(1:Int))≤(sv.length:Int))∧True))) (done':=[13,12,11,10,5,9,8,7,6,4,3,2,1,0]) (st':=(⟨85,[e13_61,e13_64,e13_56 sv,e13_32,e13_4 script,e13_16 script,sI 118 v33,e13_22],[e13_1 k n sv,e13_2 l10,e13_3 out,e13_21]⟩:St)) (by kernel_rfl) (tsI 1 (⟨o1,⟨o2,trivial⟩⟩)) ?_
           refine awd_one (i:=14) (by kernel_rfl) ?_
           refine adop_callOk (e:=40) (t:=tR) (l:=[toV1 (.sl tR) (sv.take (((sv.length:Int)-(1:Int))).toNat)]) (cl:=[]) false [.d (.sl tR)] [4,27,41,93,116,117,118,122] e13_n1 (fun (ret41v:LR)=>VC13_k4 v33 out X1 ret41v) (fun ret41v=>(⟨85,[e13_61,e13_64,s1 41 (.own 41),e13_32,e13_4 script,e13_16 script,sI 118 v33,e13_22],[e13_35 ret41v,e13_1 k n sv,e13_2 l10,e13_3 out,e13_21]⟩:St)) rfl rfl rfl (by kernel_rfl) rfl (by kernel_rfl) Try.call42 (by kernel_rfl) (fun e=>by cases e) (fun ret41v=>by kernel_rfl) (link42 (sv.take (((sv.length:Int)-(1:Int))).toNat) _ h) (fun ret41v h=>?_)
           refine awd_one (i:=15) (by kernel_rfl) ?_
           refine adop_inlr [] [.c (.ptr 30000 0),.c (.own 41)] [] rfl rfl rfl (by kernel_rfl) rfl (by kernel_rfl) Try.call24 (by kernel_rfl) (by kernel_rfl) Try.func24 rfl rfl (by kernel_rfl) ?_
           refine aw_conv [] (st':=(⟨13,[e13_31,s1 1 (.own 41),sp 17 30800,sp 40 30000,s1 54 (.own 41),sp 106 30000,e13_24 script,sI 130 (script.length:Int),sI 131 v33,e13_63],[e13_35 ret41v,e13_1 k n sv,e13_2 l10,e13_3 out,e13_21]⟩:St)) (by kernel_rfl) ?_
           refine srn 6 ⟨13,[e13_31,sp 17 30800,sp 106 30000,e13_24 script,sI 130 (script.length:Int),sI 131 v33,e13_63],[e13_35 ret41v,hB 30000 [.pI k,.pI n,.pI (0:Int),.own 41,.own 30200],e13_2 l10,e13_3 out,e13_21]⟩ (by kernel_rfl) rfl ?_
           refine aw_region ?_
           refine rqT 5 ⟨13,[sp 17 30800,sp 106 30000,e13_24 script,sI 130 (script.length:Int),sI 131 v33,e13_63],[e13_9,e13_35 ret41v,e13_45 k n,e13_3 out,e13_21]⟩ (by kernel_rfl) ?_
           refine awl_nil ?_
           refine inlR_n (ob:=True) (.tup []) (by kernel_rfl) trivial rfl ?_
           refine dpr (st':=(⟨85,[e13_61,e13_32,e13_4 script,e13_16 script,sI 118 v33,e13_22],[e13_9,e13_35 ret41v,e13_45 k n,e13_3 out,e13_21]⟩:St)) (by kernel_rfl) ?_
           refine awd_done (by kernel_rfl) ?_
           exact rest4 ret41v h
          ·have h:=h.2
           refine dsq (ob:=True) (st':=(⟨85,[e13_61,e13_64,s1 31 (.ptr 30000 3),s1 37 (.p (.sl tR) sv),e13_32,e13_4 script,e13_16 script,sI 118 v33,e13_22],[e13_1 k n sv,e13_2 l10,e13_3 out,e13_21]⟩:St)) rfl (by kernel_rfl) trivial ?_
           obtain ⟨o1,h⟩:=h
           refine drq (by kernel_rfl) [11,12] (ob:=(Ts 1 (InR ((sv.length:Int)-(1:Int))∧True))) (done':=[12,11,10,9,8,7,6,4,3,2,1,0]) (st':=(⟨85,[e13_61,e13_64,s1 31 (.ptr 30000 3),sI 39 ((sv.length:Int)-(1:Int)),e13_32,e13_4 script,e13_16 script,sI 118 v33,e13_22],[e13_1 k n sv,e13_2 l10,e13_3 out,e13_21]⟩:St)) (by kernel_rfl) (tsI 1 ⟨o1,trivial⟩) ?_
           refine awd_one (i:=5) (by kernel_rfl) ?_
           refine dsq (ob:=True) (st':=(⟨85,[e13_61,e13_64,e13_59 sv,sI 39 ((sv.length:Int)-(1:Int)),e13_32,e13_4 script,e13_16 script,sI 118 v33,e13_22],[e13_1 k n sv,e13_2 l10,e13_3 out,e13_21]⟩:St)) rfl (by kernel_rfl) trivial ?_
           obtain ⟨o1,h⟩:=h
           refine drq (by kernel_rfl) [13] (ob:=((0≤((sv.length:Int)-(1:Int))∧((sv.length:Int)-(1:Int))≤(sv.length:Int))∧True)) (done':=[13,5,12,11,10,9,8,7,6,4,3,2,1,0]) (st':=(⟨85,[e13_61,e13_64,e13_56 sv,e13_32,e13_4 script,e13_16 script,sI 118 v33,e13_22],[e13_1 k n sv,e13_2 l10,e13_3 out,e13_21]⟩:St)) (by kernel_rfl) (⟨o1,trivial⟩) ?_
           refine awd_one (i:=14) (by kernel_rfl) ?_
           refine adop_callOk (e:=40) (t:=tR) (l:=[toV1 (.sl tR) (sv.take (((sv.length:Int)-(1:Int))).toNat)]) (cl:=[]) false [.d (.sl tR)] [4,27,41,93,116,117,118,122] e13_n1 (fun (ret41v:LR)=>VC13_k4 v33 out X1 ret41v) (fun ret41v=>(⟨85,[e13_61,e13_64,s1 41 (.own 41),e13_32,e13_4 script,e13_16 script,sI 118 v33,e13_22],[e13_35 ret41v,e13_1 k n sv,e13_2 l10,e13_3 out,e13_21]⟩:St)) rfl rfl rfl (by kernel_rfl) rfl (by kernel_rfl) Try.call42 (by kernel_rfl) (fun e=>by cases e) (fun ret41v=>by kernel_rfl) (link42 (sv.take (((sv.length:Int)-(1:Int))).toNat) _ h) (fun ret41v h=>?_)
           refine awd_one (i:=15) (by kernel_rfl) ?_
           refine adop_inlr [] [.c (.ptr 30000 0),.c (.own 41)] [] rfl rfl rfl (by kernel_rfl) rfl (by kernel_rfl) Try.call24 (by kernel_rfl) (by kernel_rfl) Try.func24 rfl rfl (by kernel_rfl) ?_
           refine aw_conv [] (st':=(⟨13,[e13_31,s1 1 (.own 41),sp 17 30800,sp 40 30000,s1 54 (.own 41),sp 106 30000,e13_24 script,sI 130 (script.length:Int),sI 131 v33,e13_63],[e13_35 ret41v,e13_1 k n sv,e13_2 l10,e13_3 out,e13_21]⟩:St)) (by kernel_rfl) ?_
           refine srn 6 ⟨13,[e13_31,sp 17 30800,sp 106 30000,e13_24 script,sI 130 (script.length:Int),sI 131 v33,e13_63],[e13_35 ret41v,hB 30000 [.pI k,.pI n,.pI (0:Int),.own 41,.own 30200],e13_2 l10,e13_3 out,e13_21]⟩ (by kernel_rfl) rfl ?_
           refine aw_region ?_
           refine rqT 5 ⟨13,[sp 17 30800,sp 106 30000,e13_24 script,sI 130 (script.length:Int),sI 131 v33,e13_63],[e13_9,e13_35 ret41v,e13_45 k n,e13_3 out,e13_21]⟩ (by kernel_rfl) ?_
           refine awl_nil ?_
           refine inlR_n (ob:=True) (.tup []) (by kernel_rfl) trivial rfl ?_
           refine dpr (st':=(⟨85,[e13_61,e13_32,e13_4 script,e13_16 script,sI 118 v33,e13_22],[e13_9,e13_35 ret41v,e13_45 k n,e13_3 out,e13_21]⟩:St)) (by kernel_rfl) ?_
           refine awd_done (by kernel_rfl) ?_
           exact rest4 ret41v h
       ·have h:=h.2 hb
        refine srn 2 ⟨85,[e13_31,sp 3 3,sp 4 4,e13_33 script v33,sB 44 (decide ((script.getD (v33).toNat zD).1=(3:Int))),e13_32,e13_4 script,e13_16 script,sI 118 v33,e13_22],[e13_5 script v33,e13_10,e13_1 k n sv,e13_2 l10,e13_3 out]⟩ (by kernel_rfl) rfl ?_
        refine aw_cond (b:=(decide ((script.getD (v33).toNat zD).1=(3:Int)))) (by kernel_rfl) (fun hb=>?_) (fun hb=>?_)
        ·have h:=h.1 hb
         refine sr ?_
         refine rqT 3 ⟨85,[sp 4 4,sp 46 30000,s1 48 (.pS ((script.getD (v33).toNat zD).2.2.1)),e13_32,e13_4 script,e13_16 script,sI 118 v33,e13_22],[e13_10,e13_1 k n sv,e13_2 l10,e13_3 out]⟩ (by kernel_rfl) ?_
         refine awl_conv [.ren 4 30900] (st':=(⟨85,[sp 4 30900,sp 46 30000,s1 48 (.pS ((script.getD (v33).toNat zD).2.2.1)),e13_32,e13_4 script,e13_16 script,sI 118 v33,e13_22],[e13_19,e13_1 k n sv,e13_2 l10,e13_3 out]⟩:St)) (by kernel_rfl) ?_
         refine awl_inlr [.c 4 48] [30900,30000,30200,30201] [.c (.ptr 30000 0),.c (.pS ((script.getD (v33).toNat zD).2.2.1))] [] rfl rfl (by kernel_rfl) rfl (by kernel_rfl) Try.call43 (by kernel_rfl) (by kernel_rfl) Try.func43 rfl rfl (by kernel_rfl) ?_
         refine aw_conv [] (st':=(⟨52,[e13_31,e13_15 script v33,e13_54,sp 98 30000,s1 100 (.pS ((script.getD (v33).toNat zD).2.2.1)),e13_51,e13_8 script,e13_29 script,sI 170 v33,e13_41],[e13_19,e13_1 k n sv,e13_2 l10,e13_3 out]⟩:St)) (by kernel_rfl) ?_
         refine withJoinR (σ:=Int×Int×LS) (fun s=>(⟨52,[sp 4 4,e13_54,e13_51,e13_8 script,e13_29 script,sI 170 v33,e13_41],[hB 4 [.pI s.1,.pI s.2.1,.nils],e13_1 k n sv,(30200,[],.dict (.pr tI (.ar 11 tI)) (.pr tI tI) s.2.2),e13_3 out,e13_19]⟩:St)) (fun s=>VC13_k5 v33 out sv X1 s.1 s.2.1 s.2.2) (fun s h=>?_) (fun rest5=>?_)
         ·obtain ⟨l4,l42,l30200⟩:=s
          have h:VC13_k5 v33 out sv X1 l4 l42 l30200:=h
          unfold VC13_k5 at h
          refine inlR_n (ob:=True) (.v (.agg [.pI l4,.pI l42,.nils])) (by kernel_rfl) trivial rfl ?_
          refine lpr (st':=(⟨85,[sp 4 30900,sA 49 [.pI l4,.pI l42,.nils],e13_32,e13_4 script,e13_16 script,sI 118 v33,e13_22],[e13_1 k n sv,e13_23 l30200,e13_3 out,e13_19]⟩:St)) (by kernel_rfl) ?_
          refine rqT 1 ⟨85,[sp 4 30900,e13_32,e13_4 script,e13_16 script,sI 118 v33,e13_22],[e13_1 k n sv,e13_23 l30200,e13_3 out,hB 30900 [.pI l4,.pI l42,.nils]]⟩ (by kernel_rfl) ?_
          refine nn ?_
          refine aw_conv [.nilPB 30900 2 tI,.ren 30900 50900,.ren 50900 30400] (st':=(⟨85,[sp 4 30400,e13_32,e13_4 script,e13_16 script,sI 118 v33,e13_22],[e13_1 k n sv,e13_23 l30200,e13_3 out,hB 30400 [.pI l4,.pI l42,.pS ([]:List Int)]]⟩:St)) (by kernel_rfl) ?_
          refine aw_ret ?_
          refine blockQ_r ?_
          refine thenQ_r ?_
          exact rest2 (sv,l30200,l4,l42,([]:List Int)) h
         ·refine srn 1 ⟨52,[e13_31,e13_15 script v33,sp 4 4,e13_54,e13_51,e13_8 script,e13_29 script,sI 170 v33,e13_41],[e13_10,e13_1 k n sv,e13_2 l10,e13_3 out,e13_19]⟩ (by kernel_rfl) rfl ?_
          refine aw_seq ?_
          refine srn 3 ⟨52,[e13_31,e13_15 script v33,sp 4 4,sB 10 (decide ((12:Int)<(((script.getD (v33).toNat zD).2.2.1).length:Int))),e13_54,e13_51,e13_8 script,e13_29 script,sI 170 v33,e13_41],[e13_10,e13_1 k n sv,e13_2 l10,e13_3 out,e13_19]⟩ (by kernel_rfl) rfl ?_
          refine aw_cond (b:=(decide ((12:Int)<(((script.getD (v33).toNat zD).2.2.1).length:Int)))) (by kernel_rfl) (fun hb=>?_) (fun hb=>?_)
          ·have h:=h.1 hb
           refine srn 2 ⟨52,[sp 4 4,e13_54,e13_51,e13_8 script,e13_29 script,sI 170 v33,e13_41],[hB 4 [.pI (1:Int),.pI (0:Int),.nils],e13_1 k n sv,e13_2 l10,e13_3 out,e13_19]⟩ (by kernel_rfl) rfl ?_
           refine aw_ret ?_
           refine thenQ_r ?_
           exact rest5 ((1:Int),(0:Int),l10) h
          ·have h:=h.2 hb
           refine aw_skip ?_
           refine thenQ_n ?_
           refine sr ?_
           refine rqT 5 ⟨52,[e13_31,e13_15 script v33,sp 4 4,sp 5 5,e13_54,e13_51,e13_8 script,e13_29 script,sI 170 v33,e13_41],[e13_10,e13_28 script v33,e13_1 k n sv,e13_2 l10,e13_3 out,e13_19]⟩ (by kernel_rfl) ?_
           refine nsr ?_
           refine rqT 1 ⟨52,[e13_31,e13_15 script v33,sp 4 4,sp 5 5,s1 15 (.ptr 5 1),e13_54,e13_51,e13_8 script,e13_29 script,sI 170 v33,e13_41],[e13_10,e13_28 script v33,e13_1 k n sv,e13_2 l10,e13_3 out,e13_19]⟩ (by kernel_rfl) ?_
           refine awl_copy 3 3 5 1 12 [.pI (((script.getD (v33).toNat zD).2.2.1).length:Int),.pI (0:Int),.pI (0:Int),.pI (0:Int),.pI (0:Int),.pI (0:Int),.pI (0:Int),.pI (0:Int),.pI (0:Int),.pI (0:Int),.pI (0:Int),.pI (0:Int),.pI (0:Int)] (.v (.c (.pS ((script.getD (v33).toNat zD).2.2.1)))) ((script.getD (v33).toNat zD).2.2.1) (⟨52,[s1 18 (.any),s1 17 (.any),s1 16 (.any),e13_31,e13_15 script v33,sp 4 4,sp 5 5,s1 15 (.ptr 5 1),e13_54,e13_51,e13_8 script,e13_29 script,sI 170 v33,e13_41],[e13_10,e13_0 script v33,e13_1 k n sv,e13_2 l10,e13_3 out,e13_19]⟩:St) rfl rfl rfl rfl rfl rfl rfl rfl rfl rfl rfl rfl (by kernel_rfl) (by kernel_rfl) (by kernel_rfl) (by kernel_rfl) (by kernel_rfl) (by kernel_rfl) (by kernel_rfl) (by kernel_rfl) (by kernel_rfl) (by kernel_rfl) (by kernel_rfl) (by kernel_rfl) ?_
           refine lpr (st':=(⟨52,[e13_31,e13_15 script v33,sp 4 4,sp 5 5,e13_54,e13_51,e13_8 script,e13_29 script,sI 170 v33,e13_41],[e13_10,e13_0 script v33,e13_1 k n sv,e13_2 l10,e13_3 out,e13_19]⟩:St)) (by kernel_rfl) ?_
           refine nn ?_
           refine aw_seq ?_
           refine awd_begin [6] (by kernel_rfl) ?_
           refine drq (by kernel_rfl) [0,1,2,3,4,5,6,7,8] (ob:=(Ts 9 True)) (done':=[8,7,6,5,4,3,2,1,0]) (st':=(⟨52,[e13_31,e13_15 script v33,sp 4 4,sp 5 5,e13_18 l10 script v33,e13_25 l10 script v33,e13_54,e13_51,e13_8 script,e13_29 script,sI 170 v33,e13_41],[e13_10,e13_0 script v33,e13_1 k n sv,e13_2 l10,e13_3 out,e13_19]⟩:St)) (by kernel_rfl) (tsI 9 trivial) ?_
           refine awd_one (i:=9) (by kernel_rfl) ?_
           refine dsq (ob:=True) (st':=(⟨52,[e13_31,e13_15 script v33,sp 4 4,sp 5 5,sp 6 6,e13_18 l10 script v33,e13_25 l10 script v33,e13_54,e13_51,e13_8 script,e13_29 script,sI 170 v33,e13_41],[e13_10,e13_0 script v33,hB 6 [.pI (0:Int),.pI (0:Int)],e13_1 k n sv,e13_2 l10,e13_3 out,e13_19]⟩:St)) rfl (by kernel_rfl) trivial ?_
           refine awd_one (i:=10) (by kernel_rfl) ?_
           refine dsq (ob:=True) (st':=(⟨52,[e13_31,e13_15 script v33,sp 4 4,sp 5 5,sp 6 6,e13_25 l10 script v33,e13_54,e13_51,e13_8 script,e13_29 script,sI 170 v33,e13_41],[e13_10,e13_0 script v33,e13_7 l10 script v33,e13_1 k n sv,e13_2 l10,e13_3 out,e13_19]⟩:St)) rfl (by kernel_rfl) trivial ?_
           refine drq (by kernel_rfl) [11] (ob:=(Ts 1 True)) (done':=[11,10,9,8,7,6,5,4,3,2,1,0]) (st':=(⟨52,[e13_31,e13_15 script v33,sp 4 4,sp 5 5,sp 6 6,sB 7 ((mget l10 ((((script.getD (v33).toNat zD).2.2.1).length:Int),(a12 ((script.getD (v33).toNat zD).2.2.1)))).isSome),e13_54,e13_51,e13_8 script,e13_29 script,sI 170 v33,e13_41],[e13_10,e13_0 script v33,e13_7 l10 script v33,e13_1 k n sv,e13_2 l10,e13_3 out,e13_19]⟩:St)) (by kernel_rfl) (tsI 1 trivial) ?_
           refine awd_done (by kernel_rfl) ?_
           refine thenQ_n ?_
           refine aw_seq ?_
           refine srn 2 ⟨52,[e13_31,e13_15 script v33,sp 4 4,sp 5 5,sp 6 6,sB 29 (!(mget l10 ((((script.getD (v33).toNat zD).2.2.1).length:Int),(a12 ((script.getD (v33).toNat zD).2.2.1)))).isSome),e13_54,e13_51,e13_8 script,e13_29 script,sI 170 v33,e13_41],[e13_10,e13_0 script v33,e13_7 l10 script v33,e13_1 k n sv,e13_2 l10,e13_3 out,e13_19]⟩ (by kernel_rfl) rfl ?_
           refine withJoin (σ:=Int×Int×LS) (fun s=>(⟨52,[sp 4 4,sp 6 6,e13_54,e13_51,e13_8 script,e13_29 script,sI 170 v33,e13_41],[e13_10,hB 6 [.pI s.1,.pI s.2.1],e13_1 k n sv,(30200,[],.dict (.pr tI (.ar 11 tI)) (.pr tI tI) s.2.2),e13_3 out,e13_19]⟩:St)) (fun s=>VC13_k6 v33 out sv X1 s.1 s.2.1 s.2.2) (fun s h=>?_) (fun rest6=>?_)
           ·obtain ⟨a,a2,l30200⟩:=s
            have h:VC13_k6 v33 out sv X1 a a2 l30200:=h
            unfold VC13_k6 at h
            refine thenQ_n ?_
            refine srn 6 ⟨52,[sp 4 4,e13_54,e13_51,e13_8 script,e13_29 script,sI 170 v33,e13_41],[hB 4 [.pI a2,.pI a,.nils],e13_1 k n sv,e13_23 l30200,e13_3 out,e13_19]⟩ (by kernel_rfl) rfl ?_
            refine aw_ret ?_
            exact rest5 (a2,a,l30200) h
           ·refine aw_cond (b:=(!(mget l10 ((((script.getD (v33).toNat zD).2.2.1).length:Int),(a12 ((script.getD (v33).toNat zD).2.2.1)))).isSome)) (by kernel_rfl) (fun hb=>?_) (fun hb=>?_)
            ·have h:=h.1 hb
             refine sr ?_
             refine rqT 5 ⟨52,[e13_31,sp 4 4,sp 5 5,sp 6 6,sA 34 [.pI k,.pI n,.pI (0:Int),.p (.sl tR) sv],s1 35 (.pS ((script.getD (v33).toNat zD).2.2.1)),e13_54,e13_51,e13_8 script,e13_29 script,sI 170 v33,e13_41],[e13_10,e13_0 script v33,e13_7 l10 script v33,e13_1 k n sv,e13_2 l10,e13_3 out,e13_19]⟩ (by kernel_rfl) ?_
             refine lcq (d:=36) [.d tG,.d (.sl tI)] (fun ret36v=>(⟨52,[e13_31,sp 4 4,sp 5 5,sp 6 6,(36,[],.tup [.c (.pI ret36v.1),.c (.pI ret36v.2)]),e13_54,e13_51,e13_8 script,e13_29 script,sI 170 v33,e13_41],[e13_10,e13_0 script v33,e13_7 l10 script v33,e13_1 k n sv,e13_2 l10,e13_3 out,e13_19]⟩:St)) (by kernel_rfl) Try.call56 (fun _=>by kernel_rfl) (link56 (k,(n,((0:Int),sv))) ((script.getD (v33).toNat zD).2.2.1) _ h) (fun ret36v h=>?_)
             refine rqT 7 ⟨52,[e13_31,sp 4 4,sp 5 5,sp 6 6,e13_54,e13_51,e13_8 script,e13_29 script,sI 170 v33,e13_41],[e13_10,e13_0 script v33,hB 6 [.pI ret36v.1,.pI ret36v.2],e13_1 k n sv,e13_2 l10,e13_3 out,e13_19]⟩ (by kernel_rfl) ?_
             refine nn ?_
             refine awd_begin [30200] (by kernel_rfl) ?_
             refine drq (by kernel_rfl) [0,1,2,3,4,5] (ob:=(Ts 6 True)) (done':=[5,4,3,2,1,0]) (st':=(⟨52,[sp 4 4,sp 6 6,s1 44 (.own 30200),sA 45 [.pI (((script.getD (v33).toNat zD).2.2.1).length:Int),.pI (((script.getD (v33).toNat zD).2.2.1).getD 0 0),.pI (((script.getD (v33).toNat zD).2.2.1).getD 1 0),.pI (((script.getD (v33).toNat zD).2.2.1).getD 2 0),.pI (((script.getD (v33).toNat zD).2.2.1).getD 3 0),.pI (((script.getD (v33).toNat zD).2.2.1).getD 4 0),.pI (((script.getD (v33).toNat zD).2.2.1).getD 5 0),.pI (((script.getD (v33).toNat zD).2.2.1).getD 6 0),.pI (((script.getD (v33).toNat zD).2.2.1).getD 7 0),.pI (((script.getD (v33).toNat zD).2.2.1).getD 8 0),.pI (((script.getD (v33).toNat zD).2.2.1).getD 9 0),.pI (((script.getD (v33).toNat zD).2.2.1).getD 10 0),.pI (((script.getD (v33).toNat zD).2.2.1).getD 11 0)],sA 46 [.pI ret36v.1,.pI ret36v.2],e13_54,e13_51,e13_8 script,e13_29 script,sI 170 v33,e13_41],[e13_10,hB 6 [.pI ret36v.1,.pI ret36v.2],e13_1 k n sv,e13_2 l10,e13_3 out,e13_19]⟩:St)) (by kernel_rfl) (tsI 6 trivial) ?_
             refine awd_one (i:=6) (by kernel_rfl) ?_
             refine dsq (ob:=True) (st':=(⟨52,[sp 4 4,sp 6 6,e13_54,e13_51,e13_8 script,e13_29 script,sI 170 v33,e13_41],[e13_10,hB 6 [.pI ret36v.1,.pI ret36v.2],e13_1 k n sv,(30200,[],.dict (.pr tI (.ar 11 tI)) (.pr tI tI) (mset l10 ((((script.getD (v33).toNat zD).2.2.1).length:Int),(a12 ((script.getD (v33).toNat zD).2.2.1))) ret36v)),e13_3 out,e13_19]⟩:St)) rfl (by kernel_rfl) trivial ?_
             refine awd_done (by kernel_rfl) ?_
             exact rest6 (ret36v.1,ret36v.2,(mset l10 ((((script.getD (v33).toNat zD).2.2.1).length:Int),(a12 ((script.getD (v33).toNat zD).2.2.1))) ret36v)) h
            ·have h:=h.2 hb
             refine cpr (st':=(⟨52,[sp 4 4,sp 6 6,e13_54,e13_51,e13_8 script,e13_29 script,sI 170 v33,e13_41],[e13_10,e13_7 l10 script v33,e13_1 k n sv,e13_2 l10,e13_3 out,e13_19]⟩:St)) (by kernel_rfl) ?_
             refine aw_skip ?_
             exact rest6 (((mget l10 ((((script.getD (v33).toNat zD).2.2.1).length:Int),(a12 ((script.getD (v33).toNat zD).2.2.1)))).getD ((0:Int),(0:Int))).1,((mget l10 ((((script.getD (v33).toNat zD).2.2.1).length:Int),(a12 ((script.getD (v33).toNat zD).2.2.1)))).getD ((0:Int),(0:Int))).2,l10) h
        ·have h:=h.2 hb
         refine srn 2 ⟨85,[e13_31,sp 3 3,sp 4 4,e13_33 script v33,sB 50 (decide ((script.getD (v33).toNat zD).1=(4:Int))),e13_32,e13_4 script,e13_16 script,sI 118 v33,e13_22],[e13_5 script v33,e13_10,e13_1 k n sv,e13_2 l10,e13_3 out]⟩ (by kernel_rfl) rfl ?_
         refine aw_cond (b:=(decide ((script.getD (v33).toNat zD).1=(4:Int)))) (by kernel_rfl) (fun hb=>?_) (fun hb=>?_)
         ·have h:=h.1 hb
          refine aw_seq ?_
          refine awd_begin [] (by kernel_rfl) ?_
          refine drq (by kernel_rfl) [0,1,2,3,4,5,6,7] (ob:=(Ts 8 True)) (done':=[7,6,5,4,3,2,1,0]) (st':=(⟨85,[sp 4 4,sA 56 [.pI k,.pI n,.pI (0:Int),.p (.sl tR) sv],s1 58 (.pS ((script.getD (v33).toNat zD).2.2.1)),sI 60 ((script.getD (v33).toNat zD).2.2.2.1),e13_32,e13_4 script,e13_16 script,sI 118 v33,e13_22],[e13_10,e13_1 k n sv,e13_2 l10,e13_3 out]⟩:St)) (by kernel_rfl) (tsI 8 trivial) ?_
          refine awd_one (i:=8) (by kernel_rfl) ?_
          refine dcq (d:=61) [.d tG,.d (.sl tI),.d tI] (fun ret61v=>(⟨85,[sp 4 4,(61,[],.tup [.c (.pS ret61v.1),.c (.pI ret61v.2)]),e13_32,e13_4 script,e13_16 script,sI 118 v33,e13_22],[e13_10,e13_1 k n sv,e13_2 l10,e13_3 out]⟩:St)) rfl (by kernel_rfl) Try.call44 (fun _=>by kernel_rfl) (link44 (k,(n,((0:Int),sv))) ((script.getD (v33).toNat zD).2.2.1) ((script.getD (v33).toNat zD).2.2.2.1) _ h) (fun ret61v h=>?_)
          refine drq (by kernel_rfl) [9,10,11,12,13] (ob:=(Ts 5 True)) (done':=e13_n2) (st':=(⟨85,[sp 4 4,s1 5 (.pS ret61v.1),sI 6 ret61v.2,e13_32,e13_4 script,e13_16 script,sI 118 v33,e13_22],[e13_10,e13_1 k n sv,e13_2 l10,e13_3 out]⟩:St)) (by kernel_rfl) (tsI 5 trivial) ?_
          refine awd_done (by kernel_rfl) ?_
          refine thenQ_n ?_
          refine srn 4 ⟨85,[sp 4 4,e13_32,e13_4 script,e13_16 script,sI 118 v33,e13_22],[hB 4 [.pI ret61v.2,.pI (0:Int),.pS ret61v.1],e13_1 k n sv,e13_2 l10,e13_3 out]⟩ (by kernel_rfl) rfl ?_
          refine aw_conv [.ren 4 20004,.ren 20004 30400,.prune e13_n0 [30000,30200,30201,30400]] (st':=(⟨85,[sp 4 30400,e13_32,e13_4 script,e13_16 script,sI 118 v33,e13_22],[e13_1 k n sv,e13_2 l10,e13_3 out,hB 30400 [.pI ret61v.2,.pI (0:Int),.pS ret61v.1]]⟩:St)) (by kernel_rfl) ?_
          refine aw_ret ?_
          refine blockQ_r ?_
          refine thenQ_r ?_
          exact rest2 (sv,l10,ret61v.2,(0:Int),ret61v.1) h
         ·have h:=h.2 hb
          refine srn 2 ⟨85,[e13_31,sp 3 3,sp 4 4,sB 67 (decide ((script.getD (v33).toNat zD).1=(5:Int))),e13_32,e13_4 script,e13_16 script,sI 118 v33,e13_22],[e13_5 script v33,e13_10,e13_1 k n sv,e13_2 l10,e13_3 out]⟩ (by kernel_rfl) rfl ?_
          refine aw_cond (b:=(decide ((script.getD (v33).toNat zD).1=(5:Int)))) (by kernel_rfl) (fun hb=>?_) (fun hb=>?_)
          ·have h:=h.1 hb
           refine aw_seq ?_
           refine awd_begin [] (by kernel_rfl) ?_
           refine drq (by kernel_rfl) [0,1,2,3,4,5,6,7] (ob:=(Ts 8 True)) (done':=[7,6,5,4,3,2,1,0]) (st':=(⟨85,[sp 4 4,sA 73 [.pI k,.pI n,.pI (0:Int),.p (.sl tR) sv],s1 75 (.pS ((script.getD (v33).toNat zD).2.2.1)),s1 77 (.pS ((script.getD (v33).toNat zD).2.2.2.2)),e13_32,e13_4 script,e13_16 script,sI 118 v33,e13_22],[e13_10,e13_1 k n sv,e13_2 l10,e13_3 out]⟩:St)) (by kernel_rfl) (tsI 8 trivial) ?_
           refine awd_one (i:=8) (by kernel_rfl) ?_
           refine dcq (d:=78) [.d tG,.d (.sl tI),.d (.sl tI)] (fun ret78v=>(⟨85,[sp 4 4,(78,[],.tup [.c (.pI ret78v.1),.c (.pI ret78v.2)]),e13_32,e13_4 script,e13_16 script,sI 118 v33,e13_22],[e13_10,e13_1 k n sv,e13_2 l10,e13_3 out]⟩:St)) rfl (by kernel_rfl) Try.call45 (fun _=>by kernel_rfl) (link45 (k,(n,((0:Int),sv))) ((script.getD (v33).toNat zD).2.2.1) ((script.getD (v33).toNat zD).2.2.2.2) _ h) (fun ret78v h=>?_)
           refine drq (by kernel_rfl) [9,10,11,12,13] (ob:=(Ts 5 True)) (done':=e13_n2) (st':=(⟨85,[sp 4 4,sI 7 ret78v.1,sI 8 ret78v.2,e13_32,e13_4 script,e13_16 script,sI 118 v33,e13_22],[e13_10,e13_1 k n sv,e13_2 l10,e13_3 out]⟩:St)) (by kernel_rfl) (tsI 5 trivial) ?_
           refine awd_done (by kernel_rfl) ?_
           refine thenQ_n ?_
           refine srn 4 ⟨85,[sp 4 4,e13_32,e13_4 script,e13_16 script,sI 118 v33,e13_22],[hB 4 [.pI ret78v.2,.pI ret78v.1,.nils],e13_1 k n sv,e13_2 l10,e13_3 out]⟩ (by kernel_rfl) rfl ?_
           refine aw_conv [.nilPB 4 2 tI,.ren 4 20004,.ren 20004 30400,.prune e13_n0 [30000,30200,30201,30400]] (st':=(⟨85,[sp 4 30400,e13_32,e13_4 script,e13_16 script,sI 118 v33,e13_22],[e13_1 k n sv,e13_2 l10,e13_3 out,hB 30400 [.pI ret78v.2,.pI ret78v.1,.pS ([]:List Int)]]⟩:St)) (by kernel_rfl) ?_
           refine aw_ret ?_
           refine blockQ_r ?_
           refine thenQ_r ?_
           exact rest2 (sv,l10,ret78v.2,ret78v.1,([]:List Int)) h
          ·have h:=h.2 hb
           refine aw_skip ?_
           refine blockQ_n ?_
           refine thenQ_n ?_
           refine srn 2 ⟨85,[sp 4 4,e13_32,e13_4 script,e13_16 script,sI 118 v33,e13_22],[hB 4 [.pI (6:Int),.pI (0:Int),.nils],e13_1 k n sv,e13_2 l10,e13_3 out]⟩ (by kernel_rfl) rfl ?_
           refine aw_conv [.nilPB 4 2 tI,.ren 4 20004,.ren 20004 30400,.prune e13_n0 [30000,30200,30201,30400]] (st':=(⟨85,[sp 4 30400,e13_32,e13_4 script,e13_16 script,sI 118 v33,e13_22],[e13_1 k n sv,e13_2 l10,e13_3 out,hB 30400 [.pI (6:Int),.pI (0:Int),.pS ([]:List Int)]]⟩:St)) (by kernel_rfl) ?_
           refine aw_ret ?_
           exact rest2 (sv,l10,(6:Int),(0:Int),([]:List Int)) h
    ·have h:=h.2 hb
     refine cpr (st':=(⟨45,[e13_62],[e13_44 out]⟩:St)) (by kernel_rfl) ?_
     refine aw_exit ?_
     refine thenQ_x ?_
     refine thenQ_x ?_
     refine blockQ_hit ?_
     exact rest1 out h
-- coppicer/coppicerref.Ints
def VC15_k1 (K:Bool→Prop):Prop :=
  K true
def VC15_l1 (a:LI) (b:LI) (K:Bool→Prop) (i:Int) (X1:Int→Prop):Prop :=
  (((decide (i<(a.length:Int)))=true→(inIdx i a.length∧inIdx i b.length∧(((!decide ((a.getD (i).toNat (0:Int))=(b.getD (i).toNat (0:Int))))=true→K false)∧((!decide ((a.getD (i).toNat (0:Int))=(b.getD (i).toNat (0:Int))))=false→(InR (i+(1:Int))∧X1 (i+(1:Int)))))))∧((decide (i<(a.length:Int)))=false→VC15_k1 K))
def VC15 (a:LI) (b:LI) (K:Bool→Prop):Prop :=
  (((!decide ((a.length:Int)=(b.length:Int)))=true→K false)∧((!decide ((a.length:Int)=(b.length:Int)))=false→Loop (σ:=Int) (fun s X=>VC15_l1 a b K s X) (0:Int)))
set_option maxHeartbeats 4000000 in
theorem link15 (a:LI) (b:LI) (K:Bool→Prop) (h:VC15 a b K):ACalls Try.prog 15 [toV1 (.sl tI) a,toV1 (.sl tI) b] (fun res=>∃ y,res=(fun y=>[toV1 .bool y]) y∧K y):=by
 refine acalls_of_aw [.bool] [.t 4] Try.func15 rfl rfl rfl ?_
 unfold VC15 at h
 refine srn 1 ⟨26,[s1 0 (.pS a),s1 1 (.pS b)],[]⟩ (by kernel_rfl) rfl ?_
 refine aw_seq ?_
 refine srn 5 ⟨26,[s1 0 (.pS a),s1 1 (.pS b),sB 10 (!decide ((a.length:Int)=(b.length:Int)))],[]⟩ (by kernel_rfl) rfl ?_
 refine aw_cond (b:=(!decide ((a.length:Int)=(b.length:Int)))) (by kernel_rfl) (fun hb=>?_) (fun hb=>?_)
 ·have h:=h.1 hb
  refine srn 1 ⟨26,[sB 4 false],[]⟩ (by kernel_rfl) rfl ?_
  refine aw_ret ?_
  refine thenQ_r ?_
  exact retQ_r (ob:=Ts 1 True) _ (by kernel_rfl) (tsI 1 trivial) h
 ·have h:=h.2 hb
  refine aw_skip ?_
  refine thenQ_n ?_
  refine aw_seq ?_
  refine srn 1 ⟨26,[s1 0 (.pS a),s1 1 (.pS b),sI 5 (0:Int)],[]⟩ (by kernel_rfl) rfl ?_
  refine withJoin (σ:=Unit) (fun s=>(⟨26,[],[]⟩:St)) (fun s=>VC15_k1 K) (fun s h=>?_) (fun rest1=>?_)
  ·have h:VC15_k1 K:=h
   unfold VC15_k1 at h
   refine thenQ_n ?_
   refine srn 1 ⟨26,[sB 4 true],[]⟩ (by kernel_rfl) rfl ?_
   refine aw_ret ?_
   exact retQ_r (ob:=Ts 1 True) _ (by kernel_rfl) (tsI 1 trivial) h
  ·refine aw_block ?_
   refine aw_loop (σ:=Int) (fun s=>(⟨26,[s1 0 (.pS a),s1 1 (.pS b),sI 5 s],[]⟩:St)) (fun s X=>VC15_l1 a b K s X) (s0:=(0:Int)) (fun i X1 h=>?_) h
   have h:VC15_l1 a b K i X1:=h
   unfold VC15_l1 at h
   refine aw_seq ?_
   refine srn 4 ⟨26,[s1 0 (.pS a),s1 1 (.pS b),sI 5 i,sB 14 (decide (i<(a.length:Int)))],[]⟩ (by kernel_rfl) rfl ?_
   refine aw_cond (b:=(decide (i<(a.length:Int)))) (by kernel_rfl) (fun hb=>?_) (fun hb=>?_)
   ·have h:=h.1 hb
    refine aw_skip ?_
    refine thenQ_n ?_
    refine aw_seq ?_
    refine aw_block ?_
    refine aw_seq ?_
    refine awd_begin [] (by kernel_rfl) ?_
    obtain ⟨o1,o2,h⟩:=h
    refine drq (by kernel_rfl) [0,1,2,3,4,5,6,7,8] (ob:=(Ts 2 (inIdx i a.length∧Ts 3 (inIdx i b.length∧Ts 2 True)))) (done':=[8,7,6,5,4,3,2,1,0]) (st':=(⟨26,[s1 0 (.pS a),s1 1 (.pS b),sI 5 i,sB 25 (!decide ((a.getD (i).toNat (0:Int))=(b.getD (i).toNat (0:Int))))],[]⟩:St)) (by kernel_rfl) (tsI 2 (⟨o1,tsI 3 ⟨o2,tsI 2 trivial⟩⟩)) ?_
    refine awd_done (by kernel_rfl) ?_
    refine thenQ_n ?_
    refine aw_cond (b:=(!decide ((a.getD (i).toNat (0:Int))=(b.getD (i).toNat (0:Int))))) (by kernel_rfl) (fun hb=>?_) (fun hb=>?_)
    ·have h:=h.1 hb
     refine srn 1 ⟨26,[sB 4 false],[]⟩ (by kernel_rfl) rfl ?_
     refine aw_ret ?_
     refine blockQ_r ?_
     refine thenQ_r ?_
     refine thenQ_r ?_
     refine blockQ_r ?_
     refine thenQ_r ?_
     exact retQ_r (ob:=Ts 1 True) _ (by kernel_rfl) (tsI 1 trivial) h
    ·have h:=h.2 hb
     refine aw_skip ?_
     refine blockQ_n ?_
     refine thenQ_n ?_
     refine aw_region ?_
     obtain ⟨o1,h⟩:=h
     refine rq 3 (ob:=(Ts 1 (InR (i+(1:Int))∧Ts 1 True))) (st':=(⟨26,[s1 0 (.pS a),s1 1 (.pS b),sI 5 (i+(1:Int))],[]⟩:St)) (by kernel_rfl) (tsI 1 ⟨o1,tsI 1 trivial⟩) ?_
     refine awl_nil ?_
     exact thenQ_n ⟨(i+(1:Int)),rfl,h⟩
   ·have h:=h.2 hb
    refine cpr (st':=(⟨26,[],[]⟩:St)) (by kernel_rfl) ?_
    refine aw_exit ?_
    refine thenQ_x ?_
    refine thenQ_x ?_
    refine blockQ_hit ?_
    exact rest1 () h
-- coppicer/coppicertop.same
def VC16 (a:(Int×(Int×LI))) (b:(Int×(Int×LI))) (K:Bool→Prop):Prop :=
  gcall (α:=Bool) ((decide (a.1=b.1))&&(decide (a.2.1=b.2.1))) (VC15 a.2.2 b.2.2) false (fun (ret22v:Bool)=>K (((decide (a.1=b.1))&&(decide (a.2.1=b.2.1)))&&ret22v))
set_option maxHeartbeats 4000000 in
theorem link16 (a:(Int×(Int×LI))) (b:(Int×(Int×LI))) (K:Bool→Prop) (h:VC16 a b K):ACalls Try.prog 16 [toV1 (.pr tI tR) a,toV1 (.pr tI tR) b] (fun res=>∃ y,res=(fun y=>[toV1 .bool y]) y∧K y):=by
 refine acalls_of_aw [.bool] [.t 4] Try.func16 rfl rfl rfl ?_
 unfold VC16 at h
 refine sr ?_
 refine rqT 3 ⟨24,[sp 2 2,sp 3 3],[hB 2 [.pI a.1,.pI a.2.1,.pS a.2.2],hB 3 [.pI b.1,.pI b.2.1,.pS b.2.2]]⟩ (by kernel_rfl) ?_
 refine nsr ?_
 refine rq 17 (ob:=(Ts 6 (Ti 5 ((decide (a.1=b.1))=true→True) (Ts 2 (Ti 4 (((decide (a.1=b.1))&&(decide (a.2.1=b.2.1)))=true→True) True))))) (st':=(⟨24,[sB 17 ((decide (a.1=b.1))&&(decide (a.2.1=b.2.1))),(19,[(17,true)],.v (.c (.pS a.2.2))),(21,[(17,true)],.v (.c (.pS b.2.2)))],[]⟩:St)) (by kernel_rfl) (tsI 6 (tiI 5 (fun _=>trivial) (tsI 2 (tiI 4 (fun _=>trivial) trivial)))) ?_
 refine awl_callk (p:=[(17,true)]) (l:=[toV1 (.sl tI) a.2.2,toV1 (.sl tI) b.2.2]) (cl:=[]) false [.d (.sl tI),.d (.sl tI)] [17,22] [] (fun (ret22v:Bool)=>K (((decide (a.1=b.1))&&(decide (a.2.1=b.2.1)))&&ret22v)) (fun ret22v=>[toV1 .bool ret22v]) (fun ret22v=>(⟨24,[sB 17 ((decide (a.1=b.1))&&(decide (a.2.1=b.2.1))),(22,[(17,true)],.v (.c (.pB ret22v)))],[]⟩:St)) (by kernel_rfl) rfl (by kernel_rfl) rfl (by kernel_rfl) Try.call15 (by kernel_rfl) (fun ret22v=>by kernel_rfl) (fun e=>by cases e) (fun hg=>link15 a.2.2 b.2.2 _ (by have:=gcall_T h (show ((decide (a.1=b.1))&&(decide (a.2.1=b.2.1)))=true from hg);exact this)) (fun hg=>⟨false,by have:=gcall_F h (show ((decide (a.1=b.1))&&(decide (a.2.1=b.2.1)))=false from hg);exact this⟩) (fun ret22v h=>?_)
 refine rqT 2 ⟨24,[sB 4 (((decide (a.1=b.1))&&(decide (a.2.1=b.2.1)))&&ret22v)],[]⟩ (by kernel_rfl) ?_
 refine nn ?_
 refine aw_ret ?_
 exact retQ_r (ob:=Ts 1 True) _ (by kernel_rfl) (tsI 1 trivial) h
abbrev e6_0 (script:LD):Nat×Path×AV:=s1 2 (.p (.sl (.pr tI (.pr tR (.pr (.sl tI) tR)))) script)
abbrev e6_1 (ret19v:LO×Int):Nat×Path×AV:=s1 9 (.p (.sl (.pr tI tR)) ret19v.1)
abbrev e6_2 (ret39v:LO×Int):Nat×Path×AV:=s1 12 (.p (.sl (.pr tI tR)) ret39v.1)
abbrev e6_3 (atv:Int) (script:LD):Nat×Path×AV:=sI 11 (atv % ((script.length:Int)+(1:Int)))
-- coppicer/coppicertop.TopFront
def VC6_k1 (K:Bool→Prop):Prop :=
  K true
def VC6_l1 (script:LD) (atv:Int) (K:Bool→Prop) (ret19v:LO×Int) (ret39v:LO×Int) (j:Int) (X1:Int→Prop):Prop :=
  (((decide (j<(atv % ((script.length:Int)+(1:Int)))))=true→(inIdx j ret19v.1.length∧inIdx j ret39v.1.length∧VC16 (ret19v.1.getD (j).toNat zT) (ret39v.1.getD (j).toNat zT) (fun (ret70v:Bool)=>(((!ret70v)=true→K false)∧((!ret70v)=false→(InR (j+(1:Int))∧X1 (j+(1:Int))))))))∧((decide (j<(atv % ((script.length:Int)+(1:Int)))))=false→VC6_k1 K))
def VC6 (k:Int) (n:Int) (script:LD) (atv:Int) (K:Bool→Prop):Prop :=
  VC13 k n script (fun (ret19v:LO×Int)=>(((!decide (ret19v.2=(0:Int)))=true→K (decide ((ret19v.1.length:Int)=(0:Int))))∧((!decide (ret19v.2=(0:Int)))=false→(InR ((script.length:Int)+(1:Int))∧(0≤atv∧0<((script.length:Int)+(1:Int)))∧((0≤(atv % ((script.length:Int)+(1:Int)))∧(atv % ((script.length:Int)+(1:Int)))≤(script.length:Int))∧VC13 k n (script.take ((atv % ((script.length:Int)+(1:Int)))).toNat) (fun (ret39v:LO×Int)=>(((((!decide (ret39v.2=(0:Int)))||(!decide ((ret19v.1.length:Int)=(script.length:Int))))||(!decide ((ret39v.1.length:Int)=(atv % ((script.length:Int)+(1:Int))))))=true→K false)∧((((!decide (ret39v.2=(0:Int)))||(!decide ((ret19v.1.length:Int)=(script.length:Int))))||(!decide ((ret39v.1.length:Int)=(atv % ((script.length:Int)+(1:Int))))))=false→Loop (σ:=Int) (fun s X=>VC6_l1 script atv K ret19v ret39v s X) (0:Int)))))))))
set_option maxHeartbeats 4000000 in
theorem link6 (k:Int) (n:Int) (script:LD) (atv:Int) (K:Bool→Prop) (h:VC6 k n script atv K):ACalls Try.prog 6 [toV1 tI k,toV1 tI n,toV1 (.sl (.pr tI (.pr tR (.pr (.sl tI) tR)))) script,toV1 (.int .u8) atv] (fun res=>∃ y,res=(fun y=>[toV1 .bool y]) y∧K y):=by
 refine acalls_of_aw [.bool] [.t 8] Try.func6 rfl rfl rfl ?_
 unfold VC6 at h
 refine sr ?_
 refine rqT 1 ⟨72,[sI 0 k,sI 1 n,e6_0 script,s1 3 (.pY atv)],[]⟩ (by kernel_rfl) ?_
 refine nsr ?_
 refine rqT 3 ⟨72,[sI 0 k,sI 1 n,e6_0 script,s1 3 (.pY atv),sI 16 k,sI 17 n,s1 18 (.p (.sl (.pr tI (.pr tR (.pr (.sl tI) tR)))) script)],[]⟩ (by kernel_rfl) ?_
 refine lcq (d:=19) [.d tI,.d tI,.d (.sl (.pr tI (.pr tR (.pr (.sl tI) tR))))] (fun ret19v=>(⟨72,[sI 0 k,sI 1 n,e6_0 script,s1 3 (.pY atv),(19,[],.tup [.c (.p (.sl (.pr tI tR)) ret19v.1),.c (.pI ret19v.2)])],[]⟩:St)) (by kernel_rfl) Try.call13 (fun _=>by kernel_rfl) (link13 k n script _ h) (fun ret19v h=>?_)
 refine rqT 5 ⟨72,[sI 0 k,sI 1 n,e6_0 script,s1 3 (.pY atv),e6_1 ret19v,sI 10 ret19v.2],[]⟩ (by kernel_rfl) ?_
 refine nn ?_
 refine aw_seq ?_
 refine srn 2 ⟨72,[sI 0 k,sI 1 n,e6_0 script,s1 3 (.pY atv),e6_1 ret19v,sB 23 (!decide (ret19v.2=(0:Int)))],[]⟩ (by kernel_rfl) rfl ?_
 refine aw_cond (b:=(!decide (ret19v.2=(0:Int)))) (by kernel_rfl) (fun hb=>?_) (fun hb=>?_)
 ·have h:=h.1 hb
  refine srn 4 ⟨72,[sB 8 (decide ((ret19v.1.length:Int)=(0:Int)))],[]⟩ (by kernel_rfl) rfl ?_
  refine aw_ret ?_
  refine thenQ_r ?_
  exact retQ_r (ob:=Ts 1 True) _ (by kernel_rfl) (tsI 1 trivial) h
 ·have h:=h.2 hb
  refine aw_skip ?_
  refine thenQ_n ?_
  refine sr ?_
  obtain ⟨o1,o2,h⟩:=h
  refine rq 7 (ob:=(Ts 4 (InR ((script.length:Int)+(1:Int))∧(0≤atv∧0<((script.length:Int)+(1:Int)))∧Ts 1 True))) (st':=(⟨72,[sI 0 k,sI 1 n,e6_0 script,e6_1 ret19v,e6_3 atv script],[]⟩:St)) (by kernel_rfl) (tsI 4 (⟨o1,⟨o2,tsI 1 trivial⟩⟩)) ?_
  refine nsr ?_
  obtain ⟨o1,h⟩:=h
  refine rq 5 (ob:=(Ts 4 ((0≤(atv % ((script.length:Int)+(1:Int)))∧(atv % ((script.length:Int)+(1:Int)))≤(script.length:Int))∧True))) (st':=(⟨72,[e6_0 script,e6_1 ret19v,e6_3 atv script,sI 34 k,sI 35 n,s1 38 (.p (.sl (.pr tI (.pr tR (.pr (.sl tI) tR)))) (script.take ((atv % ((script.length:Int)+(1:Int)))).toNat))],[]⟩:St)) (by kernel_rfl) (tsI 4 ⟨o1,trivial⟩) ?_
  refine lcq (d:=39) [.d tI,.d tI,.d (.sl (.pr tI (.pr tR (.pr (.sl tI) tR))))] (fun ret39v=>(⟨72,[e6_0 script,e6_1 ret19v,e6_3 atv script,(39,[],.tup [.c (.p (.sl (.pr tI tR)) ret39v.1),.c (.pI ret39v.2)])],[]⟩:St)) (by kernel_rfl) Try.call13 (fun _=>by kernel_rfl) (link13 k n (script.take ((atv % ((script.length:Int)+(1:Int)))).toNat) _ h) (fun ret39v h=>?_)
  refine rqT 5 ⟨72,[e6_0 script,e6_1 ret19v,e6_3 atv script,e6_2 ret39v,sI 13 ret39v.2],[]⟩ (by kernel_rfl) ?_
  refine nn ?_
  refine aw_seq ?_
  refine sr ?_
  refine rq 15 (ob:=(Ts 3 (Ti 5 ((!decide (ret39v.2=(0:Int)))=false→True) (Ts 2 (Ti 4 (((!decide (ret39v.2=(0:Int)))||(!decide ((ret19v.1.length:Int)=(script.length:Int))))=false→True) (Ts 1 True)))))) (st':=(⟨72,[e6_1 ret19v,e6_3 atv script,e6_2 ret39v,sB 56 (((!decide (ret39v.2=(0:Int)))||(!decide ((ret19v.1.length:Int)=(script.length:Int))))||(!decide ((ret39v.1.length:Int)=(atv % ((script.length:Int)+(1:Int))))))],[]⟩:St)) (by kernel_rfl) (tsI 3 (tiI 5 (fun _=>trivial) (tsI 2 (tiI 4 (fun _=>trivial) (tsI 1 trivial))))) ?_
  refine nn ?_
  refine aw_cond (b:=(((!decide (ret39v.2=(0:Int)))||(!decide ((ret19v.1.length:Int)=(script.length:Int))))||(!decide ((ret39v.1.length:Int)=(atv % ((script.length:Int)+(1:Int))))))) (by kernel_rfl) (fun hb=>?_) (fun hb=>?_)
  ·have h:=h.1 hb
   refine srn 1 ⟨72,[sB 8 false],[]⟩ (by kernel_rfl) rfl ?_
   refine aw_ret ?_
   refine thenQ_r ?_
   exact retQ_r (ob:=Ts 1 True) _ (by kernel_rfl) (tsI 1 trivial) h
  ·have h:=h.2 hb
   refine aw_skip ?_
   refine thenQ_n ?_
   refine aw_seq ?_
   refine srn 1 ⟨72,[e6_1 ret19v,e6_3 atv script,e6_2 ret39v,sI 14 (0:Int)],[]⟩ (by kernel_rfl) rfl ?_
   refine withJoin (σ:=Unit) (fun s=>(⟨72,[],[]⟩:St)) (fun s=>VC6_k1 K) (fun s h=>?_) (fun rest1=>?_)
   ·have h:VC6_k1 K:=h
    unfold VC6_k1 at h
    refine thenQ_n ?_
    refine srn 1 ⟨72,[sB 8 true],[]⟩ (by kernel_rfl) rfl ?_
    refine aw_ret ?_
    exact retQ_r (ob:=Ts 1 True) _ (by kernel_rfl) (tsI 1 trivial) h
   ·refine aw_block ?_
    refine aw_loop (σ:=Int) (fun s=>(⟨72,[e6_1 ret19v,e6_3 atv script,e6_2 ret39v,sI 14 s],[]⟩:St)) (fun s X=>VC6_l1 script atv K ret19v ret39v s X) (s0:=(0:Int)) (fun j X1 h=>?_) h
    have h:VC6_l1 script atv K ret19v ret39v j X1:=h
    unfold VC6_l1 at h
    refine aw_seq ?_
    refine srn 3 ⟨72,[e6_1 ret19v,e6_3 atv script,e6_2 ret39v,sI 14 j,sB 59 (decide (j<(atv % ((script.length:Int)+(1:Int)))))],[]⟩ (by kernel_rfl) rfl ?_
    refine aw_cond (b:=(decide (j<(atv % ((script.length:Int)+(1:Int)))))) (by kernel_rfl) (fun hb=>?_) (fun hb=>?_)
    ·have h:=h.1 hb
     refine aw_skip ?_
     refine thenQ_n ?_
     refine aw_seq ?_
     refine aw_block ?_
     refine aw_seq ?_
     refine awd_begin [] (by kernel_rfl) ?_
     obtain ⟨o1,o2,h⟩:=h
     refine drq (by kernel_rfl) [0,1,2,3,4,5,6,7] (ob:=(Ts 2 (inIdx j ret19v.1.length∧Ts 3 (inIdx j ret39v.1.length∧Ts 1 True)))) (done':=[7,6,5,4,3,2,1,0]) (st':=(⟨72,[e6_1 ret19v,e6_3 atv script,e6_2 ret39v,sI 14 j,sA 65 [.pI ((ret19v.1.getD (j).toNat zT).1),.pI ((ret19v.1.getD (j).toNat zT).2.1),.pS ((ret19v.1.getD (j).toNat zT).2.2)],sA 69 [.pI ((ret39v.1.getD (j).toNat zT).1),.pI ((ret39v.1.getD (j).toNat zT).2.1),.pS ((ret39v.1.getD (j).toNat zT).2.2)]],[]⟩:St)) (by kernel_rfl) (tsI 2 (⟨o1,tsI 3 ⟨o2,tsI 1 trivial⟩⟩)) ?_
     refine awd_one (i:=8) (by kernel_rfl) ?_
     refine dcq (d:=70) [.d (.pr tI tR),.d (.pr tI tR)] (fun ret70v=>(⟨72,[e6_1 ret19v,e6_3 atv script,e6_2 ret39v,sI 14 j,sB 70 ret70v],[]⟩:St)) rfl (by kernel_rfl) Try.call16 (fun _=>by kernel_rfl) (link16 (ret19v.1.getD (j).toNat zT) (ret39v.1.getD (j).toNat zT) _ h) (fun ret70v h=>?_)
     refine drq (by kernel_rfl) [9] (ob:=(Ts 1 True)) (done':=[9,8,7,6,5,4,3,2,1,0]) (st':=(⟨72,[e6_1 ret19v,e6_3 atv script,e6_2 ret39v,sI 14 j,sB 71 (!ret70v)],[]⟩:St)) (by kernel_rfl) (tsI 1 trivial) ?_
     refine awd_done (by kernel_rfl) ?_
     refine thenQ_n ?_
     refine aw_cond (b:=(!ret70v)) (by kernel_rfl) (fun hb=>?_) (fun hb=>?_)
     ·have h:=h.1 hb
      refine srn 1 ⟨72,[sB 8 false],[]⟩ (by kernel_rfl) rfl ?_
      refine aw_ret ?_
      refine blockQ_r ?_
      refine thenQ_r ?_
      refine thenQ_r ?_
      refine blockQ_r ?_
      refine thenQ_r ?_
      exact retQ_r (ob:=Ts 1 True) _ (by kernel_rfl) (tsI 1 trivial) h
     ·have h:=h.2 hb
      refine aw_skip ?_
      refine blockQ_n ?_
      refine thenQ_n ?_
      refine aw_region ?_
      obtain ⟨o1,h⟩:=h
      refine rq 3 (ob:=(Ts 1 (InR (j+(1:Int))∧Ts 1 True))) (st':=(⟨72,[e6_1 ret19v,e6_3 atv script,e6_2 ret39v,sI 14 (j+(1:Int))],[]⟩:St)) (by kernel_rfl) (tsI 1 ⟨o1,tsI 1 trivial⟩) ?_
      refine awl_nil ?_
      exact thenQ_n ⟨(j+(1:Int)),rfl,h⟩
    ·have h:=h.2 hb
     refine cpr (st':=(⟨72,[],[]⟩:St)) (by kernel_rfl) ?_
     refine aw_exit ?_
     refine thenQ_x ?_
     refine thenQ_x ?_
     refine blockQ_hit ?_
     exact rest1 () h
end Dec
