/-
Printed by dec2.py: of each function its plain demand, and that the demand gives the contract.
-/
import Derived.Test.YtljlpmfmfcljaaaGenUc
set_option linter.unusedSimpArgs false
set_option linter.unusedVariables false
set_option maxRecDepth 100000
namespace Dec
open Go Go.RowKit Go.Proofs
abbrev e5_0 (c0:LD):Nat×Path×Con:=hA 70200 42 (.pr tI (.pr tR (.pr (.sl tI) tR))) c0
abbrev e5_1 (c0:LD) (v33:Int):Nat×Path×Con:=hB 5 [.pI (((c0.getD ((v33).toNat) zD).2.2.1).length:Int),.pI (((c0.getD ((v33).toNat) zD).2.2.1).getD 0 0),.pI (((c0.getD ((v33).toNat) zD).2.2.1).getD 1 0),.pI (((c0.getD ((v33).toNat) zD).2.2.1).getD 2 0),.pI (((c0.getD ((v33).toNat) zD).2.2.1).getD 3 0),.pI (((c0.getD ((v33).toNat) zD).2.2.1).getD 4 0),.pI (((c0.getD ((v33).toNat) zD).2.2.1).getD 5 0),.pI (((c0.getD ((v33).toNat) zD).2.2.1).getD 6 0),.pI (((c0.getD ((v33).toNat) zD).2.2.1).getD 7 0),.pI (((c0.getD ((v33).toNat) zD).2.2.1).getD 8 0),.pI (((c0.getD ((v33).toNat) zD).2.2.1).getD 9 0),.pI (((c0.getD ((v33).toNat) zD).2.2.1).getD 10 0),.pI (((c0.getD ((v33).toNat) zD).2.2.1).getD 11 0)]
abbrev e5_2 (k:Int) (n:Int) (sv:LR):Nat×Path×Con:=hB 30000 [.pI k,.pI n,.pI (0:Int),.p (.sl tR) sv,.own 30200]
abbrev e5_3 (l10:LS):Nat×Path×Con:=(30200,[],.dict (.pr tI (.ar 11 tI)) (.pr tI tI) l10)
abbrev e5_4 (out:LO):Nat×Path×Con:=hA 30201 48 (.pr tI tR) out
abbrev e5_5 (c0:LD) (v33:Int):Nat×Path×Con:=hB 3 [.pI ((c0.getD ((v33).toNat) zD).1),.pI ((c0.getD ((v33).toNat) zD).2.1.1),.pS ((c0.getD ((v33).toNat) zD).2.1.2),.pS ((c0.getD ((v33).toNat) zD).2.2.1),.pI ((c0.getD ((v33).toNat) zD).2.2.2.1),.pS ((c0.getD ((v33).toNat) zD).2.2.2.2)]
abbrev e5_6 (l10:LS) (c0:LD) (v33:Int):Nat×Path×Con:=hB 6 [.pI (((mget l10 ((((c0.getD ((v33).toNat) zD).2.2.1).length:Int),(a12 ((c0.getD ((v33).toNat) zD).2.2.1)))).getD ((0:Int),(0:Int))).1),.pI (((mget l10 ((((c0.getD ((v33).toNat) zD).2.2.1).length:Int),(a12 ((c0.getD ((v33).toNat) zD).2.2.1)))).getD ((0:Int),(0:Int))).2)]
abbrev e5_7:Nat×Path×Con:=(10,[],.dict (.pr tI (.ar 11 tI)) (.pr tI tI) ([]:LS))
abbrev e5_8:Nat×Path×Con:=hB 4 [.pI (0:Int),.pI (0:Int),.nils]
abbrev e5_9 (ret16v:LR) (c0:LD) (v33:Int) (ret21v:LI):Nat×Path×Con:=hA 24 40 tR (ret16v++[((c0.getD ((v33).toNat) zD).2.1.1,ret21v)])
abbrev e5_10:Nat×Path×Con:=hB 30400 [.pI (0:Int),.pI (0:Int),.nils]
abbrev e5_11 (c0:LD) (v33:Int):Nat×Path×AV:=s1 1 (.pS ((c0.getD ((v33).toNat) zD).2.2.1))
abbrev e5_12 (c0:LD) (v33:Int):Nat×Path×AV:=sA 39 [.pI ((c0.getD ((v33).toNat) zD).1),.pI ((c0.getD ((v33).toNat) zD).2.1.1),.pS ((c0.getD ((v33).toNat) zD).2.1.2),.pS ((c0.getD ((v33).toNat) zD).2.2.1),.pI ((c0.getD ((v33).toNat) zD).2.2.2.1),.pS ((c0.getD ((v33).toNat) zD).2.2.2.2)]
abbrev e5_13 (c0:LD):Nat×Path×AV:=sI 117 (c0.length:Int)
abbrev e5_14 (l10:LS) (c0:LD) (v33:Int):Nat×Path×AV:=sA 26 [.pI (((mget l10 ((((c0.getD ((v33).toNat) zD).2.2.1).length:Int),(a12 ((c0.getD ((v33).toNat) zD).2.2.1)))).getD ((0:Int),(0:Int))).1),.pI (((mget l10 ((((c0.getD ((v33).toNat) zD).2.2.1).length:Int),(a12 ((c0.getD ((v33).toNat) zD).2.2.1)))).getD ((0:Int),(0:Int))).2)]
abbrev e5_15:Nat×Path×Con:=hB 30900 [.pI (0:Int),.pI (0:Int),.nils]
abbrev e5_16 (ret16v:LR) (c0:LD) (v33:Int) (ret21v:LI):Nat×Path×Con:=hA 30601 40 tR (ret16v++[((c0.getD ((v33).toNat) zD).2.1.1,ret21v)])
abbrev e5_17:Nat×Path×Con:=hB 30800 [.pI (0:Int),.pI (0:Int),.nils]
abbrev e5_18:Nat×Path×AV:=s1 116 (.own 70200)
abbrev e5_19:Nat×Path×AV:=s1 122 (.own 30201)
abbrev e5_20:Nat×Path×AV:=s1 130 (.own 70200)
abbrev e5_21 (l30200:LS):Nat×Path×Con:=(30200,[],.dict (.pr tI (.ar 11 tI)) (.pr tI tI) l30200)
abbrev e5_22 (l10:LS) (c0:LD) (v33:Int):Nat×Path×AV:=sB 27 ((mget l10 ((((c0.getD ((v33).toNat) zD).2.2.1).length:Int),(a12 ((c0.getD ((v33).toNat) zD).2.2.1)))).isSome)
abbrev e5_23 (k:Int) (n:Int) (sv:LR):Nat×Path×Con:=hB 5 [.pI k,.pI n,.pI (0:Int),.p (.sl tR) sv]
abbrev e5_24 (c0:LD):Nat×Path×AV:=sI 165 (c0.length:Int)
abbrev e5_25 (c0:LD) (v33:Int):Nat×Path×Con:=hB 5 [.pI (((c0.getD ((v33).toNat) zD).2.2.1).length:Int),.pI (0:Int),.pI (0:Int),.pI (0:Int),.pI (0:Int),.pI (0:Int),.pI (0:Int),.pI (0:Int),.pI (0:Int),.pI (0:Int),.pI (0:Int),.pI (0:Int),.pI (0:Int)]
abbrev e5_26 (k:Int) (n:Int) (sv2:LR):Nat×Path×Con:=hB 30000 [.pI k,.pI n,.pI (0:Int),.p (.sl tR) sv2,.own 30200]
abbrev e5_27:Nat×Path×AV:=s1 45 (.own 70200)
abbrev e5_28:Nat×Path×AV:=sp 0 30000
abbrev e5_29:Nat×Path×AV:=sp 93 30000
abbrev e5_30 (c0:LD) (v33:Int):Nat×Path×AV:=sI 10 ((c0.getD ((v33).toNat) zD).1)
abbrev e5_31 (c0:LD):Nat×Path×AV:=sI 169 (c0.length:Int)
abbrev e5_32:Nat×Path×AV:=s1 164 (.own 70200)
abbrev e5_33:Nat×Path×AV:=s1 170 (.own 30201)
abbrev e5_34:Nat×Path×AV:=s1 178 (.own 70200)
abbrev e5_35 (ret41v:LR):Nat×Path×Con:=hA 41 40 tR ret41v
abbrev e5_36 (k:Int) (n:Int):Nat×Path×Con:=hB 30000 [.pI k,.pI n,.pI (0:Int),.nils,.own 10]
abbrev e5_37 (c0:LD) (v33:Int):Nat×Path×AV:=sA 15 [.pI ((c0.getD ((v33).toNat) zD).2.1.1),.pS ((c0.getD ((v33).toNat) zD).2.1.2)]
abbrev e5_38 (c0:LD) (v33:Int):Nat×Path×Con:=hB 3 [.pI ((c0.getD ((v33).toNat) zD).2.1.1),.pS ((c0.getD ((v33).toNat) zD).2.1.2)]
abbrev e5_39:Nat×Path×AV:=s1 168 (.own 70200)
abbrev e5_40:Nat×Path×AV:=s1 174 (.own 30201)
abbrev e5_41:Nat×Path×AV:=s1 182 (.own 70200)
abbrev e5_42:Nat×Path×AV:=sp 4 4
abbrev e5_43 (k:Int) (n:Int):Nat×Path×Con:=hB 5 [.pI k,.pI n,.pI (0:Int),.own 24]
abbrev e5_44 (out:LO):Nat×Path×Con:=hA 5010 48 (.pr tI tR) out
abbrev e5_45 (c0:LD) (v33:Int):Nat×Path×AV:=sI 18 ((c0.getD ((v33).toNat) zD).2.1.1)
abbrev e5_46 (k:Int) (n:Int):Nat×Path×Con:=hB 30000 [.pI k,.pI n,.pI (0:Int),.own 41,.own 10]
abbrev e5_47:Nat×Path×AV:=sp 141 30000
abbrev e5_48:Nat×Path×AV:=sp 52 30400
abbrev e5_49 (k:Int) (n:Int) (sv:LR):Nat×Path×Con:=hB 30000 [.pI k,.pI n,.pI (0:Int),.p (.sl tR) sv,.own 10]
abbrev e5_50 (l10:LS):Nat×Path×Con:=(10,[],.dict (.pr tI (.ar 11 tI)) (.pr tI tI) l10)
abbrev e5_51:Nat×Path×AV:=sp 145 30000
abbrev e5_52 (ret16v:LR):Nat×Path×Con:=hA 16 40 tR ret16v
abbrev e5_53 (c0:LD):Nat×Path×AV:=sI 32 (c0.length:Int)
abbrev e5_54:Nat×Path×Con:=(30200,[],.dict (.pr tI (.ar 11 tI)) (.pr tI tI) ([]:LS))
abbrev e5_55:Nat×Path×AV:=sp 56 30900
abbrev e5_56:Nat×Path×Con:=hB 30600 [.pI (0:Int),.pI (0:Int),.nils]
abbrev e5_57:Nat×Path×AV:=s1 2 (.own 70200)
abbrev e5_58 (sv:LR):Nat×Path×AV:=s1 40 (.p (.sl tR) (sv.take (((sv.length:Int)-(1:Int))).toNat))
abbrev e5_59:Nat×Path×AV:=s1 6 (.p (.sl (.pr tI tR)) ([]:LO))
abbrev e5_60:Nat×Path×AV:=s1 31 (.own 70200)
abbrev e5_61:Nat×Path×AV:=sp 8 30000
abbrev e5_62 (k:Int) (n:Int):Nat×Path×Con:=hB 30000 [.pI k,.pI n,.pI (0:Int),.own 30601,.own 10]
abbrev e5_63 (sv:LR):Nat×Path×AV:=s1 32 (.p (.sl tR) sv)
abbrev e5_64 (k:Int) (n:Int):Nat×Path×Con:=hB 30000 [.pI k,.pI n,.pI (0:Int),.nils,.nilm]
abbrev e5_65:Nat×Path×AV:=sp 4 30800
abbrev e5_66:Nat×Path×AV:=s1 10 (.own 5010)
abbrev e5_67:Nat×Path×AV:=s1 129 (.own 70200)
abbrev e5_68:Nat×Path×AV:=s1 135 (.own 30201)
abbrev e5_69:Nat×Path×AV:=s1 143 (.own 70200)
abbrev e5_70:Nat×Path×AV:=sp 4 30400
abbrev e5_71:Nat×Path×AV:=sp 27 30000
abbrev e5_n0:List Nat:=[30000,30200,30201,30400,70200]
abbrev e5_n1:List Nat:=[4,93,116,117,118,122,130]
abbrev e5_n2:List Nat:=[41,30000,30200,30201,30800,70200]
abbrev e5_n3:List Nat:=[13,12,11,10,9,8,7,6,5,4,3,2,1,0]
abbrev e5_n4:List Nat:=[4,5,24,30000,30200,30201,30400,70200]
abbrev e5_n5:List Nat:=[4,27,41,93,116,117,118,122,130]
-- coppicer/stand.Play
def VCc13_k1 (K:LO×Int→Prop) (out:LO):Prop :=
  K (out,(0:Int))
def VCc13_k2 (v33:Int) (out:LO) (X1:Int×LS×LO×LR→Prop) (sv2:LR) (l30200:LS) (l30400:Int) (l304002:Int) (l304003:LI):Prop :=
  (roomW 40 (out.length+[(l30400,(l304002,l304003))].length)∧(InR (v33+(1:Int))∧X1 ((v33+(1:Int)),l30200,(out++[(l30400,(l304002,l304003))]),sv2)))
def VCc13_k3 (v33:Int) (out:LO) (X1:Int×LS×LO×LR→Prop) (l4:Int) (l42:Int) (sv2:LR) (l30200:LS):Prop :=
  VCc13_k2 v33 out X1 sv2 l30200 l4 l42 ([]:List Int)
def VCc13_k4 (v33:Int) (out:LO) (X1:Int×LS×LO×LR→Prop) (l41:LR):Prop :=
  VCc13_k2 v33 out X1 l41 ([]:LS) (0:Int) (0:Int) ([]:List Int)
def VCc13_k5 (v33:Int) (out:LO) (sv:LR) (X1:Int×LS×LO×LR→Prop) (l4:Int) (l42:Int) (l30200:LS):Prop :=
  VCc13_k2 v33 out X1 sv l30200 l4 l42 ([]:List Int)
def VCc13_k6 (v33:Int) (out:LO) (sv:LR) (X1:Int×LS×LO×LR→Prop) (a:Int) (a2:Int) (l30200:LS):Prop :=
  VCc13_k5 v33 out sv X1 a2 a l30200
def VCc13_l1 (c0:LD) (k:Int) (n:Int) (K:LO×Int→Prop) (v33:Int) (l10:LS) (out:LO) (sv:LR) (X1:Int×LS×LO×LR→Prop):Prop :=
  (((decide (v33<(c0.length:Int)))=true→(inIdx v33 c0.length∧(((decide ((c0.getD ((v33).toNat) zD).1=(1:Int)))=true→VC42 sv (fun (ret16v:LR)=>VC54 ((c0.getD ((v33).toNat) zD).2.1.2) (fun (ret21v:LI)=>(roomW 32 (ret16v.length+[((c0.getD ((v33).toNat) zD).2.1.1,ret21v)].length)∧VC25 (k,(n,((0:Int),(ret16v++[((c0.getD ((v33).toNat) zD).2.1.1,ret21v)])))) (fun (ret27v:Int)=>(((!decide (ret27v=(0:Int)))=true→VCc13_k3 v33 out X1 ret27v (0:Int) sv l10)∧((!decide (ret27v=(0:Int)))=false→VC55 (k,(n,((0:Int),(ret16v++[((c0.getD ((v33).toNat) zD).2.1.1,ret21v)])))) (fun (ret33v:Bool)=>(((!ret33v)=true→VCc13_k3 v33 out X1 (3:Int) (0:Int) sv l10)∧((!ret33v)=false→(InR (((ret16v++[((c0.getD ((v33).toNat) zD).2.1.1,ret21v)]).length:Int)-(1:Int))∧VCc13_k3 v33 out X1 (0:Int) (((ret16v++[((c0.getD ((v33).toNat) zD).2.1.1,ret21v)]).length:Int)-(1:Int)) (ret16v++[((c0.getD ((v33).toNat) zD).2.1.1,ret21v)]) ([]:LS))))))))))))∧((decide ((c0.getD ((v33).toNat) zD).1=(1:Int)))=false→(((decide ((c0.getD ((v33).toNat) zD).1=(2:Int)))=true→(((decide ((sv.length:Int)=(0:Int)))=true→VCc13_k2 v33 out X1 sv l10 (5:Int) (0:Int) ([]:List Int))∧((decide ((sv.length:Int)=(0:Int)))=false→((InR ((sv.length:Int)-(1:Int))∧(0≤((sv.length:Int)-(1:Int))∧((sv.length:Int)-(1:Int))≤(sv.length:Int))∧VC42 (sv.take (((sv.length:Int)-(1:Int))).toNat) (fun (ret41v:LR)=>VCc13_k4 v33 out X1 ret41v))∧(InR ((sv.length:Int)-(1:Int))∧((0≤((sv.length:Int)-(1:Int))∧((sv.length:Int)-(1:Int))≤(sv.length:Int))∧VC42 (sv.take (((sv.length:Int)-(1:Int))).toNat) (fun (ret41v:LR)=>VCc13_k4 v33 out X1 ret41v)))))))∧((decide ((c0.getD ((v33).toNat) zD).1=(2:Int)))=false→(((decide ((c0.getD ((v33).toNat) zD).1=(3:Int)))=true→(((decide ((12:Int)<(((c0.getD ((v33).toNat) zD).2.2.1).length:Int)))=true→VCc13_k5 v33 out sv X1 (1:Int) (0:Int) l10)∧((decide ((12:Int)<(((c0.getD ((v33).toNat) zD).2.2.1).length:Int)))=false→(((!(mget l10 ((((c0.getD ((v33).toNat) zD).2.2.1).length:Int),(a12 ((c0.getD ((v33).toNat) zD).2.2.1)))).isSome)=true→VC56 (k,(n,((0:Int),sv))) ((c0.getD ((v33).toNat) zD).2.2.1) (fun (ret36v:Int×Int)=>VCc13_k6 v33 out sv X1 ret36v.1 ret36v.2 (mset l10 ((((c0.getD ((v33).toNat) zD).2.2.1).length:Int),(a12 ((c0.getD ((v33).toNat) zD).2.2.1))) ret36v)))∧((!(mget l10 ((((c0.getD ((v33).toNat) zD).2.2.1).length:Int),(a12 ((c0.getD ((v33).toNat) zD).2.2.1)))).isSome)=false→VCc13_k6 v33 out sv X1 (((mget l10 ((((c0.getD ((v33).toNat) zD).2.2.1).length:Int),(a12 ((c0.getD ((v33).toNat) zD).2.2.1)))).getD ((0:Int),(0:Int))).1) (((mget l10 ((((c0.getD ((v33).toNat) zD).2.2.1).length:Int),(a12 ((c0.getD ((v33).toNat) zD).2.2.1)))).getD ((0:Int),(0:Int))).2) l10)))))∧((decide ((c0.getD ((v33).toNat) zD).1=(3:Int)))=false→(((decide ((c0.getD ((v33).toNat) zD).1=(4:Int)))=true→VC44 (k,(n,((0:Int),sv))) ((c0.getD ((v33).toNat) zD).2.2.1) ((c0.getD ((v33).toNat) zD).2.2.2.1) (fun (ret61v:LI×Int)=>VCc13_k2 v33 out X1 sv l10 ret61v.2 (0:Int) ret61v.1))∧((decide ((c0.getD ((v33).toNat) zD).1=(4:Int)))=false→(((decide ((c0.getD ((v33).toNat) zD).1=(5:Int)))=true→VC45 (k,(n,((0:Int),sv))) ((c0.getD ((v33).toNat) zD).2.2.1) ((c0.getD ((v33).toNat) zD).2.2.2.2) (fun (ret78v:Int×Int)=>VCc13_k2 v33 out X1 sv l10 ret78v.2 ret78v.1 ([]:List Int)))∧((decide ((c0.getD ((v33).toNat) zD).1=(5:Int)))=false→VCc13_k2 v33 out X1 sv l10 (6:Int) (0:Int) ([]:List Int)))))))))))))∧((decide (v33<(c0.length:Int)))=false→VCc13_k1 K out))
def VCc13 (c0:LD) (R:Int→Int→(LO×Int→Prop)→Prop) (k:Int) (n:Int) (K:LO×Int→Prop):Prop :=
  VC25 (k,(n,((0:Int),([]:LR)))) (fun (ret24v:Int)=>(((!decide (ret24v=(0:Int)))=true→K (([]:LO),ret24v))∧((!decide (ret24v=(0:Int)))=false→(((decide ((40:Int)<(c0.length:Int)))=true→K (([]:LO),(1:Int)))∧((decide ((40:Int)<(c0.length:Int)))=false→Loop (σ:=Int×LS×LO×LR) (fun s X=>VCc13_l1 c0 k n K s.1 s.2.1 s.2.2.1 s.2.2.2 X) ((0:Int),([]:LS),([]:LO),([]:List (Int×LI))))))))
set_option maxHeartbeats 4000000 in
theorem linkc13 (c0:LD) (R:Int→Int→(LO×Int→Prop)→Prop) (hR:∀ (k:Int) (n:Int) (K:LO×Int→Prop),R k n K→LCalls Try.prog 13 [70200] [70200] [e5_0 c0] [.c (.pI k),.c (.pI n),.c (.own 70200)] (fun av hp'=>∃ y:LO×Int,av=.tup [.c (.p (.sl (.pr tI tR)) y.1),.c (.pI y.2)]∧hp'=[e5_0 c0]∧K y)) (k:Int) (n:Int) (K:LO×Int→Prop) (h:VCc13 c0 R k n K):LCalls Try.prog 13 [70200] [70200] [e5_0 c0] [.c (.pI k),.c (.pI n),.c (.own 70200)] (fun av hp'=>∃ y:LO×Int,av=.tup [.c (.p (.sl (.pr tI tR)) y.1),.c (.pI y.2)]∧hp'=[e5_0 c0]∧K y):=by
 refine lcalls_of_aw [70200] [70200] [.t 6,.t 7] Try.func13 rfl rfl (by kernel_rfl) (by kernel_rfl) (by kernel_rfl) ?_
 refine aw_conv [] (st':=(⟨45,[sI 0 k,sI 1 n,e5_57,e5_27],[e5_0 c0]⟩:St)) (by kernel_rfl) ?_
 unfold VCc13 at h
 refine sr ?_
 refine rqT 2 ⟨45,[sI 0 k,sI 1 n,e5_57,e5_27],[e5_0 c0]⟩ (by kernel_rfl) ?_
 refine nsr ?_
 refine rqT 6 ⟨45,[e5_57,sp 8 17,e5_27],[hB 17 [.pI k,.pI n,.pI (0:Int),.nils,.nilm],e5_0 c0]⟩ (by kernel_rfl) ?_
 refine nsr ?_
 refine rqT 1 ⟨45,[e5_57,sp 8 17,sp 18 17,e5_27],[hB 17 [.pI k,.pI n,.pI (0:Int),.nils,.nilm],e5_0 c0]⟩ (by kernel_rfl) ?_
 refine awl_conv [.ren 17 30000] (st':=(⟨45,[e5_57,e5_61,sp 18 30000,e5_27],[e5_64 k n,e5_0 c0]⟩:St)) (by kernel_rfl) ?_
 refine awl_inlr [] [30000,70200] [.c (.ptr 30000 0),.c (.nils)] [] rfl rfl (by kernel_rfl) rfl (by kernel_rfl) Try.call24 (by kernel_rfl) (by kernel_rfl) Try.func24 rfl rfl (by kernel_rfl) ?_
 refine aw_conv [] (st':=(⟨13,[e5_28,s1 1 (.nils),s1 15 (.own 70200),sp 21 30000,sp 31 30000,s1 58 (.own 70200)],[e5_64 k n,e5_0 c0]⟩:St)) (by kernel_rfl) ?_
 refine srn 6 ⟨13,[e5_28,s1 15 (.own 70200),sp 21 30000,s1 58 (.own 70200)],[e5_64 k n,e5_0 c0]⟩ (by kernel_rfl) rfl ?_
 refine aw_region ?_
 refine rqT 5 ⟨13,[s1 15 (.own 70200),sp 21 30000,s1 58 (.own 70200)],[e5_7,e5_36 k n,e5_0 c0]⟩ (by kernel_rfl) ?_
 refine awl_nil ?_
 refine inlR_n (ob:=True) (.tup []) (by kernel_rfl) trivial rfl ?_
 refine lpr (st':=(⟨45,[e5_57,e5_61,e5_27],[e5_7,e5_36 k n,e5_0 c0]⟩:St)) (by kernel_rfl) ?_
 refine nn ?_
 refine aw_seq ?_
 refine sr ?_
 refine rqT 4 ⟨45,[e5_57,e5_61,sA 23 [.pI k,.pI n,.pI (0:Int),.nils],e5_27],[e5_7,e5_36 k n,e5_0 c0]⟩ (by kernel_rfl) ?_
 refine lcq (d:=24) [.d tG] (fun ret24v=>(⟨45,[e5_57,e5_61,sI 24 ret24v,e5_27],[e5_7,e5_36 k n,e5_0 c0]⟩:St)) (by kernel_rfl) Try.call25 (fun _=>by kernel_rfl) (link25 (k,(n,((0:Int),([]:LR)))) _ h) (fun ret24v h=>?_)
 refine rqT 1 ⟨45,[e5_57,e5_61,sI 9 ret24v,e5_27],[e5_7,e5_36 k n,e5_0 c0]⟩ (by kernel_rfl) ?_
 refine nsr ?_
 refine rqT 2 ⟨45,[e5_57,e5_61,sI 9 ret24v,sB 26 (!decide (ret24v=(0:Int))),e5_27],[e5_7,e5_36 k n,e5_0 c0]⟩ (by kernel_rfl) ?_
 refine nn ?_
 refine aw_cond (b:=(!decide (ret24v=(0:Int)))) (by kernel_rfl) (fun hb=>?_) (fun hb=>?_)
 ·have h:=h.1 hb
  refine srn 3 ⟨45,[s1 6 (.nils),sI 7 ret24v,e5_27],[e5_0 c0]⟩ (by kernel_rfl) rfl ?_
  refine aw_conv [.nilP 6 (.pr tI tR)] (st':=(⟨45,[e5_59,sI 7 ret24v,e5_27],[e5_0 c0]⟩:St)) (by kernel_rfl) ?_
  refine aw_ret ?_
  refine thenQ_r ?_
  exact lret_r (σ:=LO×Int) (A:=fun y=>.tup [.c (.p (.sl (.pr tI tR)) y.1),.c (.pI y.2)]) (H:=fun y=>[e5_0 c0]) (ob:=(True∧True∧True)) (([]:LO),ret24v) (by kernel_rfl) ⟨trivial,trivial,trivial⟩ rfl (by kernel_rfl) (by kernel_rfl) (by kernel_rfl) h
 ·have h:=h.2 hb
  refine aw_skip ?_
  refine thenQ_n ?_
  refine aw_seq ?_
  refine srn 3 ⟨45,[e5_57,e5_61,sB 30 (decide ((40:Int)<(c0.length:Int))),e5_27],[e5_7,e5_36 k n,e5_0 c0]⟩ (by kernel_rfl) rfl ?_
  refine aw_cond (b:=(decide ((40:Int)<(c0.length:Int)))) (by kernel_rfl) (fun hb=>?_) (fun hb=>?_)
  ·have h:=h.1 hb
   refine srn 2 ⟨45,[s1 6 (.nils),sI 7 (1:Int),e5_27],[e5_0 c0]⟩ (by kernel_rfl) rfl ?_
   refine aw_conv [.nilP 6 (.pr tI tR)] (st':=(⟨45,[e5_59,sI 7 (1:Int),e5_27],[e5_0 c0]⟩:St)) (by kernel_rfl) ?_
   refine aw_ret ?_
   refine thenQ_r ?_
   exact lret_r (σ:=LO×Int) (A:=fun y=>.tup [.c (.p (.sl (.pr tI tR)) y.1),.c (.pI y.2)]) (H:=fun y=>[e5_0 c0]) (ob:=(True∧True∧True)) (([]:LO),(1:Int)) (by kernel_rfl) ⟨trivial,trivial,trivial⟩ rfl (by kernel_rfl) (by kernel_rfl) (by kernel_rfl) h
  ·have h:=h.2 hb
   refine aw_skip ?_
   refine thenQ_n ?_
   refine srn 1 ⟨45,[e5_57,e5_61,s1 10 (.nils),e5_27],[e5_7,e5_36 k n,e5_0 c0]⟩ (by kernel_rfl) rfl ?_
   refine aw_seq ?_
   refine srn 3 ⟨45,[e5_61,s1 10 (.nils),e5_60,e5_53 c0,sI 33 (0:Int),e5_27],[e5_7,e5_36 k n,e5_0 c0]⟩ (by kernel_rfl) rfl ?_
   refine withJoin (σ:=LO) (fun s=>(⟨45,[e5_66,e5_27],[hA 5010 48 (.pr tI tR) s,e5_0 c0]⟩:St)) (fun s=>VCc13_k1 K s) (fun out h=>?_) (fun rest1=>?_)
   ·have h:VCc13_k1 K out:=h
    unfold VCc13_k1 at h
    refine thenQ_n ?_
    refine srn 3 ⟨45,[s1 6 (.own 5010),sI 7 (0:Int),e5_27],[e5_44 out,e5_0 c0]⟩ (by kernel_rfl) rfl ?_
    refine aw_conv [.freeze 5010] (st':=(⟨45,[s1 6 (.p (.sl (.pr tI tR)) out),sI 7 (0:Int),e5_27],[e5_0 c0]⟩:St)) (by kernel_rfl) ?_
    refine aw_ret ?_
    exact lret_r (σ:=LO×Int) (A:=fun y=>.tup [.c (.p (.sl (.pr tI tR)) y.1),.c (.pI y.2)]) (H:=fun y=>[e5_0 c0]) (ob:=(True∧True∧True)) (out,(0:Int)) (by kernel_rfl) ⟨trivial,trivial,trivial⟩ rfl (by kernel_rfl) (by kernel_rfl) (by kernel_rfl) h
   ·refine aw_block ?_
    refine aw_conv [.nilOwn 10 5010 48 (.pr tI tR),.nilPB 30000 3 tR,.prune [8,10,31,32,33,45] [10,5010,30000,70200]] (st':=(⟨45,[e5_61,e5_66,e5_60,e5_53 c0,sI 33 (0:Int),e5_27],[e5_7,hA 5010 48 (.pr tI tR) ([]:LO),hB 30000 [.pI k,.pI n,.pI (0:Int),.p (.sl tR) ([]:List (Int×LI)),.own 10],e5_0 c0]⟩:St)) (by kernel_rfl) ?_
    refine aw_loop (σ:=Int×LS×LO×LR) (fun s=>(⟨45,[e5_61,e5_66,e5_60,e5_53 c0,sI 33 s.1,e5_27],[(10,[],.dict (.pr tI (.ar 11 tI)) (.pr tI tI) s.2.1),hA 5010 48 (.pr tI tR) s.2.2.1,hB 30000 [.pI k,.pI n,.pI (0:Int),.p (.sl tR) s.2.2.2,.own 10],e5_0 c0]⟩:St)) (fun s X=>VCc13_l1 c0 k n K s.1 s.2.1 s.2.2.1 s.2.2.2 X) (s0:=((0:Int),([]:LS),([]:LO),([]:List (Int×LI)))) (fun s X1 h=>?_) h
    obtain ⟨v33,l10,out,sv⟩:=s
    have h:VCc13_l1 c0 k n K v33 l10 out sv X1:=h
    unfold VCc13_l1 at h
    refine srn 1 ⟨45,[e5_61,e5_66,e5_60,e5_53 c0,sI 33 v33,sB 34 (decide (v33<(c0.length:Int))),e5_27],[e5_50 l10,e5_44 out,e5_49 k n sv,e5_0 c0]⟩ (by kernel_rfl) rfl ?_
    refine aw_seq ?_
    refine aw_cond (b:=(decide (v33<(c0.length:Int)))) (by kernel_rfl) (fun hb=>?_) (fun hb=>?_)
    ·have h:=h.1 hb
     refine aw_skip ?_
     refine thenQ_n ?_
     refine aw_seq ?_
     refine aw_block ?_
     refine sr ?_
     obtain ⟨o1,h⟩:=h
     refine rq 4 (ob:=(inIdx v33 c0.length∧Ts 3 True)) (st':=(⟨45,[e5_61,e5_66,sp 12 12,e5_60,e5_53 c0,sI 33 v33,e5_27],[e5_50 l10,hB 12 [.pI ((c0.getD ((v33).toNat) zD).1),.pI ((c0.getD ((v33).toNat) zD).2.1.1),.pS ((c0.getD ((v33).toNat) zD).2.1.2),.pS ((c0.getD ((v33).toNat) zD).2.2.1),.pI ((c0.getD ((v33).toNat) zD).2.2.2.1),.pS ((c0.getD ((v33).toNat) zD).2.2.2.2)],e5_44 out,e5_49 k n sv,e5_0 c0]⟩:St)) (by kernel_rfl) (⟨o1,tsI 3 trivial⟩) ?_
     refine nn ?_
     refine aw_region ?_
     refine rqT 3 ⟨45,[e5_61,e5_60,e5_53 c0,sI 33 v33,s1 37 (.own 5010),sp 38 30000,e5_12 c0 v33,e5_27],[e5_50 l10,e5_44 out,e5_49 k n sv,e5_0 c0]⟩ (by kernel_rfl) ?_
     refine awl_conv [.ren 10 30200,.ren 5010 30201] (st':=(⟨45,[e5_61,e5_60,e5_53 c0,sI 33 v33,s1 37 (.own 30201),sp 38 30000,e5_12 c0 v33,e5_27],[e5_3 l10,e5_4 out,e5_2 k n sv,e5_0 c0]⟩:St)) (by kernel_rfl) ?_
     refine awl_inlr [.c 4 48] [30200,30201,30000,70200] [.c (.ptr 30000 0),.agg [.pI ((c0.getD ((v33).toNat) zD).1),.pI ((c0.getD ((v33).toNat) zD).2.1.1),.pS ((c0.getD ((v33).toNat) zD).2.1.2),.pS ((c0.getD ((v33).toNat) zD).2.2.1),.pI ((c0.getD ((v33).toNat) zD).2.2.2.1),.pS ((c0.getD ((v33).toNat) zD).2.2.2.2)]] [] rfl rfl (by kernel_rfl) rfl (by kernel_rfl) Try.call26 (by kernel_rfl) (by kernel_rfl) Try.func26 rfl rfl (by kernel_rfl) ?_
     refine aw_conv [] (st':=(⟨85,[e5_28,sA 1 [.pI ((c0.getD ((v33).toNat) zD).1),.pI ((c0.getD ((v33).toNat) zD).2.1.1),.pS ((c0.getD ((v33).toNat) zD).2.1.2),.pS ((c0.getD ((v33).toNat) zD).2.2.1),.pI ((c0.getD ((v33).toNat) zD).2.2.2.1),.pS ((c0.getD ((v33).toNat) zD).2.2.2.2)],e5_29,e5_18,e5_13 c0,sI 118 v33,e5_19,sp 123 30000,sA 124 [.pI ((c0.getD ((v33).toNat) zD).1),.pI ((c0.getD ((v33).toNat) zD).2.1.1),.pS ((c0.getD ((v33).toNat) zD).2.1.2),.pS ((c0.getD ((v33).toNat) zD).2.2.1),.pI ((c0.getD ((v33).toNat) zD).2.2.2.1),.pS ((c0.getD ((v33).toNat) zD).2.2.2.2)],e5_20],[e5_3 l10,e5_4 out,e5_2 k n sv,e5_0 c0]⟩:St)) (by kernel_rfl) ?_
     refine withJoinR (σ:=LR×LS×Int×Int×LI) (fun s=>(⟨85,[e5_70,e5_29,e5_18,e5_13 c0,sI 118 v33,e5_19,e5_20],[hB 30000 [.pI k,.pI n,.pI (0:Int),.p (.sl tR) s.1,.own 30200],(30200,[],.dict (.pr tI (.ar 11 tI)) (.pr tI tI) s.2.1),e5_4 out,hB 30400 [.pI s.2.2.1,.pI s.2.2.2.1,.pS s.2.2.2.2],e5_0 c0]⟩:St)) (fun s=>VCc13_k2 v33 out X1 s.1 s.2.1 s.2.2.1 s.2.2.2.1 s.2.2.2.2) (fun s h=>?_) (fun rest2=>?_)
     ·obtain ⟨sv2,l30200,l30400,l304002,l304003⟩:=s
      have h:VCc13_k2 v33 out X1 sv2 l30200 l30400 l304002 l304003:=h
      unfold VCc13_k2 at h
      refine inlR_n (ob:=True) (.v (.agg [.pI l30400,.pI l304002,.pS l304003])) (by kernel_rfl) trivial rfl ?_
      refine lpr (st':=(⟨45,[e5_61,e5_60,e5_53 c0,sI 33 v33,s1 37 (.own 30201),sA 40 [.pI l30400,.pI l304002,.pS l304003],e5_27],[e5_26 k n sv2,e5_21 l30200,e5_4 out,e5_0 c0]⟩:St)) (by kernel_rfl) ?_
      obtain ⟨o1,h⟩:=h
      refine rq 3 (ob:=(Ts 1 (roomW 40 (out.length+[(l30400,(l304002,l304003))].length)∧Ts 1 True))) (st':=(⟨45,[e5_61,s1 10 (.own 42),e5_60,e5_53 c0,sI 33 v33,e5_27],[hA 42 48 (.pr tI tR) (out++[(l30400,(l304002,l304003))]),e5_26 k n sv2,e5_21 l30200,e5_0 c0]⟩:St)) (by kernel_rfl) (tsI 1 ⟨o1,tsI 1 trivial⟩) ?_
      refine awl_nil ?_
      refine blockQ_n ?_
      refine thenQ_n ?_
      refine aw_region ?_
      obtain ⟨o1,h⟩:=h
      refine rq 2 (ob:=(InR (v33+(1:Int))∧Ts 1 True)) (st':=(⟨45,[e5_61,s1 10 (.own 42),e5_60,e5_53 c0,sI 33 (v33+(1:Int)),e5_27],[hA 42 48 (.pr tI tR) (out++[(l30400,(l304002,l304003))]),e5_26 k n sv2,e5_21 l30200,e5_0 c0]⟩:St)) (by kernel_rfl) (⟨o1,tsI 1 trivial⟩) ?_
      refine awl_conv [.ren 30200 50200,.ren 42 20042,.ren 50200 10,.ren 20042 5010,.prune [8,10,31,32,33,45] [10,5010,30000,70200]] (st':=(⟨45,[e5_61,e5_66,e5_60,e5_53 c0,sI 33 (v33+(1:Int)),e5_27],[(10,[],.dict (.pr tI (.ar 11 tI)) (.pr tI tI) l30200),hA 5010 48 (.pr tI tR) (out++[(l30400,(l304002,l304003))]),hB 30000 [.pI k,.pI n,.pI (0:Int),.p (.sl tR) sv2,.own 10],e5_0 c0]⟩:St)) (by kernel_rfl) ?_
      refine awl_nil ?_
      exact thenQ_n ⟨((v33+(1:Int)),l30200,(out++[(l30400,(l304002,l304003))]),sv2),rfl,h⟩
     ·refine srn 2 ⟨85,[e5_28,sp 3 3,e5_42,e5_29,e5_18,e5_13 c0,sI 118 v33,e5_19,e5_20],[e5_5 c0 v33,e5_8,e5_2 k n sv,e5_3 l10,e5_4 out,e5_0 c0]⟩ (by kernel_rfl) rfl ?_
      refine aw_seq ?_
      refine srn 2 ⟨85,[e5_28,sp 3 3,e5_42,e5_30 c0 v33,e5_29,e5_18,e5_13 c0,sI 118 v33,e5_19,e5_20],[e5_5 c0 v33,e5_8,e5_2 k n sv,e5_3 l10,e5_4 out,e5_0 c0]⟩ (by kernel_rfl) rfl ?_
      refine aw_block ?_
      refine srn 2 ⟨85,[e5_28,sp 3 3,e5_42,e5_30 c0 v33,sB 11 (decide ((c0.getD ((v33).toNat) zD).1=(1:Int))),e5_29,e5_18,e5_13 c0,sI 118 v33,e5_19,e5_20],[e5_5 c0 v33,e5_8,e5_2 k n sv,e5_3 l10,e5_4 out,e5_0 c0]⟩ (by kernel_rfl) rfl ?_
      refine aw_cond (b:=(decide ((c0.getD ((v33).toNat) zD).1=(1:Int)))) (by kernel_rfl) (fun hb=>?_) (fun hb=>?_)
      ·have h:=h.1 hb
       refine sr ?_
       refine rqT 3 ⟨85,[e5_42,sp 13 30000,e5_37 c0 v33,e5_29,e5_18,e5_13 c0,sI 118 v33,e5_19,e5_20],[e5_8,e5_2 k n sv,e5_3 l10,e5_4 out,e5_0 c0]⟩ (by kernel_rfl) ?_
       refine awl_conv [.ren 4 30400] (st':=(⟨85,[e5_70,sp 13 30000,e5_37 c0 v33,e5_29,e5_18,e5_13 c0,sI 118 v33,e5_19,e5_20],[e5_10,e5_2 k n sv,e5_3 l10,e5_4 out,e5_0 c0]⟩:St)) (by kernel_rfl) ?_
       refine awl_inlr [.c 4 48] [30400,30000,30200,30201,70200] [.c (.ptr 30000 0),.agg [.pI ((c0.getD ((v33).toNat) zD).2.1.1),.pS ((c0.getD ((v33).toNat) zD).2.1.2)]] [] rfl rfl (by kernel_rfl) rfl (by kernel_rfl) Try.call41 (by kernel_rfl) (by kernel_rfl) Try.func41 rfl rfl (by kernel_rfl) ?_
       refine aw_conv [] (st':=(⟨48,[e5_28,sA 1 [.pI ((c0.getD ((v33).toNat) zD).2.1.1),.pS ((c0.getD ((v33).toNat) zD).2.1.2)],e5_48,sp 61 30000,sA 63 [.pI ((c0.getD ((v33).toNat) zD).2.1.1),.pS ((c0.getD ((v33).toNat) zD).2.1.2)],e5_47,e5_32,e5_24 c0,sI 166 v33,e5_33,e5_34],[e5_10,e5_2 k n sv,e5_3 l10,e5_4 out,e5_0 c0]⟩:St)) (by kernel_rfl) ?_
       refine withJoinR (σ:=Int×Int×LR×LS) (fun s=>(⟨48,[e5_42,e5_48,e5_47,e5_32,e5_24 c0,sI 166 v33,e5_33,e5_34],[hB 4 [.pI s.1,.pI s.2.1,.nils],hB 30000 [.pI k,.pI n,.pI (0:Int),.p (.sl tR) s.2.2.1,.own 30200],(30200,[],.dict (.pr tI (.ar 11 tI)) (.pr tI tI) s.2.2.2),e5_4 out,e5_10,e5_0 c0]⟩:St)) (fun s=>VCc13_k3 v33 out X1 s.1 s.2.1 s.2.2.1 s.2.2.2) (fun s h=>?_) (fun rest3=>?_)
       ·obtain ⟨l4,l42,sv2,l30200⟩:=s
        have h:VCc13_k3 v33 out X1 l4 l42 sv2 l30200:=h
        unfold VCc13_k3 at h
        refine inlR_n (ob:=True) (.v (.agg [.pI l4,.pI l42,.nils])) (by kernel_rfl) trivial rfl ?_
        refine lpr (st':=(⟨85,[e5_70,sA 16 [.pI l4,.pI l42,.nils],e5_29,e5_18,e5_13 c0,sI 118 v33,e5_19,e5_20],[e5_26 k n sv2,e5_21 l30200,e5_4 out,e5_10,e5_0 c0]⟩:St)) (by kernel_rfl) ?_
        refine rqT 1 ⟨85,[e5_70,e5_29,e5_18,e5_13 c0,sI 118 v33,e5_19,e5_20],[e5_26 k n sv2,e5_21 l30200,e5_4 out,hB 30400 [.pI l4,.pI l42,.nils],e5_0 c0]⟩ (by kernel_rfl) ?_
        refine nn ?_
        refine aw_conv [.nilPB 30400 2 tI] (st':=(⟨85,[e5_70,e5_29,e5_18,e5_13 c0,sI 118 v33,e5_19,e5_20],[e5_26 k n sv2,e5_21 l30200,e5_4 out,hB 30400 [.pI l4,.pI l42,.pS ([]:List Int)],e5_0 c0]⟩:St)) (by kernel_rfl) ?_
        refine aw_ret ?_
        refine blockQ_r ?_
        refine thenQ_r ?_
        exact rest2 (sv2,l30200,l4,l42,([]:List Int)) h
       ·refine sr ?_
        refine rqT 2 ⟨48,[e5_28,sp 3 3,e5_42,e5_48,e5_47,e5_32,e5_24 c0,sI 166 v33,e5_33,e5_34],[e5_38 c0 v33,e5_8,e5_2 k n sv,e5_3 l10,e5_4 out,e5_10,e5_0 c0]⟩ (by kernel_rfl) ?_
        refine nsr ?_
        refine rqT 6 ⟨48,[e5_28,sp 3 3,e5_42,sp 5 5,e5_48,e5_47,e5_32,e5_24 c0,sI 166 v33,e5_33,e5_34],[e5_38 c0 v33,e5_8,e5_23 k n sv,e5_2 k n sv,e5_3 l10,e5_4 out,e5_10,e5_0 c0]⟩ (by kernel_rfl) ?_
        refine nn ?_
        refine aw_seq ?_
        refine awd_begin [5,16] (by kernel_rfl) ?_
        refine drq (by kernel_rfl) [0,1,2,3,4,6,7,8,9] (ob:=(Ts 9 True)) (done':=[9,8,7,6,4,3,2,1,0]) (st':=(⟨48,[e5_28,e5_42,sp 5 5,s1 15 (.p (.sl tR) sv),e5_45 c0 v33,s1 20 (.pS ((c0.getD ((v33).toNat) zD).2.1.2)),e5_48,e5_47,e5_32,e5_24 c0,sI 166 v33,e5_33,e5_34],[e5_8,e5_23 k n sv,e5_2 k n sv,e5_3 l10,e5_4 out,e5_10,e5_0 c0]⟩:St)) (by kernel_rfl) (tsI 9 trivial) ?_
        refine awd_one (i:=5) (by kernel_rfl) ?_
        refine adop_callOk (e:=40) (t:=tR) (l:=[toV1 (.sl tR) sv]) (cl:=[]) false [.d (.sl tR)] [0,4,5,16,18,20,52,141,164,165,166,170,178] [4,5,16,30000,30200,30201,30400,70200] (fun (ret16v:LR)=>VC54 ((c0.getD ((v33).toNat) zD).2.1.2) (fun (ret21v:LI)=>(roomW 32 (ret16v.length+[((c0.getD ((v33).toNat) zD).2.1.1,ret21v)].length)∧VC25 (k,(n,((0:Int),(ret16v++[((c0.getD ((v33).toNat) zD).2.1.1,ret21v)])))) (fun (ret27v:Int)=>(((!decide (ret27v=(0:Int)))=true→VCc13_k3 v33 out X1 ret27v (0:Int) sv l10)∧((!decide (ret27v=(0:Int)))=false→VC55 (k,(n,((0:Int),(ret16v++[((c0.getD ((v33).toNat) zD).2.1.1,ret21v)])))) (fun (ret33v:Bool)=>(((!ret33v)=true→VCc13_k3 v33 out X1 (3:Int) (0:Int) sv l10)∧((!ret33v)=false→(InR (((ret16v++[((c0.getD ((v33).toNat) zD).2.1.1,ret21v)]).length:Int)-(1:Int))∧VCc13_k3 v33 out X1 (0:Int) (((ret16v++[((c0.getD ((v33).toNat) zD).2.1.1,ret21v)]).length:Int)-(1:Int)) (ret16v++[((c0.getD ((v33).toNat) zD).2.1.1,ret21v)]) ([]:LS))))))))))) (fun ret16v=>(⟨48,[e5_28,e5_42,sp 5 5,s1 16 (.own 16),e5_45 c0 v33,s1 20 (.pS ((c0.getD ((v33).toNat) zD).2.1.2)),e5_48,e5_47,e5_32,e5_24 c0,sI 166 v33,e5_33,e5_34],[e5_8,e5_23 k n sv,e5_52 ret16v,e5_2 k n sv,e5_3 l10,e5_4 out,e5_10,e5_0 c0]⟩:St)) rfl rfl rfl (by kernel_rfl) rfl (by kernel_rfl) Try.call42 (by kernel_rfl) (fun e=>by cases e) (fun ret16v=>by kernel_rfl) (link42 sv _ h) (fun ret16v h=>?_)
        refine awd_one (i:=10) (by kernel_rfl) ?_
        refine adop_callOk (e:=3) (t:=tI) (l:=[toV1 (.sl tI) ((c0.getD ((v33).toNat) zD).2.1.2)]) (cl:=[]) false [.d (.sl tI)] [0,4,5,16,18,21,52,141,164,165,166,170,178] [4,5,16,21,30000,30200,30201,30400,70200] (fun (ret21v:LI)=>(roomW 32 (ret16v.length+[((c0.getD ((v33).toNat) zD).2.1.1,ret21v)].length)∧VC25 (k,(n,((0:Int),(ret16v++[((c0.getD ((v33).toNat) zD).2.1.1,ret21v)])))) (fun (ret27v:Int)=>(((!decide (ret27v=(0:Int)))=true→VCc13_k3 v33 out X1 ret27v (0:Int) sv l10)∧((!decide (ret27v=(0:Int)))=false→VC55 (k,(n,((0:Int),(ret16v++[((c0.getD ((v33).toNat) zD).2.1.1,ret21v)])))) (fun (ret33v:Bool)=>(((!ret33v)=true→VCc13_k3 v33 out X1 (3:Int) (0:Int) sv l10)∧((!ret33v)=false→(InR (((ret16v++[((c0.getD ((v33).toNat) zD).2.1.1,ret21v)]).length:Int)-(1:Int))∧VCc13_k3 v33 out X1 (0:Int) (((ret16v++[((c0.getD ((v33).toNat) zD).2.1.1,ret21v)]).length:Int)-(1:Int)) (ret16v++[((c0.getD ((v33).toNat) zD).2.1.1,ret21v)]) ([]:LS)))))))))) (fun ret21v=>(⟨48,[e5_28,e5_42,sp 5 5,s1 16 (.own 16),e5_45 c0 v33,s1 21 (.own 21),e5_48,e5_47,e5_32,e5_24 c0,sI 166 v33,e5_33,e5_34],[e5_8,e5_23 k n sv,e5_52 ret16v,hA 21 3 tI ret21v,e5_2 k n sv,e5_3 l10,e5_4 out,e5_10,e5_0 c0]⟩:St)) rfl rfl rfl (by kernel_rfl) rfl (by kernel_rfl) Try.call54 (by kernel_rfl) (fun e=>by cases e) (fun ret21v=>by kernel_rfl) (link54 ((c0.getD ((v33).toNat) zD).2.1.2) _ h) (fun ret21v h=>?_)
        refine drq (by kernel_rfl) [11] (ob:=(Ts 1 True)) (done':=[11,10,5,9,8,7,6,4,3,2,1,0]) (st':=(⟨48,[e5_28,e5_42,sp 5 5,s1 16 (.own 16),sA 22 [.pI ((c0.getD ((v33).toNat) zD).2.1.1),.own 21],e5_48,e5_47,e5_32,e5_24 c0,sI 166 v33,e5_33,e5_34],[e5_8,e5_23 k n sv,e5_52 ret16v,hA 21 3 tI ret21v,e5_2 k n sv,e5_3 l10,e5_4 out,e5_10,e5_0 c0]⟩:St)) (by kernel_rfl) (tsI 1 trivial) ?_
        refine awd_conv [.freeze 21] (st':=(⟨48,[e5_28,e5_42,sp 5 5,s1 16 (.own 16),sA 22 [.pI ((c0.getD ((v33).toNat) zD).2.1.1),.pS ret21v],e5_48,e5_47,e5_32,e5_24 c0,sI 166 v33,e5_33,e5_34],[e5_8,e5_23 k n sv,e5_52 ret16v,e5_2 k n sv,e5_3 l10,e5_4 out,e5_10,e5_0 c0]⟩:St)) (by kernel_rfl) rfl ?_
        refine awd_one (i:=12) (by kernel_rfl) ?_
        refine dsq (ob:=True) (st':=(⟨48,[e5_28,e5_42,sp 5 5,s1 16 (.own 16),s1 23 (.own 23),e5_48,e5_47,e5_32,e5_24 c0,sI 166 v33,e5_33,e5_34],[e5_8,e5_23 k n sv,e5_52 ret16v,hA 23 40 tR [((c0.getD ((v33).toNat) zD).2.1.1,ret21v)],e5_2 k n sv,e5_3 l10,e5_4 out,e5_10,e5_0 c0]⟩:St)) rfl (by kernel_rfl) trivial ?_
        refine awd_one (i:=13) (by kernel_rfl) ?_
        obtain ⟨o1,h⟩:=h
        refine dsq (ob:=roomW 32 (ret16v.length+[((c0.getD ((v33).toNat) zD).2.1.1,ret21v)].length)) (st':=(⟨48,[e5_28,e5_42,sp 5 5,s1 24 (.own 24),e5_48,e5_47,e5_32,e5_24 c0,sI 166 v33,e5_33,e5_34],[e5_8,e5_23 k n sv,e5_9 ret16v c0 v33 ret21v,e5_2 k n sv,e5_3 l10,e5_4 out,e5_10,e5_0 c0]⟩:St)) rfl (by kernel_rfl) o1 ?_
        refine drq (by kernel_rfl) [14] (ob:=(Ts 1 True)) (done':=[14,13,12,11,10,5,9,8,7,6,4,3,2,1,0]) (st':=(⟨48,[e5_28,e5_42,sp 5 5,s1 24 (.own 24),s1 25 (.ptr 5 3),e5_48,e5_47,e5_32,e5_24 c0,sI 166 v33,e5_33,e5_34],[e5_8,e5_23 k n sv,e5_9 ret16v c0 v33 ret21v,e5_2 k n sv,e5_3 l10,e5_4 out,e5_10,e5_0 c0]⟩:St)) (by kernel_rfl) (tsI 1 trivial) ?_
        refine awd_one (i:=15) (by kernel_rfl) ?_
        refine dsq (ob:=True) (st':=(⟨48,[e5_28,e5_42,sp 5 5,e5_48,e5_47,e5_32,e5_24 c0,sI 166 v33,e5_33,e5_34],[e5_8,e5_43 k n,e5_9 ret16v c0 v33 ret21v,e5_2 k n sv,e5_3 l10,e5_4 out,e5_10,e5_0 c0]⟩:St)) rfl (by kernel_rfl) trivial ?_
        refine awd_done (by kernel_rfl) ?_
        refine thenQ_n ?_
        refine aw_seq ?_
        refine sr ?_
        refine rqT 1 ⟨48,[e5_28,e5_42,sp 5 5,sA 26 [.pI k,.pI n,.pI (0:Int),.own 24],e5_48,e5_47,e5_32,e5_24 c0,sI 166 v33,e5_33,e5_34],[e5_8,e5_43 k n,e5_9 ret16v c0 v33 ret21v,e5_2 k n sv,e5_3 l10,e5_4 out,e5_10,e5_0 c0]⟩ (by kernel_rfl) ?_
        refine awl_callk (p:=[]) (l:=[toV1 tG (k,(n,((0:Int),(ret16v++[((c0.getD ((v33).toNat) zD).2.1.1,ret21v)]))))]) (cl:=[]) true [.d tG] [0,4,5,27,52,141,164,165,166,170,178] e5_n4 (fun (ret27v:Int)=>(((!decide (ret27v=(0:Int)))=true→VCc13_k3 v33 out X1 ret27v (0:Int) sv l10)∧((!decide (ret27v=(0:Int)))=false→VC55 (k,(n,((0:Int),(ret16v++[((c0.getD ((v33).toNat) zD).2.1.1,ret21v)])))) (fun (ret33v:Bool)=>(((!ret33v)=true→VCc13_k3 v33 out X1 (3:Int) (0:Int) sv l10)∧((!ret33v)=false→(InR (((ret16v++[((c0.getD ((v33).toNat) zD).2.1.1,ret21v)]).length:Int)-(1:Int))∧VCc13_k3 v33 out X1 (0:Int) (((ret16v++[((c0.getD ((v33).toNat) zD).2.1.1,ret21v)]).length:Int)-(1:Int)) (ret16v++[((c0.getD ((v33).toNat) zD).2.1.1,ret21v)]) ([]:LS)))))))) (fun ret27v=>[toV1 tI ret27v]) (fun ret27v=>(⟨48,[e5_28,e5_42,sp 5 5,sI 27 ret27v,e5_48,e5_47,e5_32,e5_24 c0,sI 166 v33,e5_33,e5_34],[e5_8,e5_43 k n,e5_9 ret16v c0 v33 ret21v,e5_2 k n sv,e5_3 l10,e5_4 out,e5_10,e5_0 c0]⟩:St)) (by kernel_rfl) rfl (by kernel_rfl) rfl (by kernel_rfl) Try.call25 (by kernel_rfl) (fun ret27v=>by kernel_rfl) (fun _ _=>rfl) (fun hg=>link25 (k,(n,((0:Int),(ret16v++[((c0.getD ((v33).toNat) zD).2.1.1,ret21v)])))) _ h) (fun hg=>noF hg) (fun ret27v h=>?_)
        refine rqT 1 ⟨48,[e5_28,e5_42,sp 5 5,sI 6 ret27v,e5_48,e5_47,e5_32,e5_24 c0,sI 166 v33,e5_33,e5_34],[e5_8,e5_43 k n,e5_9 ret16v c0 v33 ret21v,e5_2 k n sv,e5_3 l10,e5_4 out,e5_10,e5_0 c0]⟩ (by kernel_rfl) ?_
        refine nsr ?_
        refine rqT 2 ⟨48,[e5_28,e5_42,sp 5 5,sI 6 ret27v,sB 29 (!decide (ret27v=(0:Int))),e5_48,e5_47,e5_32,e5_24 c0,sI 166 v33,e5_33,e5_34],[e5_8,e5_43 k n,e5_9 ret16v c0 v33 ret21v,e5_2 k n sv,e5_3 l10,e5_4 out,e5_10,e5_0 c0]⟩ (by kernel_rfl) ?_
        refine nn ?_
        refine aw_cond (b:=(!decide (ret27v=(0:Int)))) (by kernel_rfl) (fun hb=>?_) (fun hb=>?_)
        ·have h:=h.1 hb
         refine srn 3 ⟨48,[e5_42,e5_48,e5_47,e5_32,e5_24 c0,sI 166 v33,e5_33,e5_34],[hB 4 [.pI ret27v,.pI (0:Int),.nils],e5_2 k n sv,e5_3 l10,e5_4 out,e5_10,e5_0 c0]⟩ (by kernel_rfl) rfl ?_
         refine aw_ret ?_
         refine thenQ_r ?_
         exact rest3 (ret27v,(0:Int),sv,l10) h
        ·have h:=h.2 hb
         refine aw_skip ?_
         refine thenQ_n ?_
         refine aw_seq ?_
         refine sr ?_
         refine rqT 1 ⟨48,[e5_28,e5_42,sp 5 5,sA 32 [.pI k,.pI n,.pI (0:Int),.own 24],e5_48,e5_47,e5_32,e5_24 c0,sI 166 v33,e5_33,e5_34],[e5_8,e5_43 k n,e5_9 ret16v c0 v33 ret21v,e5_2 k n sv,e5_3 l10,e5_4 out,e5_10,e5_0 c0]⟩ (by kernel_rfl) ?_
         refine awl_callk (p:=[]) (l:=[toV1 tG (k,(n,((0:Int),(ret16v++[((c0.getD ((v33).toNat) zD).2.1.1,ret21v)]))))]) (cl:=[]) true [.d tG] [0,4,5,33,52,141,164,165,166,170,178] e5_n4 (fun (ret33v:Bool)=>(((!ret33v)=true→VCc13_k3 v33 out X1 (3:Int) (0:Int) sv l10)∧((!ret33v)=false→(InR (((ret16v++[((c0.getD ((v33).toNat) zD).2.1.1,ret21v)]).length:Int)-(1:Int))∧VCc13_k3 v33 out X1 (0:Int) (((ret16v++[((c0.getD ((v33).toNat) zD).2.1.1,ret21v)]).length:Int)-(1:Int)) (ret16v++[((c0.getD ((v33).toNat) zD).2.1.1,ret21v)]) ([]:LS))))) (fun ret33v=>[toV1 .bool ret33v]) (fun ret33v=>(⟨48,[e5_28,e5_42,sp 5 5,sB 33 ret33v,e5_48,e5_47,e5_32,e5_24 c0,sI 166 v33,e5_33,e5_34],[e5_8,e5_43 k n,e5_9 ret16v c0 v33 ret21v,e5_2 k n sv,e5_3 l10,e5_4 out,e5_10,e5_0 c0]⟩:St)) (by kernel_rfl) rfl (by kernel_rfl) rfl (by kernel_rfl) Try.call55 (by kernel_rfl) (fun ret33v=>by kernel_rfl) (fun _ _=>rfl) (fun hg=>link55 (k,(n,((0:Int),(ret16v++[((c0.getD ((v33).toNat) zD).2.1.1,ret21v)])))) _ h) (fun hg=>noF hg) (fun ret33v h=>?_)
         refine rqT 1 ⟨48,[e5_28,e5_42,sp 5 5,sB 34 (!ret33v),e5_48,e5_47,e5_32,e5_24 c0,sI 166 v33,e5_33,e5_34],[e5_8,e5_43 k n,e5_9 ret16v c0 v33 ret21v,e5_2 k n sv,e5_3 l10,e5_4 out,e5_10,e5_0 c0]⟩ (by kernel_rfl) ?_
         refine nn ?_
         refine aw_cond (b:=(!ret33v)) (by kernel_rfl) (fun hb=>?_) (fun hb=>?_)
         ·have h:=h.1 hb
          refine srn 2 ⟨48,[e5_42,e5_48,e5_47,e5_32,e5_24 c0,sI 166 v33,e5_33,e5_34],[hB 4 [.pI (3:Int),.pI (0:Int),.nils],e5_2 k n sv,e5_3 l10,e5_4 out,e5_10,e5_0 c0]⟩ (by kernel_rfl) rfl ?_
          refine aw_ret ?_
          refine thenQ_r ?_
          exact rest3 ((3:Int),(0:Int),sv,l10) h
         ·have h:=h.2 hb
          refine aw_skip ?_
          refine thenQ_n ?_
          refine sr ?_
          refine rqT 3 ⟨48,[e5_28,e5_42,sp 36 30000,s1 38 (.own 24),e5_48,e5_47,e5_32,e5_24 c0,sI 166 v33,e5_33,e5_34],[e5_8,e5_9 ret16v c0 v33 ret21v,e5_2 k n sv,e5_3 l10,e5_4 out,e5_10,e5_0 c0]⟩ (by kernel_rfl) ?_
          refine awl_conv [.ren 4 30600,.ren 24 30601] (st':=(⟨48,[e5_28,sp 4 30600,sp 36 30000,s1 38 (.own 30601),e5_48,e5_47,e5_32,e5_24 c0,sI 166 v33,e5_33,e5_34],[e5_56,e5_16 ret16v c0 v33 ret21v,e5_2 k n sv,e5_3 l10,e5_4 out,e5_10,e5_0 c0]⟩:St)) (by kernel_rfl) ?_
          refine awl_inlr [] [30600,30601,30000,30200,30201,30400,70200] [.c (.ptr 30000 0),.c (.own 30601)] [] rfl rfl (by kernel_rfl) rfl (by kernel_rfl) Try.call24 (by kernel_rfl) (by kernel_rfl) Try.func24 rfl rfl (by kernel_rfl) ?_
          refine aw_conv [] (st':=(⟨13,[e5_28,s1 1 (.own 30601),sp 13 30000,sp 17 30600,sp 49 30000,s1 51 (.own 30601),sp 65 30400,sp 154 30000,s1 177 (.own 70200),sI 178 (c0.length:Int),sI 179 v33,s1 183 (.own 30201),s1 191 (.own 70200)],[e5_56,e5_16 ret16v c0 v33 ret21v,e5_2 k n sv,e5_3 l10,e5_4 out,e5_10,e5_0 c0]⟩:St)) (by kernel_rfl) ?_
          refine srn 6 ⟨13,[e5_28,sp 13 30000,sp 17 30600,sp 65 30400,sp 154 30000,s1 177 (.own 70200),sI 178 (c0.length:Int),sI 179 v33,s1 183 (.own 30201),s1 191 (.own 70200)],[hB 30000 [.pI k,.pI n,.pI (0:Int),.own 30601,.own 30200],e5_3 l10,e5_4 out,e5_10,e5_56,e5_16 ret16v c0 v33 ret21v,e5_0 c0]⟩ (by kernel_rfl) rfl ?_
          refine aw_region ?_
          refine rqT 5 ⟨13,[sp 13 30000,sp 17 30600,sp 65 30400,sp 154 30000,s1 177 (.own 70200),sI 178 (c0.length:Int),sI 179 v33,s1 183 (.own 30201),s1 191 (.own 70200)],[e5_7,e5_62 k n,e5_4 out,e5_10,e5_56,e5_16 ret16v c0 v33 ret21v,e5_0 c0]⟩ (by kernel_rfl) ?_
          refine awl_nil ?_
          refine inlR_n (ob:=True) (.tup []) (by kernel_rfl) trivial rfl ?_
          refine lpr (st':=(⟨48,[e5_28,sp 4 30600,e5_48,e5_47,e5_32,e5_24 c0,sI 166 v33,e5_33,e5_34],[e5_7,e5_62 k n,e5_4 out,e5_10,e5_56,e5_16 ret16v c0 v33 ret21v,e5_0 c0]⟩:St)) (by kernel_rfl) ?_
          refine nsr ?_
          obtain ⟨o1,h⟩:=h
          refine rq 9 (ob:=(Ts 6 (InR (((ret16v++[((c0.getD ((v33).toNat) zD).2.1.1,ret21v)]).length:Int)-(1:Int))∧Ts 2 True))) (st':=(⟨48,[sp 4 30600,e5_48,e5_47,e5_32,e5_24 c0,sI 166 v33,e5_33,e5_34],[e5_7,e5_62 k n,e5_4 out,e5_10,hB 30600 [.pI (0:Int),.pI (((ret16v++[((c0.getD ((v33).toNat) zD).2.1.1,ret21v)]).length:Int)-(1:Int)),.nils],e5_16 ret16v c0 v33 ret21v,e5_0 c0]⟩:St)) (by kernel_rfl) (tsI 6 ⟨o1,tsI 2 trivial⟩) ?_
          refine nn ?_
          refine aw_conv [.freeze 30601,.ren 30600 50600,.ren 10 20010,.ren 50600 4,.ren 20010 30200,.prune [4,52,141,164,165,166,170,178] [4,30000,30200,30201,30400,70200]] (st':=(⟨48,[e5_42,e5_48,e5_47,e5_32,e5_24 c0,sI 166 v33,e5_33,e5_34],[hB 4 [.pI (0:Int),.pI (((ret16v++[((c0.getD ((v33).toNat) zD).2.1.1,ret21v)]).length:Int)-(1:Int)),.nils],hB 30000 [.pI k,.pI n,.pI (0:Int),.p (.sl tR) (ret16v++[((c0.getD ((v33).toNat) zD).2.1.1,ret21v)]),.own 30200],e5_54,e5_4 out,e5_10,e5_0 c0]⟩:St)) (by kernel_rfl) ?_
          refine aw_ret ?_
          exact rest3 ((0:Int),(((ret16v++[((c0.getD ((v33).toNat) zD).2.1.1,ret21v)]).length:Int)-(1:Int)),(ret16v++[((c0.getD ((v33).toNat) zD).2.1.1,ret21v)]),([]:LS)) h
      ·have h:=h.2 hb
       refine srn 2 ⟨85,[e5_28,sp 3 3,e5_42,e5_30 c0 v33,sB 17 (decide ((c0.getD ((v33).toNat) zD).1=(2:Int))),e5_29,e5_18,e5_13 c0,sI 118 v33,e5_19,e5_20],[e5_5 c0 v33,e5_8,e5_2 k n sv,e5_3 l10,e5_4 out,e5_0 c0]⟩ (by kernel_rfl) rfl ?_
       refine aw_cond (b:=(decide ((c0.getD ((v33).toNat) zD).1=(2:Int)))) (by kernel_rfl) (fun hb=>?_) (fun hb=>?_)
       ·have h:=h.1 hb
        refine aw_seq ?_
        refine srn 7 ⟨85,[e5_28,e5_42,sB 25 (decide ((sv.length:Int)=(0:Int))),e5_29,e5_18,e5_13 c0,sI 118 v33,e5_19,e5_20],[e5_8,e5_2 k n sv,e5_3 l10,e5_4 out,e5_0 c0]⟩ (by kernel_rfl) rfl ?_
        refine aw_cond (b:=(decide ((sv.length:Int)=(0:Int)))) (by kernel_rfl) (fun hb=>?_) (fun hb=>?_)
        ·have h:=h.1 hb
         refine srn 2 ⟨85,[e5_42,e5_29,e5_18,e5_13 c0,sI 118 v33,e5_19,e5_20],[hB 4 [.pI (5:Int),.pI (0:Int),.nils],e5_2 k n sv,e5_3 l10,e5_4 out,e5_0 c0]⟩ (by kernel_rfl) rfl ?_
         refine aw_conv [.nilPB 4 2 tI,.ren 4 20004,.ren 20004 30400,.prune e5_n1 e5_n0] (st':=(⟨85,[e5_70,e5_29,e5_18,e5_13 c0,sI 118 v33,e5_19,e5_20],[e5_2 k n sv,e5_3 l10,e5_4 out,hB 30400 [.pI (5:Int),.pI (0:Int),.pS ([]:List Int)],e5_0 c0]⟩:St)) (by kernel_rfl) ?_
         refine aw_ret ?_
         refine thenQ_r ?_
         refine blockQ_r ?_
         refine thenQ_r ?_
         exact rest2 (sv,l10,(5:Int),(0:Int),([]:List Int)) h
        ·have h:=h.2 hb
         refine aw_skip ?_
         refine thenQ_n ?_
         refine aw_seq ?_
         refine withJoin (σ:=LR) (fun s=>(⟨85,[e5_65,e5_29,e5_18,e5_13 c0,sI 118 v33,e5_19,e5_20],[e5_7,hA 41 40 tR s,e5_46 k n,e5_4 out,e5_17,e5_0 c0]⟩:St)) (fun s=>VCc13_k4 v33 out X1 s) (fun l41 h=>?_) (fun rest4=>?_)
         ·have h:VCc13_k4 v33 out X1 l41:=h
          unfold VCc13_k4 at h
          refine thenQ_n ?_
          refine srn 2 ⟨85,[e5_65,e5_29,e5_18,e5_13 c0,sI 118 v33,e5_19,e5_20],[e5_7,hA 41 40 tR l41,e5_46 k n,e5_4 out,e5_17,e5_0 c0]⟩ (by kernel_rfl) rfl ?_
          refine aw_conv [.nilPB 30800 2 tI,.freeze 41,.ren 30800 50800,.ren 10 20010,.ren 50800 30400,.ren 20010 30200,.prune e5_n1 e5_n0] (st':=(⟨85,[e5_70,e5_29,e5_18,e5_13 c0,sI 118 v33,e5_19,e5_20],[hB 30000 [.pI k,.pI n,.pI (0:Int),.p (.sl tR) l41,.own 30200],e5_54,e5_4 out,hB 30400 [.pI (0:Int),.pI (0:Int),.pS ([]:List Int)],e5_0 c0]⟩:St)) (by kernel_rfl) ?_
          refine aw_ret ?_
          refine blockQ_r ?_
          refine thenQ_r ?_
          exact rest2 (l41,([]:LS),(0:Int),(0:Int),([]:List Int)) h
         ·refine aw_conv [.ren 4 30800] (st':=(⟨85,[e5_28,e5_65,sB 25 (decide ((sv.length:Int)=(0:Int))),e5_29,e5_18,e5_13 c0,sI 118 v33,e5_19,e5_20],[e5_17,e5_2 k n sv,e5_3 l10,e5_4 out,e5_0 c0]⟩:St)) (by kernel_rfl) ?_
          refine awd_begin e5_n2 (by kernel_rfl) ?_
          refine drq (by kernel_rfl) [0,1,2,3,4,6,7,8,9] (ob:=(Ts 9 True)) (done':=[9,8,7,6,4,3,2,1,0]) (st':=(⟨85,[e5_65,e5_71,s1 31 (.ptr 30000 3),s1 36 (.ptr 30000 3),e5_29,e5_18,e5_13 c0,sI 118 v33,e5_19,e5_20],[e5_2 k n sv,e5_3 l10,e5_4 out,e5_17,e5_0 c0]⟩:St)) (by kernel_rfl) (tsI 9 trivial) ?_
          refine awd_two (i:=5) (j:=10) (by kernel_rfl) ?_ ?_
          ·have h:=h.1
           refine dsq (ob:=True) (st':=(⟨85,[e5_65,e5_71,e5_63 sv,s1 36 (.ptr 30000 3),e5_29,e5_18,e5_13 c0,sI 118 v33,e5_19,e5_20],[e5_2 k n sv,e5_3 l10,e5_4 out,e5_17,e5_0 c0]⟩:St)) rfl (by kernel_rfl) trivial ?_
           refine awd_one (i:=10) (by kernel_rfl) ?_
           refine dsq (ob:=True) (st':=(⟨85,[e5_65,e5_71,e5_63 sv,s1 37 (.p (.sl tR) sv),e5_29,e5_18,e5_13 c0,sI 118 v33,e5_19,e5_20],[e5_2 k n sv,e5_3 l10,e5_4 out,e5_17,e5_0 c0]⟩:St)) rfl (by kernel_rfl) trivial ?_
           obtain ⟨o1,o2,h⟩:=h
           refine drq (by kernel_rfl) [11,12,13] (ob:=(Ts 1 (InR ((sv.length:Int)-(1:Int))∧(0≤((sv.length:Int)-(1:Int))∧((sv.length:Int)-(1:Int))≤(sv.length:Int))∧True))) (done':=[13,12,11,10,5,9,8,7,6,4,3,2,1,0]) (st':=(⟨85,[e5_65,e5_71,e5_58 sv,e5_29,e5_18,e5_13 c0,sI 118 v33,e5_19,e5_20],[e5_2 k n sv,e5_3 l10,e5_4 out,e5_17,e5_0 c0]⟩:St)) (by kernel_rfl) (tsI 1 (⟨o1,⟨o2,trivial⟩⟩)) ?_
           refine awd_one (i:=14) (by kernel_rfl) ?_
           refine adop_callOk (e:=40) (t:=tR) (l:=[toV1 (.sl tR) (sv.take (((sv.length:Int)-(1:Int))).toNat)]) (cl:=[]) false [.d (.sl tR)] e5_n5 e5_n2 (fun (ret41v:LR)=>VCc13_k4 v33 out X1 ret41v) (fun ret41v=>(⟨85,[e5_65,e5_71,s1 41 (.own 41),e5_29,e5_18,e5_13 c0,sI 118 v33,e5_19,e5_20],[e5_35 ret41v,e5_2 k n sv,e5_3 l10,e5_4 out,e5_17,e5_0 c0]⟩:St)) rfl rfl rfl (by kernel_rfl) rfl (by kernel_rfl) Try.call42 (by kernel_rfl) (fun e=>by cases e) (fun ret41v=>by kernel_rfl) (link42 (sv.take (((sv.length:Int)-(1:Int))).toNat) _ h) (fun ret41v h=>?_)
           refine awd_one (i:=15) (by kernel_rfl) ?_
           refine adop_inlr [] [.c (.ptr 30000 0),.c (.own 41)] [] rfl rfl rfl (by kernel_rfl) rfl (by kernel_rfl) Try.call24 (by kernel_rfl) (by kernel_rfl) Try.func24 rfl rfl (by kernel_rfl) ?_
           refine aw_conv [] (st':=(⟨13,[e5_28,s1 1 (.own 41),sp 17 30800,sp 40 30000,s1 54 (.own 41),sp 106 30000,e5_67,sI 130 (c0.length:Int),sI 131 v33,e5_68,e5_69],[e5_35 ret41v,e5_2 k n sv,e5_3 l10,e5_4 out,e5_17,e5_0 c0]⟩:St)) (by kernel_rfl) ?_
           refine srn 6 ⟨13,[e5_28,sp 17 30800,sp 106 30000,e5_67,sI 130 (c0.length:Int),sI 131 v33,e5_68,e5_69],[e5_35 ret41v,hB 30000 [.pI k,.pI n,.pI (0:Int),.own 41,.own 30200],e5_3 l10,e5_4 out,e5_17,e5_0 c0]⟩ (by kernel_rfl) rfl ?_
           refine aw_region ?_
           refine rqT 5 ⟨13,[sp 17 30800,sp 106 30000,e5_67,sI 130 (c0.length:Int),sI 131 v33,e5_68,e5_69],[e5_7,e5_35 ret41v,e5_46 k n,e5_4 out,e5_17,e5_0 c0]⟩ (by kernel_rfl) ?_
           refine awl_nil ?_
           refine inlR_n (ob:=True) (.tup []) (by kernel_rfl) trivial rfl ?_
           refine dpr (st':=(⟨85,[e5_65,e5_29,e5_18,e5_13 c0,sI 118 v33,e5_19,e5_20],[e5_7,e5_35 ret41v,e5_46 k n,e5_4 out,e5_17,e5_0 c0]⟩:St)) (by kernel_rfl) ?_
           refine awd_done (by kernel_rfl) ?_
           exact rest4 ret41v h
          ·have h:=h.2
           refine dsq (ob:=True) (st':=(⟨85,[e5_65,e5_71,s1 31 (.ptr 30000 3),s1 37 (.p (.sl tR) sv),e5_29,e5_18,e5_13 c0,sI 118 v33,e5_19,e5_20],[e5_2 k n sv,e5_3 l10,e5_4 out,e5_17,e5_0 c0]⟩:St)) rfl (by kernel_rfl) trivial ?_
           obtain ⟨o1,h⟩:=h
           refine drq (by kernel_rfl) [11,12] (ob:=(Ts 1 (InR ((sv.length:Int)-(1:Int))∧True))) (done':=[12,11,10,9,8,7,6,4,3,2,1,0]) (st':=(⟨85,[e5_65,e5_71,s1 31 (.ptr 30000 3),sI 39 ((sv.length:Int)-(1:Int)),e5_29,e5_18,e5_13 c0,sI 118 v33,e5_19,e5_20],[e5_2 k n sv,e5_3 l10,e5_4 out,e5_17,e5_0 c0]⟩:St)) (by kernel_rfl) (tsI 1 ⟨o1,trivial⟩) ?_
           refine awd_one (i:=5) (by kernel_rfl) ?_
           refine dsq (ob:=True) (st':=(⟨85,[e5_65,e5_71,e5_63 sv,sI 39 ((sv.length:Int)-(1:Int)),e5_29,e5_18,e5_13 c0,sI 118 v33,e5_19,e5_20],[e5_2 k n sv,e5_3 l10,e5_4 out,e5_17,e5_0 c0]⟩:St)) rfl (by kernel_rfl) trivial ?_
           obtain ⟨o1,h⟩:=h
           refine drq (by kernel_rfl) [13] (ob:=((0≤((sv.length:Int)-(1:Int))∧((sv.length:Int)-(1:Int))≤(sv.length:Int))∧True)) (done':=[13,5,12,11,10,9,8,7,6,4,3,2,1,0]) (st':=(⟨85,[e5_65,e5_71,e5_58 sv,e5_29,e5_18,e5_13 c0,sI 118 v33,e5_19,e5_20],[e5_2 k n sv,e5_3 l10,e5_4 out,e5_17,e5_0 c0]⟩:St)) (by kernel_rfl) (⟨o1,trivial⟩) ?_
           refine awd_one (i:=14) (by kernel_rfl) ?_
           refine adop_callOk (e:=40) (t:=tR) (l:=[toV1 (.sl tR) (sv.take (((sv.length:Int)-(1:Int))).toNat)]) (cl:=[]) false [.d (.sl tR)] e5_n5 e5_n2 (fun (ret41v:LR)=>VCc13_k4 v33 out X1 ret41v) (fun ret41v=>(⟨85,[e5_65,e5_71,s1 41 (.own 41),e5_29,e5_18,e5_13 c0,sI 118 v33,e5_19,e5_20],[e5_35 ret41v,e5_2 k n sv,e5_3 l10,e5_4 out,e5_17,e5_0 c0]⟩:St)) rfl rfl rfl (by kernel_rfl) rfl (by kernel_rfl) Try.call42 (by kernel_rfl) (fun e=>by cases e) (fun ret41v=>by kernel_rfl) (link42 (sv.take (((sv.length:Int)-(1:Int))).toNat) _ h) (fun ret41v h=>?_)
           refine awd_one (i:=15) (by kernel_rfl) ?_
           refine adop_inlr [] [.c (.ptr 30000 0),.c (.own 41)] [] rfl rfl rfl (by kernel_rfl) rfl (by kernel_rfl) Try.call24 (by kernel_rfl) (by kernel_rfl) Try.func24 rfl rfl (by kernel_rfl) ?_
           refine aw_conv [] (st':=(⟨13,[e5_28,s1 1 (.own 41),sp 17 30800,sp 40 30000,s1 54 (.own 41),sp 106 30000,e5_67,sI 130 (c0.length:Int),sI 131 v33,e5_68,e5_69],[e5_35 ret41v,e5_2 k n sv,e5_3 l10,e5_4 out,e5_17,e5_0 c0]⟩:St)) (by kernel_rfl) ?_
           refine srn 6 ⟨13,[e5_28,sp 17 30800,sp 106 30000,e5_67,sI 130 (c0.length:Int),sI 131 v33,e5_68,e5_69],[e5_35 ret41v,hB 30000 [.pI k,.pI n,.pI (0:Int),.own 41,.own 30200],e5_3 l10,e5_4 out,e5_17,e5_0 c0]⟩ (by kernel_rfl) rfl ?_
           refine aw_region ?_
           refine rqT 5 ⟨13,[sp 17 30800,sp 106 30000,e5_67,sI 130 (c0.length:Int),sI 131 v33,e5_68,e5_69],[e5_7,e5_35 ret41v,e5_46 k n,e5_4 out,e5_17,e5_0 c0]⟩ (by kernel_rfl) ?_
           refine awl_nil ?_
           refine inlR_n (ob:=True) (.tup []) (by kernel_rfl) trivial rfl ?_
           refine dpr (st':=(⟨85,[e5_65,e5_29,e5_18,e5_13 c0,sI 118 v33,e5_19,e5_20],[e5_7,e5_35 ret41v,e5_46 k n,e5_4 out,e5_17,e5_0 c0]⟩:St)) (by kernel_rfl) ?_
           refine awd_done (by kernel_rfl) ?_
           exact rest4 ret41v h
       ·have h:=h.2 hb
        refine srn 2 ⟨85,[e5_28,sp 3 3,e5_42,e5_30 c0 v33,sB 44 (decide ((c0.getD ((v33).toNat) zD).1=(3:Int))),e5_29,e5_18,e5_13 c0,sI 118 v33,e5_19,e5_20],[e5_5 c0 v33,e5_8,e5_2 k n sv,e5_3 l10,e5_4 out,e5_0 c0]⟩ (by kernel_rfl) rfl ?_
        refine aw_cond (b:=(decide ((c0.getD ((v33).toNat) zD).1=(3:Int)))) (by kernel_rfl) (fun hb=>?_) (fun hb=>?_)
        ·have h:=h.1 hb
         refine sr ?_
         refine rqT 3 ⟨85,[e5_42,sp 46 30000,s1 48 (.pS ((c0.getD ((v33).toNat) zD).2.2.1)),e5_29,e5_18,e5_13 c0,sI 118 v33,e5_19,e5_20],[e5_8,e5_2 k n sv,e5_3 l10,e5_4 out,e5_0 c0]⟩ (by kernel_rfl) ?_
         refine awl_conv [.ren 4 30900] (st':=(⟨85,[sp 4 30900,sp 46 30000,s1 48 (.pS ((c0.getD ((v33).toNat) zD).2.2.1)),e5_29,e5_18,e5_13 c0,sI 118 v33,e5_19,e5_20],[e5_15,e5_2 k n sv,e5_3 l10,e5_4 out,e5_0 c0]⟩:St)) (by kernel_rfl) ?_
         refine awl_inlr [.c 4 48] [30900,30000,30200,30201,70200] [.c (.ptr 30000 0),.c (.pS ((c0.getD ((v33).toNat) zD).2.2.1))] [] rfl rfl (by kernel_rfl) rfl (by kernel_rfl) Try.call43 (by kernel_rfl) (by kernel_rfl) Try.func43 rfl rfl (by kernel_rfl) ?_
         refine aw_conv [] (st':=(⟨52,[e5_28,e5_11 c0 v33,e5_55,sp 98 30000,s1 100 (.pS ((c0.getD ((v33).toNat) zD).2.2.1)),e5_51,e5_39,e5_31 c0,sI 170 v33,e5_40,e5_41],[e5_15,e5_2 k n sv,e5_3 l10,e5_4 out,e5_0 c0]⟩:St)) (by kernel_rfl) ?_
         refine withJoinR (σ:=Int×Int×LS) (fun s=>(⟨52,[e5_42,e5_55,e5_51,e5_39,e5_31 c0,sI 170 v33,e5_40,e5_41],[hB 4 [.pI s.1,.pI s.2.1,.nils],e5_2 k n sv,(30200,[],.dict (.pr tI (.ar 11 tI)) (.pr tI tI) s.2.2),e5_4 out,e5_15,e5_0 c0]⟩:St)) (fun s=>VCc13_k5 v33 out sv X1 s.1 s.2.1 s.2.2) (fun s h=>?_) (fun rest5=>?_)
         ·obtain ⟨l4,l42,l30200⟩:=s
          have h:VCc13_k5 v33 out sv X1 l4 l42 l30200:=h
          unfold VCc13_k5 at h
          refine inlR_n (ob:=True) (.v (.agg [.pI l4,.pI l42,.nils])) (by kernel_rfl) trivial rfl ?_
          refine lpr (st':=(⟨85,[sp 4 30900,sA 49 [.pI l4,.pI l42,.nils],e5_29,e5_18,e5_13 c0,sI 118 v33,e5_19,e5_20],[e5_2 k n sv,e5_21 l30200,e5_4 out,e5_15,e5_0 c0]⟩:St)) (by kernel_rfl) ?_
          refine rqT 1 ⟨85,[sp 4 30900,e5_29,e5_18,e5_13 c0,sI 118 v33,e5_19,e5_20],[e5_2 k n sv,e5_21 l30200,e5_4 out,hB 30900 [.pI l4,.pI l42,.nils],e5_0 c0]⟩ (by kernel_rfl) ?_
          refine nn ?_
          refine aw_conv [.nilPB 30900 2 tI,.ren 30900 50900,.ren 50900 30400] (st':=(⟨85,[e5_70,e5_29,e5_18,e5_13 c0,sI 118 v33,e5_19,e5_20],[e5_2 k n sv,e5_21 l30200,e5_4 out,hB 30400 [.pI l4,.pI l42,.pS ([]:List Int)],e5_0 c0]⟩:St)) (by kernel_rfl) ?_
          refine aw_ret ?_
          refine blockQ_r ?_
          refine thenQ_r ?_
          exact rest2 (sv,l30200,l4,l42,([]:List Int)) h
         ·refine srn 1 ⟨52,[e5_28,e5_11 c0 v33,e5_42,e5_55,e5_51,e5_39,e5_31 c0,sI 170 v33,e5_40,e5_41],[e5_8,e5_2 k n sv,e5_3 l10,e5_4 out,e5_15,e5_0 c0]⟩ (by kernel_rfl) rfl ?_
          refine aw_seq ?_
          refine srn 3 ⟨52,[e5_28,e5_11 c0 v33,e5_42,sB 10 (decide ((12:Int)<(((c0.getD ((v33).toNat) zD).2.2.1).length:Int))),e5_55,e5_51,e5_39,e5_31 c0,sI 170 v33,e5_40,e5_41],[e5_8,e5_2 k n sv,e5_3 l10,e5_4 out,e5_15,e5_0 c0]⟩ (by kernel_rfl) rfl ?_
          refine aw_cond (b:=(decide ((12:Int)<(((c0.getD ((v33).toNat) zD).2.2.1).length:Int)))) (by kernel_rfl) (fun hb=>?_) (fun hb=>?_)
          ·have h:=h.1 hb
           refine srn 2 ⟨52,[e5_42,e5_55,e5_51,e5_39,e5_31 c0,sI 170 v33,e5_40,e5_41],[hB 4 [.pI (1:Int),.pI (0:Int),.nils],e5_2 k n sv,e5_3 l10,e5_4 out,e5_15,e5_0 c0]⟩ (by kernel_rfl) rfl ?_
           refine aw_ret ?_
           refine thenQ_r ?_
           exact rest5 ((1:Int),(0:Int),l10) h
          ·have h:=h.2 hb
           refine aw_skip ?_
           refine thenQ_n ?_
           refine sr ?_
           refine rqT 5 ⟨52,[e5_28,e5_11 c0 v33,e5_42,sp 5 5,e5_55,e5_51,e5_39,e5_31 c0,sI 170 v33,e5_40,e5_41],[e5_8,e5_25 c0 v33,e5_2 k n sv,e5_3 l10,e5_4 out,e5_15,e5_0 c0]⟩ (by kernel_rfl) ?_
           refine nsr ?_
           refine rqT 1 ⟨52,[e5_28,e5_11 c0 v33,e5_42,sp 5 5,s1 15 (.ptr 5 1),e5_55,e5_51,e5_39,e5_31 c0,sI 170 v33,e5_40,e5_41],[e5_8,e5_25 c0 v33,e5_2 k n sv,e5_3 l10,e5_4 out,e5_15,e5_0 c0]⟩ (by kernel_rfl) ?_
           refine awl_copy 3 3 5 1 12 [.pI (((c0.getD ((v33).toNat) zD).2.2.1).length:Int),.pI (0:Int),.pI (0:Int),.pI (0:Int),.pI (0:Int),.pI (0:Int),.pI (0:Int),.pI (0:Int),.pI (0:Int),.pI (0:Int),.pI (0:Int),.pI (0:Int),.pI (0:Int)] (.v (.c (.pS ((c0.getD ((v33).toNat) zD).2.2.1)))) ((c0.getD ((v33).toNat) zD).2.2.1) (⟨52,[s1 18 (.any),s1 17 (.any),s1 16 (.any),e5_28,e5_11 c0 v33,e5_42,sp 5 5,s1 15 (.ptr 5 1),e5_55,e5_51,e5_39,e5_31 c0,sI 170 v33,e5_40,e5_41],[e5_8,e5_1 c0 v33,e5_2 k n sv,e5_3 l10,e5_4 out,e5_15,e5_0 c0]⟩:St) rfl rfl rfl rfl rfl rfl rfl rfl rfl rfl rfl rfl (by kernel_rfl) (by kernel_rfl) (by kernel_rfl) (by kernel_rfl) (by kernel_rfl) (by kernel_rfl) (by kernel_rfl) (by kernel_rfl) (by kernel_rfl) (by kernel_rfl) (by kernel_rfl) (by kernel_rfl) ?_
           refine lpr (st':=(⟨52,[e5_28,e5_11 c0 v33,e5_42,sp 5 5,e5_55,e5_51,e5_39,e5_31 c0,sI 170 v33,e5_40,e5_41],[e5_8,e5_1 c0 v33,e5_2 k n sv,e5_3 l10,e5_4 out,e5_15,e5_0 c0]⟩:St)) (by kernel_rfl) ?_
           refine nn ?_
           refine aw_seq ?_
           refine awd_begin [6] (by kernel_rfl) ?_
           refine drq (by kernel_rfl) [0,1,2,3,4,5,6,7,8] (ob:=(Ts 9 True)) (done':=[8,7,6,5,4,3,2,1,0]) (st':=(⟨52,[e5_28,e5_11 c0 v33,e5_42,sp 5 5,e5_14 l10 c0 v33,e5_22 l10 c0 v33,e5_55,e5_51,e5_39,e5_31 c0,sI 170 v33,e5_40,e5_41],[e5_8,e5_1 c0 v33,e5_2 k n sv,e5_3 l10,e5_4 out,e5_15,e5_0 c0]⟩:St)) (by kernel_rfl) (tsI 9 trivial) ?_
           refine awd_one (i:=9) (by kernel_rfl) ?_
           refine dsq (ob:=True) (st':=(⟨52,[e5_28,e5_11 c0 v33,e5_42,sp 5 5,sp 6 6,e5_14 l10 c0 v33,e5_22 l10 c0 v33,e5_55,e5_51,e5_39,e5_31 c0,sI 170 v33,e5_40,e5_41],[e5_8,e5_1 c0 v33,hB 6 [.pI (0:Int),.pI (0:Int)],e5_2 k n sv,e5_3 l10,e5_4 out,e5_15,e5_0 c0]⟩:St)) rfl (by kernel_rfl) trivial ?_
           refine awd_one (i:=10) (by kernel_rfl) ?_
           refine dsq (ob:=True) (st':=(⟨52,[e5_28,e5_11 c0 v33,e5_42,sp 5 5,sp 6 6,e5_22 l10 c0 v33,e5_55,e5_51,e5_39,e5_31 c0,sI 170 v33,e5_40,e5_41],[e5_8,e5_1 c0 v33,e5_6 l10 c0 v33,e5_2 k n sv,e5_3 l10,e5_4 out,e5_15,e5_0 c0]⟩:St)) rfl (by kernel_rfl) trivial ?_
           refine drq (by kernel_rfl) [11] (ob:=(Ts 1 True)) (done':=[11,10,9,8,7,6,5,4,3,2,1,0]) (st':=(⟨52,[e5_28,e5_11 c0 v33,e5_42,sp 5 5,sp 6 6,sB 7 ((mget l10 ((((c0.getD ((v33).toNat) zD).2.2.1).length:Int),(a12 ((c0.getD ((v33).toNat) zD).2.2.1)))).isSome),e5_55,e5_51,e5_39,e5_31 c0,sI 170 v33,e5_40,e5_41],[e5_8,e5_1 c0 v33,e5_6 l10 c0 v33,e5_2 k n sv,e5_3 l10,e5_4 out,e5_15,e5_0 c0]⟩:St)) (by kernel_rfl) (tsI 1 trivial) ?_
           refine awd_done (by kernel_rfl) ?_
           refine thenQ_n ?_
           refine aw_seq ?_
           refine srn 2 ⟨52,[e5_28,e5_11 c0 v33,e5_42,sp 5 5,sp 6 6,sB 29 (!(mget l10 ((((c0.getD ((v33).toNat) zD).2.2.1).length:Int),(a12 ((c0.getD ((v33).toNat) zD).2.2.1)))).isSome),e5_55,e5_51,e5_39,e5_31 c0,sI 170 v33,e5_40,e5_41],[e5_8,e5_1 c0 v33,e5_6 l10 c0 v33,e5_2 k n sv,e5_3 l10,e5_4 out,e5_15,e5_0 c0]⟩ (by kernel_rfl) rfl ?_
           refine withJoin (σ:=Int×Int×LS) (fun s=>(⟨52,[e5_42,sp 6 6,e5_55,e5_51,e5_39,e5_31 c0,sI 170 v33,e5_40,e5_41],[e5_8,hB 6 [.pI s.1,.pI s.2.1],e5_2 k n sv,(30200,[],.dict (.pr tI (.ar 11 tI)) (.pr tI tI) s.2.2),e5_4 out,e5_15,e5_0 c0]⟩:St)) (fun s=>VCc13_k6 v33 out sv X1 s.1 s.2.1 s.2.2) (fun s h=>?_) (fun rest6=>?_)
           ·obtain ⟨a,a2,l30200⟩:=s
            have h:VCc13_k6 v33 out sv X1 a a2 l30200:=h
            unfold VCc13_k6 at h
            refine thenQ_n ?_
            refine srn 6 ⟨52,[e5_42,e5_55,e5_51,e5_39,e5_31 c0,sI 170 v33,e5_40,e5_41],[hB 4 [.pI a2,.pI a,.nils],e5_2 k n sv,e5_21 l30200,e5_4 out,e5_15,e5_0 c0]⟩ (by kernel_rfl) rfl ?_
            refine aw_ret ?_
            exact rest5 (a2,a,l30200) h
           ·refine aw_cond (b:=(!(mget l10 ((((c0.getD ((v33).toNat) zD).2.2.1).length:Int),(a12 ((c0.getD ((v33).toNat) zD).2.2.1)))).isSome)) (by kernel_rfl) (fun hb=>?_) (fun hb=>?_)
            ·have h:=h.1 hb
             refine sr ?_
             refine rqT 5 ⟨52,[e5_28,e5_42,sp 5 5,sp 6 6,sA 34 [.pI k,.pI n,.pI (0:Int),.p (.sl tR) sv],s1 35 (.pS ((c0.getD ((v33).toNat) zD).2.2.1)),e5_55,e5_51,e5_39,e5_31 c0,sI 170 v33,e5_40,e5_41],[e5_8,e5_1 c0 v33,e5_6 l10 c0 v33,e5_2 k n sv,e5_3 l10,e5_4 out,e5_15,e5_0 c0]⟩ (by kernel_rfl) ?_
             refine lcq (d:=36) [.d tG,.d (.sl tI)] (fun ret36v=>(⟨52,[e5_28,e5_42,sp 5 5,sp 6 6,(36,[],.tup [.c (.pI ret36v.1),.c (.pI ret36v.2)]),e5_55,e5_51,e5_39,e5_31 c0,sI 170 v33,e5_40,e5_41],[e5_8,e5_1 c0 v33,e5_6 l10 c0 v33,e5_2 k n sv,e5_3 l10,e5_4 out,e5_15,e5_0 c0]⟩:St)) (by kernel_rfl) Try.call56 (fun _=>by kernel_rfl) (link56 (k,(n,((0:Int),sv))) ((c0.getD ((v33).toNat) zD).2.2.1) _ h) (fun ret36v h=>?_)
             refine rqT 7 ⟨52,[e5_28,e5_42,sp 5 5,sp 6 6,e5_55,e5_51,e5_39,e5_31 c0,sI 170 v33,e5_40,e5_41],[e5_8,e5_1 c0 v33,hB 6 [.pI ret36v.1,.pI ret36v.2],e5_2 k n sv,e5_3 l10,e5_4 out,e5_15,e5_0 c0]⟩ (by kernel_rfl) ?_
             refine nn ?_
             refine awd_begin [30200] (by kernel_rfl) ?_
             refine drq (by kernel_rfl) [0,1,2,3,4,5] (ob:=(Ts 6 True)) (done':=[5,4,3,2,1,0]) (st':=(⟨52,[e5_42,sp 6 6,s1 44 (.own 30200),sA 45 [.pI (((c0.getD ((v33).toNat) zD).2.2.1).length:Int),.pI (((c0.getD ((v33).toNat) zD).2.2.1).getD 0 0),.pI (((c0.getD ((v33).toNat) zD).2.2.1).getD 1 0),.pI (((c0.getD ((v33).toNat) zD).2.2.1).getD 2 0),.pI (((c0.getD ((v33).toNat) zD).2.2.1).getD 3 0),.pI (((c0.getD ((v33).toNat) zD).2.2.1).getD 4 0),.pI (((c0.getD ((v33).toNat) zD).2.2.1).getD 5 0),.pI (((c0.getD ((v33).toNat) zD).2.2.1).getD 6 0),.pI (((c0.getD ((v33).toNat) zD).2.2.1).getD 7 0),.pI (((c0.getD ((v33).toNat) zD).2.2.1).getD 8 0),.pI (((c0.getD ((v33).toNat) zD).2.2.1).getD 9 0),.pI (((c0.getD ((v33).toNat) zD).2.2.1).getD 10 0),.pI (((c0.getD ((v33).toNat) zD).2.2.1).getD 11 0)],sA 46 [.pI ret36v.1,.pI ret36v.2],e5_55,e5_51,e5_39,e5_31 c0,sI 170 v33,e5_40,e5_41],[e5_8,hB 6 [.pI ret36v.1,.pI ret36v.2],e5_2 k n sv,e5_3 l10,e5_4 out,e5_15,e5_0 c0]⟩:St)) (by kernel_rfl) (tsI 6 trivial) ?_
             refine awd_one (i:=6) (by kernel_rfl) ?_
             refine dsq (ob:=True) (st':=(⟨52,[e5_42,sp 6 6,e5_55,e5_51,e5_39,e5_31 c0,sI 170 v33,e5_40,e5_41],[e5_8,hB 6 [.pI ret36v.1,.pI ret36v.2],e5_2 k n sv,(30200,[],.dict (.pr tI (.ar 11 tI)) (.pr tI tI) (mset l10 ((((c0.getD ((v33).toNat) zD).2.2.1).length:Int),(a12 ((c0.getD ((v33).toNat) zD).2.2.1))) ret36v)),e5_4 out,e5_15,e5_0 c0]⟩:St)) rfl (by kernel_rfl) trivial ?_
             refine awd_done (by kernel_rfl) ?_
             exact rest6 (ret36v.1,ret36v.2,(mset l10 ((((c0.getD ((v33).toNat) zD).2.2.1).length:Int),(a12 ((c0.getD ((v33).toNat) zD).2.2.1))) ret36v)) h
            ·have h:=h.2 hb
             refine cpr (st':=(⟨52,[e5_42,sp 6 6,e5_55,e5_51,e5_39,e5_31 c0,sI 170 v33,e5_40,e5_41],[e5_8,e5_6 l10 c0 v33,e5_2 k n sv,e5_3 l10,e5_4 out,e5_15,e5_0 c0]⟩:St)) (by kernel_rfl) ?_
             refine aw_skip ?_
             exact rest6 (((mget l10 ((((c0.getD ((v33).toNat) zD).2.2.1).length:Int),(a12 ((c0.getD ((v33).toNat) zD).2.2.1)))).getD ((0:Int),(0:Int))).1,((mget l10 ((((c0.getD ((v33).toNat) zD).2.2.1).length:Int),(a12 ((c0.getD ((v33).toNat) zD).2.2.1)))).getD ((0:Int),(0:Int))).2,l10) h
        ·have h:=h.2 hb
         refine srn 2 ⟨85,[e5_28,sp 3 3,e5_42,e5_30 c0 v33,sB 50 (decide ((c0.getD ((v33).toNat) zD).1=(4:Int))),e5_29,e5_18,e5_13 c0,sI 118 v33,e5_19,e5_20],[e5_5 c0 v33,e5_8,e5_2 k n sv,e5_3 l10,e5_4 out,e5_0 c0]⟩ (by kernel_rfl) rfl ?_
         refine aw_cond (b:=(decide ((c0.getD ((v33).toNat) zD).1=(4:Int)))) (by kernel_rfl) (fun hb=>?_) (fun hb=>?_)
         ·have h:=h.1 hb
          refine aw_seq ?_
          refine awd_begin [] (by kernel_rfl) ?_
          refine drq (by kernel_rfl) [0,1,2,3,4,5,6,7] (ob:=(Ts 8 True)) (done':=[7,6,5,4,3,2,1,0]) (st':=(⟨85,[e5_42,sA 56 [.pI k,.pI n,.pI (0:Int),.p (.sl tR) sv],s1 58 (.pS ((c0.getD ((v33).toNat) zD).2.2.1)),sI 60 ((c0.getD ((v33).toNat) zD).2.2.2.1),e5_29,e5_18,e5_13 c0,sI 118 v33,e5_19,e5_20],[e5_8,e5_2 k n sv,e5_3 l10,e5_4 out,e5_0 c0]⟩:St)) (by kernel_rfl) (tsI 8 trivial) ?_
          refine awd_one (i:=8) (by kernel_rfl) ?_
          refine dcq (d:=61) [.d tG,.d (.sl tI),.d tI] (fun ret61v=>(⟨85,[e5_42,(61,[],.tup [.c (.pS ret61v.1),.c (.pI ret61v.2)]),e5_29,e5_18,e5_13 c0,sI 118 v33,e5_19,e5_20],[e5_8,e5_2 k n sv,e5_3 l10,e5_4 out,e5_0 c0]⟩:St)) rfl (by kernel_rfl) Try.call44 (fun _=>by kernel_rfl) (link44 (k,(n,((0:Int),sv))) ((c0.getD ((v33).toNat) zD).2.2.1) ((c0.getD ((v33).toNat) zD).2.2.2.1) _ h) (fun ret61v h=>?_)
          refine drq (by kernel_rfl) [9,10,11,12,13] (ob:=(Ts 5 True)) (done':=e5_n3) (st':=(⟨85,[e5_42,s1 5 (.pS ret61v.1),sI 6 ret61v.2,e5_29,e5_18,e5_13 c0,sI 118 v33,e5_19,e5_20],[e5_8,e5_2 k n sv,e5_3 l10,e5_4 out,e5_0 c0]⟩:St)) (by kernel_rfl) (tsI 5 trivial) ?_
          refine awd_done (by kernel_rfl) ?_
          refine thenQ_n ?_
          refine srn 4 ⟨85,[e5_42,e5_29,e5_18,e5_13 c0,sI 118 v33,e5_19,e5_20],[hB 4 [.pI ret61v.2,.pI (0:Int),.pS ret61v.1],e5_2 k n sv,e5_3 l10,e5_4 out,e5_0 c0]⟩ (by kernel_rfl) rfl ?_
          refine aw_conv [.ren 4 20004,.ren 20004 30400,.prune e5_n1 e5_n0] (st':=(⟨85,[e5_70,e5_29,e5_18,e5_13 c0,sI 118 v33,e5_19,e5_20],[e5_2 k n sv,e5_3 l10,e5_4 out,hB 30400 [.pI ret61v.2,.pI (0:Int),.pS ret61v.1],e5_0 c0]⟩:St)) (by kernel_rfl) ?_
          refine aw_ret ?_
          refine blockQ_r ?_
          refine thenQ_r ?_
          exact rest2 (sv,l10,ret61v.2,(0:Int),ret61v.1) h
         ·have h:=h.2 hb
          refine srn 2 ⟨85,[e5_28,sp 3 3,e5_42,sB 67 (decide ((c0.getD ((v33).toNat) zD).1=(5:Int))),e5_29,e5_18,e5_13 c0,sI 118 v33,e5_19,e5_20],[e5_5 c0 v33,e5_8,e5_2 k n sv,e5_3 l10,e5_4 out,e5_0 c0]⟩ (by kernel_rfl) rfl ?_
          refine aw_cond (b:=(decide ((c0.getD ((v33).toNat) zD).1=(5:Int)))) (by kernel_rfl) (fun hb=>?_) (fun hb=>?_)
          ·have h:=h.1 hb
           refine aw_seq ?_
           refine awd_begin [] (by kernel_rfl) ?_
           refine drq (by kernel_rfl) [0,1,2,3,4,5,6,7] (ob:=(Ts 8 True)) (done':=[7,6,5,4,3,2,1,0]) (st':=(⟨85,[e5_42,sA 73 [.pI k,.pI n,.pI (0:Int),.p (.sl tR) sv],s1 75 (.pS ((c0.getD ((v33).toNat) zD).2.2.1)),s1 77 (.pS ((c0.getD ((v33).toNat) zD).2.2.2.2)),e5_29,e5_18,e5_13 c0,sI 118 v33,e5_19,e5_20],[e5_8,e5_2 k n sv,e5_3 l10,e5_4 out,e5_0 c0]⟩:St)) (by kernel_rfl) (tsI 8 trivial) ?_
           refine awd_one (i:=8) (by kernel_rfl) ?_
           refine dcq (d:=78) [.d tG,.d (.sl tI),.d (.sl tI)] (fun ret78v=>(⟨85,[e5_42,(78,[],.tup [.c (.pI ret78v.1),.c (.pI ret78v.2)]),e5_29,e5_18,e5_13 c0,sI 118 v33,e5_19,e5_20],[e5_8,e5_2 k n sv,e5_3 l10,e5_4 out,e5_0 c0]⟩:St)) rfl (by kernel_rfl) Try.call45 (fun _=>by kernel_rfl) (link45 (k,(n,((0:Int),sv))) ((c0.getD ((v33).toNat) zD).2.2.1) ((c0.getD ((v33).toNat) zD).2.2.2.2) _ h) (fun ret78v h=>?_)
           refine drq (by kernel_rfl) [9,10,11,12,13] (ob:=(Ts 5 True)) (done':=e5_n3) (st':=(⟨85,[e5_42,sI 7 ret78v.1,sI 8 ret78v.2,e5_29,e5_18,e5_13 c0,sI 118 v33,e5_19,e5_20],[e5_8,e5_2 k n sv,e5_3 l10,e5_4 out,e5_0 c0]⟩:St)) (by kernel_rfl) (tsI 5 trivial) ?_
           refine awd_done (by kernel_rfl) ?_
           refine thenQ_n ?_
           refine srn 4 ⟨85,[e5_42,e5_29,e5_18,e5_13 c0,sI 118 v33,e5_19,e5_20],[hB 4 [.pI ret78v.2,.pI ret78v.1,.nils],e5_2 k n sv,e5_3 l10,e5_4 out,e5_0 c0]⟩ (by kernel_rfl) rfl ?_
           refine aw_conv [.nilPB 4 2 tI,.ren 4 20004,.ren 20004 30400,.prune e5_n1 e5_n0] (st':=(⟨85,[e5_70,e5_29,e5_18,e5_13 c0,sI 118 v33,e5_19,e5_20],[e5_2 k n sv,e5_3 l10,e5_4 out,hB 30400 [.pI ret78v.2,.pI ret78v.1,.pS ([]:List Int)],e5_0 c0]⟩:St)) (by kernel_rfl) ?_
           refine aw_ret ?_
           refine blockQ_r ?_
           refine thenQ_r ?_
           exact rest2 (sv,l10,ret78v.2,ret78v.1,([]:List Int)) h
          ·have h:=h.2 hb
           refine aw_skip ?_
           refine blockQ_n ?_
           refine thenQ_n ?_
           refine srn 2 ⟨85,[e5_42,e5_29,e5_18,e5_13 c0,sI 118 v33,e5_19,e5_20],[hB 4 [.pI (6:Int),.pI (0:Int),.nils],e5_2 k n sv,e5_3 l10,e5_4 out,e5_0 c0]⟩ (by kernel_rfl) rfl ?_
           refine aw_conv [.nilPB 4 2 tI,.ren 4 20004,.ren 20004 30400,.prune e5_n1 e5_n0] (st':=(⟨85,[e5_70,e5_29,e5_18,e5_13 c0,sI 118 v33,e5_19,e5_20],[e5_2 k n sv,e5_3 l10,e5_4 out,hB 30400 [.pI (6:Int),.pI (0:Int),.pS ([]:List Int)],e5_0 c0]⟩:St)) (by kernel_rfl) ?_
           refine aw_ret ?_
           exact rest2 (sv,l10,(6:Int),(0:Int),([]:List Int)) h
    ·have h:=h.2 hb
     refine cpr (st':=(⟨45,[e5_66,e5_27],[e5_44 out,e5_0 c0]⟩:St)) (by kernel_rfl) ?_
     refine aw_exit ?_
     refine thenQ_x ?_
     refine thenQ_x ?_
     refine blockQ_hit ?_
     exact rest1 out h
def VCc13_it (c0:LD):Nat→Int→Int→(LO×Int→Prop)→Prop
  | 0=>fun _ _ _=>False
  | fu+1=>fun k n K=>VCc13 c0 (VCc13_it c0 fu) k n K
def VCcr13 (c0:LD) (k:Int) (n:Int) (K:LO×Int→Prop):Prop:=∃ fu,VCc13_it c0 fu k n K
theorem linkci13 (c0:LD):∀ (fu:Nat) (k:Int) (n:Int) (K:LO×Int→Prop),VCc13_it c0 fu k n K→LCalls Try.prog 13 [70200] [70200] [e5_0 c0] [.c (.pI k),.c (.pI n),.c (.own 70200)] (fun av hp'=>∃ y:LO×Int,av=.tup [.c (.p (.sl (.pr tI tR)) y.1),.c (.pI y.2)]∧hp'=[e5_0 c0]∧K y)
  | 0,_,_,_,h=>False.elim h
  | fu+1,k,n,K,h=>linkc13 c0 (VCc13_it c0 fu) (linkci13 c0 fu) k n K h
theorem linkcr13 (c0:LD) (k:Int) (n:Int) (K:LO×Int→Prop) (h:VCcr13 c0 k n K):LCalls Try.prog 13 [70200] [70200] [e5_0 c0] [.c (.pI k),.c (.pI n),.c (.own 70200)] (fun av hp'=>∃ y:LO×Int,av=.tup [.c (.p (.sl (.pr tI tR)) y.1),.c (.pI y.2)]∧hp'=[e5_0 c0]∧K y):=by
  obtain ⟨fu,h⟩:=h
  exact linkci13 c0 fu k n K h
abbrev e5a0 (script:LD) (w:LI) (i:Int) (ret31v:LO×Int):Nat×Path×Con:=hA 70200 42 (.pr tI (.pr tR (.pr (.sl tI) tR))) (((([]:LD)++script)++[((3:Int),(((0:Int),([]:LI)),(w,((0:Int),([]:LI))))),((4:Int),(((0:Int),([]:LI)),(w,(i,([]:LI)))))])++[((5:Int),(((0:Int),([]:LI)),(w,((0:Int),(ret31v.1.getD (((script.length:Int)+(1:Int))).toNat zT).2.2)))),((4:Int),(((0:Int),([]:LI)),(w,((i+(1:Int)),([]:LI)))))])
abbrev e5a1 (script:LD) (w:LI) (i:Int):Nat×Path×Con:=hA 70200 42 (.pr tI (.pr tR (.pr (.sl tI) tR))) ((([]:LD)++script)++[((3:Int),(((0:Int),([]:LI)),(w,((0:Int),([]:LI))))),((4:Int),(((0:Int),([]:LI)),(w,(i,([]:LI)))))])
abbrev e5a2 (ret31v:LO×Int) (script:LD):Nat×Path×Con:=hB 15 [.pI ((ret31v.1.getD (((script.length:Int)+(1:Int))).toNat zT).1),.pI ((ret31v.1.getD (((script.length:Int)+(1:Int))).toNat zT).2.1),.pS ((ret31v.1.getD (((script.length:Int)+(1:Int))).toNat zT).2.2)]
abbrev e5a3 (ret31v:LO×Int) (script:LD):Nat×Path×Con:=hB 14 [.pI ((ret31v.1.getD ((script.length:Int)).toNat zT).1),.pI ((ret31v.1.getD ((script.length:Int)).toNat zT).2.1),.pS ((ret31v.1.getD ((script.length:Int)).toNat zT).2.2)]
abbrev e5a4 (script:LD):Nat×Path×AV:=s1 2 (.p (.sl (.pr tI (.pr tR (.pr (.sl tI) tR)))) script)
abbrev e5a5 (ret108v:LO×Int) (script:LD) (w:LI) (i:Int) (ret31v:LO×Int):Nat×Path×AV:=sB 164 (((((decide (ret108v.2=(0:Int)))&&(decide ((ret108v.1.length:Int)=((((([]:LD)++script)++[((3:Int),(((0:Int),([]:LI)),(w,((0:Int),([]:LI))))),((4:Int),(((0:Int),([]:LI)),(w,(i,([]:LI)))))])++[((5:Int),(((0:Int),([]:LI)),(w,((0:Int),(ret31v.1.getD (((script.length:Int)+(1:Int))).toNat zT).2.2)))),((4:Int),(((0:Int),([]:LI)),(w,((i+(1:Int)),([]:LI)))))]).length:Int))))&&(decide ((ret108v.1.getD (((script.length:Int)+(2:Int))).toNat zT).1=(0:Int))))&&(decide ((ret108v.1.getD (((script.length:Int)+(2:Int))).toNat zT).2.1=i)))&&((decide ((i+(1:Int))<(ret31v.1.getD ((script.length:Int)).toNat zT).2.1)) == (decide ((ret108v.1.getD (((script.length:Int)+(3:Int))).toNat zT).1=(0:Int)))))
abbrev e5a6 (script:LD) (w:LI) (i:Int) (ret31v:LO×Int):Nat×Path×Con:=hA 103 42 (.pr tI (.pr tR (.pr (.sl tI) tR))) (((([]:LD)++script)++[((3:Int),(((0:Int),([]:LI)),(w,((0:Int),([]:LI))))),((4:Int),(((0:Int),([]:LI)),(w,(i,([]:LI)))))])++[((5:Int),(((0:Int),([]:LI)),(w,((0:Int),(ret31v.1.getD (((script.length:Int)+(1:Int))).toNat zT).2.2)))),((4:Int),(((0:Int),([]:LI)),(w,((i+(1:Int)),([]:LI)))))])
abbrev e5a7 (script:LD) (w:LI) (i:Int):Nat×Path×Con:=hA 26 42 (.pr tI (.pr tR (.pr (.sl tI) tR))) ((([]:LD)++script)++[((3:Int),(((0:Int),([]:LI)),(w,((0:Int),([]:LI))))),((4:Int),(((0:Int),([]:LI)),(w,(i,([]:LI)))))])
abbrev e5a8 (ret31v:LO×Int):Nat×Path×AV:=s1 12 (.p (.sl (.pr tI tR)) ret31v.1)
abbrev e5a9:Nat×Path×AV:=s1 11 (.own 70200)
abbrev e5a10 (ret108v:LO×Int):Nat×Path×AV:=s1 16 (.p (.sl (.pr tI tR)) ret108v.1)
abbrev e5a11 (ret108v:LO×Int):Nat×Path×AV:=(108,[],.tup [.c (.p (.sl (.pr tI tR)) ret108v.1),.c (.pI ret108v.2)])
abbrev e5a12 (ret31v:LO×Int):Nat×Path×AV:=(31,[],.tup [.c (.p (.sl (.pr tI tR)) ret31v.1),.c (.pI ret31v.2)])
abbrev e5a13 (w:LI):Nat×Path×AV:=s1 3 (.pS w)
-- coppicer/coppicertop.TopTrees
def VC5 (k:Int) (n:Int) (script:LD) (w:LI) (i:Int) (K:Bool→Prop):Prop :=
  (roomW 96 (([]:LD).length+script.length)∧roomW 96 ((([]:LD)++script).length+[((3:Int),(((0:Int),([]:LI)),(w,((0:Int),([]:LI))))),((4:Int),(((0:Int),([]:LI)),(w,(i,([]:LI)))))].length)∧VCcr13 ((([]:LD)++script)++[((3:Int),(((0:Int),([]:LI)),(w,((0:Int),([]:LI))))),((4:Int),(((0:Int),([]:LI)),(w,(i,([]:LI)))))]) k n (fun (ret31v:LO×Int)=>VC14 k n ((([]:LD)++script)++[((3:Int),(((0:Int),([]:LI)),(w,((0:Int),([]:LI))))),((4:Int),(((0:Int),([]:LI)),(w,(i,([]:LI)))))]) (fun (ret37v:Bool)=>(((!ret37v)=true→K (!decide (ret31v.2=(0:Int))))∧((!ret37v)=false→((((!decide (ret31v.2=(0:Int)))||(!decide ((ret31v.1.length:Int)=(((([]:LD)++script)++[((3:Int),(((0:Int),([]:LI)),(w,((0:Int),([]:LI))))),((4:Int),(((0:Int),([]:LI)),(w,(i,([]:LI)))))]).length:Int))))=true→K false)∧(((!decide (ret31v.2=(0:Int)))||(!decide ((ret31v.1.length:Int)=(((([]:LD)++script)++[((3:Int),(((0:Int),([]:LI)),(w,((0:Int),([]:LI))))),((4:Int),(((0:Int),([]:LI)),(w,(i,([]:LI)))))]).length:Int))))=false→(inIdx (script.length:Int) ret31v.1.length∧(InR ((script.length:Int)+(1:Int))∧inIdx ((script.length:Int)+(1:Int)) ret31v.1.length∧(((!decide ((ret31v.1.getD ((script.length:Int)).toNat zT).1=(0:Int)))=true→K (decide ((ret31v.1.getD (((script.length:Int)+(1:Int))).toNat zT).1=(ret31v.1.getD ((script.length:Int)).toNat zT).1)))∧((!decide ((ret31v.1.getD ((script.length:Int)).toNat zT).1=(0:Int)))=false→((((decide ((ret31v.1.getD (((script.length:Int)+(1:Int))).toNat zT).1=(0:Int))) != ((decide ((0:Int)≤i))&&(decide (i<(ret31v.1.getD ((script.length:Int)).toNat zT).2.1))))=true→K false)∧(((decide ((ret31v.1.getD (((script.length:Int)+(1:Int))).toNat zT).1=(0:Int))) != ((decide ((0:Int)≤i))&&(decide (i<(ret31v.1.getD ((script.length:Int)).toNat zT).2.1))))=false→(((!decide ((ret31v.1.getD (((script.length:Int)+(1:Int))).toNat zT).1=(0:Int)))=true→K ((decide ((ret31v.1.getD (((script.length:Int)+(1:Int))).toNat zT).1=(5:Int)))&&(decide ((((ret31v.1.getD (((script.length:Int)+(1:Int))).toNat zT).2.2).length:Int)=(0:Int)))))∧((!decide ((ret31v.1.getD (((script.length:Int)+(1:Int))).toNat zT).1=(0:Int)))=false→(InR (i+(1:Int))∧roomW 96 (((([]:LD)++script)++[((3:Int),(((0:Int),([]:LI)),(w,((0:Int),([]:LI))))),((4:Int),(((0:Int),([]:LI)),(w,(i,([]:LI)))))]).length+[((5:Int),(((0:Int),([]:LI)),(w,((0:Int),(ret31v.1.getD (((script.length:Int)+(1:Int))).toNat zT).2.2)))),((4:Int),(((0:Int),([]:LI)),(w,((i+(1:Int)),([]:LI)))))].length)∧VCcr13 (((([]:LD)++script)++[((3:Int),(((0:Int),([]:LI)),(w,((0:Int),([]:LI))))),((4:Int),(((0:Int),([]:LI)),(w,(i,([]:LI)))))])++[((5:Int),(((0:Int),([]:LI)),(w,((0:Int),(ret31v.1.getD (((script.length:Int)+(1:Int))).toNat zT).2.2)))),((4:Int),(((0:Int),([]:LI)),(w,((i+(1:Int)),([]:LI)))))]) k n (fun (ret108v:LO×Int)=>VC14 k n (((([]:LD)++script)++[((3:Int),(((0:Int),([]:LI)),(w,((0:Int),([]:LI))))),((4:Int),(((0:Int),([]:LI)),(w,(i,([]:LI)))))])++[((5:Int),(((0:Int),([]:LI)),(w,((0:Int),(ret31v.1.getD (((script.length:Int)+(1:Int))).toNat zT).2.2)))),((4:Int),(((0:Int),([]:LI)),(w,((i+(1:Int)),([]:LI)))))]) (fun (ret114v:Bool)=>(((!ret114v)=true→K (!decide (ret108v.2=(0:Int))))∧((!ret114v)=false→((((decide (ret108v.2=(0:Int)))&&(decide ((ret108v.1.length:Int)=((((([]:LD)++script)++[((3:Int),(((0:Int),([]:LI)),(w,((0:Int),([]:LI))))),((4:Int),(((0:Int),([]:LI)),(w,(i,([]:LI)))))])++[((5:Int),(((0:Int),([]:LI)),(w,((0:Int),(ret31v.1.getD (((script.length:Int)+(1:Int))).toNat zT).2.2)))),((4:Int),(((0:Int),([]:LI)),(w,((i+(1:Int)),([]:LI)))))]).length:Int))))=true→InR ((script.length:Int)+(2:Int)))∧(((decide (ret108v.2=(0:Int)))&&(decide ((ret108v.1.length:Int)=((((([]:LD)++script)++[((3:Int),(((0:Int),([]:LI)),(w,((0:Int),([]:LI))))),((4:Int),(((0:Int),([]:LI)),(w,(i,([]:LI)))))])++[((5:Int),(((0:Int),([]:LI)),(w,((0:Int),(ret31v.1.getD (((script.length:Int)+(1:Int))).toNat zT).2.2)))),((4:Int),(((0:Int),([]:LI)),(w,((i+(1:Int)),([]:LI)))))]).length:Int))))=true→inIdx ((script.length:Int)+(2:Int)) ret108v.1.length)∧((((decide (ret108v.2=(0:Int)))&&(decide ((ret108v.1.length:Int)=((((([]:LD)++script)++[((3:Int),(((0:Int),([]:LI)),(w,((0:Int),([]:LI))))),((4:Int),(((0:Int),([]:LI)),(w,(i,([]:LI)))))])++[((5:Int),(((0:Int),([]:LI)),(w,((0:Int),(ret31v.1.getD (((script.length:Int)+(1:Int))).toNat zT).2.2)))),((4:Int),(((0:Int),([]:LI)),(w,((i+(1:Int)),([]:LI)))))]).length:Int))))&&(decide ((ret108v.1.getD (((script.length:Int)+(2:Int))).toNat zT).1=(0:Int))))=true→InR ((script.length:Int)+(2:Int)))∧((((decide (ret108v.2=(0:Int)))&&(decide ((ret108v.1.length:Int)=((((([]:LD)++script)++[((3:Int),(((0:Int),([]:LI)),(w,((0:Int),([]:LI))))),((4:Int),(((0:Int),([]:LI)),(w,(i,([]:LI)))))])++[((5:Int),(((0:Int),([]:LI)),(w,((0:Int),(ret31v.1.getD (((script.length:Int)+(1:Int))).toNat zT).2.2)))),((4:Int),(((0:Int),([]:LI)),(w,((i+(1:Int)),([]:LI)))))]).length:Int))))&&(decide ((ret108v.1.getD (((script.length:Int)+(2:Int))).toNat zT).1=(0:Int))))=true→inIdx ((script.length:Int)+(2:Int)) ret108v.1.length)∧(((((decide (ret108v.2=(0:Int)))&&(decide ((ret108v.1.length:Int)=((((([]:LD)++script)++[((3:Int),(((0:Int),([]:LI)),(w,((0:Int),([]:LI))))),((4:Int),(((0:Int),([]:LI)),(w,(i,([]:LI)))))])++[((5:Int),(((0:Int),([]:LI)),(w,((0:Int),(ret31v.1.getD (((script.length:Int)+(1:Int))).toNat zT).2.2)))),((4:Int),(((0:Int),([]:LI)),(w,((i+(1:Int)),([]:LI)))))]).length:Int))))&&(decide ((ret108v.1.getD (((script.length:Int)+(2:Int))).toNat zT).1=(0:Int))))&&(decide ((ret108v.1.getD (((script.length:Int)+(2:Int))).toNat zT).2.1=i)))=true→InR (i+(1:Int)))∧(((((decide (ret108v.2=(0:Int)))&&(decide ((ret108v.1.length:Int)=((((([]:LD)++script)++[((3:Int),(((0:Int),([]:LI)),(w,((0:Int),([]:LI))))),((4:Int),(((0:Int),([]:LI)),(w,(i,([]:LI)))))])++[((5:Int),(((0:Int),([]:LI)),(w,((0:Int),(ret31v.1.getD (((script.length:Int)+(1:Int))).toNat zT).2.2)))),((4:Int),(((0:Int),([]:LI)),(w,((i+(1:Int)),([]:LI)))))]).length:Int))))&&(decide ((ret108v.1.getD (((script.length:Int)+(2:Int))).toNat zT).1=(0:Int))))&&(decide ((ret108v.1.getD (((script.length:Int)+(2:Int))).toNat zT).2.1=i)))=true→InR ((script.length:Int)+(3:Int)))∧(((((decide (ret108v.2=(0:Int)))&&(decide ((ret108v.1.length:Int)=((((([]:LD)++script)++[((3:Int),(((0:Int),([]:LI)),(w,((0:Int),([]:LI))))),((4:Int),(((0:Int),([]:LI)),(w,(i,([]:LI)))))])++[((5:Int),(((0:Int),([]:LI)),(w,((0:Int),(ret31v.1.getD (((script.length:Int)+(1:Int))).toNat zT).2.2)))),((4:Int),(((0:Int),([]:LI)),(w,((i+(1:Int)),([]:LI)))))]).length:Int))))&&(decide ((ret108v.1.getD (((script.length:Int)+(2:Int))).toNat zT).1=(0:Int))))&&(decide ((ret108v.1.getD (((script.length:Int)+(2:Int))).toNat zT).2.1=i)))=true→inIdx ((script.length:Int)+(3:Int)) ret108v.1.length)∧((((((decide (ret108v.2=(0:Int)))&&(decide ((ret108v.1.length:Int)=((((([]:LD)++script)++[((3:Int),(((0:Int),([]:LI)),(w,((0:Int),([]:LI))))),((4:Int),(((0:Int),([]:LI)),(w,(i,([]:LI)))))])++[((5:Int),(((0:Int),([]:LI)),(w,((0:Int),(ret31v.1.getD (((script.length:Int)+(1:Int))).toNat zT).2.2)))),((4:Int),(((0:Int),([]:LI)),(w,((i+(1:Int)),([]:LI)))))]).length:Int))))&&(decide ((ret108v.1.getD (((script.length:Int)+(2:Int))).toNat zT).1=(0:Int))))&&(decide ((ret108v.1.getD (((script.length:Int)+(2:Int))).toNat zT).2.1=i)))&&((decide ((i+(1:Int))<(ret31v.1.getD ((script.length:Int)).toNat zT).2.1)) == (decide ((ret108v.1.getD (((script.length:Int)+(3:Int))).toNat zT).1=(0:Int)))))=true→InR ((script.length:Int)+(3:Int)))∧((((((decide (ret108v.2=(0:Int)))&&(decide ((ret108v.1.length:Int)=((((([]:LD)++script)++[((3:Int),(((0:Int),([]:LI)),(w,((0:Int),([]:LI))))),((4:Int),(((0:Int),([]:LI)),(w,(i,([]:LI)))))])++[((5:Int),(((0:Int),([]:LI)),(w,((0:Int),(ret31v.1.getD (((script.length:Int)+(1:Int))).toNat zT).2.2)))),((4:Int),(((0:Int),([]:LI)),(w,((i+(1:Int)),([]:LI)))))]).length:Int))))&&(decide ((ret108v.1.getD (((script.length:Int)+(2:Int))).toNat zT).1=(0:Int))))&&(decide ((ret108v.1.getD (((script.length:Int)+(2:Int))).toNat zT).2.1=i)))&&((decide ((i+(1:Int))<(ret31v.1.getD ((script.length:Int)).toNat zT).2.1)) == (decide ((ret108v.1.getD (((script.length:Int)+(3:Int))).toNat zT).1=(0:Int)))))=true→inIdx ((script.length:Int)+(3:Int)) ret108v.1.length)∧gcall (α:=Bool) (((((decide (ret108v.2=(0:Int)))&&(decide ((ret108v.1.length:Int)=((((([]:LD)++script)++[((3:Int),(((0:Int),([]:LI)),(w,((0:Int),([]:LI))))),((4:Int),(((0:Int),([]:LI)),(w,(i,([]:LI)))))])++[((5:Int),(((0:Int),([]:LI)),(w,((0:Int),(ret31v.1.getD (((script.length:Int)+(1:Int))).toNat zT).2.2)))),((4:Int),(((0:Int),([]:LI)),(w,((i+(1:Int)),([]:LI)))))]).length:Int))))&&(decide ((ret108v.1.getD (((script.length:Int)+(2:Int))).toNat zT).1=(0:Int))))&&(decide ((ret108v.1.getD (((script.length:Int)+(2:Int))).toNat zT).2.1=i)))&&((decide ((i+(1:Int))<(ret31v.1.getD ((script.length:Int)).toNat zT).2.1)) == (decide ((ret108v.1.getD (((script.length:Int)+(3:Int))).toNat zT).1=(0:Int))))) (VC15 ((ret108v.1.getD (((script.length:Int)+(3:Int))).toNat zT).2.2) ((ret31v.1.getD (((script.length:Int)+(1:Int))).toNat zT).2.2)) false (fun (ret174v:Bool)=>K ((((((decide (ret108v.2=(0:Int)))&&(decide ((ret108v.1.length:Int)=((((([]:LD)++script)++[((3:Int),(((0:Int),([]:LI)),(w,((0:Int),([]:LI))))),((4:Int),(((0:Int),([]:LI)),(w,(i,([]:LI)))))])++[((5:Int),(((0:Int),([]:LI)),(w,((0:Int),(ret31v.1.getD (((script.length:Int)+(1:Int))).toNat zT).2.2)))),((4:Int),(((0:Int),([]:LI)),(w,((i+(1:Int)),([]:LI)))))]).length:Int))))&&(decide ((ret108v.1.getD (((script.length:Int)+(2:Int))).toNat zT).1=(0:Int))))&&(decide ((ret108v.1.getD (((script.length:Int)+(2:Int))).toNat zT).2.1=i)))&&((decide ((i+(1:Int))<(ret31v.1.getD ((script.length:Int)).toNat zT).2.1)) == (decide ((ret108v.1.getD (((script.length:Int)+(3:Int))).toNat zT).1=(0:Int)))))&&(!ret174v))))))))))))))))))))))))
set_option maxHeartbeats 4000000 in
theorem link5 (k:Int) (n:Int) (script:LD) (w:LI) (i:Int) (K:Bool→Prop) (h:VC5 k n script w i K):ACalls Try.prog 5 [toV1 tI k,toV1 tI n,toV1 (.sl (.pr tI (.pr tR (.pr (.sl tI) tR)))) script,toV1 (.sl tI) w,toV1 tI i] (fun res=>∃ y,res=(fun y=>[toV1 .bool y]) y∧K y):=by
 refine acalls_of_aw [.bool] [.t 10] Try.func5 rfl rfl rfl ?_
 unfold VC5 at h
 refine sr ?_
 refine rqT 1 ⟨177,[sI 0 k,sI 1 n,e5a4 script,e5a13 w,sI 4 i],[]⟩ (by kernel_rfl) ?_
 refine nsr ?_
 obtain ⟨o1,o2,h⟩:=h
 refine rq 11 (ob:=(Ts 2 (roomW 96 (([]:LD).length+script.length)∧Ts 6 (roomW 96 ((([]:LD)++script).length+[((3:Int),(((0:Int),([]:LI)),(w,((0:Int),([]:LI))))),((4:Int),(((0:Int),([]:LI)),(w,(i,([]:LI)))))].length)∧Ts 1 True)))) (st':=(⟨177,[sI 0 k,sI 1 n,e5a4 script,e5a13 w,sI 4 i,s1 11 (.own 26)],[e5a7 script w i]⟩:St)) (by kernel_rfl) (tsI 2 (⟨o1,tsI 6 ⟨o2,tsI 1 trivial⟩⟩)) ?_
 refine nsr ?_
 refine rqT 3 ⟨177,[sI 0 k,sI 1 n,e5a4 script,e5a13 w,sI 4 i,s1 11 (.own 26),sI 28 k,sI 29 n,s1 30 (.own 26)],[e5a7 script w i]⟩ (by kernel_rfl) ?_
 refine awl_conv [.ren 26 70200] (st':=(⟨177,[sI 0 k,sI 1 n,e5a4 script,e5a13 w,sI 4 i,e5a9,sI 28 k,sI 29 n,s1 30 (.own 70200)],[e5a1 script w i]⟩:St)) (by kernel_rfl) ?_
 refine awl_lcall (σ:=LO×Int) [70200] [70200] [.c (.pI k),.c (.pI n),.c (.own 70200)] [] (fun ret31v=>.tup [.c (.p (.sl (.pr tI tR)) ret31v.1),.c (.pI ret31v.2)]) (fun ret31v=>[e5a1 script w i]) (_) [e5a1 script w i] (fun ret31v=>(⟨177,[e5a12 ret31v,sI 0 k,sI 1 n,e5a4 script,e5a13 w,sI 4 i,e5a9,sI 28 k,sI 29 n,s1 30 (.own 70200)],[e5a1 script w i]⟩:St)) rfl rfl (by kernel_rfl) rfl (by kernel_rfl) Try.call13 (by kernel_rfl) (by kernel_rfl) (by kernel_rfl) (fun _ _=>rfl) (fun _=>by kernel_rfl) (linkcr13 ((([]:LD)++script)++[((3:Int),(((0:Int),([]:LI)),(w,((0:Int),([]:LI))))),((4:Int),(((0:Int),([]:LI)),(w,(i,([]:LI)))))]) k n _ h) (fun ret31v h=>?_)
 refine lpr (st':=(⟨177,[sI 0 k,sI 1 n,e5a4 script,e5a13 w,sI 4 i,e5a9,e5a12 ret31v],[e5a1 script w i]⟩:St)) (by kernel_rfl) ?_
 refine rqT 5 ⟨177,[sI 0 k,sI 1 n,e5a4 script,e5a13 w,sI 4 i,e5a9,e5a8 ret31v,sI 13 ret31v.2],[e5a1 script w i]⟩ (by kernel_rfl) ?_
 refine nn ?_
 refine aw_seq ?_
 refine sr ?_
 refine rqT 3 ⟨177,[sI 0 k,sI 1 n,e5a4 script,e5a13 w,sI 4 i,e5a9,e5a8 ret31v,sI 13 ret31v.2,sI 34 k,sI 35 n,s1 36 (.own 70200)],[e5a1 script w i]⟩ (by kernel_rfl) ?_
 refine awl_callk (p:=[]) (l:=[toV1 tI k,toV1 tI n,toV1 (.sl (.pr tI (.pr tR (.pr (.sl tI) tR)))) ((([]:LD)++script)++[((3:Int),(((0:Int),([]:LI)),(w,((0:Int),([]:LI))))),((4:Int),(((0:Int),([]:LI)),(w,(i,([]:LI)))))])]) (cl:=[]) true [.d tI,.d tI,.d (.sl (.pr tI (.pr tR (.pr (.sl tI) tR))))] [0,1,2,3,4,11,12,13,37] [70200] (fun (ret37v:Bool)=>(((!ret37v)=true→K (!decide (ret31v.2=(0:Int))))∧((!ret37v)=false→((((!decide (ret31v.2=(0:Int)))||(!decide ((ret31v.1.length:Int)=(((([]:LD)++script)++[((3:Int),(((0:Int),([]:LI)),(w,((0:Int),([]:LI))))),((4:Int),(((0:Int),([]:LI)),(w,(i,([]:LI)))))]).length:Int))))=true→K false)∧(((!decide (ret31v.2=(0:Int)))||(!decide ((ret31v.1.length:Int)=(((([]:LD)++script)++[((3:Int),(((0:Int),([]:LI)),(w,((0:Int),([]:LI))))),((4:Int),(((0:Int),([]:LI)),(w,(i,([]:LI)))))]).length:Int))))=false→(inIdx (script.length:Int) ret31v.1.length∧(InR ((script.length:Int)+(1:Int))∧inIdx ((script.length:Int)+(1:Int)) ret31v.1.length∧(((!decide ((ret31v.1.getD ((script.length:Int)).toNat zT).1=(0:Int)))=true→K (decide ((ret31v.1.getD (((script.length:Int)+(1:Int))).toNat zT).1=(ret31v.1.getD ((script.length:Int)).toNat zT).1)))∧((!decide ((ret31v.1.getD ((script.length:Int)).toNat zT).1=(0:Int)))=false→((((decide ((ret31v.1.getD (((script.length:Int)+(1:Int))).toNat zT).1=(0:Int))) != ((decide ((0:Int)≤i))&&(decide (i<(ret31v.1.getD ((script.length:Int)).toNat zT).2.1))))=true→K false)∧(((decide ((ret31v.1.getD (((script.length:Int)+(1:Int))).toNat zT).1=(0:Int))) != ((decide ((0:Int)≤i))&&(decide (i<(ret31v.1.getD ((script.length:Int)).toNat zT).2.1))))=false→(((!decide ((ret31v.1.getD (((script.length:Int)+(1:Int))).toNat zT).1=(0:Int)))=true→K ((decide ((ret31v.1.getD (((script.length:Int)+(1:Int))).toNat zT).1=(5:Int)))&&(decide ((((ret31v.1.getD (((script.length:Int)+(1:Int))).toNat zT).2.2).length:Int)=(0:Int)))))∧((!decide ((ret31v.1.getD (((script.length:Int)+(1:Int))).toNat zT).1=(0:Int)))=false→(InR (i+(1:Int))∧roomW 96 (((([]:LD)++script)++[((3:Int),(((0:Int),([]:LI)),(w,((0:Int),([]:LI))))),((4:Int),(((0:Int),([]:LI)),(w,(i,([]:LI)))))]).length+[((5:Int),(((0:Int),([]:LI)),(w,((0:Int),(ret31v.1.getD (((script.length:Int)+(1:Int))).toNat zT).2.2)))),((4:Int),(((0:Int),([]:LI)),(w,((i+(1:Int)),([]:LI)))))].length)∧VCcr13 (((([]:LD)++script)++[((3:Int),(((0:Int),([]:LI)),(w,((0:Int),([]:LI))))),((4:Int),(((0:Int),([]:LI)),(w,(i,([]:LI)))))])++[((5:Int),(((0:Int),([]:LI)),(w,((0:Int),(ret31v.1.getD (((script.length:Int)+(1:Int))).toNat zT).2.2)))),((4:Int),(((0:Int),([]:LI)),(w,((i+(1:Int)),([]:LI)))))]) k n (fun (ret108v:LO×Int)=>VC14 k n (((([]:LD)++script)++[((3:Int),(((0:Int),([]:LI)),(w,((0:Int),([]:LI))))),((4:Int),(((0:Int),([]:LI)),(w,(i,([]:LI)))))])++[((5:Int),(((0:Int),([]:LI)),(w,((0:Int),(ret31v.1.getD (((script.length:Int)+(1:Int))).toNat zT).2.2)))),((4:Int),(((0:Int),([]:LI)),(w,((i+(1:Int)),([]:LI)))))]) (fun (ret114v:Bool)=>(((!ret114v)=true→K (!decide (ret108v.2=(0:Int))))∧((!ret114v)=false→((((decide (ret108v.2=(0:Int)))&&(decide ((ret108v.1.length:Int)=((((([]:LD)++script)++[((3:Int),(((0:Int),([]:LI)),(w,((0:Int),([]:LI))))),((4:Int),(((0:Int),([]:LI)),(w,(i,([]:LI)))))])++[((5:Int),(((0:Int),([]:LI)),(w,((0:Int),(ret31v.1.getD (((script.length:Int)+(1:Int))).toNat zT).2.2)))),((4:Int),(((0:Int),([]:LI)),(w,((i+(1:Int)),([]:LI)))))]).length:Int))))=true→InR ((script.length:Int)+(2:Int)))∧(((decide (ret108v.2=(0:Int)))&&(decide ((ret108v.1.length:Int)=((((([]:LD)++script)++[((3:Int),(((0:Int),([]:LI)),(w,((0:Int),([]:LI))))),((4:Int),(((0:Int),([]:LI)),(w,(i,([]:LI)))))])++[((5:Int),(((0:Int),([]:LI)),(w,((0:Int),(ret31v.1.getD (((script.length:Int)+(1:Int))).toNat zT).2.2)))),((4:Int),(((0:Int),([]:LI)),(w,((i+(1:Int)),([]:LI)))))]).length:Int))))=true→inIdx ((script.length:Int)+(2:Int)) ret108v.1.length)∧((((decide (ret108v.2=(0:Int)))&&(decide ((ret108v.1.length:Int)=((((([]:LD)++script)++[((3:Int),(((0:Int),([]:LI)),(w,((0:Int),([]:LI))))),((4:Int),(((0:Int),([]:LI)),(w,(i,([]:LI)))))])++[((5:Int),(((0:Int),([]:LI)),(w,((0:Int),(ret31v.1.getD (((script.length:Int)+(1:Int))).toNat zT).2.2)))),((4:Int),(((0:Int),([]:LI)),(w,((i+(1:Int)),([]:LI)))))]).length:Int))))&&(decide ((ret108v.1.getD (((script.length:Int)+(2:Int))).toNat zT).1=(0:Int))))=true→InR ((script.length:Int)+(2:Int)))∧((((decide (ret108v.2=(0:Int)))&&(decide ((ret108v.1.length:Int)=((((([]:LD)++script)++[((3:Int),(((0:Int),([]:LI)),(w,((0:Int),([]:LI))))),((4:Int),(((0:Int),([]:LI)),(w,(i,([]:LI)))))])++[((5:Int),(((0:Int),([]:LI)),(w,((0:Int),(ret31v.1.getD (((script.length:Int)+(1:Int))).toNat zT).2.2)))),((4:Int),(((0:Int),([]:LI)),(w,((i+(1:Int)),([]:LI)))))]).length:Int))))&&(decide ((ret108v.1.getD (((script.length:Int)+(2:Int))).toNat zT).1=(0:Int))))=true→inIdx ((script.length:Int)+(2:Int)) ret108v.1.length)∧(((((decide (ret108v.2=(0:Int)))&&(decide ((ret108v.1.length:Int)=((((([]:LD)++script)++[((3:Int),(((0:Int),([]:LI)),(w,((0:Int),([]:LI))))),((4:Int),(((0:Int),([]:LI)),(w,(i,([]:LI)))))])++[((5:Int),(((0:Int),([]:LI)),(w,((0:Int),(ret31v.1.getD (((script.length:Int)+(1:Int))).toNat zT).2.2)))),((4:Int),(((0:Int),([]:LI)),(w,((i+(1:Int)),([]:LI)))))]).length:Int))))&&(decide ((ret108v.1.getD (((script.length:Int)+(2:Int))).toNat zT).1=(0:Int))))&&(decide ((ret108v.1.getD (((script.length:Int)+(2:Int))).toNat zT).2.1=i)))=true→InR (i+(1:Int)))∧(((((decide (ret108v.2=(0:Int)))&&(decide ((ret108v.1.length:Int)=((((([]:LD)++script)++[((3:Int),(((0:Int),([]:LI)),(w,((0:Int),([]:LI))))),((4:Int),(((0:Int),([]:LI)),(w,(i,([]:LI)))))])++[((5:Int),(((0:Int),([]:LI)),(w,((0:Int),(ret31v.1.getD (((script.length:Int)+(1:Int))).toNat zT).2.2)))),((4:Int),(((0:Int),([]:LI)),(w,((i+(1:Int)),([]:LI)))))]).length:Int))))&&(decide ((ret108v.1.getD (((script.length:Int)+(2:Int))).toNat zT).1=(0:Int))))&&(decide ((ret108v.1.getD (((script.length:Int)+(2:Int))).toNat zT).2.1=i)))=true→InR ((script.length:Int)+(3:Int)))∧(((((decide (ret108v.2=(0:Int)))&&(decide ((ret108v.1.length:Int)=((((([]:LD)++script)++[((3:Int),(((0:Int),([]:LI)),(w,((0:Int),([]:LI))))),((4:Int),(((0:Int),([]:LI)),(w,(i,([]:LI)))))])++[((5:Int),(((0:Int),([]:LI)),(w,((0:Int),(ret31v.1.getD (((script.length:Int)+(1:Int))).toNat zT).2.2)))),((4:Int),(((0:Int),([]:LI)),(w,((i+(1:Int)),([]:LI)))))]).length:Int))))&&(decide ((ret108v.1.getD (((script.length:Int)+(2:Int))).toNat zT).1=(0:Int))))&&(decide ((ret108v.1.getD (((script.length:Int)+(2:Int))).toNat zT).2.1=i)))=true→inIdx ((script.length:Int)+(3:Int)) ret108v.1.length)∧((((((decide (ret108v.2=(0:Int)))&&(decide ((ret108v.1.length:Int)=((((([]:LD)++script)++[((3:Int),(((0:Int),([]:LI)),(w,((0:Int),([]:LI))))),((4:Int),(((0:Int),([]:LI)),(w,(i,([]:LI)))))])++[((5:Int),(((0:Int),([]:LI)),(w,((0:Int),(ret31v.1.getD (((script.length:Int)+(1:Int))).toNat zT).2.2)))),((4:Int),(((0:Int),([]:LI)),(w,((i+(1:Int)),([]:LI)))))]).length:Int))))&&(decide ((ret108v.1.getD (((script.length:Int)+(2:Int))).toNat zT).1=(0:Int))))&&(decide ((ret108v.1.getD (((script.length:Int)+(2:Int))).toNat zT).2.1=i)))&&((decide ((i+(1:Int))<(ret31v.1.getD ((script.length:Int)).toNat zT).2.1)) == (decide ((ret108v.1.getD (((script.length:Int)+(3:Int))).toNat zT).1=(0:Int)))))=true→InR ((script.length:Int)+(3:Int)))∧((((((decide (ret108v.2=(0:Int)))&&(decide ((ret108v.1.length:Int)=((((([]:LD)++script)++[((3:Int),(((0:Int),([]:LI)),(w,((0:Int),([]:LI))))),((4:Int),(((0:Int),([]:LI)),(w,(i,([]:LI)))))])++[((5:Int),(((0:Int),([]:LI)),(w,((0:Int),(ret31v.1.getD (((script.length:Int)+(1:Int))).toNat zT).2.2)))),((4:Int),(((0:Int),([]:LI)),(w,((i+(1:Int)),([]:LI)))))]).length:Int))))&&(decide ((ret108v.1.getD (((script.length:Int)+(2:Int))).toNat zT).1=(0:Int))))&&(decide ((ret108v.1.getD (((script.length:Int)+(2:Int))).toNat zT).2.1=i)))&&((decide ((i+(1:Int))<(ret31v.1.getD ((script.length:Int)).toNat zT).2.1)) == (decide ((ret108v.1.getD (((script.length:Int)+(3:Int))).toNat zT).1=(0:Int)))))=true→inIdx ((script.length:Int)+(3:Int)) ret108v.1.length)∧gcall (α:=Bool) (((((decide (ret108v.2=(0:Int)))&&(decide ((ret108v.1.length:Int)=((((([]:LD)++script)++[((3:Int),(((0:Int),([]:LI)),(w,((0:Int),([]:LI))))),((4:Int),(((0:Int),([]:LI)),(w,(i,([]:LI)))))])++[((5:Int),(((0:Int),([]:LI)),(w,((0:Int),(ret31v.1.getD (((script.length:Int)+(1:Int))).toNat zT).2.2)))),((4:Int),(((0:Int),([]:LI)),(w,((i+(1:Int)),([]:LI)))))]).length:Int))))&&(decide ((ret108v.1.getD (((script.length:Int)+(2:Int))).toNat zT).1=(0:Int))))&&(decide ((ret108v.1.getD (((script.length:Int)+(2:Int))).toNat zT).2.1=i)))&&((decide ((i+(1:Int))<(ret31v.1.getD ((script.length:Int)).toNat zT).2.1)) == (decide ((ret108v.1.getD (((script.length:Int)+(3:Int))).toNat zT).1=(0:Int))))) (VC15 ((ret108v.1.getD (((script.length:Int)+(3:Int))).toNat zT).2.2) ((ret31v.1.getD (((script.length:Int)+(1:Int))).toNat zT).2.2)) false (fun (ret174v:Bool)=>K ((((((decide (ret108v.2=(0:Int)))&&(decide ((ret108v.1.length:Int)=((((([]:LD)++script)++[((3:Int),(((0:Int),([]:LI)),(w,((0:Int),([]:LI))))),((4:Int),(((0:Int),([]:LI)),(w,(i,([]:LI)))))])++[((5:Int),(((0:Int),([]:LI)),(w,((0:Int),(ret31v.1.getD (((script.length:Int)+(1:Int))).toNat zT).2.2)))),((4:Int),(((0:Int),([]:LI)),(w,((i+(1:Int)),([]:LI)))))]).length:Int))))&&(decide ((ret108v.1.getD (((script.length:Int)+(2:Int))).toNat zT).1=(0:Int))))&&(decide ((ret108v.1.getD (((script.length:Int)+(2:Int))).toNat zT).2.1=i)))&&((decide ((i+(1:Int))<(ret31v.1.getD ((script.length:Int)).toNat zT).2.1)) == (decide ((ret108v.1.getD (((script.length:Int)+(3:Int))).toNat zT).1=(0:Int)))))&&(!ret174v)))))))))))))))))))))) (fun ret37v=>[toV1 .bool ret37v]) (fun ret37v=>(⟨177,[sI 0 k,sI 1 n,e5a4 script,e5a13 w,sI 4 i,e5a9,e5a8 ret31v,sI 13 ret31v.2,sB 37 ret37v],[e5a1 script w i]⟩:St)) (by kernel_rfl) rfl (by kernel_rfl) rfl (by kernel_rfl) Try.call14 (by kernel_rfl) (fun ret37v=>by kernel_rfl) (fun _ _=>rfl) (fun hg=>link14 k n ((([]:LD)++script)++[((3:Int),(((0:Int),([]:LI)),(w,((0:Int),([]:LI))))),((4:Int),(((0:Int),([]:LI)),(w,(i,([]:LI)))))]) _ h) (fun hg=>noF hg) (fun ret37v h=>?_)
 refine rqT 1 ⟨177,[sI 0 k,sI 1 n,e5a4 script,e5a13 w,sI 4 i,e5a9,e5a8 ret31v,sI 13 ret31v.2,sB 38 (!ret37v)],[e5a1 script w i]⟩ (by kernel_rfl) ?_
 refine nn ?_
 refine aw_cond (b:=(!ret37v)) (by kernel_rfl) (fun hb=>?_) (fun hb=>?_)
 ·have h:=h.1 hb
  refine srn 3 ⟨177,[sB 10 (!decide (ret31v.2=(0:Int)))],[]⟩ (by kernel_rfl) rfl ?_
  refine aw_ret ?_
  refine thenQ_r ?_
  exact retQ_r (ob:=Ts 1 True) _ (by kernel_rfl) (tsI 1 trivial) h
 ·have h:=h.2 hb
  refine aw_skip ?_
  refine thenQ_n ?_
  refine aw_seq ?_
  refine sr ?_
  refine rq 9 (ob:=(Ts 3 (Ti 5 ((!decide (ret31v.2=(0:Int)))=false→True) (Ts 1 True)))) (st':=(⟨177,[sI 0 k,sI 1 n,e5a4 script,e5a13 w,sI 4 i,e5a9,e5a8 ret31v,sB 49 ((!decide (ret31v.2=(0:Int)))||(!decide ((ret31v.1.length:Int)=(((([]:LD)++script)++[((3:Int),(((0:Int),([]:LI)),(w,((0:Int),([]:LI))))),((4:Int),(((0:Int),([]:LI)),(w,(i,([]:LI)))))]).length:Int))))],[e5a1 script w i]⟩:St)) (by kernel_rfl) (tsI 3 (tiI 5 (fun _=>trivial) (tsI 1 trivial))) ?_
  refine nn ?_
  refine aw_cond (b:=((!decide (ret31v.2=(0:Int)))||(!decide ((ret31v.1.length:Int)=(((([]:LD)++script)++[((3:Int),(((0:Int),([]:LI)),(w,((0:Int),([]:LI))))),((4:Int),(((0:Int),([]:LI)),(w,(i,([]:LI)))))]).length:Int))))) (by kernel_rfl) (fun hb=>?_) (fun hb=>?_)
  ·have h:=h.1 hb
   refine srn 1 ⟨177,[sB 10 false],[]⟩ (by kernel_rfl) rfl ?_
   refine aw_ret ?_
   refine thenQ_r ?_
   exact retQ_r (ob:=Ts 1 True) _ (by kernel_rfl) (tsI 1 trivial) h
  ·have h:=h.2 hb
   refine aw_skip ?_
   refine thenQ_n ?_
   refine sr ?_
   obtain ⟨o1,h⟩:=h
   refine rq 7 (ob:=(Ts 3 (inIdx (script.length:Int) ret31v.1.length∧Ts 3 True))) (st':=(⟨177,[sI 0 k,sI 1 n,e5a4 script,e5a13 w,sI 4 i,e5a9,e5a8 ret31v,sp 14 14],[e5a3 ret31v script,e5a1 script w i]⟩:St)) (by kernel_rfl) (tsI 3 ⟨o1,tsI 3 trivial⟩) ?_
   refine nsr ?_
   obtain ⟨o1,o2,h⟩:=h
   refine rq 8 (ob:=(Ts 3 (InR ((script.length:Int)+(1:Int))∧inIdx ((script.length:Int)+(1:Int)) ret31v.1.length∧Ts 3 True))) (st':=(⟨177,[sI 0 k,sI 1 n,e5a4 script,e5a13 w,sI 4 i,e5a9,sp 14 14,sp 15 15],[e5a3 ret31v script,e5a2 ret31v script,e5a1 script w i]⟩:St)) (by kernel_rfl) (tsI 3 (⟨o1,⟨o2,tsI 3 trivial⟩⟩)) ?_
   refine nn ?_
   refine aw_seq ?_
   refine srn 3 ⟨177,[sI 0 k,sI 1 n,e5a4 script,e5a13 w,sI 4 i,e5a9,sp 14 14,sp 15 15,sB 63 (!decide ((ret31v.1.getD ((script.length:Int)).toNat zT).1=(0:Int)))],[e5a3 ret31v script,e5a2 ret31v script,e5a1 script w i]⟩ (by kernel_rfl) rfl ?_
   refine aw_cond (b:=(!decide ((ret31v.1.getD ((script.length:Int)).toNat zT).1=(0:Int)))) (by kernel_rfl) (fun hb=>?_) (fun hb=>?_)
   ·have h:=h.1 hb
    refine srn 6 ⟨177,[sB 10 (decide ((ret31v.1.getD (((script.length:Int)+(1:Int))).toNat zT).1=(ret31v.1.getD ((script.length:Int)).toNat zT).1))],[]⟩ (by kernel_rfl) rfl ?_
    refine aw_ret ?_
    refine thenQ_r ?_
    exact retQ_r (ob:=Ts 1 True) _ (by kernel_rfl) (tsI 1 trivial) h
   ·have h:=h.2 hb
    refine aw_skip ?_
    refine thenQ_n ?_
    refine aw_seq ?_
    refine sr ?_
    refine rq 12 (ob:=(Ts 6 (Ti 4 ((decide ((0:Int)≤i))=true→True) (Ts 2 True)))) (st':=(⟨177,[sI 0 k,sI 1 n,e5a4 script,e5a13 w,sI 4 i,e5a9,sp 14 14,sp 15 15,sB 80 ((decide ((ret31v.1.getD (((script.length:Int)+(1:Int))).toNat zT).1=(0:Int))) != ((decide ((0:Int)≤i))&&(decide (i<(ret31v.1.getD ((script.length:Int)).toNat zT).2.1))))],[e5a3 ret31v script,e5a2 ret31v script,e5a1 script w i]⟩:St)) (by kernel_rfl) (tsI 6 (tiI 4 (fun _=>trivial) (tsI 2 trivial))) ?_
    refine nn ?_
    refine aw_cond (b:=((decide ((ret31v.1.getD (((script.length:Int)+(1:Int))).toNat zT).1=(0:Int))) != ((decide ((0:Int)≤i))&&(decide (i<(ret31v.1.getD ((script.length:Int)).toNat zT).2.1))))) (by kernel_rfl) (fun hb=>?_) (fun hb=>?_)
    ·have h:=h.1 hb
     refine srn 1 ⟨177,[sB 10 false],[]⟩ (by kernel_rfl) rfl ?_
     refine aw_ret ?_
     refine thenQ_r ?_
     exact retQ_r (ob:=Ts 1 True) _ (by kernel_rfl) (tsI 1 trivial) h
    ·have h:=h.2 hb
     refine aw_skip ?_
     refine thenQ_n ?_
     refine aw_seq ?_
     refine srn 3 ⟨177,[sI 0 k,sI 1 n,e5a4 script,e5a13 w,sI 4 i,e5a9,sp 14 14,sp 15 15,sB 83 (!decide ((ret31v.1.getD (((script.length:Int)+(1:Int))).toNat zT).1=(0:Int)))],[e5a3 ret31v script,e5a2 ret31v script,e5a1 script w i]⟩ (by kernel_rfl) rfl ?_
     refine aw_cond (b:=(!decide ((ret31v.1.getD (((script.length:Int)+(1:Int))).toNat zT).1=(0:Int)))) (by kernel_rfl) (fun hb=>?_) (fun hb=>?_)
     ·have h:=h.1 hb
      refine sr ?_
      refine rq 10 (ob:=(Ts 4 (Ti 4 ((decide ((ret31v.1.getD (((script.length:Int)+(1:Int))).toNat zT).1=(5:Int)))=true→True) (Ts 2 True)))) (st':=(⟨177,[sB 10 ((decide ((ret31v.1.getD (((script.length:Int)+(1:Int))).toNat zT).1=(5:Int)))&&(decide ((((ret31v.1.getD (((script.length:Int)+(1:Int))).toNat zT).2.2).length:Int)=(0:Int))))],[]⟩:St)) (by kernel_rfl) (tsI 4 (tiI 4 (fun _=>trivial) (tsI 2 trivial))) ?_
      refine nn ?_
      refine aw_ret ?_
      refine thenQ_r ?_
      exact retQ_r (ob:=Ts 1 True) _ (by kernel_rfl) (tsI 1 trivial) h
     ·have h:=h.2 hb
      refine aw_skip ?_
      refine thenQ_n ?_
      refine sr ?_
      obtain ⟨o1,o2,h⟩:=h
      refine rq 12 (ob:=(Ts 7 (InR (i+(1:Int))∧Ts 2 (roomW 96 (((([]:LD)++script)++[((3:Int),(((0:Int),([]:LI)),(w,((0:Int),([]:LI))))),((4:Int),(((0:Int),([]:LI)),(w,(i,([]:LI)))))]).length+[((5:Int),(((0:Int),([]:LI)),(w,((0:Int),(ret31v.1.getD (((script.length:Int)+(1:Int))).toNat zT).2.2)))),((4:Int),(((0:Int),([]:LI)),(w,((i+(1:Int)),([]:LI)))))].length)∧Ts 1 True)))) (st':=(⟨177,[sI 0 k,sI 1 n,e5a4 script,sI 4 i,s1 11 (.own 103),sp 14 14,sp 15 15],[e5a3 ret31v script,e5a2 ret31v script,e5a6 script w i ret31v]⟩:St)) (by kernel_rfl) (tsI 7 (⟨o1,tsI 2 ⟨o2,tsI 1 trivial⟩⟩)) ?_
      refine nsr ?_
      refine rqT 3 ⟨177,[sI 0 k,sI 1 n,e5a4 script,sI 4 i,s1 11 (.own 103),sp 14 14,sp 15 15,sI 105 k,sI 106 n,s1 107 (.own 103)],[e5a3 ret31v script,e5a2 ret31v script,e5a6 script w i ret31v]⟩ (by kernel_rfl) ?_
      refine awl_conv [.ren 103 70200] (st':=(⟨177,[sI 0 k,sI 1 n,e5a4 script,sI 4 i,e5a9,sp 14 14,sp 15 15,sI 105 k,sI 106 n,s1 107 (.own 70200)],[e5a3 ret31v script,e5a2 ret31v script,e5a0 script w i ret31v]⟩:St)) (by kernel_rfl) ?_
      refine awl_lcall (σ:=LO×Int) [70200] [70200] [.c (.pI k),.c (.pI n),.c (.own 70200)] [] (fun ret108v=>.tup [.c (.p (.sl (.pr tI tR)) ret108v.1),.c (.pI ret108v.2)]) (fun ret108v=>[e5a0 script w i ret31v]) (_) [e5a0 script w i ret31v] (fun ret108v=>(⟨177,[e5a11 ret108v,sI 0 k,sI 1 n,e5a4 script,sI 4 i,e5a9,sp 14 14,sp 15 15,sI 105 k,sI 106 n,s1 107 (.own 70200)],[e5a0 script w i ret31v,e5a3 ret31v script,e5a2 ret31v script]⟩:St)) rfl rfl (by kernel_rfl) rfl (by kernel_rfl) Try.call13 (by kernel_rfl) (by kernel_rfl) (by kernel_rfl) (fun _ _=>rfl) (fun _=>by kernel_rfl) (linkcr13 (((([]:LD)++script)++[((3:Int),(((0:Int),([]:LI)),(w,((0:Int),([]:LI))))),((4:Int),(((0:Int),([]:LI)),(w,(i,([]:LI)))))])++[((5:Int),(((0:Int),([]:LI)),(w,((0:Int),(ret31v.1.getD (((script.length:Int)+(1:Int))).toNat zT).2.2)))),((4:Int),(((0:Int),([]:LI)),(w,((i+(1:Int)),([]:LI)))))]) k n _ h) (fun ret108v h=>?_)
      refine lpr (st':=(⟨177,[sI 0 k,sI 1 n,e5a4 script,sI 4 i,e5a9,sp 14 14,sp 15 15,e5a11 ret108v],[e5a3 ret31v script,e5a2 ret31v script,e5a0 script w i ret31v]⟩:St)) (by kernel_rfl) ?_
      refine rqT 5 ⟨177,[sI 0 k,sI 1 n,e5a4 script,sI 4 i,e5a9,sI 13 ret108v.2,sp 14 14,sp 15 15,e5a10 ret108v],[e5a3 ret31v script,e5a2 ret31v script,e5a0 script w i ret31v]⟩ (by kernel_rfl) ?_
      refine nn ?_
      refine aw_seq ?_
      refine sr ?_
      refine rqT 3 ⟨177,[e5a4 script,sI 4 i,e5a9,sI 13 ret108v.2,sp 14 14,sp 15 15,e5a10 ret108v,sI 111 k,sI 112 n,s1 113 (.own 70200)],[e5a3 ret31v script,e5a2 ret31v script,e5a0 script w i ret31v]⟩ (by kernel_rfl) ?_
      refine awl_callk (p:=[]) (l:=[toV1 tI k,toV1 tI n,toV1 (.sl (.pr tI (.pr tR (.pr (.sl tI) tR)))) (((([]:LD)++script)++[((3:Int),(((0:Int),([]:LI)),(w,((0:Int),([]:LI))))),((4:Int),(((0:Int),([]:LI)),(w,(i,([]:LI)))))])++[((5:Int),(((0:Int),([]:LI)),(w,((0:Int),(ret31v.1.getD (((script.length:Int)+(1:Int))).toNat zT).2.2)))),((4:Int),(((0:Int),([]:LI)),(w,((i+(1:Int)),([]:LI)))))])]) (cl:=[]) true [.d tI,.d tI,.d (.sl (.pr tI (.pr tR (.pr (.sl tI) tR))))] [2,4,11,13,14,15,16,114] [14,15,70200] (fun (ret114v:Bool)=>(((!ret114v)=true→K (!decide (ret108v.2=(0:Int))))∧((!ret114v)=false→((((decide (ret108v.2=(0:Int)))&&(decide ((ret108v.1.length:Int)=((((([]:LD)++script)++[((3:Int),(((0:Int),([]:LI)),(w,((0:Int),([]:LI))))),((4:Int),(((0:Int),([]:LI)),(w,(i,([]:LI)))))])++[((5:Int),(((0:Int),([]:LI)),(w,((0:Int),(ret31v.1.getD (((script.length:Int)+(1:Int))).toNat zT).2.2)))),((4:Int),(((0:Int),([]:LI)),(w,((i+(1:Int)),([]:LI)))))]).length:Int))))=true→InR ((script.length:Int)+(2:Int)))∧(((decide (ret108v.2=(0:Int)))&&(decide ((ret108v.1.length:Int)=((((([]:LD)++script)++[((3:Int),(((0:Int),([]:LI)),(w,((0:Int),([]:LI))))),((4:Int),(((0:Int),([]:LI)),(w,(i,([]:LI)))))])++[((5:Int),(((0:Int),([]:LI)),(w,((0:Int),(ret31v.1.getD (((script.length:Int)+(1:Int))).toNat zT).2.2)))),((4:Int),(((0:Int),([]:LI)),(w,((i+(1:Int)),([]:LI)))))]).length:Int))))=true→inIdx ((script.length:Int)+(2:Int)) ret108v.1.length)∧((((decide (ret108v.2=(0:Int)))&&(decide ((ret108v.1.length:Int)=((((([]:LD)++script)++[((3:Int),(((0:Int),([]:LI)),(w,((0:Int),([]:LI))))),((4:Int),(((0:Int),([]:LI)),(w,(i,([]:LI)))))])++[((5:Int),(((0:Int),([]:LI)),(w,((0:Int),(ret31v.1.getD (((script.length:Int)+(1:Int))).toNat zT).2.2)))),((4:Int),(((0:Int),([]:LI)),(w,((i+(1:Int)),([]:LI)))))]).length:Int))))&&(decide ((ret108v.1.getD (((script.length:Int)+(2:Int))).toNat zT).1=(0:Int))))=true→InR ((script.length:Int)+(2:Int)))∧((((decide (ret108v.2=(0:Int)))&&(decide ((ret108v.1.length:Int)=((((([]:LD)++script)++[((3:Int),(((0:Int),([]:LI)),(w,((0:Int),([]:LI))))),((4:Int),(((0:Int),([]:LI)),(w,(i,([]:LI)))))])++[((5:Int),(((0:Int),([]:LI)),(w,((0:Int),(ret31v.1.getD (((script.length:Int)+(1:Int))).toNat zT).2.2)))),((4:Int),(((0:Int),([]:LI)),(w,((i+(1:Int)),([]:LI)))))]).length:Int))))&&(decide ((ret108v.1.getD (((script.length:Int)+(2:Int))).toNat zT).1=(0:Int))))=true→inIdx ((script.length:Int)+(2:Int)) ret108v.1.length)∧(((((decide (ret108v.2=(0:Int)))&&(decide ((ret108v.1.length:Int)=((((([]:LD)++script)++[((3:Int),(((0:Int),([]:LI)),(w,((0:Int),([]:LI))))),((4:Int),(((0:Int),([]:LI)),(w,(i,([]:LI)))))])++[((5:Int),(((0:Int),([]:LI)),(w,((0:Int),(ret31v.1.getD (((script.length:Int)+(1:Int))).toNat zT).2.2)))),((4:Int),(((0:Int),([]:LI)),(w,((i+(1:Int)),([]:LI)))))]).length:Int))))&&(decide ((ret108v.1.getD (((script.length:Int)+(2:Int))).toNat zT).1=(0:Int))))&&(decide ((ret108v.1.getD (((script.length:Int)+(2:Int))).toNat zT).2.1=i)))=true→InR (i+(1:Int)))∧(((((decide (ret108v.2=(0:Int)))&&(decide ((ret108v.1.length:Int)=((((([]:LD)++script)++[((3:Int),(((0:Int),([]:LI)),(w,((0:Int),([]:LI))))),((4:Int),(((0:Int),([]:LI)),(w,(i,([]:LI)))))])++[((5:Int),(((0:Int),([]:LI)),(w,((0:Int),(ret31v.1.getD (((script.length:Int)+(1:Int))).toNat zT).2.2)))),((4:Int),(((0:Int),([]:LI)),(w,((i+(1:Int)),([]:LI)))))]).length:Int))))&&(decide ((ret108v.1.getD (((script.length:Int)+(2:Int))).toNat zT).1=(0:Int))))&&(decide ((ret108v.1.getD (((script.length:Int)+(2:Int))).toNat zT).2.1=i)))=true→InR ((script.length:Int)+(3:Int)))∧(((((decide (ret108v.2=(0:Int)))&&(decide ((ret108v.1.length:Int)=((((([]:LD)++script)++[((3:Int),(((0:Int),([]:LI)),(w,((0:Int),([]:LI))))),((4:Int),(((0:Int),([]:LI)),(w,(i,([]:LI)))))])++[((5:Int),(((0:Int),([]:LI)),(w,((0:Int),(ret31v.1.getD (((script.length:Int)+(1:Int))).toNat zT).2.2)))),((4:Int),(((0:Int),([]:LI)),(w,((i+(1:Int)),([]:LI)))))]).length:Int))))&&(decide ((ret108v.1.getD (((script.length:Int)+(2:Int))).toNat zT).1=(0:Int))))&&(decide ((ret108v.1.getD (((script.length:Int)+(2:Int))).toNat zT).2.1=i)))=true→inIdx ((script.length:Int)+(3:Int)) ret108v.1.length)∧((((((decide (ret108v.2=(0:Int)))&&(decide ((ret108v.1.length:Int)=((((([]:LD)++script)++[((3:Int),(((0:Int),([]:LI)),(w,((0:Int),([]:LI))))),((4:Int),(((0:Int),([]:LI)),(w,(i,([]:LI)))))])++[((5:Int),(((0:Int),([]:LI)),(w,((0:Int),(ret31v.1.getD (((script.length:Int)+(1:Int))).toNat zT).2.2)))),((4:Int),(((0:Int),([]:LI)),(w,((i+(1:Int)),([]:LI)))))]).length:Int))))&&(decide ((ret108v.1.getD (((script.length:Int)+(2:Int))).toNat zT).1=(0:Int))))&&(decide ((ret108v.1.getD (((script.length:Int)+(2:Int))).toNat zT).2.1=i)))&&((decide ((i+(1:Int))<(ret31v.1.getD ((script.length:Int)).toNat zT).2.1)) == (decide ((ret108v.1.getD (((script.length:Int)+(3:Int))).toNat zT).1=(0:Int)))))=true→InR ((script.length:Int)+(3:Int)))∧((((((decide (ret108v.2=(0:Int)))&&(decide ((ret108v.1.length:Int)=((((([]:LD)++script)++[((3:Int),(((0:Int),([]:LI)),(w,((0:Int),([]:LI))))),((4:Int),(((0:Int),([]:LI)),(w,(i,([]:LI)))))])++[((5:Int),(((0:Int),([]:LI)),(w,((0:Int),(ret31v.1.getD (((script.length:Int)+(1:Int))).toNat zT).2.2)))),((4:Int),(((0:Int),([]:LI)),(w,((i+(1:Int)),([]:LI)))))]).length:Int))))&&(decide ((ret108v.1.getD (((script.length:Int)+(2:Int))).toNat zT).1=(0:Int))))&&(decide ((ret108v.1.getD (((script.length:Int)+(2:Int))).toNat zT).2.1=i)))&&((decide ((i+(1:Int))<(ret31v.1.getD ((script.length:Int)).toNat zT).2.1)) == (decide ((ret108v.1.getD (((script.length:Int)+(3:Int))).toNat zT).1=(0:Int)))))=true→inIdx ((script.length:Int)+(3:Int)) ret108v.1.length)∧gcall (α:=Bool) (((((decide (ret108v.2=(0:Int)))&&(decide ((ret108v.1.length:Int)=((((([]:LD)++script)++[((3:Int),(((0:Int),([]:LI)),(w,((0:Int),([]:LI))))),((4:Int),(((0:Int),([]:LI)),(w,(i,([]:LI)))))])++[((5:Int),(((0:Int),([]:LI)),(w,((0:Int),(ret31v.1.getD (((script.length:Int)+(1:Int))).toNat zT).2.2)))),((4:Int),(((0:Int),([]:LI)),(w,((i+(1:Int)),([]:LI)))))]).length:Int))))&&(decide ((ret108v.1.getD (((script.length:Int)+(2:Int))).toNat zT).1=(0:Int))))&&(decide ((ret108v.1.getD (((script.length:Int)+(2:Int))).toNat zT).2.1=i)))&&((decide ((i+(1:Int))<(ret31v.1.getD ((script.length:Int)).toNat zT).2.1)) == (decide ((ret108v.1.getD (((script.length:Int)+(3:Int))).toNat zT).1=(0:Int))))) (VC15 ((ret108v.1.getD (((script.length:Int)+(3:Int))).toNat zT).2.2) ((ret31v.1.getD (((script.length:Int)+(1:Int))).toNat zT).2.2)) false (fun (ret174v:Bool)=>K ((((((decide (ret108v.2=(0:Int)))&&(decide ((ret108v.1.length:Int)=((((([]:LD)++script)++[((3:Int),(((0:Int),([]:LI)),(w,((0:Int),([]:LI))))),((4:Int),(((0:Int),([]:LI)),(w,(i,([]:LI)))))])++[((5:Int),(((0:Int),([]:LI)),(w,((0:Int),(ret31v.1.getD (((script.length:Int)+(1:Int))).toNat zT).2.2)))),((4:Int),(((0:Int),([]:LI)),(w,((i+(1:Int)),([]:LI)))))]).length:Int))))&&(decide ((ret108v.1.getD (((script.length:Int)+(2:Int))).toNat zT).1=(0:Int))))&&(decide ((ret108v.1.getD (((script.length:Int)+(2:Int))).toNat zT).2.1=i)))&&((decide ((i+(1:Int))<(ret31v.1.getD ((script.length:Int)).toNat zT).2.1)) == (decide ((ret108v.1.getD (((script.length:Int)+(3:Int))).toNat zT).1=(0:Int)))))&&(!ret174v))))))) (fun ret114v=>[toV1 .bool ret114v]) (fun ret114v=>(⟨177,[e5a4 script,sI 4 i,e5a9,sI 13 ret108v.2,sp 14 14,sp 15 15,e5a10 ret108v,sB 114 ret114v],[e5a3 ret31v script,e5a2 ret31v script,e5a0 script w i ret31v]⟩:St)) (by kernel_rfl) rfl (by kernel_rfl) rfl (by kernel_rfl) Try.call14 (by kernel_rfl) (fun ret114v=>by kernel_rfl) (fun _ _=>rfl) (fun hg=>link14 k n (((([]:LD)++script)++[((3:Int),(((0:Int),([]:LI)),(w,((0:Int),([]:LI))))),((4:Int),(((0:Int),([]:LI)),(w,(i,([]:LI)))))])++[((5:Int),(((0:Int),([]:LI)),(w,((0:Int),(ret31v.1.getD (((script.length:Int)+(1:Int))).toNat zT).2.2)))),((4:Int),(((0:Int),([]:LI)),(w,((i+(1:Int)),([]:LI)))))]) _ h) (fun hg=>noF hg) (fun ret114v h=>?_)
      refine rqT 1 ⟨177,[e5a4 script,sI 4 i,e5a9,sI 13 ret108v.2,sp 14 14,sp 15 15,e5a10 ret108v,sB 115 (!ret114v)],[e5a3 ret31v script,e5a2 ret31v script,e5a0 script w i ret31v]⟩ (by kernel_rfl) ?_
      refine nn ?_
      refine aw_cond (b:=(!ret114v)) (by kernel_rfl) (fun hb=>?_) (fun hb=>?_)
      ·have h:=h.1 hb
       refine srn 3 ⟨177,[sB 10 (!decide (ret108v.2=(0:Int)))],[]⟩ (by kernel_rfl) rfl ?_
       refine aw_ret ?_
       refine thenQ_r ?_
       exact retQ_r (ob:=Ts 1 True) _ (by kernel_rfl) (tsI 1 trivial) h
      ·have h:=h.2 hb
       refine aw_skip ?_
       refine thenQ_n ?_
       refine aw_seq ?_
       refine awd_begin [] (by kernel_rfl) ?_
       obtain ⟨o1,o2,o3,o4,o5,o6,o7,o8,o9,h⟩:=h
       refine drq (by kernel_rfl) [0,1,2,3,4,5,6,7,8,9,10,11,12,13,14,15,16,17,18,19,20,21,22,23,24,25,26,27,28,29,30,31,32,33,34,35,36,37,38,39,40,41,42,43,44,45,46,47,48,49,50,51,52,53,54,55] (ob:=(Ts 3 (Ti 5 ((decide (ret108v.2=(0:Int)))=true→True) (Ts 2 (Ti 3 (((decide (ret108v.2=(0:Int)))&&(decide ((ret108v.1.length:Int)=((((([]:LD)++script)++[((3:Int),(((0:Int),([]:LI)),(w,((0:Int),([]:LI))))),((4:Int),(((0:Int),([]:LI)),(w,(i,([]:LI)))))])++[((5:Int),(((0:Int),([]:LI)),(w,((0:Int),(ret31v.1.getD (((script.length:Int)+(1:Int))).toNat zT).2.2)))),((4:Int),(((0:Int),([]:LI)),(w,((i+(1:Int)),([]:LI)))))]).length:Int))))=true→True) ((((decide (ret108v.2=(0:Int)))&&(decide ((ret108v.1.length:Int)=((((([]:LD)++script)++[((3:Int),(((0:Int),([]:LI)),(w,((0:Int),([]:LI))))),((4:Int),(((0:Int),([]:LI)),(w,(i,([]:LI)))))])++[((5:Int),(((0:Int),([]:LI)),(w,((0:Int),(ret31v.1.getD (((script.length:Int)+(1:Int))).toNat zT).2.2)))),((4:Int),(((0:Int),([]:LI)),(w,((i+(1:Int)),([]:LI)))))]).length:Int))))=true→InR ((script.length:Int)+(2:Int)))∧(((decide (ret108v.2=(0:Int)))&&(decide ((ret108v.1.length:Int)=((((([]:LD)++script)++[((3:Int),(((0:Int),([]:LI)),(w,((0:Int),([]:LI))))),((4:Int),(((0:Int),([]:LI)),(w,(i,([]:LI)))))])++[((5:Int),(((0:Int),([]:LI)),(w,((0:Int),(ret31v.1.getD (((script.length:Int)+(1:Int))).toNat zT).2.2)))),((4:Int),(((0:Int),([]:LI)),(w,((i+(1:Int)),([]:LI)))))]).length:Int))))=true→inIdx ((script.length:Int)+(2:Int)) ret108v.1.length)∧Ti 3 (((decide (ret108v.2=(0:Int)))&&(decide ((ret108v.1.length:Int)=((((([]:LD)++script)++[((3:Int),(((0:Int),([]:LI)),(w,((0:Int),([]:LI))))),((4:Int),(((0:Int),([]:LI)),(w,(i,([]:LI)))))])++[((5:Int),(((0:Int),([]:LI)),(w,((0:Int),(ret31v.1.getD (((script.length:Int)+(1:Int))).toNat zT).2.2)))),((4:Int),(((0:Int),([]:LI)),(w,((i+(1:Int)),([]:LI)))))]).length:Int))))=true→True) (Ts 2 (Ti 3 ((((decide (ret108v.2=(0:Int)))&&(decide ((ret108v.1.length:Int)=((((([]:LD)++script)++[((3:Int),(((0:Int),([]:LI)),(w,((0:Int),([]:LI))))),((4:Int),(((0:Int),([]:LI)),(w,(i,([]:LI)))))])++[((5:Int),(((0:Int),([]:LI)),(w,((0:Int),(ret31v.1.getD (((script.length:Int)+(1:Int))).toNat zT).2.2)))),((4:Int),(((0:Int),([]:LI)),(w,((i+(1:Int)),([]:LI)))))]).length:Int))))&&(decide ((ret108v.1.getD (((script.length:Int)+(2:Int))).toNat zT).1=(0:Int))))=true→True) (((((decide (ret108v.2=(0:Int)))&&(decide ((ret108v.1.length:Int)=((((([]:LD)++script)++[((3:Int),(((0:Int),([]:LI)),(w,((0:Int),([]:LI))))),((4:Int),(((0:Int),([]:LI)),(w,(i,([]:LI)))))])++[((5:Int),(((0:Int),([]:LI)),(w,((0:Int),(ret31v.1.getD (((script.length:Int)+(1:Int))).toNat zT).2.2)))),((4:Int),(((0:Int),([]:LI)),(w,((i+(1:Int)),([]:LI)))))]).length:Int))))&&(decide ((ret108v.1.getD (((script.length:Int)+(2:Int))).toNat zT).1=(0:Int))))=true→InR ((script.length:Int)+(2:Int)))∧((((decide (ret108v.2=(0:Int)))&&(decide ((ret108v.1.length:Int)=((((([]:LD)++script)++[((3:Int),(((0:Int),([]:LI)),(w,((0:Int),([]:LI))))),((4:Int),(((0:Int),([]:LI)),(w,(i,([]:LI)))))])++[((5:Int),(((0:Int),([]:LI)),(w,((0:Int),(ret31v.1.getD (((script.length:Int)+(1:Int))).toNat zT).2.2)))),((4:Int),(((0:Int),([]:LI)),(w,((i+(1:Int)),([]:LI)))))]).length:Int))))&&(decide ((ret108v.1.getD (((script.length:Int)+(2:Int))).toNat zT).1=(0:Int))))=true→inIdx ((script.length:Int)+(2:Int)) ret108v.1.length)∧Ti 4 ((((decide (ret108v.2=(0:Int)))&&(decide ((ret108v.1.length:Int)=((((([]:LD)++script)++[((3:Int),(((0:Int),([]:LI)),(w,((0:Int),([]:LI))))),((4:Int),(((0:Int),([]:LI)),(w,(i,([]:LI)))))])++[((5:Int),(((0:Int),([]:LI)),(w,((0:Int),(ret31v.1.getD (((script.length:Int)+(1:Int))).toNat zT).2.2)))),((4:Int),(((0:Int),([]:LI)),(w,((i+(1:Int)),([]:LI)))))]).length:Int))))&&(decide ((ret108v.1.getD (((script.length:Int)+(2:Int))).toNat zT).1=(0:Int))))=true→True) (Ts 2 ((((((decide (ret108v.2=(0:Int)))&&(decide ((ret108v.1.length:Int)=((((([]:LD)++script)++[((3:Int),(((0:Int),([]:LI)),(w,((0:Int),([]:LI))))),((4:Int),(((0:Int),([]:LI)),(w,(i,([]:LI)))))])++[((5:Int),(((0:Int),([]:LI)),(w,((0:Int),(ret31v.1.getD (((script.length:Int)+(1:Int))).toNat zT).2.2)))),((4:Int),(((0:Int),([]:LI)),(w,((i+(1:Int)),([]:LI)))))]).length:Int))))&&(decide ((ret108v.1.getD (((script.length:Int)+(2:Int))).toNat zT).1=(0:Int))))&&(decide ((ret108v.1.getD (((script.length:Int)+(2:Int))).toNat zT).2.1=i)))=true→True)∧(((((decide (ret108v.2=(0:Int)))&&(decide ((ret108v.1.length:Int)=((((([]:LD)++script)++[((3:Int),(((0:Int),([]:LI)),(w,((0:Int),([]:LI))))),((4:Int),(((0:Int),([]:LI)),(w,(i,([]:LI)))))])++[((5:Int),(((0:Int),([]:LI)),(w,((0:Int),(ret31v.1.getD (((script.length:Int)+(1:Int))).toNat zT).2.2)))),((4:Int),(((0:Int),([]:LI)),(w,((i+(1:Int)),([]:LI)))))]).length:Int))))&&(decide ((ret108v.1.getD (((script.length:Int)+(2:Int))).toNat zT).1=(0:Int))))&&(decide ((ret108v.1.getD (((script.length:Int)+(2:Int))).toNat zT).2.1=i)))=true→InR (i+(1:Int)))∧Ti 6 (((((decide (ret108v.2=(0:Int)))&&(decide ((ret108v.1.length:Int)=((((([]:LD)++script)++[((3:Int),(((0:Int),([]:LI)),(w,((0:Int),([]:LI))))),((4:Int),(((0:Int),([]:LI)),(w,(i,([]:LI)))))])++[((5:Int),(((0:Int),([]:LI)),(w,((0:Int),(ret31v.1.getD (((script.length:Int)+(1:Int))).toNat zT).2.2)))),((4:Int),(((0:Int),([]:LI)),(w,((i+(1:Int)),([]:LI)))))]).length:Int))))&&(decide ((ret108v.1.getD (((script.length:Int)+(2:Int))).toNat zT).1=(0:Int))))&&(decide ((ret108v.1.getD (((script.length:Int)+(2:Int))).toNat zT).2.1=i)))=true→True) ((((((decide (ret108v.2=(0:Int)))&&(decide ((ret108v.1.length:Int)=((((([]:LD)++script)++[((3:Int),(((0:Int),([]:LI)),(w,((0:Int),([]:LI))))),((4:Int),(((0:Int),([]:LI)),(w,(i,([]:LI)))))])++[((5:Int),(((0:Int),([]:LI)),(w,((0:Int),(ret31v.1.getD (((script.length:Int)+(1:Int))).toNat zT).2.2)))),((4:Int),(((0:Int),([]:LI)),(w,((i+(1:Int)),([]:LI)))))]).length:Int))))&&(decide ((ret108v.1.getD (((script.length:Int)+(2:Int))).toNat zT).1=(0:Int))))&&(decide ((ret108v.1.getD (((script.length:Int)+(2:Int))).toNat zT).2.1=i)))=true→InR ((script.length:Int)+(3:Int)))∧(((((decide (ret108v.2=(0:Int)))&&(decide ((ret108v.1.length:Int)=((((([]:LD)++script)++[((3:Int),(((0:Int),([]:LI)),(w,((0:Int),([]:LI))))),((4:Int),(((0:Int),([]:LI)),(w,(i,([]:LI)))))])++[((5:Int),(((0:Int),([]:LI)),(w,((0:Int),(ret31v.1.getD (((script.length:Int)+(1:Int))).toNat zT).2.2)))),((4:Int),(((0:Int),([]:LI)),(w,((i+(1:Int)),([]:LI)))))]).length:Int))))&&(decide ((ret108v.1.getD (((script.length:Int)+(2:Int))).toNat zT).1=(0:Int))))&&(decide ((ret108v.1.getD (((script.length:Int)+(2:Int))).toNat zT).2.1=i)))=true→inIdx ((script.length:Int)+(3:Int)) ret108v.1.length)∧Ti 4 (((((decide (ret108v.2=(0:Int)))&&(decide ((ret108v.1.length:Int)=((((([]:LD)++script)++[((3:Int),(((0:Int),([]:LI)),(w,((0:Int),([]:LI))))),((4:Int),(((0:Int),([]:LI)),(w,(i,([]:LI)))))])++[((5:Int),(((0:Int),([]:LI)),(w,((0:Int),(ret31v.1.getD (((script.length:Int)+(1:Int))).toNat zT).2.2)))),((4:Int),(((0:Int),([]:LI)),(w,((i+(1:Int)),([]:LI)))))]).length:Int))))&&(decide ((ret108v.1.getD (((script.length:Int)+(2:Int))).toNat zT).1=(0:Int))))&&(decide ((ret108v.1.getD (((script.length:Int)+(2:Int))).toNat zT).2.1=i)))=true→True) (Ts 2 (Ti 3 ((((((decide (ret108v.2=(0:Int)))&&(decide ((ret108v.1.length:Int)=((((([]:LD)++script)++[((3:Int),(((0:Int),([]:LI)),(w,((0:Int),([]:LI))))),((4:Int),(((0:Int),([]:LI)),(w,(i,([]:LI)))))])++[((5:Int),(((0:Int),([]:LI)),(w,((0:Int),(ret31v.1.getD (((script.length:Int)+(1:Int))).toNat zT).2.2)))),((4:Int),(((0:Int),([]:LI)),(w,((i+(1:Int)),([]:LI)))))]).length:Int))))&&(decide ((ret108v.1.getD (((script.length:Int)+(2:Int))).toNat zT).1=(0:Int))))&&(decide ((ret108v.1.getD (((script.length:Int)+(2:Int))).toNat zT).2.1=i)))&&((decide ((i+(1:Int))<(ret31v.1.getD ((script.length:Int)).toNat zT).2.1)) == (decide ((ret108v.1.getD (((script.length:Int)+(3:Int))).toNat zT).1=(0:Int)))))=true→True) (((((((decide (ret108v.2=(0:Int)))&&(decide ((ret108v.1.length:Int)=((((([]:LD)++script)++[((3:Int),(((0:Int),([]:LI)),(w,((0:Int),([]:LI))))),((4:Int),(((0:Int),([]:LI)),(w,(i,([]:LI)))))])++[((5:Int),(((0:Int),([]:LI)),(w,((0:Int),(ret31v.1.getD (((script.length:Int)+(1:Int))).toNat zT).2.2)))),((4:Int),(((0:Int),([]:LI)),(w,((i+(1:Int)),([]:LI)))))]).length:Int))))&&(decide ((ret108v.1.getD (((script.length:Int)+(2:Int))).toNat zT).1=(0:Int))))&&(decide ((ret108v.1.getD (((script.length:Int)+(2:Int))).toNat zT).2.1=i)))&&((decide ((i+(1:Int))<(ret31v.1.getD ((script.length:Int)).toNat zT).2.1)) == (decide ((ret108v.1.getD (((script.length:Int)+(3:Int))).toNat zT).1=(0:Int)))))=true→InR ((script.length:Int)+(3:Int)))∧((((((decide (ret108v.2=(0:Int)))&&(decide ((ret108v.1.length:Int)=((((([]:LD)++script)++[((3:Int),(((0:Int),([]:LI)),(w,((0:Int),([]:LI))))),((4:Int),(((0:Int),([]:LI)),(w,(i,([]:LI)))))])++[((5:Int),(((0:Int),([]:LI)),(w,((0:Int),(ret31v.1.getD (((script.length:Int)+(1:Int))).toNat zT).2.2)))),((4:Int),(((0:Int),([]:LI)),(w,((i+(1:Int)),([]:LI)))))]).length:Int))))&&(decide ((ret108v.1.getD (((script.length:Int)+(2:Int))).toNat zT).1=(0:Int))))&&(decide ((ret108v.1.getD (((script.length:Int)+(2:Int))).toNat zT).2.1=i)))&&((decide ((i+(1:Int))<(ret31v.1.getD ((script.length:Int)).toNat zT).2.1)) == (decide ((ret108v.1.getD (((script.length:Int)+(3:Int))).toNat zT).1=(0:Int)))))=true→inIdx ((script.length:Int)+(3:Int)) ret108v.1.length)∧Ti 4 ((((((decide (ret108v.2=(0:Int)))&&(decide ((ret108v.1.length:Int)=((((([]:LD)++script)++[((3:Int),(((0:Int),([]:LI)),(w,((0:Int),([]:LI))))),((4:Int),(((0:Int),([]:LI)),(w,(i,([]:LI)))))])++[((5:Int),(((0:Int),([]:LI)),(w,((0:Int),(ret31v.1.getD (((script.length:Int)+(1:Int))).toNat zT).2.2)))),((4:Int),(((0:Int),([]:LI)),(w,((i+(1:Int)),([]:LI)))))]).length:Int))))&&(decide ((ret108v.1.getD (((script.length:Int)+(2:Int))).toNat zT).1=(0:Int))))&&(decide ((ret108v.1.getD (((script.length:Int)+(2:Int))).toNat zT).2.1=i)))&&((decide ((i+(1:Int))<(ret31v.1.getD ((script.length:Int)).toNat zT).2.1)) == (decide ((ret108v.1.getD (((script.length:Int)+(3:Int))).toNat zT).1=(0:Int)))))=true→True) True))))))))))))))) (done':=[55,54,53,52,51,50,49,48,47,46,45,44,43,42,41,40,39,38,37,36,35,34,33,32,31,30,29,28,27,26,25,24,23,22,21,20,19,18,17,16,15,14,13,12,11,10,9,8,7,6,5,4,3,2,1,0]) (st':=(⟨177,[e5a5 ret108v script w i ret31v,(171,[(164,true)],.v (.c (.pS ((ret108v.1.getD (((script.length:Int)+(3:Int))).toNat zT).2.2)))),(173,[(164,true)],.v (.c (.pS ((ret31v.1.getD (((script.length:Int)+(1:Int))).toNat zT).2.2))))],[]⟩:St)) (by kernel_rfl) (tsI 3 (tiI 5 (fun _=>trivial) (tsI 2 (tiI 3 (fun _=>trivial) (⟨o1,⟨o2,tiI 3 (fun _=>trivial) (tsI 2 (tiI 3 (fun _=>trivial) (⟨o3,⟨o4,tiI 4 (fun _=>trivial) (tsI 2 (⟨(fun _=>trivial),⟨o5,tiI 6 (fun _=>trivial) (⟨o6,⟨o7,tiI 4 (fun _=>trivial) (tsI 2 (tiI 3 (fun _=>trivial) (⟨o8,⟨o9,tiI 4 (fun _=>trivial) trivial⟩⟩)))⟩⟩)⟩⟩))⟩⟩)))⟩⟩))))) ?_
       refine awd_one (i:=56) (by kernel_rfl) ?_
       refine adop_callk (p:=[(164,true)]) (l:=[toV1 (.sl tI) ((ret108v.1.getD (((script.length:Int)+(3:Int))).toNat zT).2.2),toV1 (.sl tI) ((ret31v.1.getD (((script.length:Int)+(1:Int))).toNat zT).2.2)]) (cl:=[]) false [.d (.sl tI),.d (.sl tI)] [164,174] [] (fun (ret174v:Bool)=>K ((((((decide (ret108v.2=(0:Int)))&&(decide ((ret108v.1.length:Int)=((((([]:LD)++script)++[((3:Int),(((0:Int),([]:LI)),(w,((0:Int),([]:LI))))),((4:Int),(((0:Int),([]:LI)),(w,(i,([]:LI)))))])++[((5:Int),(((0:Int),([]:LI)),(w,((0:Int),(ret31v.1.getD (((script.length:Int)+(1:Int))).toNat zT).2.2)))),((4:Int),(((0:Int),([]:LI)),(w,((i+(1:Int)),([]:LI)))))]).length:Int))))&&(decide ((ret108v.1.getD (((script.length:Int)+(2:Int))).toNat zT).1=(0:Int))))&&(decide ((ret108v.1.getD (((script.length:Int)+(2:Int))).toNat zT).2.1=i)))&&((decide ((i+(1:Int))<(ret31v.1.getD ((script.length:Int)).toNat zT).2.1)) == (decide ((ret108v.1.getD (((script.length:Int)+(3:Int))).toNat zT).1=(0:Int)))))&&(!ret174v))) (fun ret174v=>[toV1 .bool ret174v]) (fun ret174v=>(⟨177,[e5a5 ret108v script w i ret31v,(174,[(164,true)],.v (.c (.pB ret174v)))],[]⟩:St)) rfl (by kernel_rfl) rfl (by kernel_rfl) rfl (by kernel_rfl) Try.call15 (by kernel_rfl) (fun ret174v=>by kernel_rfl) (fun e=>by cases e) (fun hg=>link15 ((ret108v.1.getD (((script.length:Int)+(3:Int))).toNat zT).2.2) ((ret31v.1.getD (((script.length:Int)+(1:Int))).toNat zT).2.2) _ (by have:=gcall_T h (show (((((decide (ret108v.2=(0:Int)))&&(decide ((ret108v.1.length:Int)=((((([]:LD)++script)++[((3:Int),(((0:Int),([]:LI)),(w,((0:Int),([]:LI))))),((4:Int),(((0:Int),([]:LI)),(w,(i,([]:LI)))))])++[((5:Int),(((0:Int),([]:LI)),(w,((0:Int),(ret31v.1.getD (((script.length:Int)+(1:Int))).toNat zT).2.2)))),((4:Int),(((0:Int),([]:LI)),(w,((i+(1:Int)),([]:LI)))))]).length:Int))))&&(decide ((ret108v.1.getD (((script.length:Int)+(2:Int))).toNat zT).1=(0:Int))))&&(decide ((ret108v.1.getD (((script.length:Int)+(2:Int))).toNat zT).2.1=i)))&&((decide ((i+(1:Int))<(ret31v.1.getD ((script.length:Int)).toNat zT).2.1)) == (decide ((ret108v.1.getD (((script.length:Int)+(3:Int))).toNat zT).1=(0:Int)))))=true from hg);exact this)) (fun hg=>⟨false,by have:=gcall_F h (show (((((decide (ret108v.2=(0:Int)))&&(decide ((ret108v.1.length:Int)=((((([]:LD)++script)++[((3:Int),(((0:Int),([]:LI)),(w,((0:Int),([]:LI))))),((4:Int),(((0:Int),([]:LI)),(w,(i,([]:LI)))))])++[((5:Int),(((0:Int),([]:LI)),(w,((0:Int),(ret31v.1.getD (((script.length:Int)+(1:Int))).toNat zT).2.2)))),((4:Int),(((0:Int),([]:LI)),(w,((i+(1:Int)),([]:LI)))))]).length:Int))))&&(decide ((ret108v.1.getD (((script.length:Int)+(2:Int))).toNat zT).1=(0:Int))))&&(decide ((ret108v.1.getD (((script.length:Int)+(2:Int))).toNat zT).2.1=i)))&&((decide ((i+(1:Int))<(ret31v.1.getD ((script.length:Int)).toNat zT).2.1)) == (decide ((ret108v.1.getD (((script.length:Int)+(3:Int))).toNat zT).1=(0:Int)))))=false from hg);exact this⟩) (fun ret174v h=>?_)
       refine drq (by kernel_rfl) [57,58,59] (ob:=(((((((decide (ret108v.2=(0:Int)))&&(decide ((ret108v.1.length:Int)=((((([]:LD)++script)++[((3:Int),(((0:Int),([]:LI)),(w,((0:Int),([]:LI))))),((4:Int),(((0:Int),([]:LI)),(w,(i,([]:LI)))))])++[((5:Int),(((0:Int),([]:LI)),(w,((0:Int),(ret31v.1.getD (((script.length:Int)+(1:Int))).toNat zT).2.2)))),((4:Int),(((0:Int),([]:LI)),(w,((i+(1:Int)),([]:LI)))))]).length:Int))))&&(decide ((ret108v.1.getD (((script.length:Int)+(2:Int))).toNat zT).1=(0:Int))))&&(decide ((ret108v.1.getD (((script.length:Int)+(2:Int))).toNat zT).2.1=i)))&&((decide ((i+(1:Int))<(ret31v.1.getD ((script.length:Int)).toNat zT).2.1)) == (decide ((ret108v.1.getD (((script.length:Int)+(3:Int))).toNat zT).1=(0:Int)))))=true→True)∧Ts 2 True)) (done':=[59,58,57,56,55,54,53,52,51,50,49,48,47,46,45,44,43,42,41,40,39,38,37,36,35,34,33,32,31,30,29,28,27,26,25,24,23,22,21,20,19,18,17,16,15,14,13,12,11,10,9,8,7,6,5,4,3,2,1,0]) (st':=(⟨177,[sB 10 ((((((decide (ret108v.2=(0:Int)))&&(decide ((ret108v.1.length:Int)=((((([]:LD)++script)++[((3:Int),(((0:Int),([]:LI)),(w,((0:Int),([]:LI))))),((4:Int),(((0:Int),([]:LI)),(w,(i,([]:LI)))))])++[((5:Int),(((0:Int),([]:LI)),(w,((0:Int),(ret31v.1.getD (((script.length:Int)+(1:Int))).toNat zT).2.2)))),((4:Int),(((0:Int),([]:LI)),(w,((i+(1:Int)),([]:LI)))))]).length:Int))))&&(decide ((ret108v.1.getD (((script.length:Int)+(2:Int))).toNat zT).1=(0:Int))))&&(decide ((ret108v.1.getD (((script.length:Int)+(2:Int))).toNat zT).2.1=i)))&&((decide ((i+(1:Int))<(ret31v.1.getD ((script.length:Int)).toNat zT).2.1)) == (decide ((ret108v.1.getD (((script.length:Int)+(3:Int))).toNat zT).1=(0:Int)))))&&(!ret174v))],[]⟩:St)) (by kernel_rfl) (⟨(fun _=>trivial),tsI 2 trivial⟩) ?_
       refine awd_done (by kernel_rfl) ?_
       refine thenQ_n ?_
       refine aw_ret ?_
       exact retQ_r (ob:=Ts 1 True) _ (by kernel_rfl) (tsI 1 trivial) h
end Dec
