/-
The law TopTrees: its last text.
-/
import Derived.Test.YtljlpmfmfcljaaaRows
import Derived.Test.YtljlpmfmfcljaaaDecV
import Derived.Test.YtljlpmfmfcljaaaDecCp
import Derived.Test.YtljlpmfmfcljaaaTrees
import Derived.Test.YtljlpmfmfcljaaaGenUd
import Derived.OpenShut
import Derived.JoinedCond
import Derived.SizedLaws
set_option linter.unusedSimpArgs false
set_option linter.unusedVariables false
namespace Go.Proofs.Ytljlpmfmfcljaaa.topTrees
open Go.ChangeShapes Go.WideShapes Go.ChangeAt Go.RowKit Dec
theorem own:ownKnob Try.prog.godebug=none:=by kernel_rfl
theorem laidOut:laidOutB Try.prog=true:=by kernel_rfl
set_option maxRecDepth 100000 in
theorem contract (H:Type) (enc:TypeId×Value→H) (W:World) (base:Nat) (args:Array Value) (ds gs:List (DataW H)) (before:List MemPlace)
    (hval:∀ (j:Nat) t v,Try.f5.params[j]? = some t→args[j]? = some v→Value.okWide Try.prog W .any base t v)
    (hW:DataW.Whole enc Try.prog Try.f5.params.toList Rows.topTreesSpec.vars false W args.toList ds gs before) (hz:(DataW.weightsEach Try.prog (Try.f5.params.toList++Rows.topTreesSpec.plain.varTypes Try.prog) (ds++gs)).all (·≤reachBytes)=true) :
    Calls Try.prog 5 args W fun e W'=>∃ v,e=.returned v∧Rows.topTreesSpec.post enc Try.prog Try.f5 false true false false W args v W':=by
  have hW':=hW
  obtain ⟨p,q,hA0,hV,rfl,hfz,hnd⟩:=hW
  have hA:DataW.TrodAll enc Try.prog W 0 (fun _=>true) true Try.f5.params.toList args.toList ds p:=hA0
  rw [Try.params5] at hA hval
  obtain ⟨v0,vs0,d0,ds0,p0,q0,hargs,rfl,rfl,h0,r0⟩:=trodAll_cons hA
  obtain ⟨v1,vs1,d1,ds1,p1,q1,rfl,rfl,rfl,h1,r1⟩:=trodAll_cons r0
  obtain ⟨v2,vs2,d2,ds2,p2,q2,rfl,rfl,rfl,h2,r2⟩:=trodAll_cons r1
  obtain ⟨v3,vs3,d3,ds3,p3,q3,rfl,rfl,rfl,h3,r3⟩:=trodAll_cons r2
  obtain ⟨v4,vs4,d4,ds4,p4,q4,rfl,rfl,rfl,h4,r4⟩:=trodAll_cons r3
  obtain ⟨rfl,rfl,rfl⟩:=trodAll_nil r4
  obtain rfl:args = #[v0,v1,v2,v3,v4]:=by cases args;simp_all
  obtain ⟨rfl,rfl⟩:=trodVars_none hV
  clear hA0
  obtain ⟨x0,k0,ok0,z0⟩:=prep_ok_s (P:=Try.prog) (n:=12) (u:=(.int .i64)) (by kernel_rfl) (by kernel_rfl) (hval 0 3 v0 rfl rfl) h0 (fun k hk=>by have h9:=List.all_eq_true.1 hz k (DataW.weights_mem_each (j:=0) (t:=3) rfl rfl k hk);simpa using h9)
  obtain ⟨x1,k1,ok1,z1⟩:=prep_ok_s (P:=Try.prog) (n:=12) (u:=(.int .i64)) (by kernel_rfl) (by kernel_rfl) (hval 1 3 v1 rfl rfl) h1 (fun k hk=>by have h9:=List.all_eq_true.1 hz k (DataW.weights_mem_each (j:=1) (t:=3) rfl rfl k hk);simpa using h9)
  obtain ⟨x2,k2,ok2,z2⟩:=prep_ok_s (P:=Try.prog) (n:=12) (u:=(.sl (.pr (.int .i64) (.pr (.pr (.int .i64) (.sl (.int .i64))) (.pr (.sl (.int .i64)) (.pr (.int .i64) (.sl (.int .i64)))))))) (by kernel_rfl) (by kernel_rfl) (hval 2 38 v2 rfl rfl) h2 (fun k hk=>by have h9:=List.all_eq_true.1 hz k (DataW.weights_mem_each (j:=2) (t:=38) rfl rfl k hk);simpa using h9)
  obtain ⟨x3,k3,ok3,z3⟩:=prep_ok_s (P:=Try.prog) (n:=12) (u:=(.sl (.int .i64))) (by kernel_rfl) (by kernel_rfl) (hval 3 31 v3 rfl rfl) h3 (fun k hk=>by have h9:=List.all_eq_true.1 hz k (DataW.weights_mem_each (j:=3) (t:=31) rfl rfl k hk);simpa using h9)
  obtain ⟨x4,k4,ok4,z4⟩:=prep_ok_s (P:=Try.prog) (n:=12) (u:=(.int .i64)) (by kernel_rfl) (by kernel_rfl) (hval 4 2 v4 rfl rfl) h4 (fun k hk=>by have h9:=List.all_eq_true.1 hz k (DataW.weights_mem_each (j:=4) (t:=2) rfl rfl k hk);simpa using h9)
  have hc:=link5 x0 x1 x2 x3 x4 (fun b=>b=true) (Dec.topTrees x0 x1 x2 x3 x4 (deeds_sz z2).1 (deeds_sz z2).2)
  refine (hc W (Old W) [v0,v1,v2,v3,v4] (fun b hb=>hb) ⟨.inl k0,.inl k1,.inl k2,.inl k3,.inl k4,trivial⟩).mono ?_
  rintro e W' ⟨us,res,S',rfl,hb,hS,hr,y,rfl,rfl⟩
  cases us with
  | nil=>exact hr.elim
  | cons u us =>
    cases us with
    | cons _ _=>exact hr.2.elim
    | nil =>
      obtain ⟨tt,yy,cs,e1,e2,rfl⟩:=hr.1
      have hu:mkVal tt cs=.bool true:=by
        cases tt <;> simp [toV1] at e1
        subst e1
        unfold Enc at e2
        rw [e2]
        rfl
      rw [hu]
      exact ⟨_,rfl,post_true (tb:=4) hW' rfl laidOut (by kernel_rfl) hb rfl rfl rfl rfl Try.underlying4⟩
set_option maxRecDepth 100000 in
theorem lifted (os:Os) (started:os.Started) (H:Type) (enc:TypeId×Value→H) :
    ReturnsInHanded {} Try.checked os 5 .any (Rows.topTreesSpec.pre6 enc Try.prog Try.f5 Rows.topTreesRow.domain false) (Rows.topTreesSpec.post enc Try.prog Try.f5 false true false false):=by
  refine returnsInHanded_of_change_sized (C:=Try.checked) own started (by kernel_rfl) Try.func5
    (ChangeSpec.witness6 (enc:=enc) (C:=Try.checked) false ⟨#[],#[.int .i64 0,.int .i64 0,.slice none 0 0,.slice none 0 0,.int .i64 0],[]⟩ 8 (by kernel_rfl) (by kernel_rfl) (by kernel_rfl) (by kernel_rfl)) ?_
  intro W base args ds gs before hval hW _ hz _
  exact contract H enc W base args ds gs before hval hW hz
theorem proved:Rows.TopTreesSaid :=
  OpenClaim.holds_of_wide 5 Try.f5 rfl rfl rfl rfl rfl rfl rfl ⟨rfl,rfl,rfl,rfl,rfl⟩ rfl rfl rfl rfl rfl (by kernel_rfl) Try.func5 (by kernel_rfl)
    (of_decide_eq_true (by kernel_rfl)) (by unfold Func.isWrapper;first | (rw [if_pos (by decide +kernel)];kernel_rfl) | (rw [if_neg (by decide +kernel)];exact ⟨rfl,rfl⟩))
    (fun os started H enc _=>lifted os started H enc)
end Go.Proofs.Ytljlpmfmfcljaaa.topTrees
