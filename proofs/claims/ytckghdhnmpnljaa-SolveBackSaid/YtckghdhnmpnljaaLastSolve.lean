/-
The law SolveBack: its last text.
-/
import Derived.Test.YtckghdhnmpnljaaRows
import Derived.Test.YtckghdhnmpnljaaDecV
import Derived.Test.YtckghdhnmpnljaaLawB
import Derived.Test.YtckghdhnmpnljaaGenSd
import Derived.OpenShut
import Derived.JoinedCond
set_option linter.unusedSimpArgs false
set_option linter.unusedVariables false
namespace Go.Proofs.Ytckghdhnmpnljaa.solveBack
open Go.ChangeShapes Go.WideShapes Go.ChangeAt Go.RowKit Dec
theorem own:ownKnob Try.prog.godebug=none:=by kernel_rfl
theorem laidOut:laidOutB Try.prog=true:=by kernel_rfl
set_option maxRecDepth 100000 in
theorem contract (H:Type) (enc:TypeId×Value→H) (W:World) (base:Nat) (args:Array Value) (ds gs:List (DataW H)) (before:List MemPlace)
  (hval:∀ (j:Nat) t v,Try.f11.params[j]? = some t→args[j]? = some v→Value.okWide Try.prog W .any base t v)
  (hW:DataW.Whole enc Try.prog Try.f11.params.toList Rows.solveBackSpec.vars false W args.toList ds gs before) :
  Calls Try.prog 11 args W fun e W'=>∃ v,e=.returned v∧Rows.solveBackSpec.post enc Try.prog Try.f11 false true false false W args v W':=by
 have hW':=hW
 obtain ⟨p,q,hA0,hV,rfl,hfz,hnd⟩:=hW
 have hA:DataW.TrodAll enc Try.prog W 0 (fun _=>true) true Try.f11.params.toList args.toList ds p:=hA0
 rw [Try.params11] at hA hval
 obtain ⟨v0,d0,rfl,rfl,h0⟩:=trodAll_one hA
 obtain ⟨rfl,rfl⟩:=trodVars_none hV
 clear hA0
 obtain ⟨x0,k0,ok0⟩:=prep_ok_of_trod (n:=12) (u:=(.pr (.int .i64) (.pr (.int .i64) (.pr (.sl (.sl (.int .i64))) (.pr (.int .i64) (.int .u32)))))) (by kernel_rfl) (hval 0 41 v0 rfl rfl) h0
 have hc:=link11 x0 (fun b=>b=true) (solveBack ok0)
 refine (hc W (Old W) [v0] (fun b hb=>hb) ⟨.inl k0,trivial⟩).mono ?_
 rintro e W' ⟨us,res,S',rfl,hb,hS,hr,y,rfl,rfl⟩
 cases us with
 | nil=>exact hr.elim
 | cons u us =>
  cases us with
  | cons _ _=>exact hr.2.elim
  | nil =>
   obtain ⟨tt,yy,cs,e1,e2,rfl⟩:=hr.1
   have hu:mkVal tt cs=.bool true:=by
    cases tt <;> simp [toV1] at e1
    subst e1
    unfold Enc at e2
    rw [e2]
    rfl
   rw [hu]
   exact ⟨_,rfl,post_true (tb:=4) hW' rfl laidOut (by kernel_rfl) hb rfl rfl rfl rfl Try.underlying4⟩
set_option maxRecDepth 100000 in
theorem lifted (os:Os) (started:os.Started) (H:Type) (enc:TypeId×Value→H) :
  ReturnsInHanded {} Try.checked os 11 .any (Rows.solveBackSpec.pre6 enc Try.prog Try.f11 Rows.solveBackRow.domain false) (Rows.solveBackSpec.post enc Try.prog Try.f11 false true false false):=by
 refine returnsInHanded_of_change (C:=Try.checked) own started (by kernel_rfl) Try.func11
  (ChangeSpec.witness6 (enc:=enc) (C:=Try.checked) false ⟨#[],#[.agg #[.int .i64 0,.int .i64 0,.slice none 0 0,.int .i64 0,.int .u32 0]],[]⟩ 8 (by kernel_rfl) (by kernel_rfl) (by kernel_rfl) (by kernel_rfl)) ?_
 intro W base args ds gs before hval hW _ _
 exact contract H enc W base args ds gs before hval hW
theorem proved:Rows.SolveBackSaid :=
 OpenClaim.holds_of_wide 11 Try.f11 rfl rfl rfl rfl rfl rfl rfl ⟨rfl,rfl,rfl,rfl,rfl⟩ rfl rfl rfl rfl rfl (by kernel_rfl) Try.func11 (by kernel_rfl)
  (of_decide_eq_true (by kernel_rfl)) (by unfold Func.isWrapper;first | (rw [if_pos (by decide +kernel)];kernel_rfl) | (rw [if_neg (by decide +kernel)];exact ⟨rfl,rfl⟩))
  (fun os started H enc _=>lifted os started H enc)
end Go.Proofs.Ytckghdhnmpnljaa.solveBack
