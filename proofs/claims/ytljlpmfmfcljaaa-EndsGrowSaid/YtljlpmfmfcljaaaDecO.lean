/-
The steps that the decompiler's proofs take: several operations, then all is forgotten that is not read any more.
-/
import Derived.Test.YtljlpmfmfcljaaaDecN
set_option linter.unusedSimpArgs false
set_option linter.unusedVariables false
namespace Dec
open Go Go.RowKit
variable {M : Md → Prop}
def St.keep (st : St) (sl hp : List Nat) : St := { st with sl := pick st.sl sl, hp := pick st.hp hp }
def runp (P : Program) (ops : Array Oper) (n : Nat) (l : List Oper) (st : St) (sl hp : List Nat) : Option (Prop × St) :=
  match run P ops n l st with
  | some (ob, s) => some (ob, s.keep sl hp)
  | none => none
def runDp (P : Program) (ops : Array Oper) (D is done : List Nat) (st : St) (sl hp : List Nat) : Option (Prop × List Nat × St) :=
  match runD P ops D is done st with
  | some (ob, d, s) => some (ob, d, s.keep sl hp)
  | none => none
section
variable {P : Program} {st : St} {ops : Array Oper} {Q : XE → St → Prop} {D : List Nat}
theorem awl_runp (n : Nat) (sl hp : List Nat) {l : List Oper} {ob : Prop} {st' : St} (h : runp P ops n l st sl hp = some (ob, st')) (hob : ob) (hr : AWL M P ops (l.drop n) Q st') : AWL M P ops l Q st := by
  unfold runp at h
  split at h
  · rename_i ob' s hs
    injection h with h; injection h with e1 e2; subst e1 e2
    exact awl_run n hs hob (awl_conv [.prune sl hp] rfl hr)
  · cases h
theorem awd_runp (hsel : plainOps ops = true) (is : List Nat) (sl hp : List Nat) {done done' : List Nat} {ob : Prop} {st' : St} (h : runDp P ops D is done st sl hp = some (ob, done', st')) (hob : ob) (hr : AWD M P ops D done' Q st') : AWD M P ops D done Q st := by
  unfold runDp at h
  split at h
  · rename_i ob' d s hs
    injection h with h; injection h with e1 h; injection h with e2 e3; subst e1 e2 e3
    exact awd_run hsel is hs hob (awd_conv [.prune sl hp] rfl rfl hr)
  · cases h
end
end Dec
