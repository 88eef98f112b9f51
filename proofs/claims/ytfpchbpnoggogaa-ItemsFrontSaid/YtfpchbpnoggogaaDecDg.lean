/-
Short words for what turns deep rows. append onto a view that begins inside a row of one's own (a queue): it goes on in place, or elsewhere; nobody knows which.
-/
import Derived.Test.YtfpchbpnoggogaaDecAb
import Derived.Test.YtfpchbpnoggogaaDecDe
import Derived.ArgAppend
set_option linter.unusedSimpArgs false
set_option linter.unusedVariables false
namespace Dec
open Go Go.RowKit
section
variable {M : Md → Prop} {P : Program} {st : St} {ops : Array Oper} {Q : XE → St → Prop} {D : List Nat}
abbrev Rec (D : List Nat) (C : List (Nat × Nat)) : Bool := C.all fun c => !D.contains c.1 || D.contains c.2
theorem lop {l : List Oper} (s q : Nat) (T : List Nat) {ob : Prop} {st' : St} {C : List (Nat × Nat)} (h : st.openD s q T = some (ob, st', C)) (hob : ob) (hr : AWL M P ops l Q st') : AWL M P ops l Q st := awl_turn (trn_open h hob) hr
theorem dop {done : List Nat} (s q : Nat) (T : List Nat) {ob : Prop} {st' : St} {C : List (Nat × Nat)} (h : st.openD s q T = some (ob, st', C)) (hC : Rec D C = true) (hob : ob) (hr : AWD M P ops D done Q st') : AWD M P ops D done Q st := awd_turn (trn_open h hob) hC hr
theorem dai {done : List Nat} (s q : Nat) {ob : Prop} {st' : St} {C : List (Nat × Nat)} (h : st.aimD s q = some (ob, st', C)) (hC : Rec D C = true) (hob : ob) (hr : AWD M P ops D done Q st') : AWD M P ops D done Q st := awd_turn (trn_aim h hob) hC hr
theorem lcl {l : List Oper} (r q : Nat) (same : Bool) {ob : Prop} {st' : St} {C : List (Nat × Nat)} (h : st.closeD r q same = some (ob, st', C)) (hob : ob) (hr : AWL M P ops l Q st') : AWL M P ops l Q st := awl_turn (trn_close h hob) hr
theorem dcl {done : List Nat} (r q : Nat) (same : Bool) {ob : Prop} {st' : St} {C : List (Nat × Nat)} (h : st.closeD r q same = some (ob, st', C)) (hC : Rec D C = true) (hob : ob) (hr : AWD M P ops D done Q st') : AWD M P ops D done Q st := awd_turn (trn_close h hob) hC hr
theorem cfd {c : Code} (r : Nat) {ob : Prop} {st' : St} {C : List (Nat × Nat)} (h : st.freezeD r = some (ob, st', C)) (hob : ob) (hr : AW M P c Q st') : AW M P c Q st := aw_turn (trn_freeze h hob) hr
theorem cnb {c : Code} (r k q : Nat) (e E : TypeId) (t : Ty) {ob : Prop} {st' : St} {C : List (Nat × Nat)} (h : st.nilBD r k q e E t = some (ob, st', C)) (hob : ob) (hr : AW M P c Q st') : AW M P c Q st := aw_turn (trn_nilB h hob) hr
theorem lmk {o : Oper} {rest : List Oper} (d : Nat) (T : List Nat) (c : Con) {ob : Prop} (hg : o.guard = none) (hd : o.dst = some d) (hdn : decide (d < st.n) = true) (h : evalB P st o.op = some (ob, T, c)) (hob : ob)
    (hr : AWL M P ops rest Q (st.takenL d T c)) : AWL M P ops (o :: rest) Q st := awl_made hg hd hdn h hob hr
theorem dmk {i : Nat} {o : Oper} {done : List Nat} (d : Nat) (T : List Nat) (c : Con) {ob : Prop} (hi : ops[i]? = some o) (hg : o.guard = none) (hd : o.dst = some d) (hdn : decide (d < st.n) = true) (h : evalB P st o.op = some (ob, T, c)) (hT : (T.all fun q => D.contains q) = true) (hob : ob)
    (hr : AWD M P ops D (i :: done) Q (st.takenL d T c)) : ADOp M P ops D done i Q st := adop_made hi hg hd hdn h hT hob hr
end
end Dec
namespace Dec
open Go Go.RowKit
end Dec
