/-
Short words whose checks come by themselves.
-/
import Derived.Test.YtfchgkifdfgbmaaDecDg
import Derived.Test.YtfchgkifdfgbmaaDecP
set_option linter.unusedSimpArgs false
set_option linter.unusedVariables false
namespace Dec
open Go Go.RowKit
section
variable {M : Md → Prop} {P : Program} {st : St} {ops : Array Oper} {Q : XE → St → Prop} {D : List Nat}
theorem qR (n : Nat) {l : List Oper} {ob : Prop} (st' : St) (hob : ob) (hr : AWL M P ops (l.drop n) Q st') (h : runp P ops n l st st'.ks st'.kh = some (ob, st') := by kernel_rfl) : AWL M P ops l Q st := rq n h hob hr
theorem qT (n : Nat) {l : List Oper} (st' : St) (hr : AWL M P ops (l.drop n) Q st') (h : runp P ops n l st st'.ks st'.kh = some (Ts n True, st') := by kernel_rfl) : AWL M P ops l Q st := rqT n st' h hr
theorem qA (n a b : Nat) {l : List Oper} {X Y : Prop} (st' : St) (o : X ∧ Y) (hr : Y → AWL M P ops (l.drop n) Q st') (h : runp P ops n l st st'.ks st'.kh = some (Ts a (X ∧ Ts b True), st') := by kernel_rfl) : AWL M P ops l Q st := rq n h (tsI a ⟨o.1, tsI b trivial⟩) (hr o.2)
theorem qS (n : Nat) {id : Nat} {l : List Oper} {y : Code} (st' : St) (hr : AW M P y Q st') (h : runp P l.toArray n l st st'.ks st'.kh = some (Ts n True, st') := by kernel_rfl) (he : l.drop n = [] := by rfl) : AW M P (.seq (.region id l.toArray false) y) Q st := srn n st' h he hr
theorem qL {l : List Oper} (st' : St) (hr : AWL M P ops l Q st') (h : conv [.prune st'.ks st'.kh] st = some st' := by kernel_rfl) : AWL M P ops l Q st := lpr h hr
theorem qC {c : Code} (st' : St) (hr : AW M P c Q st') (h : conv [.prune st'.ks st'.kh] st = some st' := by kernel_rfl) : AW M P c Q st := cpr h hr
theorem qV {c : Code} (ds : List Dir) (st' : St) (hr : AW M P c Q st') (h : conv ds st = some st' := by kernel_rfl) : AW M P c Q st := aw_conv ds h hr
theorem qW {l : List Oper} (ds : List Dir) (st' : St) (hr : AWL M P ops l Q st') (h : conv ds st = some st' := by kernel_rfl) : AWL M P ops l Q st := awl_conv ds h hr
theorem qI {c : Operand} {x y : Code} {b : Bool} {X Y : Prop} (h : (b = true → X) ∧ (b = false → Y)) (h1 : X → AW M P x Q st) (h2 : Y → AW M P y Q st) (hc : st.val [] c = some (.v (.c (.p .bool b))) := by kernel_rfl) : AW M P (.cond c x y) Q st := aw_cond hc (fun hb => h1 (h.1 hb)) (fun hb => h2 (h.2 hb))
theorem qE {σ : Type} {R : σ → List V1} {K : σ → Prop} {tys : List Ty} {rs : List RV} {y : σ} (n : Nat) (hk : K y) (hr : resOf P st tys rs = some (Ts n True, R y) := by kernel_rfl) : retQ P tys rs (fun res => ∃ y, res = R y ∧ K y) .r st := retQ_r y hr (tsI n trivial) hk
theorem qK {σ : Type} {o : Oper} {rest : List Oper} (d : Nat) {f : FuncId} {l : List V1} {k : σ → Prop} {R : σ → List V1} (tys : List AT) (S : σ → St) (hf : FnOk P f) (hT : ACalls P f l (fun res => ∃ y, res = R y ∧ k y)) (hrest : ∀ y, k y → AWL M P ops rest Q (S y))
  (hc : callChk ops st o false tys = some (d, [], f, l) := by kernel_rfl) (hS : ∀ y, (st.put d [] (resAV (R y))).keep (S y).ks (S y).kh = S y := by exact fun _ => by kernel_rfl) : AWL M P ops (o :: rest) Q st := lcq tys S hc hf hS hT hrest
theorem qD (is : List Nat) {done : List Nat} (done' : List Nat) (st' : St) {ob : Prop} (hob : ob) (hr : AWD M P ops D done' Q st') (h : runDp P ops D is done st st'.ks st'.kh = some (ob, done', st') := by kernel_rfl) (hsel : plainOps ops = true := by kernel_rfl) : AWD M P ops D done Q st := drq hsel is h hob hr
theorem qDT (a : Nat) (is : List Nat) {done : List Nat} (done' : List Nat) (st' : St) (hr : AWD M P ops D done' Q st') (h : runDp P ops D is done st st'.ks st'.kh = some (Ts a True, done', st') := by kernel_rfl) (hsel : plainOps ops = true := by kernel_rfl) : AWD M P ops D done Q st := drq hsel is h (tsI a trivial) hr
theorem qDO (a b : Nat) (is : List Nat) {done : List Nat} (done' : List Nat) (st' : St) {X : Prop} (o : X) (hr : AWD M P ops D done' Q st') (h : runDp P ops D is done st st'.ks st'.kh = some (Ts a (X ∧ Ts b True), done', st') := by kernel_rfl) (hsel : plainOps ops = true := by kernel_rfl) : AWD M P ops D done Q st := drq hsel is h (tsI a ⟨o, tsI b trivial⟩) hr
end
end Dec
