/-
The steps that the decompiler's proofs take: joins, calls, ends.
-/
import Derived.Test.YtljlpmfmfcljaaaDecDe
import Derived.KernelRfl
set_option linter.unusedSimpArgs false
set_option linter.unusedVariables false
namespace Dec
open Go Go.RowKit
variable {M : Md → Prop}
section
variable {P : Program} {st : St} {ops : Array Oper} {Q : XE → St → Prop} {D : List Nat}
theorem thenQ_n {K : St → Prop} (h : K st) : thenQ K Q .n st := h
theorem thenQ_x {K : St → Prop} {id : Nat} (h : Q (.x id) st) : thenQ K Q (.x id) st := h
theorem thenQ_r {K : St → Prop} (h : Q .r st) : thenQ K Q .r st := h
theorem blockQ_n {id : Nat} (h : Q .n st) : blockQ id Q .n st := h
theorem blockQ_r {id : Nat} (h : Q .r st) : blockQ id Q .r st := h
theorem blockQ_hit {id : Nat} (h : Q .n st) : blockQ id Q (.x id) st := by simp only [blockQ, beq_self_eq_true, if_true]; exact h
theorem retQ_r {σ : Type} {R : σ → List V1} {K : σ → Prop} {tys : List Ty} {rs : List RV} {ob : Prop} (y : σ) (hr : resOf P st tys rs = some (ob, R y)) (hob : ob) (hk : K y) :
    retQ P tys rs (fun res => ∃ y, res = R y ∧ K y) .r st := ⟨ob, _, hr, hob, y, rfl, hk⟩
theorem withJoin {σ : Type} {c : Code} (J : σ → St) (k : σ → Prop) (hrest : ∀ s, k s → Q .n (J s)) (h : (∀ s, k s → Q .n (J s)) → AW M P c Q st) : AW M P c Q st := h hrest
theorem gcall_T {α : Type} {G : Bool} {X : (α → Prop) → Prop} {d : α} {k : α → Prop} (h : gcall G X d k) (hg : G = true) : X k := by subst hg; exact h
theorem gcall_F {α : Type} {G : Bool} {X : (α → Prop) → Prop} {d : α} {k : α → Prop} (h : gcall G X d k) (hg : G = false) : k d := by subst hg; exact h
theorem noF {α : Prop} (h : true = false) : α := by cases h
theorem awl_callk {σ : Type} {o : Oper} {rest : List Oper} {c : Call} {d : Nat} {f : FuncId} {p : Path} (own : Bool) (tys : List AT) {l cl : List V1} (sl hp : List Nat) (k : σ → Prop) (R : σ → List V1) (S : σ → St)
    (hg : guardPath ops st o.guard = some p) (hd : o.dst = some d) (hck : (decide (d < st.n) && !onPath d p && pathOk st [] p) = true) (ho : o.op = .call c) (hcal : calleeOf st p c = some (f, cl))
    (hf : FnOk P f) (hargs : argsOf st p own tys c.args.toList = some l)
    (hS : ∀ y, (st.put d p (resAV (R y))).keep sl hp = S y) (hsc : own = true → ∀ y, (R y).all scalar = true)
    (hT : pathB st [] p = true → ACalls P f (l ++ cl) (fun res => ∃ y, res = R y ∧ k y)) (hF : pathB st [] p = false → ∃ y, k y)
    (hrest : ∀ y, k y → AWL M P ops rest Q (S y)) : AWL M P ops (o :: rest) Q st := by
  have key : ∀ y, k y → AWL M P ops rest Q (st.put d p (resAV (R y))) := fun y hy => awl_conv [.prune sl hp] rfl (by have := hrest y hy; rw [← hS y] at this; exact this)
  refine awl_call own tys hg hd hck ho hcal hf hargs (fun hb => (hT hb).mono ?_) (fun hb => ?_)
  · rintro r ⟨y, rfl, hy⟩
    exact ⟨fun ho => hsc ho y, key y hy⟩
  · obtain ⟨y, hy⟩ := hF hb
    exact ⟨R y, key y hy⟩
def FnIs (P : Program) (f : FuncId) (caps : List Dat) {α β : Type} (A : α → List V1) (R : β → List V1) (F : α → (β → Prop) → Prop) : Prop :=
  FnOk P f ∧ ∀ x K, F x K → ACalls P f (A x ++ caps.map fun d => .c (.ad d.1 d.2)) (fun res => ∃ y, res = R y ∧ K y)
end
end Dec
