/-
  A sum of two ints that may wrap, as an operation of its own.
-/
import Derived.Test.YtfamoglamihdfaaDecT
set_option linter.unusedSimpArgs false
set_option linter.unusedVariables false
namespace Dec
open Go Go.RowKit

section
variable {P : Program} {ops : Array Oper} {Q : XE → St → Prop} {st : St}

theorem awl_addw {o : Oper} {rest : List Oper} {d : Nat} {t t' : TypeId} {x y : Operand} {m n : Int} (sl hp : List Nat) (S : St) (hg : o.guard = none) (hd : o.dst = some d) (hdn : decide (d < st.n) = true)
    (ho : o.op = .binOp .add t x y t') (hx : st.val [] x = some (pI .i64 m)) (hy : st.val [] y = some (pI .i64 n)) (hS : (st.put d [] (pI .i64 (IntKind.wrap .i64 (m + n)))).keep sl hp = S)
    (h : AWL P ops rest Q S) : AWL P ops (o :: rest) Q st := by
  intro w0 S0 G a w hs
  obtain ⟨ex, _, _⟩ := rep_pI (hs.val_ holds_nil hx)
  obtain ⟨ey, _, _⟩ := rep_pI (hs.val_ holds_nil hy)
  refine wpl_val (.int .i64 (IntKind.wrap .i64 (m + n))) hg hd ?_ ?_
  · unfold execOp
    simp only [ho, ex, ey]
    simp [eqGuard, binOp, Op.intArith, Sem.run_bind]
  · have hdn' : d < st.n := by simpa using hdn
    have h1 := hs.put (i := d) (p := []) (x := pI .i64 (IntKind.wrap .i64 (m + n))) (v := .int .i64 (IntKind.wrap .i64 (m + n))) hdn' rfl (fun _ => mk_pI (wrap_lo _ _) (wrap_hi _ _)) (fun hn => absurd holds_nil hn)
    have h2 : AWL P ops rest Q (st.put d [] (pI .i64 (IntKind.wrap .i64 (m + n)))) := awl_conv [.prune sl hp] rfl (by rw [← hS] at h; exact h)
    exact h2 _ _ _ _ _ h1
end
end Dec
