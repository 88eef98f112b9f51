/-
  bytes.Equal: a string made of bytes, and its equality.
-/
import Derived.Test.YtfpchbpnoggogaaDecP
import Derived.Laws.BytesArg
import Derived.Laws.BytesString
import Derived.Laws.Strings
set_option linter.unusedSimpArgs false
set_option linter.unusedVariables false
namespace Dec
open Go Go.RowKit
end Dec
namespace Dec
open Go Go.RowKit
section
variable {P : Program} {ops : Array Oper} {Q : Exit → Act → World → Prop}
theorem wpl_val {m : Md} {o : Oper} {rest : List Oper} {a : Act} {w : World} (v : Value) {d : Nat} (hg : o.guard = none) (hd : o.dst = some d) (h : (execOp a.eval o).run P w = .ok (.value v) w) (hr : lwp m P ops Q rest (a.put (some d) v) w) : lwp m P ops Q (o :: rest) a w := by
 refine lwp_step fun K hK => ?_
 rw [if_pos (by simp [Region.wanted, hg])]
 refine upon_value' h ?_
 rw [hd]
 exact hK _ _ hr
end
end Dec
