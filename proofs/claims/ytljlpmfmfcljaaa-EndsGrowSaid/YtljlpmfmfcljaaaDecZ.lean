/-
A call walked in place, with any number of results.
-/
import Derived.Test.YtljlpmfmfcljaaaDecY
set_option linter.unusedSimpArgs false
set_option linter.unusedVariables false
namespace Dec
open Go Go.RowKit
variable {M : Md → Prop}
section
variable {P : Program} {w0 w : World} {S0 : Base} {G : Ghost} {st : St} {a : Act} {ops : Array Oper} {Q : XE → St → Prop} {D : List Nat}
/-! the same under a guard -/
end
end Dec
