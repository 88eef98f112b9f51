/-
Calls of functions that are lent own blocks and may call themselves: a contract over what the blocks hold.
-/
import Derived.Test.YtljlpmfmfcljaaaDecZ
set_option linter.unusedSimpArgs false
set_option linter.unusedVariables false
namespace Dec
open Go Go.RowKit
variable {M : Md → Prop}
abbrev Hp := List (Nat × Path × Con)
abbrev LL := List (List Int)
abbrev LI := List Int
abbrev Cl.pI (x : Int) : Cl := .p (.int .i64) x
abbrev Cl.pB (x : Bool) : Cl := .p .bool x
abbrev Cl.pS (x : List Int) : Cl := .p (.sl (.int .i64)) x
end Dec
