/-
  Ranges over functions: a loop's body under contract, a call of yield, and the statement.
-/
import Derived.Test.YtfchgkifdfgbmaaDecAb
import Derived.RangeFuncIn
set_option linter.unusedSimpArgs false
set_option linter.unusedVariables false
namespace Dec
open Go Go.RowKit
variable {M : Md → Prop}
end Dec
