/-
  The statement: a range over a function, its iterator walked in place.
-/
import Derived.Test.YtfchgkifdfgbmaaDecRg
set_option linter.unusedSimpArgs false
set_option linter.unusedVariables false
namespace Dec
open Go Go.RowKit
variable {M : Md → Prop}
end Dec
