/-
  A row of numbers is copied into an array that stands in an own struct.
-/
import Derived.Test.YtfchgkifdfgbmaaDecRh
import Derived.Laws.CopyRow
set_option linter.unusedSimpArgs false
set_option linter.unusedVariables false
namespace Dec
open Go Go.RowKit
variable {M : Md → Prop}
end Dec
