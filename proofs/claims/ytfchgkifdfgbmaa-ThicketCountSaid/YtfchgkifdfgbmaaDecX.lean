/-
  The end of a drawn region with a turn of the state's words.
-/
import Derived.Test.YtfchgkifdfgbmaaDecT
set_option linter.unusedSimpArgs false
set_option linter.unusedVariables false
namespace Dec
open Go Go.RowKit
variable {M : Md → Prop}
end Dec
