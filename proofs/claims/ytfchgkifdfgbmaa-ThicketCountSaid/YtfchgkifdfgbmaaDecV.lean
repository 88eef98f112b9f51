/-
  A slice that is an argument has as many elements as its reading.
-/
import Derived.Test.YtfchgkifdfgbmaaDecT
set_option linter.unusedSimpArgs false
set_option linter.unusedVariables false
namespace Dec
open Go Go.RowKit Go.Deep Go.ChangeShapes Go.WideShapes
end Dec
