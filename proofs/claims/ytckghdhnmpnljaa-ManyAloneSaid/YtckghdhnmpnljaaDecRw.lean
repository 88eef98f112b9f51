/-
How much a datum weighs, and that an argument's datum weighs no more than its reading.
-/
import Derived.Test.YtckghdhnmpnljaaDecRc
import Derived.Test.YtckghdhnmpnljaaDecV
import Derived.Deep.Slices
import Derived.Carry
set_option linter.unusedSimpArgs false
set_option linter.unusedVariables false
namespace Dec
open Go Go.RowKit Go.Deep Go.ChangeShapes Go.WideShapes
end Dec
