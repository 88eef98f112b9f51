/-
A range over an own map: the iterator is an own block (Con.mit); which entry comes next nobody knows.
-/
import Derived.Test.YtckghdhnmpnljaaDecRh
import Derived.Maps.RangeRun
set_option linter.unusedSimpArgs false
set_option linter.unusedVariables false
namespace Dec
open Go Go.RowKit
open Go.ChangeMaps (setBlock)
end Dec
