/-
The library's slices.SortFunc over an own row of structs (DecSo at elements of several cells).
-/
import Derived.Test.YtckghdhnmpnljaaDecSo
set_option linter.unusedSimpArgs false
set_option linter.unusedVariables false
namespace Dec
open Go Go.RowKit Go.Proofs Go.Shelf Go.Lib Go.Sort
end Dec
