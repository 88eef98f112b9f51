/-
Deep rows: frozen; nil slices told as deep rows.
-/
import Derived.Test.YtljlpmfmfcljaaaDecDd
set_option linter.unusedSimpArgs false
set_option linter.unusedVariables false
namespace Dec
open Go Go.RowKit
end Dec
