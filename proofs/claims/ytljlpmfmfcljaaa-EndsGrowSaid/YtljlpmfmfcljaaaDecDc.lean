/-
Deep rows: an element opened, shut, found again; rows made; rows that nobody turns any more.
-/
import Derived.Test.YtljlpmfmfcljaaaDecO
set_option linter.unusedSimpArgs false
set_option linter.unusedVariables false
namespace Dec
open Go Go.RowKit
end Dec
