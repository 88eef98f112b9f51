/-
Counting below a bound, sets of names as words: plain Lean.
-/
import Derived.Test.YtckghdhnmpnljaaBits
set_option linter.unusedSimpArgs false
set_option linter.unusedVariables false
namespace Dec
open Go
end Dec
