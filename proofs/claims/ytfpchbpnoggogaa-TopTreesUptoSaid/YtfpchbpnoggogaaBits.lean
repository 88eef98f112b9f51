/-
  Sets as words of 32 bits.
-/
import Derived.Test.YtfpchbpnoggogaaLib
set_option linter.unusedSimpArgs false
set_option linter.unusedVariables false
namespace Dec
open Go
end Dec
