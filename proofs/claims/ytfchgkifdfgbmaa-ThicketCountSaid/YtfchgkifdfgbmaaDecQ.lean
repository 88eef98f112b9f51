/-
  bytes.Equal: a string made of bytes, and its equality.
-/
import Derived.Test.YtfchgkifdfgbmaaDecP
import Derived.Laws.BytesArg
import Derived.Laws.BytesString
import Derived.Laws.Strings
set_option linter.unusedSimpArgs false
set_option linter.unusedVariables false
namespace Dec
open Go Go.RowKit
end Dec
namespace Dec
open Go Go.RowKit
end Dec
