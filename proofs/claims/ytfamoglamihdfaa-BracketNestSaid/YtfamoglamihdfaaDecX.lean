/-
  The end of a drawn region with a turn of the state's words.
-/
import Derived.Test.YtfamoglamihdfaaDecT
set_option linter.unusedSimpArgs false
set_option linter.unusedVariables false
namespace Dec
open Go Go.RowKit

section
variable {P : Program} {ops : Array Oper} {D : List Nat} {Q : XE → St → Prop} {st : St}

theorem awd_end {done : List Nat} {st' : St} (ds : List Dir) (hr : (Region.ready .any ops (lst ops.size done)).isEmpty = true) (hc : conv ds st = some st') (h : Q .n st') : AWD P ops D done Q st := by
  intro w0 S0 G a w hs
  obtain ⟨G', hs'⟩ := hs.conv_ hc
  exact wpAnyH_done (by simpa using hr) ⟨G', st', hs', h⟩ _
end
end Dec
