/-
  The end of a drawn region with a turn of the state's words.
-/
import Derived.Test.YtfpchbpnoggogaaDecT
set_option linter.unusedSimpArgs false
set_option linter.unusedVariables false
namespace Dec
open Go Go.RowKit

variable {M : Md → Prop}

section
variable {P : Program} {ops : Array Oper} {D : List Nat} {Q : XE → St → Prop} {st : St}

theorem awd_end {done : List Nat} {st' : St} (ds : List Dir) (hr : (Region.ready .any ops (lst ops.size done)).isEmpty = true) (hc : conv ds st = some st') (h : Q .n st') : AWD M P ops D done Q st := by
  intro m w0 S0 G a w hs
  obtain ⟨G', hs'⟩ := hs.conv_ hc
  exact awpH_done (by simpa using hr) ⟨G', st', hs', h⟩ _

theorem awd_perm {done : List Nat} (done' : List Nat) (hl : done.length = done'.length) (h2 : lst ops.size done = lst ops.size done') (h : AWD M P ops D done' Q st) : AWD M P ops D done Q st := by
  intro m w0 S0 G a w hs
  rw [hl, h2]
  exact h m w0 S0 G a w hs

/-- a place of a drawn region that several orders reach -/
theorem awd_memo (V : Prop) {done0 : List Nat} {st0 : St} (done1 : List Nat) (st1 : St) (h1 : V → AWD M P ops D done1 Q st1) (h : (V → AWD M P ops D done1 Q st1) → AWD M P ops D done0 Q st0) : AWD M P ops D done0 Q st0 := h h1
end
end Dec
