/-
The end of a drawn region with a turn of the state's words. A call whose body is walked in place: the caller's slots stand behind the callee's own.
-/
import Derived.Test.YtljlpmfmfcljaaaDecV
set_option linter.unusedSimpArgs false
set_option linter.unusedVariables false
namespace Dec
open Go Go.RowKit
variable {M : Md → Prop}
end Dec
namespace Dec
open Go Go.RowKit
variable {M : Md → Prop}
def inSl (m d : Nat) : List (Nat × Path × AV) → List (Nat × Path × AV)
  | [] => []
  | (i, [], x) :: r => if m ≤ i && i != m + d then (i - m, [], x) :: inSl m d r else inSl m d r
  | (_, _ :: _, _) :: r => inSl m d r
def flatHp : List (Nat × Path × Con) → List (Nat × Path × Con)
  | [] => []
  | (r, [], c) :: l => (r, [], c) :: flatHp l
  | (_, _ :: _, _) :: l => flatHp l
def St.back (st0 : St) (m d : Nat) (st' : St) (av : AV) : St := ⟨st0.n, (d, [], av) :: inSl m d st'.sl, flatHp st'.hp⟩
def Ghost.only (G : Ghost) (D : List Nat) : Ghost := { G with col := fun b => match G.col b with | some q => if q ∈ D then some q else none | none => none }
end Dec
