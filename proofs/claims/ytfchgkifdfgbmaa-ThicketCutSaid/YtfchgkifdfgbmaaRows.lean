/-
  No cell of these rows narrows 'for every input' (looked for: loops, veiled, ifaces, maps, wideKeys, modest, calm, conditions, laid).
  DERIVED. THE GIVEN ROWS OF THIS SEAT. 3 by the template 'for every input the law returns true; each argument reads behind the call as it read before'; 0 by the template 'total and deterministic' (their statements: YtfchgkifdfgbmaaTotals.lean).
  GIVEN WITH THE SEED: the statements are not yours to turn. If you find one false, say at which input.
  Laid BY PROGRAM, IN A SANDBOX (cutbox-rows.mjs): the forced cells as the released guide's own fill.sh prints them over the translation b7cb1ae1b9287bc6… (all of the seat's roots in one cut). By AI agents, Wed Nov 11 2026. No macro, syntax, notation, axiom, sorry.
-/
import Derived.Test.YtfchgkifdfgbmaaChecked
import GoSem.Claim
import GoSem.ClaimJoined
import GoSem.ClaimMapViews
import Derived.JoinedTies
import Derived.KernelRfl
namespace Go.Proofs.Ytfchgkifdfgbmaa
/- THE CELL 'sum', in the pinned program and in every row, IS THE sha256 OF THE DUMP (.gsa) THAT YtfchgkifdfgbmaaProg.lean LOADS. Nothing in Lean hashes anything: it is a label: what it is worth is what the hold of that sum in a sandbox is worth. -/
noncomputable def Try.pinned : Pinned := { name := "ytfchgkifdfgbmaa", sum := "b7cb1ae1b9287bc6396755ebd61a09e2dfabaf5387707b9de49113fd3aa34d2e", checked := Try.checked }
namespace Rows
def none {H : Type} : Left H := { results := [], args := [] }

/-- 'coppicerkeep.ThicketSpots': WHATEVER THE INPUT: true; the input reads as it did. -/
def thicketSpotsSpec : ChangeSpec := { name := "thicketSpots", fn := fun _ => fun
  | [d1, d2] => { results := [.lit (.bool true)], args := [d1, d2] }
  | _ => none }
def thicketSpotsRow : OpenClaim := { program := "ytfchgkifdfgbmaa", sum := "b7cb1ae1b9287bc6396755ebd61a09e2dfabaf5387707b9de49113fd3aa34d2e", func := "coppicer/coppicerkeep.ThicketSpots", spec := "thicketSpots", unfollowed := true, recurses := true, plainKeys := false, apart := false }
def ThicketSpotsSaid : Prop := thicketSpotsRow.holds Try.pinned (OpenSpec.ofChange thicketSpotsSpec)

/-- ITS FALSE NEIGHBOUR: 'it returns false'. Refute it at one input. -/
def thicketSpotsWrong : ChangeSpec := { name := "thicketSpots", fn := fun _ => fun
  | [d1, d2] => { results := [.lit (.bool false)], args := [d1, d2] }
  | _ => none }
def ThicketSpotsWrongFalsely : Prop := thicketSpotsRow.holds Try.pinned (OpenSpec.ofChange thicketSpotsWrong)

/-- 'coppicerkeep.ThicketCount': WHATEVER THE INPUT: true; the input reads as it did. -/
def thicketCountSpec : ChangeSpec := { name := "thicketCount", fn := fun _ => fun
  | [d1, d2] => { results := [.lit (.bool true)], args := [d1, d2] }
  | _ => none }
def thicketCountRow : OpenClaim := { program := "ytfchgkifdfgbmaa", sum := "b7cb1ae1b9287bc6396755ebd61a09e2dfabaf5387707b9de49113fd3aa34d2e", func := "coppicer/coppicerkeep.ThicketCount", spec := "thicketCount", unfollowed := true, recurses := true, plainKeys := false, apart := false }
def ThicketCountSaid : Prop := thicketCountRow.holds Try.pinned (OpenSpec.ofChange thicketCountSpec)

/-- ITS FALSE NEIGHBOUR: 'it returns false'. Refute it at one input. -/
def thicketCountWrong : ChangeSpec := { name := "thicketCount", fn := fun _ => fun
  | [d1, d2] => { results := [.lit (.bool false)], args := [d1, d2] }
  | _ => none }
def ThicketCountWrongFalsely : Prop := thicketCountRow.holds Try.pinned (OpenSpec.ofChange thicketCountWrong)

/-- 'coppicerkeep.ThicketCut': WHATEVER THE INPUT: true; the input reads as it did. -/
def thicketCutSpec : ChangeSpec := { name := "thicketCut", fn := fun _ => fun
  | [d1, d2, d3] => { results := [.lit (.bool true)], args := [d1, d2, d3] }
  | _ => none }
def thicketCutRow : OpenClaim := { program := "ytfchgkifdfgbmaa", sum := "b7cb1ae1b9287bc6396755ebd61a09e2dfabaf5387707b9de49113fd3aa34d2e", func := "coppicer/coppicerkeep.ThicketCut", spec := "thicketCut", unfollowed := true, recurses := true, plainKeys := false, apart := false }
def ThicketCutSaid : Prop := thicketCutRow.holds Try.pinned (OpenSpec.ofChange thicketCutSpec)

/-- ITS FALSE NEIGHBOUR: 'it returns false'. Refute it at one input. -/
def thicketCutWrong : ChangeSpec := { name := "thicketCut", fn := fun _ => fun
  | [d1, d2, d3] => { results := [.lit (.bool false)], args := [d1, d2, d3] }
  | _ => none }
def ThicketCutWrongFalsely : Prop := thicketCutRow.holds Try.pinned (OpenSpec.ofChange thicketCutWrong)

/- THE SECOND FORM. 'bulk': how many values and letters a reading holds, each counted each time it is reached (what is shared counts as often as it is met; a slice's spare places count too). A statement '..UptoSaid' is the law's where the arguments, and the package variables that the reading takes, are together of bulk at most 1048576: NARROWER than '..Said'. Prove '..Said' where nothing that the law and all that it calls make is longer than what came in: it says more and counts as full. Else prove '..UptoSaid'. A law counts once. -/
mutual
def uptoBulk {H : Type} : DataW H → Nat
  | .lit (.string bytes) => bytes.length + 1
  | .lit _ => 1
  | .nil => 1
  | .ptr d => uptoBulk d + 1
  | .slice elems spare => uptoBulkAll elems + uptoBulkAll spare + 1
  | .agg parts => uptoBulkAll parts + 1
  | .iface _ d => uptoBulk d + 1
  | .map entries => uptoBulkEntries entries + 1
  | .held _ => 1
def uptoBulkAll {H : Type} : List (DataW H) → Nat
  | [] => 0
  | d :: r => uptoBulk d + uptoBulkAll r
def uptoBulkEntries {H : Type} : List (Lit × DataW H) → Nat
  | [] => 0
  | x :: r => uptoBulkEntry x + uptoBulkEntries r
def uptoBulkEntry {H : Type} : Lit × DataW H → Nat
  | (.string bytes, d) => bytes.length + uptoBulk d + 1
  | (_, d) => uptoBulk d + 1
 end
def uptoSmall : (H : Type) → List (DataW H) → Bool := fun _ ds => decide (uptoBulkAll ds ≤ 1048576)
def OpenSpec.upto (s : _root_.Go.ChangeSpec) : _root_.Go.OpenSpec := { _root_.Go.OpenSpec.ofChange s with cond := some uptoSmall }

/-- 'coppicerkeep.ThicketSpots', WHERE WHAT IT READS IS OF BULK AT MOST 1048576: true; the input reads as it did. -/
def thicketSpotsUptoRow : OpenClaim := { program := "ytfchgkifdfgbmaa", sum := "b7cb1ae1b9287bc6396755ebd61a09e2dfabaf5387707b9de49113fd3aa34d2e", func := "coppicer/coppicerkeep.ThicketSpots", spec := "thicketSpots", unfollowed := true, recurses := true, plainKeys := false, apart := false, narrowed := true }
def ThicketSpotsUptoSaid : Prop := thicketSpotsUptoRow.holds Try.pinned (OpenSpec.upto thicketSpotsSpec)

/-- 'coppicerkeep.ThicketCount', WHERE WHAT IT READS IS OF BULK AT MOST 1048576: true; the input reads as it did. -/
def thicketCountUptoRow : OpenClaim := { program := "ytfchgkifdfgbmaa", sum := "b7cb1ae1b9287bc6396755ebd61a09e2dfabaf5387707b9de49113fd3aa34d2e", func := "coppicer/coppicerkeep.ThicketCount", spec := "thicketCount", unfollowed := true, recurses := true, plainKeys := false, apart := false, narrowed := true }
def ThicketCountUptoSaid : Prop := thicketCountUptoRow.holds Try.pinned (OpenSpec.upto thicketCountSpec)

/-- 'coppicerkeep.ThicketCut', WHERE WHAT IT READS IS OF BULK AT MOST 1048576: true; the input reads as it did. -/
def thicketCutUptoRow : OpenClaim := { program := "ytfchgkifdfgbmaa", sum := "b7cb1ae1b9287bc6396755ebd61a09e2dfabaf5387707b9de49113fd3aa34d2e", func := "coppicer/coppicerkeep.ThicketCut", spec := "thicketCut", unfollowed := true, recurses := true, plainKeys := false, apart := false, narrowed := true }
def ThicketCutUptoSaid : Prop := thicketCutUptoRow.holds Try.pinned (OpenSpec.upto thicketCutSpec)

end Rows
end Go.Proofs.Ytfchgkifdfgbmaa
