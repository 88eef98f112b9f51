/-
  No cell of these rows narrows 'for every input' (looked for: loops, veiled, ifaces, maps, wideKeys, modest, calm, conditions, laid).
  DERIVED. THE GIVEN ROWS OF THIS SEAT. 12 by the template 'for every input the law returns true; each argument reads behind the call as it read before'; 0 by the template 'total and deterministic' (their statements: YtjjlefbbdnfjiaaTotals.lean).
  GIVEN WITH THE SEED: the statements are not yours to turn. If you find one false, say at which input.
  Laid BY PROGRAM, IN A SANDBOX (cutbox-rows.mjs): the forced cells as the released guide's own fill.sh prints them over the translation c9f9a6a839941d24… (all of the seat's roots in one cut). By AI agents, Wed Nov 11 2026. No macro, syntax, notation, axiom, sorry.
-/
import Derived.Test.YtjjlefbbdnfjiaaChecked
import GoSem.Claim
import GoSem.ClaimJoined
import GoSem.ClaimMapViews
import Derived.JoinedTies
import Derived.KernelRfl
namespace Go.Proofs.Ytjjlefbbdnfjiaa
/- THE CELL 'sum', in the pinned program and in every row, IS THE sha256 OF THE DUMP (.gsa) THAT YtjjlefbbdnfjiaaProg.lean LOADS. Nothing in Lean hashes anything: it is a label: what it is worth is what the hold of that sum in a sandbox is worth. -/
noncomputable def Try.pinned : Pinned := { name := "ytjjlefbbdnfjiaa", sum := "c9f9a6a839941d247c3926646778b5370a83822686e6e538adb2a9f2dca64977", checked := Try.checked }
namespace Rows
def none {H : Type} : Left H := { results := [], args := [] }

/-- 'coppicerkeep.PowerFine': WHATEVER THE INPUT: true; the input reads as it did. -/
def powerFineSpec : ChangeSpec := { name := "powerFine", fn := fun _ => fun
  | [d1, d2, d3] => { results := [.lit (.bool true)], args := [d1, d2, d3] }
  | _ => none }
def powerFineRow : OpenClaim := { program := "ytjjlefbbdnfjiaa", sum := "c9f9a6a839941d247c3926646778b5370a83822686e6e538adb2a9f2dca64977", func := "coppicer/coppicerkeep.PowerFine", spec := "powerFine", apart := false }
def PowerFineSaid : Prop := powerFineRow.holds Try.pinned (OpenSpec.ofChange powerFineSpec)

/-- ITS FALSE NEIGHBOUR: 'it returns false'. Refute it at one input. -/
def powerFineWrong : ChangeSpec := { name := "powerFine", fn := fun _ => fun
  | [d1, d2, d3] => { results := [.lit (.bool false)], args := [d1, d2, d3] }
  | _ => none }
def PowerFineWrongFalsely : Prop := powerFineRow.holds Try.pinned (OpenSpec.ofChange powerFineWrong)

/-- 'coppicerkeep.BeginCover': WHATEVER THE INPUT: true; the input reads as it did. -/
def beginCoverSpec : ChangeSpec := { name := "beginCover", fn := fun _ => fun
  | [d1, d2, d3] => { results := [.lit (.bool true)], args := [d1, d2, d3] }
  | _ => none }
def beginCoverRow : OpenClaim := { program := "ytjjlefbbdnfjiaa", sum := "c9f9a6a839941d247c3926646778b5370a83822686e6e538adb2a9f2dca64977", func := "coppicer/coppicerkeep.BeginCover", spec := "beginCover", apart := false }
def BeginCoverSaid : Prop := beginCoverRow.holds Try.pinned (OpenSpec.ofChange beginCoverSpec)

/-- ITS FALSE NEIGHBOUR: 'it returns false'. Refute it at one input. -/
def beginCoverWrong : ChangeSpec := { name := "beginCover", fn := fun _ => fun
  | [d1, d2, d3] => { results := [.lit (.bool false)], args := [d1, d2, d3] }
  | _ => none }
def BeginCoverWrongFalsely : Prop := beginCoverRow.holds Try.pinned (OpenSpec.ofChange beginCoverWrong)

/-- 'coppicerkeep.EditMetric': WHATEVER THE INPUT: true; the input reads as it did. -/
def editMetricSpec : ChangeSpec := { name := "editMetric", fn := fun _ => fun
  | [d1, d2, d3] => { results := [.lit (.bool true)], args := [d1, d2, d3] }
  | _ => none }
def editMetricRow : OpenClaim := { program := "ytjjlefbbdnfjiaa", sum := "c9f9a6a839941d247c3926646778b5370a83822686e6e538adb2a9f2dca64977", func := "coppicer/coppicerkeep.EditMetric", spec := "editMetric", apart := false }
def EditMetricSaid : Prop := editMetricRow.holds Try.pinned (OpenSpec.ofChange editMetricSpec)

/-- ITS FALSE NEIGHBOUR: 'it returns false'. Refute it at one input. -/
def editMetricWrong : ChangeSpec := { name := "editMetric", fn := fun _ => fun
  | [d1, d2, d3] => { results := [.lit (.bool false)], args := [d1, d2, d3] }
  | _ => none }
def EditMetricWrongFalsely : Prop := editMetricRow.holds Try.pinned (OpenSpec.ofChange editMetricWrong)

/-- 'coppicerkeep.BeginPeriods': WHATEVER THE INPUT: true; the input reads as it did. -/
def beginPeriodsSpec : ChangeSpec := { name := "beginPeriods", fn := fun _ => fun
  | [d1, d2] => { results := [.lit (.bool true)], args := [d1, d2] }
  | _ => none }
def beginPeriodsRow : OpenClaim := { program := "ytjjlefbbdnfjiaa", sum := "c9f9a6a839941d247c3926646778b5370a83822686e6e538adb2a9f2dca64977", func := "coppicer/coppicerkeep.BeginPeriods", spec := "beginPeriods", apart := false }
def BeginPeriodsSaid : Prop := beginPeriodsRow.holds Try.pinned (OpenSpec.ofChange beginPeriodsSpec)

/-- ITS FALSE NEIGHBOUR: 'it returns false'. Refute it at one input. -/
def beginPeriodsWrong : ChangeSpec := { name := "beginPeriods", fn := fun _ => fun
  | [d1, d2] => { results := [.lit (.bool false)], args := [d1, d2] }
  | _ => none }
def BeginPeriodsWrongFalsely : Prop := beginPeriodsRow.holds Try.pinned (OpenSpec.ofChange beginPeriodsWrong)

/-- 'coppicerkeep.PowerRoot': WHATEVER THE INPUT: true; the input reads as it did. -/
def powerRootSpec : ChangeSpec := { name := "powerRoot", fn := fun _ => fun
  | [d] => { results := [.lit (.bool true)], args := [d] }
  | _ => none }
def powerRootRow : OpenClaim := { program := "ytjjlefbbdnfjiaa", sum := "c9f9a6a839941d247c3926646778b5370a83822686e6e538adb2a9f2dca64977", func := "coppicer/coppicerkeep.PowerRoot", spec := "powerRoot", apart := false }
def PowerRootSaid : Prop := powerRootRow.holds Try.pinned (OpenSpec.ofChange powerRootSpec)

/-- ITS FALSE NEIGHBOUR: 'it returns false'. Refute it at one input. -/
def powerRootWrong : ChangeSpec := { name := "powerRoot", fn := fun _ => fun
  | [d] => { results := [.lit (.bool false)], args := [d] }
  | _ => none }
def PowerRootWrongFalsely : Prop := powerRootRow.holds Try.pinned (OpenSpec.ofChange powerRootWrong)

/-- 'coppicerkeep.BorderPeriods': WHATEVER THE INPUT: true; the input reads as it did. -/
def borderPeriodsSpec : ChangeSpec := { name := "borderPeriods", fn := fun _ => fun
  | [d] => { results := [.lit (.bool true)], args := [d] }
  | _ => none }
def borderPeriodsRow : OpenClaim := { program := "ytjjlefbbdnfjiaa", sum := "c9f9a6a839941d247c3926646778b5370a83822686e6e538adb2a9f2dca64977", func := "coppicer/coppicerkeep.BorderPeriods", spec := "borderPeriods", apart := false }
def BorderPeriodsSaid : Prop := borderPeriodsRow.holds Try.pinned (OpenSpec.ofChange borderPeriodsSpec)

/-- ITS FALSE NEIGHBOUR: 'it returns false'. Refute it at one input. -/
def borderPeriodsWrong : ChangeSpec := { name := "borderPeriods", fn := fun _ => fun
  | [d] => { results := [.lit (.bool false)], args := [d] }
  | _ => none }
def BorderPeriodsWrongFalsely : Prop := borderPeriodsRow.holds Try.pinned (OpenSpec.ofChange borderPeriodsWrong)

/-- 'coppicerkeep.LyndonOne': WHATEVER THE INPUT: true; the input reads as it did. -/
def lyndonOneSpec : ChangeSpec := { name := "lyndonOne", fn := fun _ => fun
  | [d] => { results := [.lit (.bool true)], args := [d] }
  | _ => none }
def lyndonOneRow : OpenClaim := { program := "ytjjlefbbdnfjiaa", sum := "c9f9a6a839941d247c3926646778b5370a83822686e6e538adb2a9f2dca64977", func := "coppicer/coppicerkeep.LyndonOne", spec := "lyndonOne", inPlace := ["internal/bytealg.Compare"], apart := false }
def LyndonOneSaid : Prop := lyndonOneRow.holds Try.pinned (OpenSpec.ofChange lyndonOneSpec)

/-- ITS FALSE NEIGHBOUR: 'it returns false'. Refute it at one input. -/
def lyndonOneWrong : ChangeSpec := { name := "lyndonOne", fn := fun _ => fun
  | [d] => { results := [.lit (.bool false)], args := [d] }
  | _ => none }
def LyndonOneWrongFalsely : Prop := lyndonOneRow.holds Try.pinned (OpenSpec.ofChange lyndonOneWrong)

/-- 'coppicerkeep.PowerCommutes': WHATEVER THE INPUT: true; the input reads as it did. -/
def powerCommutesSpec : ChangeSpec := { name := "powerCommutes", fn := fun _ => fun
  | [d1, d2] => { results := [.lit (.bool true)], args := [d1, d2] }
  | _ => none }
def powerCommutesRow : OpenClaim := { program := "ytjjlefbbdnfjiaa", sum := "c9f9a6a839941d247c3926646778b5370a83822686e6e538adb2a9f2dca64977", func := "coppicer/coppicerkeep.PowerCommutes", spec := "powerCommutes", apart := false }
def PowerCommutesSaid : Prop := powerCommutesRow.holds Try.pinned (OpenSpec.ofChange powerCommutesSpec)

/-- ITS FALSE NEIGHBOUR: 'it returns false'. Refute it at one input. -/
def powerCommutesWrong : ChangeSpec := { name := "powerCommutes", fn := fun _ => fun
  | [d1, d2] => { results := [.lit (.bool false)], args := [d1, d2] }
  | _ => none }
def PowerCommutesWrongFalsely : Prop := powerCommutesRow.holds Try.pinned (OpenSpec.ofChange powerCommutesWrong)

/-- 'coppicerkeep.LyndonJoins': WHATEVER THE INPUT: true; the input reads as it did. -/
def lyndonJoinsSpec : ChangeSpec := { name := "lyndonJoins", fn := fun _ => fun
  | [d1, d2] => { results := [.lit (.bool true)], args := [d1, d2] }
  | _ => none }
def lyndonJoinsRow : OpenClaim := { program := "ytjjlefbbdnfjiaa", sum := "c9f9a6a839941d247c3926646778b5370a83822686e6e538adb2a9f2dca64977", func := "coppicer/coppicerkeep.LyndonJoins", spec := "lyndonJoins", inPlace := ["internal/bytealg.Compare"], apart := false }
def LyndonJoinsSaid : Prop := lyndonJoinsRow.holds Try.pinned (OpenSpec.ofChange lyndonJoinsSpec)

/-- ITS FALSE NEIGHBOUR: 'it returns false'. Refute it at one input. -/
def lyndonJoinsWrong : ChangeSpec := { name := "lyndonJoins", fn := fun _ => fun
  | [d1, d2] => { results := [.lit (.bool false)], args := [d1, d2] }
  | _ => none }
def LyndonJoinsWrongFalsely : Prop := lyndonJoinsRow.holds Try.pinned (OpenSpec.ofChange lyndonJoinsWrong)

/-- 'coppicerkeep.LyndonTurn': WHATEVER THE INPUT: true; the input reads as it did. -/
def lyndonTurnSpec : ChangeSpec := { name := "lyndonTurn", fn := fun _ => fun
  | [d1, d2] => { results := [.lit (.bool true)], args := [d1, d2] }
  | _ => none }
def lyndonTurnRow : OpenClaim := { program := "ytjjlefbbdnfjiaa", sum := "c9f9a6a839941d247c3926646778b5370a83822686e6e538adb2a9f2dca64977", func := "coppicer/coppicerkeep.LyndonTurn", spec := "lyndonTurn", inPlace := ["internal/bytealg.Compare"], apart := false }
def LyndonTurnSaid : Prop := lyndonTurnRow.holds Try.pinned (OpenSpec.ofChange lyndonTurnSpec)

/-- ITS FALSE NEIGHBOUR: 'it returns false'. Refute it at one input. -/
def lyndonTurnWrong : ChangeSpec := { name := "lyndonTurn", fn := fun _ => fun
  | [d1, d2] => { results := [.lit (.bool false)], args := [d1, d2] }
  | _ => none }
def LyndonTurnWrongFalsely : Prop := lyndonTurnRow.holds Try.pinned (OpenSpec.ofChange lyndonTurnWrong)

/-- 'coppicerkeep.EditShared': WHATEVER THE INPUT: true; the input reads as it did. -/
def editSharedSpec : ChangeSpec := { name := "editShared", fn := fun _ => fun
  | [d1, d2, d3] => { results := [.lit (.bool true)], args := [d1, d2, d3] }
  | _ => none }
def editSharedRow : OpenClaim := { program := "ytjjlefbbdnfjiaa", sum := "c9f9a6a839941d247c3926646778b5370a83822686e6e538adb2a9f2dca64977", func := "coppicer/coppicerkeep.EditShared", spec := "editShared", inPlace := ["internal/bytealg.Compare"], unfollowed := true, recurses := true, apart := false }
def EditSharedSaid : Prop := editSharedRow.holds Try.pinned (OpenSpec.ofChange editSharedSpec)

/-- ITS FALSE NEIGHBOUR: 'it returns false'. Refute it at one input. -/
def editSharedWrong : ChangeSpec := { name := "editShared", fn := fun _ => fun
  | [d1, d2, d3] => { results := [.lit (.bool false)], args := [d1, d2, d3] }
  | _ => none }
def EditSharedWrongFalsely : Prop := editSharedRow.holds Try.pinned (OpenSpec.ofChange editSharedWrong)

/-- 'coppicerkeep.EndsFew': WHATEVER THE INPUT: true; the input reads as it did. -/
def endsFewSpec : ChangeSpec := { name := "endsFew", fn := fun _ => fun
  | [d1, d2, d3] => { results := [.lit (.bool true)], args := [d1, d2, d3] }
  | _ => none }
def endsFewRow : OpenClaim := { program := "ytjjlefbbdnfjiaa", sum := "c9f9a6a839941d247c3926646778b5370a83822686e6e538adb2a9f2dca64977", func := "coppicer/coppicerkeep.EndsFew", spec := "endsFew", apart := false }
def EndsFewSaid : Prop := endsFewRow.holds Try.pinned (OpenSpec.ofChange endsFewSpec)

/-- ITS FALSE NEIGHBOUR: 'it returns false'. Refute it at one input. -/
def endsFewWrong : ChangeSpec := { name := "endsFew", fn := fun _ => fun
  | [d1, d2, d3] => { results := [.lit (.bool false)], args := [d1, d2, d3] }
  | _ => none }
def EndsFewWrongFalsely : Prop := endsFewRow.holds Try.pinned (OpenSpec.ofChange endsFewWrong)

/- THE SECOND FORM. 'bulk': how many values and letters a reading holds, each counted each time it is reached (what is shared counts as often as it is met; a slice's spare places count too). A statement '..UptoSaid' is the law's where the arguments, and the package variables that the reading takes, are together of bulk at most 1048576: NARROWER than '..Said'. Prove '..Said' where nothing that the law and all that it calls make is longer than what came in: it says more and counts as full. Else prove '..UptoSaid'. A law counts once. -/
mutual
def uptoBulk {H : Type} : DataW H → Nat
  | .lit (.string bytes) => bytes.length + 1
  | .lit _ => 1
  | .nil => 1
  | .ptr d => uptoBulk d + 1
  | .slice elems spare => uptoBulkAll elems + uptoBulkAll spare + 1
  | .agg parts => uptoBulkAll parts + 1
  | .iface _ d => uptoBulk d + 1
  | .map entries => uptoBulkEntries entries + 1
  | .held _ => 1
def uptoBulkAll {H : Type} : List (DataW H) → Nat
  | [] => 0
  | d :: r => uptoBulk d + uptoBulkAll r
def uptoBulkEntries {H : Type} : List (Lit × DataW H) → Nat
  | [] => 0
  | x :: r => uptoBulkEntry x + uptoBulkEntries r
def uptoBulkEntry {H : Type} : Lit × DataW H → Nat
  | (.string bytes, d) => bytes.length + uptoBulk d + 1
  | (_, d) => uptoBulk d + 1
 end
def uptoSmall : (H : Type) → List (DataW H) → Bool := fun _ ds => decide (uptoBulkAll ds ≤ 1048576)
def OpenSpec.upto (s : _root_.Go.ChangeSpec) : _root_.Go.OpenSpec := { _root_.Go.OpenSpec.ofChange s with cond := some uptoSmall }

/-- 'coppicerkeep.PowerFine', WHERE WHAT IT READS IS OF BULK AT MOST 1048576: true; the input reads as it did. -/
def powerFineUptoRow : OpenClaim := { program := "ytjjlefbbdnfjiaa", sum := "c9f9a6a839941d247c3926646778b5370a83822686e6e538adb2a9f2dca64977", func := "coppicer/coppicerkeep.PowerFine", spec := "powerFine", apart := false, narrowed := true }
def PowerFineUptoSaid : Prop := powerFineUptoRow.holds Try.pinned (OpenSpec.upto powerFineSpec)

/-- 'coppicerkeep.BeginCover', WHERE WHAT IT READS IS OF BULK AT MOST 1048576: true; the input reads as it did. -/
def beginCoverUptoRow : OpenClaim := { program := "ytjjlefbbdnfjiaa", sum := "c9f9a6a839941d247c3926646778b5370a83822686e6e538adb2a9f2dca64977", func := "coppicer/coppicerkeep.BeginCover", spec := "beginCover", apart := false, narrowed := true }
def BeginCoverUptoSaid : Prop := beginCoverUptoRow.holds Try.pinned (OpenSpec.upto beginCoverSpec)

/-- 'coppicerkeep.EditMetric', WHERE WHAT IT READS IS OF BULK AT MOST 1048576: true; the input reads as it did. -/
def editMetricUptoRow : OpenClaim := { program := "ytjjlefbbdnfjiaa", sum := "c9f9a6a839941d247c3926646778b5370a83822686e6e538adb2a9f2dca64977", func := "coppicer/coppicerkeep.EditMetric", spec := "editMetric", apart := false, narrowed := true }
def EditMetricUptoSaid : Prop := editMetricUptoRow.holds Try.pinned (OpenSpec.upto editMetricSpec)

/-- 'coppicerkeep.BeginPeriods', WHERE WHAT IT READS IS OF BULK AT MOST 1048576: true; the input reads as it did. -/
def beginPeriodsUptoRow : OpenClaim := { program := "ytjjlefbbdnfjiaa", sum := "c9f9a6a839941d247c3926646778b5370a83822686e6e538adb2a9f2dca64977", func := "coppicer/coppicerkeep.BeginPeriods", spec := "beginPeriods", apart := false, narrowed := true }
def BeginPeriodsUptoSaid : Prop := beginPeriodsUptoRow.holds Try.pinned (OpenSpec.upto beginPeriodsSpec)

/-- 'coppicerkeep.PowerRoot', WHERE WHAT IT READS IS OF BULK AT MOST 1048576: true; the input reads as it did. -/
def powerRootUptoRow : OpenClaim := { program := "ytjjlefbbdnfjiaa", sum := "c9f9a6a839941d247c3926646778b5370a83822686e6e538adb2a9f2dca64977", func := "coppicer/coppicerkeep.PowerRoot", spec := "powerRoot", apart := false, narrowed := true }
def PowerRootUptoSaid : Prop := powerRootUptoRow.holds Try.pinned (OpenSpec.upto powerRootSpec)

/-- 'coppicerkeep.BorderPeriods', WHERE WHAT IT READS IS OF BULK AT MOST 1048576: true; the input reads as it did. -/
def borderPeriodsUptoRow : OpenClaim := { program := "ytjjlefbbdnfjiaa", sum := "c9f9a6a839941d247c3926646778b5370a83822686e6e538adb2a9f2dca64977", func := "coppicer/coppicerkeep.BorderPeriods", spec := "borderPeriods", apart := false, narrowed := true }
def BorderPeriodsUptoSaid : Prop := borderPeriodsUptoRow.holds Try.pinned (OpenSpec.upto borderPeriodsSpec)

/-- 'coppicerkeep.LyndonOne', WHERE WHAT IT READS IS OF BULK AT MOST 1048576: true; the input reads as it did. -/
def lyndonOneUptoRow : OpenClaim := { program := "ytjjlefbbdnfjiaa", sum := "c9f9a6a839941d247c3926646778b5370a83822686e6e538adb2a9f2dca64977", func := "coppicer/coppicerkeep.LyndonOne", spec := "lyndonOne", inPlace := ["internal/bytealg.Compare"], apart := false, narrowed := true }
def LyndonOneUptoSaid : Prop := lyndonOneUptoRow.holds Try.pinned (OpenSpec.upto lyndonOneSpec)

/-- 'coppicerkeep.PowerCommutes', WHERE WHAT IT READS IS OF BULK AT MOST 1048576: true; the input reads as it did. -/
def powerCommutesUptoRow : OpenClaim := { program := "ytjjlefbbdnfjiaa", sum := "c9f9a6a839941d247c3926646778b5370a83822686e6e538adb2a9f2dca64977", func := "coppicer/coppicerkeep.PowerCommutes", spec := "powerCommutes", apart := false, narrowed := true }
def PowerCommutesUptoSaid : Prop := powerCommutesUptoRow.holds Try.pinned (OpenSpec.upto powerCommutesSpec)

/-- 'coppicerkeep.LyndonJoins', WHERE WHAT IT READS IS OF BULK AT MOST 1048576: true; the input reads as it did. -/
def lyndonJoinsUptoRow : OpenClaim := { program := "ytjjlefbbdnfjiaa", sum := "c9f9a6a839941d247c3926646778b5370a83822686e6e538adb2a9f2dca64977", func := "coppicer/coppicerkeep.LyndonJoins", spec := "lyndonJoins", inPlace := ["internal/bytealg.Compare"], apart := false, narrowed := true }
def LyndonJoinsUptoSaid : Prop := lyndonJoinsUptoRow.holds Try.pinned (OpenSpec.upto lyndonJoinsSpec)

/-- 'coppicerkeep.LyndonTurn', WHERE WHAT IT READS IS OF BULK AT MOST 1048576: true; the input reads as it did. -/
def lyndonTurnUptoRow : OpenClaim := { program := "ytjjlefbbdnfjiaa", sum := "c9f9a6a839941d247c3926646778b5370a83822686e6e538adb2a9f2dca64977", func := "coppicer/coppicerkeep.LyndonTurn", spec := "lyndonTurn", inPlace := ["internal/bytealg.Compare"], apart := false, narrowed := true }
def LyndonTurnUptoSaid : Prop := lyndonTurnUptoRow.holds Try.pinned (OpenSpec.upto lyndonTurnSpec)

/-- 'coppicerkeep.EditShared', WHERE WHAT IT READS IS OF BULK AT MOST 1048576: true; the input reads as it did. -/
def editSharedUptoRow : OpenClaim := { program := "ytjjlefbbdnfjiaa", sum := "c9f9a6a839941d247c3926646778b5370a83822686e6e538adb2a9f2dca64977", func := "coppicer/coppicerkeep.EditShared", spec := "editShared", inPlace := ["internal/bytealg.Compare"], unfollowed := true, recurses := true, apart := false, narrowed := true }
def EditSharedUptoSaid : Prop := editSharedUptoRow.holds Try.pinned (OpenSpec.upto editSharedSpec)

/-- 'coppicerkeep.EndsFew', WHERE WHAT IT READS IS OF BULK AT MOST 1048576: true; the input reads as it did. -/
def endsFewUptoRow : OpenClaim := { program := "ytjjlefbbdnfjiaa", sum := "c9f9a6a839941d247c3926646778b5370a83822686e6e538adb2a9f2dca64977", func := "coppicer/coppicerkeep.EndsFew", spec := "endsFew", apart := false, narrowed := true }
def EndsFewUptoSaid : Prop := endsFewUptoRow.holds Try.pinned (OpenSpec.upto endsFewSpec)

end Rows
end Go.Proofs.Ytjjlefbbdnfjiaa
