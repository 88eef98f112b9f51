/-
  No cell of these rows narrows 'for every input' (looked for: loops, veiled, ifaces, maps, wideKeys, modest, calm, conditions, laid).
  DERIVED. THE GIVEN ROWS OF THIS SEAT. 12 by the template 'for every input the law returns true; each argument reads behind the call as it read before'; 0 by the template 'total and deterministic' (their statements: YtfpchbpnoggogaaTotals.lean).
  GIVEN WITH THE SEED: the statements are not yours to turn. If you find one false, say at which input.
  Laid BY PROGRAM, IN A SANDBOX (cutbox-rows.mjs): the forced cells as the released guide's own fill.sh prints them over the translation a26dc6d0486f8644… (all of the seat's roots in one cut). By AI agents, Wed Nov 11 2026. No macro, syntax, notation, axiom, sorry.
-/
import Derived.Test.YtfpchbpnoggogaaChecked
import GoSem.Claim
import GoSem.ClaimJoined
import GoSem.ClaimMapViews
import Derived.JoinedTies
import Derived.KernelRfl
namespace Go.Proofs.Ytfpchbpnoggogaa
/- THE CELL 'sum', in the pinned program and in every row, IS THE sha256 OF THE DUMP (.gsa) THAT YtfpchbpnoggogaaProg.lean LOADS. Nothing in Lean hashes anything: it is a label: what it is worth is what the hold of that sum in a sandbox is worth. -/
noncomputable def Try.pinned : Pinned := { name := "ytfpchbpnoggogaa", sum := "a26dc6d0486f8644a81c38fd8096018aee1a60d844c8ba1d956efe8f70c5868e", checked := Try.checked }
namespace Rows
def none {H : Type} : Left H := { results := [], args := [] }

/-- 'coppicerkeep.GrammarSets': WHATEVER THE INPUT: true; the input reads as it did. -/
def grammarSetsSpec : ChangeSpec := { name := "grammarSets", fn := fun _ => fun
  | [d1, d2] => { results := [.lit (.bool true)], args := [d1, d2] }
  | _ => none }
def grammarSetsRow : OpenClaim := { program := "ytfpchbpnoggogaa", sum := "a26dc6d0486f8644a81c38fd8096018aee1a60d844c8ba1d956efe8f70c5868e", func := "coppicer/coppicerkeep.GrammarSets", spec := "grammarSets", unfollowed := true, recurses := true, plainKeys := false, apart := false }
def GrammarSetsSaid : Prop := grammarSetsRow.holds Try.pinned (OpenSpec.ofChange grammarSetsSpec)

/-- ITS FALSE NEIGHBOUR: 'it returns false'. Refute it at one input. -/
def grammarSetsWrong : ChangeSpec := { name := "grammarSets", fn := fun _ => fun
  | [d1, d2] => { results := [.lit (.bool false)], args := [d1, d2] }
  | _ => none }
def GrammarSetsWrongFalsely : Prop := grammarSetsRow.holds Try.pinned (OpenSpec.ofChange grammarSetsWrong)

/-- 'coppicerkeep.TableJoins': WHATEVER THE INPUT: true; the input reads as it did. -/
def tableJoinsSpec : ChangeSpec := { name := "tableJoins", fn := fun _ => fun
  | [d1, d2, d3] => { results := [.lit (.bool true)], args := [d1, d2, d3] }
  | _ => none }
def tableJoinsRow : OpenClaim := { program := "ytfpchbpnoggogaa", sum := "a26dc6d0486f8644a81c38fd8096018aee1a60d844c8ba1d956efe8f70c5868e", func := "coppicer/coppicerkeep.TableJoins", spec := "tableJoins", unfollowed := true, recurses := true, plainKeys := false, apart := false }
def TableJoinsSaid : Prop := tableJoinsRow.holds Try.pinned (OpenSpec.ofChange tableJoinsSpec)

/-- ITS FALSE NEIGHBOUR: 'it returns false'. Refute it at one input. -/
def tableJoinsWrong : ChangeSpec := { name := "tableJoins", fn := fun _ => fun
  | [d1, d2, d3] => { results := [.lit (.bool false)], args := [d1, d2, d3] }
  | _ => none }
def TableJoinsWrongFalsely : Prop := tableJoinsRow.holds Try.pinned (OpenSpec.ofChange tableJoinsWrong)

/-- 'coppicerkeep.TableMore': WHATEVER THE INPUT: true; the input reads as it did. -/
def tableMoreSpec : ChangeSpec := { name := "tableMore", fn := fun _ => fun
  | [d1, d2, d3] => { results := [.lit (.bool true)], args := [d1, d2, d3] }
  | _ => none }
def tableMoreRow : OpenClaim := { program := "ytfpchbpnoggogaa", sum := "a26dc6d0486f8644a81c38fd8096018aee1a60d844c8ba1d956efe8f70c5868e", func := "coppicer/coppicerkeep.TableMore", spec := "tableMore", unfollowed := true, recurses := true, plainKeys := false, apart := false }
def TableMoreSaid : Prop := tableMoreRow.holds Try.pinned (OpenSpec.ofChange tableMoreSpec)

/-- ITS FALSE NEIGHBOUR: 'it returns false'. Refute it at one input. -/
def tableMoreWrong : ChangeSpec := { name := "tableMore", fn := fun _ => fun
  | [d1, d2, d3] => { results := [.lit (.bool false)], args := [d1, d2, d3] }
  | _ => none }
def TableMoreWrongFalsely : Prop := tableMoreRow.holds Try.pinned (OpenSpec.ofChange tableMoreWrong)

/-- 'coppicerkeep.PlainLong': WHATEVER THE INPUT: true; the input reads as it did. -/
def plainLongSpec : ChangeSpec := { name := "plainLong", fn := fun _ => fun
  | [d1, d2] => { results := [.lit (.bool true)], args := [d1, d2] }
  | _ => none }
def plainLongRow : OpenClaim := { program := "ytfpchbpnoggogaa", sum := "a26dc6d0486f8644a81c38fd8096018aee1a60d844c8ba1d956efe8f70c5868e", func := "coppicer/coppicerkeep.PlainLong", spec := "plainLong", unfollowed := true, recurses := true, plainKeys := false, apart := false }
def PlainLongSaid : Prop := plainLongRow.holds Try.pinned (OpenSpec.ofChange plainLongSpec)

/-- ITS FALSE NEIGHBOUR: 'it returns false'. Refute it at one input. -/
def plainLongWrong : ChangeSpec := { name := "plainLong", fn := fun _ => fun
  | [d1, d2] => { results := [.lit (.bool false)], args := [d1, d2] }
  | _ => none }
def PlainLongWrongFalsely : Prop := plainLongRow.holds Try.pinned (OpenSpec.ofChange plainLongWrong)

/-- 'coppicerkeep.AheadOne': WHATEVER THE INPUT: true; the input reads as it did. -/
def aheadOneSpec : ChangeSpec := { name := "aheadOne", fn := fun _ => fun
  | [d1, d2] => { results := [.lit (.bool true)], args := [d1, d2] }
  | _ => none }
def aheadOneRow : OpenClaim := { program := "ytfpchbpnoggogaa", sum := "a26dc6d0486f8644a81c38fd8096018aee1a60d844c8ba1d956efe8f70c5868e", func := "coppicer/coppicerkeep.AheadOne", spec := "aheadOne", unfollowed := true, recurses := true, plainKeys := false, apart := false }
def AheadOneSaid : Prop := aheadOneRow.holds Try.pinned (OpenSpec.ofChange aheadOneSpec)

/-- ITS FALSE NEIGHBOUR: 'it returns false'. Refute it at one input. -/
def aheadOneWrong : ChangeSpec := { name := "aheadOne", fn := fun _ => fun
  | [d1, d2] => { results := [.lit (.bool false)], args := [d1, d2] }
  | _ => none }
def AheadOneWrongFalsely : Prop := aheadOneRow.holds Try.pinned (OpenSpec.ofChange aheadOneWrong)

/-- 'coppicerkeep.AheadSteps': WHATEVER THE INPUT: true; the input reads as it did. -/
def aheadStepsSpec : ChangeSpec := { name := "aheadSteps", fn := fun _ => fun
  | [d1, d2] => { results := [.lit (.bool true)], args := [d1, d2] }
  | _ => none }
def aheadStepsRow : OpenClaim := { program := "ytfpchbpnoggogaa", sum := "a26dc6d0486f8644a81c38fd8096018aee1a60d844c8ba1d956efe8f70c5868e", func := "coppicer/coppicerkeep.AheadSteps", spec := "aheadSteps", unfollowed := true, recurses := true, plainKeys := false, apart := false }
def AheadStepsSaid : Prop := aheadStepsRow.holds Try.pinned (OpenSpec.ofChange aheadStepsSpec)

/-- ITS FALSE NEIGHBOUR: 'it returns false'. Refute it at one input. -/
def aheadStepsWrong : ChangeSpec := { name := "aheadSteps", fn := fun _ => fun
  | [d1, d2] => { results := [.lit (.bool false)], args := [d1, d2] }
  | _ => none }
def AheadStepsWrongFalsely : Prop := aheadStepsRow.holds Try.pinned (OpenSpec.ofChange aheadStepsWrong)

/-- 'coppicerkeep.ItemsFront': WHATEVER THE INPUT: true; the input reads as it did. -/
def itemsFrontSpec : ChangeSpec := { name := "itemsFront", fn := fun _ => fun
  | [d1, d2, d3] => { results := [.lit (.bool true)], args := [d1, d2, d3] }
  | _ => none }
def itemsFrontRow : OpenClaim := { program := "ytfpchbpnoggogaa", sum := "a26dc6d0486f8644a81c38fd8096018aee1a60d844c8ba1d956efe8f70c5868e", func := "coppicer/coppicerkeep.ItemsFront", spec := "itemsFront", unfollowed := true, recurses := true, plainKeys := false, apart := false }
def ItemsFrontSaid : Prop := itemsFrontRow.holds Try.pinned (OpenSpec.ofChange itemsFrontSpec)

/-- ITS FALSE NEIGHBOUR: 'it returns false'. Refute it at one input. -/
def itemsFrontWrong : ChangeSpec := { name := "itemsFront", fn := fun _ => fun
  | [d1, d2, d3] => { results := [.lit (.bool false)], args := [d1, d2, d3] }
  | _ => none }
def ItemsFrontWrongFalsely : Prop := itemsFrontRow.holds Try.pinned (OpenSpec.ofChange itemsFrontWrong)

/-- 'coppicerkeep.PickRise': WHATEVER THE INPUT: true; the input reads as it did. -/
def pickRiseSpec : ChangeSpec := { name := "pickRise", fn := fun _ => fun
  | [d1, d2, d3, d4] => { results := [.lit (.bool true)], args := [d1, d2, d3, d4] }
  | _ => none }
def pickRiseRow : OpenClaim := { program := "ytfpchbpnoggogaa", sum := "a26dc6d0486f8644a81c38fd8096018aee1a60d844c8ba1d956efe8f70c5868e", func := "coppicer/coppicerkeep.PickRise", spec := "pickRise", unfollowed := true, recurses := true, plainKeys := false, apart := false }
def PickRiseSaid : Prop := pickRiseRow.holds Try.pinned (OpenSpec.ofChange pickRiseSpec)

/-- ITS FALSE NEIGHBOUR: 'it returns false'. Refute it at one input. -/
def pickRiseWrong : ChangeSpec := { name := "pickRise", fn := fun _ => fun
  | [d1, d2, d3, d4] => { results := [.lit (.bool false)], args := [d1, d2, d3, d4] }
  | _ => none }
def PickRiseWrongFalsely : Prop := pickRiseRow.holds Try.pinned (OpenSpec.ofChange pickRiseWrong)

/-- 'coppicerkeep.PickBack': WHATEVER THE INPUT: true; the input reads as it did. -/
def pickBackSpec : ChangeSpec := { name := "pickBack", fn := fun _ => fun
  | [d1, d2, d3] => { results := [.lit (.bool true)], args := [d1, d2, d3] }
  | _ => none }
def pickBackRow : OpenClaim := { program := "ytfpchbpnoggogaa", sum := "a26dc6d0486f8644a81c38fd8096018aee1a60d844c8ba1d956efe8f70c5868e", func := "coppicer/coppicerkeep.PickBack", spec := "pickBack", unfollowed := true, recurses := true, plainKeys := false, apart := false }
def PickBackSaid : Prop := pickBackRow.holds Try.pinned (OpenSpec.ofChange pickBackSpec)

/-- ITS FALSE NEIGHBOUR: 'it returns false'. Refute it at one input. -/
def pickBackWrong : ChangeSpec := { name := "pickBack", fn := fun _ => fun
  | [d1, d2, d3] => { results := [.lit (.bool false)], args := [d1, d2, d3] }
  | _ => none }
def PickBackWrongFalsely : Prop := pickBackRow.holds Try.pinned (OpenSpec.ofChange pickBackWrong)

/-- 'coppicerkeep.PickMakes': WHATEVER THE INPUT: true; the input reads as it did. -/
def pickMakesSpec : ChangeSpec := { name := "pickMakes", fn := fun _ => fun
  | [d1, d2] => { results := [.lit (.bool true)], args := [d1, d2] }
  | _ => none }
def pickMakesRow : OpenClaim := { program := "ytfpchbpnoggogaa", sum := "a26dc6d0486f8644a81c38fd8096018aee1a60d844c8ba1d956efe8f70c5868e", func := "coppicer/coppicerkeep.PickMakes", spec := "pickMakes", unfollowed := true, recurses := true, plainKeys := false, apart := false }
def PickMakesSaid : Prop := pickMakesRow.holds Try.pinned (OpenSpec.ofChange pickMakesSpec)

/-- ITS FALSE NEIGHBOUR: 'it returns false'. Refute it at one input. -/
def pickMakesWrong : ChangeSpec := { name := "pickMakes", fn := fun _ => fun
  | [d1, d2] => { results := [.lit (.bool false)], args := [d1, d2] }
  | _ => none }
def PickMakesWrongFalsely : Prop := pickMakesRow.holds Try.pinned (OpenSpec.ofChange pickMakesWrong)

/-- 'coppicertop.TopTrees': WHATEVER THE INPUT: true; the input reads as it did. -/
def topTreesSpec : ChangeSpec := { name := "topTrees", fn := fun _ => fun
  | [d1, d2, d3, d4, d5] => { results := [.lit (.bool true)], args := [d1, d2, d3, d4, d5] }
  | _ => none }
def topTreesRow : OpenClaim := { program := "ytfpchbpnoggogaa", sum := "a26dc6d0486f8644a81c38fd8096018aee1a60d844c8ba1d956efe8f70c5868e", func := "coppicer/coppicertop.TopTrees", spec := "topTrees", unfollowed := true, recurses := true, plainKeys := false, apart := false }
def TopTreesSaid : Prop := topTreesRow.holds Try.pinned (OpenSpec.ofChange topTreesSpec)

/-- ITS FALSE NEIGHBOUR: 'it returns false'. Refute it at one input. -/
def topTreesWrong : ChangeSpec := { name := "topTrees", fn := fun _ => fun
  | [d1, d2, d3, d4, d5] => { results := [.lit (.bool false)], args := [d1, d2, d3, d4, d5] }
  | _ => none }
def TopTreesWrongFalsely : Prop := topTreesRow.holds Try.pinned (OpenSpec.ofChange topTreesWrong)

/-- 'coppicertop.TopFront': WHATEVER THE INPUT: true; the input reads as it did. -/
def topFrontSpec : ChangeSpec := { name := "topFront", fn := fun _ => fun
  | [d1, d2, d3, d4] => { results := [.lit (.bool true)], args := [d1, d2, d3, d4] }
  | _ => none }
def topFrontRow : OpenClaim := { program := "ytfpchbpnoggogaa", sum := "a26dc6d0486f8644a81c38fd8096018aee1a60d844c8ba1d956efe8f70c5868e", func := "coppicer/coppicertop.TopFront", spec := "topFront", unfollowed := true, recurses := true, plainKeys := false, apart := false }
def TopFrontSaid : Prop := topFrontRow.holds Try.pinned (OpenSpec.ofChange topFrontSpec)

/-- ITS FALSE NEIGHBOUR: 'it returns false'. Refute it at one input. -/
def topFrontWrong : ChangeSpec := { name := "topFront", fn := fun _ => fun
  | [d1, d2, d3, d4] => { results := [.lit (.bool false)], args := [d1, d2, d3, d4] }
  | _ => none }
def TopFrontWrongFalsely : Prop := topFrontRow.holds Try.pinned (OpenSpec.ofChange topFrontWrong)

/- THE SECOND FORM. 'bulk': how many values and letters a reading holds, each counted each time it is reached (what is shared counts as often as it is met; a slice's spare places count too). A statement '..UptoSaid' is the law's where the arguments, and the package variables that the reading takes, are together of bulk at most 1048576: NARROWER than '..Said'. Prove '..Said' where nothing that the law and all that it calls make is longer than what came in: it says more and counts as full. Else prove '..UptoSaid'. A law counts once. -/
mutual
def uptoBulk {H : Type} : DataW H → Nat
  | .lit (.string bytes) => bytes.length + 1
  | .lit _ => 1
  | .nil => 1
  | .ptr d => uptoBulk d + 1
  | .slice elems spare => uptoBulkAll elems + uptoBulkAll spare + 1
  | .agg parts => uptoBulkAll parts + 1
  | .iface _ d => uptoBulk d + 1
  | .map entries => uptoBulkEntries entries + 1
  | .held _ => 1
def uptoBulkAll {H : Type} : List (DataW H) → Nat
  | [] => 0
  | d :: r => uptoBulk d + uptoBulkAll r
def uptoBulkEntries {H : Type} : List (Lit × DataW H) → Nat
  | [] => 0
  | x :: r => uptoBulkEntry x + uptoBulkEntries r
def uptoBulkEntry {H : Type} : Lit × DataW H → Nat
  | (.string bytes, d) => bytes.length + uptoBulk d + 1
  | (_, d) => uptoBulk d + 1
 end
def uptoSmall : (H : Type) → List (DataW H) → Bool := fun _ ds => decide (uptoBulkAll ds ≤ 1048576)
def OpenSpec.upto (s : _root_.Go.ChangeSpec) : _root_.Go.OpenSpec := { _root_.Go.OpenSpec.ofChange s with cond := some uptoSmall }

/-- 'coppicerkeep.GrammarSets', WHERE WHAT IT READS IS OF BULK AT MOST 1048576: true; the input reads as it did. -/
def grammarSetsUptoRow : OpenClaim := { program := "ytfpchbpnoggogaa", sum := "a26dc6d0486f8644a81c38fd8096018aee1a60d844c8ba1d956efe8f70c5868e", func := "coppicer/coppicerkeep.GrammarSets", spec := "grammarSets", unfollowed := true, recurses := true, plainKeys := false, apart := false, narrowed := true }
def GrammarSetsUptoSaid : Prop := grammarSetsUptoRow.holds Try.pinned (OpenSpec.upto grammarSetsSpec)

/-- 'coppicerkeep.TableJoins', WHERE WHAT IT READS IS OF BULK AT MOST 1048576: true; the input reads as it did. -/
def tableJoinsUptoRow : OpenClaim := { program := "ytfpchbpnoggogaa", sum := "a26dc6d0486f8644a81c38fd8096018aee1a60d844c8ba1d956efe8f70c5868e", func := "coppicer/coppicerkeep.TableJoins", spec := "tableJoins", unfollowed := true, recurses := true, plainKeys := false, apart := false, narrowed := true }
def TableJoinsUptoSaid : Prop := tableJoinsUptoRow.holds Try.pinned (OpenSpec.upto tableJoinsSpec)

/-- 'coppicerkeep.TableMore', WHERE WHAT IT READS IS OF BULK AT MOST 1048576: true; the input reads as it did. -/
def tableMoreUptoRow : OpenClaim := { program := "ytfpchbpnoggogaa", sum := "a26dc6d0486f8644a81c38fd8096018aee1a60d844c8ba1d956efe8f70c5868e", func := "coppicer/coppicerkeep.TableMore", spec := "tableMore", unfollowed := true, recurses := true, plainKeys := false, apart := false, narrowed := true }
def TableMoreUptoSaid : Prop := tableMoreUptoRow.holds Try.pinned (OpenSpec.upto tableMoreSpec)

/-- 'coppicerkeep.PlainLong', WHERE WHAT IT READS IS OF BULK AT MOST 1048576: true; the input reads as it did. -/
def plainLongUptoRow : OpenClaim := { program := "ytfpchbpnoggogaa", sum := "a26dc6d0486f8644a81c38fd8096018aee1a60d844c8ba1d956efe8f70c5868e", func := "coppicer/coppicerkeep.PlainLong", spec := "plainLong", unfollowed := true, recurses := true, plainKeys := false, apart := false, narrowed := true }
def PlainLongUptoSaid : Prop := plainLongUptoRow.holds Try.pinned (OpenSpec.upto plainLongSpec)

/-- 'coppicerkeep.AheadOne', WHERE WHAT IT READS IS OF BULK AT MOST 1048576: true; the input reads as it did. -/
def aheadOneUptoRow : OpenClaim := { program := "ytfpchbpnoggogaa", sum := "a26dc6d0486f8644a81c38fd8096018aee1a60d844c8ba1d956efe8f70c5868e", func := "coppicer/coppicerkeep.AheadOne", spec := "aheadOne", unfollowed := true, recurses := true, plainKeys := false, apart := false, narrowed := true }
def AheadOneUptoSaid : Prop := aheadOneUptoRow.holds Try.pinned (OpenSpec.upto aheadOneSpec)

/-- 'coppicerkeep.AheadSteps', WHERE WHAT IT READS IS OF BULK AT MOST 1048576: true; the input reads as it did. -/
def aheadStepsUptoRow : OpenClaim := { program := "ytfpchbpnoggogaa", sum := "a26dc6d0486f8644a81c38fd8096018aee1a60d844c8ba1d956efe8f70c5868e", func := "coppicer/coppicerkeep.AheadSteps", spec := "aheadSteps", unfollowed := true, recurses := true, plainKeys := false, apart := false, narrowed := true }
def AheadStepsUptoSaid : Prop := aheadStepsUptoRow.holds Try.pinned (OpenSpec.upto aheadStepsSpec)

/-- 'coppicerkeep.ItemsFront', WHERE WHAT IT READS IS OF BULK AT MOST 1048576: true; the input reads as it did. -/
def itemsFrontUptoRow : OpenClaim := { program := "ytfpchbpnoggogaa", sum := "a26dc6d0486f8644a81c38fd8096018aee1a60d844c8ba1d956efe8f70c5868e", func := "coppicer/coppicerkeep.ItemsFront", spec := "itemsFront", unfollowed := true, recurses := true, plainKeys := false, apart := false, narrowed := true }
def ItemsFrontUptoSaid : Prop := itemsFrontUptoRow.holds Try.pinned (OpenSpec.upto itemsFrontSpec)

/-- 'coppicerkeep.PickRise', WHERE WHAT IT READS IS OF BULK AT MOST 1048576: true; the input reads as it did. -/
def pickRiseUptoRow : OpenClaim := { program := "ytfpchbpnoggogaa", sum := "a26dc6d0486f8644a81c38fd8096018aee1a60d844c8ba1d956efe8f70c5868e", func := "coppicer/coppicerkeep.PickRise", spec := "pickRise", unfollowed := true, recurses := true, plainKeys := false, apart := false, narrowed := true }
def PickRiseUptoSaid : Prop := pickRiseUptoRow.holds Try.pinned (OpenSpec.upto pickRiseSpec)

/-- 'coppicerkeep.PickBack', WHERE WHAT IT READS IS OF BULK AT MOST 1048576: true; the input reads as it did. -/
def pickBackUptoRow : OpenClaim := { program := "ytfpchbpnoggogaa", sum := "a26dc6d0486f8644a81c38fd8096018aee1a60d844c8ba1d956efe8f70c5868e", func := "coppicer/coppicerkeep.PickBack", spec := "pickBack", unfollowed := true, recurses := true, plainKeys := false, apart := false, narrowed := true }
def PickBackUptoSaid : Prop := pickBackUptoRow.holds Try.pinned (OpenSpec.upto pickBackSpec)

/-- 'coppicerkeep.PickMakes', WHERE WHAT IT READS IS OF BULK AT MOST 1048576: true; the input reads as it did. -/
def pickMakesUptoRow : OpenClaim := { program := "ytfpchbpnoggogaa", sum := "a26dc6d0486f8644a81c38fd8096018aee1a60d844c8ba1d956efe8f70c5868e", func := "coppicer/coppicerkeep.PickMakes", spec := "pickMakes", unfollowed := true, recurses := true, plainKeys := false, apart := false, narrowed := true }
def PickMakesUptoSaid : Prop := pickMakesUptoRow.holds Try.pinned (OpenSpec.upto pickMakesSpec)

/-- 'coppicertop.TopTrees', WHERE WHAT IT READS IS OF BULK AT MOST 1048576: true; the input reads as it did. -/
def topTreesUptoRow : OpenClaim := { program := "ytfpchbpnoggogaa", sum := "a26dc6d0486f8644a81c38fd8096018aee1a60d844c8ba1d956efe8f70c5868e", func := "coppicer/coppicertop.TopTrees", spec := "topTrees", unfollowed := true, recurses := true, plainKeys := false, apart := false, narrowed := true }
def TopTreesUptoSaid : Prop := topTreesUptoRow.holds Try.pinned (OpenSpec.upto topTreesSpec)

/-- 'coppicertop.TopFront', WHERE WHAT IT READS IS OF BULK AT MOST 1048576: true; the input reads as it did. -/
def topFrontUptoRow : OpenClaim := { program := "ytfpchbpnoggogaa", sum := "a26dc6d0486f8644a81c38fd8096018aee1a60d844c8ba1d956efe8f70c5868e", func := "coppicer/coppicertop.TopFront", spec := "topFront", unfollowed := true, recurses := true, plainKeys := false, apart := false, narrowed := true }
def TopFrontUptoSaid : Prop := topFrontUptoRow.holds Try.pinned (OpenSpec.upto topFrontSpec)

end Rows
end Go.Proofs.Ytfpchbpnoggogaa
