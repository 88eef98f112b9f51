/-
  No cell of these rows narrows 'for every input' (looked for: loops, veiled, ifaces, maps, wideKeys, modest, calm, conditions, laid).
  DERIVED. THE GIVEN ROWS OF THIS SEAT. 11 by the template 'for every input the law returns true; each argument reads behind the call as it read before'; 0 by the template 'total and deterministic' (their statements: YtckghdhnmpnljaaTotals.lean).
  GIVEN WITH THE SEED: the statements are not yours to turn. If you find one false, say at which input.
  Laid BY PROGRAM, IN A SANDBOX (cutbox-rows.mjs): the forced cells as the released guide's own fill.sh prints them over the translation b33deec650259e3d… (all of the seat's roots in one cut). By AI agents, Wed Nov 11 2026. No macro, syntax, notation, axiom, sorry.
-/
import Derived.Test.YtckghdhnmpnljaaChecked
import GoSem.Claim
import GoSem.ClaimJoined
import GoSem.ClaimMapViews
import Derived.JoinedTies
import Derived.KernelRfl
namespace Go.Proofs.Ytckghdhnmpnljaa
/- THE CELL 'sum', in the pinned program and in every row, IS THE sha256 OF THE DUMP (.gsa) THAT YtckghdhnmpnljaaProg.lean LOADS. Nothing in Lean hashes anything: it is a label: what it is worth is what the hold of that sum in a sandbox is worth. -/
noncomputable def Try.pinned : Pinned := { name := "ytckghdhnmpnljaa", sum := "b33deec650259e3d1a679d0ec35a126b12bc560112c9183cecc6655b91ae08e0", checked := Try.checked }
namespace Rows
def none {H : Type} : Left H := { results := [], args := [] }

/-- 'coppicerkeep.TurnerFront': WHATEVER THE INPUT: true; the input reads as it did. -/
def turnerFrontSpec : ChangeSpec := { name := "turnerFront", fn := fun _ => fun
  | [d1, d2, d3] => { results := [.lit (.bool true)], args := [d1, d2, d3] }
  | _ => none }
def turnerFrontRow : OpenClaim := { program := "ytckghdhnmpnljaa", sum := "b33deec650259e3d1a679d0ec35a126b12bc560112c9183cecc6655b91ae08e0", func := "coppicer/coppicerkeep.TurnerFront", spec := "turnerFront", unfollowed := true, recurses := true, plainKeys := false, apart := false }
def TurnerFrontSaid : Prop := turnerFrontRow.holds Try.pinned (OpenSpec.ofChange turnerFrontSpec)

/-- ITS FALSE NEIGHBOUR: 'it returns false'. Refute it at one input. -/
def turnerFrontWrong : ChangeSpec := { name := "turnerFront", fn := fun _ => fun
  | [d1, d2, d3] => { results := [.lit (.bool false)], args := [d1, d2, d3] }
  | _ => none }
def TurnerFrontWrongFalsely : Prop := turnerFrontRow.holds Try.pinned (OpenSpec.ofChange turnerFrontWrong)

/-- 'coppicerkeep.TurnerThen': WHATEVER THE INPUT: true; the input reads as it did. -/
def turnerThenSpec : ChangeSpec := { name := "turnerThen", fn := fun _ => fun
  | [d1, d2, d3] => { results := [.lit (.bool true)], args := [d1, d2, d3] }
  | _ => none }
def turnerThenRow : OpenClaim := { program := "ytckghdhnmpnljaa", sum := "b33deec650259e3d1a679d0ec35a126b12bc560112c9183cecc6655b91ae08e0", func := "coppicer/coppicerkeep.TurnerThen", spec := "turnerThen", unfollowed := true, recurses := true, plainKeys := false, apart := false }
def TurnerThenSaid : Prop := turnerThenRow.holds Try.pinned (OpenSpec.ofChange turnerThenSpec)

/-- ITS FALSE NEIGHBOUR: 'it returns false'. Refute it at one input. -/
def turnerThenWrong : ChangeSpec := { name := "turnerThen", fn := fun _ => fun
  | [d1, d2, d3] => { results := [.lit (.bool false)], args := [d1, d2, d3] }
  | _ => none }
def TurnerThenWrongFalsely : Prop := turnerThenRow.holds Try.pinned (OpenSpec.ofChange turnerThenWrong)

/-- 'coppicerkeep.TurnerBefore': WHATEVER THE INPUT: true; the input reads as it did. -/
def turnerBeforeSpec : ChangeSpec := { name := "turnerBefore", fn := fun _ => fun
  | [d1, d2, d3] => { results := [.lit (.bool true)], args := [d1, d2, d3] }
  | _ => none }
def turnerBeforeRow : OpenClaim := { program := "ytckghdhnmpnljaa", sum := "b33deec650259e3d1a679d0ec35a126b12bc560112c9183cecc6655b91ae08e0", func := "coppicer/coppicerkeep.TurnerBefore", spec := "turnerBefore", unfollowed := true, recurses := true, plainKeys := false, apart := false }
def TurnerBeforeSaid : Prop := turnerBeforeRow.holds Try.pinned (OpenSpec.ofChange turnerBeforeSpec)

/-- ITS FALSE NEIGHBOUR: 'it returns false'. Refute it at one input. -/
def turnerBeforeWrong : ChangeSpec := { name := "turnerBefore", fn := fun _ => fun
  | [d1, d2, d3] => { results := [.lit (.bool false)], args := [d1, d2, d3] }
  | _ => none }
def TurnerBeforeWrongFalsely : Prop := turnerBeforeRow.holds Try.pinned (OpenSpec.ofChange turnerBeforeWrong)

/-- 'coppicerkeep.SentenceStar': WHATEVER THE INPUT: true; the input reads as it did. -/
def sentenceStarSpec : ChangeSpec := { name := "sentenceStar", fn := fun _ => fun
  | [d1, d2, d3] => { results := [.lit (.bool true)], args := [d1, d2, d3] }
  | _ => none }
def sentenceStarRow : OpenClaim := { program := "ytckghdhnmpnljaa", sum := "b33deec650259e3d1a679d0ec35a126b12bc560112c9183cecc6655b91ae08e0", func := "coppicer/coppicerkeep.SentenceStar", spec := "sentenceStar", unfollowed := true, recurses := true, plainKeys := false, apart := false }
def SentenceStarSaid : Prop := sentenceStarRow.holds Try.pinned (OpenSpec.ofChange sentenceStarSpec)

/-- ITS FALSE NEIGHBOUR: 'it returns false'. Refute it at one input. -/
def sentenceStarWrong : ChangeSpec := { name := "sentenceStar", fn := fun _ => fun
  | [d1, d2, d3] => { results := [.lit (.bool false)], args := [d1, d2, d3] }
  | _ => none }
def SentenceStarWrongFalsely : Prop := sentenceStarRow.holds Try.pinned (OpenSpec.ofChange sentenceStarWrong)

/-- 'coppicerkeep.SentenceBack': WHATEVER THE INPUT: true; the input reads as it did. -/
def sentenceBackSpec : ChangeSpec := { name := "sentenceBack", fn := fun _ => fun
  | [d1, d2, d3] => { results := [.lit (.bool true)], args := [d1, d2, d3] }
  | _ => none }
def sentenceBackRow : OpenClaim := { program := "ytckghdhnmpnljaa", sum := "b33deec650259e3d1a679d0ec35a126b12bc560112c9183cecc6655b91ae08e0", func := "coppicer/coppicerkeep.SentenceBack", spec := "sentenceBack", unfollowed := true, recurses := true, plainKeys := false, apart := false }
def SentenceBackSaid : Prop := sentenceBackRow.holds Try.pinned (OpenSpec.ofChange sentenceBackSpec)

/-- ITS FALSE NEIGHBOUR: 'it returns false'. Refute it at one input. -/
def sentenceBackWrong : ChangeSpec := { name := "sentenceBack", fn := fun _ => fun
  | [d1, d2, d3] => { results := [.lit (.bool false)], args := [d1, d2, d3] }
  | _ => none }
def SentenceBackWrongFalsely : Prop := sentenceBackRow.holds Try.pinned (OpenSpec.ofChange sentenceBackWrong)

/-- 'coppicerkeep.AfterWhole': WHATEVER THE INPUT: true; the input reads as it did. -/
def afterWholeSpec : ChangeSpec := { name := "afterWhole", fn := fun _ => fun
  | [d1, d2, d3] => { results := [.lit (.bool true)], args := [d1, d2, d3] }
  | _ => none }
def afterWholeRow : OpenClaim := { program := "ytckghdhnmpnljaa", sum := "b33deec650259e3d1a679d0ec35a126b12bc560112c9183cecc6655b91ae08e0", func := "coppicer/coppicerkeep.AfterWhole", spec := "afterWhole", unfollowed := true, recurses := true, plainKeys := false, apart := false }
def AfterWholeSaid : Prop := afterWholeRow.holds Try.pinned (OpenSpec.ofChange afterWholeSpec)

/-- ITS FALSE NEIGHBOUR: 'it returns false'. Refute it at one input. -/
def afterWholeWrong : ChangeSpec := { name := "afterWhole", fn := fun _ => fun
  | [d1, d2, d3] => { results := [.lit (.bool false)], args := [d1, d2, d3] }
  | _ => none }
def AfterWholeWrongFalsely : Prop := afterWholeRow.holds Try.pinned (OpenSpec.ofChange afterWholeWrong)

/-- 'coppicerkeep.AfterSure': WHATEVER THE INPUT: true; the input reads as it did. -/
def afterSureSpec : ChangeSpec := { name := "afterSure", fn := fun _ => fun
  | [d1, d2, d3] => { results := [.lit (.bool true)], args := [d1, d2, d3] }
  | _ => none }
def afterSureRow : OpenClaim := { program := "ytckghdhnmpnljaa", sum := "b33deec650259e3d1a679d0ec35a126b12bc560112c9183cecc6655b91ae08e0", func := "coppicer/coppicerkeep.AfterSure", spec := "afterSure", unfollowed := true, recurses := true, plainKeys := false, apart := false }
def AfterSureSaid : Prop := afterSureRow.holds Try.pinned (OpenSpec.ofChange afterSureSpec)

/-- ITS FALSE NEIGHBOUR: 'it returns false'. Refute it at one input. -/
def afterSureWrong : ChangeSpec := { name := "afterSure", fn := fun _ => fun
  | [d1, d2, d3] => { results := [.lit (.bool false)], args := [d1, d2, d3] }
  | _ => none }
def AfterSureWrongFalsely : Prop := afterSureRow.holds Try.pinned (OpenSpec.ofChange afterSureWrong)

/-- 'coppicerkeep.SpotTakes': WHATEVER THE INPUT: true; the input reads as it did. -/
def spotTakesSpec : ChangeSpec := { name := "spotTakes", fn := fun _ => fun
  | [d1, d2, d3] => { results := [.lit (.bool true)], args := [d1, d2, d3] }
  | _ => none }
def spotTakesRow : OpenClaim := { program := "ytckghdhnmpnljaa", sum := "b33deec650259e3d1a679d0ec35a126b12bc560112c9183cecc6655b91ae08e0", func := "coppicer/coppicerkeep.SpotTakes", spec := "spotTakes", unfollowed := true, recurses := true, plainKeys := false, apart := false }
def SpotTakesSaid : Prop := spotTakesRow.holds Try.pinned (OpenSpec.ofChange spotTakesSpec)

/-- ITS FALSE NEIGHBOUR: 'it returns false'. Refute it at one input. -/
def spotTakesWrong : ChangeSpec := { name := "spotTakes", fn := fun _ => fun
  | [d1, d2, d3] => { results := [.lit (.bool false)], args := [d1, d2, d3] }
  | _ => none }
def SpotTakesWrongFalsely : Prop := spotTakesRow.holds Try.pinned (OpenSpec.ofChange spotTakesWrong)

/-- 'coppicerkeep.SolveBack': WHATEVER THE INPUT: true; the input reads as it did. -/
def solveBackSpec : ChangeSpec := { name := "solveBack", fn := fun _ => fun
  | [d] => { results := [.lit (.bool true)], args := [d] }
  | _ => none }
def solveBackRow : OpenClaim := { program := "ytckghdhnmpnljaa", sum := "b33deec650259e3d1a679d0ec35a126b12bc560112c9183cecc6655b91ae08e0", func := "coppicer/coppicerkeep.SolveBack", spec := "solveBack", unfollowed := true, recurses := true, plainKeys := false, apart := false }
def SolveBackSaid : Prop := solveBackRow.holds Try.pinned (OpenSpec.ofChange solveBackSpec)

/-- ITS FALSE NEIGHBOUR: 'it returns false'. Refute it at one input. -/
def solveBackWrong : ChangeSpec := { name := "solveBack", fn := fun _ => fun
  | [d] => { results := [.lit (.bool false)], args := [d] }
  | _ => none }
def SolveBackWrongFalsely : Prop := solveBackRow.holds Try.pinned (OpenSpec.ofChange solveBackWrong)

/-- 'coppicerkeep.ManyLongest': WHATEVER THE INPUT: true; the input reads as it did. -/
def manyLongestSpec : ChangeSpec := { name := "manyLongest", fn := fun _ => fun
  | [d1, d2] => { results := [.lit (.bool true)], args := [d1, d2] }
  | _ => none }
def manyLongestRow : OpenClaim := { program := "ytckghdhnmpnljaa", sum := "b33deec650259e3d1a679d0ec35a126b12bc560112c9183cecc6655b91ae08e0", func := "coppicer/coppicerkeep.ManyLongest", spec := "manyLongest", unfollowed := true, recurses := true, plainKeys := false, apart := false }
def ManyLongestSaid : Prop := manyLongestRow.holds Try.pinned (OpenSpec.ofChange manyLongestSpec)

/-- ITS FALSE NEIGHBOUR: 'it returns false'. Refute it at one input. -/
def manyLongestWrong : ChangeSpec := { name := "manyLongest", fn := fun _ => fun
  | [d1, d2] => { results := [.lit (.bool false)], args := [d1, d2] }
  | _ => none }
def ManyLongestWrongFalsely : Prop := manyLongestRow.holds Try.pinned (OpenSpec.ofChange manyLongestWrong)

/-- 'coppicerkeep.ManyAlone': WHATEVER THE INPUT: true; the input reads as it did. -/
def manyAloneSpec : ChangeSpec := { name := "manyAlone", fn := fun _ => fun
  | [d1, d2, d3] => { results := [.lit (.bool true)], args := [d1, d2, d3] }
  | _ => none }
def manyAloneRow : OpenClaim := { program := "ytckghdhnmpnljaa", sum := "b33deec650259e3d1a679d0ec35a126b12bc560112c9183cecc6655b91ae08e0", func := "coppicer/coppicerkeep.ManyAlone", spec := "manyAlone", unfollowed := true, recurses := true, plainKeys := false, apart := false }
def ManyAloneSaid : Prop := manyAloneRow.holds Try.pinned (OpenSpec.ofChange manyAloneSpec)

/-- ITS FALSE NEIGHBOUR: 'it returns false'. Refute it at one input. -/
def manyAloneWrong : ChangeSpec := { name := "manyAlone", fn := fun _ => fun
  | [d1, d2, d3] => { results := [.lit (.bool false)], args := [d1, d2, d3] }
  | _ => none }
def ManyAloneWrongFalsely : Prop := manyAloneRow.holds Try.pinned (OpenSpec.ofChange manyAloneWrong)

/- THE SECOND FORM. 'bulk': how many values and letters a reading holds, each counted each time it is reached (what is shared counts as often as it is met; a slice's spare places count too). A statement '..UptoSaid' is the law's where the arguments, and the package variables that the reading takes, are together of bulk at most 1048576: NARROWER than '..Said'. Prove '..Said' where nothing that the law and all that it calls make is longer than what came in: it says more and counts as full. Else prove '..UptoSaid'. A law counts once. -/
mutual
def uptoBulk {H : Type} : DataW H → Nat
  | .lit (.string bytes) => bytes.length + 1
  | .lit _ => 1
  | .nil => 1
  | .ptr d => uptoBulk d + 1
  | .slice elems spare => uptoBulkAll elems + uptoBulkAll spare + 1
  | .agg parts => uptoBulkAll parts + 1
  | .iface _ d => uptoBulk d + 1
  | .map entries => uptoBulkEntries entries + 1
  | .held _ => 1
def uptoBulkAll {H : Type} : List (DataW H) → Nat
  | [] => 0
  | d :: r => uptoBulk d + uptoBulkAll r
def uptoBulkEntries {H : Type} : List (Lit × DataW H) → Nat
  | [] => 0
  | x :: r => uptoBulkEntry x + uptoBulkEntries r
def uptoBulkEntry {H : Type} : Lit × DataW H → Nat
  | (.string bytes, d) => bytes.length + uptoBulk d + 1
  | (_, d) => uptoBulk d + 1
 end
def uptoSmall : (H : Type) → List (DataW H) → Bool := fun _ ds => decide (uptoBulkAll ds ≤ 1048576)
def OpenSpec.upto (s : _root_.Go.ChangeSpec) : _root_.Go.OpenSpec := { _root_.Go.OpenSpec.ofChange s with cond := some uptoSmall }

/-- 'coppicerkeep.TurnerFront', WHERE WHAT IT READS IS OF BULK AT MOST 1048576: true; the input reads as it did. -/
def turnerFrontUptoRow : OpenClaim := { program := "ytckghdhnmpnljaa", sum := "b33deec650259e3d1a679d0ec35a126b12bc560112c9183cecc6655b91ae08e0", func := "coppicer/coppicerkeep.TurnerFront", spec := "turnerFront", unfollowed := true, recurses := true, plainKeys := false, apart := false, narrowed := true }
def TurnerFrontUptoSaid : Prop := turnerFrontUptoRow.holds Try.pinned (OpenSpec.upto turnerFrontSpec)

/-- 'coppicerkeep.TurnerThen', WHERE WHAT IT READS IS OF BULK AT MOST 1048576: true; the input reads as it did. -/
def turnerThenUptoRow : OpenClaim := { program := "ytckghdhnmpnljaa", sum := "b33deec650259e3d1a679d0ec35a126b12bc560112c9183cecc6655b91ae08e0", func := "coppicer/coppicerkeep.TurnerThen", spec := "turnerThen", unfollowed := true, recurses := true, plainKeys := false, apart := false, narrowed := true }
def TurnerThenUptoSaid : Prop := turnerThenUptoRow.holds Try.pinned (OpenSpec.upto turnerThenSpec)

/-- 'coppicerkeep.TurnerBefore', WHERE WHAT IT READS IS OF BULK AT MOST 1048576: true; the input reads as it did. -/
def turnerBeforeUptoRow : OpenClaim := { program := "ytckghdhnmpnljaa", sum := "b33deec650259e3d1a679d0ec35a126b12bc560112c9183cecc6655b91ae08e0", func := "coppicer/coppicerkeep.TurnerBefore", spec := "turnerBefore", unfollowed := true, recurses := true, plainKeys := false, apart := false, narrowed := true }
def TurnerBeforeUptoSaid : Prop := turnerBeforeUptoRow.holds Try.pinned (OpenSpec.upto turnerBeforeSpec)

/-- 'coppicerkeep.SentenceStar', WHERE WHAT IT READS IS OF BULK AT MOST 1048576: true; the input reads as it did. -/
def sentenceStarUptoRow : OpenClaim := { program := "ytckghdhnmpnljaa", sum := "b33deec650259e3d1a679d0ec35a126b12bc560112c9183cecc6655b91ae08e0", func := "coppicer/coppicerkeep.SentenceStar", spec := "sentenceStar", unfollowed := true, recurses := true, plainKeys := false, apart := false, narrowed := true }
def SentenceStarUptoSaid : Prop := sentenceStarUptoRow.holds Try.pinned (OpenSpec.upto sentenceStarSpec)

/-- 'coppicerkeep.SentenceBack', WHERE WHAT IT READS IS OF BULK AT MOST 1048576: true; the input reads as it did. -/
def sentenceBackUptoRow : OpenClaim := { program := "ytckghdhnmpnljaa", sum := "b33deec650259e3d1a679d0ec35a126b12bc560112c9183cecc6655b91ae08e0", func := "coppicer/coppicerkeep.SentenceBack", spec := "sentenceBack", unfollowed := true, recurses := true, plainKeys := false, apart := false, narrowed := true }
def SentenceBackUptoSaid : Prop := sentenceBackUptoRow.holds Try.pinned (OpenSpec.upto sentenceBackSpec)

/-- 'coppicerkeep.AfterWhole', WHERE WHAT IT READS IS OF BULK AT MOST 1048576: true; the input reads as it did. -/
def afterWholeUptoRow : OpenClaim := { program := "ytckghdhnmpnljaa", sum := "b33deec650259e3d1a679d0ec35a126b12bc560112c9183cecc6655b91ae08e0", func := "coppicer/coppicerkeep.AfterWhole", spec := "afterWhole", unfollowed := true, recurses := true, plainKeys := false, apart := false, narrowed := true }
def AfterWholeUptoSaid : Prop := afterWholeUptoRow.holds Try.pinned (OpenSpec.upto afterWholeSpec)

/-- 'coppicerkeep.AfterSure', WHERE WHAT IT READS IS OF BULK AT MOST 1048576: true; the input reads as it did. -/
def afterSureUptoRow : OpenClaim := { program := "ytckghdhnmpnljaa", sum := "b33deec650259e3d1a679d0ec35a126b12bc560112c9183cecc6655b91ae08e0", func := "coppicer/coppicerkeep.AfterSure", spec := "afterSure", unfollowed := true, recurses := true, plainKeys := false, apart := false, narrowed := true }
def AfterSureUptoSaid : Prop := afterSureUptoRow.holds Try.pinned (OpenSpec.upto afterSureSpec)

/-- 'coppicerkeep.SpotTakes', WHERE WHAT IT READS IS OF BULK AT MOST 1048576: true; the input reads as it did. -/
def spotTakesUptoRow : OpenClaim := { program := "ytckghdhnmpnljaa", sum := "b33deec650259e3d1a679d0ec35a126b12bc560112c9183cecc6655b91ae08e0", func := "coppicer/coppicerkeep.SpotTakes", spec := "spotTakes", unfollowed := true, recurses := true, plainKeys := false, apart := false, narrowed := true }
def SpotTakesUptoSaid : Prop := spotTakesUptoRow.holds Try.pinned (OpenSpec.upto spotTakesSpec)

/-- 'coppicerkeep.SolveBack', WHERE WHAT IT READS IS OF BULK AT MOST 1048576: true; the input reads as it did. -/
def solveBackUptoRow : OpenClaim := { program := "ytckghdhnmpnljaa", sum := "b33deec650259e3d1a679d0ec35a126b12bc560112c9183cecc6655b91ae08e0", func := "coppicer/coppicerkeep.SolveBack", spec := "solveBack", unfollowed := true, recurses := true, plainKeys := false, apart := false, narrowed := true }
def SolveBackUptoSaid : Prop := solveBackUptoRow.holds Try.pinned (OpenSpec.upto solveBackSpec)

/-- 'coppicerkeep.ManyLongest', WHERE WHAT IT READS IS OF BULK AT MOST 1048576: true; the input reads as it did. -/
def manyLongestUptoRow : OpenClaim := { program := "ytckghdhnmpnljaa", sum := "b33deec650259e3d1a679d0ec35a126b12bc560112c9183cecc6655b91ae08e0", func := "coppicer/coppicerkeep.ManyLongest", spec := "manyLongest", unfollowed := true, recurses := true, plainKeys := false, apart := false, narrowed := true }
def ManyLongestUptoSaid : Prop := manyLongestUptoRow.holds Try.pinned (OpenSpec.upto manyLongestSpec)

/-- 'coppicerkeep.ManyAlone', WHERE WHAT IT READS IS OF BULK AT MOST 1048576: true; the input reads as it did. -/
def manyAloneUptoRow : OpenClaim := { program := "ytckghdhnmpnljaa", sum := "b33deec650259e3d1a679d0ec35a126b12bc560112c9183cecc6655b91ae08e0", func := "coppicer/coppicerkeep.ManyAlone", spec := "manyAlone", unfollowed := true, recurses := true, plainKeys := false, apart := false, narrowed := true }
def ManyAloneUptoSaid : Prop := manyAloneUptoRow.holds Try.pinned (OpenSpec.upto manyAloneSpec)

end Rows
end Go.Proofs.Ytckghdhnmpnljaa
