/-
  No cell of these rows narrows 'for every input' (looked for: loops, veiled, ifaces, maps, wideKeys, modest, calm, conditions, laid).
  DERIVED. THE GIVEN ROWS OF THIS SEAT. 11 by the template 'for every input the law returns true; each argument reads behind the call as it read before'; 0 by the template 'total and deterministic' (their statements: YtfamoglamihdfaaTotals.lean).
  GIVEN WITH THE SEED: the statements are not yours to turn. If you find one false, say at which input.
  Laid BY PROGRAM, IN A SANDBOX (cutbox-rows.mjs): the forced cells as the released guide's own fill.sh prints them over the translation f4f3fd585d145164… (all of the seat's roots in one cut). By AI agents, Wed Nov 11 2026. No macro, syntax, notation, axiom, sorry.
-/
import Derived.Test.YtfamoglamihdfaaChecked
import GoSem.Claim
import GoSem.ClaimJoined
import GoSem.ClaimMapViews
import Derived.JoinedTies
import Derived.KernelRfl
namespace Go.Proofs.Ytfamoglamihdfaa
/- THE CELL 'sum', in the pinned program and in every row, IS THE sha256 OF THE DUMP (.gsa) THAT YtfamoglamihdfaaProg.lean LOADS. Nothing in Lean hashes anything: it is a label: what it is worth is what the hold of that sum in a sandbox is worth. -/
noncomputable def Try.pinned : Pinned := { name := "ytfamoglamihdfaa", sum := "f4f3fd585d1451648220930b45c117a6eeed328cb16cea3842d48b95e95e17dd", checked := Try.checked }
namespace Rows
def none {H : Type} : Left H := { results := [], args := [] }

/-- 'coppicerkeep.StoreSum': WHATEVER THE INPUT: true; the input reads as it did. -/
def storeSumSpec : ChangeSpec := { name := "storeSum", fn := fun _ => fun
  | [d1, d2] => { results := [.lit (.bool true)], args := [d1, d2] }
  | _ => none }
def storeSumRow : OpenClaim := { program := "ytfamoglamihdfaa", sum := "f4f3fd585d1451648220930b45c117a6eeed328cb16cea3842d48b95e95e17dd", func := "coppicer/coppicerkeep.StoreSum", spec := "storeSum", apart := false }
def StoreSumSaid : Prop := storeSumRow.holds Try.pinned (OpenSpec.ofChange storeSumSpec)

/-- ITS FALSE NEIGHBOUR: 'it returns false'. Refute it at one input. -/
def storeSumWrong : ChangeSpec := { name := "storeSum", fn := fun _ => fun
  | [d1, d2] => { results := [.lit (.bool false)], args := [d1, d2] }
  | _ => none }
def StoreSumWrongFalsely : Prop := storeSumRow.holds Try.pinned (OpenSpec.ofChange storeSumWrong)

/-- 'coppicerkeep.BracketMany': WHATEVER THE INPUT: true; the input reads as it did. -/
def bracketManySpec : ChangeSpec := { name := "bracketMany", fn := fun _ => fun
  | [d] => { results := [.lit (.bool true)], args := [d] }
  | _ => none }
def bracketManyRow : OpenClaim := { program := "ytfamoglamihdfaa", sum := "f4f3fd585d1451648220930b45c117a6eeed328cb16cea3842d48b95e95e17dd", func := "coppicer/coppicerkeep.BracketMany", spec := "bracketMany", apart := false }
def BracketManySaid : Prop := bracketManyRow.holds Try.pinned (OpenSpec.ofChange bracketManySpec)

/-- ITS FALSE NEIGHBOUR: 'it returns false'. Refute it at one input. -/
def bracketManyWrong : ChangeSpec := { name := "bracketMany", fn := fun _ => fun
  | [d] => { results := [.lit (.bool false)], args := [d] }
  | _ => none }
def BracketManyWrongFalsely : Prop := bracketManyRow.holds Try.pinned (OpenSpec.ofChange bracketManyWrong)

/-- 'coppicerkeep.BracketNest': WHATEVER THE INPUT: true; the input reads as it did. -/
def bracketNestSpec : ChangeSpec := { name := "bracketNest", fn := fun _ => fun
  | [d1, d2, d3] => { results := [.lit (.bool true)], args := [d1, d2, d3] }
  | _ => none }
def bracketNestRow : OpenClaim := { program := "ytfamoglamihdfaa", sum := "f4f3fd585d1451648220930b45c117a6eeed328cb16cea3842d48b95e95e17dd", func := "coppicer/coppicerkeep.BracketNest", spec := "bracketNest", apart := false }
def BracketNestSaid : Prop := bracketNestRow.holds Try.pinned (OpenSpec.ofChange bracketNestSpec)

/-- ITS FALSE NEIGHBOUR: 'it returns false'. Refute it at one input. -/
def bracketNestWrong : ChangeSpec := { name := "bracketNest", fn := fun _ => fun
  | [d1, d2, d3] => { results := [.lit (.bool false)], args := [d1, d2, d3] }
  | _ => none }
def BracketNestWrongFalsely : Prop := bracketNestRow.holds Try.pinned (OpenSpec.ofChange bracketNestWrong)

/-- 'coppicerkeep.BracketCycle': WHATEVER THE INPUT: true; the input reads as it did. -/
def bracketCycleSpec : ChangeSpec := { name := "bracketCycle", fn := fun _ => fun
  | [d1, d2] => { results := [.lit (.bool true)], args := [d1, d2] }
  | _ => none }
def bracketCycleRow : OpenClaim := { program := "ytfamoglamihdfaa", sum := "f4f3fd585d1451648220930b45c117a6eeed328cb16cea3842d48b95e95e17dd", func := "coppicer/coppicerkeep.BracketCycle", spec := "bracketCycle", apart := false }
def BracketCycleSaid : Prop := bracketCycleRow.holds Try.pinned (OpenSpec.ofChange bracketCycleSpec)

/-- ITS FALSE NEIGHBOUR: 'it returns false'. Refute it at one input. -/
def bracketCycleWrong : ChangeSpec := { name := "bracketCycle", fn := fun _ => fun
  | [d1, d2] => { results := [.lit (.bool false)], args := [d1, d2] }
  | _ => none }
def BracketCycleWrongFalsely : Prop := bracketCycleRow.holds Try.pinned (OpenSpec.ofChange bracketCycleWrong)

/-- 'coppicerkeep.BracketBack': WHATEVER THE INPUT: true; the input reads as it did. -/
def bracketBackSpec : ChangeSpec := { name := "bracketBack", fn := fun _ => fun
  | [d1, d2, d3] => { results := [.lit (.bool true)], args := [d1, d2, d3] }
  | _ => none }
def bracketBackRow : OpenClaim := { program := "ytfamoglamihdfaa", sum := "f4f3fd585d1451648220930b45c117a6eeed328cb16cea3842d48b95e95e17dd", func := "coppicer/coppicerkeep.BracketBack", spec := "bracketBack", apart := false }
def BracketBackSaid : Prop := bracketBackRow.holds Try.pinned (OpenSpec.ofChange bracketBackSpec)

/-- ITS FALSE NEIGHBOUR: 'it returns false'. Refute it at one input. -/
def bracketBackWrong : ChangeSpec := { name := "bracketBack", fn := fun _ => fun
  | [d1, d2, d3] => { results := [.lit (.bool false)], args := [d1, d2, d3] }
  | _ => none }
def BracketBackWrongFalsely : Prop := bracketBackRow.holds Try.pinned (OpenSpec.ofChange bracketBackWrong)

/-- 'coppicerkeep.StoreBack': WHATEVER THE INPUT: true; the input reads as it did. -/
def storeBackSpec : ChangeSpec := { name := "storeBack", fn := fun _ => fun
  | [d1, d2] => { results := [.lit (.bool true)], args := [d1, d2] }
  | _ => none }
def storeBackRow : OpenClaim := { program := "ytfamoglamihdfaa", sum := "f4f3fd585d1451648220930b45c117a6eeed328cb16cea3842d48b95e95e17dd", func := "coppicer/coppicerkeep.StoreBack", spec := "storeBack", unfollowed := true, recurses := true, apart := false }
def StoreBackSaid : Prop := storeBackRow.holds Try.pinned (OpenSpec.ofChange storeBackSpec)

/-- ITS FALSE NEIGHBOUR: 'it returns false'. Refute it at one input. -/
def storeBackWrong : ChangeSpec := { name := "storeBack", fn := fun _ => fun
  | [d1, d2] => { results := [.lit (.bool false)], args := [d1, d2] }
  | _ => none }
def StoreBackWrongFalsely : Prop := storeBackRow.holds Try.pinned (OpenSpec.ofChange storeBackWrong)

/-- 'coppicerkeep.StoreTold': WHATEVER THE INPUT: true; the input reads as it did. -/
def storeToldSpec : ChangeSpec := { name := "storeTold", fn := fun _ => fun
  | [d1, d2, d3, d4] => { results := [.lit (.bool true)], args := [d1, d2, d3, d4] }
  | _ => none }
def storeToldRow : OpenClaim := { program := "ytfamoglamihdfaa", sum := "f4f3fd585d1451648220930b45c117a6eeed328cb16cea3842d48b95e95e17dd", func := "coppicer/coppicerkeep.StoreTold", spec := "storeTold", unfollowed := true, recurses := true, apart := false }
def StoreToldSaid : Prop := storeToldRow.holds Try.pinned (OpenSpec.ofChange storeToldSpec)

/-- ITS FALSE NEIGHBOUR: 'it returns false'. Refute it at one input. -/
def storeToldWrong : ChangeSpec := { name := "storeTold", fn := fun _ => fun
  | [d1, d2, d3, d4] => { results := [.lit (.bool false)], args := [d1, d2, d3, d4] }
  | _ => none }
def StoreToldWrongFalsely : Prop := storeToldRow.holds Try.pinned (OpenSpec.ofChange storeToldWrong)

/-- 'coppicerkeep.ClimbBack': WHATEVER THE INPUT: true; the input reads as it did. -/
def climbBackSpec : ChangeSpec := { name := "climbBack", fn := fun _ => fun
  | [d1, d2] => { results := [.lit (.bool true)], args := [d1, d2] }
  | _ => none }
def climbBackRow : OpenClaim := { program := "ytfamoglamihdfaa", sum := "f4f3fd585d1451648220930b45c117a6eeed328cb16cea3842d48b95e95e17dd", func := "coppicer/coppicerkeep.ClimbBack", spec := "climbBack", unfollowed := true, recurses := true, apart := false }
def ClimbBackSaid : Prop := climbBackRow.holds Try.pinned (OpenSpec.ofChange climbBackSpec)

/-- ITS FALSE NEIGHBOUR: 'it returns false'. Refute it at one input. -/
def climbBackWrong : ChangeSpec := { name := "climbBack", fn := fun _ => fun
  | [d1, d2] => { results := [.lit (.bool false)], args := [d1, d2] }
  | _ => none }
def ClimbBackWrongFalsely : Prop := climbBackRow.holds Try.pinned (OpenSpec.ofChange climbBackWrong)

/-- 'coppicerkeep.ClimbShort': WHATEVER THE INPUT: true; the input reads as it did. -/
def climbShortSpec : ChangeSpec := { name := "climbShort", fn := fun _ => fun
  | [d1, d2] => { results := [.lit (.bool true)], args := [d1, d2] }
  | _ => none }
def climbShortRow : OpenClaim := { program := "ytfamoglamihdfaa", sum := "f4f3fd585d1451648220930b45c117a6eeed328cb16cea3842d48b95e95e17dd", func := "coppicer/coppicerkeep.ClimbShort", spec := "climbShort", unfollowed := true, recurses := true, apart := false }
def ClimbShortSaid : Prop := climbShortRow.holds Try.pinned (OpenSpec.ofChange climbShortSpec)

/-- ITS FALSE NEIGHBOUR: 'it returns false'. Refute it at one input. -/
def climbShortWrong : ChangeSpec := { name := "climbShort", fn := fun _ => fun
  | [d1, d2] => { results := [.lit (.bool false)], args := [d1, d2] }
  | _ => none }
def ClimbShortWrongFalsely : Prop := climbShortRow.holds Try.pinned (OpenSpec.ofChange climbShortWrong)

/-- 'coppicerkeep.EndsRise': WHATEVER THE INPUT: true; the input reads as it did. -/
def endsRiseSpec : ChangeSpec := { name := "endsRise", fn := fun _ => fun
  | [d] => { results := [.lit (.bool true)], args := [d] }
  | _ => none }
def endsRiseRow : OpenClaim := { program := "ytfamoglamihdfaa", sum := "f4f3fd585d1451648220930b45c117a6eeed328cb16cea3842d48b95e95e17dd", func := "coppicer/coppicerkeep.EndsRise", spec := "endsRise", inPlace := ["internal/bytealg.Compare"], unfollowed := true, recurses := true, apart := false }
def EndsRiseSaid : Prop := endsRiseRow.holds Try.pinned (OpenSpec.ofChange endsRiseSpec)

/-- ITS FALSE NEIGHBOUR: 'it returns false'. Refute it at one input. -/
def endsRiseWrong : ChangeSpec := { name := "endsRise", fn := fun _ => fun
  | [d] => { results := [.lit (.bool false)], args := [d] }
  | _ => none }
def EndsRiseWrongFalsely : Prop := endsRiseRow.holds Try.pinned (OpenSpec.ofChange endsRiseWrong)

/-- 'coppicerkeep.EndsGrow': WHATEVER THE INPUT: true; the input reads as it did. -/
def endsGrowSpec : ChangeSpec := { name := "endsGrow", fn := fun _ => fun
  | [d1, d2] => { results := [.lit (.bool true)], args := [d1, d2] }
  | _ => none }
def endsGrowRow : OpenClaim := { program := "ytfamoglamihdfaa", sum := "f4f3fd585d1451648220930b45c117a6eeed328cb16cea3842d48b95e95e17dd", func := "coppicer/coppicerkeep.EndsGrow", spec := "endsGrow", inPlace := ["internal/bytealg.Compare"], unfollowed := true, recurses := true, apart := false }
def EndsGrowSaid : Prop := endsGrowRow.holds Try.pinned (OpenSpec.ofChange endsGrowSpec)

/-- ITS FALSE NEIGHBOUR: 'it returns false'. Refute it at one input. -/
def endsGrowWrong : ChangeSpec := { name := "endsGrow", fn := fun _ => fun
  | [d1, d2] => { results := [.lit (.bool false)], args := [d1, d2] }
  | _ => none }
def EndsGrowWrongFalsely : Prop := endsGrowRow.holds Try.pinned (OpenSpec.ofChange endsGrowWrong)

/- THE SECOND FORM. 'bulk': how many values and letters a reading holds, each counted each time it is reached (what is shared counts as often as it is met; a slice's spare places count too). A statement '..UptoSaid' is the law's where the arguments, and the package variables that the reading takes, are together of bulk at most 1048576: NARROWER than '..Said'. Prove '..Said' where nothing that the law and all that it calls make is longer than what came in: it says more and counts as full. Else prove '..UptoSaid'. A law counts once. -/
mutual
def uptoBulk {H : Type} : DataW H → Nat
  | .lit (.string bytes) => bytes.length + 1
  | .lit _ => 1
  | .nil => 1
  | .ptr d => uptoBulk d + 1
  | .slice elems spare => uptoBulkAll elems + uptoBulkAll spare + 1
  | .agg parts => uptoBulkAll parts + 1
  | .iface _ d => uptoBulk d + 1
  | .map entries => uptoBulkEntries entries + 1
  | .held _ => 1
def uptoBulkAll {H : Type} : List (DataW H) → Nat
  | [] => 0
  | d :: r => uptoBulk d + uptoBulkAll r
def uptoBulkEntries {H : Type} : List (Lit × DataW H) → Nat
  | [] => 0
  | x :: r => uptoBulkEntry x + uptoBulkEntries r
def uptoBulkEntry {H : Type} : Lit × DataW H → Nat
  | (.string bytes, d) => bytes.length + uptoBulk d + 1
  | (_, d) => uptoBulk d + 1
 end
def uptoSmall : (H : Type) → List (DataW H) → Bool := fun _ ds => decide (uptoBulkAll ds ≤ 1048576)
def OpenSpec.upto (s : _root_.Go.ChangeSpec) : _root_.Go.OpenSpec := { _root_.Go.OpenSpec.ofChange s with cond := some uptoSmall }

/-- 'coppicerkeep.StoreSum', WHERE WHAT IT READS IS OF BULK AT MOST 1048576: true; the input reads as it did. -/
def storeSumUptoRow : OpenClaim := { program := "ytfamoglamihdfaa", sum := "f4f3fd585d1451648220930b45c117a6eeed328cb16cea3842d48b95e95e17dd", func := "coppicer/coppicerkeep.StoreSum", spec := "storeSum", apart := false, narrowed := true }
def StoreSumUptoSaid : Prop := storeSumUptoRow.holds Try.pinned (OpenSpec.upto storeSumSpec)

/-- 'coppicerkeep.BracketMany', WHERE WHAT IT READS IS OF BULK AT MOST 1048576: true; the input reads as it did. -/
def bracketManyUptoRow : OpenClaim := { program := "ytfamoglamihdfaa", sum := "f4f3fd585d1451648220930b45c117a6eeed328cb16cea3842d48b95e95e17dd", func := "coppicer/coppicerkeep.BracketMany", spec := "bracketMany", apart := false, narrowed := true }
def BracketManyUptoSaid : Prop := bracketManyUptoRow.holds Try.pinned (OpenSpec.upto bracketManySpec)

/-- 'coppicerkeep.BracketNest', WHERE WHAT IT READS IS OF BULK AT MOST 1048576: true; the input reads as it did. -/
def bracketNestUptoRow : OpenClaim := { program := "ytfamoglamihdfaa", sum := "f4f3fd585d1451648220930b45c117a6eeed328cb16cea3842d48b95e95e17dd", func := "coppicer/coppicerkeep.BracketNest", spec := "bracketNest", apart := false, narrowed := true }
def BracketNestUptoSaid : Prop := bracketNestUptoRow.holds Try.pinned (OpenSpec.upto bracketNestSpec)

/-- 'coppicerkeep.BracketCycle', WHERE WHAT IT READS IS OF BULK AT MOST 1048576: true; the input reads as it did. -/
def bracketCycleUptoRow : OpenClaim := { program := "ytfamoglamihdfaa", sum := "f4f3fd585d1451648220930b45c117a6eeed328cb16cea3842d48b95e95e17dd", func := "coppicer/coppicerkeep.BracketCycle", spec := "bracketCycle", apart := false, narrowed := true }
def BracketCycleUptoSaid : Prop := bracketCycleUptoRow.holds Try.pinned (OpenSpec.upto bracketCycleSpec)

/-- 'coppicerkeep.BracketBack', WHERE WHAT IT READS IS OF BULK AT MOST 1048576: true; the input reads as it did. -/
def bracketBackUptoRow : OpenClaim := { program := "ytfamoglamihdfaa", sum := "f4f3fd585d1451648220930b45c117a6eeed328cb16cea3842d48b95e95e17dd", func := "coppicer/coppicerkeep.BracketBack", spec := "bracketBack", apart := false, narrowed := true }
def BracketBackUptoSaid : Prop := bracketBackUptoRow.holds Try.pinned (OpenSpec.upto bracketBackSpec)

/-- 'coppicerkeep.StoreBack', WHERE WHAT IT READS IS OF BULK AT MOST 1048576: true; the input reads as it did. -/
def storeBackUptoRow : OpenClaim := { program := "ytfamoglamihdfaa", sum := "f4f3fd585d1451648220930b45c117a6eeed328cb16cea3842d48b95e95e17dd", func := "coppicer/coppicerkeep.StoreBack", spec := "storeBack", unfollowed := true, recurses := true, apart := false, narrowed := true }
def StoreBackUptoSaid : Prop := storeBackUptoRow.holds Try.pinned (OpenSpec.upto storeBackSpec)

/-- 'coppicerkeep.StoreTold', WHERE WHAT IT READS IS OF BULK AT MOST 1048576: true; the input reads as it did. -/
def storeToldUptoRow : OpenClaim := { program := "ytfamoglamihdfaa", sum := "f4f3fd585d1451648220930b45c117a6eeed328cb16cea3842d48b95e95e17dd", func := "coppicer/coppicerkeep.StoreTold", spec := "storeTold", unfollowed := true, recurses := true, apart := false, narrowed := true }
def StoreToldUptoSaid : Prop := storeToldUptoRow.holds Try.pinned (OpenSpec.upto storeToldSpec)

/-- 'coppicerkeep.ClimbBack', WHERE WHAT IT READS IS OF BULK AT MOST 1048576: true; the input reads as it did. -/
def climbBackUptoRow : OpenClaim := { program := "ytfamoglamihdfaa", sum := "f4f3fd585d1451648220930b45c117a6eeed328cb16cea3842d48b95e95e17dd", func := "coppicer/coppicerkeep.ClimbBack", spec := "climbBack", unfollowed := true, recurses := true, apart := false, narrowed := true }
def ClimbBackUptoSaid : Prop := climbBackUptoRow.holds Try.pinned (OpenSpec.upto climbBackSpec)

/-- 'coppicerkeep.ClimbShort', WHERE WHAT IT READS IS OF BULK AT MOST 1048576: true; the input reads as it did. -/
def climbShortUptoRow : OpenClaim := { program := "ytfamoglamihdfaa", sum := "f4f3fd585d1451648220930b45c117a6eeed328cb16cea3842d48b95e95e17dd", func := "coppicer/coppicerkeep.ClimbShort", spec := "climbShort", unfollowed := true, recurses := true, apart := false, narrowed := true }
def ClimbShortUptoSaid : Prop := climbShortUptoRow.holds Try.pinned (OpenSpec.upto climbShortSpec)

/-- 'coppicerkeep.EndsRise', WHERE WHAT IT READS IS OF BULK AT MOST 1048576: true; the input reads as it did. -/
def endsRiseUptoRow : OpenClaim := { program := "ytfamoglamihdfaa", sum := "f4f3fd585d1451648220930b45c117a6eeed328cb16cea3842d48b95e95e17dd", func := "coppicer/coppicerkeep.EndsRise", spec := "endsRise", inPlace := ["internal/bytealg.Compare"], unfollowed := true, recurses := true, apart := false, narrowed := true }
def EndsRiseUptoSaid : Prop := endsRiseUptoRow.holds Try.pinned (OpenSpec.upto endsRiseSpec)

/-- 'coppicerkeep.EndsGrow', WHERE WHAT IT READS IS OF BULK AT MOST 1048576: true; the input reads as it did. -/
def endsGrowUptoRow : OpenClaim := { program := "ytfamoglamihdfaa", sum := "f4f3fd585d1451648220930b45c117a6eeed328cb16cea3842d48b95e95e17dd", func := "coppicer/coppicerkeep.EndsGrow", spec := "endsGrow", inPlace := ["internal/bytealg.Compare"], unfollowed := true, recurses := true, apart := false, narrowed := true }
def EndsGrowUptoSaid : Prop := endsGrowUptoRow.holds Try.pinned (OpenSpec.upto endsGrowSpec)

end Rows
end Go.Proofs.Ytfamoglamihdfaa
