/-
  No cell of these rows narrows 'for every input' (looked for: loops, veiled, ifaces, maps, wideKeys, modest, calm, conditions, laid).
  DERIVED. THE GIVEN ROWS OF THIS SEAT. 5 by the template 'for every input the law returns true; each argument reads behind the call as it read before'; 0 by the template 'total and deterministic' (their statements: YtljlpmfmfcljaaaTotals.lean).
  GIVEN WITH THE SEED: the statements are not yours to turn. If you find one false, say at which input.
  Laid BY PROGRAM, IN A SANDBOX (cutbox-rows.mjs): the forced cells as the released guide's own fill.sh prints them over the translation 7b5f55e9e8713b0c… (all of the seat's roots in one cut). By AI agents, Wed Nov 11 2026. No macro, syntax, notation, axiom, sorry.
-/
import Derived.Test.YtljlpmfmfcljaaaChecked
import GoSem.Claim
import GoSem.ClaimJoined
import GoSem.ClaimMapViews
import Derived.JoinedTies
import Derived.KernelRfl
namespace Go.Proofs.Ytljlpmfmfcljaaa
/- THE CELL 'sum', in the pinned program and in every row, IS THE sha256 OF THE DUMP (.gsa) THAT YtljlpmfmfcljaaaProg.lean LOADS. Nothing in Lean hashes anything: it is a label: what it is worth is what the hold of that sum in a sandbox is worth. -/
noncomputable def Try.pinned : Pinned := { name := "ytljlpmfmfcljaaa", sum := "7b5f55e9e8713b0c8325c8a07911c05f4b60a3a0dc23e669352c6c6e651a0a76", checked := Try.checked }
namespace Rows
def none {H : Type} : Left H := { results := [], args := [] }

/-- 'coppicerkeep.StoreSum': WHATEVER THE INPUT: true; the input reads as it did. -/
def storeSumSpec : ChangeSpec := { name := "storeSum", fn := fun _ => fun
  | [d1, d2] => { results := [.lit (.bool true)], args := [d1, d2] }
  | _ => none }
def storeSumRow : OpenClaim := { program := "ytljlpmfmfcljaaa", sum := "7b5f55e9e8713b0c8325c8a07911c05f4b60a3a0dc23e669352c6c6e651a0a76", func := "coppicer/coppicerkeep.StoreSum", spec := "storeSum", plainKeys := false, apart := false }
def StoreSumSaid : Prop := storeSumRow.holds Try.pinned (OpenSpec.ofChange storeSumSpec)

/-- ITS FALSE NEIGHBOUR: 'it returns false'. Refute it at one input. -/
def storeSumWrong : ChangeSpec := { name := "storeSum", fn := fun _ => fun
  | [d1, d2] => { results := [.lit (.bool false)], args := [d1, d2] }
  | _ => none }
def StoreSumWrongFalsely : Prop := storeSumRow.holds Try.pinned (OpenSpec.ofChange storeSumWrong)

/-- 'coppicerkeep.MachineFront': WHATEVER THE INPUT: true; the input reads as it did. -/
def machineFrontSpec : ChangeSpec := { name := "machineFront", fn := fun _ => fun
  | [d1, d2, d3] => { results := [.lit (.bool true)], args := [d1, d2, d3] }
  | _ => none }
def machineFrontRow : OpenClaim := { program := "ytljlpmfmfcljaaa", sum := "7b5f55e9e8713b0c8325c8a07911c05f4b60a3a0dc23e669352c6c6e651a0a76", func := "coppicer/coppicerkeep.MachineFront", spec := "machineFront", unfollowed := true, recurses := true, plainKeys := false, apart := false }
def MachineFrontSaid : Prop := machineFrontRow.holds Try.pinned (OpenSpec.ofChange machineFrontSpec)

/-- ITS FALSE NEIGHBOUR: 'it returns false'. Refute it at one input. -/
def machineFrontWrong : ChangeSpec := { name := "machineFront", fn := fun _ => fun
  | [d1, d2, d3] => { results := [.lit (.bool false)], args := [d1, d2, d3] }
  | _ => none }
def MachineFrontWrongFalsely : Prop := machineFrontRow.holds Try.pinned (OpenSpec.ofChange machineFrontWrong)

/-- 'coppicertop.TopTrees': WHATEVER THE INPUT: true; the input reads as it did. -/
def topTreesSpec : ChangeSpec := { name := "topTrees", fn := fun _ => fun
  | [d1, d2, d3, d4, d5] => { results := [.lit (.bool true)], args := [d1, d2, d3, d4, d5] }
  | _ => none }
def topTreesRow : OpenClaim := { program := "ytljlpmfmfcljaaa", sum := "7b5f55e9e8713b0c8325c8a07911c05f4b60a3a0dc23e669352c6c6e651a0a76", func := "coppicer/coppicertop.TopTrees", spec := "topTrees", unfollowed := true, recurses := true, plainKeys := false, apart := false }
def TopTreesSaid : Prop := topTreesRow.holds Try.pinned (OpenSpec.ofChange topTreesSpec)

/-- ITS FALSE NEIGHBOUR: 'it returns false'. Refute it at one input. -/
def topTreesWrong : ChangeSpec := { name := "topTrees", fn := fun _ => fun
  | [d1, d2, d3, d4, d5] => { results := [.lit (.bool false)], args := [d1, d2, d3, d4, d5] }
  | _ => none }
def TopTreesWrongFalsely : Prop := topTreesRow.holds Try.pinned (OpenSpec.ofChange topTreesWrong)

/-- 'coppicertop.TopFront': WHATEVER THE INPUT: true; the input reads as it did. -/
def topFrontSpec : ChangeSpec := { name := "topFront", fn := fun _ => fun
  | [d1, d2, d3, d4] => { results := [.lit (.bool true)], args := [d1, d2, d3, d4] }
  | _ => none }
def topFrontRow : OpenClaim := { program := "ytljlpmfmfcljaaa", sum := "7b5f55e9e8713b0c8325c8a07911c05f4b60a3a0dc23e669352c6c6e651a0a76", func := "coppicer/coppicertop.TopFront", spec := "topFront", unfollowed := true, recurses := true, plainKeys := false, apart := false }
def TopFrontSaid : Prop := topFrontRow.holds Try.pinned (OpenSpec.ofChange topFrontSpec)

/-- ITS FALSE NEIGHBOUR: 'it returns false'. Refute it at one input. -/
def topFrontWrong : ChangeSpec := { name := "topFront", fn := fun _ => fun
  | [d1, d2, d3, d4] => { results := [.lit (.bool false)], args := [d1, d2, d3, d4] }
  | _ => none }
def TopFrontWrongFalsely : Prop := topFrontRow.holds Try.pinned (OpenSpec.ofChange topFrontWrong)

/-- 'coppicerkeep.EndsGrow': WHATEVER THE INPUT: true; the input reads as it did. -/
def endsGrowSpec : ChangeSpec := { name := "endsGrow", fn := fun _ => fun
  | [d1, d2] => { results := [.lit (.bool true)], args := [d1, d2] }
  | _ => none }
def endsGrowRow : OpenClaim := { program := "ytljlpmfmfcljaaa", sum := "7b5f55e9e8713b0c8325c8a07911c05f4b60a3a0dc23e669352c6c6e651a0a76", func := "coppicer/coppicerkeep.EndsGrow", spec := "endsGrow", inPlace := ["internal/bytealg.Compare"], unfollowed := true, recurses := true, plainKeys := false, apart := false }
def EndsGrowSaid : Prop := endsGrowRow.holds Try.pinned (OpenSpec.ofChange endsGrowSpec)

/-- ITS FALSE NEIGHBOUR: 'it returns false'. Refute it at one input. -/
def endsGrowWrong : ChangeSpec := { name := "endsGrow", fn := fun _ => fun
  | [d1, d2] => { results := [.lit (.bool false)], args := [d1, d2] }
  | _ => none }
def EndsGrowWrongFalsely : Prop := endsGrowRow.holds Try.pinned (OpenSpec.ofChange endsGrowWrong)

/- THE SECOND FORM. 'bulk': how many values and letters a reading holds, each counted each time it is reached (what is shared counts as often as it is met; a slice's spare places count too). A statement '..UptoSaid' is the law's where the arguments, and the package variables that the reading takes, are together of bulk at most 1048576: NARROWER than '..Said'. Prove '..Said' where nothing that the law and all that it calls make is longer than what came in: it says more and counts as full. Else prove '..UptoSaid'. A law counts once. -/
mutual
def uptoBulk {H : Type} : DataW H → Nat
  | .lit (.string bytes) => bytes.length + 1
  | .lit _ => 1
  | .nil => 1
  | .ptr d => uptoBulk d + 1
  | .slice elems spare => uptoBulkAll elems + uptoBulkAll spare + 1
  | .agg parts => uptoBulkAll parts + 1
  | .iface _ d => uptoBulk d + 1
  | .map entries => uptoBulkEntries entries + 1
  | .held _ => 1
def uptoBulkAll {H : Type} : List (DataW H) → Nat
  | [] => 0
  | d :: r => uptoBulk d + uptoBulkAll r
def uptoBulkEntries {H : Type} : List (Lit × DataW H) → Nat
  | [] => 0
  | x :: r => uptoBulkEntry x + uptoBulkEntries r
def uptoBulkEntry {H : Type} : Lit × DataW H → Nat
  | (.string bytes, d) => bytes.length + uptoBulk d + 1
  | (_, d) => uptoBulk d + 1
 end
def uptoSmall : (H : Type) → List (DataW H) → Bool := fun _ ds => decide (uptoBulkAll ds ≤ 1048576)
def OpenSpec.upto (s : _root_.Go.ChangeSpec) : _root_.Go.OpenSpec := { _root_.Go.OpenSpec.ofChange s with cond := some uptoSmall }

/-- 'coppicerkeep.StoreSum', WHERE WHAT IT READS IS OF BULK AT MOST 1048576: true; the input reads as it did. -/
def storeSumUptoRow : OpenClaim := { program := "ytljlpmfmfcljaaa", sum := "7b5f55e9e8713b0c8325c8a07911c05f4b60a3a0dc23e669352c6c6e651a0a76", func := "coppicer/coppicerkeep.StoreSum", spec := "storeSum", plainKeys := false, apart := false, narrowed := true }
def StoreSumUptoSaid : Prop := storeSumUptoRow.holds Try.pinned (OpenSpec.upto storeSumSpec)

/-- 'coppicerkeep.MachineFront', WHERE WHAT IT READS IS OF BULK AT MOST 1048576: true; the input reads as it did. -/
def machineFrontUptoRow : OpenClaim := { program := "ytljlpmfmfcljaaa", sum := "7b5f55e9e8713b0c8325c8a07911c05f4b60a3a0dc23e669352c6c6e651a0a76", func := "coppicer/coppicerkeep.MachineFront", spec := "machineFront", unfollowed := true, recurses := true, plainKeys := false, apart := false, narrowed := true }
def MachineFrontUptoSaid : Prop := machineFrontUptoRow.holds Try.pinned (OpenSpec.upto machineFrontSpec)

/-- 'coppicertop.TopTrees', WHERE WHAT IT READS IS OF BULK AT MOST 1048576: true; the input reads as it did. -/
def topTreesUptoRow : OpenClaim := { program := "ytljlpmfmfcljaaa", sum := "7b5f55e9e8713b0c8325c8a07911c05f4b60a3a0dc23e669352c6c6e651a0a76", func := "coppicer/coppicertop.TopTrees", spec := "topTrees", unfollowed := true, recurses := true, plainKeys := false, apart := false, narrowed := true }
def TopTreesUptoSaid : Prop := topTreesUptoRow.holds Try.pinned (OpenSpec.upto topTreesSpec)

/-- 'coppicertop.TopFront', WHERE WHAT IT READS IS OF BULK AT MOST 1048576: true; the input reads as it did. -/
def topFrontUptoRow : OpenClaim := { program := "ytljlpmfmfcljaaa", sum := "7b5f55e9e8713b0c8325c8a07911c05f4b60a3a0dc23e669352c6c6e651a0a76", func := "coppicer/coppicertop.TopFront", spec := "topFront", unfollowed := true, recurses := true, plainKeys := false, apart := false, narrowed := true }
def TopFrontUptoSaid : Prop := topFrontUptoRow.holds Try.pinned (OpenSpec.upto topFrontSpec)

/-- 'coppicerkeep.EndsGrow', WHERE WHAT IT READS IS OF BULK AT MOST 1048576: true; the input reads as it did. -/
def endsGrowUptoRow : OpenClaim := { program := "ytljlpmfmfcljaaa", sum := "7b5f55e9e8713b0c8325c8a07911c05f4b60a3a0dc23e669352c6c6e651a0a76", func := "coppicer/coppicerkeep.EndsGrow", spec := "endsGrow", inPlace := ["internal/bytealg.Compare"], unfollowed := true, recurses := true, plainKeys := false, apart := false, narrowed := true }
def EndsGrowUptoSaid : Prop := endsGrowUptoRow.holds Try.pinned (OpenSpec.upto endsGrowSpec)

end Rows
end Go.Proofs.Ytljlpmfmfcljaaa
