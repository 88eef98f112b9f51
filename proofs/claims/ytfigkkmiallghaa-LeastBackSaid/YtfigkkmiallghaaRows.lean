/-
  No cell of these rows narrows 'for every input' (looked for: loops, veiled, ifaces, maps, wideKeys, modest, calm, conditions, laid).
  DERIVED. THE GIVEN ROWS OF THIS SEAT. 12 by the template 'for every input the law returns true; each argument reads behind the call as it read before'; 0 by the template 'total and deterministic' (their statements: YtfigkkmiallghaaTotals.lean).
  GIVEN WITH THE SEED: the statements are not yours to turn. If you find one false, say at which input.
  Laid BY PROGRAM, IN A SANDBOX (cutbox-rows.mjs): the forced cells as the released guide's own fill.sh prints them over the translation d909520a2f055c90… (all of the seat's roots in one cut). By AI agents, Wed Nov 11 2026. No macro, syntax, notation, axiom, sorry.
-/
import Derived.Test.YtfigkkmiallghaaChecked
import GoSem.Claim
import GoSem.ClaimJoined
import GoSem.ClaimMapViews
import Derived.JoinedTies
import Derived.KernelRfl
namespace Go.Proofs.Ytfigkkmiallghaa
/- THE CELL 'sum', in the pinned program and in every row, IS THE sha256 OF THE DUMP (.gsa) THAT YtfigkkmiallghaaProg.lean LOADS. Nothing in Lean hashes anything: it is a label: what it is worth is what the hold of that sum in a sandbox is worth. -/
noncomputable def Try.pinned : Pinned := { name := "ytfigkkmiallghaa", sum := "d909520a2f055c905f156726185fc9d56b72de00cb3666ac158bbcb42eb49eb3", checked := Try.checked }
namespace Rows
def none {H : Type} : Left H := { results := [], args := [] }

/-- 'coppicerkeep.MachineFront': WHATEVER THE INPUT: true; the input reads as it did. -/
def machineFrontSpec : ChangeSpec := { name := "machineFront", fn := fun _ => fun
  | [d1, d2, d3] => { results := [.lit (.bool true)], args := [d1, d2, d3] }
  | _ => none }
def machineFrontRow : OpenClaim := { program := "ytfigkkmiallghaa", sum := "d909520a2f055c905f156726185fc9d56b72de00cb3666ac158bbcb42eb49eb3", func := "coppicer/coppicerkeep.MachineFront", spec := "machineFront", unfollowed := true, recurses := true, plainKeys := false, apart := false }
def MachineFrontSaid : Prop := machineFrontRow.holds Try.pinned (OpenSpec.ofChange machineFrontSpec)

/-- ITS FALSE NEIGHBOUR: 'it returns false'. Refute it at one input. -/
def machineFrontWrong : ChangeSpec := { name := "machineFront", fn := fun _ => fun
  | [d1, d2, d3] => { results := [.lit (.bool false)], args := [d1, d2, d3] }
  | _ => none }
def MachineFrontWrongFalsely : Prop := machineFrontRow.holds Try.pinned (OpenSpec.ofChange machineFrontWrong)

/-- 'coppicerkeep.MachineSets': WHATEVER THE INPUT: true; the input reads as it did. -/
def machineSetsSpec : ChangeSpec := { name := "machineSets", fn := fun _ => fun
  | [d1, d2, d3] => { results := [.lit (.bool true)], args := [d1, d2, d3] }
  | _ => none }
def machineSetsRow : OpenClaim := { program := "ytfigkkmiallghaa", sum := "d909520a2f055c905f156726185fc9d56b72de00cb3666ac158bbcb42eb49eb3", func := "coppicer/coppicerkeep.MachineSets", spec := "machineSets", unfollowed := true, recurses := true, plainKeys := false, apart := false }
def MachineSetsSaid : Prop := machineSetsRow.holds Try.pinned (OpenSpec.ofChange machineSetsSpec)

/-- ITS FALSE NEIGHBOUR: 'it returns false'. Refute it at one input. -/
def machineSetsWrong : ChangeSpec := { name := "machineSets", fn := fun _ => fun
  | [d1, d2, d3] => { results := [.lit (.bool false)], args := [d1, d2, d3] }
  | _ => none }
def MachineSetsWrongFalsely : Prop := machineSetsRow.holds Try.pinned (OpenSpec.ofChange machineSetsWrong)

/-- 'coppicerkeep.NetMore': WHATEVER THE INPUT: true; the input reads as it did. -/
def netMoreSpec : ChangeSpec := { name := "netMore", fn := fun _ => fun
  | [d1, d2, d3] => { results := [.lit (.bool true)], args := [d1, d2, d3] }
  | _ => none }
def netMoreRow : OpenClaim := { program := "ytfigkkmiallghaa", sum := "d909520a2f055c905f156726185fc9d56b72de00cb3666ac158bbcb42eb49eb3", func := "coppicer/coppicerkeep.NetMore", spec := "netMore", unfollowed := true, recurses := true, plainKeys := false, apart := false }
def NetMoreSaid : Prop := netMoreRow.holds Try.pinned (OpenSpec.ofChange netMoreSpec)

/-- ITS FALSE NEIGHBOUR: 'it returns false'. Refute it at one input. -/
def netMoreWrong : ChangeSpec := { name := "netMore", fn := fun _ => fun
  | [d1, d2, d3] => { results := [.lit (.bool false)], args := [d1, d2, d3] }
  | _ => none }
def NetMoreWrongFalsely : Prop := netMoreRow.holds Try.pinned (OpenSpec.ofChange netMoreWrong)

/-- 'coppicerkeep.NetBack': WHATEVER THE INPUT: true; the input reads as it did. -/
def netBackSpec : ChangeSpec := { name := "netBack", fn := fun _ => fun
  | [d1, d2] => { results := [.lit (.bool true)], args := [d1, d2] }
  | _ => none }
def netBackRow : OpenClaim := { program := "ytfigkkmiallghaa", sum := "d909520a2f055c905f156726185fc9d56b72de00cb3666ac158bbcb42eb49eb3", func := "coppicer/coppicerkeep.NetBack", spec := "netBack", unfollowed := true, recurses := true, plainKeys := false, apart := false }
def NetBackSaid : Prop := netBackRow.holds Try.pinned (OpenSpec.ofChange netBackSpec)

/-- ITS FALSE NEIGHBOUR: 'it returns false'. Refute it at one input. -/
def netBackWrong : ChangeSpec := { name := "netBack", fn := fun _ => fun
  | [d1, d2] => { results := [.lit (.bool false)], args := [d1, d2] }
  | _ => none }
def NetBackWrongFalsely : Prop := netBackRow.holds Try.pinned (OpenSpec.ofChange netBackWrong)

/-- 'coppicerkeep.NetSure': WHATEVER THE INPUT: true; the input reads as it did. -/
def netSureSpec : ChangeSpec := { name := "netSure", fn := fun _ => fun
  | [d1, d2] => { results := [.lit (.bool true)], args := [d1, d2] }
  | _ => none }
def netSureRow : OpenClaim := { program := "ytfigkkmiallghaa", sum := "d909520a2f055c905f156726185fc9d56b72de00cb3666ac158bbcb42eb49eb3", func := "coppicer/coppicerkeep.NetSure", spec := "netSure", unfollowed := true, recurses := true, plainKeys := false, apart := false }
def NetSureSaid : Prop := netSureRow.holds Try.pinned (OpenSpec.ofChange netSureSpec)

/-- ITS FALSE NEIGHBOUR: 'it returns false'. Refute it at one input. -/
def netSureWrong : ChangeSpec := { name := "netSure", fn := fun _ => fun
  | [d1, d2] => { results := [.lit (.bool false)], args := [d1, d2] }
  | _ => none }
def NetSureWrongFalsely : Prop := netSureRow.holds Try.pinned (OpenSpec.ofChange netSureWrong)

/-- 'coppicerkeep.LeastFew': WHATEVER THE INPUT: true; the input reads as it did. -/
def leastFewSpec : ChangeSpec := { name := "leastFew", fn := fun _ => fun
  | [d1, d2, d3] => { results := [.lit (.bool true)], args := [d1, d2, d3] }
  | _ => none }
def leastFewRow : OpenClaim := { program := "ytfigkkmiallghaa", sum := "d909520a2f055c905f156726185fc9d56b72de00cb3666ac158bbcb42eb49eb3", func := "coppicer/coppicerkeep.LeastFew", spec := "leastFew", unfollowed := true, recurses := true, plainKeys := false, apart := false }
def LeastFewSaid : Prop := leastFewRow.holds Try.pinned (OpenSpec.ofChange leastFewSpec)

/-- ITS FALSE NEIGHBOUR: 'it returns false'. Refute it at one input. -/
def leastFewWrong : ChangeSpec := { name := "leastFew", fn := fun _ => fun
  | [d1, d2, d3] => { results := [.lit (.bool false)], args := [d1, d2, d3] }
  | _ => none }
def LeastFewWrongFalsely : Prop := leastFewRow.holds Try.pinned (OpenSpec.ofChange leastFewWrong)

/-- 'coppicerkeep.LeastBack': WHATEVER THE INPUT: true; the input reads as it did. -/
def leastBackSpec : ChangeSpec := { name := "leastBack", fn := fun _ => fun
  | [d] => { results := [.lit (.bool true)], args := [d] }
  | _ => none }
def leastBackRow : OpenClaim := { program := "ytfigkkmiallghaa", sum := "d909520a2f055c905f156726185fc9d56b72de00cb3666ac158bbcb42eb49eb3", func := "coppicer/coppicerkeep.LeastBack", spec := "leastBack", unfollowed := true, recurses := true, plainKeys := false, apart := false }
def LeastBackSaid : Prop := leastBackRow.holds Try.pinned (OpenSpec.ofChange leastBackSpec)

/-- ITS FALSE NEIGHBOUR: 'it returns false'. Refute it at one input. -/
def leastBackWrong : ChangeSpec := { name := "leastBack", fn := fun _ => fun
  | [d] => { results := [.lit (.bool false)], args := [d] }
  | _ => none }
def LeastBackWrongFalsely : Prop := leastBackRow.holds Try.pinned (OpenSpec.ofChange leastBackWrong)

/-- 'coppicerkeep.LeastApart': WHATEVER THE INPUT: true; the input reads as it did. -/
def leastApartSpec : ChangeSpec := { name := "leastApart", fn := fun _ => fun
  | [d1, d2, d3] => { results := [.lit (.bool true)], args := [d1, d2, d3] }
  | _ => none }
def leastApartRow : OpenClaim := { program := "ytfigkkmiallghaa", sum := "d909520a2f055c905f156726185fc9d56b72de00cb3666ac158bbcb42eb49eb3", func := "coppicer/coppicerkeep.LeastApart", spec := "leastApart", unfollowed := true, recurses := true, plainKeys := false, apart := false }
def LeastApartSaid : Prop := leastApartRow.holds Try.pinned (OpenSpec.ofChange leastApartSpec)

/-- ITS FALSE NEIGHBOUR: 'it returns false'. Refute it at one input. -/
def leastApartWrong : ChangeSpec := { name := "leastApart", fn := fun _ => fun
  | [d1, d2, d3] => { results := [.lit (.bool false)], args := [d1, d2, d3] }
  | _ => none }
def LeastApartWrongFalsely : Prop := leastApartRow.holds Try.pinned (OpenSpec.ofChange leastApartWrong)

/-- 'coppicerkeep.TallyPump': WHATEVER THE INPUT: true; the input reads as it did. -/
def tallyPumpSpec : ChangeSpec := { name := "tallyPump", fn := fun _ => fun
  | [d1, d2, d3] => { results := [.lit (.bool true)], args := [d1, d2, d3] }
  | _ => none }
def tallyPumpRow : OpenClaim := { program := "ytfigkkmiallghaa", sum := "d909520a2f055c905f156726185fc9d56b72de00cb3666ac158bbcb42eb49eb3", func := "coppicer/coppicerkeep.TallyPump", spec := "tallyPump", unfollowed := true, recurses := true, plainKeys := false, apart := false }
def TallyPumpSaid : Prop := tallyPumpRow.holds Try.pinned (OpenSpec.ofChange tallyPumpSpec)

/-- ITS FALSE NEIGHBOUR: 'it returns false'. Refute it at one input. -/
def tallyPumpWrong : ChangeSpec := { name := "tallyPump", fn := fun _ => fun
  | [d1, d2, d3] => { results := [.lit (.bool false)], args := [d1, d2, d3] }
  | _ => none }
def TallyPumpWrongFalsely : Prop := tallyPumpRow.holds Try.pinned (OpenSpec.ofChange tallyPumpWrong)

/-- 'coppicerkeep.TallyBack': WHATEVER THE INPUT: true; the input reads as it did. -/
def tallyBackSpec : ChangeSpec := { name := "tallyBack", fn := fun _ => fun
  | [d1, d2, d3] => { results := [.lit (.bool true)], args := [d1, d2, d3] }
  | _ => none }
def tallyBackRow : OpenClaim := { program := "ytfigkkmiallghaa", sum := "d909520a2f055c905f156726185fc9d56b72de00cb3666ac158bbcb42eb49eb3", func := "coppicer/coppicerkeep.TallyBack", spec := "tallyBack", unfollowed := true, recurses := true, plainKeys := false, apart := false }
def TallyBackSaid : Prop := tallyBackRow.holds Try.pinned (OpenSpec.ofChange tallyBackSpec)

/-- ITS FALSE NEIGHBOUR: 'it returns false'. Refute it at one input. -/
def tallyBackWrong : ChangeSpec := { name := "tallyBack", fn := fun _ => fun
  | [d1, d2, d3] => { results := [.lit (.bool false)], args := [d1, d2, d3] }
  | _ => none }
def TallyBackWrongFalsely : Prop := tallyBackRow.holds Try.pinned (OpenSpec.ofChange tallyBackWrong)

/-- 'coppicerkeep.KindsSame': WHATEVER THE INPUT: true; the input reads as it did. -/
def kindsSameSpec : ChangeSpec := { name := "kindsSame", fn := fun _ => fun
  | [d1, d2, d3, d4, d5] => { results := [.lit (.bool true)], args := [d1, d2, d3, d4, d5] }
  | _ => none }
def kindsSameRow : OpenClaim := { program := "ytfigkkmiallghaa", sum := "d909520a2f055c905f156726185fc9d56b72de00cb3666ac158bbcb42eb49eb3", func := "coppicer/coppicerkeep.KindsSame", spec := "kindsSame", unfollowed := true, recurses := true, plainKeys := false, apart := false }
def KindsSameSaid : Prop := kindsSameRow.holds Try.pinned (OpenSpec.ofChange kindsSameSpec)

/-- ITS FALSE NEIGHBOUR: 'it returns false'. Refute it at one input. -/
def kindsSameWrong : ChangeSpec := { name := "kindsSame", fn := fun _ => fun
  | [d1, d2, d3, d4, d5] => { results := [.lit (.bool false)], args := [d1, d2, d3, d4, d5] }
  | _ => none }
def KindsSameWrongFalsely : Prop := kindsSameRow.holds Try.pinned (OpenSpec.ofChange kindsSameWrong)

/-- 'coppicerkeep.KindsStill': WHATEVER THE INPUT: true; the input reads as it did. -/
def kindsStillSpec : ChangeSpec := { name := "kindsStill", fn := fun _ => fun
  | [d1, d2] => { results := [.lit (.bool true)], args := [d1, d2] }
  | _ => none }
def kindsStillRow : OpenClaim := { program := "ytfigkkmiallghaa", sum := "d909520a2f055c905f156726185fc9d56b72de00cb3666ac158bbcb42eb49eb3", func := "coppicer/coppicerkeep.KindsStill", spec := "kindsStill", unfollowed := true, recurses := true, plainKeys := false, apart := false }
def KindsStillSaid : Prop := kindsStillRow.holds Try.pinned (OpenSpec.ofChange kindsStillSpec)

/-- ITS FALSE NEIGHBOUR: 'it returns false'. Refute it at one input. -/
def kindsStillWrong : ChangeSpec := { name := "kindsStill", fn := fun _ => fun
  | [d1, d2] => { results := [.lit (.bool false)], args := [d1, d2] }
  | _ => none }
def KindsStillWrongFalsely : Prop := kindsStillRow.holds Try.pinned (OpenSpec.ofChange kindsStillWrong)

/- THE SECOND FORM. 'bulk': how many values and letters a reading holds, each counted each time it is reached (what is shared counts as often as it is met; a slice's spare places count too). A statement '..UptoSaid' is the law's where the arguments, and the package variables that the reading takes, are together of bulk at most 1048576: NARROWER than '..Said'. Prove '..Said' where nothing that the law and all that it calls make is longer than what came in: it says more and counts as full. Else prove '..UptoSaid'. A law counts once. -/
mutual
def uptoBulk {H : Type} : DataW H → Nat
  | .lit (.string bytes) => bytes.length + 1
  | .lit _ => 1
  | .nil => 1
  | .ptr d => uptoBulk d + 1
  | .slice elems spare => uptoBulkAll elems + uptoBulkAll spare + 1
  | .agg parts => uptoBulkAll parts + 1
  | .iface _ d => uptoBulk d + 1
  | .map entries => uptoBulkEntries entries + 1
  | .held _ => 1
def uptoBulkAll {H : Type} : List (DataW H) → Nat
  | [] => 0
  | d :: r => uptoBulk d + uptoBulkAll r
def uptoBulkEntries {H : Type} : List (Lit × DataW H) → Nat
  | [] => 0
  | x :: r => uptoBulkEntry x + uptoBulkEntries r
def uptoBulkEntry {H : Type} : Lit × DataW H → Nat
  | (.string bytes, d) => bytes.length + uptoBulk d + 1
  | (_, d) => uptoBulk d + 1
 end
def uptoSmall : (H : Type) → List (DataW H) → Bool := fun _ ds => decide (uptoBulkAll ds ≤ 1048576)
def OpenSpec.upto (s : _root_.Go.ChangeSpec) : _root_.Go.OpenSpec := { _root_.Go.OpenSpec.ofChange s with cond := some uptoSmall }

/-- 'coppicerkeep.MachineFront', WHERE WHAT IT READS IS OF BULK AT MOST 1048576: true; the input reads as it did. -/
def machineFrontUptoRow : OpenClaim := { program := "ytfigkkmiallghaa", sum := "d909520a2f055c905f156726185fc9d56b72de00cb3666ac158bbcb42eb49eb3", func := "coppicer/coppicerkeep.MachineFront", spec := "machineFront", unfollowed := true, recurses := true, plainKeys := false, apart := false, narrowed := true }
def MachineFrontUptoSaid : Prop := machineFrontUptoRow.holds Try.pinned (OpenSpec.upto machineFrontSpec)

/-- 'coppicerkeep.MachineSets', WHERE WHAT IT READS IS OF BULK AT MOST 1048576: true; the input reads as it did. -/
def machineSetsUptoRow : OpenClaim := { program := "ytfigkkmiallghaa", sum := "d909520a2f055c905f156726185fc9d56b72de00cb3666ac158bbcb42eb49eb3", func := "coppicer/coppicerkeep.MachineSets", spec := "machineSets", unfollowed := true, recurses := true, plainKeys := false, apart := false, narrowed := true }
def MachineSetsUptoSaid : Prop := machineSetsUptoRow.holds Try.pinned (OpenSpec.upto machineSetsSpec)

/-- 'coppicerkeep.NetMore', WHERE WHAT IT READS IS OF BULK AT MOST 1048576: true; the input reads as it did. -/
def netMoreUptoRow : OpenClaim := { program := "ytfigkkmiallghaa", sum := "d909520a2f055c905f156726185fc9d56b72de00cb3666ac158bbcb42eb49eb3", func := "coppicer/coppicerkeep.NetMore", spec := "netMore", unfollowed := true, recurses := true, plainKeys := false, apart := false, narrowed := true }
def NetMoreUptoSaid : Prop := netMoreUptoRow.holds Try.pinned (OpenSpec.upto netMoreSpec)

/-- 'coppicerkeep.NetBack', WHERE WHAT IT READS IS OF BULK AT MOST 1048576: true; the input reads as it did. -/
def netBackUptoRow : OpenClaim := { program := "ytfigkkmiallghaa", sum := "d909520a2f055c905f156726185fc9d56b72de00cb3666ac158bbcb42eb49eb3", func := "coppicer/coppicerkeep.NetBack", spec := "netBack", unfollowed := true, recurses := true, plainKeys := false, apart := false, narrowed := true }
def NetBackUptoSaid : Prop := netBackUptoRow.holds Try.pinned (OpenSpec.upto netBackSpec)

/-- 'coppicerkeep.NetSure', WHERE WHAT IT READS IS OF BULK AT MOST 1048576: true; the input reads as it did. -/
def netSureUptoRow : OpenClaim := { program := "ytfigkkmiallghaa", sum := "d909520a2f055c905f156726185fc9d56b72de00cb3666ac158bbcb42eb49eb3", func := "coppicer/coppicerkeep.NetSure", spec := "netSure", unfollowed := true, recurses := true, plainKeys := false, apart := false, narrowed := true }
def NetSureUptoSaid : Prop := netSureUptoRow.holds Try.pinned (OpenSpec.upto netSureSpec)

/-- 'coppicerkeep.LeastFew', WHERE WHAT IT READS IS OF BULK AT MOST 1048576: true; the input reads as it did. -/
def leastFewUptoRow : OpenClaim := { program := "ytfigkkmiallghaa", sum := "d909520a2f055c905f156726185fc9d56b72de00cb3666ac158bbcb42eb49eb3", func := "coppicer/coppicerkeep.LeastFew", spec := "leastFew", unfollowed := true, recurses := true, plainKeys := false, apart := false, narrowed := true }
def LeastFewUptoSaid : Prop := leastFewUptoRow.holds Try.pinned (OpenSpec.upto leastFewSpec)

/-- 'coppicerkeep.LeastBack', WHERE WHAT IT READS IS OF BULK AT MOST 1048576: true; the input reads as it did. -/
def leastBackUptoRow : OpenClaim := { program := "ytfigkkmiallghaa", sum := "d909520a2f055c905f156726185fc9d56b72de00cb3666ac158bbcb42eb49eb3", func := "coppicer/coppicerkeep.LeastBack", spec := "leastBack", unfollowed := true, recurses := true, plainKeys := false, apart := false, narrowed := true }
def LeastBackUptoSaid : Prop := leastBackUptoRow.holds Try.pinned (OpenSpec.upto leastBackSpec)

/-- 'coppicerkeep.LeastApart', WHERE WHAT IT READS IS OF BULK AT MOST 1048576: true; the input reads as it did. -/
def leastApartUptoRow : OpenClaim := { program := "ytfigkkmiallghaa", sum := "d909520a2f055c905f156726185fc9d56b72de00cb3666ac158bbcb42eb49eb3", func := "coppicer/coppicerkeep.LeastApart", spec := "leastApart", unfollowed := true, recurses := true, plainKeys := false, apart := false, narrowed := true }
def LeastApartUptoSaid : Prop := leastApartUptoRow.holds Try.pinned (OpenSpec.upto leastApartSpec)

/-- 'coppicerkeep.TallyPump', WHERE WHAT IT READS IS OF BULK AT MOST 1048576: true; the input reads as it did. -/
def tallyPumpUptoRow : OpenClaim := { program := "ytfigkkmiallghaa", sum := "d909520a2f055c905f156726185fc9d56b72de00cb3666ac158bbcb42eb49eb3", func := "coppicer/coppicerkeep.TallyPump", spec := "tallyPump", unfollowed := true, recurses := true, plainKeys := false, apart := false, narrowed := true }
def TallyPumpUptoSaid : Prop := tallyPumpUptoRow.holds Try.pinned (OpenSpec.upto tallyPumpSpec)

/-- 'coppicerkeep.TallyBack', WHERE WHAT IT READS IS OF BULK AT MOST 1048576: true; the input reads as it did. -/
def tallyBackUptoRow : OpenClaim := { program := "ytfigkkmiallghaa", sum := "d909520a2f055c905f156726185fc9d56b72de00cb3666ac158bbcb42eb49eb3", func := "coppicer/coppicerkeep.TallyBack", spec := "tallyBack", unfollowed := true, recurses := true, plainKeys := false, apart := false, narrowed := true }
def TallyBackUptoSaid : Prop := tallyBackUptoRow.holds Try.pinned (OpenSpec.upto tallyBackSpec)

/-- 'coppicerkeep.KindsSame', WHERE WHAT IT READS IS OF BULK AT MOST 1048576: true; the input reads as it did. -/
def kindsSameUptoRow : OpenClaim := { program := "ytfigkkmiallghaa", sum := "d909520a2f055c905f156726185fc9d56b72de00cb3666ac158bbcb42eb49eb3", func := "coppicer/coppicerkeep.KindsSame", spec := "kindsSame", unfollowed := true, recurses := true, plainKeys := false, apart := false, narrowed := true }
def KindsSameUptoSaid : Prop := kindsSameUptoRow.holds Try.pinned (OpenSpec.upto kindsSameSpec)

/-- 'coppicerkeep.KindsStill', WHERE WHAT IT READS IS OF BULK AT MOST 1048576: true; the input reads as it did. -/
def kindsStillUptoRow : OpenClaim := { program := "ytfigkkmiallghaa", sum := "d909520a2f055c905f156726185fc9d56b72de00cb3666ac158bbcb42eb49eb3", func := "coppicer/coppicerkeep.KindsStill", spec := "kindsStill", unfollowed := true, recurses := true, plainKeys := false, apart := false, narrowed := true }
def KindsStillUptoSaid : Prop := kindsStillUptoRow.holds Try.pinned (OpenSpec.upto kindsStillSpec)

end Rows
end Go.Proofs.Ytfigkkmiallghaa
