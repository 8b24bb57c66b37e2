/-
  No cell of these rows narrows 'for every input' (looked for: loops, veiled, ifaces, maps, wideKeys, modest, calm, conditions, laid).
  DERIVED. THE GIVEN ROWS OF THIS SEAT. 11 by the template 'for every input the law returns true; each argument reads behind the call as it read before'; 0 by the template 'total and deterministic' (their statements: YtdlhhoejnhjbhaaTotals.lean).
  GIVEN WITH THE SEED: the statements are not yours to turn. If you find one false, say at which input.
  Laid BY PROGRAM, IN A SANDBOX (cutbox-rows.mjs): the forced cells as the released guide's own fill.sh prints them over the translation 13cda89688c7bc6c… (all of the seat's roots in one cut). By AI agents, Wed Nov 11 2026. No macro, syntax, notation, axiom, sorry.
-/
import Derived.Test.YtdlhhoejnhjbhaaChecked
import GoSem.Claim
import GoSem.ClaimJoined
import GoSem.ClaimMapViews
import Derived.JoinedTies
import Derived.KernelRfl
namespace Go.Proofs.Ytdlhhoejnhjbhaa
/- THE CELL 'sum', in the pinned program and in every row, IS THE sha256 OF THE DUMP (.gsa) THAT YtdlhhoejnhjbhaaProg.lean LOADS. Nothing in Lean hashes anything: it is a label: what it is worth is what the hold of that sum in a sandbox is worth. -/
noncomputable def Try.pinned : Pinned := { name := "ytdlhhoejnhjbhaa", sum := "13cda89688c7bc6c2463e0cd5dcba2d1961c5c8d687def36219f98c5246ce66a", checked := Try.checked }
namespace Rows
def none {H : Type} : Left H := { results := [], args := [] }

/-- 'rudderlaw02.OrderTells': WHATEVER THE INPUT: true; the input reads as it did. -/
def orderTellsSpec : ChangeSpec := { name := "orderTells", fn := fun _ => fun
  | [d1, d2] => { results := [.lit (.bool true)], args := [d1, d2] }
  | _ => none }
def orderTellsRow : OpenClaim := { program := "ytdlhhoejnhjbhaa", sum := "13cda89688c7bc6c2463e0cd5dcba2d1961c5c8d687def36219f98c5246ce66a", func := "rudder/rudderlaw02.OrderTells", spec := "orderTells", unfollowed := true, recurses := true, apart := false }
def OrderTellsSaid : Prop := orderTellsRow.holds Try.pinned (OpenSpec.ofChange orderTellsSpec)

/-- ITS FALSE NEIGHBOUR: 'it returns false'. Refute it at one input. -/
def orderTellsWrong : ChangeSpec := { name := "orderTells", fn := fun _ => fun
  | [d1, d2] => { results := [.lit (.bool false)], args := [d1, d2] }
  | _ => none }
def OrderTellsWrongFalsely : Prop := orderTellsRow.holds Try.pinned (OpenSpec.ofChange orderTellsWrong)

/-- 'rudderlaw02.OrderSorted': WHATEVER THE INPUT: true; the input reads as it did. -/
def orderSortedSpec : ChangeSpec := { name := "orderSorted", fn := fun _ => fun
  | [d] => { results := [.lit (.bool true)], args := [d] }
  | _ => none }
def orderSortedRow : OpenClaim := { program := "ytdlhhoejnhjbhaa", sum := "13cda89688c7bc6c2463e0cd5dcba2d1961c5c8d687def36219f98c5246ce66a", func := "rudder/rudderlaw02.OrderSorted", spec := "orderSorted", unfollowed := true, recurses := true, apart := false }
def OrderSortedSaid : Prop := orderSortedRow.holds Try.pinned (OpenSpec.ofChange orderSortedSpec)

/-- ITS FALSE NEIGHBOUR: 'it returns false'. Refute it at one input. -/
def orderSortedWrong : ChangeSpec := { name := "orderSorted", fn := fun _ => fun
  | [d] => { results := [.lit (.bool false)], args := [d] }
  | _ => none }
def OrderSortedWrongFalsely : Prop := orderSortedRow.holds Try.pinned (OpenSpec.ofChange orderSortedWrong)

/-- 'rudderlaw02.OrderMidst': WHATEVER THE INPUT: true; the input reads as it did. -/
def orderMidstSpec : ChangeSpec := { name := "orderMidst", fn := fun _ => fun
  | [d1, d2, d3] => { results := [.lit (.bool true)], args := [d1, d2, d3] }
  | _ => none }
def orderMidstRow : OpenClaim := { program := "ytdlhhoejnhjbhaa", sum := "13cda89688c7bc6c2463e0cd5dcba2d1961c5c8d687def36219f98c5246ce66a", func := "rudder/rudderlaw02.OrderMidst", spec := "orderMidst", unfollowed := true, recurses := true, apart := false }
def OrderMidstSaid : Prop := orderMidstRow.holds Try.pinned (OpenSpec.ofChange orderMidstSpec)

/-- ITS FALSE NEIGHBOUR: 'it returns false'. Refute it at one input. -/
def orderMidstWrong : ChangeSpec := { name := "orderMidst", fn := fun _ => fun
  | [d1, d2, d3] => { results := [.lit (.bool false)], args := [d1, d2, d3] }
  | _ => none }
def OrderMidstWrongFalsely : Prop := orderMidstRow.holds Try.pinned (OpenSpec.ofChange orderMidstWrong)

/-- 'rudderlaw01.FixTells': WHATEVER THE INPUT: true; the input reads as it did. -/
def fixTellsSpec : ChangeSpec := { name := "fixTells", fn := fun _ => fun
  | [d1, d2, d3] => { results := [.lit (.bool true)], args := [d1, d2, d3] }
  | _ => none }
def fixTellsRow : OpenClaim := { program := "ytdlhhoejnhjbhaa", sum := "13cda89688c7bc6c2463e0cd5dcba2d1961c5c8d687def36219f98c5246ce66a", func := "rudder/rudderlaw01.FixTells", spec := "fixTells", apart := false }
def FixTellsSaid : Prop := fixTellsRow.holds Try.pinned (OpenSpec.ofChange fixTellsSpec)

/-- ITS FALSE NEIGHBOUR: 'it returns false'. Refute it at one input. -/
def fixTellsWrong : ChangeSpec := { name := "fixTells", fn := fun _ => fun
  | [d1, d2, d3] => { results := [.lit (.bool false)], args := [d1, d2, d3] }
  | _ => none }
def FixTellsWrongFalsely : Prop := fixTellsRow.holds Try.pinned (OpenSpec.ofChange fixTellsWrong)

/-- 'rudderlaw01.FixMasks': WHATEVER THE INPUT: true; the input reads as it did. -/
def fixMasksSpec : ChangeSpec := { name := "fixMasks", fn := fun _ => fun
  | [d1, d2, d3] => { results := [.lit (.bool true)], args := [d1, d2, d3] }
  | _ => none }
def fixMasksRow : OpenClaim := { program := "ytdlhhoejnhjbhaa", sum := "13cda89688c7bc6c2463e0cd5dcba2d1961c5c8d687def36219f98c5246ce66a", func := "rudder/rudderlaw01.FixMasks", spec := "fixMasks", apart := false }
def FixMasksSaid : Prop := fixMasksRow.holds Try.pinned (OpenSpec.ofChange fixMasksSpec)

/-- ITS FALSE NEIGHBOUR: 'it returns false'. Refute it at one input. -/
def fixMasksWrong : ChangeSpec := { name := "fixMasks", fn := fun _ => fun
  | [d1, d2, d3] => { results := [.lit (.bool false)], args := [d1, d2, d3] }
  | _ => none }
def FixMasksWrongFalsely : Prop := fixMasksRow.holds Try.pinned (OpenSpec.ofChange fixMasksWrong)

/-- 'rudderlaw01.FixFloors': WHATEVER THE INPUT: true; the input reads as it did. -/
def fixFloorsSpec : ChangeSpec := { name := "fixFloors", fn := fun _ => fun
  | [d1, d2, d3] => { results := [.lit (.bool true)], args := [d1, d2, d3] }
  | _ => none }
def fixFloorsRow : OpenClaim := { program := "ytdlhhoejnhjbhaa", sum := "13cda89688c7bc6c2463e0cd5dcba2d1961c5c8d687def36219f98c5246ce66a", func := "rudder/rudderlaw01.FixFloors", spec := "fixFloors", apart := false }
def FixFloorsSaid : Prop := fixFloorsRow.holds Try.pinned (OpenSpec.ofChange fixFloorsSpec)

/-- ITS FALSE NEIGHBOUR: 'it returns false'. Refute it at one input. -/
def fixFloorsWrong : ChangeSpec := { name := "fixFloors", fn := fun _ => fun
  | [d1, d2, d3] => { results := [.lit (.bool false)], args := [d1, d2, d3] }
  | _ => none }
def FixFloorsWrongFalsely : Prop := fixFloorsRow.holds Try.pinned (OpenSpec.ofChange fixFloorsWrong)

/-- 'rudderlaw01.FixBetween': WHATEVER THE INPUT: true; the input reads as it did. -/
def fixBetweenSpec : ChangeSpec := { name := "fixBetween", fn := fun _ => fun
  | [d1, d2, d3] => { results := [.lit (.bool true)], args := [d1, d2, d3] }
  | _ => none }
def fixBetweenRow : OpenClaim := { program := "ytdlhhoejnhjbhaa", sum := "13cda89688c7bc6c2463e0cd5dcba2d1961c5c8d687def36219f98c5246ce66a", func := "rudder/rudderlaw01.FixBetween", spec := "fixBetween", apart := false }
def FixBetweenSaid : Prop := fixBetweenRow.holds Try.pinned (OpenSpec.ofChange fixBetweenSpec)

/-- ITS FALSE NEIGHBOUR: 'it returns false'. Refute it at one input. -/
def fixBetweenWrong : ChangeSpec := { name := "fixBetween", fn := fun _ => fun
  | [d1, d2, d3] => { results := [.lit (.bool false)], args := [d1, d2, d3] }
  | _ => none }
def FixBetweenWrongFalsely : Prop := fixBetweenRow.holds Try.pinned (OpenSpec.ofChange fixBetweenWrong)

/-- 'rudderlaw09.StuckPlays': WHATEVER THE INPUT: true; the input reads as it did. -/
def stuckPlaysSpec : ChangeSpec := { name := "stuckPlays", fn := fun _ => fun
  | [d1, d2, d3] => { results := [.lit (.bool true)], args := [d1, d2, d3] }
  | _ => none }
def stuckPlaysRow : OpenClaim := { program := "ytdlhhoejnhjbhaa", sum := "13cda89688c7bc6c2463e0cd5dcba2d1961c5c8d687def36219f98c5246ce66a", func := "rudder/rudderlaw09.StuckPlays", spec := "stuckPlays", unfollowed := true, recurses := true, apart := false }
def StuckPlaysSaid : Prop := stuckPlaysRow.holds Try.pinned (OpenSpec.ofChange stuckPlaysSpec)

/-- ITS FALSE NEIGHBOUR: 'it returns false'. Refute it at one input. -/
def stuckPlaysWrong : ChangeSpec := { name := "stuckPlays", fn := fun _ => fun
  | [d1, d2, d3] => { results := [.lit (.bool false)], args := [d1, d2, d3] }
  | _ => none }
def StuckPlaysWrongFalsely : Prop := stuckPlaysRow.holds Try.pinned (OpenSpec.ofChange stuckPlaysWrong)

/-- 'rudderlaw09.StuckFrozen': WHATEVER THE INPUT: true; the input reads as it did. -/
def stuckFrozenSpec : ChangeSpec := { name := "stuckFrozen", fn := fun _ => fun
  | [d1, d2, d3] => { results := [.lit (.bool true)], args := [d1, d2, d3] }
  | _ => none }
def stuckFrozenRow : OpenClaim := { program := "ytdlhhoejnhjbhaa", sum := "13cda89688c7bc6c2463e0cd5dcba2d1961c5c8d687def36219f98c5246ce66a", func := "rudder/rudderlaw09.StuckFrozen", spec := "stuckFrozen", unfollowed := true, recurses := true, apart := false }
def StuckFrozenSaid : Prop := stuckFrozenRow.holds Try.pinned (OpenSpec.ofChange stuckFrozenSpec)

/-- ITS FALSE NEIGHBOUR: 'it returns false'. Refute it at one input. -/
def stuckFrozenWrong : ChangeSpec := { name := "stuckFrozen", fn := fun _ => fun
  | [d1, d2, d3] => { results := [.lit (.bool false)], args := [d1, d2, d3] }
  | _ => none }
def StuckFrozenWrongFalsely : Prop := stuckFrozenRow.holds Try.pinned (OpenSpec.ofChange stuckFrozenWrong)

/-- 'rudderlaw13.ParityTells': WHATEVER THE INPUT: true; the input reads as it did. -/
def parityTellsSpec : ChangeSpec := { name := "parityTells", fn := fun _ => fun
  | [d1, d2] => { results := [.lit (.bool true)], args := [d1, d2] }
  | _ => none }
def parityTellsRow : OpenClaim := { program := "ytdlhhoejnhjbhaa", sum := "13cda89688c7bc6c2463e0cd5dcba2d1961c5c8d687def36219f98c5246ce66a", func := "rudder/rudderlaw13.ParityTells", spec := "parityTells", unfollowed := true, recurses := true, apart := false }
def ParityTellsSaid : Prop := parityTellsRow.holds Try.pinned (OpenSpec.ofChange parityTellsSpec)

/-- ITS FALSE NEIGHBOUR: 'it returns false'. Refute it at one input. -/
def parityTellsWrong : ChangeSpec := { name := "parityTells", fn := fun _ => fun
  | [d1, d2] => { results := [.lit (.bool false)], args := [d1, d2] }
  | _ => none }
def ParityTellsWrongFalsely : Prop := parityTellsRow.holds Try.pinned (OpenSpec.ofChange parityTellsWrong)

/-- 'rudderlaw13.ParityFour': WHATEVER THE INPUT: true; the input reads as it did. -/
def parityFourSpec : ChangeSpec := { name := "parityFour", fn := fun _ => fun
  | [d1, d2, d3] => { results := [.lit (.bool true)], args := [d1, d2, d3] }
  | _ => none }
def parityFourRow : OpenClaim := { program := "ytdlhhoejnhjbhaa", sum := "13cda89688c7bc6c2463e0cd5dcba2d1961c5c8d687def36219f98c5246ce66a", func := "rudder/rudderlaw13.ParityFour", spec := "parityFour", unfollowed := true, recurses := true, apart := false }
def ParityFourSaid : Prop := parityFourRow.holds Try.pinned (OpenSpec.ofChange parityFourSpec)

/-- ITS FALSE NEIGHBOUR: 'it returns false'. Refute it at one input. -/
def parityFourWrong : ChangeSpec := { name := "parityFour", fn := fun _ => fun
  | [d1, d2, d3] => { results := [.lit (.bool false)], args := [d1, d2, d3] }
  | _ => none }
def ParityFourWrongFalsely : Prop := parityFourRow.holds Try.pinned (OpenSpec.ofChange parityFourWrong)

/- THE SECOND FORM. 'bulk': how many values and letters a reading holds, each counted each time it is reached (what is shared counts as often as it is met; a slice's spare places count too). A statement '..UptoSaid' is the law's where the arguments, and the package variables that the reading takes, are together of bulk at most 1048576: NARROWER than '..Said'. Prove '..Said' where nothing that the law and all that it calls make is longer than what came in: it says more and counts as full. Else prove '..UptoSaid'. A law counts once. -/
mutual
def uptoBulk {H : Type} : DataW H → Nat
  | .lit (.string bytes) => bytes.length + 1
  | .lit _ => 1
  | .nil => 1
  | .ptr d => uptoBulk d + 1
  | .slice elems spare => uptoBulkAll elems + uptoBulkAll spare + 1
  | .agg parts => uptoBulkAll parts + 1
  | .iface _ d => uptoBulk d + 1
  | .map entries => uptoBulkEntries entries + 1
  | .held _ => 1
def uptoBulkAll {H : Type} : List (DataW H) → Nat
  | [] => 0
  | d :: r => uptoBulk d + uptoBulkAll r
def uptoBulkEntries {H : Type} : List (Lit × DataW H) → Nat
  | [] => 0
  | x :: r => uptoBulkEntry x + uptoBulkEntries r
def uptoBulkEntry {H : Type} : Lit × DataW H → Nat
  | (.string bytes, d) => bytes.length + uptoBulk d + 1
  | (_, d) => uptoBulk d + 1
 end
def uptoSmall : (H : Type) → List (DataW H) → Bool := fun _ ds => decide (uptoBulkAll ds ≤ 1048576)
def OpenSpec.upto (s : _root_.Go.ChangeSpec) : _root_.Go.OpenSpec := { _root_.Go.OpenSpec.ofChange s with cond := some uptoSmall }

/-- 'rudderlaw02.OrderTells', WHERE WHAT IT READS IS OF BULK AT MOST 1048576: true; the input reads as it did. -/
def orderTellsUptoRow : OpenClaim := { program := "ytdlhhoejnhjbhaa", sum := "13cda89688c7bc6c2463e0cd5dcba2d1961c5c8d687def36219f98c5246ce66a", func := "rudder/rudderlaw02.OrderTells", spec := "orderTells", unfollowed := true, recurses := true, apart := false, narrowed := true }
def OrderTellsUptoSaid : Prop := orderTellsUptoRow.holds Try.pinned (OpenSpec.upto orderTellsSpec)

/-- 'rudderlaw02.OrderSorted', WHERE WHAT IT READS IS OF BULK AT MOST 1048576: true; the input reads as it did. -/
def orderSortedUptoRow : OpenClaim := { program := "ytdlhhoejnhjbhaa", sum := "13cda89688c7bc6c2463e0cd5dcba2d1961c5c8d687def36219f98c5246ce66a", func := "rudder/rudderlaw02.OrderSorted", spec := "orderSorted", unfollowed := true, recurses := true, apart := false, narrowed := true }
def OrderSortedUptoSaid : Prop := orderSortedUptoRow.holds Try.pinned (OpenSpec.upto orderSortedSpec)

/-- 'rudderlaw02.OrderMidst', WHERE WHAT IT READS IS OF BULK AT MOST 1048576: true; the input reads as it did. -/
def orderMidstUptoRow : OpenClaim := { program := "ytdlhhoejnhjbhaa", sum := "13cda89688c7bc6c2463e0cd5dcba2d1961c5c8d687def36219f98c5246ce66a", func := "rudder/rudderlaw02.OrderMidst", spec := "orderMidst", unfollowed := true, recurses := true, apart := false, narrowed := true }
def OrderMidstUptoSaid : Prop := orderMidstUptoRow.holds Try.pinned (OpenSpec.upto orderMidstSpec)

/-- 'rudderlaw01.FixTells', WHERE WHAT IT READS IS OF BULK AT MOST 1048576: true; the input reads as it did. -/
def fixTellsUptoRow : OpenClaim := { program := "ytdlhhoejnhjbhaa", sum := "13cda89688c7bc6c2463e0cd5dcba2d1961c5c8d687def36219f98c5246ce66a", func := "rudder/rudderlaw01.FixTells", spec := "fixTells", apart := false, narrowed := true }
def FixTellsUptoSaid : Prop := fixTellsUptoRow.holds Try.pinned (OpenSpec.upto fixTellsSpec)

/-- 'rudderlaw01.FixMasks', WHERE WHAT IT READS IS OF BULK AT MOST 1048576: true; the input reads as it did. -/
def fixMasksUptoRow : OpenClaim := { program := "ytdlhhoejnhjbhaa", sum := "13cda89688c7bc6c2463e0cd5dcba2d1961c5c8d687def36219f98c5246ce66a", func := "rudder/rudderlaw01.FixMasks", spec := "fixMasks", apart := false, narrowed := true }
def FixMasksUptoSaid : Prop := fixMasksUptoRow.holds Try.pinned (OpenSpec.upto fixMasksSpec)

/-- 'rudderlaw01.FixFloors', WHERE WHAT IT READS IS OF BULK AT MOST 1048576: true; the input reads as it did. -/
def fixFloorsUptoRow : OpenClaim := { program := "ytdlhhoejnhjbhaa", sum := "13cda89688c7bc6c2463e0cd5dcba2d1961c5c8d687def36219f98c5246ce66a", func := "rudder/rudderlaw01.FixFloors", spec := "fixFloors", apart := false, narrowed := true }
def FixFloorsUptoSaid : Prop := fixFloorsUptoRow.holds Try.pinned (OpenSpec.upto fixFloorsSpec)

/-- 'rudderlaw01.FixBetween', WHERE WHAT IT READS IS OF BULK AT MOST 1048576: true; the input reads as it did. -/
def fixBetweenUptoRow : OpenClaim := { program := "ytdlhhoejnhjbhaa", sum := "13cda89688c7bc6c2463e0cd5dcba2d1961c5c8d687def36219f98c5246ce66a", func := "rudder/rudderlaw01.FixBetween", spec := "fixBetween", apart := false, narrowed := true }
def FixBetweenUptoSaid : Prop := fixBetweenUptoRow.holds Try.pinned (OpenSpec.upto fixBetweenSpec)

/-- 'rudderlaw09.StuckPlays', WHERE WHAT IT READS IS OF BULK AT MOST 1048576: true; the input reads as it did. -/
def stuckPlaysUptoRow : OpenClaim := { program := "ytdlhhoejnhjbhaa", sum := "13cda89688c7bc6c2463e0cd5dcba2d1961c5c8d687def36219f98c5246ce66a", func := "rudder/rudderlaw09.StuckPlays", spec := "stuckPlays", unfollowed := true, recurses := true, apart := false, narrowed := true }
def StuckPlaysUptoSaid : Prop := stuckPlaysUptoRow.holds Try.pinned (OpenSpec.upto stuckPlaysSpec)

/-- 'rudderlaw09.StuckFrozen', WHERE WHAT IT READS IS OF BULK AT MOST 1048576: true; the input reads as it did. -/
def stuckFrozenUptoRow : OpenClaim := { program := "ytdlhhoejnhjbhaa", sum := "13cda89688c7bc6c2463e0cd5dcba2d1961c5c8d687def36219f98c5246ce66a", func := "rudder/rudderlaw09.StuckFrozen", spec := "stuckFrozen", unfollowed := true, recurses := true, apart := false, narrowed := true }
def StuckFrozenUptoSaid : Prop := stuckFrozenUptoRow.holds Try.pinned (OpenSpec.upto stuckFrozenSpec)

/-- 'rudderlaw13.ParityTells', WHERE WHAT IT READS IS OF BULK AT MOST 1048576: true; the input reads as it did. -/
def parityTellsUptoRow : OpenClaim := { program := "ytdlhhoejnhjbhaa", sum := "13cda89688c7bc6c2463e0cd5dcba2d1961c5c8d687def36219f98c5246ce66a", func := "rudder/rudderlaw13.ParityTells", spec := "parityTells", unfollowed := true, recurses := true, apart := false, narrowed := true }
def ParityTellsUptoSaid : Prop := parityTellsUptoRow.holds Try.pinned (OpenSpec.upto parityTellsSpec)

/-- 'rudderlaw13.ParityFour', WHERE WHAT IT READS IS OF BULK AT MOST 1048576: true; the input reads as it did. -/
def parityFourUptoRow : OpenClaim := { program := "ytdlhhoejnhjbhaa", sum := "13cda89688c7bc6c2463e0cd5dcba2d1961c5c8d687def36219f98c5246ce66a", func := "rudder/rudderlaw13.ParityFour", spec := "parityFour", unfollowed := true, recurses := true, apart := false, narrowed := true }
def ParityFourUptoSaid : Prop := parityFourUptoRow.holds Try.pinned (OpenSpec.upto parityFourSpec)

end Rows
end Go.Proofs.Ytdlhhoejnhjbhaa
