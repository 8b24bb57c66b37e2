/-
  No cell of these rows narrows 'for every input' (looked for: loops, veiled, ifaces, maps, wideKeys, modest, calm, conditions, laid).
  DERIVED. THE GIVEN ROWS OF THIS SEAT. 12 by the template 'for every input the law returns true; each argument reads behind the call as it read before'; 0 by the template 'total and deterministic' (their statements: YtgalchmjpfmemaaTotals.lean).
  GIVEN WITH THE SEED: the statements are not yours to turn. If you find one false, say at which input.
  Laid BY PROGRAM, IN A SANDBOX (cutbox-rows.mjs): the forced cells as the released guide's own fill.sh prints them over the translation f9c183c77b770ac6… (all of the seat's roots in one cut). By AI agents, Wed Nov 11 2026. No macro, syntax, notation, axiom, sorry.
-/
import Derived.Test.YtgalchmjpfmemaaChecked
import GoSem.Claim
import GoSem.ClaimJoined
import GoSem.ClaimMapViews
import Derived.JoinedTies
import Derived.KernelRfl
namespace Go.Proofs.Ytgalchmjpfmemaa
/- THE CELL 'sum', in the pinned program and in every row, IS THE sha256 OF THE DUMP (.gsa) THAT YtgalchmjpfmemaaProg.lean LOADS. Nothing in Lean hashes anything: it is a label: what it is worth is what the hold of that sum in a sandbox is worth. -/
noncomputable def Try.pinned : Pinned := { name := "ytgalchmjpfmemaa", sum := "f9c183c77b770ac648993df60c142200c42489578f452d04df126432187ff5e5", checked := Try.checked }
namespace Rows
def none {H : Type} : Left H := { results := [], args := [] }

/-- 'rudderlaw10.DriftPlays': WHATEVER THE INPUT: true; the input reads as it did. -/
def driftPlaysSpec : ChangeSpec := { name := "driftPlays", fn := fun _ => fun
  | [d1, d2, d3] => { results := [.lit (.bool true)], args := [d1, d2, d3] }
  | _ => none }
def driftPlaysRow : OpenClaim := { program := "ytgalchmjpfmemaa", sum := "f9c183c77b770ac648993df60c142200c42489578f452d04df126432187ff5e5", func := "rudder/rudderlaw10.DriftPlays", spec := "driftPlays", apart := false }
def DriftPlaysSaid : Prop := driftPlaysRow.holds Try.pinned (OpenSpec.ofChange driftPlaysSpec)

/-- ITS FALSE NEIGHBOUR: 'it returns false'. Refute it at one input. -/
def driftPlaysWrong : ChangeSpec := { name := "driftPlays", fn := fun _ => fun
  | [d1, d2, d3] => { results := [.lit (.bool false)], args := [d1, d2, d3] }
  | _ => none }
def DriftPlaysWrongFalsely : Prop := driftPlaysRow.holds Try.pinned (OpenSpec.ofChange driftPlaysWrong)

/-- 'rudderlaw10.DriftBetween': WHATEVER THE INPUT: true; the input reads as it did. -/
def driftBetweenSpec : ChangeSpec := { name := "driftBetween", fn := fun _ => fun
  | [d1, d2, d3] => { results := [.lit (.bool true)], args := [d1, d2, d3] }
  | _ => none }
def driftBetweenRow : OpenClaim := { program := "ytgalchmjpfmemaa", sum := "f9c183c77b770ac648993df60c142200c42489578f452d04df126432187ff5e5", func := "rudder/rudderlaw10.DriftBetween", spec := "driftBetween", apart := false }
def DriftBetweenSaid : Prop := driftBetweenRow.holds Try.pinned (OpenSpec.ofChange driftBetweenSpec)

/-- ITS FALSE NEIGHBOUR: 'it returns false'. Refute it at one input. -/
def driftBetweenWrong : ChangeSpec := { name := "driftBetween", fn := fun _ => fun
  | [d1, d2, d3] => { results := [.lit (.bool false)], args := [d1, d2, d3] }
  | _ => none }
def DriftBetweenWrongFalsely : Prop := driftBetweenRow.holds Try.pinned (OpenSpec.ofChange driftBetweenWrong)

/-- 'rudderlaw08.JumpPlays': WHATEVER THE INPUT: true; the input reads as it did. -/
def jumpPlaysSpec : ChangeSpec := { name := "jumpPlays", fn := fun _ => fun
  | [d1, d2] => { results := [.lit (.bool true)], args := [d1, d2] }
  | _ => none }
def jumpPlaysRow : OpenClaim := { program := "ytgalchmjpfmemaa", sum := "f9c183c77b770ac648993df60c142200c42489578f452d04df126432187ff5e5", func := "rudder/rudderlaw08.JumpPlays", spec := "jumpPlays", unfollowed := true, recurses := true, apart := false }
def JumpPlaysSaid : Prop := jumpPlaysRow.holds Try.pinned (OpenSpec.ofChange jumpPlaysSpec)

/-- ITS FALSE NEIGHBOUR: 'it returns false'. Refute it at one input. -/
def jumpPlaysWrong : ChangeSpec := { name := "jumpPlays", fn := fun _ => fun
  | [d1, d2] => { results := [.lit (.bool false)], args := [d1, d2] }
  | _ => none }
def JumpPlaysWrongFalsely : Prop := jumpPlaysRow.holds Try.pinned (OpenSpec.ofChange jumpPlaysWrong)

/-- 'rudderlaw08.JumpSmooth': WHATEVER THE INPUT: true; the input reads as it did. -/
def jumpSmoothSpec : ChangeSpec := { name := "jumpSmooth", fn := fun _ => fun
  | [d1, d2] => { results := [.lit (.bool true)], args := [d1, d2] }
  | _ => none }
def jumpSmoothRow : OpenClaim := { program := "ytgalchmjpfmemaa", sum := "f9c183c77b770ac648993df60c142200c42489578f452d04df126432187ff5e5", func := "rudder/rudderlaw08.JumpSmooth", spec := "jumpSmooth", unfollowed := true, recurses := true, apart := false }
def JumpSmoothSaid : Prop := jumpSmoothRow.holds Try.pinned (OpenSpec.ofChange jumpSmoothSpec)

/-- ITS FALSE NEIGHBOUR: 'it returns false'. Refute it at one input. -/
def jumpSmoothWrong : ChangeSpec := { name := "jumpSmooth", fn := fun _ => fun
  | [d1, d2] => { results := [.lit (.bool false)], args := [d1, d2] }
  | _ => none }
def JumpSmoothWrongFalsely : Prop := jumpSmoothRow.holds Try.pinned (OpenSpec.ofChange jumpSmoothWrong)

/-- 'rudderlaw03.CrcTells': WHATEVER THE INPUT: true; the input reads as it did. -/
def crcTellsSpec : ChangeSpec := { name := "crcTells", fn := fun _ => fun
  | [d1, d2] => { results := [.lit (.bool true)], args := [d1, d2] }
  | _ => none }
def crcTellsRow : OpenClaim := { program := "ytgalchmjpfmemaa", sum := "f9c183c77b770ac648993df60c142200c42489578f452d04df126432187ff5e5", func := "rudder/rudderlaw03.CrcTells", spec := "crcTells", unfollowed := true, recurses := true, apart := false }
def CrcTellsSaid : Prop := crcTellsRow.holds Try.pinned (OpenSpec.ofChange crcTellsSpec)

/-- ITS FALSE NEIGHBOUR: 'it returns false'. Refute it at one input. -/
def crcTellsWrong : ChangeSpec := { name := "crcTells", fn := fun _ => fun
  | [d1, d2] => { results := [.lit (.bool false)], args := [d1, d2] }
  | _ => none }
def CrcTellsWrongFalsely : Prop := crcTellsRow.holds Try.pinned (OpenSpec.ofChange crcTellsWrong)

/-- 'rudderlaw03.CrcParts': WHATEVER THE INPUT: true; the input reads as it did. -/
def crcPartsSpec : ChangeSpec := { name := "crcParts", fn := fun _ => fun
  | [d1, d2] => { results := [.lit (.bool true)], args := [d1, d2] }
  | _ => none }
def crcPartsRow : OpenClaim := { program := "ytgalchmjpfmemaa", sum := "f9c183c77b770ac648993df60c142200c42489578f452d04df126432187ff5e5", func := "rudder/rudderlaw03.CrcParts", spec := "crcParts", unfollowed := true, recurses := true, apart := false }
def CrcPartsSaid : Prop := crcPartsRow.holds Try.pinned (OpenSpec.ofChange crcPartsSpec)

/-- ITS FALSE NEIGHBOUR: 'it returns false'. Refute it at one input. -/
def crcPartsWrong : ChangeSpec := { name := "crcParts", fn := fun _ => fun
  | [d1, d2] => { results := [.lit (.bool false)], args := [d1, d2] }
  | _ => none }
def CrcPartsWrongFalsely : Prop := crcPartsRow.holds Try.pinned (OpenSpec.ofChange crcPartsWrong)

/-- 'rudderlaw03.CrcSealed': WHATEVER THE INPUT: true; the input reads as it did. -/
def crcSealedSpec : ChangeSpec := { name := "crcSealed", fn := fun _ => fun
  | [d1, d2, d3] => { results := [.lit (.bool true)], args := [d1, d2, d3] }
  | _ => none }
def crcSealedRow : OpenClaim := { program := "ytgalchmjpfmemaa", sum := "f9c183c77b770ac648993df60c142200c42489578f452d04df126432187ff5e5", func := "rudder/rudderlaw03.CrcSealed", spec := "crcSealed", unfollowed := true, recurses := true, apart := false }
def CrcSealedSaid : Prop := crcSealedRow.holds Try.pinned (OpenSpec.ofChange crcSealedSpec)

/-- ITS FALSE NEIGHBOUR: 'it returns false'. Refute it at one input. -/
def crcSealedWrong : ChangeSpec := { name := "crcSealed", fn := fun _ => fun
  | [d1, d2, d3] => { results := [.lit (.bool false)], args := [d1, d2, d3] }
  | _ => none }
def CrcSealedWrongFalsely : Prop := crcSealedRow.holds Try.pinned (OpenSpec.ofChange crcSealedWrong)

/-- 'rudderlaw07.ConfigTells': WHATEVER THE INPUT: true; the input reads as it did. -/
def configTellsSpec : ChangeSpec := { name := "configTells", fn := fun _ => fun
  | [d1, d2, d3] => { results := [.lit (.bool true)], args := [d1, d2, d3] }
  | _ => none }
def configTellsRow : OpenClaim := { program := "ytgalchmjpfmemaa", sum := "f9c183c77b770ac648993df60c142200c42489578f452d04df126432187ff5e5", func := "rudder/rudderlaw07.ConfigTells", spec := "configTells", unfollowed := true, recurses := true, apart := false }
def ConfigTellsSaid : Prop := configTellsRow.holds Try.pinned (OpenSpec.ofChange configTellsSpec)

/-- ITS FALSE NEIGHBOUR: 'it returns false'. Refute it at one input. -/
def configTellsWrong : ChangeSpec := { name := "configTells", fn := fun _ => fun
  | [d1, d2, d3] => { results := [.lit (.bool false)], args := [d1, d2, d3] }
  | _ => none }
def ConfigTellsWrongFalsely : Prop := configTellsRow.holds Try.pinned (OpenSpec.ofChange configTellsWrong)

/-- 'rudderlaw07.ConfigMost': WHATEVER THE INPUT: true; the input reads as it did. -/
def configMostSpec : ChangeSpec := { name := "configMost", fn := fun _ => fun
  | [d1, d2] => { results := [.lit (.bool true)], args := [d1, d2] }
  | _ => none }
def configMostRow : OpenClaim := { program := "ytgalchmjpfmemaa", sum := "f9c183c77b770ac648993df60c142200c42489578f452d04df126432187ff5e5", func := "rudder/rudderlaw07.ConfigMost", spec := "configMost", unfollowed := true, recurses := true, apart := false }
def ConfigMostSaid : Prop := configMostRow.holds Try.pinned (OpenSpec.ofChange configMostSpec)

/-- ITS FALSE NEIGHBOUR: 'it returns false'. Refute it at one input. -/
def configMostWrong : ChangeSpec := { name := "configMost", fn := fun _ => fun
  | [d1, d2] => { results := [.lit (.bool false)], args := [d1, d2] }
  | _ => none }
def ConfigMostWrongFalsely : Prop := configMostRow.holds Try.pinned (OpenSpec.ofChange configMostWrong)

/-- 'rudderlaw07.ConfigLess': WHATEVER THE INPUT: true; the input reads as it did. -/
def configLessSpec : ChangeSpec := { name := "configLess", fn := fun _ => fun
  | [d1, d2] => { results := [.lit (.bool true)], args := [d1, d2] }
  | _ => none }
def configLessRow : OpenClaim := { program := "ytgalchmjpfmemaa", sum := "f9c183c77b770ac648993df60c142200c42489578f452d04df126432187ff5e5", func := "rudder/rudderlaw07.ConfigLess", spec := "configLess", unfollowed := true, recurses := true, apart := false }
def ConfigLessSaid : Prop := configLessRow.holds Try.pinned (OpenSpec.ofChange configLessSpec)

/-- ITS FALSE NEIGHBOUR: 'it returns false'. Refute it at one input. -/
def configLessWrong : ChangeSpec := { name := "configLess", fn := fun _ => fun
  | [d1, d2] => { results := [.lit (.bool false)], args := [d1, d2] }
  | _ => none }
def ConfigLessWrongFalsely : Prop := configLessRow.holds Try.pinned (OpenSpec.ofChange configLessWrong)

/-- 'rudderlaw11.EqualPlays': WHATEVER THE INPUT: true; the input reads as it did. -/
def equalPlaysSpec : ChangeSpec := { name := "equalPlays", fn := fun _ => fun
  | [d1, d2, d3] => { results := [.lit (.bool true)], args := [d1, d2, d3] }
  | _ => none }
def equalPlaysRow : OpenClaim := { program := "ytgalchmjpfmemaa", sum := "f9c183c77b770ac648993df60c142200c42489578f452d04df126432187ff5e5", func := "rudder/rudderlaw11.EqualPlays", spec := "equalPlays", unfollowed := true, recurses := true, apart := false }
def EqualPlaysSaid : Prop := equalPlaysRow.holds Try.pinned (OpenSpec.ofChange equalPlaysSpec)

/-- ITS FALSE NEIGHBOUR: 'it returns false'. Refute it at one input. -/
def equalPlaysWrong : ChangeSpec := { name := "equalPlays", fn := fun _ => fun
  | [d1, d2, d3] => { results := [.lit (.bool false)], args := [d1, d2, d3] }
  | _ => none }
def EqualPlaysWrongFalsely : Prop := equalPlaysRow.holds Try.pinned (OpenSpec.ofChange equalPlaysWrong)

/-- 'rudderlaw11.EqualWithin': WHATEVER THE INPUT: true; the input reads as it did. -/
def equalWithinSpec : ChangeSpec := { name := "equalWithin", fn := fun _ => fun
  | [d1, d2, d3] => { results := [.lit (.bool true)], args := [d1, d2, d3] }
  | _ => none }
def equalWithinRow : OpenClaim := { program := "ytgalchmjpfmemaa", sum := "f9c183c77b770ac648993df60c142200c42489578f452d04df126432187ff5e5", func := "rudder/rudderlaw11.EqualWithin", spec := "equalWithin", unfollowed := true, recurses := true, apart := false }
def EqualWithinSaid : Prop := equalWithinRow.holds Try.pinned (OpenSpec.ofChange equalWithinSpec)

/-- ITS FALSE NEIGHBOUR: 'it returns false'. Refute it at one input. -/
def equalWithinWrong : ChangeSpec := { name := "equalWithin", fn := fun _ => fun
  | [d1, d2, d3] => { results := [.lit (.bool false)], args := [d1, d2, d3] }
  | _ => none }
def EqualWithinWrongFalsely : Prop := equalWithinRow.holds Try.pinned (OpenSpec.ofChange equalWithinWrong)

/- THE SECOND FORM. 'bulk': how many values and letters a reading holds, each counted each time it is reached (what is shared counts as often as it is met; a slice's spare places count too). A statement '..UptoSaid' is the law's where the arguments, and the package variables that the reading takes, are together of bulk at most 1048576: NARROWER than '..Said'. Prove '..Said' where nothing that the law and all that it calls make is longer than what came in: it says more and counts as full. Else prove '..UptoSaid'. A law counts once. -/
mutual
def uptoBulk {H : Type} : DataW H → Nat
  | .lit (.string bytes) => bytes.length + 1
  | .lit _ => 1
  | .nil => 1
  | .ptr d => uptoBulk d + 1
  | .slice elems spare => uptoBulkAll elems + uptoBulkAll spare + 1
  | .agg parts => uptoBulkAll parts + 1
  | .iface _ d => uptoBulk d + 1
  | .map entries => uptoBulkEntries entries + 1
  | .held _ => 1
def uptoBulkAll {H : Type} : List (DataW H) → Nat
  | [] => 0
  | d :: r => uptoBulk d + uptoBulkAll r
def uptoBulkEntries {H : Type} : List (Lit × DataW H) → Nat
  | [] => 0
  | x :: r => uptoBulkEntry x + uptoBulkEntries r
def uptoBulkEntry {H : Type} : Lit × DataW H → Nat
  | (.string bytes, d) => bytes.length + uptoBulk d + 1
  | (_, d) => uptoBulk d + 1
 end
def uptoSmall : (H : Type) → List (DataW H) → Bool := fun _ ds => decide (uptoBulkAll ds ≤ 1048576)
def OpenSpec.upto (s : _root_.Go.ChangeSpec) : _root_.Go.OpenSpec := { _root_.Go.OpenSpec.ofChange s with cond := some uptoSmall }

/-- 'rudderlaw10.DriftPlays', WHERE WHAT IT READS IS OF BULK AT MOST 1048576: true; the input reads as it did. -/
def driftPlaysUptoRow : OpenClaim := { program := "ytgalchmjpfmemaa", sum := "f9c183c77b770ac648993df60c142200c42489578f452d04df126432187ff5e5", func := "rudder/rudderlaw10.DriftPlays", spec := "driftPlays", apart := false, narrowed := true }
def DriftPlaysUptoSaid : Prop := driftPlaysUptoRow.holds Try.pinned (OpenSpec.upto driftPlaysSpec)

/-- 'rudderlaw10.DriftBetween', WHERE WHAT IT READS IS OF BULK AT MOST 1048576: true; the input reads as it did. -/
def driftBetweenUptoRow : OpenClaim := { program := "ytgalchmjpfmemaa", sum := "f9c183c77b770ac648993df60c142200c42489578f452d04df126432187ff5e5", func := "rudder/rudderlaw10.DriftBetween", spec := "driftBetween", apart := false, narrowed := true }
def DriftBetweenUptoSaid : Prop := driftBetweenUptoRow.holds Try.pinned (OpenSpec.upto driftBetweenSpec)

/-- 'rudderlaw08.JumpPlays', WHERE WHAT IT READS IS OF BULK AT MOST 1048576: true; the input reads as it did. -/
def jumpPlaysUptoRow : OpenClaim := { program := "ytgalchmjpfmemaa", sum := "f9c183c77b770ac648993df60c142200c42489578f452d04df126432187ff5e5", func := "rudder/rudderlaw08.JumpPlays", spec := "jumpPlays", unfollowed := true, recurses := true, apart := false, narrowed := true }
def JumpPlaysUptoSaid : Prop := jumpPlaysUptoRow.holds Try.pinned (OpenSpec.upto jumpPlaysSpec)

/-- 'rudderlaw08.JumpSmooth', WHERE WHAT IT READS IS OF BULK AT MOST 1048576: true; the input reads as it did. -/
def jumpSmoothUptoRow : OpenClaim := { program := "ytgalchmjpfmemaa", sum := "f9c183c77b770ac648993df60c142200c42489578f452d04df126432187ff5e5", func := "rudder/rudderlaw08.JumpSmooth", spec := "jumpSmooth", unfollowed := true, recurses := true, apart := false, narrowed := true }
def JumpSmoothUptoSaid : Prop := jumpSmoothUptoRow.holds Try.pinned (OpenSpec.upto jumpSmoothSpec)

/-- 'rudderlaw03.CrcTells', WHERE WHAT IT READS IS OF BULK AT MOST 1048576: true; the input reads as it did. -/
def crcTellsUptoRow : OpenClaim := { program := "ytgalchmjpfmemaa", sum := "f9c183c77b770ac648993df60c142200c42489578f452d04df126432187ff5e5", func := "rudder/rudderlaw03.CrcTells", spec := "crcTells", unfollowed := true, recurses := true, apart := false, narrowed := true }
def CrcTellsUptoSaid : Prop := crcTellsUptoRow.holds Try.pinned (OpenSpec.upto crcTellsSpec)

/-- 'rudderlaw03.CrcParts', WHERE WHAT IT READS IS OF BULK AT MOST 1048576: true; the input reads as it did. -/
def crcPartsUptoRow : OpenClaim := { program := "ytgalchmjpfmemaa", sum := "f9c183c77b770ac648993df60c142200c42489578f452d04df126432187ff5e5", func := "rudder/rudderlaw03.CrcParts", spec := "crcParts", unfollowed := true, recurses := true, apart := false, narrowed := true }
def CrcPartsUptoSaid : Prop := crcPartsUptoRow.holds Try.pinned (OpenSpec.upto crcPartsSpec)

/-- 'rudderlaw03.CrcSealed', WHERE WHAT IT READS IS OF BULK AT MOST 1048576: true; the input reads as it did. -/
def crcSealedUptoRow : OpenClaim := { program := "ytgalchmjpfmemaa", sum := "f9c183c77b770ac648993df60c142200c42489578f452d04df126432187ff5e5", func := "rudder/rudderlaw03.CrcSealed", spec := "crcSealed", unfollowed := true, recurses := true, apart := false, narrowed := true }
def CrcSealedUptoSaid : Prop := crcSealedUptoRow.holds Try.pinned (OpenSpec.upto crcSealedSpec)

/-- 'rudderlaw07.ConfigTells', WHERE WHAT IT READS IS OF BULK AT MOST 1048576: true; the input reads as it did. -/
def configTellsUptoRow : OpenClaim := { program := "ytgalchmjpfmemaa", sum := "f9c183c77b770ac648993df60c142200c42489578f452d04df126432187ff5e5", func := "rudder/rudderlaw07.ConfigTells", spec := "configTells", unfollowed := true, recurses := true, apart := false, narrowed := true }
def ConfigTellsUptoSaid : Prop := configTellsUptoRow.holds Try.pinned (OpenSpec.upto configTellsSpec)

/-- 'rudderlaw07.ConfigMost', WHERE WHAT IT READS IS OF BULK AT MOST 1048576: true; the input reads as it did. -/
def configMostUptoRow : OpenClaim := { program := "ytgalchmjpfmemaa", sum := "f9c183c77b770ac648993df60c142200c42489578f452d04df126432187ff5e5", func := "rudder/rudderlaw07.ConfigMost", spec := "configMost", unfollowed := true, recurses := true, apart := false, narrowed := true }
def ConfigMostUptoSaid : Prop := configMostUptoRow.holds Try.pinned (OpenSpec.upto configMostSpec)

/-- 'rudderlaw07.ConfigLess', WHERE WHAT IT READS IS OF BULK AT MOST 1048576: true; the input reads as it did. -/
def configLessUptoRow : OpenClaim := { program := "ytgalchmjpfmemaa", sum := "f9c183c77b770ac648993df60c142200c42489578f452d04df126432187ff5e5", func := "rudder/rudderlaw07.ConfigLess", spec := "configLess", unfollowed := true, recurses := true, apart := false, narrowed := true }
def ConfigLessUptoSaid : Prop := configLessUptoRow.holds Try.pinned (OpenSpec.upto configLessSpec)

/-- 'rudderlaw11.EqualPlays', WHERE WHAT IT READS IS OF BULK AT MOST 1048576: true; the input reads as it did. -/
def equalPlaysUptoRow : OpenClaim := { program := "ytgalchmjpfmemaa", sum := "f9c183c77b770ac648993df60c142200c42489578f452d04df126432187ff5e5", func := "rudder/rudderlaw11.EqualPlays", spec := "equalPlays", unfollowed := true, recurses := true, apart := false, narrowed := true }
def EqualPlaysUptoSaid : Prop := equalPlaysUptoRow.holds Try.pinned (OpenSpec.upto equalPlaysSpec)

/-- 'rudderlaw11.EqualWithin', WHERE WHAT IT READS IS OF BULK AT MOST 1048576: true; the input reads as it did. -/
def equalWithinUptoRow : OpenClaim := { program := "ytgalchmjpfmemaa", sum := "f9c183c77b770ac648993df60c142200c42489578f452d04df126432187ff5e5", func := "rudder/rudderlaw11.EqualWithin", spec := "equalWithin", unfollowed := true, recurses := true, apart := false, narrowed := true }
def EqualWithinUptoSaid : Prop := equalWithinUptoRow.holds Try.pinned (OpenSpec.upto equalWithinSpec)

end Rows
end Go.Proofs.Ytgalchmjpfmemaa
