/-
  No cell of these rows narrows 'for every input' (looked for: loops, veiled, ifaces, maps, wideKeys, modest, calm, conditions, laid).
  DERIVED. THE GIVEN ROWS OF THIS SEAT. 10 by the template 'for every input the law returns true; each argument reads behind the call as it read before'; 0 by the template 'total and deterministic' (their statements: YtdjmfcdopaejcaaTotals.lean).
  GIVEN WITH THE SEED: the statements are not yours to turn. If you find one false, say at which input.
  Laid BY PROGRAM, IN A SANDBOX (cutbox-rows.mjs): the forced cells as the released guide's own fill.sh prints them over the translation 2504a52a6bb78474… (all of the seat's roots in one cut). By AI agents, Wed Nov 11 2026. No macro, syntax, notation, axiom, sorry.
-/
import Derived.Test.YtdjmfcdopaejcaaChecked
import GoSem.Claim
import GoSem.ClaimJoined
import GoSem.ClaimMapViews
import Derived.JoinedTies
import Derived.KernelRfl
namespace Go.Proofs.Ytdjmfcdopaejcaa
/- THE CELL 'sum', in the pinned program and in every row, IS THE sha256 OF THE DUMP (.gsa) THAT YtdjmfcdopaejcaaProg.lean LOADS. Nothing in Lean hashes anything: it is a label: what it is worth is what the hold of that sum in a sandbox is worth. -/
noncomputable def Try.pinned : Pinned := { name := "ytdjmfcdopaejcaa", sum := "2504a52a6bb78474f8453a9f83dd2a64784b0a5270b028e8ece403e010a810bb", checked := Try.checked }
namespace Rows
def none {H : Type} : Left H := { results := [], args := [] }

/-- 'rudderlaw04.WordTells': WHATEVER THE INPUT: true; the input reads as it did. -/
def wordTellsSpec : ChangeSpec := { name := "wordTells", fn := fun _ => fun
  | [d1, d2, d3] => { results := [.lit (.bool true)], args := [d1, d2, d3] }
  | _ => none }
def wordTellsRow : OpenClaim := { program := "ytdjmfcdopaejcaa", sum := "2504a52a6bb78474f8453a9f83dd2a64784b0a5270b028e8ece403e010a810bb", func := "rudder/rudderlaw04.WordTells", spec := "wordTells", unfollowed := true, recurses := true, apart := false }
def WordTellsSaid : Prop := wordTellsRow.holds Try.pinned (OpenSpec.ofChange wordTellsSpec)

/-- ITS FALSE NEIGHBOUR: 'it returns false'. Refute it at one input. -/
def wordTellsWrong : ChangeSpec := { name := "wordTells", fn := fun _ => fun
  | [d1, d2, d3] => { results := [.lit (.bool false)], args := [d1, d2, d3] }
  | _ => none }
def WordTellsWrongFalsely : Prop := wordTellsRow.holds Try.pinned (OpenSpec.ofChange wordTellsWrong)

/-- 'rudderlaw04.WordBack': WHATEVER THE INPUT: true; the input reads as it did. -/
def wordBackSpec : ChangeSpec := { name := "wordBack", fn := fun _ => fun
  | [d1, d2, d3] => { results := [.lit (.bool true)], args := [d1, d2, d3] }
  | _ => none }
def wordBackRow : OpenClaim := { program := "ytdjmfcdopaejcaa", sum := "2504a52a6bb78474f8453a9f83dd2a64784b0a5270b028e8ece403e010a810bb", func := "rudder/rudderlaw04.WordBack", spec := "wordBack", unfollowed := true, recurses := true, apart := false }
def WordBackSaid : Prop := wordBackRow.holds Try.pinned (OpenSpec.ofChange wordBackSpec)

/-- ITS FALSE NEIGHBOUR: 'it returns false'. Refute it at one input. -/
def wordBackWrong : ChangeSpec := { name := "wordBack", fn := fun _ => fun
  | [d1, d2, d3] => { results := [.lit (.bool false)], args := [d1, d2, d3] }
  | _ => none }
def WordBackWrongFalsely : Prop := wordBackRow.holds Try.pinned (OpenSpec.ofChange wordBackWrong)

/-- 'rudderlaw04.WordRound': WHATEVER THE INPUT: true; the input reads as it did. -/
def wordRoundSpec : ChangeSpec := { name := "wordRound", fn := fun _ => fun
  | [d1, d2] => { results := [.lit (.bool true)], args := [d1, d2] }
  | _ => none }
def wordRoundRow : OpenClaim := { program := "ytdjmfcdopaejcaa", sum := "2504a52a6bb78474f8453a9f83dd2a64784b0a5270b028e8ece403e010a810bb", func := "rudder/rudderlaw04.WordRound", spec := "wordRound", unfollowed := true, recurses := true, apart := false }
def WordRoundSaid : Prop := wordRoundRow.holds Try.pinned (OpenSpec.ofChange wordRoundSpec)

/-- ITS FALSE NEIGHBOUR: 'it returns false'. Refute it at one input. -/
def wordRoundWrong : ChangeSpec := { name := "wordRound", fn := fun _ => fun
  | [d1, d2] => { results := [.lit (.bool false)], args := [d1, d2] }
  | _ => none }
def WordRoundWrongFalsely : Prop := wordRoundRow.holds Try.pinned (OpenSpec.ofChange wordRoundWrong)

/-- 'rudderlaw15.LatchTells': WHATEVER THE INPUT: true; the input reads as it did. -/
def latchTellsSpec : ChangeSpec := { name := "latchTells", fn := fun _ => fun
  | [d1, d2, d3] => { results := [.lit (.bool true)], args := [d1, d2, d3] }
  | _ => none }
def latchTellsRow : OpenClaim := { program := "ytdjmfcdopaejcaa", sum := "2504a52a6bb78474f8453a9f83dd2a64784b0a5270b028e8ece403e010a810bb", func := "rudder/rudderlaw15.LatchTells", spec := "latchTells", unfollowed := true, recurses := true, apart := false }
def LatchTellsSaid : Prop := latchTellsRow.holds Try.pinned (OpenSpec.ofChange latchTellsSpec)

/-- ITS FALSE NEIGHBOUR: 'it returns false'. Refute it at one input. -/
def latchTellsWrong : ChangeSpec := { name := "latchTells", fn := fun _ => fun
  | [d1, d2, d3] => { results := [.lit (.bool false)], args := [d1, d2, d3] }
  | _ => none }
def LatchTellsWrongFalsely : Prop := latchTellsRow.holds Try.pinned (OpenSpec.ofChange latchTellsWrong)

/-- 'rudderlaw15.LatchRuns': WHATEVER THE INPUT: true; the input reads as it did. -/
def latchRunsSpec : ChangeSpec := { name := "latchRuns", fn := fun _ => fun
  | [d1, d2] => { results := [.lit (.bool true)], args := [d1, d2] }
  | _ => none }
def latchRunsRow : OpenClaim := { program := "ytdjmfcdopaejcaa", sum := "2504a52a6bb78474f8453a9f83dd2a64784b0a5270b028e8ece403e010a810bb", func := "rudder/rudderlaw15.LatchRuns", spec := "latchRuns", unfollowed := true, recurses := true, apart := false }
def LatchRunsSaid : Prop := latchRunsRow.holds Try.pinned (OpenSpec.ofChange latchRunsSpec)

/-- ITS FALSE NEIGHBOUR: 'it returns false'. Refute it at one input. -/
def latchRunsWrong : ChangeSpec := { name := "latchRuns", fn := fun _ => fun
  | [d1, d2] => { results := [.lit (.bool false)], args := [d1, d2] }
  | _ => none }
def LatchRunsWrongFalsely : Prop := latchRunsRow.holds Try.pinned (OpenSpec.ofChange latchRunsWrong)

/-- 'rudderlaw15.LatchRow': WHATEVER THE INPUT: true; the input reads as it did. -/
def latchRowSpec : ChangeSpec := { name := "latchRow", fn := fun _ => fun
  | [d1, d2] => { results := [.lit (.bool true)], args := [d1, d2] }
  | _ => none }
def latchRowRow : OpenClaim := { program := "ytdjmfcdopaejcaa", sum := "2504a52a6bb78474f8453a9f83dd2a64784b0a5270b028e8ece403e010a810bb", func := "rudder/rudderlaw15.LatchRow", spec := "latchRow", unfollowed := true, recurses := true, apart := false }
def LatchRowSaid : Prop := latchRowRow.holds Try.pinned (OpenSpec.ofChange latchRowSpec)

/-- ITS FALSE NEIGHBOUR: 'it returns false'. Refute it at one input. -/
def latchRowWrong : ChangeSpec := { name := "latchRow", fn := fun _ => fun
  | [d1, d2] => { results := [.lit (.bool false)], args := [d1, d2] }
  | _ => none }
def LatchRowWrongFalsely : Prop := latchRowRow.holds Try.pinned (OpenSpec.ofChange latchRowWrong)

/-- 'rudderlaw15.LatchUnharmed': WHATEVER THE INPUT: true; the input reads as it did. -/
def latchUnharmedSpec : ChangeSpec := { name := "latchUnharmed", fn := fun _ => fun
  | [d1, d2, d3] => { results := [.lit (.bool true)], args := [d1, d2, d3] }
  | _ => none }
def latchUnharmedRow : OpenClaim := { program := "ytdjmfcdopaejcaa", sum := "2504a52a6bb78474f8453a9f83dd2a64784b0a5270b028e8ece403e010a810bb", func := "rudder/rudderlaw15.LatchUnharmed", spec := "latchUnharmed", unfollowed := true, recurses := true, apart := false }
def LatchUnharmedSaid : Prop := latchUnharmedRow.holds Try.pinned (OpenSpec.ofChange latchUnharmedSpec)

/-- ITS FALSE NEIGHBOUR: 'it returns false'. Refute it at one input. -/
def latchUnharmedWrong : ChangeSpec := { name := "latchUnharmed", fn := fun _ => fun
  | [d1, d2, d3] => { results := [.lit (.bool false)], args := [d1, d2, d3] }
  | _ => none }
def LatchUnharmedWrongFalsely : Prop := latchUnharmedRow.holds Try.pinned (OpenSpec.ofChange latchUnharmedWrong)

/-- 'rudderlaw12.VoteTells': WHATEVER THE INPUT: true; the input reads as it did. -/
def voteTellsSpec : ChangeSpec := { name := "voteTells", fn := fun _ => fun
  | [d1, d2, d3] => { results := [.lit (.bool true)], args := [d1, d2, d3] }
  | _ => none }
def voteTellsRow : OpenClaim := { program := "ytdjmfcdopaejcaa", sum := "2504a52a6bb78474f8453a9f83dd2a64784b0a5270b028e8ece403e010a810bb", func := "rudder/rudderlaw12.VoteTells", spec := "voteTells", unfollowed := true, recurses := true, apart := false }
def VoteTellsSaid : Prop := voteTellsRow.holds Try.pinned (OpenSpec.ofChange voteTellsSpec)

/-- ITS FALSE NEIGHBOUR: 'it returns false'. Refute it at one input. -/
def voteTellsWrong : ChangeSpec := { name := "voteTells", fn := fun _ => fun
  | [d1, d2, d3] => { results := [.lit (.bool false)], args := [d1, d2, d3] }
  | _ => none }
def VoteTellsWrongFalsely : Prop := voteTellsRow.holds Try.pinned (OpenSpec.ofChange voteTellsWrong)

/-- 'rudderlaw12.VoteMid': WHATEVER THE INPUT: true; the input reads as it did. -/
def voteMidSpec : ChangeSpec := { name := "voteMid", fn := fun _ => fun
  | [d1, d2, d3] => { results := [.lit (.bool true)], args := [d1, d2, d3] }
  | _ => none }
def voteMidRow : OpenClaim := { program := "ytdjmfcdopaejcaa", sum := "2504a52a6bb78474f8453a9f83dd2a64784b0a5270b028e8ece403e010a810bb", func := "rudder/rudderlaw12.VoteMid", spec := "voteMid", unfollowed := true, recurses := true, apart := false }
def VoteMidSaid : Prop := voteMidRow.holds Try.pinned (OpenSpec.ofChange voteMidSpec)

/-- ITS FALSE NEIGHBOUR: 'it returns false'. Refute it at one input. -/
def voteMidWrong : ChangeSpec := { name := "voteMid", fn := fun _ => fun
  | [d1, d2, d3] => { results := [.lit (.bool false)], args := [d1, d2, d3] }
  | _ => none }
def VoteMidWrongFalsely : Prop := voteMidRow.holds Try.pinned (OpenSpec.ofChange voteMidWrong)

/-- 'rudderlaw12.VoteBounded': WHATEVER THE INPUT: true; the input reads as it did. -/
def voteBoundedSpec : ChangeSpec := { name := "voteBounded", fn := fun _ => fun
  | [d1, d2] => { results := [.lit (.bool true)], args := [d1, d2] }
  | _ => none }
def voteBoundedRow : OpenClaim := { program := "ytdjmfcdopaejcaa", sum := "2504a52a6bb78474f8453a9f83dd2a64784b0a5270b028e8ece403e010a810bb", func := "rudder/rudderlaw12.VoteBounded", spec := "voteBounded", unfollowed := true, recurses := true, apart := false }
def VoteBoundedSaid : Prop := voteBoundedRow.holds Try.pinned (OpenSpec.ofChange voteBoundedSpec)

/-- ITS FALSE NEIGHBOUR: 'it returns false'. Refute it at one input. -/
def voteBoundedWrong : ChangeSpec := { name := "voteBounded", fn := fun _ => fun
  | [d1, d2] => { results := [.lit (.bool false)], args := [d1, d2] }
  | _ => none }
def VoteBoundedWrongFalsely : Prop := voteBoundedRow.holds Try.pinned (OpenSpec.ofChange voteBoundedWrong)

/- THE SECOND FORM. 'bulk': how many values and letters a reading holds, each counted each time it is reached (what is shared counts as often as it is met; a slice's spare places count too). A statement '..UptoSaid' is the law's where the arguments, and the package variables that the reading takes, are together of bulk at most 1048576: NARROWER than '..Said'. Prove '..Said' where nothing that the law and all that it calls make is longer than what came in: it says more and counts as full. Else prove '..UptoSaid'. A law counts once. -/
mutual
def uptoBulk {H : Type} : DataW H → Nat
  | .lit (.string bytes) => bytes.length + 1
  | .lit _ => 1
  | .nil => 1
  | .ptr d => uptoBulk d + 1
  | .slice elems spare => uptoBulkAll elems + uptoBulkAll spare + 1
  | .agg parts => uptoBulkAll parts + 1
  | .iface _ d => uptoBulk d + 1
  | .map entries => uptoBulkEntries entries + 1
  | .held _ => 1
def uptoBulkAll {H : Type} : List (DataW H) → Nat
  | [] => 0
  | d :: r => uptoBulk d + uptoBulkAll r
def uptoBulkEntries {H : Type} : List (Lit × DataW H) → Nat
  | [] => 0
  | x :: r => uptoBulkEntry x + uptoBulkEntries r
def uptoBulkEntry {H : Type} : Lit × DataW H → Nat
  | (.string bytes, d) => bytes.length + uptoBulk d + 1
  | (_, d) => uptoBulk d + 1
 end
def uptoSmall : (H : Type) → List (DataW H) → Bool := fun _ ds => decide (uptoBulkAll ds ≤ 1048576)
def OpenSpec.upto (s : _root_.Go.ChangeSpec) : _root_.Go.OpenSpec := { _root_.Go.OpenSpec.ofChange s with cond := some uptoSmall }

/-- 'rudderlaw04.WordTells', WHERE WHAT IT READS IS OF BULK AT MOST 1048576: true; the input reads as it did. -/
def wordTellsUptoRow : OpenClaim := { program := "ytdjmfcdopaejcaa", sum := "2504a52a6bb78474f8453a9f83dd2a64784b0a5270b028e8ece403e010a810bb", func := "rudder/rudderlaw04.WordTells", spec := "wordTells", unfollowed := true, recurses := true, apart := false, narrowed := true }
def WordTellsUptoSaid : Prop := wordTellsUptoRow.holds Try.pinned (OpenSpec.upto wordTellsSpec)

/-- 'rudderlaw04.WordBack', WHERE WHAT IT READS IS OF BULK AT MOST 1048576: true; the input reads as it did. -/
def wordBackUptoRow : OpenClaim := { program := "ytdjmfcdopaejcaa", sum := "2504a52a6bb78474f8453a9f83dd2a64784b0a5270b028e8ece403e010a810bb", func := "rudder/rudderlaw04.WordBack", spec := "wordBack", unfollowed := true, recurses := true, apart := false, narrowed := true }
def WordBackUptoSaid : Prop := wordBackUptoRow.holds Try.pinned (OpenSpec.upto wordBackSpec)

/-- 'rudderlaw04.WordRound', WHERE WHAT IT READS IS OF BULK AT MOST 1048576: true; the input reads as it did. -/
def wordRoundUptoRow : OpenClaim := { program := "ytdjmfcdopaejcaa", sum := "2504a52a6bb78474f8453a9f83dd2a64784b0a5270b028e8ece403e010a810bb", func := "rudder/rudderlaw04.WordRound", spec := "wordRound", unfollowed := true, recurses := true, apart := false, narrowed := true }
def WordRoundUptoSaid : Prop := wordRoundUptoRow.holds Try.pinned (OpenSpec.upto wordRoundSpec)

/-- 'rudderlaw15.LatchTells', WHERE WHAT IT READS IS OF BULK AT MOST 1048576: true; the input reads as it did. -/
def latchTellsUptoRow : OpenClaim := { program := "ytdjmfcdopaejcaa", sum := "2504a52a6bb78474f8453a9f83dd2a64784b0a5270b028e8ece403e010a810bb", func := "rudder/rudderlaw15.LatchTells", spec := "latchTells", unfollowed := true, recurses := true, apart := false, narrowed := true }
def LatchTellsUptoSaid : Prop := latchTellsUptoRow.holds Try.pinned (OpenSpec.upto latchTellsSpec)

/-- 'rudderlaw15.LatchRuns', WHERE WHAT IT READS IS OF BULK AT MOST 1048576: true; the input reads as it did. -/
def latchRunsUptoRow : OpenClaim := { program := "ytdjmfcdopaejcaa", sum := "2504a52a6bb78474f8453a9f83dd2a64784b0a5270b028e8ece403e010a810bb", func := "rudder/rudderlaw15.LatchRuns", spec := "latchRuns", unfollowed := true, recurses := true, apart := false, narrowed := true }
def LatchRunsUptoSaid : Prop := latchRunsUptoRow.holds Try.pinned (OpenSpec.upto latchRunsSpec)

/-- 'rudderlaw15.LatchRow', WHERE WHAT IT READS IS OF BULK AT MOST 1048576: true; the input reads as it did. -/
def latchRowUptoRow : OpenClaim := { program := "ytdjmfcdopaejcaa", sum := "2504a52a6bb78474f8453a9f83dd2a64784b0a5270b028e8ece403e010a810bb", func := "rudder/rudderlaw15.LatchRow", spec := "latchRow", unfollowed := true, recurses := true, apart := false, narrowed := true }
def LatchRowUptoSaid : Prop := latchRowUptoRow.holds Try.pinned (OpenSpec.upto latchRowSpec)

/-- 'rudderlaw15.LatchUnharmed', WHERE WHAT IT READS IS OF BULK AT MOST 1048576: true; the input reads as it did. -/
def latchUnharmedUptoRow : OpenClaim := { program := "ytdjmfcdopaejcaa", sum := "2504a52a6bb78474f8453a9f83dd2a64784b0a5270b028e8ece403e010a810bb", func := "rudder/rudderlaw15.LatchUnharmed", spec := "latchUnharmed", unfollowed := true, recurses := true, apart := false, narrowed := true }
def LatchUnharmedUptoSaid : Prop := latchUnharmedUptoRow.holds Try.pinned (OpenSpec.upto latchUnharmedSpec)

/-- 'rudderlaw12.VoteTells', WHERE WHAT IT READS IS OF BULK AT MOST 1048576: true; the input reads as it did. -/
def voteTellsUptoRow : OpenClaim := { program := "ytdjmfcdopaejcaa", sum := "2504a52a6bb78474f8453a9f83dd2a64784b0a5270b028e8ece403e010a810bb", func := "rudder/rudderlaw12.VoteTells", spec := "voteTells", unfollowed := true, recurses := true, apart := false, narrowed := true }
def VoteTellsUptoSaid : Prop := voteTellsUptoRow.holds Try.pinned (OpenSpec.upto voteTellsSpec)

/-- 'rudderlaw12.VoteMid', WHERE WHAT IT READS IS OF BULK AT MOST 1048576: true; the input reads as it did. -/
def voteMidUptoRow : OpenClaim := { program := "ytdjmfcdopaejcaa", sum := "2504a52a6bb78474f8453a9f83dd2a64784b0a5270b028e8ece403e010a810bb", func := "rudder/rudderlaw12.VoteMid", spec := "voteMid", unfollowed := true, recurses := true, apart := false, narrowed := true }
def VoteMidUptoSaid : Prop := voteMidUptoRow.holds Try.pinned (OpenSpec.upto voteMidSpec)

/-- 'rudderlaw12.VoteBounded', WHERE WHAT IT READS IS OF BULK AT MOST 1048576: true; the input reads as it did. -/
def voteBoundedUptoRow : OpenClaim := { program := "ytdjmfcdopaejcaa", sum := "2504a52a6bb78474f8453a9f83dd2a64784b0a5270b028e8ece403e010a810bb", func := "rudder/rudderlaw12.VoteBounded", spec := "voteBounded", unfollowed := true, recurses := true, apart := false, narrowed := true }
def VoteBoundedUptoSaid : Prop := voteBoundedUptoRow.holds Try.pinned (OpenSpec.upto voteBoundedSpec)

end Rows
end Go.Proofs.Ytdjmfcdopaejcaa
