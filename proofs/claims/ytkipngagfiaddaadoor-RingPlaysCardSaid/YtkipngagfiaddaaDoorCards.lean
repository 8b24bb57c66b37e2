/-
  DERIVED. GIVEN WITH THE SEED: THE CARDS: each row of YtkipngagfiaddaaDoorRows.lean that lists a variable, with what it lists TIED to the program's text (the seventh form; the later family's looks); each row that meets fmt, with fmt's text TOLD by the authors' own Lean function (tested against real Go, not proved from fmt's source: count such statements apart). THE CARD IS WHAT COUNTS. Prove the row's statement (the work); the ties are given (YtkipngagfiaddaaDoorTie.lean); close each card by the builder's one call (the guide's Derived/Test/ToyasCard.lean, 'card_holds'). Laid BY PROGRAM, IN A SANDBOX (cutbox-door.mjs). By AI agents, Wed Nov 11 2026. No macro, syntax, notation, axiom, sorry.
-/
import Derived.Test.YtkipngagfiaddaaDoorRows
import GoSem.ClaimSeven
namespace Go.Proofs.YtkipngagfiaddaaDoor
namespace Rows

/-- THE TIED CARD OF 'rudderlaw05.FrameTells'. -/
def frameTellsCard : Claim7 := { stood := { row := frameTellsRow, standIns := [], harness := (true, "de0f8e2e583c2ca3011efa0872d658fafa250bb71daf0ce9d9802f694a3174c7"), looks := false }, kinds := [], alts := [], laidByText := true, laidKinds := [.data], laidTests := true, laidLooks := .later }
def FrameTellsCardSaid : Prop := Claim7.holds Tryd.pinned (.plain (OpenSpec.ofChange frameTellsSpec)) frameTellsCard

/-- THE TIED CARD OF 'rudderlaw05.FrameBack'. -/
def frameBackCard : Claim7 := { stood := { row := frameBackRow, standIns := [], harness := (true, "de0f8e2e583c2ca3011efa0872d658fafa250bb71daf0ce9d9802f694a3174c7"), looks := false }, kinds := [], alts := [], laidByText := true, laidKinds := [.data], laidTests := true, laidLooks := .later }
def FrameBackCardSaid : Prop := Claim7.holds Tryd.pinned (.plain (OpenSpec.ofChange frameBackSpec)) frameBackCard

/-- THE TIED CARD OF 'rudderlaw05.FrameRejects'. -/
def frameRejectsCard : Claim7 := { stood := { row := frameRejectsRow, standIns := [], harness := (true, "de0f8e2e583c2ca3011efa0872d658fafa250bb71daf0ce9d9802f694a3174c7"), looks := false }, kinds := [], alts := [], laidByText := true, laidKinds := [.data], laidTests := true, laidLooks := .later }
def FrameRejectsCardSaid : Prop := Claim7.holds Tryd.pinned (.plain (OpenSpec.ofChange frameRejectsSpec)) frameRejectsCard

/-- THE TIED CARD OF 'rudderlaw16.StatusTells'. -/
def statusTellsCard : Claim7 := { stood := { row := statusTellsRow, standIns := [], harness := (true, "de0f8e2e583c2ca3011efa0872d658fafa250bb71daf0ce9d9802f694a3174c7"), looks := false }, kinds := [], alts := [], laidByText := true, laidKinds := [.data, .data, .data], laidTests := true, laidLooks := .later }
def StatusTellsCardSaid : Prop := Claim7.holds Tryd.pinned (.plain (OpenSpec.ofChange statusTellsSpec)) statusTellsCard

/-- THE TIED CARD OF 'rudderlaw16.StatusBack'. -/
def statusBackCard : Claim7 := { stood := { row := statusBackRow, standIns := [], harness := (true, "de0f8e2e583c2ca3011efa0872d658fafa250bb71daf0ce9d9802f694a3174c7"), looks := false }, kinds := [], alts := [], laidByText := true, laidKinds := [.data, .data, .data], laidTests := true, laidLooks := .later }
def StatusBackCardSaid : Prop := Claim7.holds Tryd.pinned (.plain (OpenSpec.ofChange statusBackSpec)) statusBackCard

/-- THE TIED CARD OF 'rudderlaw17.RingPlays'. -/
def ringPlaysCard : Claim7 := { stood := { row := ringPlaysRow, standIns := [], harness := (true, "de0f8e2e583c2ca3011efa0872d658fafa250bb71daf0ce9d9802f694a3174c7"), looks := false }, kinds := [], alts := [], laidByText := true, laidKinds := [.data, .data, .data, .data, .data], laidTests := true, laidLooks := .later }
def RingPlaysCardSaid : Prop := Claim7.holds Tryd.pinned (.plain (OpenSpec.ofChange ringPlaysSpec)) ringPlaysCard

/-- THE TIED CARD OF 'rudderlaw17.RingLast'. -/
def ringLastCard : Claim7 := { stood := { row := ringLastRow, standIns := [], harness := (true, "de0f8e2e583c2ca3011efa0872d658fafa250bb71daf0ce9d9802f694a3174c7"), looks := false }, kinds := [], alts := [], laidByText := true, laidKinds := [.data, .data, .data, .data, .data], laidTests := true, laidLooks := .later }
def RingLastCardSaid : Prop := Claim7.holds Tryd.pinned (.plain (OpenSpec.ofChange ringLastSpec)) ringLastCard

/-- THE SECOND FORM's CARD OF 'rudderlaw05.FrameTells'. -/
def frameTellsUptoCard : Claim7 := { stood := { row := frameTellsUptoRow, standIns := [], harness := (true, "de0f8e2e583c2ca3011efa0872d658fafa250bb71daf0ce9d9802f694a3174c7"), looks := false }, kinds := [], alts := [], laidByText := true, laidKinds := [.data], laidTests := true, laidLooks := .later }
def FrameTellsUptoCardSaid : Prop := Claim7.holds Tryd.pinned (.plain (OpenSpec.upto frameTellsSpec)) frameTellsUptoCard

/-- THE SECOND FORM's CARD OF 'rudderlaw05.FrameBack'. -/
def frameBackUptoCard : Claim7 := { stood := { row := frameBackUptoRow, standIns := [], harness := (true, "de0f8e2e583c2ca3011efa0872d658fafa250bb71daf0ce9d9802f694a3174c7"), looks := false }, kinds := [], alts := [], laidByText := true, laidKinds := [.data], laidTests := true, laidLooks := .later }
def FrameBackUptoCardSaid : Prop := Claim7.holds Tryd.pinned (.plain (OpenSpec.upto frameBackSpec)) frameBackUptoCard

/-- THE SECOND FORM's CARD OF 'rudderlaw05.FrameRejects'. -/
def frameRejectsUptoCard : Claim7 := { stood := { row := frameRejectsUptoRow, standIns := [], harness := (true, "de0f8e2e583c2ca3011efa0872d658fafa250bb71daf0ce9d9802f694a3174c7"), looks := false }, kinds := [], alts := [], laidByText := true, laidKinds := [.data], laidTests := true, laidLooks := .later }
def FrameRejectsUptoCardSaid : Prop := Claim7.holds Tryd.pinned (.plain (OpenSpec.upto frameRejectsSpec)) frameRejectsUptoCard

/-- THE SECOND FORM's CARD OF 'rudderlaw16.StatusTells'. -/
def statusTellsUptoCard : Claim7 := { stood := { row := statusTellsUptoRow, standIns := [], harness := (true, "de0f8e2e583c2ca3011efa0872d658fafa250bb71daf0ce9d9802f694a3174c7"), looks := false }, kinds := [], alts := [], laidByText := true, laidKinds := [.data, .data, .data], laidTests := true, laidLooks := .later }
def StatusTellsUptoCardSaid : Prop := Claim7.holds Tryd.pinned (.plain (OpenSpec.upto statusTellsSpec)) statusTellsUptoCard

/-- THE SECOND FORM's CARD OF 'rudderlaw16.StatusBack'. -/
def statusBackUptoCard : Claim7 := { stood := { row := statusBackUptoRow, standIns := [], harness := (true, "de0f8e2e583c2ca3011efa0872d658fafa250bb71daf0ce9d9802f694a3174c7"), looks := false }, kinds := [], alts := [], laidByText := true, laidKinds := [.data, .data, .data], laidTests := true, laidLooks := .later }
def StatusBackUptoCardSaid : Prop := Claim7.holds Tryd.pinned (.plain (OpenSpec.upto statusBackSpec)) statusBackUptoCard

/-- THE SECOND FORM's CARD OF 'rudderlaw17.RingPlays'. -/
def ringPlaysUptoCard : Claim7 := { stood := { row := ringPlaysUptoRow, standIns := [], harness := (true, "de0f8e2e583c2ca3011efa0872d658fafa250bb71daf0ce9d9802f694a3174c7"), looks := false }, kinds := [], alts := [], laidByText := true, laidKinds := [.data, .data, .data, .data, .data], laidTests := true, laidLooks := .later }
def RingPlaysUptoCardSaid : Prop := Claim7.holds Tryd.pinned (.plain (OpenSpec.upto ringPlaysSpec)) ringPlaysUptoCard

/-- THE SECOND FORM's CARD OF 'rudderlaw17.RingLast'. -/
def ringLastUptoCard : Claim7 := { stood := { row := ringLastUptoRow, standIns := [], harness := (true, "de0f8e2e583c2ca3011efa0872d658fafa250bb71daf0ce9d9802f694a3174c7"), looks := false }, kinds := [], alts := [], laidByText := true, laidKinds := [.data, .data, .data, .data, .data], laidTests := true, laidLooks := .later }
def RingLastUptoCardSaid : Prop := Claim7.holds Tryd.pinned (.plain (OpenSpec.upto ringLastSpec)) ringLastUptoCard
end Rows
end Go.Proofs.YtkipngagfiaddaaDoor
