/-
  DERIVED. GIVEN WITH THE SEED: THE CARDS: each row of YtlenjioebdmooaaDoorRows.lean that lists a variable, with what it lists TIED to the program's text (the seventh form; the later family's looks); each row that meets fmt, with fmt's text TOLD by the authors' own Lean function (tested against real Go, not proved from fmt's source: count such statements apart). THE CARD IS WHAT COUNTS. Prove the row's statement (the work); the ties are given (YtlenjioebdmooaaDoorTie.lean); close each card by the builder's one call (the guide's Derived/Test/ToyasCard.lean, 'card_holds'). Laid BY PROGRAM, IN A SANDBOX (cutbox-door.mjs). By AI agents, Wed Nov 11 2026. No macro, syntax, notation, axiom, sorry.
-/
import Derived.Test.YtlenjioebdmooaaDoorRows
import GoSem.ClaimSeven
namespace Go.Proofs.YtlenjioebdmooaaDoor
namespace Rows

/-- THE TIED CARD OF 'rudderlaw14.TripTells'. -/
def tripTellsCard : Claim7 := { stood := { row := tripTellsRow, standIns := [], harness := (true, "8b26cfaa9571f3d94612a84753b6a27c2923ccd6203acbccf2d4b314deb806eb"), looks := false }, kinds := [], alts := [], laidByText := true, laidKinds := [.data, .data, .pinned], laidTests := true, laidLooks := .later }
def TripTellsCardSaid : Prop := Claim7.holds Tryd.pinned (.plain (OpenSpec.ofChange tripTellsSpec)) tripTellsCard

/-- THE TIED CARD OF 'rudderlaw14.TripBack'. -/
def tripBackCard : Claim7 := { stood := { row := tripBackRow, standIns := [], harness := (true, "8b26cfaa9571f3d94612a84753b6a27c2923ccd6203acbccf2d4b314deb806eb"), looks := false }, kinds := [], alts := [], laidByText := true, laidKinds := [.data, .data, .pinned], laidTests := true, laidLooks := .later }
def TripBackCardSaid : Prop := Claim7.holds Tryd.pinned (.plain (OpenSpec.ofChange tripBackSpec)) tripBackCard

/-- THE SECOND FORM's CARD OF 'rudderlaw14.TripTells'. -/
def tripTellsUptoCard : Claim7 := { stood := { row := tripTellsUptoRow, standIns := [], harness := (true, "8b26cfaa9571f3d94612a84753b6a27c2923ccd6203acbccf2d4b314deb806eb"), looks := false }, kinds := [], alts := [], laidByText := true, laidKinds := [.data, .data, .pinned], laidTests := true, laidLooks := .later }
def TripTellsUptoCardSaid : Prop := Claim7.holds Tryd.pinned (.plain (OpenSpec.upto tripTellsSpec)) tripTellsUptoCard

/-- THE SECOND FORM's CARD OF 'rudderlaw14.TripBack'. -/
def tripBackUptoCard : Claim7 := { stood := { row := tripBackUptoRow, standIns := [], harness := (true, "8b26cfaa9571f3d94612a84753b6a27c2923ccd6203acbccf2d4b314deb806eb"), looks := false }, kinds := [], alts := [], laidByText := true, laidKinds := [.data, .data, .pinned], laidTests := true, laidLooks := .later }
def TripBackUptoCardSaid : Prop := Claim7.holds Tryd.pinned (.plain (OpenSpec.upto tripBackSpec)) tripBackUptoCard
end Rows
end Go.Proofs.YtlenjioebdmooaaDoor
