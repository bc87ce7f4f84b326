/-
  DERIVED. GIVEN WITH THE SEED: THE CARDS: each row of YtgdagknjnidmiaaGreatDoorRows.lean that lists a variable, with what it lists TIED to the program's text (the seventh form; the later family's looks); each row that meets fmt, with fmt's text TOLD by the authors' own Lean function (tested against real Go, not proved from fmt's source: count such statements apart). THE CARD IS WHAT COUNTS. Prove the row's statement (the work); the ties are given (YtgdagknjnidmiaaGreatDoorTie.lean); close each card by the builder's one call (the guide's Derived/Test/ToyasCard.lean, 'card_holds'). Laid BY PROGRAM, IN A SANDBOX (cutbox-door.mjs). By AI agents, Wed Nov 11 2026. No macro, syntax, notation, axiom, sorry.
-/
import Derived.Test.YtgdagknjnidmiaaGreatDoorRows
import GoSem.ClaimSeven
namespace Go.Proofs.YtgdagknjnidmiaaGreatDoor
namespace Rows

/-- THE TIED CARD OF 'handlaw1.ActsCounted'. -/
def actsCountedCard : Claim7 := { stood := { row := actsCountedRow, standIns := [], harness := (true, "097e43048396460c83409e1e57ddbd9be18ab4805ac6d08ee2c6b9b5ade7e5a8"), looks := false }, kinds := [], alts := [], laidByText := true, laidKinds := [.data, .pinned], laidTests := true, laidLooks := .later }
def ActsCountedCardSaid : Prop := Claim7.holds Tryz.pinned (.plain (OpenSpec.ofChange actsCountedSpec)) actsCountedCard

/-- THE TIED CARD OF 'handlaw1.GainsShared'. -/
def gainsSharedCard : Claim7 := { stood := { row := gainsSharedRow, standIns := [], harness := (true, "097e43048396460c83409e1e57ddbd9be18ab4805ac6d08ee2c6b9b5ade7e5a8"), looks := false }, kinds := [], alts := [], laidByText := true, laidKinds := [.data, .pinned], laidTests := true, laidLooks := .later }
def GainsSharedCardSaid : Prop := Claim7.holds Tryz.pinned (.plain (OpenSpec.ofChange gainsSharedSpec)) gainsSharedCard

/-- THE SECOND FORM's CARD OF 'handlaw1.ActsCounted'. -/
def actsCountedUptoCard : Claim7 := { stood := { row := actsCountedUptoRow, standIns := [], harness := (true, "097e43048396460c83409e1e57ddbd9be18ab4805ac6d08ee2c6b9b5ade7e5a8"), looks := false }, kinds := [], alts := [], laidByText := true, laidKinds := [.data, .pinned], laidTests := true, laidLooks := .later }
def ActsCountedUptoCardSaid : Prop := Claim7.holds Tryz.pinned (.plain (OpenSpec.upto actsCountedSpec)) actsCountedUptoCard

/-- THE SECOND FORM's CARD OF 'handlaw1.GainsShared'. -/
def gainsSharedUptoCard : Claim7 := { stood := { row := gainsSharedUptoRow, standIns := [], harness := (true, "097e43048396460c83409e1e57ddbd9be18ab4805ac6d08ee2c6b9b5ade7e5a8"), looks := false }, kinds := [], alts := [], laidByText := true, laidKinds := [.data, .pinned], laidTests := true, laidLooks := .later }
def GainsSharedUptoCardSaid : Prop := Claim7.holds Tryz.pinned (.plain (OpenSpec.upto gainsSharedSpec)) gainsSharedUptoCard
end Rows
end Go.Proofs.YtgdagknjnidmiaaGreatDoor
