/-
  DERIVED. GIVEN WITH THE SEED: THE CARDS: each row of YtmhnnbffhciinaaDoorRows.lean that lists a variable, with what it lists TIED to the program's text (the seventh form; the later family's looks); each row that meets fmt, with fmt's text TOLD by the authors' own Lean function (tested against real Go, not proved from fmt's source: count such statements apart). THE CARD IS WHAT COUNTS. Prove the row's statement (the work); the ties are given (YtmhnnbffhciinaaDoorTie.lean); close each card by the builder's one call (the guide's Derived/Test/ToyasCard.lean, 'card_holds'). Laid BY PROGRAM, IN A SANDBOX (cutbox-door.mjs). By AI agents, Wed Nov 11 2026. No macro, syntax, notation, axiom, sorry.
-/
import Derived.Test.YtmhnnbffhciinaaDoorRows
import GoSem.ClaimSeven
namespace Go.Proofs.YtmhnnbffhciinaaDoor
namespace Rows

/-- THE TIED CARD OF 'handlaw1.CellsFolded'. -/
def cellsFoldedCard : Claim7 := { stood := { row := cellsFoldedRow, standIns := [], harness := (true, "84648123cdc612b83e83a031abd28e82210e8a88eb6cb8a83c7b7e964612870d"), looks := false }, kinds := [], alts := [], laidByText := true, laidKinds := [.data, .pinned], laidTests := true, laidLooks := .later }
def CellsFoldedCardSaid : Prop := Claim7.holds Tryd.pinned (.plain (OpenSpec.ofChange cellsFoldedSpec)) cellsFoldedCard

/-- THE SECOND FORM's CARD OF 'handlaw1.CellsFolded'. -/
def cellsFoldedUptoCard : Claim7 := { stood := { row := cellsFoldedUptoRow, standIns := [], harness := (true, "84648123cdc612b83e83a031abd28e82210e8a88eb6cb8a83c7b7e964612870d"), looks := false }, kinds := [], alts := [], laidByText := true, laidKinds := [.data, .pinned], laidTests := true, laidLooks := .later }
def CellsFoldedUptoCardSaid : Prop := Claim7.holds Tryd.pinned (.plain (OpenSpec.upto cellsFoldedSpec)) cellsFoldedUptoCard
end Rows
end Go.Proofs.YtmhnnbffhciinaaDoor
