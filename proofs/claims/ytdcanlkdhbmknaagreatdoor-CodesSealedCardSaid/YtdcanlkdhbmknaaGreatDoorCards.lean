/-
  DERIVED. GIVEN WITH THE SEED: THE CARDS: each row of YtdcanlkdhbmknaaGreatDoorRows.lean that lists a variable, with what it lists TIED to the program's text (the seventh form; the later family's looks); each row that meets fmt, with fmt's text TOLD by the authors' own Lean function (tested against real Go, not proved from fmt's source: count such statements apart). THE CARD IS WHAT COUNTS. Prove the row's statement (the work); the ties are given (YtdcanlkdhbmknaaGreatDoorTie.lean); close each card by the builder's one call (the guide's Derived/Test/ToyasCard.lean, 'card_holds'). Laid BY PROGRAM, IN A SANDBOX (cutbox-door.mjs). By AI agents, Wed Nov 11 2026. No macro, syntax, notation, axiom, sorry.
-/
import Derived.Test.YtdcanlkdhbmknaaGreatDoorRows
import GoSem.ClaimSeven
namespace Go.Proofs.YtdcanlkdhbmknaaGreatDoor
namespace Rows

/-- THE TIED CARD OF 'handlaw1.CodesSealed'. -/
def codesSealedCard : Claim7 := { stood := { row := codesSealedRow, standIns := [], harness := (true, "1cd62d3e1045b2b65b19feafbf1c3fbb936bf9c7d8be4617d2a6e8ccbfd46583"), looks := true }, kinds := [], alts := [], laidByText := true, laidKinds := [.data, .pinned, .pinned], laidTests := true, laidLooks := .later }
def CodesSealedCardSaid : Prop := Claim7.holds Tryz.pinned (.plain (OpenSpec.ofChange codesSealedSpec)) codesSealedCard

/-- THE SECOND FORM's CARD OF 'handlaw1.CodesSealed'. -/
def codesSealedUptoCard : Claim7 := { stood := { row := codesSealedUptoRow, standIns := [], harness := (true, "1cd62d3e1045b2b65b19feafbf1c3fbb936bf9c7d8be4617d2a6e8ccbfd46583"), looks := true }, kinds := [], alts := [], laidByText := true, laidKinds := [.data, .pinned, .pinned], laidTests := true, laidLooks := .later }
def CodesSealedUptoCardSaid : Prop := Claim7.holds Tryz.pinned (.plain (OpenSpec.upto codesSealedSpec)) codesSealedUptoCard
end Rows
end Go.Proofs.YtdcanlkdhbmknaaGreatDoor
