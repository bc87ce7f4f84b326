/-
  DERIVED. GIVEN WITH THE SEED: THE CARDS: each row of YtdiioecpponnmaaGreatDoorRows.lean that lists a variable, with what it lists TIED to the program's text (the seventh form; the later family's looks); each row that meets fmt, with fmt's text TOLD by the authors' own Lean function (tested against real Go, not proved from fmt's source: count such statements apart). THE CARD IS WHAT COUNTS. Prove the row's statement (the work); the ties are given (YtdiioecpponnmaaGreatDoorTie.lean); close each card by the builder's one call (the guide's Derived/Test/ToyasCard.lean, 'card_holds'). Laid BY PROGRAM, IN A SANDBOX (cutbox-door.mjs). By AI agents, Wed Nov 11 2026. No macro, syntax, notation, axiom, sorry.
-/
import Derived.Test.YtdiioecpponnmaaGreatDoorRows
import GoSem.ClaimSeven
namespace Go.Proofs.YtdiioecpponnmaaGreatDoor
namespace Rows

/-- THE TIED CARD OF 'handlaw1.CondChecks'. -/
def condChecksCard : Claim7 := { stood := { row := condChecksRow, standIns := [], harness := (true, "5c2a3f778773ff74adc355ed6a17f2a4d1aa9c573d0a588e7df7a5dffcf7acb6"), looks := true }, kinds := [], alts := [], laidByText := true, laidKinds := [.data, .data, .data, .data, .sentinel, .sentinel, .listed, .data, .pinned], laidTests := true, laidLooks := .later }
def CondChecksCardSaid : Prop := Claim7.holds Tryz.pinned (.plain (OpenSpec.ofChange condChecksSpec)) condChecksCard

/-- THE SECOND FORM's CARD OF 'handlaw1.CondChecks'. -/
def condChecksUptoCard : Claim7 := { stood := { row := condChecksUptoRow, standIns := [], harness := (true, "5c2a3f778773ff74adc355ed6a17f2a4d1aa9c573d0a588e7df7a5dffcf7acb6"), looks := true }, kinds := [], alts := [], laidByText := true, laidKinds := [.data, .data, .data, .data, .sentinel, .sentinel, .listed, .data, .pinned], laidTests := true, laidLooks := .later }
def CondChecksUptoCardSaid : Prop := Claim7.holds Tryz.pinned (.plain (OpenSpec.upto condChecksSpec)) condChecksUptoCard
end Rows
end Go.Proofs.YtdiioecpponnmaaGreatDoor
