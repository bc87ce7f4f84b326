/-
  DERIVED. GIVEN WITH THE SEED: THE CARDS: each row of YtdefjnefkdemiaaGreatDoorRows.lean that lists a variable, with what it lists TIED to the program's text (the seventh form; the later family's looks); each row that meets fmt, with fmt's text TOLD by the authors' own Lean function (tested against real Go, not proved from fmt's source: count such statements apart). THE CARD IS WHAT COUNTS. Prove the row's statement (the work); the ties are given (YtdefjnefkdemiaaGreatDoorTie.lean); close each card by the builder's one call (the guide's Derived/Test/ToyasCard.lean, 'card_holds'). Laid BY PROGRAM, IN A SANDBOX (cutbox-door.mjs). By AI agents, Wed Nov 11 2026. No macro, syntax, notation, axiom, sorry.
-/
import Derived.Test.YtdefjnefkdemiaaGreatDoorRows
import GoSem.ClaimSeven
namespace Go.Proofs.YtdefjnefkdemiaaGreatDoor
namespace Rows

/-- THE TIED CARD OF 'handlaw1.BasketsPriced'. -/
def basketsPricedCard : Claim7 := { stood := { row := basketsPricedRow, standIns := [], harness := (true, "bd112e1933c69ad3c6b4d193884746a47d34a03776320daf755d867f8e6db078"), looks := false }, kinds := [], alts := [], laidByText := true, laidKinds := [.data, .pinned], laidTests := true, laidLooks := .later }
def BasketsPricedCardSaid : Prop := Claim7.holds Tryz.pinned (.plain (OpenSpec.ofChange basketsPricedSpec)) basketsPricedCard

/-- THE TIED CARD OF 'handlaw1.BestChosen'. -/
def bestChosenCard : Claim7 := { stood := { row := bestChosenRow, standIns := [], harness := (true, "bd112e1933c69ad3c6b4d193884746a47d34a03776320daf755d867f8e6db078"), looks := false }, kinds := [], alts := [], laidByText := true, laidKinds := [.data, .pinned], laidTests := true, laidLooks := .later }
def BestChosenCardSaid : Prop := Claim7.holds Tryz.pinned (.plain (OpenSpec.ofChange bestChosenSpec)) bestChosenCard

/-- THE SECOND FORM's CARD OF 'handlaw1.BasketsPriced'. -/
def basketsPricedUptoCard : Claim7 := { stood := { row := basketsPricedUptoRow, standIns := [], harness := (true, "bd112e1933c69ad3c6b4d193884746a47d34a03776320daf755d867f8e6db078"), looks := false }, kinds := [], alts := [], laidByText := true, laidKinds := [.data, .pinned], laidTests := true, laidLooks := .later }
def BasketsPricedUptoCardSaid : Prop := Claim7.holds Tryz.pinned (.plain (OpenSpec.upto basketsPricedSpec)) basketsPricedUptoCard

/-- THE SECOND FORM's CARD OF 'handlaw1.BestChosen'. -/
def bestChosenUptoCard : Claim7 := { stood := { row := bestChosenUptoRow, standIns := [], harness := (true, "bd112e1933c69ad3c6b4d193884746a47d34a03776320daf755d867f8e6db078"), looks := false }, kinds := [], alts := [], laidByText := true, laidKinds := [.data, .pinned], laidTests := true, laidLooks := .later }
def BestChosenUptoCardSaid : Prop := Claim7.holds Tryz.pinned (.plain (OpenSpec.upto bestChosenSpec)) bestChosenUptoCard
end Rows
end Go.Proofs.YtdefjnefkdemiaaGreatDoor
