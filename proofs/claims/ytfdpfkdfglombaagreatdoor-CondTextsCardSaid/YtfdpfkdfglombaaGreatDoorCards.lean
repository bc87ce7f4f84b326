/-
  DERIVED. GIVEN WITH THE SEED: THE CARDS: each row of YtfdpfkdfglombaaGreatDoorRows.lean that lists a variable, with what it lists TIED to the program's text (the seventh form; the later family's looks); each row that meets fmt, with fmt's text TOLD by the authors' own Lean function (tested against real Go, not proved from fmt's source: count such statements apart). THE CARD IS WHAT COUNTS. Prove the row's statement (the work); the ties are given (YtfdpfkdfglombaaGreatDoorTie.lean); close each card by the builder's one call (the guide's Derived/Test/ToyasCard.lean, 'card_holds'). Laid BY PROGRAM, IN A SANDBOX (cutbox-door.mjs). By AI agents, Wed Nov 11 2026. No macro, syntax, notation, axiom, sorry.
-/
import Derived.Test.YtfdpfkdfglombaaGreatDoorRows
import GoSem.ClaimSeven
namespace Go.Proofs.YtfdpfkdfglombaaGreatDoor
namespace Rows

/-- THE TIED CARD OF 'handlaw1.CondTypes'. -/
def condTypesCard : Claim7 := { stood := { row := condTypesRow, standIns := [], harness := (true, "956291bc9893e6a97cb033563a7c32834afa605d94d737122493bc095e73e8f2"), looks := true }, kinds := [], alts := [], laidByText := true, laidKinds := [.data, .data, .data, .data, .sentinel, .sentinel, .listed, .data, .pinned], laidTests := true, laidLooks := .later }
def CondTypesCardSaid : Prop := Claim7.holds Tryz.pinned (.plain (OpenSpec.ofChange condTypesSpec)) condTypesCard

/-- THE TIED CARD OF 'handlaw1.CondTexts'. -/
def condTextsCard : Claim7 := { stood := { row := condTextsRow, standIns := [], harness := (true, "956291bc9893e6a97cb033563a7c32834afa605d94d737122493bc095e73e8f2"), looks := true }, kinds := [], alts := [], laidByText := true, laidKinds := [.data, .data, .data, .data, .sentinel, .sentinel, .listed, .data, .pinned], laidTests := true, laidLooks := .later }
def CondTextsCardSaid : Prop := Claim7.holds Tryz.pinned (.plain (OpenSpec.ofChange condTextsSpec)) condTextsCard

/-- THE TIED CARD OF 'handlaw1.CondNames'. -/
def condNamesCard : Claim7 := { stood := { row := condNamesRow, standIns := [], harness := (true, "956291bc9893e6a97cb033563a7c32834afa605d94d737122493bc095e73e8f2"), looks := true }, kinds := [], alts := [], laidByText := true, laidKinds := [.data, .data, .data, .data, .sentinel, .sentinel, .listed, .data, .pinned], laidTests := true, laidLooks := .later }
def CondNamesCardSaid : Prop := Claim7.holds Tryz.pinned (.plain (OpenSpec.ofChange condNamesSpec)) condNamesCard

/-- THE SECOND FORM's CARD OF 'handlaw1.CondTypes'. -/
def condTypesUptoCard : Claim7 := { stood := { row := condTypesUptoRow, standIns := [], harness := (true, "956291bc9893e6a97cb033563a7c32834afa605d94d737122493bc095e73e8f2"), looks := true }, kinds := [], alts := [], laidByText := true, laidKinds := [.data, .data, .data, .data, .sentinel, .sentinel, .listed, .data, .pinned], laidTests := true, laidLooks := .later }
def CondTypesUptoCardSaid : Prop := Claim7.holds Tryz.pinned (.plain (OpenSpec.upto condTypesSpec)) condTypesUptoCard

/-- THE SECOND FORM's CARD OF 'handlaw1.CondTexts'. -/
def condTextsUptoCard : Claim7 := { stood := { row := condTextsUptoRow, standIns := [], harness := (true, "956291bc9893e6a97cb033563a7c32834afa605d94d737122493bc095e73e8f2"), looks := true }, kinds := [], alts := [], laidByText := true, laidKinds := [.data, .data, .data, .data, .sentinel, .sentinel, .listed, .data, .pinned], laidTests := true, laidLooks := .later }
def CondTextsUptoCardSaid : Prop := Claim7.holds Tryz.pinned (.plain (OpenSpec.upto condTextsSpec)) condTextsUptoCard

/-- THE SECOND FORM's CARD OF 'handlaw1.CondNames'. -/
def condNamesUptoCard : Claim7 := { stood := { row := condNamesUptoRow, standIns := [], harness := (true, "956291bc9893e6a97cb033563a7c32834afa605d94d737122493bc095e73e8f2"), looks := true }, kinds := [], alts := [], laidByText := true, laidKinds := [.data, .data, .data, .data, .sentinel, .sentinel, .listed, .data, .pinned], laidTests := true, laidLooks := .later }
def CondNamesUptoCardSaid : Prop := Claim7.holds Tryz.pinned (.plain (OpenSpec.upto condNamesSpec)) condNamesUptoCard
end Rows
end Go.Proofs.YtfdpfkdfglombaaGreatDoor
