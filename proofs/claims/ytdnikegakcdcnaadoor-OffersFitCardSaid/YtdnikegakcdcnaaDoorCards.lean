/-
  DERIVED. GIVEN WITH THE SEED: THE CARDS: each row of YtdnikegakcdcnaaDoorRows.lean that lists a variable, with what it lists TIED to the program's text (the seventh form; the later family's looks); each row that meets fmt, with fmt's text TOLD by the authors' own Lean function (tested against real Go, not proved from fmt's source: count such statements apart). THE CARD IS WHAT COUNTS. Prove the row's statement (the work); the ties are given (YtdnikegakcdcnaaDoorTie.lean); close each card by the builder's one call (the guide's Derived/Test/ToyasCard.lean, 'card_holds'). Laid BY PROGRAM, IN A SANDBOX (cutbox-door.mjs). By AI agents, Wed Nov 11 2026. No macro, syntax, notation, axiom, sorry.
-/
import Derived.Test.YtdnikegakcdcnaaDoorRows
import GoSem.ClaimSeven
namespace Go.Proofs.YtdnikegakcdcnaaDoor
namespace Rows

/-- THE TIED CARD OF 'handlaw1.SentChecks'. -/
def sentChecksCard : Claim7 := { stood := { row := sentChecksRow, standIns := [], harness := (true, "29ac33afe6ac98adf37f2871454197c8ae3a4b48cee8ba3b2b4858c5d14654a5"), looks := false }, kinds := [], alts := [], laidByText := true, laidKinds := [.data, .pinned], laidTests := true, laidLooks := .later }
def SentChecksCardSaid : Prop := Claim7.holds Tryd.pinned (.plain (OpenSpec.ofChange sentChecksSpec)) sentChecksCard

/-- THE TIED CARD OF 'handlaw1.ArmsDrawn'. -/
def armsDrawnCard : Claim7 := { stood := { row := armsDrawnRow, standIns := [], harness := (true, "29ac33afe6ac98adf37f2871454197c8ae3a4b48cee8ba3b2b4858c5d14654a5"), looks := false }, kinds := [], alts := [], laidByText := true, laidKinds := [.data, .pinned], laidTests := true, laidLooks := .later }
def ArmsDrawnCardSaid : Prop := Claim7.holds Tryd.pinned (.plain (OpenSpec.ofChange armsDrawnSpec)) armsDrawnCard

/-- THE TIED CARD OF 'handlaw1.BooksKept'. -/
def booksKeptCard : Claim7 := { stood := { row := booksKeptRow, standIns := [], harness := (true, "29ac33afe6ac98adf37f2871454197c8ae3a4b48cee8ba3b2b4858c5d14654a5"), looks := false }, kinds := [], alts := [], laidByText := true, laidKinds := [.data, .pinned], laidTests := true, laidLooks := .later }
def BooksKeptCardSaid : Prop := Claim7.holds Tryd.pinned (.plain (OpenSpec.ofChange booksKeptSpec)) booksKeptCard

/-- THE TIED CARD OF 'handlaw1.PursesKept'. -/
def pursesKeptCard : Claim7 := { stood := { row := pursesKeptRow, standIns := [], harness := (true, "29ac33afe6ac98adf37f2871454197c8ae3a4b48cee8ba3b2b4858c5d14654a5"), looks := false }, kinds := [], alts := [], laidByText := true, laidKinds := [.data, .pinned], laidTests := true, laidLooks := .later }
def PursesKeptCardSaid : Prop := Claim7.holds Tryd.pinned (.plain (OpenSpec.ofChange pursesKeptSpec)) pursesKeptCard

/-- THE TIED CARD OF 'handlaw1.OffersFit'. -/
def offersFitCard : Claim7 := { stood := { row := offersFitRow, standIns := [], harness := (true, "29ac33afe6ac98adf37f2871454197c8ae3a4b48cee8ba3b2b4858c5d14654a5"), looks := false }, kinds := [], alts := [], laidByText := true, laidKinds := [.data, .pinned], laidTests := true, laidLooks := .later }
def OffersFitCardSaid : Prop := Claim7.holds Tryd.pinned (.plain (OpenSpec.ofChange offersFitSpec)) offersFitCard

/-- THE TIED CARD OF 'handlaw1.CodesNumbered'. -/
def codesNumberedCard : Claim7 := { stood := { row := codesNumberedRow, standIns := [], harness := (true, "29ac33afe6ac98adf37f2871454197c8ae3a4b48cee8ba3b2b4858c5d14654a5"), looks := false }, kinds := [], alts := [], laidByText := true, laidKinds := [.data, .pinned], laidTests := true, laidLooks := .later }
def CodesNumberedCardSaid : Prop := Claim7.holds Tryd.pinned (.plain (OpenSpec.ofChange codesNumberedSpec)) codesNumberedCard

/-- THE TIED CARD OF 'handlaw1.FractionsWritten'. -/
def fractionsWrittenCard : Claim7 := { stood := { row := fractionsWrittenRow, standIns := [], harness := (true, "29ac33afe6ac98adf37f2871454197c8ae3a4b48cee8ba3b2b4858c5d14654a5"), looks := false }, kinds := [], alts := [], laidByText := true, laidKinds := [.data, .data, .data], laidTests := true, laidLooks := .later }
def FractionsWrittenCardSaid : Prop := Claim7.holds Tryd.pinned (.plain (OpenSpec.ofChange fractionsWrittenSpec)) fractionsWrittenCard

/-- THE SECOND FORM's CARD OF 'handlaw1.SentChecks'. -/
def sentChecksUptoCard : Claim7 := { stood := { row := sentChecksUptoRow, standIns := [], harness := (true, "29ac33afe6ac98adf37f2871454197c8ae3a4b48cee8ba3b2b4858c5d14654a5"), looks := false }, kinds := [], alts := [], laidByText := true, laidKinds := [.data, .pinned], laidTests := true, laidLooks := .later }
def SentChecksUptoCardSaid : Prop := Claim7.holds Tryd.pinned (.plain (OpenSpec.upto sentChecksSpec)) sentChecksUptoCard

/-- THE SECOND FORM's CARD OF 'handlaw1.ArmsDrawn'. -/
def armsDrawnUptoCard : Claim7 := { stood := { row := armsDrawnUptoRow, standIns := [], harness := (true, "29ac33afe6ac98adf37f2871454197c8ae3a4b48cee8ba3b2b4858c5d14654a5"), looks := false }, kinds := [], alts := [], laidByText := true, laidKinds := [.data, .pinned], laidTests := true, laidLooks := .later }
def ArmsDrawnUptoCardSaid : Prop := Claim7.holds Tryd.pinned (.plain (OpenSpec.upto armsDrawnSpec)) armsDrawnUptoCard

/-- THE SECOND FORM's CARD OF 'handlaw1.BooksKept'. -/
def booksKeptUptoCard : Claim7 := { stood := { row := booksKeptUptoRow, standIns := [], harness := (true, "29ac33afe6ac98adf37f2871454197c8ae3a4b48cee8ba3b2b4858c5d14654a5"), looks := false }, kinds := [], alts := [], laidByText := true, laidKinds := [.data, .pinned], laidTests := true, laidLooks := .later }
def BooksKeptUptoCardSaid : Prop := Claim7.holds Tryd.pinned (.plain (OpenSpec.upto booksKeptSpec)) booksKeptUptoCard

/-- THE SECOND FORM's CARD OF 'handlaw1.PursesKept'. -/
def pursesKeptUptoCard : Claim7 := { stood := { row := pursesKeptUptoRow, standIns := [], harness := (true, "29ac33afe6ac98adf37f2871454197c8ae3a4b48cee8ba3b2b4858c5d14654a5"), looks := false }, kinds := [], alts := [], laidByText := true, laidKinds := [.data, .pinned], laidTests := true, laidLooks := .later }
def PursesKeptUptoCardSaid : Prop := Claim7.holds Tryd.pinned (.plain (OpenSpec.upto pursesKeptSpec)) pursesKeptUptoCard

/-- THE SECOND FORM's CARD OF 'handlaw1.OffersFit'. -/
def offersFitUptoCard : Claim7 := { stood := { row := offersFitUptoRow, standIns := [], harness := (true, "29ac33afe6ac98adf37f2871454197c8ae3a4b48cee8ba3b2b4858c5d14654a5"), looks := false }, kinds := [], alts := [], laidByText := true, laidKinds := [.data, .pinned], laidTests := true, laidLooks := .later }
def OffersFitUptoCardSaid : Prop := Claim7.holds Tryd.pinned (.plain (OpenSpec.upto offersFitSpec)) offersFitUptoCard

/-- THE SECOND FORM's CARD OF 'handlaw1.CodesNumbered'. -/
def codesNumberedUptoCard : Claim7 := { stood := { row := codesNumberedUptoRow, standIns := [], harness := (true, "29ac33afe6ac98adf37f2871454197c8ae3a4b48cee8ba3b2b4858c5d14654a5"), looks := false }, kinds := [], alts := [], laidByText := true, laidKinds := [.data, .pinned], laidTests := true, laidLooks := .later }
def CodesNumberedUptoCardSaid : Prop := Claim7.holds Tryd.pinned (.plain (OpenSpec.upto codesNumberedSpec)) codesNumberedUptoCard

/-- THE SECOND FORM's CARD OF 'handlaw1.FractionsWritten'. -/
def fractionsWrittenUptoCard : Claim7 := { stood := { row := fractionsWrittenUptoRow, standIns := [], harness := (true, "29ac33afe6ac98adf37f2871454197c8ae3a4b48cee8ba3b2b4858c5d14654a5"), looks := false }, kinds := [], alts := [], laidByText := true, laidKinds := [.data, .data, .data], laidTests := true, laidLooks := .later }
def FractionsWrittenUptoCardSaid : Prop := Claim7.holds Tryd.pinned (.plain (OpenSpec.upto fractionsWrittenSpec)) fractionsWrittenUptoCard
end Rows
end Go.Proofs.YtdnikegakcdcnaaDoor
