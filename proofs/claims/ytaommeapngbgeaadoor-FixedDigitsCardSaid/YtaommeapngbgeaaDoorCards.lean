/-
  DERIVED. GIVEN WITH THE SEED: THE CARDS: each row of YtaommeapngbgeaaDoorRows.lean that lists a variable, with what it lists TIED to the program's text (the seventh form; the later family's looks); each row that meets fmt, with fmt's text TOLD by the authors' own Lean function (tested against real Go, not proved from fmt's source: count such statements apart). THE CARD IS WHAT COUNTS. Prove the row's statement (the work); the ties are given (YtaommeapngbgeaaDoorTie.lean); close each card by the builder's one call (the guide's Derived/Test/ToyasCard.lean, 'card_holds'). Laid BY PROGRAM, IN A SANDBOX (cutbox-door.mjs). By AI agents, Wed Nov 11 2026. No macro, syntax, notation, axiom, sorry.
-/
import Derived.Test.YtaommeapngbgeaaDoorRows
import GoSem.ClaimSeven
namespace Go.Proofs.YtaommeapngbgeaaDoor
namespace Rows

/-- THE TIED CARD OF 'electionlaw03.FixedProduct'. -/
def fixedProductCard : Claim7 := { stood := { row := fixedProductRow, standIns := [], harness := (true, "27094837dec1a800666c2bd157f2c6606f1e2ae36e9790d4b06a2874fffe03ef"), looks := false }, kinds := [], alts := [], laidByText := true, laidKinds := [.data, .pinned], laidTests := true, laidLooks := .later }
def FixedProductCardSaid : Prop := Claim7.holds Tryd.pinned (.plain (OpenSpec.ofChange fixedProductSpec)) fixedProductCard

/-- THE TIED CARD OF 'electionlaw03.FixedQuotient'. -/
def fixedQuotientCard : Claim7 := { stood := { row := fixedQuotientRow, standIns := [], harness := (true, "27094837dec1a800666c2bd157f2c6606f1e2ae36e9790d4b06a2874fffe03ef"), looks := false }, kinds := [], alts := [], laidByText := true, laidKinds := [.data, .pinned], laidTests := true, laidLooks := .later }
def FixedQuotientCardSaid : Prop := Claim7.holds Tryd.pinned (.plain (OpenSpec.ofChange fixedQuotientSpec)) fixedQuotientCard

/-- THE TIED CARD OF 'electionlaw03.FixedWord'. -/
def fixedWordCard : Claim7 := { stood := { row := fixedWordRow, standIns := [], harness := (true, "27094837dec1a800666c2bd157f2c6606f1e2ae36e9790d4b06a2874fffe03ef"), looks := false }, kinds := [], alts := [], laidByText := true, laidKinds := [.data, .pinned], laidTests := true, laidLooks := .later }
def FixedWordCardSaid : Prop := Claim7.holds Tryd.pinned (.plain (OpenSpec.ofChange fixedWordSpec)) fixedWordCard

/-- THE TIED CARD OF 'electionlaw03.FixedRatio'. -/
def fixedRatioCard : Claim7 := { stood := { row := fixedRatioRow, standIns := [], harness := (true, "27094837dec1a800666c2bd157f2c6606f1e2ae36e9790d4b06a2874fffe03ef"), looks := false }, kinds := [], alts := [], laidByText := true, laidKinds := [.data, .pinned], laidTests := true, laidLooks := .later }
def FixedRatioCardSaid : Prop := Claim7.holds Tryd.pinned (.plain (OpenSpec.ofChange fixedRatioSpec)) fixedRatioCard

/-- THE TIED CARD OF 'electionlaw03.FixedText'. -/
def fixedTextCard : Claim7 := { stood := { row := fixedTextRow, standIns := [], harness := (true, "27094837dec1a800666c2bd157f2c6606f1e2ae36e9790d4b06a2874fffe03ef"), looks := false }, kinds := [], alts := [], laidByText := true, laidKinds := [.data, .pinned], laidTests := true, laidLooks := .later }
def FixedTextCardSaid : Prop := Claim7.holds Tryd.pinned (.plain (OpenSpec.ofChange fixedTextSpec)) fixedTextCard

/-- THE TIED CARD OF 'electionlaw03.FixedParse'. -/
def fixedParseCard : Claim7 := { stood := { row := fixedParseRow, standIns := [], harness := (true, "27094837dec1a800666c2bd157f2c6606f1e2ae36e9790d4b06a2874fffe03ef"), looks := false }, kinds := [], alts := [], laidByText := true, laidKinds := [.data, .pinned], laidTests := true, laidLooks := .later }
def FixedParseCardSaid : Prop := Claim7.holds Tryd.pinned (.plain (OpenSpec.ofChange fixedParseSpec)) fixedParseCard

/-- THE TIED CARD OF 'electionlaw03.FixedDigits'. -/
def fixedDigitsCard : Claim7 := { stood := { row := fixedDigitsRow, standIns := [], harness := (true, "27094837dec1a800666c2bd157f2c6606f1e2ae36e9790d4b06a2874fffe03ef"), looks := false }, kinds := [], alts := [], laidByText := true, laidKinds := [.data, .pinned], laidTests := true, laidLooks := .later }
def FixedDigitsCardSaid : Prop := Claim7.holds Tryd.pinned (.plain (OpenSpec.ofChange fixedDigitsSpec)) fixedDigitsCard

/-- THE SECOND FORM's CARD OF 'electionlaw03.FixedProduct'. -/
def fixedProductUptoCard : Claim7 := { stood := { row := fixedProductUptoRow, standIns := [], harness := (true, "27094837dec1a800666c2bd157f2c6606f1e2ae36e9790d4b06a2874fffe03ef"), looks := false }, kinds := [], alts := [], laidByText := true, laidKinds := [.data, .pinned], laidTests := true, laidLooks := .later }
def FixedProductUptoCardSaid : Prop := Claim7.holds Tryd.pinned (.plain (OpenSpec.upto fixedProductSpec)) fixedProductUptoCard

/-- THE SECOND FORM's CARD OF 'electionlaw03.FixedQuotient'. -/
def fixedQuotientUptoCard : Claim7 := { stood := { row := fixedQuotientUptoRow, standIns := [], harness := (true, "27094837dec1a800666c2bd157f2c6606f1e2ae36e9790d4b06a2874fffe03ef"), looks := false }, kinds := [], alts := [], laidByText := true, laidKinds := [.data, .pinned], laidTests := true, laidLooks := .later }
def FixedQuotientUptoCardSaid : Prop := Claim7.holds Tryd.pinned (.plain (OpenSpec.upto fixedQuotientSpec)) fixedQuotientUptoCard

/-- THE SECOND FORM's CARD OF 'electionlaw03.FixedWord'. -/
def fixedWordUptoCard : Claim7 := { stood := { row := fixedWordUptoRow, standIns := [], harness := (true, "27094837dec1a800666c2bd157f2c6606f1e2ae36e9790d4b06a2874fffe03ef"), looks := false }, kinds := [], alts := [], laidByText := true, laidKinds := [.data, .pinned], laidTests := true, laidLooks := .later }
def FixedWordUptoCardSaid : Prop := Claim7.holds Tryd.pinned (.plain (OpenSpec.upto fixedWordSpec)) fixedWordUptoCard

/-- THE SECOND FORM's CARD OF 'electionlaw03.FixedRatio'. -/
def fixedRatioUptoCard : Claim7 := { stood := { row := fixedRatioUptoRow, standIns := [], harness := (true, "27094837dec1a800666c2bd157f2c6606f1e2ae36e9790d4b06a2874fffe03ef"), looks := false }, kinds := [], alts := [], laidByText := true, laidKinds := [.data, .pinned], laidTests := true, laidLooks := .later }
def FixedRatioUptoCardSaid : Prop := Claim7.holds Tryd.pinned (.plain (OpenSpec.upto fixedRatioSpec)) fixedRatioUptoCard

/-- THE SECOND FORM's CARD OF 'electionlaw03.FixedText'. -/
def fixedTextUptoCard : Claim7 := { stood := { row := fixedTextUptoRow, standIns := [], harness := (true, "27094837dec1a800666c2bd157f2c6606f1e2ae36e9790d4b06a2874fffe03ef"), looks := false }, kinds := [], alts := [], laidByText := true, laidKinds := [.data, .pinned], laidTests := true, laidLooks := .later }
def FixedTextUptoCardSaid : Prop := Claim7.holds Tryd.pinned (.plain (OpenSpec.upto fixedTextSpec)) fixedTextUptoCard

/-- THE SECOND FORM's CARD OF 'electionlaw03.FixedParse'. -/
def fixedParseUptoCard : Claim7 := { stood := { row := fixedParseUptoRow, standIns := [], harness := (true, "27094837dec1a800666c2bd157f2c6606f1e2ae36e9790d4b06a2874fffe03ef"), looks := false }, kinds := [], alts := [], laidByText := true, laidKinds := [.data, .pinned], laidTests := true, laidLooks := .later }
def FixedParseUptoCardSaid : Prop := Claim7.holds Tryd.pinned (.plain (OpenSpec.upto fixedParseSpec)) fixedParseUptoCard

/-- THE SECOND FORM's CARD OF 'electionlaw03.FixedDigits'. -/
def fixedDigitsUptoCard : Claim7 := { stood := { row := fixedDigitsUptoRow, standIns := [], harness := (true, "27094837dec1a800666c2bd157f2c6606f1e2ae36e9790d4b06a2874fffe03ef"), looks := false }, kinds := [], alts := [], laidByText := true, laidKinds := [.data, .pinned], laidTests := true, laidLooks := .later }
def FixedDigitsUptoCardSaid : Prop := Claim7.holds Tryd.pinned (.plain (OpenSpec.upto fixedDigitsSpec)) fixedDigitsUptoCard
end Rows
end Go.Proofs.YtaommeapngbgeaaDoor
