/-
  DERIVED. GIVEN WITH THE SEED: THE CARDS: each row of YteobjelenfjifaaDoorRows.lean that lists a variable, with what it lists TIED to the program's text (the seventh form; the later family's looks); each row that meets fmt, with fmt's text TOLD by the authors' own Lean function (tested against real Go, not proved from fmt's source: count such statements apart). THE CARD IS WHAT COUNTS. Prove the row's statement (the work); the ties are given (YteobjelenfjifaaDoorTie.lean); close each card by the builder's one call (the guide's Derived/Test/ToyasCard.lean, 'card_holds'). Laid BY PROGRAM, IN A SANDBOX (cutbox-door.mjs). By AI agents, Wed Nov 11 2026. No macro, syntax, notation, axiom, sorry.
-/
import Derived.Test.YteobjelenfjifaaDoorRows
import GoSem.ClaimSeven
namespace Go.Proofs.YteobjelenfjifaaDoor
namespace Rows

/-- THE TIED CARD OF 'electionlaw01.NatWord'. -/
def natWordCard : Claim7 := { stood := { row := natWordRow, standIns := [], harness := (true, "5a39c55248918ebed98386bd5f8cdc3ee15727d316b6793b16b1bf1e2f3c733d"), looks := false }, kinds := [], alts := [], laidByText := true, laidKinds := [.data, .pinned], laidTests := true, laidLooks := .later }
def NatWordCardSaid : Prop := Claim7.holds Tryd.pinned (.plain (OpenSpec.ofChange natWordSpec)) natWordCard

/-- THE TIED CARD OF 'electionlaw01.NatSum'. -/
def natSumCard : Claim7 := { stood := { row := natSumRow, standIns := [], harness := (true, "5a39c55248918ebed98386bd5f8cdc3ee15727d316b6793b16b1bf1e2f3c733d"), looks := false }, kinds := [], alts := [], laidByText := true, laidKinds := [.data, .pinned], laidTests := true, laidLooks := .later }
def NatSumCardSaid : Prop := Claim7.holds Tryd.pinned (.plain (OpenSpec.ofChange natSumSpec)) natSumCard

/-- THE TIED CARD OF 'electionlaw01.NatProduct'. -/
def natProductCard : Claim7 := { stood := { row := natProductRow, standIns := [], harness := (true, "5a39c55248918ebed98386bd5f8cdc3ee15727d316b6793b16b1bf1e2f3c733d"), looks := false }, kinds := [], alts := [], laidByText := true, laidKinds := [.data, .pinned], laidTests := true, laidLooks := .later }
def NatProductCardSaid : Prop := Claim7.holds Tryd.pinned (.plain (OpenSpec.ofChange natProductSpec)) natProductCard

/-- THE TIED CARD OF 'electionlaw01.NatPower'. -/
def natPowerCard : Claim7 := { stood := { row := natPowerRow, standIns := [], harness := (true, "5a39c55248918ebed98386bd5f8cdc3ee15727d316b6793b16b1bf1e2f3c733d"), looks := false }, kinds := [], alts := [], laidByText := true, laidKinds := [.data, .pinned], laidTests := true, laidLooks := .later }
def NatPowerCardSaid : Prop := Claim7.holds Tryd.pinned (.plain (OpenSpec.ofChange natPowerSpec)) natPowerCard

/-- THE TIED CARD OF 'electionlaw01.NatRing'. -/
def natRingCard : Claim7 := { stood := { row := natRingRow, standIns := [], harness := (true, "5a39c55248918ebed98386bd5f8cdc3ee15727d316b6793b16b1bf1e2f3c733d"), looks := false }, kinds := [], alts := [], laidByText := true, laidKinds := [.data, .pinned], laidTests := true, laidLooks := .later }
def NatRingCardSaid : Prop := Claim7.holds Tryd.pinned (.plain (OpenSpec.ofChange natRingSpec)) natRingCard

/-- THE TIED CARD OF 'electionlaw01.NatDecimal'. -/
def natDecimalCard : Claim7 := { stood := { row := natDecimalRow, standIns := [], harness := (true, "5a39c55248918ebed98386bd5f8cdc3ee15727d316b6793b16b1bf1e2f3c733d"), looks := false }, kinds := [], alts := [], laidByText := true, laidKinds := [.data, .pinned], laidTests := true, laidLooks := .later }
def NatDecimalCardSaid : Prop := Claim7.holds Tryd.pinned (.plain (OpenSpec.ofChange natDecimalSpec)) natDecimalCard

/-- THE TIED CARD OF 'electionlaw01.NatParse'. -/
def natParseCard : Claim7 := { stood := { row := natParseRow, standIns := [], harness := (true, "5a39c55248918ebed98386bd5f8cdc3ee15727d316b6793b16b1bf1e2f3c733d"), looks := false }, kinds := [], alts := [], laidByText := true, laidKinds := [.data, .pinned], laidTests := true, laidLooks := .later }
def NatParseCardSaid : Prop := Claim7.holds Tryd.pinned (.plain (OpenSpec.ofChange natParseSpec)) natParseCard

/-- THE TIED CARD OF 'electionlaw01.NatQuotient'. -/
def natQuotientCard : Claim7 := { stood := { row := natQuotientRow, standIns := [], harness := (true, "5a39c55248918ebed98386bd5f8cdc3ee15727d316b6793b16b1bf1e2f3c733d"), looks := false }, kinds := [], alts := [], laidByText := true, laidKinds := [.data, .pinned], laidTests := true, laidLooks := .later }
def NatQuotientCardSaid : Prop := Claim7.holds Tryd.pinned (.plain (OpenSpec.ofChange natQuotientSpec)) natQuotientCard

/-- THE TIED CARD OF 'electionlaw01.NatCommon'. -/
def natCommonCard : Claim7 := { stood := { row := natCommonRow, standIns := [], harness := (true, "5a39c55248918ebed98386bd5f8cdc3ee15727d316b6793b16b1bf1e2f3c733d"), looks := false }, kinds := [], alts := [], laidByText := true, laidKinds := [.data, .pinned], laidTests := true, laidLooks := .later }
def NatCommonCardSaid : Prop := Claim7.holds Tryd.pinned (.plain (OpenSpec.ofChange natCommonSpec)) natCommonCard

/-- THE TIED CARD OF 'electionlaw01.NatInverse'. -/
def natInverseCard : Claim7 := { stood := { row := natInverseRow, standIns := [], harness := (true, "5a39c55248918ebed98386bd5f8cdc3ee15727d316b6793b16b1bf1e2f3c733d"), looks := false }, kinds := [], alts := [], laidByText := true, laidKinds := [.data, .pinned], laidTests := true, laidLooks := .later }
def NatInverseCardSaid : Prop := Claim7.holds Tryd.pinned (.plain (OpenSpec.ofChange natInverseSpec)) natInverseCard

/-- THE TIED CARD OF 'electionlaw01.NatForm'. -/
def natFormCard : Claim7 := { stood := { row := natFormRow, standIns := [], harness := (true, "5a39c55248918ebed98386bd5f8cdc3ee15727d316b6793b16b1bf1e2f3c733d"), looks := false }, kinds := [], alts := [], laidByText := true, laidKinds := [.data, .pinned], laidTests := true, laidLooks := .later }
def NatFormCardSaid : Prop := Claim7.holds Tryd.pinned (.plain (OpenSpec.ofChange natFormSpec)) natFormCard

/-- THE SECOND FORM's CARD OF 'electionlaw01.NatWord'. -/
def natWordUptoCard : Claim7 := { stood := { row := natWordUptoRow, standIns := [], harness := (true, "5a39c55248918ebed98386bd5f8cdc3ee15727d316b6793b16b1bf1e2f3c733d"), looks := false }, kinds := [], alts := [], laidByText := true, laidKinds := [.data, .pinned], laidTests := true, laidLooks := .later }
def NatWordUptoCardSaid : Prop := Claim7.holds Tryd.pinned (.plain (OpenSpec.upto natWordSpec)) natWordUptoCard

/-- THE SECOND FORM's CARD OF 'electionlaw01.NatSum'. -/
def natSumUptoCard : Claim7 := { stood := { row := natSumUptoRow, standIns := [], harness := (true, "5a39c55248918ebed98386bd5f8cdc3ee15727d316b6793b16b1bf1e2f3c733d"), looks := false }, kinds := [], alts := [], laidByText := true, laidKinds := [.data, .pinned], laidTests := true, laidLooks := .later }
def NatSumUptoCardSaid : Prop := Claim7.holds Tryd.pinned (.plain (OpenSpec.upto natSumSpec)) natSumUptoCard

/-- THE SECOND FORM's CARD OF 'electionlaw01.NatProduct'. -/
def natProductUptoCard : Claim7 := { stood := { row := natProductUptoRow, standIns := [], harness := (true, "5a39c55248918ebed98386bd5f8cdc3ee15727d316b6793b16b1bf1e2f3c733d"), looks := false }, kinds := [], alts := [], laidByText := true, laidKinds := [.data, .pinned], laidTests := true, laidLooks := .later }
def NatProductUptoCardSaid : Prop := Claim7.holds Tryd.pinned (.plain (OpenSpec.upto natProductSpec)) natProductUptoCard

/-- THE SECOND FORM's CARD OF 'electionlaw01.NatPower'. -/
def natPowerUptoCard : Claim7 := { stood := { row := natPowerUptoRow, standIns := [], harness := (true, "5a39c55248918ebed98386bd5f8cdc3ee15727d316b6793b16b1bf1e2f3c733d"), looks := false }, kinds := [], alts := [], laidByText := true, laidKinds := [.data, .pinned], laidTests := true, laidLooks := .later }
def NatPowerUptoCardSaid : Prop := Claim7.holds Tryd.pinned (.plain (OpenSpec.upto natPowerSpec)) natPowerUptoCard

/-- THE SECOND FORM's CARD OF 'electionlaw01.NatRing'. -/
def natRingUptoCard : Claim7 := { stood := { row := natRingUptoRow, standIns := [], harness := (true, "5a39c55248918ebed98386bd5f8cdc3ee15727d316b6793b16b1bf1e2f3c733d"), looks := false }, kinds := [], alts := [], laidByText := true, laidKinds := [.data, .pinned], laidTests := true, laidLooks := .later }
def NatRingUptoCardSaid : Prop := Claim7.holds Tryd.pinned (.plain (OpenSpec.upto natRingSpec)) natRingUptoCard

/-- THE SECOND FORM's CARD OF 'electionlaw01.NatDecimal'. -/
def natDecimalUptoCard : Claim7 := { stood := { row := natDecimalUptoRow, standIns := [], harness := (true, "5a39c55248918ebed98386bd5f8cdc3ee15727d316b6793b16b1bf1e2f3c733d"), looks := false }, kinds := [], alts := [], laidByText := true, laidKinds := [.data, .pinned], laidTests := true, laidLooks := .later }
def NatDecimalUptoCardSaid : Prop := Claim7.holds Tryd.pinned (.plain (OpenSpec.upto natDecimalSpec)) natDecimalUptoCard

/-- THE SECOND FORM's CARD OF 'electionlaw01.NatParse'. -/
def natParseUptoCard : Claim7 := { stood := { row := natParseUptoRow, standIns := [], harness := (true, "5a39c55248918ebed98386bd5f8cdc3ee15727d316b6793b16b1bf1e2f3c733d"), looks := false }, kinds := [], alts := [], laidByText := true, laidKinds := [.data, .pinned], laidTests := true, laidLooks := .later }
def NatParseUptoCardSaid : Prop := Claim7.holds Tryd.pinned (.plain (OpenSpec.upto natParseSpec)) natParseUptoCard

/-- THE SECOND FORM's CARD OF 'electionlaw01.NatQuotient'. -/
def natQuotientUptoCard : Claim7 := { stood := { row := natQuotientUptoRow, standIns := [], harness := (true, "5a39c55248918ebed98386bd5f8cdc3ee15727d316b6793b16b1bf1e2f3c733d"), looks := false }, kinds := [], alts := [], laidByText := true, laidKinds := [.data, .pinned], laidTests := true, laidLooks := .later }
def NatQuotientUptoCardSaid : Prop := Claim7.holds Tryd.pinned (.plain (OpenSpec.upto natQuotientSpec)) natQuotientUptoCard

/-- THE SECOND FORM's CARD OF 'electionlaw01.NatCommon'. -/
def natCommonUptoCard : Claim7 := { stood := { row := natCommonUptoRow, standIns := [], harness := (true, "5a39c55248918ebed98386bd5f8cdc3ee15727d316b6793b16b1bf1e2f3c733d"), looks := false }, kinds := [], alts := [], laidByText := true, laidKinds := [.data, .pinned], laidTests := true, laidLooks := .later }
def NatCommonUptoCardSaid : Prop := Claim7.holds Tryd.pinned (.plain (OpenSpec.upto natCommonSpec)) natCommonUptoCard

/-- THE SECOND FORM's CARD OF 'electionlaw01.NatInverse'. -/
def natInverseUptoCard : Claim7 := { stood := { row := natInverseUptoRow, standIns := [], harness := (true, "5a39c55248918ebed98386bd5f8cdc3ee15727d316b6793b16b1bf1e2f3c733d"), looks := false }, kinds := [], alts := [], laidByText := true, laidKinds := [.data, .pinned], laidTests := true, laidLooks := .later }
def NatInverseUptoCardSaid : Prop := Claim7.holds Tryd.pinned (.plain (OpenSpec.upto natInverseSpec)) natInverseUptoCard

/-- THE SECOND FORM's CARD OF 'electionlaw01.NatForm'. -/
def natFormUptoCard : Claim7 := { stood := { row := natFormUptoRow, standIns := [], harness := (true, "5a39c55248918ebed98386bd5f8cdc3ee15727d316b6793b16b1bf1e2f3c733d"), looks := false }, kinds := [], alts := [], laidByText := true, laidKinds := [.data, .pinned], laidTests := true, laidLooks := .later }
def NatFormUptoCardSaid : Prop := Claim7.holds Tryd.pinned (.plain (OpenSpec.upto natFormSpec)) natFormUptoCard
end Rows
end Go.Proofs.YteobjelenfjifaaDoor
