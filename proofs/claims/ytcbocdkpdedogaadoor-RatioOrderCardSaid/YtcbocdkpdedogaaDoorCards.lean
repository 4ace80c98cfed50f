/-
  DERIVED. GIVEN WITH THE SEED: THE CARDS: each row of YtcbocdkpdedogaaDoorRows.lean that lists a variable, with what it lists TIED to the program's text (the seventh form; the later family's looks); each row that meets fmt, with fmt's text TOLD by the authors' own Lean function (tested against real Go, not proved from fmt's source: count such statements apart). THE CARD IS WHAT COUNTS. Prove the row's statement (the work); the ties are given (YtcbocdkpdedogaaDoorTie.lean); close each card by the builder's one call (the guide's Derived/Test/ToyasCard.lean, 'card_holds'). Laid BY PROGRAM, IN A SANDBOX (cutbox-door.mjs). By AI agents, Wed Nov 11 2026. No macro, syntax, notation, axiom, sorry.
-/
import Derived.Test.YtcbocdkpdedogaaDoorRows
import GoSem.ClaimSeven
namespace Go.Proofs.YtcbocdkpdedogaaDoor
namespace Rows

/-- THE TIED CARD OF 'electionlaw02.RatioSum'. -/
def ratioSumCard : Claim7 := { stood := { row := ratioSumRow, standIns := [], harness := (true, "879a11e1d7f95706726e734981337a0ff9bbbbec77a51254bf61ba5f8dcbdaad"), looks := false }, kinds := [], alts := [], laidByText := true, laidKinds := [.data, .pinned], laidTests := true, laidLooks := .later }
def RatioSumCardSaid : Prop := Claim7.holds Tryd.pinned (.plain (OpenSpec.ofChange ratioSumSpec)) ratioSumCard

/-- THE TIED CARD OF 'electionlaw02.RatioText'. -/
def ratioTextCard : Claim7 := { stood := { row := ratioTextRow, standIns := [], harness := (true, "879a11e1d7f95706726e734981337a0ff9bbbbec77a51254bf61ba5f8dcbdaad"), looks := false }, kinds := [], alts := [], laidByText := true, laidKinds := [.data, .pinned], laidTests := true, laidLooks := .later }
def RatioTextCardSaid : Prop := Claim7.holds Tryd.pinned (.plain (OpenSpec.ofChange ratioTextSpec)) ratioTextCard

/-- THE TIED CARD OF 'electionlaw02.RatioParse'. -/
def ratioParseCard : Claim7 := { stood := { row := ratioParseRow, standIns := [], harness := (true, "879a11e1d7f95706726e734981337a0ff9bbbbec77a51254bf61ba5f8dcbdaad"), looks := false }, kinds := [], alts := [], laidByText := true, laidKinds := [.data, .pinned], laidTests := true, laidLooks := .later }
def RatioParseCardSaid : Prop := Claim7.holds Tryd.pinned (.plain (OpenSpec.ofChange ratioParseSpec)) ratioParseCard

/-- THE TIED CARD OF 'electionlaw02.RatioInts'. -/
def ratioIntsCard : Claim7 := { stood := { row := ratioIntsRow, standIns := [], harness := (true, "879a11e1d7f95706726e734981337a0ff9bbbbec77a51254bf61ba5f8dcbdaad"), looks := false }, kinds := [], alts := [], laidByText := true, laidKinds := [.data, .pinned], laidTests := true, laidLooks := .later }
def RatioIntsCardSaid : Prop := Claim7.holds Tryd.pinned (.plain (OpenSpec.ofChange ratioIntsSpec)) ratioIntsCard

/-- THE TIED CARD OF 'electionlaw02.RatioFloor'. -/
def ratioFloorCard : Claim7 := { stood := { row := ratioFloorRow, standIns := [], harness := (true, "879a11e1d7f95706726e734981337a0ff9bbbbec77a51254bf61ba5f8dcbdaad"), looks := false }, kinds := [], alts := [], laidByText := true, laidKinds := [.data, .pinned], laidTests := true, laidLooks := .later }
def RatioFloorCardSaid : Prop := Claim7.holds Tryd.pinned (.plain (OpenSpec.ofChange ratioFloorSpec)) ratioFloorCard

/-- THE TIED CARD OF 'electionlaw02.RatioProduct'. -/
def ratioProductCard : Claim7 := { stood := { row := ratioProductRow, standIns := [], harness := (true, "879a11e1d7f95706726e734981337a0ff9bbbbec77a51254bf61ba5f8dcbdaad"), looks := false }, kinds := [], alts := [], laidByText := true, laidKinds := [.data, .pinned], laidTests := true, laidLooks := .later }
def RatioProductCardSaid : Prop := Claim7.holds Tryd.pinned (.plain (OpenSpec.ofChange ratioProductSpec)) ratioProductCard

/-- THE TIED CARD OF 'electionlaw02.RatioField'. -/
def ratioFieldCard : Claim7 := { stood := { row := ratioFieldRow, standIns := [], harness := (true, "879a11e1d7f95706726e734981337a0ff9bbbbec77a51254bf61ba5f8dcbdaad"), looks := false }, kinds := [], alts := [], laidByText := true, laidKinds := [.data, .pinned], laidTests := true, laidLooks := .later }
def RatioFieldCardSaid : Prop := Claim7.holds Tryd.pinned (.plain (OpenSpec.ofChange ratioFieldSpec)) ratioFieldCard

/-- THE TIED CARD OF 'electionlaw02.RatioOrder'. -/
def ratioOrderCard : Claim7 := { stood := { row := ratioOrderRow, standIns := [], harness := (true, "879a11e1d7f95706726e734981337a0ff9bbbbec77a51254bf61ba5f8dcbdaad"), looks := false }, kinds := [], alts := [], laidByText := true, laidKinds := [.data, .pinned], laidTests := true, laidLooks := .later }
def RatioOrderCardSaid : Prop := Claim7.holds Tryd.pinned (.plain (OpenSpec.ofChange ratioOrderSpec)) ratioOrderCard

/-- THE TIED CARD OF 'electionlaw02.RatioForm'. -/
def ratioFormCard : Claim7 := { stood := { row := ratioFormRow, standIns := [], harness := (true, "879a11e1d7f95706726e734981337a0ff9bbbbec77a51254bf61ba5f8dcbdaad"), looks := false }, kinds := [], alts := [], laidByText := true, laidKinds := [.data, .pinned], laidTests := true, laidLooks := .later }
def RatioFormCardSaid : Prop := Claim7.holds Tryd.pinned (.plain (OpenSpec.ofChange ratioFormSpec)) ratioFormCard

/-- THE SECOND FORM's CARD OF 'electionlaw02.RatioSum'. -/
def ratioSumUptoCard : Claim7 := { stood := { row := ratioSumUptoRow, standIns := [], harness := (true, "879a11e1d7f95706726e734981337a0ff9bbbbec77a51254bf61ba5f8dcbdaad"), looks := false }, kinds := [], alts := [], laidByText := true, laidKinds := [.data, .pinned], laidTests := true, laidLooks := .later }
def RatioSumUptoCardSaid : Prop := Claim7.holds Tryd.pinned (.plain (OpenSpec.upto ratioSumSpec)) ratioSumUptoCard

/-- THE SECOND FORM's CARD OF 'electionlaw02.RatioText'. -/
def ratioTextUptoCard : Claim7 := { stood := { row := ratioTextUptoRow, standIns := [], harness := (true, "879a11e1d7f95706726e734981337a0ff9bbbbec77a51254bf61ba5f8dcbdaad"), looks := false }, kinds := [], alts := [], laidByText := true, laidKinds := [.data, .pinned], laidTests := true, laidLooks := .later }
def RatioTextUptoCardSaid : Prop := Claim7.holds Tryd.pinned (.plain (OpenSpec.upto ratioTextSpec)) ratioTextUptoCard

/-- THE SECOND FORM's CARD OF 'electionlaw02.RatioParse'. -/
def ratioParseUptoCard : Claim7 := { stood := { row := ratioParseUptoRow, standIns := [], harness := (true, "879a11e1d7f95706726e734981337a0ff9bbbbec77a51254bf61ba5f8dcbdaad"), looks := false }, kinds := [], alts := [], laidByText := true, laidKinds := [.data, .pinned], laidTests := true, laidLooks := .later }
def RatioParseUptoCardSaid : Prop := Claim7.holds Tryd.pinned (.plain (OpenSpec.upto ratioParseSpec)) ratioParseUptoCard

/-- THE SECOND FORM's CARD OF 'electionlaw02.RatioInts'. -/
def ratioIntsUptoCard : Claim7 := { stood := { row := ratioIntsUptoRow, standIns := [], harness := (true, "879a11e1d7f95706726e734981337a0ff9bbbbec77a51254bf61ba5f8dcbdaad"), looks := false }, kinds := [], alts := [], laidByText := true, laidKinds := [.data, .pinned], laidTests := true, laidLooks := .later }
def RatioIntsUptoCardSaid : Prop := Claim7.holds Tryd.pinned (.plain (OpenSpec.upto ratioIntsSpec)) ratioIntsUptoCard

/-- THE SECOND FORM's CARD OF 'electionlaw02.RatioFloor'. -/
def ratioFloorUptoCard : Claim7 := { stood := { row := ratioFloorUptoRow, standIns := [], harness := (true, "879a11e1d7f95706726e734981337a0ff9bbbbec77a51254bf61ba5f8dcbdaad"), looks := false }, kinds := [], alts := [], laidByText := true, laidKinds := [.data, .pinned], laidTests := true, laidLooks := .later }
def RatioFloorUptoCardSaid : Prop := Claim7.holds Tryd.pinned (.plain (OpenSpec.upto ratioFloorSpec)) ratioFloorUptoCard

/-- THE SECOND FORM's CARD OF 'electionlaw02.RatioProduct'. -/
def ratioProductUptoCard : Claim7 := { stood := { row := ratioProductUptoRow, standIns := [], harness := (true, "879a11e1d7f95706726e734981337a0ff9bbbbec77a51254bf61ba5f8dcbdaad"), looks := false }, kinds := [], alts := [], laidByText := true, laidKinds := [.data, .pinned], laidTests := true, laidLooks := .later }
def RatioProductUptoCardSaid : Prop := Claim7.holds Tryd.pinned (.plain (OpenSpec.upto ratioProductSpec)) ratioProductUptoCard

/-- THE SECOND FORM's CARD OF 'electionlaw02.RatioField'. -/
def ratioFieldUptoCard : Claim7 := { stood := { row := ratioFieldUptoRow, standIns := [], harness := (true, "879a11e1d7f95706726e734981337a0ff9bbbbec77a51254bf61ba5f8dcbdaad"), looks := false }, kinds := [], alts := [], laidByText := true, laidKinds := [.data, .pinned], laidTests := true, laidLooks := .later }
def RatioFieldUptoCardSaid : Prop := Claim7.holds Tryd.pinned (.plain (OpenSpec.upto ratioFieldSpec)) ratioFieldUptoCard

/-- THE SECOND FORM's CARD OF 'electionlaw02.RatioOrder'. -/
def ratioOrderUptoCard : Claim7 := { stood := { row := ratioOrderUptoRow, standIns := [], harness := (true, "879a11e1d7f95706726e734981337a0ff9bbbbec77a51254bf61ba5f8dcbdaad"), looks := false }, kinds := [], alts := [], laidByText := true, laidKinds := [.data, .pinned], laidTests := true, laidLooks := .later }
def RatioOrderUptoCardSaid : Prop := Claim7.holds Tryd.pinned (.plain (OpenSpec.upto ratioOrderSpec)) ratioOrderUptoCard

/-- THE SECOND FORM's CARD OF 'electionlaw02.RatioForm'. -/
def ratioFormUptoCard : Claim7 := { stood := { row := ratioFormUptoRow, standIns := [], harness := (true, "879a11e1d7f95706726e734981337a0ff9bbbbec77a51254bf61ba5f8dcbdaad"), looks := false }, kinds := [], alts := [], laidByText := true, laidKinds := [.data, .pinned], laidTests := true, laidLooks := .later }
def RatioFormUptoCardSaid : Prop := Claim7.holds Tryd.pinned (.plain (OpenSpec.upto ratioFormSpec)) ratioFormUptoCard
end Rows
end Go.Proofs.YtcbocdkpdedogaaDoor
