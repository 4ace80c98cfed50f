/-
  NARROWER THAN 'FOR EVERY INPUT', by the rows' own cells (each row's printed sentence says how): NatWord: laid · NatSum: laid · NatProduct: laid · NatPower: laid · NatRing: laid · NatDecimal: laid · NatParse: laid · NatQuotient: laid · NatCommon: laid · NatInverse: laid · NatForm: laid.
  DERIVED. THE GIVEN ROWS OF THIS SEAT. 11 by the template 'for every input the law returns true; each argument reads behind the call as it read before'; 0 by the template 'total and deterministic' (their statements: YteobjelenfjifaaDoorTotals.lean).
  GIVEN WITH THE SEED: the statements are not yours to turn. If you find one false, say at which input.
  Laid BY PROGRAM, IN A SANDBOX (cutbox-rows.mjs): the forced cells as the released guide's own fill.sh prints them over the translation 380669b1b57addc8… (all of the seat's roots in one cut). By AI agents, Wed Nov 11 2026. No macro, syntax, notation, axiom, sorry.
-/
import Derived.Test.YteobjelenfjifaaDoorChecked
import GoSem.PinnedTables
import GoSem.Claim
import GoSem.ClaimJoined
import GoSem.ClaimMapViews
import Derived.JoinedTies
import Derived.KernelRfl
namespace Go.Proofs.YteobjelenfjifaaDoor
/- THE CELL 'sum', in the pinned program and in every row, IS THE sha256 OF THE DUMP (.gsa) THAT YteobjelenfjifaaDoorProg.lean LOADS. Nothing in Lean hashes anything: it is a label: what it is worth is what the hold of that sum in a sandbox is worth. -/
noncomputable def Tryd.pinned : Pinned := { name := "yteobjelenfjifaadoor", sum := "380669b1b57addc84d96601635ac6e57c7c8d8b85d7c769fa9b41ca6a4e882d1", checked := Tryd.checked }
namespace Rows
def none {H : Type} : Left H := { results := [], args := [] }

/- WHAT THE LISTED PACKAGE-LEVEL VARIABLES READ AS WHEN THE CALL BEGINS. Each datum BY PROGRAM (the guide's laid-datum.mjs) off the statement by which the dump's own 'gosem.cut.vars' lays the variable. In a bare row this is a premise. The card (YteobjelenfjifaaDoorCards.lean) ties it to the program's text. -/
def laid_unicode_utf8_acceptRanges {H : Type} : DataW H := .agg [.agg [.lit (.int .u8 128), .lit (.int .u8 191)], .agg [.lit (.int .u8 160), .lit (.int .u8 191)], .agg [.lit (.int .u8 128), .lit (.int .u8 159)], .agg [.lit (.int .u8 144), .lit (.int .u8 191)], .agg [.lit (.int .u8 128), .lit (.int .u8 143)], .agg [.lit (.int .u8 0), .lit (.int .u8 0)], .agg [.lit (.int .u8 0), .lit (.int .u8 0)], .agg [.lit (.int .u8 0), .lit (.int .u8 0)], .agg [.lit (.int .u8 0), .lit (.int .u8 0)], .agg [.lit (.int .u8 0), .lit (.int .u8 0)], .agg [.lit (.int .u8 0), .lit (.int .u8 0)], .agg [.lit (.int .u8 0), .lit (.int .u8 0)], .agg [.lit (.int .u8 0), .lit (.int .u8 0)], .agg [.lit (.int .u8 0), .lit (.int .u8 0)], .agg [.lit (.int .u8 0), .lit (.int .u8 0)], .agg [.lit (.int .u8 0), .lit (.int .u8 0)]]
/-- One of Go's own tables, pinned by name: the form's constant. -/
def laid_unicode_utf8_first : DataW Unit := Go.Pinned.utf8First

/-- 'electionlaw01.NatWord': WHATEVER THE INPUT: true; the input reads as it did. -/
def natWordSpec : ChangeSpec := { name := "natWord", fn := fun _ => fun
  | [d1, d2] => { results := [.lit (.bool true)], args := [d1, d2] }
  | _ => none }
def natWordRow : OpenClaim := { program := "yteobjelenfjifaadoor", sum := "380669b1b57addc84d96601635ac6e57c7c8d8b85d7c769fa9b41ca6a4e882d1", func := "election/electionlaw01.NatWord", spec := "natWord", inPlace := ["internal/bytealg.IndexByteString", "internal/bytealg.IndexString"], named := ["unicode/utf8.first", "unicode/utf8.acceptRanges", "internal/bytealg.MaxLen"], apart := false, laid := [("unicode/utf8.acceptRanges", laid_unicode_utf8_acceptRanges), ("unicode/utf8.first", laid_unicode_utf8_first)] }
def NatWordSaid : Prop := natWordRow.holds Tryd.pinned (OpenSpec.ofChange natWordSpec)

/-- ITS FALSE NEIGHBOUR: 'it returns false'. Refute it at one input. -/
def natWordWrong : ChangeSpec := { name := "natWord", fn := fun _ => fun
  | [d1, d2] => { results := [.lit (.bool false)], args := [d1, d2] }
  | _ => none }
def NatWordWrongFalsely : Prop := natWordRow.holds Tryd.pinned (OpenSpec.ofChange natWordWrong)

/-- 'electionlaw01.NatSum': WHATEVER THE INPUT: true; the input reads as it did. -/
def natSumSpec : ChangeSpec := { name := "natSum", fn := fun _ => fun
  | [d1, d2] => { results := [.lit (.bool true)], args := [d1, d2] }
  | _ => none }
def natSumRow : OpenClaim := { program := "yteobjelenfjifaadoor", sum := "380669b1b57addc84d96601635ac6e57c7c8d8b85d7c769fa9b41ca6a4e882d1", func := "election/electionlaw01.NatSum", spec := "natSum", inPlace := ["internal/bytealg.IndexByteString", "internal/bytealg.IndexString"], named := ["unicode/utf8.first", "unicode/utf8.acceptRanges", "internal/bytealg.MaxLen"], apart := false, laid := [("unicode/utf8.acceptRanges", laid_unicode_utf8_acceptRanges), ("unicode/utf8.first", laid_unicode_utf8_first)] }
def NatSumSaid : Prop := natSumRow.holds Tryd.pinned (OpenSpec.ofChange natSumSpec)

/-- ITS FALSE NEIGHBOUR: 'it returns false'. Refute it at one input. -/
def natSumWrong : ChangeSpec := { name := "natSum", fn := fun _ => fun
  | [d1, d2] => { results := [.lit (.bool false)], args := [d1, d2] }
  | _ => none }
def NatSumWrongFalsely : Prop := natSumRow.holds Tryd.pinned (OpenSpec.ofChange natSumWrong)

/-- 'electionlaw01.NatProduct': WHATEVER THE INPUT: true; the input reads as it did. -/
def natProductSpec : ChangeSpec := { name := "natProduct", fn := fun _ => fun
  | [d1, d2] => { results := [.lit (.bool true)], args := [d1, d2] }
  | _ => none }
def natProductRow : OpenClaim := { program := "yteobjelenfjifaadoor", sum := "380669b1b57addc84d96601635ac6e57c7c8d8b85d7c769fa9b41ca6a4e882d1", func := "election/electionlaw01.NatProduct", spec := "natProduct", inPlace := ["internal/bytealg.IndexByteString", "internal/bytealg.IndexString"], named := ["unicode/utf8.first", "unicode/utf8.acceptRanges", "internal/bytealg.MaxLen"], apart := false, laid := [("unicode/utf8.acceptRanges", laid_unicode_utf8_acceptRanges), ("unicode/utf8.first", laid_unicode_utf8_first)] }
def NatProductSaid : Prop := natProductRow.holds Tryd.pinned (OpenSpec.ofChange natProductSpec)

/-- ITS FALSE NEIGHBOUR: 'it returns false'. Refute it at one input. -/
def natProductWrong : ChangeSpec := { name := "natProduct", fn := fun _ => fun
  | [d1, d2] => { results := [.lit (.bool false)], args := [d1, d2] }
  | _ => none }
def NatProductWrongFalsely : Prop := natProductRow.holds Tryd.pinned (OpenSpec.ofChange natProductWrong)

/-- 'electionlaw01.NatPower': WHATEVER THE INPUT: true; the input reads as it did. -/
def natPowerSpec : ChangeSpec := { name := "natPower", fn := fun _ => fun
  | [d] => { results := [.lit (.bool true)], args := [d] }
  | _ => none }
def natPowerRow : OpenClaim := { program := "yteobjelenfjifaadoor", sum := "380669b1b57addc84d96601635ac6e57c7c8d8b85d7c769fa9b41ca6a4e882d1", func := "election/electionlaw01.NatPower", spec := "natPower", inPlace := ["internal/bytealg.IndexByteString", "internal/bytealg.IndexString"], named := ["unicode/utf8.first", "unicode/utf8.acceptRanges", "internal/bytealg.MaxLen"], apart := false, laid := [("unicode/utf8.acceptRanges", laid_unicode_utf8_acceptRanges), ("unicode/utf8.first", laid_unicode_utf8_first)] }
def NatPowerSaid : Prop := natPowerRow.holds Tryd.pinned (OpenSpec.ofChange natPowerSpec)

/-- ITS FALSE NEIGHBOUR: 'it returns false'. Refute it at one input. -/
def natPowerWrong : ChangeSpec := { name := "natPower", fn := fun _ => fun
  | [d] => { results := [.lit (.bool false)], args := [d] }
  | _ => none }
def NatPowerWrongFalsely : Prop := natPowerRow.holds Tryd.pinned (OpenSpec.ofChange natPowerWrong)

/-- 'electionlaw01.NatRing': WHATEVER THE INPUT: true; the input reads as it did. -/
def natRingSpec : ChangeSpec := { name := "natRing", fn := fun _ => fun
  | [d1, d2, d3] => { results := [.lit (.bool true)], args := [d1, d2, d3] }
  | _ => none }
def natRingRow : OpenClaim := { program := "yteobjelenfjifaadoor", sum := "380669b1b57addc84d96601635ac6e57c7c8d8b85d7c769fa9b41ca6a4e882d1", func := "election/electionlaw01.NatRing", spec := "natRing", inPlace := ["internal/bytealg.IndexByteString", "internal/bytealg.IndexString"], named := ["unicode/utf8.first", "unicode/utf8.acceptRanges", "internal/bytealg.MaxLen"], apart := false, laid := [("unicode/utf8.acceptRanges", laid_unicode_utf8_acceptRanges), ("unicode/utf8.first", laid_unicode_utf8_first)] }
def NatRingSaid : Prop := natRingRow.holds Tryd.pinned (OpenSpec.ofChange natRingSpec)

/-- ITS FALSE NEIGHBOUR: 'it returns false'. Refute it at one input. -/
def natRingWrong : ChangeSpec := { name := "natRing", fn := fun _ => fun
  | [d1, d2, d3] => { results := [.lit (.bool false)], args := [d1, d2, d3] }
  | _ => none }
def NatRingWrongFalsely : Prop := natRingRow.holds Tryd.pinned (OpenSpec.ofChange natRingWrong)

/-- 'electionlaw01.NatDecimal': WHATEVER THE INPUT: true; the input reads as it did. -/
def natDecimalSpec : ChangeSpec := { name := "natDecimal", fn := fun _ => fun
  | [d] => { results := [.lit (.bool true)], args := [d] }
  | _ => none }
def natDecimalRow : OpenClaim := { program := "yteobjelenfjifaadoor", sum := "380669b1b57addc84d96601635ac6e57c7c8d8b85d7c769fa9b41ca6a4e882d1", func := "election/electionlaw01.NatDecimal", spec := "natDecimal", inPlace := ["internal/bytealg.IndexByteString", "internal/bytealg.IndexString"], named := ["unicode/utf8.first", "unicode/utf8.acceptRanges", "internal/bytealg.MaxLen"], apart := false, laid := [("unicode/utf8.acceptRanges", laid_unicode_utf8_acceptRanges), ("unicode/utf8.first", laid_unicode_utf8_first)] }
def NatDecimalSaid : Prop := natDecimalRow.holds Tryd.pinned (OpenSpec.ofChange natDecimalSpec)

/-- ITS FALSE NEIGHBOUR: 'it returns false'. Refute it at one input. -/
def natDecimalWrong : ChangeSpec := { name := "natDecimal", fn := fun _ => fun
  | [d] => { results := [.lit (.bool false)], args := [d] }
  | _ => none }
def NatDecimalWrongFalsely : Prop := natDecimalRow.holds Tryd.pinned (OpenSpec.ofChange natDecimalWrong)

/-- 'electionlaw01.NatParse': WHATEVER THE INPUT: true; the input reads as it did. -/
def natParseSpec : ChangeSpec := { name := "natParse", fn := fun _ => fun
  | [d] => { results := [.lit (.bool true)], args := [d] }
  | _ => none }
def natParseRow : OpenClaim := { program := "yteobjelenfjifaadoor", sum := "380669b1b57addc84d96601635ac6e57c7c8d8b85d7c769fa9b41ca6a4e882d1", func := "election/electionlaw01.NatParse", spec := "natParse", inPlace := ["internal/bytealg.IndexByteString", "internal/bytealg.IndexString"], named := ["unicode/utf8.first", "unicode/utf8.acceptRanges", "internal/bytealg.MaxLen"], apart := false, laid := [("unicode/utf8.acceptRanges", laid_unicode_utf8_acceptRanges), ("unicode/utf8.first", laid_unicode_utf8_first)] }
def NatParseSaid : Prop := natParseRow.holds Tryd.pinned (OpenSpec.ofChange natParseSpec)

/-- ITS FALSE NEIGHBOUR: 'it returns false'. Refute it at one input. -/
def natParseWrong : ChangeSpec := { name := "natParse", fn := fun _ => fun
  | [d] => { results := [.lit (.bool false)], args := [d] }
  | _ => none }
def NatParseWrongFalsely : Prop := natParseRow.holds Tryd.pinned (OpenSpec.ofChange natParseWrong)

/-- 'electionlaw01.NatQuotient': WHATEVER THE INPUT: true; the input reads as it did. -/
def natQuotientSpec : ChangeSpec := { name := "natQuotient", fn := fun _ => fun
  | [d1, d2] => { results := [.lit (.bool true)], args := [d1, d2] }
  | _ => none }
def natQuotientRow : OpenClaim := { program := "yteobjelenfjifaadoor", sum := "380669b1b57addc84d96601635ac6e57c7c8d8b85d7c769fa9b41ca6a4e882d1", func := "election/electionlaw01.NatQuotient", spec := "natQuotient", inPlace := ["internal/bytealg.IndexByteString", "internal/bytealg.IndexString"], named := ["unicode/utf8.first", "unicode/utf8.acceptRanges", "internal/bytealg.MaxLen"], apart := false, laid := [("unicode/utf8.acceptRanges", laid_unicode_utf8_acceptRanges), ("unicode/utf8.first", laid_unicode_utf8_first)] }
def NatQuotientSaid : Prop := natQuotientRow.holds Tryd.pinned (OpenSpec.ofChange natQuotientSpec)

/-- ITS FALSE NEIGHBOUR: 'it returns false'. Refute it at one input. -/
def natQuotientWrong : ChangeSpec := { name := "natQuotient", fn := fun _ => fun
  | [d1, d2] => { results := [.lit (.bool false)], args := [d1, d2] }
  | _ => none }
def NatQuotientWrongFalsely : Prop := natQuotientRow.holds Tryd.pinned (OpenSpec.ofChange natQuotientWrong)

/-- 'electionlaw01.NatCommon': WHATEVER THE INPUT: true; the input reads as it did. -/
def natCommonSpec : ChangeSpec := { name := "natCommon", fn := fun _ => fun
  | [d1, d2] => { results := [.lit (.bool true)], args := [d1, d2] }
  | _ => none }
def natCommonRow : OpenClaim := { program := "yteobjelenfjifaadoor", sum := "380669b1b57addc84d96601635ac6e57c7c8d8b85d7c769fa9b41ca6a4e882d1", func := "election/electionlaw01.NatCommon", spec := "natCommon", inPlace := ["internal/bytealg.IndexByteString", "internal/bytealg.IndexString"], named := ["unicode/utf8.first", "unicode/utf8.acceptRanges", "internal/bytealg.MaxLen"], apart := false, laid := [("unicode/utf8.acceptRanges", laid_unicode_utf8_acceptRanges), ("unicode/utf8.first", laid_unicode_utf8_first)] }
def NatCommonSaid : Prop := natCommonRow.holds Tryd.pinned (OpenSpec.ofChange natCommonSpec)

/-- ITS FALSE NEIGHBOUR: 'it returns false'. Refute it at one input. -/
def natCommonWrong : ChangeSpec := { name := "natCommon", fn := fun _ => fun
  | [d1, d2] => { results := [.lit (.bool false)], args := [d1, d2] }
  | _ => none }
def NatCommonWrongFalsely : Prop := natCommonRow.holds Tryd.pinned (OpenSpec.ofChange natCommonWrong)

/-- 'electionlaw01.NatInverse': WHATEVER THE INPUT: true; the input reads as it did. -/
def natInverseSpec : ChangeSpec := { name := "natInverse", fn := fun _ => fun
  | [d1, d2, d3] => { results := [.lit (.bool true)], args := [d1, d2, d3] }
  | _ => none }
def natInverseRow : OpenClaim := { program := "yteobjelenfjifaadoor", sum := "380669b1b57addc84d96601635ac6e57c7c8d8b85d7c769fa9b41ca6a4e882d1", func := "election/electionlaw01.NatInverse", spec := "natInverse", inPlace := ["internal/bytealg.IndexByteString", "internal/bytealg.IndexString"], named := ["unicode/utf8.first", "unicode/utf8.acceptRanges", "internal/bytealg.MaxLen"], apart := false, laid := [("unicode/utf8.acceptRanges", laid_unicode_utf8_acceptRanges), ("unicode/utf8.first", laid_unicode_utf8_first)] }
def NatInverseSaid : Prop := natInverseRow.holds Tryd.pinned (OpenSpec.ofChange natInverseSpec)

/-- ITS FALSE NEIGHBOUR: 'it returns false'. Refute it at one input. -/
def natInverseWrong : ChangeSpec := { name := "natInverse", fn := fun _ => fun
  | [d1, d2, d3] => { results := [.lit (.bool false)], args := [d1, d2, d3] }
  | _ => none }
def NatInverseWrongFalsely : Prop := natInverseRow.holds Tryd.pinned (OpenSpec.ofChange natInverseWrong)

/-- 'electionlaw01.NatForm': WHATEVER THE INPUT: true; the input reads as it did. -/
def natFormSpec : ChangeSpec := { name := "natForm", fn := fun _ => fun
  | [d1, d2, d3] => { results := [.lit (.bool true)], args := [d1, d2, d3] }
  | _ => none }
def natFormRow : OpenClaim := { program := "yteobjelenfjifaadoor", sum := "380669b1b57addc84d96601635ac6e57c7c8d8b85d7c769fa9b41ca6a4e882d1", func := "election/electionlaw01.NatForm", spec := "natForm", inPlace := ["internal/bytealg.IndexByteString", "internal/bytealg.IndexString"], named := ["unicode/utf8.first", "unicode/utf8.acceptRanges", "internal/bytealg.MaxLen"], apart := false, laid := [("unicode/utf8.acceptRanges", laid_unicode_utf8_acceptRanges), ("unicode/utf8.first", laid_unicode_utf8_first)] }
def NatFormSaid : Prop := natFormRow.holds Tryd.pinned (OpenSpec.ofChange natFormSpec)

/-- ITS FALSE NEIGHBOUR: 'it returns false'. Refute it at one input. -/
def natFormWrong : ChangeSpec := { name := "natForm", fn := fun _ => fun
  | [d1, d2, d3] => { results := [.lit (.bool false)], args := [d1, d2, d3] }
  | _ => none }
def NatFormWrongFalsely : Prop := natFormRow.holds Tryd.pinned (OpenSpec.ofChange natFormWrong)

/- THE SECOND FORM. 'bulk': how many values and letters a reading holds, each counted each time it is reached (what is shared counts as often as it is met; a slice's spare places count too). A statement '..UptoSaid' is the law's where the arguments, and the package variables that the reading takes, are together of bulk at most 1048576: NARROWER than '..Said'. Prove '..Said' where nothing that the law and all that it calls make is longer than what came in: it says more and counts as full. Else prove '..UptoSaid'. A law counts once. -/
mutual
def uptoBulk {H : Type} : DataW H → Nat
  | .lit (.string bytes) => bytes.length + 1
  | .lit _ => 1
  | .nil => 1
  | .ptr d => uptoBulk d + 1
  | .slice elems spare => uptoBulkAll elems + uptoBulkAll spare + 1
  | .agg parts => uptoBulkAll parts + 1
  | .iface _ d => uptoBulk d + 1
  | .map entries => uptoBulkEntries entries + 1
  | .held _ => 1
def uptoBulkAll {H : Type} : List (DataW H) → Nat
  | [] => 0
  | d :: r => uptoBulk d + uptoBulkAll r
def uptoBulkEntries {H : Type} : List (Lit × DataW H) → Nat
  | [] => 0
  | x :: r => uptoBulkEntry x + uptoBulkEntries r
def uptoBulkEntry {H : Type} : Lit × DataW H → Nat
  | (.string bytes, d) => bytes.length + uptoBulk d + 1
  | (_, d) => uptoBulk d + 1
 end
def uptoSmall : (H : Type) → List (DataW H) → Bool := fun _ ds => decide (uptoBulkAll ds ≤ 1048576)
def OpenSpec.upto (s : _root_.Go.ChangeSpec) : _root_.Go.OpenSpec := { _root_.Go.OpenSpec.ofChange s with cond := some uptoSmall }

/-- 'electionlaw01.NatWord', WHERE WHAT IT READS IS OF BULK AT MOST 1048576: true; the input reads as it did. -/
def natWordUptoRow : OpenClaim := { program := "yteobjelenfjifaadoor", sum := "380669b1b57addc84d96601635ac6e57c7c8d8b85d7c769fa9b41ca6a4e882d1", func := "election/electionlaw01.NatWord", spec := "natWord", inPlace := ["internal/bytealg.IndexByteString", "internal/bytealg.IndexString"], named := ["unicode/utf8.first", "unicode/utf8.acceptRanges", "internal/bytealg.MaxLen"], apart := false, laid := [("unicode/utf8.acceptRanges", laid_unicode_utf8_acceptRanges), ("unicode/utf8.first", laid_unicode_utf8_first)], narrowed := true }
def NatWordUptoSaid : Prop := natWordUptoRow.holds Tryd.pinned (OpenSpec.upto natWordSpec)

/-- 'electionlaw01.NatSum', WHERE WHAT IT READS IS OF BULK AT MOST 1048576: true; the input reads as it did. -/
def natSumUptoRow : OpenClaim := { program := "yteobjelenfjifaadoor", sum := "380669b1b57addc84d96601635ac6e57c7c8d8b85d7c769fa9b41ca6a4e882d1", func := "election/electionlaw01.NatSum", spec := "natSum", inPlace := ["internal/bytealg.IndexByteString", "internal/bytealg.IndexString"], named := ["unicode/utf8.first", "unicode/utf8.acceptRanges", "internal/bytealg.MaxLen"], apart := false, laid := [("unicode/utf8.acceptRanges", laid_unicode_utf8_acceptRanges), ("unicode/utf8.first", laid_unicode_utf8_first)], narrowed := true }
def NatSumUptoSaid : Prop := natSumUptoRow.holds Tryd.pinned (OpenSpec.upto natSumSpec)

/-- 'electionlaw01.NatProduct', WHERE WHAT IT READS IS OF BULK AT MOST 1048576: true; the input reads as it did. -/
def natProductUptoRow : OpenClaim := { program := "yteobjelenfjifaadoor", sum := "380669b1b57addc84d96601635ac6e57c7c8d8b85d7c769fa9b41ca6a4e882d1", func := "election/electionlaw01.NatProduct", spec := "natProduct", inPlace := ["internal/bytealg.IndexByteString", "internal/bytealg.IndexString"], named := ["unicode/utf8.first", "unicode/utf8.acceptRanges", "internal/bytealg.MaxLen"], apart := false, laid := [("unicode/utf8.acceptRanges", laid_unicode_utf8_acceptRanges), ("unicode/utf8.first", laid_unicode_utf8_first)], narrowed := true }
def NatProductUptoSaid : Prop := natProductUptoRow.holds Tryd.pinned (OpenSpec.upto natProductSpec)

/-- 'electionlaw01.NatPower', WHERE WHAT IT READS IS OF BULK AT MOST 1048576: true; the input reads as it did. -/
def natPowerUptoRow : OpenClaim := { program := "yteobjelenfjifaadoor", sum := "380669b1b57addc84d96601635ac6e57c7c8d8b85d7c769fa9b41ca6a4e882d1", func := "election/electionlaw01.NatPower", spec := "natPower", inPlace := ["internal/bytealg.IndexByteString", "internal/bytealg.IndexString"], named := ["unicode/utf8.first", "unicode/utf8.acceptRanges", "internal/bytealg.MaxLen"], apart := false, laid := [("unicode/utf8.acceptRanges", laid_unicode_utf8_acceptRanges), ("unicode/utf8.first", laid_unicode_utf8_first)], narrowed := true }
def NatPowerUptoSaid : Prop := natPowerUptoRow.holds Tryd.pinned (OpenSpec.upto natPowerSpec)

/-- 'electionlaw01.NatRing', WHERE WHAT IT READS IS OF BULK AT MOST 1048576: true; the input reads as it did. -/
def natRingUptoRow : OpenClaim := { program := "yteobjelenfjifaadoor", sum := "380669b1b57addc84d96601635ac6e57c7c8d8b85d7c769fa9b41ca6a4e882d1", func := "election/electionlaw01.NatRing", spec := "natRing", inPlace := ["internal/bytealg.IndexByteString", "internal/bytealg.IndexString"], named := ["unicode/utf8.first", "unicode/utf8.acceptRanges", "internal/bytealg.MaxLen"], apart := false, laid := [("unicode/utf8.acceptRanges", laid_unicode_utf8_acceptRanges), ("unicode/utf8.first", laid_unicode_utf8_first)], narrowed := true }
def NatRingUptoSaid : Prop := natRingUptoRow.holds Tryd.pinned (OpenSpec.upto natRingSpec)

/-- 'electionlaw01.NatDecimal', WHERE WHAT IT READS IS OF BULK AT MOST 1048576: true; the input reads as it did. -/
def natDecimalUptoRow : OpenClaim := { program := "yteobjelenfjifaadoor", sum := "380669b1b57addc84d96601635ac6e57c7c8d8b85d7c769fa9b41ca6a4e882d1", func := "election/electionlaw01.NatDecimal", spec := "natDecimal", inPlace := ["internal/bytealg.IndexByteString", "internal/bytealg.IndexString"], named := ["unicode/utf8.first", "unicode/utf8.acceptRanges", "internal/bytealg.MaxLen"], apart := false, laid := [("unicode/utf8.acceptRanges", laid_unicode_utf8_acceptRanges), ("unicode/utf8.first", laid_unicode_utf8_first)], narrowed := true }
def NatDecimalUptoSaid : Prop := natDecimalUptoRow.holds Tryd.pinned (OpenSpec.upto natDecimalSpec)

/-- 'electionlaw01.NatParse', WHERE WHAT IT READS IS OF BULK AT MOST 1048576: true; the input reads as it did. -/
def natParseUptoRow : OpenClaim := { program := "yteobjelenfjifaadoor", sum := "380669b1b57addc84d96601635ac6e57c7c8d8b85d7c769fa9b41ca6a4e882d1", func := "election/electionlaw01.NatParse", spec := "natParse", inPlace := ["internal/bytealg.IndexByteString", "internal/bytealg.IndexString"], named := ["unicode/utf8.first", "unicode/utf8.acceptRanges", "internal/bytealg.MaxLen"], apart := false, laid := [("unicode/utf8.acceptRanges", laid_unicode_utf8_acceptRanges), ("unicode/utf8.first", laid_unicode_utf8_first)], narrowed := true }
def NatParseUptoSaid : Prop := natParseUptoRow.holds Tryd.pinned (OpenSpec.upto natParseSpec)

/-- 'electionlaw01.NatQuotient', WHERE WHAT IT READS IS OF BULK AT MOST 1048576: true; the input reads as it did. -/
def natQuotientUptoRow : OpenClaim := { program := "yteobjelenfjifaadoor", sum := "380669b1b57addc84d96601635ac6e57c7c8d8b85d7c769fa9b41ca6a4e882d1", func := "election/electionlaw01.NatQuotient", spec := "natQuotient", inPlace := ["internal/bytealg.IndexByteString", "internal/bytealg.IndexString"], named := ["unicode/utf8.first", "unicode/utf8.acceptRanges", "internal/bytealg.MaxLen"], apart := false, laid := [("unicode/utf8.acceptRanges", laid_unicode_utf8_acceptRanges), ("unicode/utf8.first", laid_unicode_utf8_first)], narrowed := true }
def NatQuotientUptoSaid : Prop := natQuotientUptoRow.holds Tryd.pinned (OpenSpec.upto natQuotientSpec)

/-- 'electionlaw01.NatCommon', WHERE WHAT IT READS IS OF BULK AT MOST 1048576: true; the input reads as it did. -/
def natCommonUptoRow : OpenClaim := { program := "yteobjelenfjifaadoor", sum := "380669b1b57addc84d96601635ac6e57c7c8d8b85d7c769fa9b41ca6a4e882d1", func := "election/electionlaw01.NatCommon", spec := "natCommon", inPlace := ["internal/bytealg.IndexByteString", "internal/bytealg.IndexString"], named := ["unicode/utf8.first", "unicode/utf8.acceptRanges", "internal/bytealg.MaxLen"], apart := false, laid := [("unicode/utf8.acceptRanges", laid_unicode_utf8_acceptRanges), ("unicode/utf8.first", laid_unicode_utf8_first)], narrowed := true }
def NatCommonUptoSaid : Prop := natCommonUptoRow.holds Tryd.pinned (OpenSpec.upto natCommonSpec)

/-- 'electionlaw01.NatInverse', WHERE WHAT IT READS IS OF BULK AT MOST 1048576: true; the input reads as it did. -/
def natInverseUptoRow : OpenClaim := { program := "yteobjelenfjifaadoor", sum := "380669b1b57addc84d96601635ac6e57c7c8d8b85d7c769fa9b41ca6a4e882d1", func := "election/electionlaw01.NatInverse", spec := "natInverse", inPlace := ["internal/bytealg.IndexByteString", "internal/bytealg.IndexString"], named := ["unicode/utf8.first", "unicode/utf8.acceptRanges", "internal/bytealg.MaxLen"], apart := false, laid := [("unicode/utf8.acceptRanges", laid_unicode_utf8_acceptRanges), ("unicode/utf8.first", laid_unicode_utf8_first)], narrowed := true }
def NatInverseUptoSaid : Prop := natInverseUptoRow.holds Tryd.pinned (OpenSpec.upto natInverseSpec)

/-- 'electionlaw01.NatForm', WHERE WHAT IT READS IS OF BULK AT MOST 1048576: true; the input reads as it did. -/
def natFormUptoRow : OpenClaim := { program := "yteobjelenfjifaadoor", sum := "380669b1b57addc84d96601635ac6e57c7c8d8b85d7c769fa9b41ca6a4e882d1", func := "election/electionlaw01.NatForm", spec := "natForm", inPlace := ["internal/bytealg.IndexByteString", "internal/bytealg.IndexString"], named := ["unicode/utf8.first", "unicode/utf8.acceptRanges", "internal/bytealg.MaxLen"], apart := false, laid := [("unicode/utf8.acceptRanges", laid_unicode_utf8_acceptRanges), ("unicode/utf8.first", laid_unicode_utf8_first)], narrowed := true }
def NatFormUptoSaid : Prop := natFormUptoRow.holds Tryd.pinned (OpenSpec.upto natFormSpec)

end Rows
end Go.Proofs.YteobjelenfjifaaDoor
