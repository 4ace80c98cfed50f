/-
  NARROWER THAN 'FOR EVERY INPUT', by the rows' own cells (each row's printed sentence says how): FixedProduct: laid · FixedQuotient: laid · FixedWord: laid · FixedRatio: laid · FixedText: laid · FixedParse: laid · FixedDigits: laid.
  DERIVED. THE GIVEN ROWS OF THIS SEAT. 7 by the template 'for every input the law returns true; each argument reads behind the call as it read before'; 0 by the template 'total and deterministic' (their statements: YtaommeapngbgeaaDoorTotals.lean).
  GIVEN WITH THE SEED: the statements are not yours to turn. If you find one false, say at which input.
  Laid BY PROGRAM, IN A SANDBOX (cutbox-rows.mjs): the forced cells as the released guide's own fill.sh prints them over the translation 386724b16b583c78… (all of the seat's roots in one cut). By AI agents, Wed Nov 11 2026. No macro, syntax, notation, axiom, sorry.
-/
import Derived.Test.YtaommeapngbgeaaDoorChecked
import GoSem.PinnedTables
import GoSem.Claim
import GoSem.ClaimJoined
import GoSem.ClaimMapViews
import Derived.JoinedTies
import Derived.KernelRfl
namespace Go.Proofs.YtaommeapngbgeaaDoor
/- THE CELL 'sum', in the pinned program and in every row, IS THE sha256 OF THE DUMP (.gsa) THAT YtaommeapngbgeaaDoorProg.lean LOADS. Nothing in Lean hashes anything: it is a label: what it is worth is what the hold of that sum in a sandbox is worth. -/
noncomputable def Tryd.pinned : Pinned := { name := "ytaommeapngbgeaadoor", sum := "386724b16b583c78806803c009abe3461be97b41cc99fe1b5792cbd47b68c953", checked := Tryd.checked }
namespace Rows
def none {H : Type} : Left H := { results := [], args := [] }

/- WHAT THE LISTED PACKAGE-LEVEL VARIABLES READ AS WHEN THE CALL BEGINS. Each datum BY PROGRAM (the guide's laid-datum.mjs) off the statement by which the dump's own 'gosem.cut.vars' lays the variable. In a bare row this is a premise. The card (YtaommeapngbgeaaDoorCards.lean) ties it to the program's text. -/
def laid_unicode_utf8_acceptRanges {H : Type} : DataW H := .agg [.agg [.lit (.int .u8 128), .lit (.int .u8 191)], .agg [.lit (.int .u8 160), .lit (.int .u8 191)], .agg [.lit (.int .u8 128), .lit (.int .u8 159)], .agg [.lit (.int .u8 144), .lit (.int .u8 191)], .agg [.lit (.int .u8 128), .lit (.int .u8 143)], .agg [.lit (.int .u8 0), .lit (.int .u8 0)], .agg [.lit (.int .u8 0), .lit (.int .u8 0)], .agg [.lit (.int .u8 0), .lit (.int .u8 0)], .agg [.lit (.int .u8 0), .lit (.int .u8 0)], .agg [.lit (.int .u8 0), .lit (.int .u8 0)], .agg [.lit (.int .u8 0), .lit (.int .u8 0)], .agg [.lit (.int .u8 0), .lit (.int .u8 0)], .agg [.lit (.int .u8 0), .lit (.int .u8 0)], .agg [.lit (.int .u8 0), .lit (.int .u8 0)], .agg [.lit (.int .u8 0), .lit (.int .u8 0)], .agg [.lit (.int .u8 0), .lit (.int .u8 0)]]
/-- One of Go's own tables, pinned by name: the form's constant. -/
def laid_unicode_utf8_first : DataW Unit := Go.Pinned.utf8First

/-- 'electionlaw03.FixedProduct': WHATEVER THE INPUT: true; the input reads as it did. -/
def fixedProductSpec : ChangeSpec := { name := "fixedProduct", fn := fun _ => fun
  | [d1, d2, d3] => { results := [.lit (.bool true)], args := [d1, d2, d3] }
  | _ => none }
def fixedProductRow : OpenClaim := { program := "ytaommeapngbgeaadoor", sum := "386724b16b583c78806803c009abe3461be97b41cc99fe1b5792cbd47b68c953", func := "election/electionlaw03.FixedProduct", spec := "fixedProduct", inPlace := ["internal/bytealg.IndexByteString", "internal/bytealg.IndexString", "internal/abi.NoEscape", "internal/bytealg.MakeNoZero"], named := ["unicode/utf8.first", "unicode/utf8.acceptRanges", "internal/bytealg.MaxLen"], apart := false, laid := [("unicode/utf8.acceptRanges", laid_unicode_utf8_acceptRanges), ("unicode/utf8.first", laid_unicode_utf8_first)] }
def FixedProductSaid : Prop := fixedProductRow.holds Tryd.pinned (OpenSpec.ofChange fixedProductSpec)

/-- ITS FALSE NEIGHBOUR: 'it returns false'. Refute it at one input. -/
def fixedProductWrong : ChangeSpec := { name := "fixedProduct", fn := fun _ => fun
  | [d1, d2, d3] => { results := [.lit (.bool false)], args := [d1, d2, d3] }
  | _ => none }
def FixedProductWrongFalsely : Prop := fixedProductRow.holds Tryd.pinned (OpenSpec.ofChange fixedProductWrong)

/-- 'electionlaw03.FixedQuotient': WHATEVER THE INPUT: true; the input reads as it did. -/
def fixedQuotientSpec : ChangeSpec := { name := "fixedQuotient", fn := fun _ => fun
  | [d1, d2, d3] => { results := [.lit (.bool true)], args := [d1, d2, d3] }
  | _ => none }
def fixedQuotientRow : OpenClaim := { program := "ytaommeapngbgeaadoor", sum := "386724b16b583c78806803c009abe3461be97b41cc99fe1b5792cbd47b68c953", func := "election/electionlaw03.FixedQuotient", spec := "fixedQuotient", inPlace := ["internal/bytealg.IndexByteString", "internal/bytealg.IndexString", "internal/abi.NoEscape", "internal/bytealg.MakeNoZero"], named := ["unicode/utf8.first", "unicode/utf8.acceptRanges", "internal/bytealg.MaxLen"], apart := false, laid := [("unicode/utf8.acceptRanges", laid_unicode_utf8_acceptRanges), ("unicode/utf8.first", laid_unicode_utf8_first)] }
def FixedQuotientSaid : Prop := fixedQuotientRow.holds Tryd.pinned (OpenSpec.ofChange fixedQuotientSpec)

/-- ITS FALSE NEIGHBOUR: 'it returns false'. Refute it at one input. -/
def fixedQuotientWrong : ChangeSpec := { name := "fixedQuotient", fn := fun _ => fun
  | [d1, d2, d3] => { results := [.lit (.bool false)], args := [d1, d2, d3] }
  | _ => none }
def FixedQuotientWrongFalsely : Prop := fixedQuotientRow.holds Tryd.pinned (OpenSpec.ofChange fixedQuotientWrong)

/-- 'electionlaw03.FixedWord': WHATEVER THE INPUT: true; the input reads as it did. -/
def fixedWordSpec : ChangeSpec := { name := "fixedWord", fn := fun _ => fun
  | [d1, d2] => { results := [.lit (.bool true)], args := [d1, d2] }
  | _ => none }
def fixedWordRow : OpenClaim := { program := "ytaommeapngbgeaadoor", sum := "386724b16b583c78806803c009abe3461be97b41cc99fe1b5792cbd47b68c953", func := "election/electionlaw03.FixedWord", spec := "fixedWord", inPlace := ["internal/bytealg.IndexByteString", "internal/bytealg.IndexString", "internal/abi.NoEscape", "internal/bytealg.MakeNoZero"], named := ["unicode/utf8.first", "unicode/utf8.acceptRanges", "internal/bytealg.MaxLen"], apart := false, laid := [("unicode/utf8.acceptRanges", laid_unicode_utf8_acceptRanges), ("unicode/utf8.first", laid_unicode_utf8_first)] }
def FixedWordSaid : Prop := fixedWordRow.holds Tryd.pinned (OpenSpec.ofChange fixedWordSpec)

/-- ITS FALSE NEIGHBOUR: 'it returns false'. Refute it at one input. -/
def fixedWordWrong : ChangeSpec := { name := "fixedWord", fn := fun _ => fun
  | [d1, d2] => { results := [.lit (.bool false)], args := [d1, d2] }
  | _ => none }
def FixedWordWrongFalsely : Prop := fixedWordRow.holds Tryd.pinned (OpenSpec.ofChange fixedWordWrong)

/-- 'electionlaw03.FixedRatio': WHATEVER THE INPUT: true; the input reads as it did. -/
def fixedRatioSpec : ChangeSpec := { name := "fixedRatio", fn := fun _ => fun
  | [d1, d2, d3] => { results := [.lit (.bool true)], args := [d1, d2, d3] }
  | _ => none }
def fixedRatioRow : OpenClaim := { program := "ytaommeapngbgeaadoor", sum := "386724b16b583c78806803c009abe3461be97b41cc99fe1b5792cbd47b68c953", func := "election/electionlaw03.FixedRatio", spec := "fixedRatio", inPlace := ["internal/bytealg.IndexByteString", "internal/bytealg.IndexString", "internal/abi.NoEscape", "internal/bytealg.MakeNoZero"], named := ["unicode/utf8.first", "unicode/utf8.acceptRanges", "internal/bytealg.MaxLen"], apart := false, laid := [("unicode/utf8.acceptRanges", laid_unicode_utf8_acceptRanges), ("unicode/utf8.first", laid_unicode_utf8_first)] }
def FixedRatioSaid : Prop := fixedRatioRow.holds Tryd.pinned (OpenSpec.ofChange fixedRatioSpec)

/-- ITS FALSE NEIGHBOUR: 'it returns false'. Refute it at one input. -/
def fixedRatioWrong : ChangeSpec := { name := "fixedRatio", fn := fun _ => fun
  | [d1, d2, d3] => { results := [.lit (.bool false)], args := [d1, d2, d3] }
  | _ => none }
def FixedRatioWrongFalsely : Prop := fixedRatioRow.holds Tryd.pinned (OpenSpec.ofChange fixedRatioWrong)

/-- 'electionlaw03.FixedText': WHATEVER THE INPUT: true; the input reads as it did. -/
def fixedTextSpec : ChangeSpec := { name := "fixedText", fn := fun _ => fun
  | [d1, d2] => { results := [.lit (.bool true)], args := [d1, d2] }
  | _ => none }
def fixedTextRow : OpenClaim := { program := "ytaommeapngbgeaadoor", sum := "386724b16b583c78806803c009abe3461be97b41cc99fe1b5792cbd47b68c953", func := "election/electionlaw03.FixedText", spec := "fixedText", inPlace := ["internal/bytealg.IndexByteString", "internal/bytealg.IndexString", "internal/abi.NoEscape", "internal/bytealg.MakeNoZero"], named := ["unicode/utf8.first", "unicode/utf8.acceptRanges", "internal/bytealg.MaxLen"], apart := false, laid := [("unicode/utf8.acceptRanges", laid_unicode_utf8_acceptRanges), ("unicode/utf8.first", laid_unicode_utf8_first)] }
def FixedTextSaid : Prop := fixedTextRow.holds Tryd.pinned (OpenSpec.ofChange fixedTextSpec)

/-- ITS FALSE NEIGHBOUR: 'it returns false'. Refute it at one input. -/
def fixedTextWrong : ChangeSpec := { name := "fixedText", fn := fun _ => fun
  | [d1, d2] => { results := [.lit (.bool false)], args := [d1, d2] }
  | _ => none }
def FixedTextWrongFalsely : Prop := fixedTextRow.holds Tryd.pinned (OpenSpec.ofChange fixedTextWrong)

/-- 'electionlaw03.FixedParse': WHATEVER THE INPUT: true; the input reads as it did. -/
def fixedParseSpec : ChangeSpec := { name := "fixedParse", fn := fun _ => fun
  | [d1, d2] => { results := [.lit (.bool true)], args := [d1, d2] }
  | _ => none }
def fixedParseRow : OpenClaim := { program := "ytaommeapngbgeaadoor", sum := "386724b16b583c78806803c009abe3461be97b41cc99fe1b5792cbd47b68c953", func := "election/electionlaw03.FixedParse", spec := "fixedParse", inPlace := ["internal/bytealg.IndexByteString", "internal/bytealg.IndexString", "internal/abi.NoEscape", "internal/bytealg.MakeNoZero"], named := ["internal/bytealg.MaxLen", "unicode/utf8.first", "unicode/utf8.acceptRanges"], apart := false, laid := [("unicode/utf8.acceptRanges", laid_unicode_utf8_acceptRanges), ("unicode/utf8.first", laid_unicode_utf8_first)] }
def FixedParseSaid : Prop := fixedParseRow.holds Tryd.pinned (OpenSpec.ofChange fixedParseSpec)

/-- ITS FALSE NEIGHBOUR: 'it returns false'. Refute it at one input. -/
def fixedParseWrong : ChangeSpec := { name := "fixedParse", fn := fun _ => fun
  | [d1, d2] => { results := [.lit (.bool false)], args := [d1, d2] }
  | _ => none }
def FixedParseWrongFalsely : Prop := fixedParseRow.holds Tryd.pinned (OpenSpec.ofChange fixedParseWrong)

/-- 'electionlaw03.FixedDigits': WHATEVER THE INPUT: true; the input reads as it did. -/
def fixedDigitsSpec : ChangeSpec := { name := "fixedDigits", fn := fun _ => fun
  | [d] => { results := [.lit (.bool true)], args := [d] }
  | _ => none }
def fixedDigitsRow : OpenClaim := { program := "ytaommeapngbgeaadoor", sum := "386724b16b583c78806803c009abe3461be97b41cc99fe1b5792cbd47b68c953", func := "election/electionlaw03.FixedDigits", spec := "fixedDigits", inPlace := ["internal/bytealg.IndexByteString", "internal/bytealg.IndexString", "internal/abi.NoEscape", "internal/bytealg.MakeNoZero"], named := ["unicode/utf8.first", "unicode/utf8.acceptRanges", "internal/bytealg.MaxLen"], apart := false, laid := [("unicode/utf8.acceptRanges", laid_unicode_utf8_acceptRanges), ("unicode/utf8.first", laid_unicode_utf8_first)] }
def FixedDigitsSaid : Prop := fixedDigitsRow.holds Tryd.pinned (OpenSpec.ofChange fixedDigitsSpec)

/-- ITS FALSE NEIGHBOUR: 'it returns false'. Refute it at one input. -/
def fixedDigitsWrong : ChangeSpec := { name := "fixedDigits", fn := fun _ => fun
  | [d] => { results := [.lit (.bool false)], args := [d] }
  | _ => none }
def FixedDigitsWrongFalsely : Prop := fixedDigitsRow.holds Tryd.pinned (OpenSpec.ofChange fixedDigitsWrong)

/- THE SECOND FORM. 'bulk': how many values and letters a reading holds, each counted each time it is reached (what is shared counts as often as it is met; a slice's spare places count too). A statement '..UptoSaid' is the law's where the arguments, and the package variables that the reading takes, are together of bulk at most 1048576: NARROWER than '..Said'. Prove '..Said' where nothing that the law and all that it calls make is longer than what came in: it says more and counts as full. Else prove '..UptoSaid'. A law counts once. -/
mutual
def uptoBulk {H : Type} : DataW H → Nat
  | .lit (.string bytes) => bytes.length + 1
  | .lit _ => 1
  | .nil => 1
  | .ptr d => uptoBulk d + 1
  | .slice elems spare => uptoBulkAll elems + uptoBulkAll spare + 1
  | .agg parts => uptoBulkAll parts + 1
  | .iface _ d => uptoBulk d + 1
  | .map entries => uptoBulkEntries entries + 1
  | .held _ => 1
def uptoBulkAll {H : Type} : List (DataW H) → Nat
  | [] => 0
  | d :: r => uptoBulk d + uptoBulkAll r
def uptoBulkEntries {H : Type} : List (Lit × DataW H) → Nat
  | [] => 0
  | x :: r => uptoBulkEntry x + uptoBulkEntries r
def uptoBulkEntry {H : Type} : Lit × DataW H → Nat
  | (.string bytes, d) => bytes.length + uptoBulk d + 1
  | (_, d) => uptoBulk d + 1
 end
def uptoSmall : (H : Type) → List (DataW H) → Bool := fun _ ds => decide (uptoBulkAll ds ≤ 1048576)
def OpenSpec.upto (s : _root_.Go.ChangeSpec) : _root_.Go.OpenSpec := { _root_.Go.OpenSpec.ofChange s with cond := some uptoSmall }

/-- 'electionlaw03.FixedProduct', WHERE WHAT IT READS IS OF BULK AT MOST 1048576: true; the input reads as it did. -/
def fixedProductUptoRow : OpenClaim := { program := "ytaommeapngbgeaadoor", sum := "386724b16b583c78806803c009abe3461be97b41cc99fe1b5792cbd47b68c953", func := "election/electionlaw03.FixedProduct", spec := "fixedProduct", inPlace := ["internal/bytealg.IndexByteString", "internal/bytealg.IndexString", "internal/abi.NoEscape", "internal/bytealg.MakeNoZero"], named := ["unicode/utf8.first", "unicode/utf8.acceptRanges", "internal/bytealg.MaxLen"], apart := false, laid := [("unicode/utf8.acceptRanges", laid_unicode_utf8_acceptRanges), ("unicode/utf8.first", laid_unicode_utf8_first)], narrowed := true }
def FixedProductUptoSaid : Prop := fixedProductUptoRow.holds Tryd.pinned (OpenSpec.upto fixedProductSpec)

/-- 'electionlaw03.FixedQuotient', WHERE WHAT IT READS IS OF BULK AT MOST 1048576: true; the input reads as it did. -/
def fixedQuotientUptoRow : OpenClaim := { program := "ytaommeapngbgeaadoor", sum := "386724b16b583c78806803c009abe3461be97b41cc99fe1b5792cbd47b68c953", func := "election/electionlaw03.FixedQuotient", spec := "fixedQuotient", inPlace := ["internal/bytealg.IndexByteString", "internal/bytealg.IndexString", "internal/abi.NoEscape", "internal/bytealg.MakeNoZero"], named := ["unicode/utf8.first", "unicode/utf8.acceptRanges", "internal/bytealg.MaxLen"], apart := false, laid := [("unicode/utf8.acceptRanges", laid_unicode_utf8_acceptRanges), ("unicode/utf8.first", laid_unicode_utf8_first)], narrowed := true }
def FixedQuotientUptoSaid : Prop := fixedQuotientUptoRow.holds Tryd.pinned (OpenSpec.upto fixedQuotientSpec)

/-- 'electionlaw03.FixedWord', WHERE WHAT IT READS IS OF BULK AT MOST 1048576: true; the input reads as it did. -/
def fixedWordUptoRow : OpenClaim := { program := "ytaommeapngbgeaadoor", sum := "386724b16b583c78806803c009abe3461be97b41cc99fe1b5792cbd47b68c953", func := "election/electionlaw03.FixedWord", spec := "fixedWord", inPlace := ["internal/bytealg.IndexByteString", "internal/bytealg.IndexString", "internal/abi.NoEscape", "internal/bytealg.MakeNoZero"], named := ["unicode/utf8.first", "unicode/utf8.acceptRanges", "internal/bytealg.MaxLen"], apart := false, laid := [("unicode/utf8.acceptRanges", laid_unicode_utf8_acceptRanges), ("unicode/utf8.first", laid_unicode_utf8_first)], narrowed := true }
def FixedWordUptoSaid : Prop := fixedWordUptoRow.holds Tryd.pinned (OpenSpec.upto fixedWordSpec)

/-- 'electionlaw03.FixedRatio', WHERE WHAT IT READS IS OF BULK AT MOST 1048576: true; the input reads as it did. -/
def fixedRatioUptoRow : OpenClaim := { program := "ytaommeapngbgeaadoor", sum := "386724b16b583c78806803c009abe3461be97b41cc99fe1b5792cbd47b68c953", func := "election/electionlaw03.FixedRatio", spec := "fixedRatio", inPlace := ["internal/bytealg.IndexByteString", "internal/bytealg.IndexString", "internal/abi.NoEscape", "internal/bytealg.MakeNoZero"], named := ["unicode/utf8.first", "unicode/utf8.acceptRanges", "internal/bytealg.MaxLen"], apart := false, laid := [("unicode/utf8.acceptRanges", laid_unicode_utf8_acceptRanges), ("unicode/utf8.first", laid_unicode_utf8_first)], narrowed := true }
def FixedRatioUptoSaid : Prop := fixedRatioUptoRow.holds Tryd.pinned (OpenSpec.upto fixedRatioSpec)

/-- 'electionlaw03.FixedText', WHERE WHAT IT READS IS OF BULK AT MOST 1048576: true; the input reads as it did. -/
def fixedTextUptoRow : OpenClaim := { program := "ytaommeapngbgeaadoor", sum := "386724b16b583c78806803c009abe3461be97b41cc99fe1b5792cbd47b68c953", func := "election/electionlaw03.FixedText", spec := "fixedText", inPlace := ["internal/bytealg.IndexByteString", "internal/bytealg.IndexString", "internal/abi.NoEscape", "internal/bytealg.MakeNoZero"], named := ["unicode/utf8.first", "unicode/utf8.acceptRanges", "internal/bytealg.MaxLen"], apart := false, laid := [("unicode/utf8.acceptRanges", laid_unicode_utf8_acceptRanges), ("unicode/utf8.first", laid_unicode_utf8_first)], narrowed := true }
def FixedTextUptoSaid : Prop := fixedTextUptoRow.holds Tryd.pinned (OpenSpec.upto fixedTextSpec)

/-- 'electionlaw03.FixedParse', WHERE WHAT IT READS IS OF BULK AT MOST 1048576: true; the input reads as it did. -/
def fixedParseUptoRow : OpenClaim := { program := "ytaommeapngbgeaadoor", sum := "386724b16b583c78806803c009abe3461be97b41cc99fe1b5792cbd47b68c953", func := "election/electionlaw03.FixedParse", spec := "fixedParse", inPlace := ["internal/bytealg.IndexByteString", "internal/bytealg.IndexString", "internal/abi.NoEscape", "internal/bytealg.MakeNoZero"], named := ["internal/bytealg.MaxLen", "unicode/utf8.first", "unicode/utf8.acceptRanges"], apart := false, laid := [("unicode/utf8.acceptRanges", laid_unicode_utf8_acceptRanges), ("unicode/utf8.first", laid_unicode_utf8_first)], narrowed := true }
def FixedParseUptoSaid : Prop := fixedParseUptoRow.holds Tryd.pinned (OpenSpec.upto fixedParseSpec)

/-- 'electionlaw03.FixedDigits', WHERE WHAT IT READS IS OF BULK AT MOST 1048576: true; the input reads as it did. -/
def fixedDigitsUptoRow : OpenClaim := { program := "ytaommeapngbgeaadoor", sum := "386724b16b583c78806803c009abe3461be97b41cc99fe1b5792cbd47b68c953", func := "election/electionlaw03.FixedDigits", spec := "fixedDigits", inPlace := ["internal/bytealg.IndexByteString", "internal/bytealg.IndexString", "internal/abi.NoEscape", "internal/bytealg.MakeNoZero"], named := ["unicode/utf8.first", "unicode/utf8.acceptRanges", "internal/bytealg.MaxLen"], apart := false, laid := [("unicode/utf8.acceptRanges", laid_unicode_utf8_acceptRanges), ("unicode/utf8.first", laid_unicode_utf8_first)], narrowed := true }
def FixedDigitsUptoSaid : Prop := fixedDigitsUptoRow.holds Tryd.pinned (OpenSpec.upto fixedDigitsSpec)

end Rows
end Go.Proofs.YtaommeapngbgeaaDoor
