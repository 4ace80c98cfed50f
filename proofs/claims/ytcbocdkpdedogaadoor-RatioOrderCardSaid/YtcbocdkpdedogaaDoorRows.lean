/-
  NARROWER THAN 'FOR EVERY INPUT', by the rows' own cells (each row's printed sentence says how): RatioSum: laid · RatioText: laid · RatioParse: laid · RatioInts: laid · RatioFloor: laid · RatioProduct: laid · RatioField: laid · RatioOrder: laid · RatioForm: laid.
  DERIVED. THE GIVEN ROWS OF THIS SEAT. 9 by the template 'for every input the law returns true; each argument reads behind the call as it read before'; 0 by the template 'total and deterministic' (their statements: YtcbocdkpdedogaaDoorTotals.lean).
  GIVEN WITH THE SEED: the statements are not yours to turn. If you find one false, say at which input.
  Laid BY PROGRAM, IN A SANDBOX (cutbox-rows.mjs): the forced cells as the released guide's own fill.sh prints them over the translation 0f48951fe9817a04… (all of the seat's roots in one cut). By AI agents, Wed Nov 11 2026. No macro, syntax, notation, axiom, sorry.
-/
import Derived.Test.YtcbocdkpdedogaaDoorChecked
import GoSem.PinnedTables
import GoSem.Claim
import GoSem.ClaimJoined
import GoSem.ClaimMapViews
import Derived.JoinedTies
import Derived.KernelRfl
namespace Go.Proofs.YtcbocdkpdedogaaDoor
/- THE CELL 'sum', in the pinned program and in every row, IS THE sha256 OF THE DUMP (.gsa) THAT YtcbocdkpdedogaaDoorProg.lean LOADS. Nothing in Lean hashes anything: it is a label: what it is worth is what the hold of that sum in a sandbox is worth. -/
noncomputable def Tryd.pinned : Pinned := { name := "ytcbocdkpdedogaadoor", sum := "0f48951fe9817a04de4bc345c29f0f3dbc3e30f12ab7e4bc0c6b02309b6e046a", checked := Tryd.checked }
namespace Rows
def none {H : Type} : Left H := { results := [], args := [] }

/- WHAT THE LISTED PACKAGE-LEVEL VARIABLES READ AS WHEN THE CALL BEGINS. Each datum BY PROGRAM (the guide's laid-datum.mjs) off the statement by which the dump's own 'gosem.cut.vars' lays the variable. In a bare row this is a premise. The card (YtcbocdkpdedogaaDoorCards.lean) ties it to the program's text. -/
def laid_unicode_utf8_acceptRanges {H : Type} : DataW H := .agg [.agg [.lit (.int .u8 128), .lit (.int .u8 191)], .agg [.lit (.int .u8 160), .lit (.int .u8 191)], .agg [.lit (.int .u8 128), .lit (.int .u8 159)], .agg [.lit (.int .u8 144), .lit (.int .u8 191)], .agg [.lit (.int .u8 128), .lit (.int .u8 143)], .agg [.lit (.int .u8 0), .lit (.int .u8 0)], .agg [.lit (.int .u8 0), .lit (.int .u8 0)], .agg [.lit (.int .u8 0), .lit (.int .u8 0)], .agg [.lit (.int .u8 0), .lit (.int .u8 0)], .agg [.lit (.int .u8 0), .lit (.int .u8 0)], .agg [.lit (.int .u8 0), .lit (.int .u8 0)], .agg [.lit (.int .u8 0), .lit (.int .u8 0)], .agg [.lit (.int .u8 0), .lit (.int .u8 0)], .agg [.lit (.int .u8 0), .lit (.int .u8 0)], .agg [.lit (.int .u8 0), .lit (.int .u8 0)], .agg [.lit (.int .u8 0), .lit (.int .u8 0)]]
/-- One of Go's own tables, pinned by name: the form's constant. -/
def laid_unicode_utf8_first : DataW Unit := Go.Pinned.utf8First

/-- 'electionlaw02.RatioSum': WHATEVER THE INPUT: true; the input reads as it did. -/
def ratioSumSpec : ChangeSpec := { name := "ratioSum", fn := fun _ => fun
  | [d1, d2] => { results := [.lit (.bool true)], args := [d1, d2] }
  | _ => none }
def ratioSumRow : OpenClaim := { program := "ytcbocdkpdedogaadoor", sum := "0f48951fe9817a04de4bc345c29f0f3dbc3e30f12ab7e4bc0c6b02309b6e046a", func := "election/electionlaw02.RatioSum", spec := "ratioSum", inPlace := ["internal/bytealg.IndexByteString", "internal/bytealg.IndexString"], named := ["internal/bytealg.MaxLen", "unicode/utf8.first", "unicode/utf8.acceptRanges"], apart := false, laid := [("unicode/utf8.acceptRanges", laid_unicode_utf8_acceptRanges), ("unicode/utf8.first", laid_unicode_utf8_first)] }
def RatioSumSaid : Prop := ratioSumRow.holds Tryd.pinned (OpenSpec.ofChange ratioSumSpec)

/-- ITS FALSE NEIGHBOUR: 'it returns false'. Refute it at one input. -/
def ratioSumWrong : ChangeSpec := { name := "ratioSum", fn := fun _ => fun
  | [d1, d2] => { results := [.lit (.bool false)], args := [d1, d2] }
  | _ => none }
def RatioSumWrongFalsely : Prop := ratioSumRow.holds Tryd.pinned (OpenSpec.ofChange ratioSumWrong)

/-- 'electionlaw02.RatioText': WHATEVER THE INPUT: true; the input reads as it did. -/
def ratioTextSpec : ChangeSpec := { name := "ratioText", fn := fun _ => fun
  | [d] => { results := [.lit (.bool true)], args := [d] }
  | _ => none }
def ratioTextRow : OpenClaim := { program := "ytcbocdkpdedogaadoor", sum := "0f48951fe9817a04de4bc345c29f0f3dbc3e30f12ab7e4bc0c6b02309b6e046a", func := "election/electionlaw02.RatioText", spec := "ratioText", inPlace := ["internal/bytealg.IndexByteString", "internal/bytealg.IndexString"], named := ["unicode/utf8.first", "unicode/utf8.acceptRanges", "internal/bytealg.MaxLen"], apart := false, laid := [("unicode/utf8.acceptRanges", laid_unicode_utf8_acceptRanges), ("unicode/utf8.first", laid_unicode_utf8_first)] }
def RatioTextSaid : Prop := ratioTextRow.holds Tryd.pinned (OpenSpec.ofChange ratioTextSpec)

/-- ITS FALSE NEIGHBOUR: 'it returns false'. Refute it at one input. -/
def ratioTextWrong : ChangeSpec := { name := "ratioText", fn := fun _ => fun
  | [d] => { results := [.lit (.bool false)], args := [d] }
  | _ => none }
def RatioTextWrongFalsely : Prop := ratioTextRow.holds Tryd.pinned (OpenSpec.ofChange ratioTextWrong)

/-- 'electionlaw02.RatioParse': WHATEVER THE INPUT: true; the input reads as it did. -/
def ratioParseSpec : ChangeSpec := { name := "ratioParse", fn := fun _ => fun
  | [d] => { results := [.lit (.bool true)], args := [d] }
  | _ => none }
def ratioParseRow : OpenClaim := { program := "ytcbocdkpdedogaadoor", sum := "0f48951fe9817a04de4bc345c29f0f3dbc3e30f12ab7e4bc0c6b02309b6e046a", func := "election/electionlaw02.RatioParse", spec := "ratioParse", inPlace := ["internal/bytealg.IndexByteString", "internal/bytealg.IndexString"], named := ["internal/bytealg.MaxLen", "unicode/utf8.first", "unicode/utf8.acceptRanges"], apart := false, laid := [("unicode/utf8.acceptRanges", laid_unicode_utf8_acceptRanges), ("unicode/utf8.first", laid_unicode_utf8_first)] }
def RatioParseSaid : Prop := ratioParseRow.holds Tryd.pinned (OpenSpec.ofChange ratioParseSpec)

/-- ITS FALSE NEIGHBOUR: 'it returns false'. Refute it at one input. -/
def ratioParseWrong : ChangeSpec := { name := "ratioParse", fn := fun _ => fun
  | [d] => { results := [.lit (.bool false)], args := [d] }
  | _ => none }
def RatioParseWrongFalsely : Prop := ratioParseRow.holds Tryd.pinned (OpenSpec.ofChange ratioParseWrong)

/-- 'electionlaw02.RatioInts': WHATEVER THE INPUT: true; the input reads as it did. -/
def ratioIntsSpec : ChangeSpec := { name := "ratioInts", fn := fun _ => fun
  | [d1, d2] => { results := [.lit (.bool true)], args := [d1, d2] }
  | _ => none }
def ratioIntsRow : OpenClaim := { program := "ytcbocdkpdedogaadoor", sum := "0f48951fe9817a04de4bc345c29f0f3dbc3e30f12ab7e4bc0c6b02309b6e046a", func := "election/electionlaw02.RatioInts", spec := "ratioInts", inPlace := ["internal/bytealg.IndexByteString", "internal/bytealg.IndexString"], named := ["internal/bytealg.MaxLen", "unicode/utf8.first", "unicode/utf8.acceptRanges"], apart := false, laid := [("unicode/utf8.acceptRanges", laid_unicode_utf8_acceptRanges), ("unicode/utf8.first", laid_unicode_utf8_first)] }
def RatioIntsSaid : Prop := ratioIntsRow.holds Tryd.pinned (OpenSpec.ofChange ratioIntsSpec)

/-- ITS FALSE NEIGHBOUR: 'it returns false'. Refute it at one input. -/
def ratioIntsWrong : ChangeSpec := { name := "ratioInts", fn := fun _ => fun
  | [d1, d2] => { results := [.lit (.bool false)], args := [d1, d2] }
  | _ => none }
def RatioIntsWrongFalsely : Prop := ratioIntsRow.holds Tryd.pinned (OpenSpec.ofChange ratioIntsWrong)

/-- 'electionlaw02.RatioFloor': WHATEVER THE INPUT: true; the input reads as it did. -/
def ratioFloorSpec : ChangeSpec := { name := "ratioFloor", fn := fun _ => fun
  | [d] => { results := [.lit (.bool true)], args := [d] }
  | _ => none }
def ratioFloorRow : OpenClaim := { program := "ytcbocdkpdedogaadoor", sum := "0f48951fe9817a04de4bc345c29f0f3dbc3e30f12ab7e4bc0c6b02309b6e046a", func := "election/electionlaw02.RatioFloor", spec := "ratioFloor", inPlace := ["internal/bytealg.IndexByteString", "internal/bytealg.IndexString"], named := ["internal/bytealg.MaxLen", "unicode/utf8.first", "unicode/utf8.acceptRanges"], apart := false, laid := [("unicode/utf8.acceptRanges", laid_unicode_utf8_acceptRanges), ("unicode/utf8.first", laid_unicode_utf8_first)] }
def RatioFloorSaid : Prop := ratioFloorRow.holds Tryd.pinned (OpenSpec.ofChange ratioFloorSpec)

/-- ITS FALSE NEIGHBOUR: 'it returns false'. Refute it at one input. -/
def ratioFloorWrong : ChangeSpec := { name := "ratioFloor", fn := fun _ => fun
  | [d] => { results := [.lit (.bool false)], args := [d] }
  | _ => none }
def RatioFloorWrongFalsely : Prop := ratioFloorRow.holds Tryd.pinned (OpenSpec.ofChange ratioFloorWrong)

/-- 'electionlaw02.RatioProduct': WHATEVER THE INPUT: true; the input reads as it did. -/
def ratioProductSpec : ChangeSpec := { name := "ratioProduct", fn := fun _ => fun
  | [d1, d2] => { results := [.lit (.bool true)], args := [d1, d2] }
  | _ => none }
def ratioProductRow : OpenClaim := { program := "ytcbocdkpdedogaadoor", sum := "0f48951fe9817a04de4bc345c29f0f3dbc3e30f12ab7e4bc0c6b02309b6e046a", func := "election/electionlaw02.RatioProduct", spec := "ratioProduct", inPlace := ["internal/bytealg.IndexByteString", "internal/bytealg.IndexString"], named := ["internal/bytealg.MaxLen", "unicode/utf8.first", "unicode/utf8.acceptRanges"], apart := false, laid := [("unicode/utf8.acceptRanges", laid_unicode_utf8_acceptRanges), ("unicode/utf8.first", laid_unicode_utf8_first)] }
def RatioProductSaid : Prop := ratioProductRow.holds Tryd.pinned (OpenSpec.ofChange ratioProductSpec)

/-- ITS FALSE NEIGHBOUR: 'it returns false'. Refute it at one input. -/
def ratioProductWrong : ChangeSpec := { name := "ratioProduct", fn := fun _ => fun
  | [d1, d2] => { results := [.lit (.bool false)], args := [d1, d2] }
  | _ => none }
def RatioProductWrongFalsely : Prop := ratioProductRow.holds Tryd.pinned (OpenSpec.ofChange ratioProductWrong)

/-- 'electionlaw02.RatioField': WHATEVER THE INPUT: true; the input reads as it did. -/
def ratioFieldSpec : ChangeSpec := { name := "ratioField", fn := fun _ => fun
  | [d1, d2, d3] => { results := [.lit (.bool true)], args := [d1, d2, d3] }
  | _ => none }
def ratioFieldRow : OpenClaim := { program := "ytcbocdkpdedogaadoor", sum := "0f48951fe9817a04de4bc345c29f0f3dbc3e30f12ab7e4bc0c6b02309b6e046a", func := "election/electionlaw02.RatioField", spec := "ratioField", inPlace := ["internal/bytealg.IndexByteString", "internal/bytealg.IndexString"], named := ["internal/bytealg.MaxLen", "unicode/utf8.first", "unicode/utf8.acceptRanges"], apart := false, laid := [("unicode/utf8.acceptRanges", laid_unicode_utf8_acceptRanges), ("unicode/utf8.first", laid_unicode_utf8_first)] }
def RatioFieldSaid : Prop := ratioFieldRow.holds Tryd.pinned (OpenSpec.ofChange ratioFieldSpec)

/-- ITS FALSE NEIGHBOUR: 'it returns false'. Refute it at one input. -/
def ratioFieldWrong : ChangeSpec := { name := "ratioField", fn := fun _ => fun
  | [d1, d2, d3] => { results := [.lit (.bool false)], args := [d1, d2, d3] }
  | _ => none }
def RatioFieldWrongFalsely : Prop := ratioFieldRow.holds Tryd.pinned (OpenSpec.ofChange ratioFieldWrong)

/-- 'electionlaw02.RatioOrder': WHATEVER THE INPUT: true; the input reads as it did. -/
def ratioOrderSpec : ChangeSpec := { name := "ratioOrder", fn := fun _ => fun
  | [d1, d2] => { results := [.lit (.bool true)], args := [d1, d2] }
  | _ => none }
def ratioOrderRow : OpenClaim := { program := "ytcbocdkpdedogaadoor", sum := "0f48951fe9817a04de4bc345c29f0f3dbc3e30f12ab7e4bc0c6b02309b6e046a", func := "election/electionlaw02.RatioOrder", spec := "ratioOrder", inPlace := ["internal/bytealg.IndexByteString", "internal/bytealg.IndexString"], named := ["internal/bytealg.MaxLen", "unicode/utf8.first", "unicode/utf8.acceptRanges"], apart := false, laid := [("unicode/utf8.acceptRanges", laid_unicode_utf8_acceptRanges), ("unicode/utf8.first", laid_unicode_utf8_first)] }
def RatioOrderSaid : Prop := ratioOrderRow.holds Tryd.pinned (OpenSpec.ofChange ratioOrderSpec)

/-- ITS FALSE NEIGHBOUR: 'it returns false'. Refute it at one input. -/
def ratioOrderWrong : ChangeSpec := { name := "ratioOrder", fn := fun _ => fun
  | [d1, d2] => { results := [.lit (.bool false)], args := [d1, d2] }
  | _ => none }
def RatioOrderWrongFalsely : Prop := ratioOrderRow.holds Tryd.pinned (OpenSpec.ofChange ratioOrderWrong)

/-- 'electionlaw02.RatioForm': WHATEVER THE INPUT: true; the input reads as it did. -/
def ratioFormSpec : ChangeSpec := { name := "ratioForm", fn := fun _ => fun
  | [d] => { results := [.lit (.bool true)], args := [d] }
  | _ => none }
def ratioFormRow : OpenClaim := { program := "ytcbocdkpdedogaadoor", sum := "0f48951fe9817a04de4bc345c29f0f3dbc3e30f12ab7e4bc0c6b02309b6e046a", func := "election/electionlaw02.RatioForm", spec := "ratioForm", inPlace := ["internal/bytealg.IndexByteString", "internal/bytealg.IndexString"], named := ["internal/bytealg.MaxLen", "unicode/utf8.first", "unicode/utf8.acceptRanges"], apart := false, laid := [("unicode/utf8.acceptRanges", laid_unicode_utf8_acceptRanges), ("unicode/utf8.first", laid_unicode_utf8_first)] }
def RatioFormSaid : Prop := ratioFormRow.holds Tryd.pinned (OpenSpec.ofChange ratioFormSpec)

/-- ITS FALSE NEIGHBOUR: 'it returns false'. Refute it at one input. -/
def ratioFormWrong : ChangeSpec := { name := "ratioForm", fn := fun _ => fun
  | [d] => { results := [.lit (.bool false)], args := [d] }
  | _ => none }
def RatioFormWrongFalsely : Prop := ratioFormRow.holds Tryd.pinned (OpenSpec.ofChange ratioFormWrong)

/- THE SECOND FORM. 'bulk': how many values and letters a reading holds, each counted each time it is reached (what is shared counts as often as it is met; a slice's spare places count too). A statement '..UptoSaid' is the law's where the arguments, and the package variables that the reading takes, are together of bulk at most 1048576: NARROWER than '..Said'. Prove '..Said' where nothing that the law and all that it calls make is longer than what came in: it says more and counts as full. Else prove '..UptoSaid'. A law counts once. -/
mutual
def uptoBulk {H : Type} : DataW H → Nat
  | .lit (.string bytes) => bytes.length + 1
  | .lit _ => 1
  | .nil => 1
  | .ptr d => uptoBulk d + 1
  | .slice elems spare => uptoBulkAll elems + uptoBulkAll spare + 1
  | .agg parts => uptoBulkAll parts + 1
  | .iface _ d => uptoBulk d + 1
  | .map entries => uptoBulkEntries entries + 1
  | .held _ => 1
def uptoBulkAll {H : Type} : List (DataW H) → Nat
  | [] => 0
  | d :: r => uptoBulk d + uptoBulkAll r
def uptoBulkEntries {H : Type} : List (Lit × DataW H) → Nat
  | [] => 0
  | x :: r => uptoBulkEntry x + uptoBulkEntries r
def uptoBulkEntry {H : Type} : Lit × DataW H → Nat
  | (.string bytes, d) => bytes.length + uptoBulk d + 1
  | (_, d) => uptoBulk d + 1
 end
def uptoSmall : (H : Type) → List (DataW H) → Bool := fun _ ds => decide (uptoBulkAll ds ≤ 1048576)
def OpenSpec.upto (s : _root_.Go.ChangeSpec) : _root_.Go.OpenSpec := { _root_.Go.OpenSpec.ofChange s with cond := some uptoSmall }

/-- 'electionlaw02.RatioSum', WHERE WHAT IT READS IS OF BULK AT MOST 1048576: true; the input reads as it did. -/
def ratioSumUptoRow : OpenClaim := { program := "ytcbocdkpdedogaadoor", sum := "0f48951fe9817a04de4bc345c29f0f3dbc3e30f12ab7e4bc0c6b02309b6e046a", func := "election/electionlaw02.RatioSum", spec := "ratioSum", inPlace := ["internal/bytealg.IndexByteString", "internal/bytealg.IndexString"], named := ["internal/bytealg.MaxLen", "unicode/utf8.first", "unicode/utf8.acceptRanges"], apart := false, laid := [("unicode/utf8.acceptRanges", laid_unicode_utf8_acceptRanges), ("unicode/utf8.first", laid_unicode_utf8_first)], narrowed := true }
def RatioSumUptoSaid : Prop := ratioSumUptoRow.holds Tryd.pinned (OpenSpec.upto ratioSumSpec)

/-- 'electionlaw02.RatioText', WHERE WHAT IT READS IS OF BULK AT MOST 1048576: true; the input reads as it did. -/
def ratioTextUptoRow : OpenClaim := { program := "ytcbocdkpdedogaadoor", sum := "0f48951fe9817a04de4bc345c29f0f3dbc3e30f12ab7e4bc0c6b02309b6e046a", func := "election/electionlaw02.RatioText", spec := "ratioText", inPlace := ["internal/bytealg.IndexByteString", "internal/bytealg.IndexString"], named := ["unicode/utf8.first", "unicode/utf8.acceptRanges", "internal/bytealg.MaxLen"], apart := false, laid := [("unicode/utf8.acceptRanges", laid_unicode_utf8_acceptRanges), ("unicode/utf8.first", laid_unicode_utf8_first)], narrowed := true }
def RatioTextUptoSaid : Prop := ratioTextUptoRow.holds Tryd.pinned (OpenSpec.upto ratioTextSpec)

/-- 'electionlaw02.RatioParse', WHERE WHAT IT READS IS OF BULK AT MOST 1048576: true; the input reads as it did. -/
def ratioParseUptoRow : OpenClaim := { program := "ytcbocdkpdedogaadoor", sum := "0f48951fe9817a04de4bc345c29f0f3dbc3e30f12ab7e4bc0c6b02309b6e046a", func := "election/electionlaw02.RatioParse", spec := "ratioParse", inPlace := ["internal/bytealg.IndexByteString", "internal/bytealg.IndexString"], named := ["internal/bytealg.MaxLen", "unicode/utf8.first", "unicode/utf8.acceptRanges"], apart := false, laid := [("unicode/utf8.acceptRanges", laid_unicode_utf8_acceptRanges), ("unicode/utf8.first", laid_unicode_utf8_first)], narrowed := true }
def RatioParseUptoSaid : Prop := ratioParseUptoRow.holds Tryd.pinned (OpenSpec.upto ratioParseSpec)

/-- 'electionlaw02.RatioInts', WHERE WHAT IT READS IS OF BULK AT MOST 1048576: true; the input reads as it did. -/
def ratioIntsUptoRow : OpenClaim := { program := "ytcbocdkpdedogaadoor", sum := "0f48951fe9817a04de4bc345c29f0f3dbc3e30f12ab7e4bc0c6b02309b6e046a", func := "election/electionlaw02.RatioInts", spec := "ratioInts", inPlace := ["internal/bytealg.IndexByteString", "internal/bytealg.IndexString"], named := ["internal/bytealg.MaxLen", "unicode/utf8.first", "unicode/utf8.acceptRanges"], apart := false, laid := [("unicode/utf8.acceptRanges", laid_unicode_utf8_acceptRanges), ("unicode/utf8.first", laid_unicode_utf8_first)], narrowed := true }
def RatioIntsUptoSaid : Prop := ratioIntsUptoRow.holds Tryd.pinned (OpenSpec.upto ratioIntsSpec)

/-- 'electionlaw02.RatioFloor', WHERE WHAT IT READS IS OF BULK AT MOST 1048576: true; the input reads as it did. -/
def ratioFloorUptoRow : OpenClaim := { program := "ytcbocdkpdedogaadoor", sum := "0f48951fe9817a04de4bc345c29f0f3dbc3e30f12ab7e4bc0c6b02309b6e046a", func := "election/electionlaw02.RatioFloor", spec := "ratioFloor", inPlace := ["internal/bytealg.IndexByteString", "internal/bytealg.IndexString"], named := ["internal/bytealg.MaxLen", "unicode/utf8.first", "unicode/utf8.acceptRanges"], apart := false, laid := [("unicode/utf8.acceptRanges", laid_unicode_utf8_acceptRanges), ("unicode/utf8.first", laid_unicode_utf8_first)], narrowed := true }
def RatioFloorUptoSaid : Prop := ratioFloorUptoRow.holds Tryd.pinned (OpenSpec.upto ratioFloorSpec)

/-- 'electionlaw02.RatioProduct', WHERE WHAT IT READS IS OF BULK AT MOST 1048576: true; the input reads as it did. -/
def ratioProductUptoRow : OpenClaim := { program := "ytcbocdkpdedogaadoor", sum := "0f48951fe9817a04de4bc345c29f0f3dbc3e30f12ab7e4bc0c6b02309b6e046a", func := "election/electionlaw02.RatioProduct", spec := "ratioProduct", inPlace := ["internal/bytealg.IndexByteString", "internal/bytealg.IndexString"], named := ["internal/bytealg.MaxLen", "unicode/utf8.first", "unicode/utf8.acceptRanges"], apart := false, laid := [("unicode/utf8.acceptRanges", laid_unicode_utf8_acceptRanges), ("unicode/utf8.first", laid_unicode_utf8_first)], narrowed := true }
def RatioProductUptoSaid : Prop := ratioProductUptoRow.holds Tryd.pinned (OpenSpec.upto ratioProductSpec)

/-- 'electionlaw02.RatioField', WHERE WHAT IT READS IS OF BULK AT MOST 1048576: true; the input reads as it did. -/
def ratioFieldUptoRow : OpenClaim := { program := "ytcbocdkpdedogaadoor", sum := "0f48951fe9817a04de4bc345c29f0f3dbc3e30f12ab7e4bc0c6b02309b6e046a", func := "election/electionlaw02.RatioField", spec := "ratioField", inPlace := ["internal/bytealg.IndexByteString", "internal/bytealg.IndexString"], named := ["internal/bytealg.MaxLen", "unicode/utf8.first", "unicode/utf8.acceptRanges"], apart := false, laid := [("unicode/utf8.acceptRanges", laid_unicode_utf8_acceptRanges), ("unicode/utf8.first", laid_unicode_utf8_first)], narrowed := true }
def RatioFieldUptoSaid : Prop := ratioFieldUptoRow.holds Tryd.pinned (OpenSpec.upto ratioFieldSpec)

/-- 'electionlaw02.RatioOrder', WHERE WHAT IT READS IS OF BULK AT MOST 1048576: true; the input reads as it did. -/
def ratioOrderUptoRow : OpenClaim := { program := "ytcbocdkpdedogaadoor", sum := "0f48951fe9817a04de4bc345c29f0f3dbc3e30f12ab7e4bc0c6b02309b6e046a", func := "election/electionlaw02.RatioOrder", spec := "ratioOrder", inPlace := ["internal/bytealg.IndexByteString", "internal/bytealg.IndexString"], named := ["internal/bytealg.MaxLen", "unicode/utf8.first", "unicode/utf8.acceptRanges"], apart := false, laid := [("unicode/utf8.acceptRanges", laid_unicode_utf8_acceptRanges), ("unicode/utf8.first", laid_unicode_utf8_first)], narrowed := true }
def RatioOrderUptoSaid : Prop := ratioOrderUptoRow.holds Tryd.pinned (OpenSpec.upto ratioOrderSpec)

/-- 'electionlaw02.RatioForm', WHERE WHAT IT READS IS OF BULK AT MOST 1048576: true; the input reads as it did. -/
def ratioFormUptoRow : OpenClaim := { program := "ytcbocdkpdedogaadoor", sum := "0f48951fe9817a04de4bc345c29f0f3dbc3e30f12ab7e4bc0c6b02309b6e046a", func := "election/electionlaw02.RatioForm", spec := "ratioForm", inPlace := ["internal/bytealg.IndexByteString", "internal/bytealg.IndexString"], named := ["internal/bytealg.MaxLen", "unicode/utf8.first", "unicode/utf8.acceptRanges"], apart := false, laid := [("unicode/utf8.acceptRanges", laid_unicode_utf8_acceptRanges), ("unicode/utf8.first", laid_unicode_utf8_first)], narrowed := true }
def RatioFormUptoSaid : Prop := ratioFormUptoRow.holds Tryd.pinned (OpenSpec.upto ratioFormSpec)

end Rows
end Go.Proofs.YtcbocdkpdedogaaDoor
