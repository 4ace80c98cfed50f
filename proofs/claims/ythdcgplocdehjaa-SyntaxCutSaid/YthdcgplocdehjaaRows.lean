/-
  No cell of these rows narrows 'for every input' (looked for: loops, veiled, ifaces, maps, wideKeys, modest, calm, conditions, laid).
  DERIVED. THE GIVEN ROWS OF THIS SEAT. 6 by the template 'for every input the law returns true; each argument reads behind the call as it read before'; 0 by the template 'total and deterministic' (their statements: YthdcgplocdehjaaTotals.lean).
  GIVEN WITH THE SEED: the statements are not yours to turn. If you find one false, say at which input.
  Laid BY PROGRAM, IN A SANDBOX (cutbox-rows.mjs): the forced cells as the released guide's own fill.sh prints them over the translation bcf2426bcbcbf2af… (all of the seat's roots in one cut). By AI agents, Wed Nov 11 2026. No macro, syntax, notation, axiom, sorry.
-/
import Derived.Test.YthdcgplocdehjaaChecked
import GoSem.Claim
import GoSem.ClaimJoined
import GoSem.ClaimMapViews
import Derived.JoinedTies
import Derived.KernelRfl
namespace Go.Proofs.Ythdcgplocdehjaa
/- THE CELL 'sum', in the pinned program and in every row, IS THE sha256 OF THE DUMP (.gsa) THAT YthdcgplocdehjaaProg.lean LOADS. Nothing in Lean hashes anything: it is a label: what it is worth is what the hold of that sum in a sandbox is worth. -/
noncomputable def Try.pinned : Pinned := { name := "ythdcgplocdehjaa", sum := "bcf2426bcbcbf2af63053e9a8d744208df2ab5ad124a661fbceb06d4266eae02", checked := Try.checked }
namespace Rows
def none {H : Type} : Left H := { results := [], args := [] }

/-- 'electionlaw07.SyntaxParse': WHATEVER THE INPUT: true; the input reads as it did. -/
def syntaxParseSpec : ChangeSpec := { name := "syntaxParse", fn := fun _ => fun
  | [d] => { results := [.lit (.bool true)], args := [d] }
  | _ => none }
def syntaxParseRow : OpenClaim := { program := "ythdcgplocdehjaa", sum := "bcf2426bcbcbf2af63053e9a8d744208df2ab5ad124a661fbceb06d4266eae02", func := "election/electionlaw07.SyntaxParse", spec := "syntaxParse", inPlace := ["internal/bytealg.CountString", "internal/bytealg.IndexByteString", "internal/bytealg.IndexString", "internal/abi.NoEscape", "internal/bytealg.MakeNoZero"], unfollowed := true, recurses := true, named := ["internal/bytealg.MaxLen"], apart := false }
def SyntaxParseSaid : Prop := syntaxParseRow.holds Try.pinned (OpenSpec.ofChange syntaxParseSpec)

/-- ITS FALSE NEIGHBOUR: 'it returns false'. Refute it at one input. -/
def syntaxParseWrong : ChangeSpec := { name := "syntaxParse", fn := fun _ => fun
  | [d] => { results := [.lit (.bool false)], args := [d] }
  | _ => none }
def SyntaxParseWrongFalsely : Prop := syntaxParseRow.holds Try.pinned (OpenSpec.ofChange syntaxParseWrong)

/-- 'electionlaw07.SyntaxPrint': WHATEVER THE INPUT: true; the input reads as it did. -/
def syntaxPrintSpec : ChangeSpec := { name := "syntaxPrint", fn := fun _ => fun
  | [d] => { results := [.lit (.bool true)], args := [d] }
  | _ => none }
def syntaxPrintRow : OpenClaim := { program := "ythdcgplocdehjaa", sum := "bcf2426bcbcbf2af63053e9a8d744208df2ab5ad124a661fbceb06d4266eae02", func := "election/electionlaw07.SyntaxPrint", spec := "syntaxPrint", inPlace := ["internal/bytealg.IndexByteString", "internal/bytealg.IndexString", "internal/abi.NoEscape", "internal/bytealg.MakeNoZero", "internal/bytealg.CountString"], unfollowed := true, recurses := true, named := ["internal/bytealg.MaxLen"], apart := false }
def SyntaxPrintSaid : Prop := syntaxPrintRow.holds Try.pinned (OpenSpec.ofChange syntaxPrintSpec)

/-- ITS FALSE NEIGHBOUR: 'it returns false'. Refute it at one input. -/
def syntaxPrintWrong : ChangeSpec := { name := "syntaxPrint", fn := fun _ => fun
  | [d] => { results := [.lit (.bool false)], args := [d] }
  | _ => none }
def SyntaxPrintWrongFalsely : Prop := syntaxPrintRow.holds Try.pinned (OpenSpec.ofChange syntaxPrintWrong)

/-- 'electionlaw07.SyntaxRound': WHATEVER THE INPUT: true; the input reads as it did. -/
def syntaxRoundSpec : ChangeSpec := { name := "syntaxRound", fn := fun _ => fun
  | [d] => { results := [.lit (.bool true)], args := [d] }
  | _ => none }
def syntaxRoundRow : OpenClaim := { program := "ythdcgplocdehjaa", sum := "bcf2426bcbcbf2af63053e9a8d744208df2ab5ad124a661fbceb06d4266eae02", func := "election/electionlaw07.SyntaxRound", spec := "syntaxRound", inPlace := ["internal/bytealg.IndexByteString", "internal/bytealg.IndexString", "internal/abi.NoEscape", "internal/bytealg.MakeNoZero", "internal/bytealg.CountString"], unfollowed := true, recurses := true, named := ["internal/bytealg.MaxLen"], apart := false }
def SyntaxRoundSaid : Prop := syntaxRoundRow.holds Try.pinned (OpenSpec.ofChange syntaxRoundSpec)

/-- ITS FALSE NEIGHBOUR: 'it returns false'. Refute it at one input. -/
def syntaxRoundWrong : ChangeSpec := { name := "syntaxRound", fn := fun _ => fun
  | [d] => { results := [.lit (.bool false)], args := [d] }
  | _ => none }
def SyntaxRoundWrongFalsely : Prop := syntaxRoundRow.holds Try.pinned (OpenSpec.ofChange syntaxRoundWrong)

/-- 'electionlaw07.SyntaxCanon': WHATEVER THE INPUT: true; the input reads as it did. -/
def syntaxCanonSpec : ChangeSpec := { name := "syntaxCanon", fn := fun _ => fun
  | [d] => { results := [.lit (.bool true)], args := [d] }
  | _ => none }
def syntaxCanonRow : OpenClaim := { program := "ythdcgplocdehjaa", sum := "bcf2426bcbcbf2af63053e9a8d744208df2ab5ad124a661fbceb06d4266eae02", func := "election/electionlaw07.SyntaxCanon", spec := "syntaxCanon", inPlace := ["internal/bytealg.CountString", "internal/bytealg.IndexByteString", "internal/bytealg.IndexString", "internal/abi.NoEscape", "internal/bytealg.MakeNoZero"], unfollowed := true, recurses := true, named := ["internal/bytealg.MaxLen"], apart := false }
def SyntaxCanonSaid : Prop := syntaxCanonRow.holds Try.pinned (OpenSpec.ofChange syntaxCanonSpec)

/-- ITS FALSE NEIGHBOUR: 'it returns false'. Refute it at one input. -/
def syntaxCanonWrong : ChangeSpec := { name := "syntaxCanon", fn := fun _ => fun
  | [d] => { results := [.lit (.bool false)], args := [d] }
  | _ => none }
def SyntaxCanonWrongFalsely : Prop := syntaxCanonRow.holds Try.pinned (OpenSpec.ofChange syntaxCanonWrong)

/-- 'electionlaw07.SyntaxLines': WHATEVER THE INPUT: true; the input reads as it did. -/
def syntaxLinesSpec : ChangeSpec := { name := "syntaxLines", fn := fun _ => fun
  | [d] => { results := [.lit (.bool true)], args := [d] }
  | _ => none }
def syntaxLinesRow : OpenClaim := { program := "ythdcgplocdehjaa", sum := "bcf2426bcbcbf2af63053e9a8d744208df2ab5ad124a661fbceb06d4266eae02", func := "election/electionlaw07.SyntaxLines", spec := "syntaxLines", inPlace := ["internal/bytealg.IndexByteString", "internal/bytealg.IndexString", "internal/abi.NoEscape", "internal/bytealg.MakeNoZero", "internal/bytealg.CountString"], unfollowed := true, recurses := true, named := ["internal/bytealg.MaxLen"], apart := false }
def SyntaxLinesSaid : Prop := syntaxLinesRow.holds Try.pinned (OpenSpec.ofChange syntaxLinesSpec)

/-- ITS FALSE NEIGHBOUR: 'it returns false'. Refute it at one input. -/
def syntaxLinesWrong : ChangeSpec := { name := "syntaxLines", fn := fun _ => fun
  | [d] => { results := [.lit (.bool false)], args := [d] }
  | _ => none }
def SyntaxLinesWrongFalsely : Prop := syntaxLinesRow.holds Try.pinned (OpenSpec.ofChange syntaxLinesWrong)

/-- 'electionlaw07.SyntaxCut': WHATEVER THE INPUT: true; the input reads as it did. -/
def syntaxCutSpec : ChangeSpec := { name := "syntaxCut", fn := fun _ => fun
  | [d1, d2] => { results := [.lit (.bool true)], args := [d1, d2] }
  | _ => none }
def syntaxCutRow : OpenClaim := { program := "ythdcgplocdehjaa", sum := "bcf2426bcbcbf2af63053e9a8d744208df2ab5ad124a661fbceb06d4266eae02", func := "election/electionlaw07.SyntaxCut", spec := "syntaxCut", inPlace := ["internal/bytealg.CountString", "internal/bytealg.IndexByteString", "internal/bytealg.IndexString", "internal/abi.NoEscape", "internal/bytealg.MakeNoZero"], unfollowed := true, recurses := true, named := ["internal/bytealg.MaxLen"], apart := false }
def SyntaxCutSaid : Prop := syntaxCutRow.holds Try.pinned (OpenSpec.ofChange syntaxCutSpec)

/-- ITS FALSE NEIGHBOUR: 'it returns false'. Refute it at one input. -/
def syntaxCutWrong : ChangeSpec := { name := "syntaxCut", fn := fun _ => fun
  | [d1, d2] => { results := [.lit (.bool false)], args := [d1, d2] }
  | _ => none }
def SyntaxCutWrongFalsely : Prop := syntaxCutRow.holds Try.pinned (OpenSpec.ofChange syntaxCutWrong)

/- THE SECOND FORM. 'bulk': how many values and letters a reading holds, each counted each time it is reached (what is shared counts as often as it is met; a slice's spare places count too). A statement '..UptoSaid' is the law's where the arguments, and the package variables that the reading takes, are together of bulk at most 1048576: NARROWER than '..Said'. Prove '..Said' where nothing that the law and all that it calls make is longer than what came in: it says more and counts as full. Else prove '..UptoSaid'. A law counts once. -/
mutual
def uptoBulk {H : Type} : DataW H → Nat
  | .lit (.string bytes) => bytes.length + 1
  | .lit _ => 1
  | .nil => 1
  | .ptr d => uptoBulk d + 1
  | .slice elems spare => uptoBulkAll elems + uptoBulkAll spare + 1
  | .agg parts => uptoBulkAll parts + 1
  | .iface _ d => uptoBulk d + 1
  | .map entries => uptoBulkEntries entries + 1
  | .held _ => 1
def uptoBulkAll {H : Type} : List (DataW H) → Nat
  | [] => 0
  | d :: r => uptoBulk d + uptoBulkAll r
def uptoBulkEntries {H : Type} : List (Lit × DataW H) → Nat
  | [] => 0
  | x :: r => uptoBulkEntry x + uptoBulkEntries r
def uptoBulkEntry {H : Type} : Lit × DataW H → Nat
  | (.string bytes, d) => bytes.length + uptoBulk d + 1
  | (_, d) => uptoBulk d + 1
 end
def uptoSmall : (H : Type) → List (DataW H) → Bool := fun _ ds => decide (uptoBulkAll ds ≤ 1048576)
def OpenSpec.upto (s : _root_.Go.ChangeSpec) : _root_.Go.OpenSpec := { _root_.Go.OpenSpec.ofChange s with cond := some uptoSmall }

/-- 'electionlaw07.SyntaxParse', WHERE WHAT IT READS IS OF BULK AT MOST 1048576: true; the input reads as it did. -/
def syntaxParseUptoRow : OpenClaim := { program := "ythdcgplocdehjaa", sum := "bcf2426bcbcbf2af63053e9a8d744208df2ab5ad124a661fbceb06d4266eae02", func := "election/electionlaw07.SyntaxParse", spec := "syntaxParse", inPlace := ["internal/bytealg.CountString", "internal/bytealg.IndexByteString", "internal/bytealg.IndexString", "internal/abi.NoEscape", "internal/bytealg.MakeNoZero"], unfollowed := true, recurses := true, named := ["internal/bytealg.MaxLen"], apart := false, narrowed := true }
def SyntaxParseUptoSaid : Prop := syntaxParseUptoRow.holds Try.pinned (OpenSpec.upto syntaxParseSpec)

/-- 'electionlaw07.SyntaxPrint', WHERE WHAT IT READS IS OF BULK AT MOST 1048576: true; the input reads as it did. -/
def syntaxPrintUptoRow : OpenClaim := { program := "ythdcgplocdehjaa", sum := "bcf2426bcbcbf2af63053e9a8d744208df2ab5ad124a661fbceb06d4266eae02", func := "election/electionlaw07.SyntaxPrint", spec := "syntaxPrint", inPlace := ["internal/bytealg.IndexByteString", "internal/bytealg.IndexString", "internal/abi.NoEscape", "internal/bytealg.MakeNoZero", "internal/bytealg.CountString"], unfollowed := true, recurses := true, named := ["internal/bytealg.MaxLen"], apart := false, narrowed := true }
def SyntaxPrintUptoSaid : Prop := syntaxPrintUptoRow.holds Try.pinned (OpenSpec.upto syntaxPrintSpec)

/-- 'electionlaw07.SyntaxRound', WHERE WHAT IT READS IS OF BULK AT MOST 1048576: true; the input reads as it did. -/
def syntaxRoundUptoRow : OpenClaim := { program := "ythdcgplocdehjaa", sum := "bcf2426bcbcbf2af63053e9a8d744208df2ab5ad124a661fbceb06d4266eae02", func := "election/electionlaw07.SyntaxRound", spec := "syntaxRound", inPlace := ["internal/bytealg.IndexByteString", "internal/bytealg.IndexString", "internal/abi.NoEscape", "internal/bytealg.MakeNoZero", "internal/bytealg.CountString"], unfollowed := true, recurses := true, named := ["internal/bytealg.MaxLen"], apart := false, narrowed := true }
def SyntaxRoundUptoSaid : Prop := syntaxRoundUptoRow.holds Try.pinned (OpenSpec.upto syntaxRoundSpec)

/-- 'electionlaw07.SyntaxCanon', WHERE WHAT IT READS IS OF BULK AT MOST 1048576: true; the input reads as it did. -/
def syntaxCanonUptoRow : OpenClaim := { program := "ythdcgplocdehjaa", sum := "bcf2426bcbcbf2af63053e9a8d744208df2ab5ad124a661fbceb06d4266eae02", func := "election/electionlaw07.SyntaxCanon", spec := "syntaxCanon", inPlace := ["internal/bytealg.CountString", "internal/bytealg.IndexByteString", "internal/bytealg.IndexString", "internal/abi.NoEscape", "internal/bytealg.MakeNoZero"], unfollowed := true, recurses := true, named := ["internal/bytealg.MaxLen"], apart := false, narrowed := true }
def SyntaxCanonUptoSaid : Prop := syntaxCanonUptoRow.holds Try.pinned (OpenSpec.upto syntaxCanonSpec)

/-- 'electionlaw07.SyntaxLines', WHERE WHAT IT READS IS OF BULK AT MOST 1048576: true; the input reads as it did. -/
def syntaxLinesUptoRow : OpenClaim := { program := "ythdcgplocdehjaa", sum := "bcf2426bcbcbf2af63053e9a8d744208df2ab5ad124a661fbceb06d4266eae02", func := "election/electionlaw07.SyntaxLines", spec := "syntaxLines", inPlace := ["internal/bytealg.IndexByteString", "internal/bytealg.IndexString", "internal/abi.NoEscape", "internal/bytealg.MakeNoZero", "internal/bytealg.CountString"], unfollowed := true, recurses := true, named := ["internal/bytealg.MaxLen"], apart := false, narrowed := true }
def SyntaxLinesUptoSaid : Prop := syntaxLinesUptoRow.holds Try.pinned (OpenSpec.upto syntaxLinesSpec)

/-- 'electionlaw07.SyntaxCut', WHERE WHAT IT READS IS OF BULK AT MOST 1048576: true; the input reads as it did. -/
def syntaxCutUptoRow : OpenClaim := { program := "ythdcgplocdehjaa", sum := "bcf2426bcbcbf2af63053e9a8d744208df2ab5ad124a661fbceb06d4266eae02", func := "election/electionlaw07.SyntaxCut", spec := "syntaxCut", inPlace := ["internal/bytealg.CountString", "internal/bytealg.IndexByteString", "internal/bytealg.IndexString", "internal/abi.NoEscape", "internal/bytealg.MakeNoZero"], unfollowed := true, recurses := true, named := ["internal/bytealg.MaxLen"], apart := false, narrowed := true }
def SyntaxCutUptoSaid : Prop := syntaxCutUptoRow.holds Try.pinned (OpenSpec.upto syntaxCutSpec)

end Rows
end Go.Proofs.Ythdcgplocdehjaa
