/-
  No cell of these rows narrows 'for every input' (looked for: loops, veiled, ifaces, maps, wideKeys, modest, calm, conditions, laid).
  DERIVED. THE GIVEN ROWS OF THIS SEAT. 6 by the template 'for every input the law returns true; each argument reads behind the call as it read before'; 0 by the template 'total and deterministic' (their statements: YtcjgilfbcoadjaaTotals.lean).
  GIVEN WITH THE SEED: the statements are not yours to turn. If you find one false, say at which input.
  Laid BY PROGRAM, IN A SANDBOX (cutbox-rows.mjs): the forced cells as the released guide's own fill.sh prints them over the translation 4de33ce26a3e46c9… (all of the seat's roots in one cut). By AI agents, Wed Nov 11 2026. No macro, syntax, notation, axiom, sorry.
-/
import Derived.Test.YtcjgilfbcoadjaaChecked
import GoSem.Claim
import GoSem.ClaimJoined
import GoSem.ClaimMapViews
import Derived.JoinedTies
import Derived.KernelRfl
namespace Go.Proofs.Ytcjgilfbcoadjaa
/- THE CELL 'sum', in the pinned program and in every row, IS THE sha256 OF THE DUMP (.gsa) THAT YtcjgilfbcoadjaaProg.lean LOADS. Nothing in Lean hashes anything: it is a label: what it is worth is what the hold of that sum in a sandbox is worth. -/
noncomputable def Try.pinned : Pinned := { name := "ytcjgilfbcoadjaa", sum := "4de33ce26a3e46c95bb3d4e69cf0c5e37f46b26f06cfa1d576a15ad0e8d7a4bc", checked := Try.checked }
namespace Rows
def none {H : Type} : Left H := { results := [], args := [] }

/-- 'electionlaw06.LexAll': WHATEVER THE INPUT: true; the input reads as it did. -/
def lexAllSpec : ChangeSpec := { name := "lexAll", fn := fun _ => fun
  | [d] => { results := [.lit (.bool true)], args := [d] }
  | _ => none }
def lexAllRow : OpenClaim := { program := "ytcjgilfbcoadjaa", sum := "4de33ce26a3e46c95bb3d4e69cf0c5e37f46b26f06cfa1d576a15ad0e8d7a4bc", func := "election/electionlaw06.LexAll", spec := "lexAll", inPlace := ["internal/bytealg.CountString", "internal/bytealg.IndexByteString", "internal/bytealg.IndexString"], unfollowed := true, recurses := true, named := ["internal/bytealg.MaxLen"], apart := false }
def LexAllSaid : Prop := lexAllRow.holds Try.pinned (OpenSpec.ofChange lexAllSpec)

/-- ITS FALSE NEIGHBOUR: 'it returns false'. Refute it at one input. -/
def lexAllWrong : ChangeSpec := { name := "lexAll", fn := fun _ => fun
  | [d] => { results := [.lit (.bool false)], args := [d] }
  | _ => none }
def LexAllWrongFalsely : Prop := lexAllRow.holds Try.pinned (OpenSpec.ofChange lexAllWrong)

/-- 'electionlaw06.LexBare': WHATEVER THE INPUT: true; the input reads as it did. -/
def lexBareSpec : ChangeSpec := { name := "lexBare", fn := fun _ => fun
  | [d] => { results := [.lit (.bool true)], args := [d] }
  | _ => none }
def lexBareRow : OpenClaim := { program := "ytcjgilfbcoadjaa", sum := "4de33ce26a3e46c95bb3d4e69cf0c5e37f46b26f06cfa1d576a15ad0e8d7a4bc", func := "election/electionlaw06.LexBare", spec := "lexBare", inPlace := ["internal/bytealg.CountString", "internal/bytealg.IndexByteString", "internal/bytealg.IndexString"], unfollowed := true, recurses := true, named := ["internal/bytealg.MaxLen"], apart := false }
def LexBareSaid : Prop := lexBareRow.holds Try.pinned (OpenSpec.ofChange lexBareSpec)

/-- ITS FALSE NEIGHBOUR: 'it returns false'. Refute it at one input. -/
def lexBareWrong : ChangeSpec := { name := "lexBare", fn := fun _ => fun
  | [d] => { results := [.lit (.bool false)], args := [d] }
  | _ => none }
def LexBareWrongFalsely : Prop := lexBareRow.holds Try.pinned (OpenSpec.ofChange lexBareWrong)

/-- 'electionlaw06.LexBlanks': WHATEVER THE INPUT: true; the input reads as it did. -/
def lexBlanksSpec : ChangeSpec := { name := "lexBlanks", fn := fun _ => fun
  | [d] => { results := [.lit (.bool true)], args := [d] }
  | _ => none }
def lexBlanksRow : OpenClaim := { program := "ytcjgilfbcoadjaa", sum := "4de33ce26a3e46c95bb3d4e69cf0c5e37f46b26f06cfa1d576a15ad0e8d7a4bc", func := "election/electionlaw06.LexBlanks", spec := "lexBlanks", inPlace := ["internal/bytealg.CountString", "internal/bytealg.IndexByteString", "internal/bytealg.IndexString"], unfollowed := true, recurses := true, named := ["internal/bytealg.MaxLen"], apart := false }
def LexBlanksSaid : Prop := lexBlanksRow.holds Try.pinned (OpenSpec.ofChange lexBlanksSpec)

/-- ITS FALSE NEIGHBOUR: 'it returns false'. Refute it at one input. -/
def lexBlanksWrong : ChangeSpec := { name := "lexBlanks", fn := fun _ => fun
  | [d] => { results := [.lit (.bool false)], args := [d] }
  | _ => none }
def LexBlanksWrongFalsely : Prop := lexBlanksRow.holds Try.pinned (OpenSpec.ofChange lexBlanksWrong)

/-- 'electionlaw06.LexPlace': WHATEVER THE INPUT: true; the input reads as it did. -/
def lexPlaceSpec : ChangeSpec := { name := "lexPlace", fn := fun _ => fun
  | [d1, d2, d3] => { results := [.lit (.bool true)], args := [d1, d2, d3] }
  | _ => none }
def lexPlaceRow : OpenClaim := { program := "ytcjgilfbcoadjaa", sum := "4de33ce26a3e46c95bb3d4e69cf0c5e37f46b26f06cfa1d576a15ad0e8d7a4bc", func := "election/electionlaw06.LexPlace", spec := "lexPlace", inPlace := ["internal/bytealg.CountString", "internal/bytealg.IndexByteString", "internal/bytealg.IndexString"], unfollowed := true, recurses := true, named := ["internal/bytealg.MaxLen"], apart := false }
def LexPlaceSaid : Prop := lexPlaceRow.holds Try.pinned (OpenSpec.ofChange lexPlaceSpec)

/-- ITS FALSE NEIGHBOUR: 'it returns false'. Refute it at one input. -/
def lexPlaceWrong : ChangeSpec := { name := "lexPlace", fn := fun _ => fun
  | [d1, d2, d3] => { results := [.lit (.bool false)], args := [d1, d2, d3] }
  | _ => none }
def LexPlaceWrongFalsely : Prop := lexPlaceRow.holds Try.pinned (OpenSpec.ofChange lexPlaceWrong)

/-- 'electionlaw06.LexLong': WHATEVER THE INPUT: true; the input reads as it did. -/
def lexLongSpec : ChangeSpec := { name := "lexLong", fn := fun _ => fun
  | [d] => { results := [.lit (.bool true)], args := [d] }
  | _ => none }
def lexLongRow : OpenClaim := { program := "ytcjgilfbcoadjaa", sum := "4de33ce26a3e46c95bb3d4e69cf0c5e37f46b26f06cfa1d576a15ad0e8d7a4bc", func := "election/electionlaw06.LexLong", spec := "lexLong", inPlace := ["internal/bytealg.CountString", "internal/bytealg.IndexByteString", "internal/bytealg.IndexString"], unfollowed := true, recurses := true, named := ["internal/bytealg.MaxLen"], apart := false }
def LexLongSaid : Prop := lexLongRow.holds Try.pinned (OpenSpec.ofChange lexLongSpec)

/-- ITS FALSE NEIGHBOUR: 'it returns false'. Refute it at one input. -/
def lexLongWrong : ChangeSpec := { name := "lexLong", fn := fun _ => fun
  | [d] => { results := [.lit (.bool false)], args := [d] }
  | _ => none }
def LexLongWrongFalsely : Prop := lexLongRow.holds Try.pinned (OpenSpec.ofChange lexLongWrong)

/-- 'electionlaw06.LexQuote': WHATEVER THE INPUT: true; the input reads as it did. -/
def lexQuoteSpec : ChangeSpec := { name := "lexQuote", fn := fun _ => fun
  | [d] => { results := [.lit (.bool true)], args := [d] }
  | _ => none }
def lexQuoteRow : OpenClaim := { program := "ytcjgilfbcoadjaa", sum := "4de33ce26a3e46c95bb3d4e69cf0c5e37f46b26f06cfa1d576a15ad0e8d7a4bc", func := "election/electionlaw06.LexQuote", spec := "lexQuote", inPlace := ["internal/bytealg.CountString", "internal/bytealg.IndexByteString", "internal/bytealg.IndexString"], unfollowed := true, recurses := true, named := ["internal/bytealg.MaxLen"], apart := false }
def LexQuoteSaid : Prop := lexQuoteRow.holds Try.pinned (OpenSpec.ofChange lexQuoteSpec)

/-- ITS FALSE NEIGHBOUR: 'it returns false'. Refute it at one input. -/
def lexQuoteWrong : ChangeSpec := { name := "lexQuote", fn := fun _ => fun
  | [d] => { results := [.lit (.bool false)], args := [d] }
  | _ => none }
def LexQuoteWrongFalsely : Prop := lexQuoteRow.holds Try.pinned (OpenSpec.ofChange lexQuoteWrong)

/- THE SECOND FORM. 'bulk': how many values and letters a reading holds, each counted each time it is reached (what is shared counts as often as it is met; a slice's spare places count too). A statement '..UptoSaid' is the law's where the arguments, and the package variables that the reading takes, are together of bulk at most 1048576: NARROWER than '..Said'. Prove '..Said' where nothing that the law and all that it calls make is longer than what came in: it says more and counts as full. Else prove '..UptoSaid'. A law counts once. -/
mutual
def uptoBulk {H : Type} : DataW H → Nat
  | .lit (.string bytes) => bytes.length + 1
  | .lit _ => 1
  | .nil => 1
  | .ptr d => uptoBulk d + 1
  | .slice elems spare => uptoBulkAll elems + uptoBulkAll spare + 1
  | .agg parts => uptoBulkAll parts + 1
  | .iface _ d => uptoBulk d + 1
  | .map entries => uptoBulkEntries entries + 1
  | .held _ => 1
def uptoBulkAll {H : Type} : List (DataW H) → Nat
  | [] => 0
  | d :: r => uptoBulk d + uptoBulkAll r
def uptoBulkEntries {H : Type} : List (Lit × DataW H) → Nat
  | [] => 0
  | x :: r => uptoBulkEntry x + uptoBulkEntries r
def uptoBulkEntry {H : Type} : Lit × DataW H → Nat
  | (.string bytes, d) => bytes.length + uptoBulk d + 1
  | (_, d) => uptoBulk d + 1
 end
def uptoSmall : (H : Type) → List (DataW H) → Bool := fun _ ds => decide (uptoBulkAll ds ≤ 1048576)
def OpenSpec.upto (s : _root_.Go.ChangeSpec) : _root_.Go.OpenSpec := { _root_.Go.OpenSpec.ofChange s with cond := some uptoSmall }

/-- 'electionlaw06.LexAll', WHERE WHAT IT READS IS OF BULK AT MOST 1048576: true; the input reads as it did. -/
def lexAllUptoRow : OpenClaim := { program := "ytcjgilfbcoadjaa", sum := "4de33ce26a3e46c95bb3d4e69cf0c5e37f46b26f06cfa1d576a15ad0e8d7a4bc", func := "election/electionlaw06.LexAll", spec := "lexAll", inPlace := ["internal/bytealg.CountString", "internal/bytealg.IndexByteString", "internal/bytealg.IndexString"], unfollowed := true, recurses := true, named := ["internal/bytealg.MaxLen"], apart := false, narrowed := true }
def LexAllUptoSaid : Prop := lexAllUptoRow.holds Try.pinned (OpenSpec.upto lexAllSpec)

/-- 'electionlaw06.LexBare', WHERE WHAT IT READS IS OF BULK AT MOST 1048576: true; the input reads as it did. -/
def lexBareUptoRow : OpenClaim := { program := "ytcjgilfbcoadjaa", sum := "4de33ce26a3e46c95bb3d4e69cf0c5e37f46b26f06cfa1d576a15ad0e8d7a4bc", func := "election/electionlaw06.LexBare", spec := "lexBare", inPlace := ["internal/bytealg.CountString", "internal/bytealg.IndexByteString", "internal/bytealg.IndexString"], unfollowed := true, recurses := true, named := ["internal/bytealg.MaxLen"], apart := false, narrowed := true }
def LexBareUptoSaid : Prop := lexBareUptoRow.holds Try.pinned (OpenSpec.upto lexBareSpec)

/-- 'electionlaw06.LexBlanks', WHERE WHAT IT READS IS OF BULK AT MOST 1048576: true; the input reads as it did. -/
def lexBlanksUptoRow : OpenClaim := { program := "ytcjgilfbcoadjaa", sum := "4de33ce26a3e46c95bb3d4e69cf0c5e37f46b26f06cfa1d576a15ad0e8d7a4bc", func := "election/electionlaw06.LexBlanks", spec := "lexBlanks", inPlace := ["internal/bytealg.CountString", "internal/bytealg.IndexByteString", "internal/bytealg.IndexString"], unfollowed := true, recurses := true, named := ["internal/bytealg.MaxLen"], apart := false, narrowed := true }
def LexBlanksUptoSaid : Prop := lexBlanksUptoRow.holds Try.pinned (OpenSpec.upto lexBlanksSpec)

/-- 'electionlaw06.LexPlace', WHERE WHAT IT READS IS OF BULK AT MOST 1048576: true; the input reads as it did. -/
def lexPlaceUptoRow : OpenClaim := { program := "ytcjgilfbcoadjaa", sum := "4de33ce26a3e46c95bb3d4e69cf0c5e37f46b26f06cfa1d576a15ad0e8d7a4bc", func := "election/electionlaw06.LexPlace", spec := "lexPlace", inPlace := ["internal/bytealg.CountString", "internal/bytealg.IndexByteString", "internal/bytealg.IndexString"], unfollowed := true, recurses := true, named := ["internal/bytealg.MaxLen"], apart := false, narrowed := true }
def LexPlaceUptoSaid : Prop := lexPlaceUptoRow.holds Try.pinned (OpenSpec.upto lexPlaceSpec)

/-- 'electionlaw06.LexLong', WHERE WHAT IT READS IS OF BULK AT MOST 1048576: true; the input reads as it did. -/
def lexLongUptoRow : OpenClaim := { program := "ytcjgilfbcoadjaa", sum := "4de33ce26a3e46c95bb3d4e69cf0c5e37f46b26f06cfa1d576a15ad0e8d7a4bc", func := "election/electionlaw06.LexLong", spec := "lexLong", inPlace := ["internal/bytealg.CountString", "internal/bytealg.IndexByteString", "internal/bytealg.IndexString"], unfollowed := true, recurses := true, named := ["internal/bytealg.MaxLen"], apart := false, narrowed := true }
def LexLongUptoSaid : Prop := lexLongUptoRow.holds Try.pinned (OpenSpec.upto lexLongSpec)

/-- 'electionlaw06.LexQuote', WHERE WHAT IT READS IS OF BULK AT MOST 1048576: true; the input reads as it did. -/
def lexQuoteUptoRow : OpenClaim := { program := "ytcjgilfbcoadjaa", sum := "4de33ce26a3e46c95bb3d4e69cf0c5e37f46b26f06cfa1d576a15ad0e8d7a4bc", func := "election/electionlaw06.LexQuote", spec := "lexQuote", inPlace := ["internal/bytealg.CountString", "internal/bytealg.IndexByteString", "internal/bytealg.IndexString"], unfollowed := true, recurses := true, named := ["internal/bytealg.MaxLen"], apart := false, narrowed := true }
def LexQuoteUptoSaid : Prop := lexQuoteUptoRow.holds Try.pinned (OpenSpec.upto lexQuoteSpec)

end Rows
end Go.Proofs.Ytcjgilfbcoadjaa
