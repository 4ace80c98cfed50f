/-
  No cell of these rows narrows 'for every input' (looked for: loops, veiled, ifaces, maps, wideKeys, modest, calm, conditions, laid).
  DERIVED. THE GIVEN ROWS OF THIS SEAT. 7 by the template 'for every input the law returns true; each argument reads behind the call as it read before'; 0 by the template 'total and deterministic' (their statements: YtbnhgmikegdppaaTotals.lean).
  GIVEN WITH THE SEED: the statements are not yours to turn. If you find one false, say at which input.
  Laid BY PROGRAM, IN A SANDBOX (cutbox-rows.mjs): the forced cells as the released guide's own fill.sh prints them over the translation fb8b5b72b19e0284… (all of the seat's roots in one cut). By AI agents, Wed Nov 11 2026. No macro, syntax, notation, axiom, sorry.
-/
import Derived.Test.YtbnhgmikegdppaaChecked
import GoSem.Claim
import GoSem.ClaimJoined
import GoSem.ClaimMapViews
import Derived.JoinedTies
import Derived.KernelRfl
namespace Go.Proofs.Ytbnhgmikegdppaa
/- THE CELL 'sum', in the pinned program and in every row, IS THE sha256 OF THE DUMP (.gsa) THAT YtbnhgmikegdppaaProg.lean LOADS. Nothing in Lean hashes anything: it is a label: what it is worth is what the hold of that sum in a sandbox is worth. -/
noncomputable def Try.pinned : Pinned := { name := "ytbnhgmikegdppaa", sum := "fb8b5b72b19e0284d1a025a9e58e3500b6bd42ef06d16780be0b8790a29c3b91", checked := Try.checked }
namespace Rows
def none {H : Type} : Left H := { results := [], args := [] }

/-- 'electionlaw26.IrvPossible': WHATEVER THE INPUT: true; the input reads as it did. -/
def irvPossibleSpec : ChangeSpec := { name := "irvPossible", fn := fun _ => fun
  | [d1, d2, d3, d4, d5, d6] => { results := [.lit (.bool true)], args := [d1, d2, d3, d4, d5, d6] }
  | _ => none }
def irvPossibleRow : OpenClaim := { program := "ytbnhgmikegdppaa", sum := "fb8b5b72b19e0284d1a025a9e58e3500b6bd42ef06d16780be0b8790a29c3b91", func := "election/electionlaw26.IrvPossible", spec := "irvPossible", unfollowed := true, recurses := true, apart := false }
def IrvPossibleSaid : Prop := irvPossibleRow.holds Try.pinned (OpenSpec.ofChange irvPossibleSpec)

/-- ITS FALSE NEIGHBOUR: 'it returns false'. Refute it at one input. -/
def irvPossibleWrong : ChangeSpec := { name := "irvPossible", fn := fun _ => fun
  | [d1, d2, d3, d4, d5, d6] => { results := [.lit (.bool false)], args := [d1, d2, d3, d4, d5, d6] }
  | _ => none }
def IrvPossibleWrongFalsely : Prop := irvPossibleRow.holds Try.pinned (OpenSpec.ofChange irvPossibleWrong)

/-- 'electionlaw26.IrvSums': WHATEVER THE INPUT: true; the input reads as it did. -/
def irvSumsSpec : ChangeSpec := { name := "irvSums", fn := fun _ => fun
  | [d1, d2, d3, d4] => { results := [.lit (.bool true)], args := [d1, d2, d3, d4] }
  | _ => none }
def irvSumsRow : OpenClaim := { program := "ytbnhgmikegdppaa", sum := "fb8b5b72b19e0284d1a025a9e58e3500b6bd42ef06d16780be0b8790a29c3b91", func := "election/electionlaw26.IrvSums", spec := "irvSums", unfollowed := true, recurses := true, apart := false }
def IrvSumsSaid : Prop := irvSumsRow.holds Try.pinned (OpenSpec.ofChange irvSumsSpec)

/-- ITS FALSE NEIGHBOUR: 'it returns false'. Refute it at one input. -/
def irvSumsWrong : ChangeSpec := { name := "irvSums", fn := fun _ => fun
  | [d1, d2, d3, d4] => { results := [.lit (.bool false)], args := [d1, d2, d3, d4] }
  | _ => none }
def IrvSumsWrongFalsely : Prop := irvSumsRow.holds Try.pinned (OpenSpec.ofChange irvSumsWrong)

/-- 'electionlaw26.IrvRenames': WHATEVER THE INPUT: true; the input reads as it did. -/
def irvRenamesSpec : ChangeSpec := { name := "irvRenames", fn := fun _ => fun
  | [d1, d2, d3, d4, d5] => { results := [.lit (.bool true)], args := [d1, d2, d3, d4, d5] }
  | _ => none }
def irvRenamesRow : OpenClaim := { program := "ytbnhgmikegdppaa", sum := "fb8b5b72b19e0284d1a025a9e58e3500b6bd42ef06d16780be0b8790a29c3b91", func := "election/electionlaw26.IrvRenames", spec := "irvRenames", unfollowed := true, recurses := true, apart := false }
def IrvRenamesSaid : Prop := irvRenamesRow.holds Try.pinned (OpenSpec.ofChange irvRenamesSpec)

/-- ITS FALSE NEIGHBOUR: 'it returns false'. Refute it at one input. -/
def irvRenamesWrong : ChangeSpec := { name := "irvRenames", fn := fun _ => fun
  | [d1, d2, d3, d4, d5] => { results := [.lit (.bool false)], args := [d1, d2, d3, d4, d5] }
  | _ => none }
def IrvRenamesWrongFalsely : Prop := irvRenamesRow.holds Try.pinned (OpenSpec.ofChange irvRenamesWrong)

/-- 'electionlaw26.IrvBlank': WHATEVER THE INPUT: true; the input reads as it did. -/
def irvBlankSpec : ChangeSpec := { name := "irvBlank", fn := fun _ => fun
  | [d1, d2, d3, d4, d5] => { results := [.lit (.bool true)], args := [d1, d2, d3, d4, d5] }
  | _ => none }
def irvBlankRow : OpenClaim := { program := "ytbnhgmikegdppaa", sum := "fb8b5b72b19e0284d1a025a9e58e3500b6bd42ef06d16780be0b8790a29c3b91", func := "election/electionlaw26.IrvBlank", spec := "irvBlank", unfollowed := true, recurses := true, apart := false }
def IrvBlankSaid : Prop := irvBlankRow.holds Try.pinned (OpenSpec.ofChange irvBlankSpec)

/-- ITS FALSE NEIGHBOUR: 'it returns false'. Refute it at one input. -/
def irvBlankWrong : ChangeSpec := { name := "irvBlank", fn := fun _ => fun
  | [d1, d2, d3, d4, d5] => { results := [.lit (.bool false)], args := [d1, d2, d3, d4, d5] }
  | _ => none }
def IrvBlankWrongFalsely : Prop := irvBlankRow.holds Try.pinned (OpenSpec.ofChange irvBlankWrong)

/-- 'electionlaw26.IrvClones': WHATEVER THE INPUT: true; the input reads as it did. -/
def irvClonesSpec : ChangeSpec := { name := "irvClones", fn := fun _ => fun
  | [d1, d2, d3, d4] => { results := [.lit (.bool true)], args := [d1, d2, d3, d4] }
  | _ => none }
def irvClonesRow : OpenClaim := { program := "ytbnhgmikegdppaa", sum := "fb8b5b72b19e0284d1a025a9e58e3500b6bd42ef06d16780be0b8790a29c3b91", func := "election/electionlaw26.IrvClones", spec := "irvClones", unfollowed := true, recurses := true, apart := false }
def IrvClonesSaid : Prop := irvClonesRow.holds Try.pinned (OpenSpec.ofChange irvClonesSpec)

/-- ITS FALSE NEIGHBOUR: 'it returns false'. Refute it at one input. -/
def irvClonesWrong : ChangeSpec := { name := "irvClones", fn := fun _ => fun
  | [d1, d2, d3, d4] => { results := [.lit (.bool false)], args := [d1, d2, d3, d4] }
  | _ => none }
def IrvClonesWrongFalsely : Prop := irvClonesRow.holds Try.pinned (OpenSpec.ofChange irvClonesWrong)

/-- 'electionlaw26.IrvCoalition': WHATEVER THE INPUT: true; the input reads as it did. -/
def irvCoalitionSpec : ChangeSpec := { name := "irvCoalition", fn := fun _ => fun
  | [d1, d2, d3, d4] => { results := [.lit (.bool true)], args := [d1, d2, d3, d4] }
  | _ => none }
def irvCoalitionRow : OpenClaim := { program := "ytbnhgmikegdppaa", sum := "fb8b5b72b19e0284d1a025a9e58e3500b6bd42ef06d16780be0b8790a29c3b91", func := "election/electionlaw26.IrvCoalition", spec := "irvCoalition", unfollowed := true, recurses := true, apart := false }
def IrvCoalitionSaid : Prop := irvCoalitionRow.holds Try.pinned (OpenSpec.ofChange irvCoalitionSpec)

/-- ITS FALSE NEIGHBOUR: 'it returns false'. Refute it at one input. -/
def irvCoalitionWrong : ChangeSpec := { name := "irvCoalition", fn := fun _ => fun
  | [d1, d2, d3, d4] => { results := [.lit (.bool false)], args := [d1, d2, d3, d4] }
  | _ => none }
def IrvCoalitionWrongFalsely : Prop := irvCoalitionRow.holds Try.pinned (OpenSpec.ofChange irvCoalitionWrong)

/-- 'electionlaw26.IrvLoser': WHATEVER THE INPUT: true; the input reads as it did. -/
def irvLoserSpec : ChangeSpec := { name := "irvLoser", fn := fun _ => fun
  | [d1, d2, d3] => { results := [.lit (.bool true)], args := [d1, d2, d3] }
  | _ => none }
def irvLoserRow : OpenClaim := { program := "ytbnhgmikegdppaa", sum := "fb8b5b72b19e0284d1a025a9e58e3500b6bd42ef06d16780be0b8790a29c3b91", func := "election/electionlaw26.IrvLoser", spec := "irvLoser", unfollowed := true, recurses := true, apart := false }
def IrvLoserSaid : Prop := irvLoserRow.holds Try.pinned (OpenSpec.ofChange irvLoserSpec)

/-- ITS FALSE NEIGHBOUR: 'it returns false'. Refute it at one input. -/
def irvLoserWrong : ChangeSpec := { name := "irvLoser", fn := fun _ => fun
  | [d1, d2, d3] => { results := [.lit (.bool false)], args := [d1, d2, d3] }
  | _ => none }
def IrvLoserWrongFalsely : Prop := irvLoserRow.holds Try.pinned (OpenSpec.ofChange irvLoserWrong)

/- THE SECOND FORM. 'bulk': how many values and letters a reading holds, each counted each time it is reached (what is shared counts as often as it is met; a slice's spare places count too). A statement '..UptoSaid' is the law's where the arguments, and the package variables that the reading takes, are together of bulk at most 1048576: NARROWER than '..Said'. Prove '..Said' where nothing that the law and all that it calls make is longer than what came in: it says more and counts as full. Else prove '..UptoSaid'. A law counts once. -/
mutual
def uptoBulk {H : Type} : DataW H → Nat
  | .lit (.string bytes) => bytes.length + 1
  | .lit _ => 1
  | .nil => 1
  | .ptr d => uptoBulk d + 1
  | .slice elems spare => uptoBulkAll elems + uptoBulkAll spare + 1
  | .agg parts => uptoBulkAll parts + 1
  | .iface _ d => uptoBulk d + 1
  | .map entries => uptoBulkEntries entries + 1
  | .held _ => 1
def uptoBulkAll {H : Type} : List (DataW H) → Nat
  | [] => 0
  | d :: r => uptoBulk d + uptoBulkAll r
def uptoBulkEntries {H : Type} : List (Lit × DataW H) → Nat
  | [] => 0
  | x :: r => uptoBulkEntry x + uptoBulkEntries r
def uptoBulkEntry {H : Type} : Lit × DataW H → Nat
  | (.string bytes, d) => bytes.length + uptoBulk d + 1
  | (_, d) => uptoBulk d + 1
 end
def uptoSmall : (H : Type) → List (DataW H) → Bool := fun _ ds => decide (uptoBulkAll ds ≤ 1048576)
def OpenSpec.upto (s : _root_.Go.ChangeSpec) : _root_.Go.OpenSpec := { _root_.Go.OpenSpec.ofChange s with cond := some uptoSmall }

/-- 'electionlaw26.IrvPossible', WHERE WHAT IT READS IS OF BULK AT MOST 1048576: true; the input reads as it did. -/
def irvPossibleUptoRow : OpenClaim := { program := "ytbnhgmikegdppaa", sum := "fb8b5b72b19e0284d1a025a9e58e3500b6bd42ef06d16780be0b8790a29c3b91", func := "election/electionlaw26.IrvPossible", spec := "irvPossible", unfollowed := true, recurses := true, apart := false, narrowed := true }
def IrvPossibleUptoSaid : Prop := irvPossibleUptoRow.holds Try.pinned (OpenSpec.upto irvPossibleSpec)

/-- 'electionlaw26.IrvSums', WHERE WHAT IT READS IS OF BULK AT MOST 1048576: true; the input reads as it did. -/
def irvSumsUptoRow : OpenClaim := { program := "ytbnhgmikegdppaa", sum := "fb8b5b72b19e0284d1a025a9e58e3500b6bd42ef06d16780be0b8790a29c3b91", func := "election/electionlaw26.IrvSums", spec := "irvSums", unfollowed := true, recurses := true, apart := false, narrowed := true }
def IrvSumsUptoSaid : Prop := irvSumsUptoRow.holds Try.pinned (OpenSpec.upto irvSumsSpec)

/-- 'electionlaw26.IrvRenames', WHERE WHAT IT READS IS OF BULK AT MOST 1048576: true; the input reads as it did. -/
def irvRenamesUptoRow : OpenClaim := { program := "ytbnhgmikegdppaa", sum := "fb8b5b72b19e0284d1a025a9e58e3500b6bd42ef06d16780be0b8790a29c3b91", func := "election/electionlaw26.IrvRenames", spec := "irvRenames", unfollowed := true, recurses := true, apart := false, narrowed := true }
def IrvRenamesUptoSaid : Prop := irvRenamesUptoRow.holds Try.pinned (OpenSpec.upto irvRenamesSpec)

/-- 'electionlaw26.IrvBlank', WHERE WHAT IT READS IS OF BULK AT MOST 1048576: true; the input reads as it did. -/
def irvBlankUptoRow : OpenClaim := { program := "ytbnhgmikegdppaa", sum := "fb8b5b72b19e0284d1a025a9e58e3500b6bd42ef06d16780be0b8790a29c3b91", func := "election/electionlaw26.IrvBlank", spec := "irvBlank", unfollowed := true, recurses := true, apart := false, narrowed := true }
def IrvBlankUptoSaid : Prop := irvBlankUptoRow.holds Try.pinned (OpenSpec.upto irvBlankSpec)

/-- 'electionlaw26.IrvClones', WHERE WHAT IT READS IS OF BULK AT MOST 1048576: true; the input reads as it did. -/
def irvClonesUptoRow : OpenClaim := { program := "ytbnhgmikegdppaa", sum := "fb8b5b72b19e0284d1a025a9e58e3500b6bd42ef06d16780be0b8790a29c3b91", func := "election/electionlaw26.IrvClones", spec := "irvClones", unfollowed := true, recurses := true, apart := false, narrowed := true }
def IrvClonesUptoSaid : Prop := irvClonesUptoRow.holds Try.pinned (OpenSpec.upto irvClonesSpec)

/-- 'electionlaw26.IrvCoalition', WHERE WHAT IT READS IS OF BULK AT MOST 1048576: true; the input reads as it did. -/
def irvCoalitionUptoRow : OpenClaim := { program := "ytbnhgmikegdppaa", sum := "fb8b5b72b19e0284d1a025a9e58e3500b6bd42ef06d16780be0b8790a29c3b91", func := "election/electionlaw26.IrvCoalition", spec := "irvCoalition", unfollowed := true, recurses := true, apart := false, narrowed := true }
def IrvCoalitionUptoSaid : Prop := irvCoalitionUptoRow.holds Try.pinned (OpenSpec.upto irvCoalitionSpec)

/-- 'electionlaw26.IrvLoser', WHERE WHAT IT READS IS OF BULK AT MOST 1048576: true; the input reads as it did. -/
def irvLoserUptoRow : OpenClaim := { program := "ytbnhgmikegdppaa", sum := "fb8b5b72b19e0284d1a025a9e58e3500b6bd42ef06d16780be0b8790a29c3b91", func := "election/electionlaw26.IrvLoser", spec := "irvLoser", unfollowed := true, recurses := true, apart := false, narrowed := true }
def IrvLoserUptoSaid : Prop := irvLoserUptoRow.holds Try.pinned (OpenSpec.upto irvLoserSpec)

end Rows
end Go.Proofs.Ytbnhgmikegdppaa
