/-
  No cell of these rows narrows 'for every input' (looked for: loops, veiled, ifaces, maps, wideKeys, modest, calm, conditions, laid).
  DERIVED. THE GIVEN ROWS OF THIS SEAT. 5 by the template 'for every input the law returns true; each argument reads behind the call as it read before'; 0 by the template 'total and deterministic' (their statements: YthplbhgbgcfogaaTotals.lean).
  GIVEN WITH THE SEED: the statements are not yours to turn. If you find one false, say at which input.
  Laid BY PROGRAM, IN A SANDBOX (cutbox-rows.mjs): the forced cells as the released guide's own fill.sh prints them over the translation 312c11e1c1f11585… (all of the seat's roots in one cut). By AI agents, Wed Nov 11 2026. No macro, syntax, notation, axiom, sorry.
-/
import Derived.Test.YthplbhgbgcfogaaChecked
import GoSem.Claim
import GoSem.ClaimJoined
import GoSem.ClaimMapViews
import Derived.JoinedTies
import Derived.KernelRfl
namespace Go.Proofs.Ythplbhgbgcfogaa
/- THE CELL 'sum', in the pinned program and in every row, IS THE sha256 OF THE DUMP (.gsa) THAT YthplbhgbgcfogaaProg.lean LOADS. Nothing in Lean hashes anything: it is a label: what it is worth is what the hold of that sum in a sandbox is worth. -/
noncomputable def Try.pinned : Pinned := { name := "ythplbhgbgcfogaa", sum := "312c11e1c1f11585c19ebe1be1aadcf7e57f1b57c99a7b5463a23c2008e5e8ae", checked := Try.checked }
namespace Rows
def none {H : Type} : Left H := { results := [], args := [] }

/-- 'electionlaw25.TieTells': WHATEVER THE INPUT: true; the input reads as it did. -/
def tieTellsSpec : ChangeSpec := { name := "tieTells", fn := fun _ => fun
  | [d1, d2, d3, d4, d5, d6, d7, d8, d9] => { results := [.lit (.bool true)], args := [d1, d2, d3, d4, d5, d6, d7, d8, d9] }
  | _ => none }
def tieTellsRow : OpenClaim := { program := "ythplbhgbgcfogaa", sum := "312c11e1c1f11585c19ebe1be1aadcf7e57f1b57c99a7b5463a23c2008e5e8ae", func := "election/electionlaw25.TieTells", spec := "tieTells", unfollowed := true, recurses := true, apart := false }
def TieTellsSaid : Prop := tieTellsRow.holds Try.pinned (OpenSpec.ofChange tieTellsSpec)

/-- ITS FALSE NEIGHBOUR: 'it returns false'. Refute it at one input. -/
def tieTellsWrong : ChangeSpec := { name := "tieTells", fn := fun _ => fun
  | [d1, d2, d3, d4, d5, d6, d7, d8, d9] => { results := [.lit (.bool false)], args := [d1, d2, d3, d4, d5, d6, d7, d8, d9] }
  | _ => none }
def TieTellsWrongFalsely : Prop := tieTellsRow.holds Try.pinned (OpenSpec.ofChange tieTellsWrong)

/-- 'electionlaw25.TieReverses': WHATEVER THE INPUT: true; the input reads as it did. -/
def tieReversesSpec : ChangeSpec := { name := "tieReverses", fn := fun _ => fun
  | [d1, d2, d3, d4, d5, d6] => { results := [.lit (.bool true)], args := [d1, d2, d3, d4, d5, d6] }
  | _ => none }
def tieReversesRow : OpenClaim := { program := "ythplbhgbgcfogaa", sum := "312c11e1c1f11585c19ebe1be1aadcf7e57f1b57c99a7b5463a23c2008e5e8ae", func := "election/electionlaw25.TieReverses", spec := "tieReverses", unfollowed := true, recurses := true, apart := false }
def TieReversesSaid : Prop := tieReversesRow.holds Try.pinned (OpenSpec.ofChange tieReversesSpec)

/-- ITS FALSE NEIGHBOUR: 'it returns false'. Refute it at one input. -/
def tieReversesWrong : ChangeSpec := { name := "tieReverses", fn := fun _ => fun
  | [d1, d2, d3, d4, d5, d6] => { results := [.lit (.bool false)], args := [d1, d2, d3, d4, d5, d6] }
  | _ => none }
def TieReversesWrongFalsely : Prop := tieReversesRow.holds Try.pinned (OpenSpec.ofChange tieReversesWrong)

/-- 'electionlaw25.TieLots': WHATEVER THE INPUT: true; the input reads as it did. -/
def tieLotsSpec : ChangeSpec := { name := "tieLots", fn := fun _ => fun
  | [d1, d2, d3, d4, d5] => { results := [.lit (.bool true)], args := [d1, d2, d3, d4, d5] }
  | _ => none }
def tieLotsRow : OpenClaim := { program := "ythplbhgbgcfogaa", sum := "312c11e1c1f11585c19ebe1be1aadcf7e57f1b57c99a7b5463a23c2008e5e8ae", func := "election/electionlaw25.TieLots", spec := "tieLots", unfollowed := true, recurses := true, apart := false }
def TieLotsSaid : Prop := tieLotsRow.holds Try.pinned (OpenSpec.ofChange tieLotsSpec)

/-- ITS FALSE NEIGHBOUR: 'it returns false'. Refute it at one input. -/
def tieLotsWrong : ChangeSpec := { name := "tieLots", fn := fun _ => fun
  | [d1, d2, d3, d4, d5] => { results := [.lit (.bool false)], args := [d1, d2, d3, d4, d5] }
  | _ => none }
def TieLotsWrongFalsely : Prop := tieLotsRow.holds Try.pinned (OpenSpec.ofChange tieLotsWrong)

/-- 'electionlaw25.TieDecides': WHATEVER THE INPUT: true; the input reads as it did. -/
def tieDecidesSpec : ChangeSpec := { name := "tieDecides", fn := fun _ => fun
  | [d1, d2, d3, d4, d5, d6] => { results := [.lit (.bool true)], args := [d1, d2, d3, d4, d5, d6] }
  | _ => none }
def tieDecidesRow : OpenClaim := { program := "ythplbhgbgcfogaa", sum := "312c11e1c1f11585c19ebe1be1aadcf7e57f1b57c99a7b5463a23c2008e5e8ae", func := "election/electionlaw25.TieDecides", spec := "tieDecides", unfollowed := true, recurses := true, apart := false }
def TieDecidesSaid : Prop := tieDecidesRow.holds Try.pinned (OpenSpec.ofChange tieDecidesSpec)

/-- ITS FALSE NEIGHBOUR: 'it returns false'. Refute it at one input. -/
def tieDecidesWrong : ChangeSpec := { name := "tieDecides", fn := fun _ => fun
  | [d1, d2, d3, d4, d5, d6] => { results := [.lit (.bool false)], args := [d1, d2, d3, d4, d5, d6] }
  | _ => none }
def TieDecidesWrongFalsely : Prop := tieDecidesRow.holds Try.pinned (OpenSpec.ofChange tieDecidesWrong)

/-- 'electionlaw25.TieRenames': WHATEVER THE INPUT: true; the input reads as it did. -/
def tieRenamesSpec : ChangeSpec := { name := "tieRenames", fn := fun _ => fun
  | [d1, d2, d3, d4, d5, d6, d7, d8] => { results := [.lit (.bool true)], args := [d1, d2, d3, d4, d5, d6, d7, d8] }
  | _ => none }
def tieRenamesRow : OpenClaim := { program := "ythplbhgbgcfogaa", sum := "312c11e1c1f11585c19ebe1be1aadcf7e57f1b57c99a7b5463a23c2008e5e8ae", func := "election/electionlaw25.TieRenames", spec := "tieRenames", unfollowed := true, recurses := true, apart := false }
def TieRenamesSaid : Prop := tieRenamesRow.holds Try.pinned (OpenSpec.ofChange tieRenamesSpec)

/-- ITS FALSE NEIGHBOUR: 'it returns false'. Refute it at one input. -/
def tieRenamesWrong : ChangeSpec := { name := "tieRenames", fn := fun _ => fun
  | [d1, d2, d3, d4, d5, d6, d7, d8] => { results := [.lit (.bool false)], args := [d1, d2, d3, d4, d5, d6, d7, d8] }
  | _ => none }
def TieRenamesWrongFalsely : Prop := tieRenamesRow.holds Try.pinned (OpenSpec.ofChange tieRenamesWrong)

/- THE SECOND FORM. 'bulk': how many values and letters a reading holds, each counted each time it is reached (what is shared counts as often as it is met; a slice's spare places count too). A statement '..UptoSaid' is the law's where the arguments, and the package variables that the reading takes, are together of bulk at most 1048576: NARROWER than '..Said'. Prove '..Said' where nothing that the law and all that it calls make is longer than what came in: it says more and counts as full. Else prove '..UptoSaid'. A law counts once. -/
mutual
def uptoBulk {H : Type} : DataW H → Nat
  | .lit (.string bytes) => bytes.length + 1
  | .lit _ => 1
  | .nil => 1
  | .ptr d => uptoBulk d + 1
  | .slice elems spare => uptoBulkAll elems + uptoBulkAll spare + 1
  | .agg parts => uptoBulkAll parts + 1
  | .iface _ d => uptoBulk d + 1
  | .map entries => uptoBulkEntries entries + 1
  | .held _ => 1
def uptoBulkAll {H : Type} : List (DataW H) → Nat
  | [] => 0
  | d :: r => uptoBulk d + uptoBulkAll r
def uptoBulkEntries {H : Type} : List (Lit × DataW H) → Nat
  | [] => 0
  | x :: r => uptoBulkEntry x + uptoBulkEntries r
def uptoBulkEntry {H : Type} : Lit × DataW H → Nat
  | (.string bytes, d) => bytes.length + uptoBulk d + 1
  | (_, d) => uptoBulk d + 1
 end
def uptoSmall : (H : Type) → List (DataW H) → Bool := fun _ ds => decide (uptoBulkAll ds ≤ 1048576)
def OpenSpec.upto (s : _root_.Go.ChangeSpec) : _root_.Go.OpenSpec := { _root_.Go.OpenSpec.ofChange s with cond := some uptoSmall }

/-- 'electionlaw25.TieTells', WHERE WHAT IT READS IS OF BULK AT MOST 1048576: true; the input reads as it did. -/
def tieTellsUptoRow : OpenClaim := { program := "ythplbhgbgcfogaa", sum := "312c11e1c1f11585c19ebe1be1aadcf7e57f1b57c99a7b5463a23c2008e5e8ae", func := "election/electionlaw25.TieTells", spec := "tieTells", unfollowed := true, recurses := true, apart := false, narrowed := true }
def TieTellsUptoSaid : Prop := tieTellsUptoRow.holds Try.pinned (OpenSpec.upto tieTellsSpec)

/-- 'electionlaw25.TieReverses', WHERE WHAT IT READS IS OF BULK AT MOST 1048576: true; the input reads as it did. -/
def tieReversesUptoRow : OpenClaim := { program := "ythplbhgbgcfogaa", sum := "312c11e1c1f11585c19ebe1be1aadcf7e57f1b57c99a7b5463a23c2008e5e8ae", func := "election/electionlaw25.TieReverses", spec := "tieReverses", unfollowed := true, recurses := true, apart := false, narrowed := true }
def TieReversesUptoSaid : Prop := tieReversesUptoRow.holds Try.pinned (OpenSpec.upto tieReversesSpec)

/-- 'electionlaw25.TieLots', WHERE WHAT IT READS IS OF BULK AT MOST 1048576: true; the input reads as it did. -/
def tieLotsUptoRow : OpenClaim := { program := "ythplbhgbgcfogaa", sum := "312c11e1c1f11585c19ebe1be1aadcf7e57f1b57c99a7b5463a23c2008e5e8ae", func := "election/electionlaw25.TieLots", spec := "tieLots", unfollowed := true, recurses := true, apart := false, narrowed := true }
def TieLotsUptoSaid : Prop := tieLotsUptoRow.holds Try.pinned (OpenSpec.upto tieLotsSpec)

/-- 'electionlaw25.TieDecides', WHERE WHAT IT READS IS OF BULK AT MOST 1048576: true; the input reads as it did. -/
def tieDecidesUptoRow : OpenClaim := { program := "ythplbhgbgcfogaa", sum := "312c11e1c1f11585c19ebe1be1aadcf7e57f1b57c99a7b5463a23c2008e5e8ae", func := "election/electionlaw25.TieDecides", spec := "tieDecides", unfollowed := true, recurses := true, apart := false, narrowed := true }
def TieDecidesUptoSaid : Prop := tieDecidesUptoRow.holds Try.pinned (OpenSpec.upto tieDecidesSpec)

/-- 'electionlaw25.TieRenames', WHERE WHAT IT READS IS OF BULK AT MOST 1048576: true; the input reads as it did. -/
def tieRenamesUptoRow : OpenClaim := { program := "ythplbhgbgcfogaa", sum := "312c11e1c1f11585c19ebe1be1aadcf7e57f1b57c99a7b5463a23c2008e5e8ae", func := "election/electionlaw25.TieRenames", spec := "tieRenames", unfollowed := true, recurses := true, apart := false, narrowed := true }
def TieRenamesUptoSaid : Prop := tieRenamesUptoRow.holds Try.pinned (OpenSpec.upto tieRenamesSpec)

end Rows
end Go.Proofs.Ythplbhgbgcfogaa
