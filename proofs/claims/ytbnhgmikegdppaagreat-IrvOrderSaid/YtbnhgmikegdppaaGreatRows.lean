/-
  No cell of these rows narrows 'for every input' (looked for: loops, veiled, ifaces, maps, wideKeys, modest, calm, conditions, laid).
  DERIVED. THE GIVEN ROWS OF THIS SEAT. 2 by the template 'for every input the law returns true; each argument reads behind the call as it read before'; 0 by the template 'total and deterministic' (their statements: YtbnhgmikegdppaaGreatTotals.lean).
  GIVEN WITH THE SEED: the statements are not yours to turn. If you find one false, say at which input.
  Laid BY PROGRAM, IN A SANDBOX (cutbox-rows.mjs): the forced cells as the released guide's own fill.sh prints them over the translation 15abaa2186745017… (all of the seat's roots in one cut). By AI agents, Wed Nov 11 2026. No macro, syntax, notation, axiom, sorry.
-/
import Derived.Test.YtbnhgmikegdppaaGreatChecked
import GoSem.Claim
import GoSem.ClaimJoined
import GoSem.ClaimMapViews
import Derived.JoinedTies
import Derived.KernelRfl
namespace Go.Proofs.YtbnhgmikegdppaaGreat
/- THE CELL 'sum', in the pinned program and in every row, IS THE sha256 OF THE DUMP (.gsa) THAT YtbnhgmikegdppaaGreatProg.lean LOADS. Nothing in Lean hashes anything: it is a label: what it is worth is what the hold of that sum in a sandbox is worth. -/
noncomputable def Tryz.pinned : Pinned := { name := "ytbnhgmikegdppaagreat", sum := "15abaa218674501786c087ac56e3ad35a3de24f01c10b4216a043bc5f8e7de4e", checked := Tryz.checked }
namespace Rows
def none {H : Type} : Left H := { results := [], args := [] }

/-- 'electionlaw26.IrvCounts': WHATEVER THE INPUT: true; the input reads as it did. -/
def irvCountsSpec : ChangeSpec := { name := "irvCounts", fn := fun _ => fun
  | [d1, d2, d3, d4, d5, d6, d7] => { results := [.lit (.bool true)], args := [d1, d2, d3, d4, d5, d6, d7] }
  | _ => none }
def irvCountsRow : OpenClaim := { program := "ytbnhgmikegdppaagreat", sum := "15abaa218674501786c087ac56e3ad35a3de24f01c10b4216a043bc5f8e7de4e", func := "election/electionlaw26.IrvCounts", spec := "irvCounts", unfollowed := true, recurses := true, apart := false }
def IrvCountsSaid : Prop := irvCountsRow.holds Tryz.pinned (OpenSpec.ofChange irvCountsSpec)

/-- ITS FALSE NEIGHBOUR: 'it returns false'. Refute it at one input. -/
def irvCountsWrong : ChangeSpec := { name := "irvCounts", fn := fun _ => fun
  | [d1, d2, d3, d4, d5, d6, d7] => { results := [.lit (.bool false)], args := [d1, d2, d3, d4, d5, d6, d7] }
  | _ => none }
def IrvCountsWrongFalsely : Prop := irvCountsRow.holds Tryz.pinned (OpenSpec.ofChange irvCountsWrong)

/-- 'electionlaw26.IrvOrder': WHATEVER THE INPUT: true; the input reads as it did. -/
def irvOrderSpec : ChangeSpec := { name := "irvOrder", fn := fun _ => fun
  | [d1, d2, d3, d4, d5] => { results := [.lit (.bool true)], args := [d1, d2, d3, d4, d5] }
  | _ => none }
def irvOrderRow : OpenClaim := { program := "ytbnhgmikegdppaagreat", sum := "15abaa218674501786c087ac56e3ad35a3de24f01c10b4216a043bc5f8e7de4e", func := "election/electionlaw26.IrvOrder", spec := "irvOrder", unfollowed := true, recurses := true, apart := false }
def IrvOrderSaid : Prop := irvOrderRow.holds Tryz.pinned (OpenSpec.ofChange irvOrderSpec)

/-- ITS FALSE NEIGHBOUR: 'it returns false'. Refute it at one input. -/
def irvOrderWrong : ChangeSpec := { name := "irvOrder", fn := fun _ => fun
  | [d1, d2, d3, d4, d5] => { results := [.lit (.bool false)], args := [d1, d2, d3, d4, d5] }
  | _ => none }
def IrvOrderWrongFalsely : Prop := irvOrderRow.holds Tryz.pinned (OpenSpec.ofChange irvOrderWrong)

/- THE SECOND FORM. 'bulk': how many values and letters a reading holds, each counted each time it is reached (what is shared counts as often as it is met; a slice's spare places count too). A statement '..UptoSaid' is the law's where the arguments, and the package variables that the reading takes, are together of bulk at most 1048576: NARROWER than '..Said'. Prove '..Said' where nothing that the law and all that it calls make is longer than what came in: it says more and counts as full. Else prove '..UptoSaid'. A law counts once. -/
mutual
def uptoBulk {H : Type} : DataW H → Nat
  | .lit (.string bytes) => bytes.length + 1
  | .lit _ => 1
  | .nil => 1
  | .ptr d => uptoBulk d + 1
  | .slice elems spare => uptoBulkAll elems + uptoBulkAll spare + 1
  | .agg parts => uptoBulkAll parts + 1
  | .iface _ d => uptoBulk d + 1
  | .map entries => uptoBulkEntries entries + 1
  | .held _ => 1
def uptoBulkAll {H : Type} : List (DataW H) → Nat
  | [] => 0
  | d :: r => uptoBulk d + uptoBulkAll r
def uptoBulkEntries {H : Type} : List (Lit × DataW H) → Nat
  | [] => 0
  | x :: r => uptoBulkEntry x + uptoBulkEntries r
def uptoBulkEntry {H : Type} : Lit × DataW H → Nat
  | (.string bytes, d) => bytes.length + uptoBulk d + 1
  | (_, d) => uptoBulk d + 1
 end
def uptoSmall : (H : Type) → List (DataW H) → Bool := fun _ ds => decide (uptoBulkAll ds ≤ 1048576)
def OpenSpec.upto (s : _root_.Go.ChangeSpec) : _root_.Go.OpenSpec := { _root_.Go.OpenSpec.ofChange s with cond := some uptoSmall }

/-- 'electionlaw26.IrvCounts', WHERE WHAT IT READS IS OF BULK AT MOST 1048576: true; the input reads as it did. -/
def irvCountsUptoRow : OpenClaim := { program := "ytbnhgmikegdppaagreat", sum := "15abaa218674501786c087ac56e3ad35a3de24f01c10b4216a043bc5f8e7de4e", func := "election/electionlaw26.IrvCounts", spec := "irvCounts", unfollowed := true, recurses := true, apart := false, narrowed := true }
def IrvCountsUptoSaid : Prop := irvCountsUptoRow.holds Tryz.pinned (OpenSpec.upto irvCountsSpec)

/-- 'electionlaw26.IrvOrder', WHERE WHAT IT READS IS OF BULK AT MOST 1048576: true; the input reads as it did. -/
def irvOrderUptoRow : OpenClaim := { program := "ytbnhgmikegdppaagreat", sum := "15abaa218674501786c087ac56e3ad35a3de24f01c10b4216a043bc5f8e7de4e", func := "election/electionlaw26.IrvOrder", spec := "irvOrder", unfollowed := true, recurses := true, apart := false, narrowed := true }
def IrvOrderUptoSaid : Prop := irvOrderUptoRow.holds Tryz.pinned (OpenSpec.upto irvOrderSpec)

end Rows
end Go.Proofs.YtbnhgmikegdppaaGreat
