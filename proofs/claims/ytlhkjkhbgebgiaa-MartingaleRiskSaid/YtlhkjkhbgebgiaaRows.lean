/-
  No cell of these rows narrows 'for every input' (looked for: loops, veiled, ifaces, maps, wideKeys, modest, calm, conditions, laid).
  DERIVED. THE GIVEN ROWS OF THIS SEAT. 5 by the template 'for every input the law returns true; each argument reads behind the call as it read before'; 0 by the template 'total and deterministic' (their statements: YtlhkjkhbgebgiaaTotals.lean).
  GIVEN WITH THE SEED: the statements are not yours to turn. If you find one false, say at which input.
  Laid BY PROGRAM, IN A SANDBOX (cutbox-rows.mjs): the forced cells as the released guide's own fill.sh prints them over the translation 8fb8289fe9900127… (all of the seat's roots in one cut). By AI agents, Wed Nov 11 2026. No macro, syntax, notation, axiom, sorry.
-/
import Derived.Test.YtlhkjkhbgebgiaaChecked
import GoSem.Claim
import GoSem.ClaimJoined
import GoSem.ClaimMapViews
import Derived.JoinedTies
import Derived.KernelRfl
namespace Go.Proofs.Ytlhkjkhbgebgiaa
/- THE CELL 'sum', in the pinned program and in every row, IS THE sha256 OF THE DUMP (.gsa) THAT YtlhkjkhbgebgiaaProg.lean LOADS. Nothing in Lean hashes anything: it is a label: what it is worth is what the hold of that sum in a sandbox is worth. -/
noncomputable def Try.pinned : Pinned := { name := "ytlhkjkhbgebgiaa", sum := "8fb8289fe9900127aa4c8c125cce3574858c28ccd19d1c82730deaf36d13d190", checked := Try.checked }
namespace Rows
def none {H : Type} : Left H := { results := [], args := [] }

/-- 'electionlaw37.MartingaleRisk': WHATEVER THE INPUT: true; the input reads as it did. -/
def martingaleRiskSpec : ChangeSpec := { name := "martingaleRisk", fn := fun _ => fun
  | [d1, d2, d3, d4, d5] => { results := [.lit (.bool true)], args := [d1, d2, d3, d4, d5] }
  | _ => none }
def martingaleRiskRow : OpenClaim := { program := "ytlhkjkhbgebgiaa", sum := "8fb8289fe9900127aa4c8c125cce3574858c28ccd19d1c82730deaf36d13d190", func := "election/electionlaw37.MartingaleRisk", spec := "martingaleRisk", apart := false }
def MartingaleRiskSaid : Prop := martingaleRiskRow.holds Try.pinned (OpenSpec.ofChange martingaleRiskSpec)

/-- ITS FALSE NEIGHBOUR: 'it returns false'. Refute it at one input. -/
def martingaleRiskWrong : ChangeSpec := { name := "martingaleRisk", fn := fun _ => fun
  | [d1, d2, d3, d4, d5] => { results := [.lit (.bool false)], args := [d1, d2, d3, d4, d5] }
  | _ => none }
def MartingaleRiskWrongFalsely : Prop := martingaleRiskRow.holds Try.pinned (OpenSpec.ofChange martingaleRiskWrong)

/-- 'electionlaw37.MartingaleMean': WHATEVER THE INPUT: true; the input reads as it did. -/
def martingaleMeanSpec : ChangeSpec := { name := "martingaleMean", fn := fun _ => fun
  | [d1, d2, d3, d4] => { results := [.lit (.bool true)], args := [d1, d2, d3, d4] }
  | _ => none }
def martingaleMeanRow : OpenClaim := { program := "ytlhkjkhbgebgiaa", sum := "8fb8289fe9900127aa4c8c125cce3574858c28ccd19d1c82730deaf36d13d190", func := "election/electionlaw37.MartingaleMean", spec := "martingaleMean", apart := false }
def MartingaleMeanSaid : Prop := martingaleMeanRow.holds Try.pinned (OpenSpec.ofChange martingaleMeanSpec)

/-- ITS FALSE NEIGHBOUR: 'it returns false'. Refute it at one input. -/
def martingaleMeanWrong : ChangeSpec := { name := "martingaleMean", fn := fun _ => fun
  | [d1, d2, d3, d4] => { results := [.lit (.bool false)], args := [d1, d2, d3, d4] }
  | _ => none }
def MartingaleMeanWrongFalsely : Prop := martingaleMeanRow.holds Try.pinned (OpenSpec.ofChange martingaleMeanWrong)

/-- 'electionlaw37.MartingaleProven': WHATEVER THE INPUT: true; the input reads as it did. -/
def martingaleProvenSpec : ChangeSpec := { name := "martingaleProven", fn := fun _ => fun
  | [d1, d2, d3, d4] => { results := [.lit (.bool true)], args := [d1, d2, d3, d4] }
  | _ => none }
def martingaleProvenRow : OpenClaim := { program := "ytlhkjkhbgebgiaa", sum := "8fb8289fe9900127aa4c8c125cce3574858c28ccd19d1c82730deaf36d13d190", func := "election/electionlaw37.MartingaleProven", spec := "martingaleProven", apart := false }
def MartingaleProvenSaid : Prop := martingaleProvenRow.holds Try.pinned (OpenSpec.ofChange martingaleProvenSpec)

/-- ITS FALSE NEIGHBOUR: 'it returns false'. Refute it at one input. -/
def martingaleProvenWrong : ChangeSpec := { name := "martingaleProven", fn := fun _ => fun
  | [d1, d2, d3, d4] => { results := [.lit (.bool false)], args := [d1, d2, d3, d4] }
  | _ => none }
def MartingaleProvenWrongFalsely : Prop := martingaleProvenRow.holds Try.pinned (OpenSpec.ofChange martingaleProvenWrong)

/-- 'electionlaw37.MartingaleLimit': WHATEVER THE INPUT: true; the input reads as it did. -/
def martingaleLimitSpec : ChangeSpec := { name := "martingaleLimit", fn := fun _ => fun
  | [d1, d2, d3, d4, d5, d6, d7] => { results := [.lit (.bool true)], args := [d1, d2, d3, d4, d5, d6, d7] }
  | _ => none }
def martingaleLimitRow : OpenClaim := { program := "ytlhkjkhbgebgiaa", sum := "8fb8289fe9900127aa4c8c125cce3574858c28ccd19d1c82730deaf36d13d190", func := "election/electionlaw37.MartingaleLimit", spec := "martingaleLimit", apart := false }
def MartingaleLimitSaid : Prop := martingaleLimitRow.holds Try.pinned (OpenSpec.ofChange martingaleLimitSpec)

/-- ITS FALSE NEIGHBOUR: 'it returns false'. Refute it at one input. -/
def martingaleLimitWrong : ChangeSpec := { name := "martingaleLimit", fn := fun _ => fun
  | [d1, d2, d3, d4, d5, d6, d7] => { results := [.lit (.bool false)], args := [d1, d2, d3, d4, d5, d6, d7] }
  | _ => none }
def MartingaleLimitWrongFalsely : Prop := martingaleLimitRow.holds Try.pinned (OpenSpec.ofChange martingaleLimitWrong)

/-- 'electionlaw37.MartingaleSteps': WHATEVER THE INPUT: true; the input reads as it did. -/
def martingaleStepsSpec : ChangeSpec := { name := "martingaleSteps", fn := fun _ => fun
  | [d1, d2, d3, d4, d5, d6] => { results := [.lit (.bool true)], args := [d1, d2, d3, d4, d5, d6] }
  | _ => none }
def martingaleStepsRow : OpenClaim := { program := "ytlhkjkhbgebgiaa", sum := "8fb8289fe9900127aa4c8c125cce3574858c28ccd19d1c82730deaf36d13d190", func := "election/electionlaw37.MartingaleSteps", spec := "martingaleSteps", apart := false }
def MartingaleStepsSaid : Prop := martingaleStepsRow.holds Try.pinned (OpenSpec.ofChange martingaleStepsSpec)

/-- ITS FALSE NEIGHBOUR: 'it returns false'. Refute it at one input. -/
def martingaleStepsWrong : ChangeSpec := { name := "martingaleSteps", fn := fun _ => fun
  | [d1, d2, d3, d4, d5, d6] => { results := [.lit (.bool false)], args := [d1, d2, d3, d4, d5, d6] }
  | _ => none }
def MartingaleStepsWrongFalsely : Prop := martingaleStepsRow.holds Try.pinned (OpenSpec.ofChange martingaleStepsWrong)

/- THE SECOND FORM. 'bulk': how many values and letters a reading holds, each counted each time it is reached (what is shared counts as often as it is met; a slice's spare places count too). A statement '..UptoSaid' is the law's where the arguments, and the package variables that the reading takes, are together of bulk at most 1048576: NARROWER than '..Said'. Prove '..Said' where nothing that the law and all that it calls make is longer than what came in: it says more and counts as full. Else prove '..UptoSaid'. A law counts once. -/
mutual
def uptoBulk {H : Type} : DataW H → Nat
  | .lit (.string bytes) => bytes.length + 1
  | .lit _ => 1
  | .nil => 1
  | .ptr d => uptoBulk d + 1
  | .slice elems spare => uptoBulkAll elems + uptoBulkAll spare + 1
  | .agg parts => uptoBulkAll parts + 1
  | .iface _ d => uptoBulk d + 1
  | .map entries => uptoBulkEntries entries + 1
  | .held _ => 1
def uptoBulkAll {H : Type} : List (DataW H) → Nat
  | [] => 0
  | d :: r => uptoBulk d + uptoBulkAll r
def uptoBulkEntries {H : Type} : List (Lit × DataW H) → Nat
  | [] => 0
  | x :: r => uptoBulkEntry x + uptoBulkEntries r
def uptoBulkEntry {H : Type} : Lit × DataW H → Nat
  | (.string bytes, d) => bytes.length + uptoBulk d + 1
  | (_, d) => uptoBulk d + 1
 end
def uptoSmall : (H : Type) → List (DataW H) → Bool := fun _ ds => decide (uptoBulkAll ds ≤ 1048576)
def OpenSpec.upto (s : _root_.Go.ChangeSpec) : _root_.Go.OpenSpec := { _root_.Go.OpenSpec.ofChange s with cond := some uptoSmall }

/-- 'electionlaw37.MartingaleRisk', WHERE WHAT IT READS IS OF BULK AT MOST 1048576: true; the input reads as it did. -/
def martingaleRiskUptoRow : OpenClaim := { program := "ytlhkjkhbgebgiaa", sum := "8fb8289fe9900127aa4c8c125cce3574858c28ccd19d1c82730deaf36d13d190", func := "election/electionlaw37.MartingaleRisk", spec := "martingaleRisk", apart := false, narrowed := true }
def MartingaleRiskUptoSaid : Prop := martingaleRiskUptoRow.holds Try.pinned (OpenSpec.upto martingaleRiskSpec)

/-- 'electionlaw37.MartingaleMean', WHERE WHAT IT READS IS OF BULK AT MOST 1048576: true; the input reads as it did. -/
def martingaleMeanUptoRow : OpenClaim := { program := "ytlhkjkhbgebgiaa", sum := "8fb8289fe9900127aa4c8c125cce3574858c28ccd19d1c82730deaf36d13d190", func := "election/electionlaw37.MartingaleMean", spec := "martingaleMean", apart := false, narrowed := true }
def MartingaleMeanUptoSaid : Prop := martingaleMeanUptoRow.holds Try.pinned (OpenSpec.upto martingaleMeanSpec)

/-- 'electionlaw37.MartingaleProven', WHERE WHAT IT READS IS OF BULK AT MOST 1048576: true; the input reads as it did. -/
def martingaleProvenUptoRow : OpenClaim := { program := "ytlhkjkhbgebgiaa", sum := "8fb8289fe9900127aa4c8c125cce3574858c28ccd19d1c82730deaf36d13d190", func := "election/electionlaw37.MartingaleProven", spec := "martingaleProven", apart := false, narrowed := true }
def MartingaleProvenUptoSaid : Prop := martingaleProvenUptoRow.holds Try.pinned (OpenSpec.upto martingaleProvenSpec)

/-- 'electionlaw37.MartingaleLimit', WHERE WHAT IT READS IS OF BULK AT MOST 1048576: true; the input reads as it did. -/
def martingaleLimitUptoRow : OpenClaim := { program := "ytlhkjkhbgebgiaa", sum := "8fb8289fe9900127aa4c8c125cce3574858c28ccd19d1c82730deaf36d13d190", func := "election/electionlaw37.MartingaleLimit", spec := "martingaleLimit", apart := false, narrowed := true }
def MartingaleLimitUptoSaid : Prop := martingaleLimitUptoRow.holds Try.pinned (OpenSpec.upto martingaleLimitSpec)

/-- 'electionlaw37.MartingaleSteps', WHERE WHAT IT READS IS OF BULK AT MOST 1048576: true; the input reads as it did. -/
def martingaleStepsUptoRow : OpenClaim := { program := "ytlhkjkhbgebgiaa", sum := "8fb8289fe9900127aa4c8c125cce3574858c28ccd19d1c82730deaf36d13d190", func := "election/electionlaw37.MartingaleSteps", spec := "martingaleSteps", apart := false, narrowed := true }
def MartingaleStepsUptoSaid : Prop := martingaleStepsUptoRow.holds Try.pinned (OpenSpec.upto martingaleStepsSpec)

end Rows
end Go.Proofs.Ytlhkjkhbgebgiaa
