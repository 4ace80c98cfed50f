/- Walk of MartingaleSteps: the join. -/
import Derived.Test.YtlhkjkhbgebgiaaS10
import Derived.Test.YtlhkjkhbgebgiaaS11
import Derived.Test.YtlhkjkhbgebgiaaS12
namespace Go.Proofs.Ytlhkjkhbgebgiaa
open Go.RowKit Go.Proofs.Kit Go.Proofs.Nums

theorem walk_MartingaleSteps {w : World} (n mg u : Int) (raw : Bool) (v : Value) (l : List Int) (hv : IntsAt w v l) (rv : Value) (ng : Bool) (ra rb : List Nat) (hr : RatL w rv ng ra rb) (a b : Int) :
    Calls Try.prog 7 #[.agg #[.int .i64 n, .int .i64 mg, .int .i64 u], .bool raw, v, rv, .int .i64 a, .int .i64 b] w fun e w' => e = .returned (.bool true) ∧ Below w.heap.size w w' := by
  by_cases h : 4 < ra.length ∨ 4 < rb.length
  · exact steps_long n mg u raw v rv ng ra rb hr h a b
  · cases raw
    · exact steps_made n mg u v l hv rv ng ra rb hr (by omega) (by omega) a b
    · exact steps_raw n mg u v l hv rv ng ra rb hr (by omega) (by omega) a b

end Go.Proofs.Ytlhkjkhbgebgiaa
