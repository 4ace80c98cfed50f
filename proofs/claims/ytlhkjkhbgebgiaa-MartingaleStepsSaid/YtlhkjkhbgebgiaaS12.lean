/- Walk of MartingaleSteps: a risk limit of more than four limbs. -/
import Derived.Test.YtlhkjkhbgebgiaaS9
namespace Go.Proofs.Ytlhkjkhbgebgiaa
open Go.RowKit Go.Proofs.Kit Go.Proofs.Nums

set_option maxRecDepth 100000 in
set_option maxHeartbeats 4000000 in
theorem steps_long {w : World} (n mg u : Int) (raw : Bool) (v : Value) (rv : Value) (ng : Bool) (ra rb : List Nat) (hr : RatL w rv ng ra rb) (h : 4 < ra.length ∨ 4 < rb.length) (a b : Int) :
    Calls Try.prog 7 #[.agg #[.int .i64 n, .int .i64 mg, .int .i64 u], .bool raw, v, rv, .int .i64 a, .int .i64 b] w fun e w' => e = .returned (.bool true) ∧ Below w.heap.size w w' := by
  obtain ⟨vn, vd, rfl, gn, gd⟩ := hr
  obtain ⟨p1, k1, rfl⟩ := gn.shape
  obtain ⟨p2, k2, rfl⟩ := gd.shape
  obtain ⟨l1, hl1⟩ : ∃ k, ra.length = k := ⟨_, rfl⟩
  obtain ⟨l2, hl2⟩ : ∃ k, rb.length = k := ⟨_, rfl⟩
  rw [hl1, hl2] at h
  rw [hl1, hl2]
  obtain ⟨w2, hw2⟩ : ∃ x, (w.alloc (.cells #[.int .i64 n, .int .i64 mg, .int .i64 u] 24)) = x := ⟨_, rfl⟩
  have b2 : Below w.heap.size w w2 := by rw [← hw2]; exact (Below.refl _ _).alloc (Nat.le_refl _) _
  have s2 : w2.heap.size = w.heap.size + 1 := by rw [← hw2]; simp
  obtain ⟨w3, hw3⟩ : ∃ x, (w2.alloc (.cells #[.bool ng, .slice p1 l1 k1, .slice p2 l2 k2] 30)) = x := ⟨_, rfl⟩
  have b3 : Below w2.heap.size w2 w3 := by rw [← hw3]; exact (Below.refl _ _).alloc (Nat.le_refl _) _
  have hB3 : Below w.heap.size w w3 := bel2' b2 b3
  have k3 : Blk (w.heap.size + 1) #[.bool ng, .slice p1 l1 k1, .slice p2 l2 k2] w3 := by rw [← hw3, ← s2]; exact Blk.new _ _ _
  obtain ⟨n0, n1', n2'⟩ := k3.three
  clear gn gd hl1 hl2 b2 b3 k3
  by_cases g1 : (4 : Int) < (l1 : Int)
  · clear h
    go_enter Try.func7, Try.ntmps7
    go_wp2_with (go_at_call 15; ((with_reducible refine (awake_c _).mono ?_); rintro e w8 ⟨rfl, hb8⟩; have hB8 := bel2' hB3 hb8))
    go_ret
    exact ⟨rfl, hB8⟩
  · have g2 : (4 : Int) < (l2 : Int) := by omega
    clear h
    go_enter Try.func7, Try.ntmps7
    go_wp2_with (go_at_call 15; ((with_reducible refine (awake_c _).mono ?_); rintro e w8 ⟨rfl, hb8⟩; have hB8 := bel2' hB3 hb8))
    go_ret
    exact ⟨rfl, hB8⟩

end Go.Proofs.Ytlhkjkhbgebgiaa
