import Derived.Test.YteobjelenfjifaaDoorVa
namespace Go.Proofs.YteobjelenfjifaaDoor
open Go.RowKit Go.Proofs.Kit Go.Proofs.Nums

theorem eqN_num {n m : Nat} : eqN (limbs n) (limbs m) = decide (n = m) := by
  unfold eqN
  by_cases h : n = m
  · rw [h]; simp
  · rw [decide_eq_false h, decide_eq_false_iff_not]
    intro h'
    apply h
    rw [← val_limbs n, h', val_limbs]

theorem eq_num {va vb : Value} {n m L M : Nat} {w : World} (ha : Nrm w va n L) (hb : Nrm w vb m M) (hL : L ≤ 1000000) (hM : M ≤ 1000000) (h : n = m) :
    Calls Tryd.prog 19 #[va, vb] w fun e w' => e = .returned (.bool true) ∧ Below w.heap.size w w' := by
  have := req_any va vb _ _ w ha.1 hb.1 (Nat.le_trans ha.len hL) (Nat.le_trans hb.len hM)
  rw [eqN_num, decide_eq_true h] at this; exact this

theorem short_num {va : Value} {a : List Nat} {w : World} (ha : NatAt w va a) (k : Nat) (hk : k ≤ 1000000) :
    ∃ n, Calls Tryd.prog 14 #[va, .int .i64 k] w fun e w' => ∃ v', e = .returned v' ∧ Num w v' n k ∧ w = w' := by
  refine ⟨val (a.take k), (short_any va a k w ha hk).mono ?_⟩
  rintro e w1 ⟨v1, rfl, hv1, rfl⟩
  exact ⟨v1, rfl, Num.of hv1 (by rw [List.length_take]; omega), rfl⟩

end Go.Proofs.YteobjelenfjifaaDoor
