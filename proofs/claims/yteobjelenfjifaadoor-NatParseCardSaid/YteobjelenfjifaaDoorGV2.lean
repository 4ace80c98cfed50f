import Derived.Test.YteobjelenfjifaaDoorGV
import Derived.Test.YteobjelenfjifaaDoorGB
namespace Go.Proofs.YteobjelenfjifaaDoor
open Go.RowKit Go.Proofs.Kit Go.Proofs.Nums

/-- The length in bits of a number of L limbs. -/
theorem num_bits {w : World} {v : Value} {n L : Nat} (h : Num w v n L) : (bitsN n).length ≤ 32 * L := by
  refine bits_len_le _ _ ?_
  have := h.lt
  rw [base_pow] at this; exact this

theorem from_num {v : Value} {n L : Nat} {w : World} (h : Num w v n L) (hL : L ≤ 1000) :
    Calls Tryd.prog 17 #[v] w fun e w' => ∃ v', e = .returned v' ∧ BitAt w' v' (bitsN n) ∧ Below w.heap.size w w' := by
  obtain ⟨a, h1, rfl, h3⟩ := h
  exact from_any v a w h1 (by omega)

theorem cmp_less {va vb : Value} {n m L M : Nat} {w : World} (ha : Num w va n L) (hb : Num w vb m M) (hL : L ≤ 1000000) (hM : M ≤ 1000000) (h : n < m) :
    Calls Tryd.prog 27 #[va, vb] w fun e w' => e = .returned (.int .i64 (-1)) ∧ Below w.heap.size w w' := by
  have := cmp_num ha hb hL hM
  rw [cmpN_lt h] at this; exact this

theorem cmp_same {va vb : Value} {n m L M : Nat} {w : World} (ha : Num w va n L) (hb : Num w vb m M) (hL : L ≤ 1000000) (hM : M ≤ 1000000) (h : n = m) :
    Calls Tryd.prog 27 #[va, vb] w fun e w' => e = .returned (.int .i64 0) ∧ Below w.heap.size w w' := by
  have := cmp_num ha hb hL hM
  rw [cmpN_eq h] at this; exact this

theorem cmp_ge {va vb : Value} {n m L M : Nat} {w : World} (ha : Num w va n L) (hb : Num w vb m M) (hL : L ≤ 1000000) (hM : M ≤ 1000000) (h : m ≤ n) :
    Calls Tryd.prog 27 #[va, vb] w fun e w' => ∃ c : Int, 0 ≤ c ∧ c ≤ 1 ∧ e = .returned (.int .i64 c) ∧ Below w.heap.size w w' :=
  (cmp_num ha hb hL hM).mono fun e w' ⟨h1, h2⟩ => ⟨cmpN n m, by unfold cmpN; rw [if_neg (by omega)]; split <;> omega, by unfold cmpN; rw [if_neg (by omega)]; split <;> omega, h1, h2⟩


end Go.Proofs.YteobjelenfjifaaDoor
