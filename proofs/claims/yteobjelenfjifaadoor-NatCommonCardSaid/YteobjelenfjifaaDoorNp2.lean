/- Numbers as lists of limbs, second part. -/
import Derived.Test.YteobjelenfjifaaDoorNp
namespace Go.Proofs.Nums

theorem nth_zero {l : List Nat} {j : Nat} (h : val l < 4294967296 ^ j) : nth l j = 0 := by
  by_cases hj : j < l.length
  · rw [val_split l j hj, Nat.mul_add] at h
    rcases Nat.eq_zero_or_pos (nth l j) with h0 | h0
    · exact h0
    · have : 4294967296 ^ j * 1 ≤ 4294967296 ^ j * nth l j := Nat.mul_le_mul_left _ h0
      omega
  · exact nth_ge (by omega)

/-- The end of a round of the multiplication. -/
theorem mul_end {o x y : List Nat} {k c : Nat} (hk : k + y.length < o.length) (hz : nth o (k + y.length) = 0)
    (h : val o + 4294967296 ^ (k + y.length) * c = val (x.take k) * val y + 4294967296 ^ k * (nth x k * val (y.take y.length))) :
    val (o.set (k + y.length) c) = val (x.take (k + 1)) * val y := by
  have e := val_set o (k + y.length) c hk
  rw [hz, Nat.mul_zero, Nat.add_zero, h, List.take_length] at e
  rw [e, val_take_succ, Nat.add_mul, Nat.mul_assoc]

end Go.Proofs.Nums
