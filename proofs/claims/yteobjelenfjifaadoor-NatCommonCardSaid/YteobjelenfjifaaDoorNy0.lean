/- The steps of Text. No program in sight. -/
import Derived.Test.YteobjelenfjifaaDoorNw
namespace Go.Proofs.Nums

theorem text_step {ds : List Nat} {k r p M N : Nat} (hl : ds.length = k) (h : dval ds + 10 ^ k * (r + 10 ^ (p + 1) * M) = N) :
    dval (ds ++ [r % 10]) + 10 ^ (k + 1) * (r / 10 + 10 ^ p * M) = N := by
  have e : r + 10 ^ (p + 1) * M = r % 10 + 10 * (r / 10 + 10 ^ p * M) := by
    have h1 : 10 ^ (p + 1) * M = 10 * (10 ^ p * M) := by rw [Nat.pow_succ, Nat.mul_comm (10 ^ p), Nat.mul_assoc]
    rw [h1]
    generalize 10 ^ p * M = x
    omega
  rw [dval_snoc, hl, ← h, e]
  generalize r / 10 + 10 ^ p * M = x
  rw [Nat.mul_add, Nat.pow_succ, Nat.mul_assoc, Nat.add_assoc]

theorem ten_lt {k E m N d : Nat} (hm : 0 < m) (h : d + 10 ^ k * m = N) (hN : N < 2 ^ E) : k < E := by
  by_cases hk : k < E
  · exact hk
  · exfalso
    have h1 : 2 ^ E ≤ 2 ^ k := Nat.pow_le_pow_right (by omega) (by omega)
    have h2 : 2 ^ k ≤ 10 ^ k := Nat.pow_le_pow_left (by omega) k
    have h3 : 10 ^ k * 1 ≤ 10 ^ k * m := Nat.mul_le_mul_left _ hm
    omega

theorem chunk_eq (m : Nat) : m = m % 1000000000 + 10 ^ 9 * (m / 1000000000) := by
  have := Nat.div_add_mod m 1000000000
  omega

theorem div10_lt {r p : Nat} (h : r < 10 ^ (p + 1)) : r / 10 < 10 ^ p := by
  rw [Nat.pow_succ] at h
  exact Nat.div_lt_of_lt_mul (by omega)

theorem text_end {ds : List Nat} {N k : Nat} (hd : Dig ds) (h : dval ds + 10 ^ k * 0 = N) (h0 : N ≠ 0) : ((ds.map digB).reverse).dropWhile (· == 48) = decB N := by
  rw [dec_bytes _ ds rfl hd]
  have : dval ds = N := by omega
  rw [this]; unfold decB; rw [if_neg h0]

end Go.Proofs.Nums
