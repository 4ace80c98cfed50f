/- Scaling by a number and an addend, powers of ten. No program in sight. -/
import Derived.Test.YteobjelenfjifaaDoorNy0
namespace Go.Proofs.Nums

theorem scale_step {o a : List Nat} {k c m n s : Nat} (hk : o.length = k) (hs : s = nth a k * m + c)
    (h : val o + 4294967296 ^ k * c = val (a.take k) * m + n) :
    val (o ++ [s % 4294967296]) + 4294967296 ^ (k + 1) * (s / 4294967296) = val (a.take (k + 1)) * m + n := by
  rw [val_snoc, hk, val_take_succ, Nat.add_mul, Nat.pow_succ, Nat.mul_assoc]
  have e : s % 4294967296 + 4294967296 * (s / 4294967296) = nth a k * m + c := by omega
  have e2 := congrArg (fun x => 4294967296 ^ k * x) e
  simp only [Nat.mul_add] at e2
  rw [Nat.mul_assoc] 
  omega

theorem scale_lt {x m c : Nat} (hx : x < 4294967296) (hm : m ≤ 1000000000) (hc : c < 4294967296) : x * m + c < 18446744073709551616 ∧ (x * m + c) / 4294967296 < 4294967296 := by
  have h1 : x * m ≤ 4294967295 * 1000000000 := Nat.mul_le_mul (by omega) hm
  omega

theorem dec_pow (n : Nat) : decB (10 ^ n) = 49 :: List.replicate n 48 := by
  have h0 : 10 ^ n ≠ 0 := Nat.ne_of_gt (Nat.pow_pos (by omega))
  have hd : Dig (List.replicate n 0 ++ [1]) := Dig.snoc (fun y hy => by rw [(List.mem_replicate.1 hy).2]; omega) (by omega)
  have hz : ∀ n, dval (List.replicate n 0) = 0 := by
    intro n
    induction n with
    | zero => rfl
    | succ n ih => rw [List.replicate_succ, dval, ih]
  have hv : dval (List.replicate n 0 ++ [1]) = 10 ^ n := by rw [dval_snoc, hz, List.length_replicate]; omega
  unfold decB
  rw [if_neg h0, ← hv, dec_dval _ hd (by simp)]
  rw [List.map_append, List.map_replicate, List.reverse_append, List.reverse_replicate]
  rfl

end Go.Proofs.Nums
