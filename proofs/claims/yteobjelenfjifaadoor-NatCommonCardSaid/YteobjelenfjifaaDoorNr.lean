/- Limbs and bits: the steps of From and To. No program in sight. -/
import Derived.Test.YteobjelenfjifaaDoorNq
namespace Go.Proofs.Nums

theorem base_pow (i : Nat) : 4294967296 ^ i = 2 ^ (32 * i) := by
  rw [Nat.pow_mul]

theorem from_step {o : List Bool} {a : List Nat} {i k : Nat} {b : Bool} (hol : o.length = 32 * i + k) (hb : bN b = nth a i / 2 ^ k % 2)
    (hP : bval o = val (a.take i) + 2 ^ (32 * i) * (nth a i % 2 ^ k)) : bval (o ++ [b]) = val (a.take i) + 2 ^ (32 * i) * (nth a i % 2 ^ (k + 1)) := by
  rw [bval_snoc, hol, hP, hb, Nat.mod_pow_succ, Nat.mul_add, Nat.pow_add, Nat.mul_assoc, Nat.add_assoc]

theorem from_end {o : List Bool} {a : List Nat} {i : Nat} (hx : nth a i < 4294967296)
    (hP : bval o = val (a.take i) + 2 ^ (32 * i) * (nth a i % 2 ^ 32)) : bval o = val (a.take (i + 1)) + 2 ^ (32 * (i + 1)) * (nth a (i + 1) % 2 ^ 0) := by
  rw [hP, val_take_succ, Nat.mod_eq_of_lt (by omega), base_pow, Nat.pow_zero, Nat.mod_one, Nat.mul_zero, Nat.add_zero]

theorem nth_bound {o : List Nat} {q m : Nat} (hq : q < o.length) (h : val o < 4294967296 ^ q * m) : nth o q < m := by
  rw [val_split o q hq] at h
  have h1 : 4294967296 ^ q * nth o q < 4294967296 ^ q * m := by
    rw [Nat.mul_add] at h
    omega
  exact Nat.lt_of_mul_lt_mul_left h1

theorem to_lt {o : List Nat} {x : List Bool} {i : Nat} (hq : i / 32 < o.length) (hP : val o = bval (x.take i)) : nth o (i / 32) < 2 ^ (i % 32) := by
  apply nth_bound hq
  rw [hP, base_pow, ← Nat.pow_add, Nat.div_add_mod]
  exact bval_take_lt x i

theorem or_add {x r : Nat} (h : x < 2 ^ r) : x ||| 2 ^ r = x + 2 ^ r := by
  have := Nat.two_pow_add_eq_or_of_lt h 1
  rw [Nat.mul_one, Nat.or_comm] at this
  omega

theorem to_step {o : List Nat} {x : List Bool} {i : Nat} (hq : i / 32 < o.length) (hb : bnth x i = true) (hP : val o = bval (x.take i)) :
    val (o.set (i / 32) (nth o (i / 32) + 2 ^ (i % 32))) = bval (x.take (i + 1)) := by
  have h := val_set o (i / 32) (nth o (i / 32) + 2 ^ (i % 32)) hq
  rw [bval_take_succ, ← hP, hb]
  rw [Nat.mul_add, base_pow, ← Nat.pow_add, Nat.div_add_mod] at h
  simp only [bN, if_true, Nat.mul_one]
  omega

theorem to_skip {o : List Nat} {x : List Bool} {i : Nat} (hb : bnth x i = false) (hP : val o = bval (x.take i)) : val o = bval (x.take (i + 1)) := by
  rw [bval_take_succ, hb, hP]; simp [bN]

theorem to_lim {x r : Nat} (h : x < 2 ^ r) (hr : r < 32) : x + 2 ^ r < 4294967296 := by
  have h1 : 2 ^ (r + 1) ≤ 2 ^ 32 := Nat.pow_le_pow_right (by omega) (by omega)
  have h2 : 2 ^ (r + 1) = 2 ^ r * 2 := Nat.pow_succ ..
  omega

theorem pow_lt32 {r : Nat} (hr : r < 32) : 2 ^ r < 4294967296 := by
  have h1 : 2 ^ r < 2 ^ 32 := Nat.pow_lt_pow_right (by omega) hr
  omega

theorem norm_of_ge {o : List Nat} (hl : Lim o) (h : o.length = 0 ∨ 4294967296 ^ (o.length - 1) ≤ val o) : Norm o := by
  intro he
  rcases h with h | h
  · have : o = [] := List.length_eq_zero_iff.1 h
    subst this; simp at he
  · obtain ⟨y, rfl⟩ := List.getLast?_eq_some_iff.1 he
    rw [val_snoc, Nat.mul_zero, Nat.add_zero, List.length_append, List.length_singleton, Nat.add_sub_cancel] at h
    have := val_lt y (fun z hz => hl z (by simp [hz]))
    omega

theorem to_end {o : List Nat} {n : Nat} (hl : Lim o) (hlen : o.length = ((bitsN n).length + 31) / 32) (hP : val o = n) : o = limbs n := by
  rw [← hP]
  refine (limbs_val o hl (norm_of_ge hl ?_)).symm
  by_cases h0 : n = 0
  · left; rw [hlen, h0, bits_zero]; rfl
  · right
    rw [hP, base_pow]
    refine Nat.le_trans (Nat.pow_le_pow_right (by omega) ?_) (pow_le_bits n h0)
    omega

end Go.Proofs.Nums
