/- The normalising shift of the long division. No program in sight. -/
import Derived.Test.YteobjelenfjifaaDoorDb0
import Derived.Lib.BitFns
namespace Go.Proofs.Nums

theorem bitLen_bits (f x : Nat) (h : x < 2 ^ f) : Lib.bitLenAux f x = (bitsN x).length := by
  induction f generalizing x with
  | zero => have : x = 0 := by simpa using h
            subst this; rfl
  | succ f ih =>
    unfold Lib.bitLenAux
    by_cases h0 : x = 0
    · subst h0; rfl
    · rw [if_neg h0, bits_pos x h0, List.length_cons, ih (x / 2) (by rw [Nat.pow_succ] at h; omega)]
      omega

theorem bitLen_len (x : Nat) (h : x < 4294967296) : Lib.bitLen x = (bitsN x).length := bitLen_bits 64 x (by omega)

/-- The count of the zeros ahead of a limb. -/
theorem lz_bounds {x : Nat} (h0 : 0 < x) (h : x < 4294967296) : ∃ s : Nat, s < 32 ∧ (32 - (Lib.bitLen x : Int)) = (s : Int) ∧ 2147483648 ≤ x * 2 ^ s ∧ x * 2 ^ s < 4294967296 := by
  rw [bitLen_len x h]
  have h1 := bits_len_le x 32 (by omega)
  have h2 : 0 < (bitsN x).length := List.length_pos_iff.2 fun e => by have := bits_eq_nil.1 e; omega
  have h3 := bits_lt_pow x
  have h4 := pow_le_bits x (by omega)
  obtain ⟨k, hk⟩ : ∃ k, (bitsN x).length = k + 1 := ⟨(bitsN x).length - 1, by omega⟩
  rw [hk] at h1 h3 h4 ⊢
  rw [Nat.add_sub_cancel] at h4
  refine ⟨31 - k, by omega, by omega, ?_, ?_⟩
  · have : 2 ^ k * 2 ^ (31 - k) ≤ x * 2 ^ (31 - k) := Nat.mul_le_mul_right _ h4
    rw [← Nat.pow_add, show k + (31 - k) = 31 by omega] at this
    omega
  · have : x * 2 ^ (31 - k) < 2 ^ (k + 1) * 2 ^ (31 - k) := Nat.mul_lt_mul_of_pos_right h3 (Nat.pow_pos (by omega))
    rw [← Nat.pow_add, show k + 1 + (31 - k) = 32 by omega] at this
    omega

theorem top_le (y : List Nat) (h : 0 < y.length) : 4294967296 ^ (y.length - 1) * nth y (y.length - 1) ≤ val y := by
  rw [val_split y (y.length - 1) (by omega), Nat.mul_add]
  omega

theorem top_lt (y : List Nat) (hy : Lim y) (h : 0 < y.length) : val y < 4294967296 ^ (y.length - 1) * (nth y (y.length - 1) + 1) := by
  have h1 := val_take_lt y hy (y.length - 1) (by omega)
  rw [val_split y (y.length - 1) (by omega), show y.length - 1 + 1 = y.length by omega, List.drop_length]
  simp only [val, Nat.mul_zero, Nat.add_zero, Nat.mul_add, Nat.mul_one]
  omega

theorem shift_len {m s : Nat} (y : List Nat) (hy : y = limbs m) (h0 : 0 < y.length) (ht : nth y (y.length - 1) * 2 ^ s < 4294967296) (hs : s ≤ 32) : (limbs (m * 2 ^ s)).length = y.length := by
  have hv : val y = m := by rw [hy, val_limbs]
  have hl : Lim y := by rw [hy]; exact limbs_lim m
  have hp : 0 < 2 ^ s := Nat.pow_pos (by omega)
  apply Nat.le_antisymm
  · apply limbs_len_le
    have h1 := top_lt y hl h0
    rw [hv] at h1
    have h2 : m * 2 ^ s < 4294967296 ^ (y.length - 1) * (nth y (y.length - 1) + 1) * 2 ^ s := Nat.mul_lt_mul_of_pos_right h1 hp
    have h3 : (nth y (y.length - 1) + 1) * 2 ^ s ≤ 4294967296 := by
      rw [← pow32 hs] at ht ⊢
      rw [Nat.mul_comm (2 ^ s)] at ht ⊢
      have h4 := Nat.lt_of_mul_lt_mul_right ht
      exact Nat.mul_le_mul_right _ h4
    have h5 : 4294967296 ^ y.length = 4294967296 ^ (y.length - 1) * 4294967296 := by rw [← Nat.pow_succ]; congr 1; omega
    rw [h5]
    rw [Nat.mul_assoc] at h2
    exact Nat.lt_of_lt_of_le h2 (Nat.mul_le_mul_left _ h3)
  · rcases Nat.lt_or_ge (limbs (m * 2 ^ s)).length y.length with h | h
    · exfalso
      rw [hy] at h
      have h1 := len_lt h
      have h2 : m * 1 ≤ m * 2 ^ s := Nat.mul_le_mul_left _ hp
      omega
    · exact h

theorem shift_top {m s : Nat} (y z : List Nat) (hy : y = limbs m) (hz : z = limbs (m * 2 ^ s)) (h0 : 0 < y.length) (hl : z.length = y.length) (ht : 2147483648 ≤ nth y (y.length - 1) * 2 ^ s) : 2147483648 ≤ nth z (z.length - 1) := by
  have hv : val y = m := by rw [hy, val_limbs]
  have hvz : val z = m * 2 ^ s := by rw [hz, val_limbs]
  have hlz : Lim z := by rw [hz]; exact limbs_lim _
  have h1 := top_le y h0
  have h2 := top_lt z hlz (by omega)
  rw [hv] at h1
  rw [hvz, hl] at h2
  rw [hl]
  have h3 : 4294967296 ^ (y.length - 1) * nth y (y.length - 1) * 2 ^ s ≤ m * 2 ^ s := Nat.mul_le_mul_right _ h1
  rw [Nat.mul_assoc] at h3
  have h4 : 4294967296 ^ (y.length - 1) * 2147483648 ≤ 4294967296 ^ (y.length - 1) * (nth y (y.length - 1) * 2 ^ s) := Nat.mul_le_mul_left _ ht
  have h5 : 4294967296 ^ (y.length - 1) * 2147483648 < 4294967296 ^ (y.length - 1) * (nth z (y.length - 1) + 1) := by omega
  have := Nat.lt_of_mul_lt_mul_left h5
  omega

theorem long_start {n m s X Y : Nat} {u : List Nat} (hu : Lim u) (hul : u.length = X + 1) (hv : val u = n * 2 ^ s) (hn : n < 4294967296 ^ X) (hm : 4294967296 ^ (Y - 1) ≤ m) (hY : 1 ≤ Y) (hXY : Y ≤ X) :
    val (u.drop (X + 1 - Y)) < m * 2 ^ s := by
  have hp : 0 < 2 ^ s := Nat.pow_pos (by omega)
  rw [val_div u hu _ (by omega), hv, Nat.div_lt_iff_lt_mul (Nat.pow_pos (by omega))]
  have h1 : n * 2 ^ s < 4294967296 ^ X * 2 ^ s := Nat.mul_lt_mul_of_pos_right hn hp
  have h2 : 4294967296 ^ X = 4294967296 ^ (Y - 1) * 4294967296 ^ (X + 1 - Y) := by rw [← Nat.pow_add]; congr 1; omega
  have h3 : 4294967296 ^ (Y - 1) * 4294967296 ^ (X + 1 - Y) * 2 ^ s = 4294967296 ^ (Y - 1) * 2 ^ s * 4294967296 ^ (X + 1 - Y) := Nat.mul_right_comm _ _ _
  have h4 : 4294967296 ^ (Y - 1) * 2 ^ s * 4294967296 ^ (X + 1 - Y) ≤ m * 2 ^ s * 4294967296 ^ (X + 1 - Y) := Nat.mul_le_mul_right _ (Nat.mul_le_mul_right _ hm)
  rw [h2, h3] at h1
  omega

theorem long_end {n m s o r : Nat} (h : o * (m * 2 ^ s) + r = n * 2 ^ s) (hr : r < m * 2 ^ s) : o = n / m ∧ r / 2 ^ s = n % m := by
  have hp : 0 < 2 ^ s := Nat.pow_pos (by omega)
  have h1 : n * 2 ^ s / (m * 2 ^ s) = o := by
    rw [← h, Nat.mul_comm, Nat.mul_add_div (by omega), Nat.div_eq_of_lt hr]; rfl
  have h2 : n * 2 ^ s % (m * 2 ^ s) = r := by
    rw [← h, Nat.mul_comm, Nat.mul_add_mod, Nat.mod_eq_of_lt hr]
  rw [Nat.mul_div_mul_right _ _ hp] at h1
  rw [Nat.mul_mod_mul_right] at h2
  refine ⟨h1.symm, ?_⟩
  rw [← h2, Nat.mul_div_cancel _ hp]

end Go.Proofs.Nums
