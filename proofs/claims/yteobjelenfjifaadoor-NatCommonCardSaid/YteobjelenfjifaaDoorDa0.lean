/- Long division: the guess of a digit, the subtraction of a multiple, the adding back. No program in sight. -/
import Derived.Test.YteobjelenfjifaaDoorNp2
namespace Go.Proofs.Nums

theorem guess_first {top v1 v2 u2 P Ul Vl : Nat} (h1 : 0 < v1) (hu2 : u2 < 4294967296) (hUl : Ul < P) :
    (top * 4294967296 + u2) * P + Ul < (top / v1 + 1) * ((v1 * 4294967296 + v2) * P + Vl) := by
  have a1 : top + 1 ≤ (top / v1 + 1) * v1 := by
    have := Nat.lt_div_mul_add (a := top) h1
    rw [Nat.add_mul, Nat.one_mul]; omega
  generalize top / v1 + 1 = t at *
  have a2 : (top + 1) * (4294967296 * P) ≤ t * v1 * (4294967296 * P) := Nat.mul_le_mul_right _ a1
  have a3 : t * v1 * (4294967296 * P) ≤ t * ((v1 * 4294967296 + v2) * P + Vl) := by
    rw [Nat.mul_assoc]
    refine Nat.mul_le_mul_left _ ?_
    rw [Nat.add_mul, Nat.mul_assoc]
    omega
  have a4 : (top * 4294967296 + u2 + 1) * P ≤ (top + 1) * (4294967296 * P) := by
    rw [← Nat.mul_assoc]
    exact Nat.mul_le_mul_right _ (by omega)
  rw [Nat.add_mul _ 1, Nat.one_mul] at a4
  omega

theorem guess_big {U V q : Nat} (h : U < V * 4294967296) (hq : 4294967296 ≤ q) : U < (q - 1 + 1) * V := by
  rw [Nat.sub_add_cancel (by omega)]
  have := Nat.mul_le_mul_right V hq
  rw [Nat.mul_comm V] at h
  omega

theorem guess_test {top v1 v2 u2 P Ul Vl q r : Nat} (hUl : Ul < P) (hr : q * v1 + r = top) (ht : r * 4294967296 + u2 < q * v2) :
    (top * 4294967296 + u2) * P + Ul < (q - 1 + 1) * ((v1 * 4294967296 + v2) * P + Vl) := by
  have hq : 0 < q := by
    rcases Nat.eq_zero_or_pos q with h | h
    · rw [h, Nat.zero_mul] at ht; omega
    · exact h
  rw [Nat.sub_add_cancel (by omega), Nat.mul_add, ← Nat.mul_assoc]
  have a1 : top * 4294967296 + u2 + 1 ≤ q * (v1 * 4294967296 + v2) := by
    rw [Nat.mul_add, ← Nat.mul_assoc, ← hr, Nat.add_mul]; omega
  have a2 := Nat.mul_le_mul_right P a1
  rw [Nat.add_mul _ 1, Nat.one_mul] at a2
  omega

theorem guess_end {top v1 v2 u2 P Ul Vl q : Nat} (hV : Vl < P) (h1 : 0 < v1) (hq : q ≤ 4294967296) (ht : q * (v1 * 4294967296 + v2) ≤ top * 4294967296 + u2) :
    q * ((v1 * 4294967296 + v2) * P + Vl) ≤ ((top * 4294967296 + u2) * P + Ul) + ((v1 * 4294967296 + v2) * P + Vl) := by
  have a1 := Nat.mul_le_mul_right P ht
  have a2 : q * Vl ≤ 4294967296 * P := Nat.mul_le_mul hq (Nat.le_of_lt hV)
  have a3 : 4294967296 * P ≤ (v1 * 4294967296 + v2) * P := Nat.mul_le_mul_right _ (by omega)
  rw [Nat.mul_add, ← Nat.mul_assoc]
  omega

/-- The loop of guess is left with the test false. -/
theorem guess_left {top v1 v2 u2 q r : Nat} (hr : q * v1 + r = top) (ht : q * v2 ≤ r * 4294967296 + u2) : q * (v1 * 4294967296 + v2) ≤ top * 4294967296 + u2 := by
  rw [Nat.mul_add, ← Nat.mul_assoc, ← hr, Nat.add_mul]; omega

/-- The loop of guess is left by the break. -/
theorem guess_break {top v1 v2 u2 q r : Nat} (hr : q * v1 + r = top) (hb : 4294967296 ≤ r) (hv2 : v2 < 4294967296) (hq : q ≤ 4294967296) : q * (v1 * 4294967296 + v2) ≤ top * 4294967296 + u2 := by
  refine guess_left hr ?_
  have h1 : q * v2 ≤ 4294967296 * 4294967296 := Nat.mul_le_mul hq (by omega)
  omega

/-- q is a limb when the break is taken. -/
theorem guess_lt {top v1 q r : Nat} (hr : q * v1 + r = top) (hb : 4294967296 ≤ r) (ht : top < v1 * 4294967296 + 4294967296) : q < 4294967296 := by
  rcases Nat.lt_or_ge q 4294967296 with h | h
  · exact h
  · have := Nat.mul_le_mul_right v1 h
    rw [Nat.mul_comm v1] at ht
    omega

/-- The first guess. -/
theorem guess_le {top v1 : Nat} (h1 : 2147483648 ≤ v1) (ht : top < v1 * 4294967296 + 4294967296) : top / v1 ≤ 4294967297 := by
  have : top / v1 < 4294967298 := by
    rw [Nat.div_lt_iff_lt_mul (by omega)]
    omega
  omega

theorem guess_top0 {a b y x z u : Nat} (h1 : y < z) (h2 : z ≤ x) (h : x * a + u + b < y * a) : False := by
  have h3 : y * a ≤ x * a := Nat.mul_le_mul_right _ (by omega)
  omega

theorem guess_top {top v1 v2 u2 P Ul Vl : Nat} (hv2 : v2 < 4294967296) (hVl : Vl < P) (h : (top * 4294967296 + u2) * P + Ul < ((v1 * 4294967296 + v2) * P + Vl) * 4294967296) : top < v1 * 4294967296 + 4294967296 := by
  rcases Nat.lt_or_ge top (v1 * 4294967296 + 4294967296) with h0 | h0
  · exact h0
  · exfalso
    have h1 : (v1 * 4294967296 + v2) * P + Vl < (v1 * 4294967296 + 4294967296) * P := by
      have : (v1 * 4294967296 + v2 + 1) * P ≤ (v1 * 4294967296 + 4294967296) * P := Nat.mul_le_mul_right _ (by omega)
      rw [Nat.add_mul _ 1, Nat.one_mul] at this
      exact Nat.lt_of_lt_of_le (Nat.add_lt_add_left hVl _) this
    have h2 : (v1 * 4294967296 + 4294967296) * P ≤ top * P := Nat.mul_le_mul_right _ h0
    rw [Nat.add_mul (top * 4294967296), Nat.mul_right_comm top] at h
    exact guess_top0 h1 h2 h

theorem val_drop (l : List Nat) (k : Nat) (h : k < l.length) : val (l.drop k) = nth l k + 4294967296 * val (l.drop (k + 1)) := by
  rw [List.drop_eq_getElem_cons h, val, nth_lt h]

theorem val_div (l : List Nat) (hl : Lim l) (k : Nat) (hk : k ≤ l.length) : val (l.drop k) = val l / 4294967296 ^ k := by
  have h1 := val_take_lt l hl k hk
  rw [val_take_drop l k, List.length_take, Nat.min_eq_left hk, Nat.add_mul_div_left _ _ (Nat.pow_pos (by omega)), Nat.div_eq_of_lt h1, Nat.zero_add]

theorem nth_drop (l : List Nat) (j i : Nat) : nth (l.drop j) i = nth l (j + i) := by
  unfold nth; rw [List.getD_eq_getElem?_getD, List.getD_eq_getElem?_getD, List.getElem?_drop]

/-- The divisor by its two top limbs. -/
theorem val_two (v : List Nat) (hv : 2 ≤ v.length) : val v = (nth v (v.length - 1) * 4294967296 + nth v (v.length - 2)) * 4294967296 ^ (v.length - 2) + val (v.take (v.length - 2)) := by
  obtain ⟨n, hn⟩ : ∃ n, v.length = n + 2 := ⟨v.length - 2, by omega⟩
  rw [hn]
  have e := val_take_drop v n
  rw [List.length_take, Nat.min_eq_left (by omega), val_drop v n (by omega), val_drop v (n + 1) (by omega), List.drop_of_length_le (by omega)] at e
  rw [e]
  simp only [val, Nat.mul_zero, Nat.add_zero, Nat.add_sub_cancel, show n + 2 - 1 = n + 1 from rfl]
  rw [Nat.mul_comm (4294967296 ^ n), Nat.add_comm (val _)]
  congr 2
  omega

/-- The window of the dividend by its three top limbs. -/
theorem val_three (u : List Nat) (j n : Nat) (hn : 2 ≤ n) (hj : j + n < u.length) (hz : val (u.drop (j + n + 1)) = 0) :
    val (u.drop j) = ((nth u (j + n) * 4294967296 + nth u (j + n - 1)) * 4294967296 + nth u (j + n - 2)) * 4294967296 ^ (n - 2) + val ((u.drop j).take (n - 2)) := by
  obtain ⟨m, rfl⟩ : ∃ m, n = m + 2 := ⟨n - 2, by omega⟩
  have e := val_take_drop (u.drop j) m
  rw [List.length_take, Nat.min_eq_left (by rw [List.length_drop]; omega), List.drop_drop, val_drop u (j + m) (by omega), val_drop u (j + m + 1) (by omega), val_drop u (j + m + 1 + 1) (by omega),
    show j + m + 1 + 1 + 1 = j + (m + 2) + 1 by omega, hz] at e
  rw [show j + (m + 2) - 1 = j + m + 1 by omega, show j + (m + 2) - 2 = j + m by omega, show j + (m + 2) = j + m + 1 + 1 by omega, show m + 2 - 2 = m by omega, e]
  simp only [Nat.mul_zero, Nat.add_zero]
  rw [Nat.mul_comm (4294967296 ^ m), Nat.add_comm (val _)]
  congr 2
  omega

/-- A limb of the subtraction of a multiple. -/
theorem msub_step {x u0 v : List Nat} {i j q c bo p s : Nat} (hk : i + j < x.length) (hp : p = q * nth v i + c) (hs : s + p % 4294967296 + bo = 4294967296 + nth x (i + j)) (hs1 : s / 4294967296 ≤ 1)
    (h : val x + 4294967296 ^ j * (q * val (v.take i)) = val u0 + 4294967296 ^ (i + j) * (c + bo)) :
    val (x.set (i + j) (s % 4294967296)) + 4294967296 ^ j * (q * val (v.take (i + 1))) = val u0 + 4294967296 ^ (i + 1 + j) * (p / 4294967296 + (1 - s / 4294967296)) := by
  have e := val_set x (i + j) (s % 4294967296) hk
  rw [val_take_succ v, Nat.mul_add, Nat.mul_add (4294967296 ^ j), show i + 1 + j = i + j + 1 by omega, Nat.pow_succ, Nat.mul_assoc (4294967296 ^ (i + j))]
  have e1 : s % 4294967296 + q * nth v i + c + bo = nth x (i + j) + 4294967296 * (p / 4294967296 + (1 - s / 4294967296)) := by
    rw [← hp.symm.trans rfl] at *
    omega
  have e2 : 4294967296 ^ j * (q * (4294967296 ^ i * nth v i)) = 4294967296 ^ (i + j) * (q * nth v i) := by
    rw [Nat.pow_add, Nat.mul_comm (4294967296 ^ i) (4294967296 ^ j), Nat.mul_assoc, Nat.mul_left_comm q]
  rw [e2]
  have e3 := congrArg (fun z => 4294967296 ^ (i + j) * z) e1
  simp only [Nat.mul_add] at e3 h ⊢
  omega

/-- A limb of the adding back. -/
theorem addb_step {x u0 v : List Nat} {i j c s : Nat} (hk : i + j < x.length) (hs : s = nth x (i + j) + nth v i + c)
    (h : val x + 4294967296 ^ (i + j) * c = val u0 + 4294967296 ^ j * val (v.take i)) :
    val (x.set (i + j) (s % 4294967296)) + 4294967296 ^ (i + 1 + j) * (s / 4294967296) = val u0 + 4294967296 ^ j * val (v.take (i + 1)) := by
  have e := val_set x (i + j) (s % 4294967296) hk
  rw [val_take_succ v, Nat.mul_add (4294967296 ^ j), show i + 1 + j = i + j + 1 by omega, Nat.pow_succ, Nat.mul_assoc (4294967296 ^ (i + j))]
  have e1 : s % 4294967296 + 4294967296 * (s / 4294967296) = nth x (i + j) + nth v i + c := by omega
  have e2 : 4294967296 ^ j * (4294967296 ^ i * nth v i) = 4294967296 ^ (i + j) * nth v i := by
    rw [Nat.pow_add, Nat.mul_comm (4294967296 ^ i) (4294967296 ^ j), Nat.mul_assoc]
  rw [e2]
  have e3 := congrArg (fun z => 4294967296 ^ (i + j) * z) e1
  simp only [Nat.mul_add] at e3 h ⊢
  omega

theorem drop_set_keep {x : List Nat} {j k y : Nat} (h : j < k) : (x.set j y).drop k = x.drop k := List.drop_set_of_lt h

theorem val_drop_lt {x : List Nat} (hl : Lim x) (j n : Nat) (hj : j + n + 1 ≤ x.length) (hz : val (x.drop (j + n + 1)) = 0) : val (x.drop j) < 4294967296 ^ (n + 1) := by
  rw [val_take_drop (x.drop j) (n + 1), List.drop_drop, show j + (n + 1) = j + n + 1 by omega, hz, Nat.mul_zero, Nat.add_zero]
  exact val_take_lt _ (hl.drop j) _ (by rw [List.length_drop]; omega)

theorem div_shift {A B p m : Nat} (hp : 0 < p) (h : A = B + p * m) : A / p = B / p + m := by
  rw [h, Nat.add_mul_div_left _ _ hp]

/-- The end of a round of the long division, no borrow. -/
theorem long_sub {x u v : List Nat} {j q : Nat} (hx : Lim x) (hu : Lim u) (hlen : x.length = u.length) (hj : j ≤ u.length)
    (h : val x + 4294967296 ^ j * (q * val v) = val u) (hU : val (u.drop j) < (q + 1) * val v) : val (x.drop j) < val v := by
  rw [val_div u hu j hj] at hU
  rw [val_div x hx j (by omega)]
  have := div_shift (Nat.pow_pos (n := j) (by omega : 0 < 4294967296)) h.symm
  rw [this, Nat.add_mul, Nat.one_mul] at hU
  omega

/-- A borrow says that the guess was one too great. -/
theorem long_borrow {x u v : List Nat} {j n q : Nat} (hx : Lim x) (hu : Lim u) (hlen : x.length = u.length) (hj : j + n + 1 ≤ u.length)
    (hz : val (x.drop (j + n + 1)) = 0)
    (h : val x + 4294967296 ^ j * (q * val v) = val u + 4294967296 ^ (n + 1 + j)) : val (u.drop j) < q * val v ∧ val (x.drop j) + q * val v = val (u.drop j) + 4294967296 ^ (n + 1) := by
  have hlt := val_drop_lt hx j n (by omega) hz
  rw [val_div x hx j (by omega)] at hlt ⊢
  rw [val_div u hu j (by omega)]
  have hp := (Nat.pow_pos (n := j) (by omega : 0 < 4294967296))
  have h1 := congrArg (fun z => z / 4294967296 ^ j) h
  rw [Nat.add_mul_div_left _ _ hp, Nat.pow_add, Nat.mul_comm (4294967296 ^ (n + 1)), Nat.add_mul_div_left _ _ hp] at h1
  omega

/-- Adding back. -/
theorem long_back {x y u v : List Nat} {j n q c : Nat} (hy : Lim y) (hx : Lim x) (hlen : x.length = u.length) (hlen2 : y.length = u.length) (hj : j + n + 1 ≤ u.length)
    (hzy : val (y.drop (j + n + 1)) = 0)
    (hb : val (u.drop j) < q * val v ∧ val (x.drop j) + q * val v = val (u.drop j) + 4294967296 ^ (n + 1))
    (h : val x + 4294967296 ^ j * (q * val v) = val u + 4294967296 ^ (n + 1 + j))
    (hq : q * val v ≤ val (u.drop j) + val v) (hc : c ≤ 1)
    (ha : val y + 4294967296 ^ (n + 1 + j) * c = val x + 4294967296 ^ j * val v) :
    0 < q ∧ val y + 4294967296 ^ j * ((q - 1) * val v) = val u ∧ val (y.drop j) < val v := by
  have hq0 : 0 < q := by
    rcases Nat.eq_zero_or_pos q with h0 | h0
    · rw [h0, Nat.zero_mul] at hb; omega
    · exact h0
  have hlt := val_drop_lt hy j n (by omega) hzy
  have hp := (Nat.pow_pos (n := j) (by omega : 0 < 4294967296))
  have hay := ha
  rw [Nat.pow_add, Nat.mul_comm (4294967296 ^ (n + 1)), Nat.mul_assoc] at hay
  have h1 := congrArg (fun z => z / 4294967296 ^ j) hay
  rw [Nat.add_mul_div_left _ _ hp, Nat.add_mul_div_left _ _ hp, ← val_div x hx j (by omega), ← val_div y hy j (by omega)] at h1
  obtain ⟨hb1, hb2⟩ := hb
  have hc1 : c = 1 := by
    have hc2 : c = 0 ∨ c = 1 := by omega
    rcases hc2 with h0 | h0
    · rw [h0, Nat.mul_zero, Nat.add_zero] at h1; omega
    · exact h0
  subst hc1
  obtain ⟨p, rfl⟩ : ∃ p, q = p + 1 := ⟨q - 1, by omega⟩
  rw [Nat.add_sub_cancel]
  rw [Nat.add_mul, Nat.one_mul] at hb1 hb2 hq
  rw [Nat.add_mul, Nat.one_mul, Nat.mul_add] at h
  refine ⟨hq0, by omega, by omega⟩

/-- The digit is laid. -/
theorem long_digit {o u x v : List Nat} {j q U : Nat} (hj : j < o.length) (hI : val (o.drop (j + 1)) * val v * 4294967296 ^ (j + 1) + val u = U)
    (h : val x + 4294967296 ^ j * (q * val v) = val u) : val ((o.set j q).drop j) * val v * 4294967296 ^ j + val x = U := by
  rw [val_drop _ _ (by rw [List.length_set]; exact hj), nth_set_self hj, List.drop_set_of_lt (by omega), Nat.add_mul, Nat.add_mul, ← hI, ← h, Nat.pow_succ]
  have e1 : q * val v * 4294967296 ^ j = 4294967296 ^ j * (q * val v) := Nat.mul_comm _ _
  have e2 : 4294967296 * val (o.drop (j + 1)) * val v * 4294967296 ^ j = val (o.drop (j + 1)) * val v * (4294967296 ^ j * 4294967296) := by
    rw [Nat.mul_assoc 4294967296, Nat.mul_assoc 4294967296, Nat.mul_comm 4294967296, Nat.mul_assoc]
  rw [e1, e2]; omega

/-- The next window. -/
theorem long_window {u v : List Nat} {j : Nat} (hu : Lim u) (hj : j < u.length) (h : val (u.drop (j + 1)) < val v) : val (u.drop j) < val v * 4294967296 := by
  rw [val_drop u j hj]
  have := hu.nth j
  omega

theorem long_zero {u v : List Nat} (hv : Lim v) {k : Nat} (hk : k + v.length ≤ u.length) (h : val (u.drop k) < val v) : val (u.drop (k + v.length)) = 0 := by
  have h1 := val_lt v hv
  have h2 := val_take_drop (u.drop k) v.length
  rw [List.drop_drop, List.length_take, Nat.min_eq_left (by rw [List.length_drop]; omega)] at h2
  rcases Nat.eq_zero_or_pos (val (u.drop (k + v.length))) with h3 | h3
  · exact h3
  · have := Nat.mul_le_mul_left (4294967296 ^ v.length) h3
    omega

end Go.Proofs.Nums
